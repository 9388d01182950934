/- The abstract machine, part 8b: append to the head of a row, and of zeros. -/
import Derived.Test.YthpjicimlandeaaGreatDoorAbAppend
set_option linter.unusedVariables false
set_option linter.unusedSimpArgs false
namespace Go.Ab
open Go

/-- A row, cut to what a slice of its head has. -/
def truncBase (σ : Store) : AV → Store
  | .ms id _ 0 len => match σ.objs id with
    | some (.row e sz es) => if len < es.length then σ.set id (.row e sz (es.take len)) else σ
    | _ => σ
  | _ => σ

theorem Rel.trunc {G : Ghost} {σ : Store} {w : World} (h : Rel G σ w) {id : Nat} {e : TypeId} {sz : Nat} {es : List (List AV)} (ho : σ.objs id = some (.row e sz es)) (n : Nat) (hn : n < es.length) :
    Rel G (σ.set id (.row e sz (es.take n))) w ∧ Fr G σ w G (σ.set id (.row e sz (es.take n))) w := by
  obtain ⟨p, hp, hl⟩ := h.objs id _ ho
  have hv : p.virt = false := by
    rcases hl with ⟨_, e2, s2, h2⟩ | ⟨h2, _⟩
    · cases h2; simp at hn
    · exact h2
  obtain ⟨_, _, cells, hb, hs, hsz, hle, hrow⟩ := h.real ho hp hv
  refine ⟨h.write ho hp hv (.cells cells e (0, 0)) w rfl rfl rfl rfl (fun _ _ => rfl) hb ⟨cells, rfl, hs, hsz, by simp; omega, fun i hi => ?_⟩, Fr.write ho hp hv w rfl (fun _ _ => rfl)⟩
  have hi' : i < es.length := by simp at hi; omega
  have := hrow i hi'
  rw [List.getElem_take]
  exact this

theorem truncBase_ok {G : Ghost} {σ : Store} {w : World} (h : Rel G σ w) (s : AV) : Rel G (truncBase σ s) w ∧ Fr G σ w G (truncBase σ s) w ∧ (truncBase σ s).next = σ.next := by
  unfold truncBase
  split
  · split
    · rename_i ho
      split
      · rename_i hl
        exact ⟨(h.trunc ho _ hl).1, (h.trunc ho _ hl).2, rfl⟩
      · exact ⟨h, .refl _ _ _, rfl⟩
    · exact ⟨h, .refl _ _ _, rfl⟩
  · exact ⟨h, .refl _ _ _, rfl⟩

/-- Zeros, behind nothing. -/
def aZeros (T : Tab) (σ : Store) (id : Nat) (elem : TypeId) (s x : AV) : Option (AV × Store) :=
  match s, x, T elem with
  | .sc (.slice none 0 0), .sc (.int _ n), some ei =>
    if IntKind.i64.wrap n = n ∧ 0 < n ∧ (2 * n.toNat + 1000) * ei.bytes ≤ 2 ^ 48 ∧ n.toNat ≤ 2 ^ 62 ∧ 0 < ei.size then
      some (.ms id ei.size 0 n.toNat, σ.set id (.row elem ei.size (List.replicate n.toNat ei.zeroCells)))
    else none
  | _, _, _ => none

theorem zeroCells_list (zero : Array Value) (n : Nat) : (Builtin.zeroCells zero n).toList = (List.replicate n zero.toList).flatten := by
  have h0 : (List.range zero.size).map (fun i => zero[i % zero.size]!) = zero.toList := by
    apply List.ext_getElem
    · simp
    · intro i h1 h2
      have h3 : i < zero.size := by simpa using h1
      simp [Nat.mod_eq_of_lt h3, h3]
  have key : ∀ n, (List.range (n * zero.size)).map (fun i => zero[i % zero.size]!) = (List.replicate n zero.toList).flatten := by
    intro n
    induction n with
    | zero => simp
    | succ n ih =>
      rw [Nat.succ_mul, Nat.add_comm, List.range_add, List.map_append, h0, List.replicate_succ, List.flatten_cons, ← ih, List.map_map]
      congr 1
      apply List.map_congr_left
      intro i _
      simp
  simp only [Builtin.zeroCells, Array.toList_map, Array.toList_range]
  exact key n

theorem Reps.zeros {G : Ghost} (zs : List Value) : ∀ n, Reps G (List.replicate n (zs.map AV.sc)).flatten (List.replicate n zs).flatten
  | 0 => .nil G
  | n + 1 => by
    simp only [List.replicate_succ, List.flatten_cons]
    refine Reps.append ⟨by simp, fun i h1 h2 => ?_⟩ (Reps.zeros zs n)
    simp only [List.getElem_map]
    exact .sc _

theorem aZeros_ok {P : Program} {T : Tab} (hT : TabOk P T) {G : Ghost} {σ σ' : Store} {w : World} (h : Rel G σ w) {sT xT ty elem : TypeId} {st xi : TI} {k : IntKind} (hsT : T sT = some st) (hu : st.und = .slice elem) (hxT : T xT = some xi) (hxi : xi.und = .int k) {id : Nat} {s x v : AV} {u y : Value} (hs : Rep G s u) (hx : Rep G x y)
    (hid : G.pl id = none) (hlt : id < σ.next) (ha : aZeros T σ id elem s x = some (v, σ')) : VRes G σ w σ' id v ((Builtin.append_ #[sT, xT] ty #[u, y]).run P w) := by
  unfold aZeros at ha
  split at ha
  · rename_i k' n ei hei
    split at ha
    · rename_i hc
      obtain ⟨h1, h2, h3, h4, h5⟩ := hc
      cases ha
      cases hs
      cases hx
      obtain ⟨N, rfl⟩ : ∃ N : Nat, n = N := ⟨n.toNat, by omega⟩
      simp only [Int.toNat_natCast] at *
      obtain ⟨i, hi1, hi2⟩ := run_bytes hT hei w
      have hi1' : ∀ w', (typeInfo elem).run P w' = .ok i w' := fun w' => by
        obtain ⟨j, hj, _⟩ := hT.info elem ei hei
        have : (typeInfo elem).run P w = .ok j w := by simp [typeInfo, hj]
        rw [this] at hi1; cases hi1
        simp [typeInfo, hj]
      have hN : 0 < N := by omega
      have hcap := nextcap_le hN
      have hmul : ∀ m, m ≤ 2 * N + 1000 → m * i.bytes ≤ 2 ^ 48 := fun m hm => by
        rw [hi2]; exact Nat.le_trans (Nat.mul_le_mul_right _ hm) h3
      have hsmall : ¬ (Builtin.nextslicecap N 0 * i.bytes > 2 ^ 48) := by have := hmul (Builtin.nextslicecap N 0) (by omega); omega
      have hsmall2 : ¬ ((N : Int) * (i.bytes : Int) > 2 ^ 48) := by
        have h6 := hmul N (by omega)
        have : ((N * i.bytes : Nat) : Int) ≤ ((2 ^ 48 : Nat) : Int) := Int.ofNat_le.2 h6
        rw [Int.natCast_mul] at this
        have e : ((2 ^ 48 : Nat) : Int) = 2 ^ 48 := by rfl
        omega
      have hneg : ¬ ((N : Int) < 0) := by omega
      have hmax : ¬ (((N : Nat) : Int) > IntKind.i64.max ∧ (True ∨ i.bytes = 0)) := by
        have : IntKind.i64.max = 9223372036854775807 := by decide
        rw [this]; omega
      have hz0 : ¬ (N * ei.size = 0) := by
        have : 0 < N * ei.size := Nat.mul_pos hN h5
        omega
      have hz := hT.zlen elem ei hei
      have hrun : (Builtin.append_ #[sT, xT] ty #[.slice none 0 0, .int k' N]).run P w =
          .ok (.slice (some ⟨w.heap.size, 0, none⟩) N ((Question.appendCap N 0 elem).cut (w.tape w.drawn (.appendCap N 0 elem)))) { w with drawn := w.drawn + 1, heap := w.heap.push (.cells (#[] ++ Builtin.zeroCells ei.zero.cells N ++ Builtin.zeroCells ei.zero.cells ((Question.appendCap N 0 elem).cut (w.tape w.drawn (.appendCap N 0 elem)) - N)) elem) } := by
        have hund : (underlying sT).run P w = .ok (.slice elem) w := by rw [run_und hT hsT, hu]
        have hund2 : (underlying xT).run P w = .ok (.int k) w := by rw [run_und hT hxT, hxi]
        have hroom : ¬ (0 + N ≤ 0) := by omega
        unfold Builtin.append_
        simp only [List.getElem?_toArray, List.getElem?_cons_zero, List.getElem?_cons_succ, Sem.run_bind, hund, hund2, Result.andThen_ok, run_size hT hei, Sem.run_pure, if_true, asInt, asIntOf, h1, if_neg hneg, hi1', if_neg hsmall2, Int.toNat_natCast, if_neg hroom]
        simp only [Nat.zero_add, if_neg hmax, if_neg hsmall, run_choose, Question.forced, Result.andThen_ok, run_askRoom, Builtin.firstCells, Sem.run_pure, Bool.not_true, Bool.false_eq_true, if_false, if_neg hz0, Sem.run_bind, run_zero hT hei, newRow, run_newObj, hi1']
      rw [hrun]
      have hzc : ∀ c ∈ List.replicate N ei.zeroCells, c.length = ei.size := fun c hc => by
        rw [(List.mem_replicate.1 hc).2]; simp [TI.zeroCells, hz]
      have := append_grow_ok hT h hei hid hlt (es := []) (xs := List.replicate N ei.zeroCells) (us := []) (vs := (List.replicate N ei.zero.cells.toList).flatten) (by simp) hzc (.nil G) (Reps.zeros _ N) (newCap := (Question.appendCap N 0 elem).cut (w.tape w.drawn (.appendCap N 0 elem))) (by simp only [Question.cut]; simp)
      have e : (List.replicate N ei.zero.cells.toList).flatten.toArray = Builtin.zeroCells ei.zero.cells N := by apply Array.ext'; rw [zeroCells_list]
      simp only [e, List.length_nil, List.length_replicate, Nat.zero_add, List.nil_append] at this
      exact this
    · cases ha
  · cases ha

def aAppend2 (T : Tab) (σ : Store) (id : Nat) (sT xT : TypeId) (s x : AV) : Option (AV × Store) :=
  match T sT, T xT with
  | some { und := .slice elem, .. }, some { und := .int _, .. } => aZeros T σ id elem s x
  | _, _ => aAppend T (truncBase σ s) id sT xT s x

theorem aAppend2_ok {P : Program} {T : Tab} (hT : TabOk P T) {G : Ghost} {σ σ' : Store} {w : World} (h : Rel G σ w) {sT xT ty : TypeId} {id : Nat} {s x v : AV} {u y : Value} (hs : Rep G s u) (hx : Rep G x y)
    (hid : G.pl id = none) (hlt : id < σ.next) (ha : aAppend2 T σ id sT xT s x = some (v, σ')) : VRes G σ w σ' id v ((Builtin.append_ #[sT, xT] ty #[u, y]).run P w) := by
  unfold aAppend2 at ha
  split at ha
  · rename_i h1 h2
    exact aZeros_ok hT h h1 rfl h2 rfl hs hx hid hlt ha
  · obtain ⟨h1, h2, h3⟩ := truncBase_ok h s
    obtain ⟨G', u', w', a1, a2, a3, a4, a5, a6⟩ := aAppend_ok (P := P) hT h1 (ty := ty) hs hx hid (by rw [h3]; exact hlt) ha
    exact ⟨G', u', w', a1, a2, a3, a4, a5, h2.trans a6⟩

/-- cap, where it is known. -/
def aCap (T : Tab) (t : TypeId) (x : AV) : Option AV :=
  match T t, x with
  | some { und := .slice _, .. }, .sc (.slice none 0 0) => some (.sc (goInt 0))
  | _, _ => none

theorem aCap_ok {P : Program} {T : Tab} (hT : TabOk P T) {G : Ghost} {σ : Store} {w : World} (h : Rel G σ w) {t ty : TypeId} {id : Nat} {x v : AV} {u : Value} (hx : Rep G x u) (ha : aCap T t x = some v) :
    VRes G σ w σ id v ((Builtin.cap_ #[t] ty #[u]).run P w) := by
  unfold aCap at ha
  split at ha
  · rename_i ht
    cases ha
    cases hx
    have hund := run_und hT ht w
    simp only [Builtin.cap_, List.getElem?_toArray, List.getElem?_cons_zero, Sem.run_bind, hund, Result.andThen_ok, Sem.run_pure]
    exact VRes.same (.sc _) h
  · cases ha

end Go.Ab
