/- Chapter 35: what Offsets, its reference and Same return, for all contents. -/
import Derived.Test.YthpjicimlandeaaGreatDoorFns
set_option linter.unusedVariables false
set_option linter.unusedSimpArgs false
namespace Go.Proofs.YthpjicimlandeaaGreatDoor
open Go Go.Ab Go.Proofs
set_option maxRecDepth 100000
set_option maxHeartbeats 1000000
abbrev I64 (n : Int) : AV := .sc (.int .i64 n)
def keep (d y x : Int) : Bool := decide (max (max x (-x)) (max y (-y)) = d)
/-- the points of a row, up to a column -/
def rowTo (d y : Int) (i : Nat) : List (List AV) := (List.range i).flatMap fun (k : Nat) => if keep d y ((k : Int) - d) then [[I64 ((k : Int) - d), I64 y]] else []
def ringTo (d : Int) (j : Nat) : List (List AV) := (List.range j).flatMap fun (k : Nat) => rowTo d ((k : Int) - d) (2 * d + 1).toNat
def allTo (n : Nat) : List (List AV) := (List.range n).flatMap fun (k : Nat) => ringTo ((k : Int) + 1) (2 * ((k : Int) + 1) + 1).toNat
theorem rowTo_succ (d y : Int) (i : Nat) : rowTo d y (i + 1) = rowTo d y i ++ (if keep d y ((i : Int) - d) then [[I64 ((i : Int) - d), I64 y]] else []) := by simp [rowTo, List.range_succ]
theorem ringTo_succ (d : Int) (j : Nat) : ringTo d (j + 1) = ringTo d j ++ rowTo d ((j : Int) - d) (2 * d + 1).toNat := by simp [ringTo, List.range_succ]
theorem allTo_succ (n : Nat) : allTo (n + 1) = allTo n ++ ringTo ((n : Int) + 1) (2 * ((n : Int) + 1) + 1).toNat := by simp [allTo, List.range_succ]
theorem len_flatMap {α : Type} {f : Nat → List α} {b : Nat} : ∀ (n : Nat), (∀ k, k < n → (f k).length ≤ b) → ((List.range n).flatMap f).length ≤ n * b
  | 0, _ => by simp
  | n + 1, h => by
    have h1 := len_flatMap n (fun k hk => h k (by omega))
    have h2 := h n (by omega)
    simp only [List.range_succ, List.flatMap_append, List.length_append, List.flatMap_cons, List.flatMap_nil, List.append_nil]
    rw [Nat.add_mul]; omega
theorem rowTo_len (d y : Int) (i : Nat) : (rowTo d y i).length ≤ i := by
  have := len_flatMap (f := fun (k : Nat) => if keep d y ((k : Int) - d) then [[I64 ((k : Int) - d), I64 y]] else []) (b := 1) i (fun k _ => by split <;> simp)
  simpa [rowTo] using this
theorem ringTo_len (d : Int) (j : Nat) (hd : d ≤ 64) : (ringTo d j).length ≤ j * 129 := len_flatMap j (fun k _ => Nat.le_trans (rowTo_len _ _ _) (by omega))
theorem allTo_len (n : Nat) (hn : n ≤ 64) : (allTo n).length ≤ n * 16641 := len_flatMap n (fun k hk => Nat.le_trans (ringTo_len _ _ (by omega)) (by omega))
def φoff : List AV → Option AV
  | [.sc (.int .i64 g)] => some (if g < 0 ∨ 64 < g then .tup [.rs [], I64 2] else .tup [.rs (allTo g.toNat), I64 0])
  | _ => none
theorem bytes30 : (T 30).map TI.bytes = some 16 := by kernel_rfl
theorem cat_ok {θ : Nat → AV} {x y : AV} {es xs : List (List AV)} (hx : x.sub θ = .rs es) (hy : y.sub θ = .rs xs) (hl : es.length + xs.length ≤ 10000000) (hc : (xs.all fun c => c.length == 2 && c.all AV.one) = true) : evalRO T Φ0 θ (.cat 22 22 x y) = some (.rs (es ++ xs)) := by
  have h22 := u22
  have hz := z30
  have hb := bytes30
  have hi : (T 22).map TI.isInt = some false := by kernel_rfl
  simp only [evalRO, hx, hy, catRs]
  cases h1 : T 22 with
  | none => rw [h1] at h22; cases h22
  | some ti =>
    rw [h1] at h22 hi
    obtain ⟨und, size, zero, bytes, flat⟩ := ti
    simp only [Option.map_some, Option.some.injEq] at h22 hi
    subst h22
    cases h2 : T 30 with
    | none => rw [h2] at hz; cases hz
    | some ei =>
      rw [h2] at hz hb
      simp only [Option.map_some, Option.some.injEq] at hz hb
      simp only [h2, hz, hb]
      rw [if_pos ⟨hi, hc, by omega, by omega, by omega⟩]
def Pts (es : List (List AV)) : Prop := ∀ c ∈ es, ∃ a b : Int, c = [I64 a, I64 b]
theorem pts_pur : ∀ {es : List (List AV)}, Pts es → purR es = true
  | [], _ => by simp [purR]
  | c :: es, h => by
    obtain ⟨a, b, rfl⟩ := h c (by simp)
    simp [purR, purL, AV.pur, pts_pur (es := es) (fun c hc => h c (by simp [hc]))]
theorem pts_fit {es : List (List AV)} (h : Pts es) : Fit1 (.rs es) := by simp only [Fit1, AV.pur]; exact pts_pur h
theorem pts_app {a b : List (List AV)} (ha : Pts a) (hb : Pts b) : Pts (a ++ b) := fun c hc => by
  rcases List.mem_append.1 hc with h | h
  · exact ha c h
  · exact hb c h
theorem rowTo_pts (d y : Int) (i : Nat) : Pts (rowTo d y i) := fun c hc => by
  simp only [rowTo, List.mem_flatMap] at hc
  obtain ⟨k, _, h⟩ := hc
  split at h
  · simp only [List.mem_singleton] at h; exact ⟨_, _, h⟩
  · simp at h
theorem ringTo_pts (d : Int) (j : Nat) : Pts (ringTo d j) := fun c hc => by
  simp only [ringTo, List.mem_flatMap] at hc
  obtain ⟨k, _, h⟩ := hc
  exact rowTo_pts _ _ _ c h
theorem allTo_pts (n : Nat) : Pts (allTo n) := fun c hc => by
  simp only [allTo, List.mem_flatMap] at hc
  obtain ⟨k, _, h⟩ := hc
  exact ringTo_pts _ _ c h
theorem m4 (args : List AV) (r : AV) (h : φoff args = some r) : MemoOk Tryz.prog ⟨4, args, r⟩ := by
  unfold φoff at h
  split at h
  · rename_i g
    cases h
    refine runTree_okE hT hΦ0 hF hmix t4 (L := [I64 g]) (by simp) (by simp [env]) ?_
    unfold r4
    refine LeadsE.op1 (.sc (.bool (decide (g < 0)))) (by simp [evalRO, env, aBin, sbin]) rfl trivial ?_
    refine LeadsE.test (decide (g < 0)) rfl (fun q => ?_) (fun q => ?_)
    · simp only [decide_eq_true_eq] at q
      exact LeadsE.ret (by simp [q])
    simp only [decide_eq_false_iff_not] at q
    refine LeadsE.op1 (.sc (.bool (decide (g > 64)))) (by simp [evalRO, env, aBin, sbin]) rfl trivial ?_
    refine LeadsE.test (decide (g > 64)) rfl (fun q2 => ?_) (fun q2 => ?_)
    · simp only [decide_eq_true_eq] at q2
      have : 64 < g := q2
      exact LeadsE.ret (by simp [this])
    simp only [decide_eq_false_iff_not] at q2
    obtain ⟨G, rfl⟩ : ∃ G : Nat, g = G := ⟨g.toNat, by omega⟩
    have hG : G ≤ 64 := by omega
    rw [if_neg (by omega)]
    refine LeadsE.loop (fun n vals => ∃ k : Nat, n = G - k ∧ k ≤ G ∧ vals = [.rs (allTo k), I64 k]) rfl rfl G ⟨0, by omega, by omega, by simp [allTo]⟩ ?_
    rintro n vals pad ⟨k, rfl, hk, rfl⟩
    simp only [List.cons_append, List.nil_append]
    refine LeadsE.op1 (.sc (.bool (decide ((k : Int) < G)))) (by simp [evalRO, env, aBin, sbin]) rfl trivial ?_
    refine LeadsE.test (decide ((k : Int) < G)) rfl (fun q3 => ?_) (fun q3 => ?_)
    · simp only [decide_eq_true_eq] at q3
      refine LeadsE.op1 (I64 ((k : Int) + 1)) (by simp [evalRO, env, aBin, sbin]; rw [wrap_in (by omega)]) rfl trivial ?_
      refine LeadsE.op1 (I64 (2 * ((k : Int) + 1))) (by simp [evalRO, env, aBin, sbin]; rw [wrap_in (by omega)]) rfl trivial ?_
      refine LeadsE.op1 (I64 (2 * ((k : Int) + 1) + 1)) (by simp [evalRO, env, aBin, sbin]; rw [wrap_in (by omega)]) rfl trivial ?_
      simp only [List.cons_append, List.nil_append]
      refine LeadsE.loop (fun n vals => ∃ j : Nat, n = 2 * k + 3 - j ∧ j ≤ 2 * k + 3 ∧ vals = [.rs (allTo k ++ ringTo ((k : Int) + 1) j), I64 j]) rfl rfl (2 * k + 3) ⟨0, by omega, by omega, by simp [ringTo, env]⟩ ?_
      rintro n vals pad2 ⟨j, rfl, hj, rfl⟩
      simp only [List.cons_append, List.nil_append]
      refine LeadsE.op1 (.sc (.bool (decide ((j : Int) < 2 * ((k : Int) + 1) + 1)))) (by simp [evalRO, env, aBin, sbin]) rfl trivial ?_
      refine LeadsE.test (decide ((j : Int) < 2 * ((k : Int) + 1) + 1)) rfl (fun q4 => ?_) (fun q4 => ?_)
      · simp only [decide_eq_true_eq] at q4
        refine LeadsE.op1 (I64 (2 * ((k : Int) + 1))) (by simp [evalRO, env, aBin, sbin]; rw [wrap_in (by omega)]) rfl trivial ?_
        refine LeadsE.op1 (I64 (2 * ((k : Int) + 1) + 1)) (by simp [evalRO, env, aBin, sbin]; rw [wrap_in (by omega)]) rfl trivial ?_
        simp only [List.cons_append, List.nil_append]
        refine LeadsE.loop (fun n vals => ∃ i : Nat, n = 2 * k + 3 - i ∧ i ≤ 2 * k + 3 ∧ vals = [I64 i, .rs (allTo k ++ ringTo ((k : Int) + 1) j ++ rowTo ((k : Int) + 1) ((j : Int) - (k + 1)) i)]) rfl rfl (2 * k + 3) ⟨0, by omega, by omega, by simp [rowTo, env]⟩ ?_
        rintro n vals pad3 ⟨i, rfl, hi, rfl⟩
        simp only [List.cons_append, List.nil_append]
        refine LeadsE.op1 (.sc (.bool (decide ((i : Int) < 2 * ((k : Int) + 1) + 1)))) (by simp [evalRO, env, aBin, sbin]) rfl trivial ?_
        refine LeadsE.test (decide ((i : Int) < 2 * ((k : Int) + 1) + 1)) rfl (fun q5 => ?_) (fun q5 => ?_)
        · simp only [decide_eq_true_eq] at q5
          refine LeadsE.op1 (I64 ((i : Int) - (k + 1))) (by simp [evalRO, env, aBin, sbin]; rw [wrap_in (by omega)]) rfl trivial ?_
          refine LeadsE.op1 (I64 ((j : Int) - (k + 1))) (by simp [evalRO, env, aBin, sbin]; rw [wrap_in (by omega)]) rfl trivial ?_
          refine LeadsE.op1 (I64 (-((i : Int) - (k + 1)))) (by simp [evalRO, env, aUn]; rw [wrap_in (by omega)]) rfl trivial ?_
          refine LeadsE.op1 (I64 (-((j : Int) - (k + 1)))) (by simp [evalRO, env, aUn]; rw [wrap_in (by omega)]) rfl trivial ?_
          refine LeadsE.op1 (I64 (max (max ((i : Int) - (k + 1)) (-((i : Int) - (k + 1)))) (max ((j : Int) - (k + 1)) (-((j : Int) - (k + 1)))))) (by simp [evalRO, env, aMax, aMaxGo]; grind) rfl trivial ?_
          refine LeadsE.op1 (.sc (.bool (keep ((k : Int) + 1) ((j : Int) - (k + 1)) ((i : Int) - (k + 1))))) (by simp [evalRO, env, aBin, sbin, keep]; rfl) rfl trivial ?_
          refine LeadsE.test (keep ((k : Int) + 1) ((j : Int) - (k + 1)) ((i : Int) - (k + 1))) rfl (fun q6 => ?_) (fun q6 => ?_)
          · refine LeadsE.op1 (.rs (allTo k ++ ringTo ((k : Int) + 1) j ++ rowTo ((k : Int) + 1) ((j : Int) - (k + 1)) (i + 1))) ?_ rfl ?_ ?_
            · rw [rowTo_succ, if_pos q6, ← List.append_assoc]
              refine cat_ok (by simp [env]) (by simp [env]) ?_ (by simp [AV.one])
              have h1 := allTo_len k (by omega)
              have h2 := ringTo_len ((k : Int) + 1) j (by omega)
              have h3 := rowTo_len ((k : Int) + 1) ((j : Int) - (k + 1)) i
              simp only [List.length_append, List.length_singleton]
              omega
            · exact pts_fit (pts_app (pts_app (allTo_pts k) (ringTo_pts _ _)) (rowTo_pts _ _ _))
            refine LeadsE.op1 (I64 ((i : Int) + 1)) (by simp [evalRO, env, aBin, sbin]; rw [wrap_in (by omega)]) rfl trivial ?_
            refine LeadsE.here (2 * k + 3 - (i + 1)) (by omega) ⟨i + 1, rfl, by omega, by simp [env]⟩
          · refine LeadsE.op1 (I64 ((i : Int) + 1)) (by simp [evalRO, env, aBin, sbin]; rw [wrap_in (by omega)]) rfl trivial ?_
            refine LeadsE.here (2 * k + 3 - (i + 1)) (by omega) ⟨i + 1, rfl, by omega, by simp [env, rowTo_succ, q6]⟩
        · simp only [decide_eq_false_iff_not] at q5
          have hii : i = (2 * ((k : Int) + 1) + 1).toNat := by omega
          refine LeadsE.op1 (I64 ((j : Int) + 1)) (by simp [evalRO, env, aBin, sbin]; rw [wrap_in (by omega)]) rfl trivial ?_
          refine LeadsE.there (by omega) (LeadsE.here (2 * k + 3 - (j + 1)) (by omega) ⟨j + 1, rfl, by omega, by simp [env, ringTo_succ, hii]⟩)
      · simp only [decide_eq_false_iff_not] at q4
        have hjj : j = (2 * ((k : Int) + 1) + 1).toNat := by omega
        refine LeadsE.op1 (I64 ((k : Int) + 1)) (by simp [evalRO, env, aBin, sbin]; rw [wrap_in (by omega)]) rfl trivial ?_
        refine LeadsE.there (by omega) (LeadsE.here (G - (k + 1)) (by omega) ⟨k + 1, rfl, by omega, by simp [env, allTo_succ, hjj]⟩)
    · simp only [decide_eq_false_iff_not] at q3
      have : k = G := by omega
      subst this
      exact LeadsE.retL (by simp [env]) (by simp [env])
  · cases h
theorem m5 (args : List AV) (r : AV) (h : φoff args = some r) : MemoOk Tryz.prog ⟨5, args, r⟩ := by
  unfold φoff at h
  split at h
  · rename_i g
    cases h
    refine runTree_okE hT hΦ0 hF hmix t5 (L := [I64 g]) (by simp) (by simp [env]) ?_
    unfold r5
    refine LeadsE.op1 (.sc (.bool (decide (g < 0)))) (by simp [evalRO, env, aBin, sbin]) rfl trivial ?_
    refine LeadsE.test (decide (g < 0)) rfl (fun q => ?_) (fun q => ?_)
    · simp only [decide_eq_true_eq] at q
      exact LeadsE.ret (by simp [q])
    simp only [decide_eq_false_iff_not] at q
    refine LeadsE.op1 (.sc (.bool (decide (g > 64)))) (by simp [evalRO, env, aBin, sbin]) rfl trivial ?_
    refine LeadsE.test (decide (g > 64)) rfl (fun q2 => ?_) (fun q2 => ?_)
    · simp only [decide_eq_true_eq] at q2
      have : 64 < g := q2
      exact LeadsE.ret (by simp [this])
    simp only [decide_eq_false_iff_not] at q2
    obtain ⟨G, rfl⟩ : ∃ G : Nat, g = G := ⟨g.toNat, by omega⟩
    have hG : G ≤ 64 := by omega
    rw [if_neg (by omega)]
    refine LeadsE.loop (fun n vals => ∃ k : Nat, n = G - k ∧ k ≤ G ∧ vals = [.rs (allTo k), I64 ((k : Int) + 1)]) rfl rfl G ⟨0, by omega, by omega, by simp [allTo]⟩ ?_
    rintro n vals pad ⟨k, rfl, hk, rfl⟩
    simp only [List.cons_append, List.nil_append]
    refine LeadsE.op1 (.sc (.bool (decide ((k : Int) + 1 ≤ G)))) (by simp [evalRO, env, aBin, sbin]) rfl trivial ?_
    refine LeadsE.test (decide ((k : Int) + 1 ≤ G)) rfl (fun q3 => ?_) (fun q3 => ?_)
    · simp only [decide_eq_true_eq] at q3
      refine LeadsE.op1 (I64 (-((k : Int) + 1))) (by simp [evalRO, env, aUn]; rw [wrap_in (by omega)]) rfl trivial ?_
      simp only [List.cons_append, List.nil_append]
      refine LeadsE.loop (fun n vals => ∃ j : Nat, n = 2 * k + 3 - j ∧ j ≤ 2 * k + 3 ∧ vals = [.rs (allTo k ++ ringTo ((k : Int) + 1) j), I64 ((j : Int) - (k + 1))]) rfl rfl (2 * k + 3) ⟨0, by omega, by omega, by simp [ringTo, env]⟩ ?_
      rintro n vals pad2 ⟨j, rfl, hj, rfl⟩
      simp only [List.cons_append, List.nil_append]
      refine LeadsE.op1 (.sc (.bool (decide ((j : Int) - (k + 1) ≤ (k : Int) + 1)))) (by simp [evalRO, env, aBin, sbin]) rfl trivial ?_
      refine LeadsE.test (decide ((j : Int) - (k + 1) ≤ (k : Int) + 1)) rfl (fun q4 => ?_) (fun q4 => ?_)
      · simp only [decide_eq_true_eq] at q4
        refine LeadsE.op1 (I64 (-((k : Int) + 1))) (by simp [evalRO, env, aUn]; rw [wrap_in (by omega)]) rfl trivial ?_
        simp only [List.cons_append, List.nil_append]
        refine LeadsE.loop (fun n vals => ∃ i : Nat, n = 2 * k + 3 - i ∧ i ≤ 2 * k + 3 ∧ vals = [I64 ((i : Int) - (k + 1)), .rs (allTo k ++ ringTo ((k : Int) + 1) j ++ rowTo ((k : Int) + 1) ((j : Int) - (k + 1)) i)]) rfl rfl (2 * k + 3) ⟨0, by omega, by omega, by simp [rowTo, env]⟩ ?_
        rintro n vals pad3 ⟨i, rfl, hi, rfl⟩
        simp only [List.cons_append, List.nil_append]
        refine LeadsE.op1 (.sc (.bool (decide ((i : Int) - (k + 1) ≤ (k : Int) + 1)))) (by simp [evalRO, env, aBin, sbin]) rfl trivial ?_
        refine LeadsE.test (decide ((i : Int) - (k + 1) ≤ (k : Int) + 1)) rfl (fun q5 => ?_) (fun q5 => ?_)
        · simp only [decide_eq_true_eq] at q5
          refine LeadsE.op1 (I64 (-((i : Int) - (k + 1)))) (by simp [evalRO, env, aUn]; rw [wrap_in (by omega)]) rfl trivial ?_
          refine LeadsE.op1 (I64 (max ((i : Int) - (k + 1)) (-((i : Int) - (k + 1))))) (by simp [evalRO, env, aMax, aMaxGo]; grind) rfl trivial ?_
          refine LeadsE.op1 (I64 (-((j : Int) - (k + 1)))) (by simp [evalRO, env, aUn]; rw [wrap_in (by omega)]) rfl trivial ?_
          refine LeadsE.op1 (I64 (max ((j : Int) - (k + 1)) (-((j : Int) - (k + 1))))) (by simp [evalRO, env, aMax, aMaxGo]; grind) rfl trivial ?_
          refine LeadsE.op1 (I64 (max (max ((i : Int) - (k + 1)) (-((i : Int) - (k + 1)))) (max ((j : Int) - (k + 1)) (-((j : Int) - (k + 1)))))) (by simp [evalRO, env, aMax, aMaxGo]; grind) rfl trivial ?_
          refine LeadsE.op1 (.sc (.bool (keep ((k : Int) + 1) ((j : Int) - (k + 1)) ((i : Int) - (k + 1))))) (by simp [evalRO, env, aBin, sbin, keep]; rfl) rfl trivial ?_
          refine LeadsE.test (keep ((k : Int) + 1) ((j : Int) - (k + 1)) ((i : Int) - (k + 1))) rfl (fun q6 => ?_) (fun q6 => ?_)
          · refine LeadsE.op1 (.rs (allTo k ++ ringTo ((k : Int) + 1) j ++ rowTo ((k : Int) + 1) ((j : Int) - (k + 1)) (i + 1))) ?_ rfl ?_ ?_
            · rw [rowTo_succ, if_pos q6, ← List.append_assoc]
              refine cat_ok (by simp [env]) (by simp [env]) ?_ (by simp [AV.one])
              have h1 := allTo_len k (by omega)
              have h2 := ringTo_len ((k : Int) + 1) j (by omega)
              have h3 := rowTo_len ((k : Int) + 1) ((j : Int) - (k + 1)) i
              simp only [List.length_append, List.length_singleton]
              omega
            · exact pts_fit (pts_app (pts_app (allTo_pts k) (ringTo_pts _ _)) (rowTo_pts _ _ _))
            refine LeadsE.op1 (I64 ((i : Int) - (k + 1) + 1)) (by simp [evalRO, env, aBin, sbin]; rw [wrap_in (by omega)]) rfl trivial ?_
            refine LeadsE.here (2 * k + 3 - (i + 1)) (by omega) ⟨i + 1, rfl, by omega, by simp [env]; omega⟩
          · refine LeadsE.op1 (I64 ((i : Int) - (k + 1) + 1)) (by simp [evalRO, env, aBin, sbin]; rw [wrap_in (by omega)]) rfl trivial ?_
            refine LeadsE.here (2 * k + 3 - (i + 1)) (by omega) ⟨i + 1, rfl, by omega, by simp [env, rowTo_succ, q6]; omega⟩
        · simp only [decide_eq_false_iff_not] at q5
          have hii : i = (2 * ((k : Int) + 1) + 1).toNat := by omega
          refine LeadsE.op1 (I64 ((j : Int) - (k + 1) + 1)) (by simp [evalRO, env, aBin, sbin]; rw [wrap_in (by omega)]) rfl trivial ?_
          refine LeadsE.there (by omega) (LeadsE.here (2 * k + 3 - (j + 1)) (by omega) ⟨j + 1, rfl, by omega, by simp [env, ringTo_succ, hii]; omega⟩)
      · simp only [decide_eq_false_iff_not] at q4
        have hjj : j = (2 * ((k : Int) + 1) + 1).toNat := by omega
        refine LeadsE.op1 (I64 ((k : Int) + 1 + 1)) (by simp [evalRO, env, aBin, sbin]; rw [wrap_in (by omega)]) rfl trivial ?_
        refine LeadsE.there (by omega) (LeadsE.here (G - (k + 1)) (by omega) ⟨k + 1, rfl, by omega, by simp [env, allTo_succ, hjj]⟩)
    · simp only [decide_eq_false_iff_not] at q3
      have : k = G := by omega
      subst this
      exact LeadsE.retL (by simp [env]) (by simp [env])
  · cases h
theorem m6 (es : List (List AV)) (hp : Pts es) (hl : es.length ≤ 10000000) : MemoOk Tryz.prog ⟨6, [.rs es, .rs es], .sc (.bool true)⟩ := by
  refine runTree_okE hT hΦ0 hF hmix t6 (L := [.rs es, .rs es]) (by simp [pts_fit hp]) (by simp [env]) ?_
  unfold r6
  refine LeadsE.op1 (I64 es.length) (by simp only [evalRO, sub_sy]; exact len_rs u22) rfl trivial ?_
  refine LeadsE.op1 (I64 es.length) (by simp only [evalRO, sub_sy]; exact len_rs u22) rfl trivial ?_
  refine LeadsE.op1 (.sc (.bool false)) (by simp [evalRO, env, aBin, sbin]) rfl trivial ?_
  refine LeadsE.test false rfl (fun q => by cases q) (fun _ => ?_)
  simp only [List.cons_append, List.nil_append]
  refine LeadsE.loop (fun n vals => ∃ k : Nat, n = es.length - k ∧ k ≤ es.length ∧ vals = [I64 k]) rfl rfl es.length ⟨0, by omega, by omega, by simp⟩ ?_
  rintro n vals pad ⟨k, rfl, hk, rfl⟩
  simp only [List.cons_append, List.nil_append]
  refine LeadsE.op1 (I64 es.length) (by simp only [evalRO, sub_sy]; exact len_rs u22) rfl trivial ?_
  refine LeadsE.op1 (.sc (.bool (decide (k < es.length)))) (by simp [evalRO, env, aBin, sbin]) rfl trivial ?_
  refine LeadsE.test (decide (k < es.length)) rfl (fun q => ?_) (fun q => ?_)
  · simp only [decide_eq_true_eq] at q
    obtain ⟨a, b, hab⟩ := hp es[k] (List.getElem_mem q)
    have hg : es[(k : Int).toNat]? = some [I64 a, I64 b] := by simp [q, hab]
    simp only [List.cons_append, List.nil_append]
    refine LeadsE.opL [I64 a, I64 b] (by simp only [evalRO, sub_sy]; exact idx_rs u22 z30 (by omega) hg rfl) rfl (by simp) ?_
    refine LeadsE.opL [I64 a, I64 b] (by simp only [evalRO, sub_sy]; exact idx_rs u22 z30 (by omega) hg rfl) rfl (by simp) ?_
    simp only [List.cons_append, List.nil_append]
    refine LeadsE.op1 (.sc (.bool false)) ?_ rfl trivial ?_
    · simp [evalRO, env, aBin, sbin]
      have hfl : (T 30).map TI.flat = some (some 2) := by kernel_rfl
      have hi : AV.i64s [I64 a, I64 b] = some [a, b] := by simp [AV.i64s]
      rw [hi]
      cases h3 : T 30 with
      | none => rw [h3] at hfl; cases hfl
      | some ti =>
        rw [h3] at hfl
        simp only [Option.map_some, Option.some.injEq] at hfl
        simp [hfl]
    refine LeadsE.test false rfl (fun q => by cases q) (fun _ => ?_)
    refine LeadsE.op1 (I64 ((k : Int) + 1)) (by simp [evalRO, env, aBin, sbin]; rw [wrap_in (by omega)]) rfl trivial ?_
    exact LeadsE.here (es.length - (k + 1)) (by omega) ⟨k + 1, rfl, by omega, by simp [env]⟩
  · simp only [decide_eq_false_iff_not] at q
    exact LeadsE.ret (by simp)
end Go.Proofs.YthpjicimlandeaaGreatDoor
