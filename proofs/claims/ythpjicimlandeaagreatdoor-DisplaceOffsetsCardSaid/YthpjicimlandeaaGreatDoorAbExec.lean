/- The abstract machine, part 20: a run that the kernel can make, with regions that draw their order. -/
import Derived.Test.YthpjicimlandeaaGreatDoorAbRegion
set_option linter.unusedVariables false
set_option linter.unusedSimpArgs false
namespace Go.Ab
open Go

def go (T : Tab) (F : FuncId → Option Func) (K : AKnow) : Nat → Code → AS → Option (EX × AS)
  | 0, _, _ => none
  | k + 1, c, s =>
    match c with
    | .skip => some (.nor, s)
    | .label _ => some (.nor, s)
    | .region _ ops false =>
      match runOps T (callWith T F K (go T F K k)) ops s.st.next ops.toList 0 { s with st := { s.st with next := s.st.next + ops.size } } with
      | some s' => some (.nor, s')
      | none => none
    | .region _ ops true =>
      match runDrawn T (callWith T F K (go T F K k)) ops s with
      | some s' => some (.nor, s')
      | none => none
    | .seq a b => match go T F K k a s with
      | some (.nor, s') => go T F K k b s'
      | r => r
    | .cond x a b => match s.eval x with
      | .sc (.bool t) => go T F K k (if t then a else b) s
      | _ => none
    | .block id b => match go T F K k b s with
      | some (.exi j, s') => some (if j = id then .nor else .exi j, s')
      | r => r
    | .loop b => match go T F K k b s with
      | some (.nor, s') => go T F K k (.loop b) s'
      | r => r
    | .exit id => some (.exi id, s)
    | .ret => some (.ret, s)
    | _ => none



section
variable {T : Tab} {F : FuncId → Option Func} {K : AKnow}

theorem stepD_low {cl : FuncId → List AV → Store → Option (AV × Store)} (hcl : ∀ f args σ v σ', cl f args σ = some (v, σ') → LowOk σ σ') {ops : Array Oper} {n0 N mask i : Nat} {bar : Bool} {s s' : AS} {o : Oper} {f : Inf}
    (h : stepD T cl ops n0 N mask i bar s o = some (s', f)) : LowOk s.st s'.st := by
  unfold stepD at h
  split at h
  · cases h; simpa using LowOk.refl s.st
  · split at h
    · split at h
      · split at h
        · split at h
          · rename_i v σ1 hc
            split at h
            · cases h
              simpa using hcl _ _ _ _ _ hc
            · cases h
          · cases h
        split at h
        · rename_i v σ1 hc
          split at h
          · rename_i hnx
            cases h
            simp only [AS.put_st]
            have hl := (hcl _ _ _ _ _ hc).2
            obtain ⟨k1, k2⟩ := saved_spec s.st (exIds n0 N mask)
            refine ⟨Nat.min_le_left _ _, fun j hj => ?_⟩
            have hj2 : j < s.st.next := Nat.lt_of_lt_of_le hj (Nat.min_le_right _ _)
            have e1 : ({ setAll (saved s.st (exIds n0 N mask)) σ1 with low := min s.st.low s.st.next } : Store).objs j = (setAll (saved s.st (exIds n0 N mask)) σ1).objs j := rfl
            rw [e1, setAll_objs s.st.objs _ _ _ k1]
            split
            · rfl
            · rename_i hne
              rw [hl j (by omega)]
              have e2 : ({ delAll (saved s.st (exIds n0 N mask)) s.st with low := s.st.next } : Store).objs j = (delAll (saved s.st (exIds n0 N mask)) s.st).objs j := rfl
              rw [e2, delAll_objs, if_neg hne]
          · cases h
        · cases h
      · cases h
    · split at h
      · rename_i v σ1 ha
        cases h
        simp only [AS.put_st]
        have h1 : LowOk s.st (if isE o.op then applyE σ1 (foot s.eval o.op) s.st else s.st) := by
          split
          · exact applyE_low _ _ _
          · exact .refl _
        split
        · exact h1.trans (.set _ _ _)
        · exact h1
      · cases h
  · cases h

theorem runD_low {cl : FuncId → List AV → Store → Option (AV × Store)} (hcl : ∀ f args σ v σ', cl f args σ = some (v, σ') → LowOk σ σ') {ops : Array Oper} {n0 N : Nat} {masks : List Nat} :
    ∀ (l : List Oper) (i : Nat) (s s' : AS) (fs : List Inf), runD T cl ops n0 N masks l i s = some (s', fs) → LowOk s.st s'.st
  | [], i, s, s', fs, h => by simp only [runD, Option.some.injEq, Prod.mk.injEq] at h; rw [h.1]; exact .refl _
  | o :: rest, i, s, s', fs, h => by
    unfold runD at h
    split at h
    · rename_i s1 f hs
      split at h
      · rename_i s2 fs2 hr
        cases h
        exact (stepD_low hcl hs).trans (runD_low hcl rest _ _ _ _ hr)
      · cases h
    · cases h

theorem runDrawn_low {cl : FuncId → List AV → Store → Option (AV × Store)} (hcl : ∀ f args σ v σ', cl f args σ = some (v, σ') → LowOk σ σ') {ops : Array Oper} {s s' : AS} (h : runDrawn T cl ops s = some s') : LowOk s.st s'.st := by
  unfold runDrawn at h
  split at h
  · split at h
    · rename_i s1 fs hr
      split at h
      · cases h
        have := runD_low hcl _ _ _ _ _ hr
        exact this
      · cases h
    · cases h
  · cases h

theorem callWith_low (hK : ∀ f g, K f = some g → ∀ args σ v σ', g args σ = some (v, σ') → LowOk σ σ') {ex : Code → AS → Option (EX × AS)} (hex : ∀ c s s' e, ex c s = some (e, s') → LowOk s.st s'.st) {f : FuncId} {args : List AV} {σ σ' : Store} {v : AV} (h : callWith T F K ex f args σ = some (v, σ')) : LowOk σ σ' := by
  unfold callWith at h
  split at h
  · rename_i r hg
    cases h
    split at hg
    · rename_i g hg2
      exact hK f g hg2 _ _ _ _ hg
    · cases hg
  split at h
  · split at h
    · split at h
      · split at h
        · rename_i s1 hx
          split at h
          · cases h; exact hex _ _ _ _ hx
          · cases h
        · rename_i s1 hx
          split at h
          · cases h; exact hex _ _ _ _ hx
          · cases h
        · cases h
      · cases h
    · cases h
  · cases h

theorem go_low (hK : ∀ f g, K f = some g → ∀ args σ v σ', g args σ = some (v, σ') → LowOk σ σ') : ∀ (k : Nat) (c : Code) (s s' : AS) (e : EX), go T F K k c s = some (e, s') → LowOk s.st s'.st
  | 0, c, s, s', e, h => by simp [go] at h
  | k + 1, c, s, s', e, h => by
    have ih := go_low hK k
    unfold go at h
    split at h
    · cases h; exact .refl _
    · cases h; exact .refl _
    · rename_i ops
      split at h
      · rename_i s1 hr
        cases h
        have := runOps_low (fun f args σ v σ' hc => callWith_low hK ih hc) _ _ _ _ hr
        exact this
      · cases h
    · split at h
      · rename_i s1 hr
        cases h
        exact runDrawn_low (fun f args σ v σ' hc => callWith_low hK ih hc) hr
      · cases h
    · split at h
      · rename_i s1 hx
        exact (ih _ _ _ _ hx).trans (ih _ _ _ _ h)
      · exact ih _ _ _ _ h
    · split at h
      · exact ih _ _ _ _ h
      · cases h
    · split at h
      · rename_i j s1 hx
        cases h
        exact ih _ _ _ _ hx
      · exact ih _ _ _ _ h
    · split at h
      · rename_i s1 hx
        exact (ih _ _ _ _ hx).trans (ih _ _ _ _ h)
      · exact ih _ _ _ _ h
    · cases h; exact .refl _
    · cases h; exact .refl _
    · cases h

end

/-- What is told of functions is so. -/
def AKnowOk (P : Program) (K : AKnow) : Prop := ∀ f g, K f = some g → ∀ args σ v σ', g args σ = some (v, σ') → ACallOk P f args σ (fun v' σ'' => v' = v ∧ σ'' = σ') ∧ LowOk σ σ'

section
variable {P : Program} {T : Tab} (hT : TabOk P T) {F : FuncId → Option Func} (hF : ∀ f fn, F f = some fn → P.funcs[f]? = some fn) (hm : P.follows .mixedOrders = true) {K : AKnow} (hK : AKnowOk P K)

include hT hF hm hK in
theorem go_ok : ∀ (k : Nat) (c : Code) (s s' : AS) (e : EX), go T F K k c s = some (e, s') → AWp P c (fun e' s'' => e' = e.toExit ∧ s'' = s') s
  | 0, c, s, s', e, h => by simp [go] at h
  | k + 1, c, s, s', e, h => by
    have ih := go_ok k
    have hcl : ∀ f args σ v σ', callWith T F K (go T F K k) f args σ = some (v, σ') → ACallOk P f args σ (fun v' σ'' => v' = v ∧ σ'' = σ') := by
      intro f args σ v σ' hc
      unfold callWith at hc
      split at hc
      · rename_i r hg
        cases hc
        split at hg
        · rename_i g hg2
          exact (hK f g hg2 _ _ _ _ hg).1
        · cases hg
      split at hc
      · rename_i fn hfn
        split at hc
        · rename_i body hb
          split at hc
          · rename_i hcond
            refine ACallOk.of_calls (hF f fn hfn) hcond.2 (by simp [hb]) ?_
            refine ACalls.of_body hT (hF f fn hfn) hb hcond.1 ?_
            split at hc
            · rename_i s1 hx
              split at hc
              · rename_i v1 hv
                cases hc
                exact (ih _ _ _ _ hx).mono fun e' s'' ⟨h1, h2⟩ => ⟨.inl h1, v, by rw [h2]; exact hv, rfl, by rw [h2]⟩
              · cases hc
            · rename_i s1 hx
              split at hc
              · rename_i v1 hv
                cases hc
                exact (ih _ _ _ _ hx).mono fun e' s'' ⟨h1, h2⟩ => ⟨.inr h1, v, by rw [h2]; exact hv, rfl, by rw [h2]⟩
              · cases hc
            · cases hc
          · cases hc
        · cases hc
      · cases hc
    unfold go at h
    split at h
    · cases h; exact AWp.skip ⟨rfl, rfl⟩
    · cases h; exact AWp.label ⟨rfl, rfl⟩
    · rename_i id ops
      split at h
      · rename_i s1 hr
        cases h
        refine AWp.region ?_
        have := runOps_ok hcl hT ops.toList 0 _ s' (fun j => by simp) (by simp) hr
        simp only [Array.length_toList] at this
        rw [List.range_eq_range']
        intro G a w h1 h2 h3
        exact wpOps_mono (fun e a w ⟨e1, s2, G2, b1, b2, b3⟩ => ⟨e1, s2, G2, b1, b2, rfl, b3⟩) _ _ _ (this G a w h1 h2 h3)
      · cases h
    · rename_i id ops
      split at h
      · rename_i s1 hr
        cases h
        exact AWp.drawn hT hm (fun f args σ v σ' hc => ⟨hcl f args σ v σ' hc, callWith_low (fun f g hg args σ v σ' hh => (hK f g hg args σ v σ' hh).2) (go_low (fun f g hg args σ v σ' hh => (hK f g hg args σ v σ' hh).2) k) hc⟩) hr ⟨rfl, rfl⟩
      · cases h
    · rename_i a b
      refine AWp.seq ?_
      split at h
      · rename_i s1 hx
        refine (ih _ _ _ _ hx).mono ?_
        rintro e' s'' ⟨rfl, rfl⟩
        exact ih _ _ _ _ h
      · rename_i hx
        refine (ih _ _ _ _ h).mono ?_
        rintro e' s'' ⟨rfl, rfl⟩
        cases e with
        | nor => exact absurd h (by intro hh; exact hx _ hh)
        | exi j => exact ⟨rfl, rfl⟩
        | ret => exact ⟨rfl, rfl⟩
    · rename_i x a b
      split at h
      · rename_i t hx
        exact AWp.cond hx (ih _ _ _ _ h)
      · cases h
    · rename_i id b
      refine AWp.block ?_
      split at h
      · rename_i j s1 hx
        cases h
        refine (ih _ _ _ _ hx).mono ?_
        rintro e' s'' ⟨rfl, rfl⟩
        simp only [EX.toExit, AInBlock]
        split
        · rename_i e; simp [e, EX.toExit]
        · rename_i e; simp [e, EX.toExit]
      · rename_i hx
        refine (ih _ _ _ _ h).mono ?_
        rintro e' s'' ⟨rfl, rfl⟩
        cases e with
        | exi j => exact absurd h (by intro hh; exact hx _ _ hh)
        | nor => exact ⟨rfl, rfl⟩
        | ret => exact ⟨rfl, rfl⟩
    · rename_i b
      have key : ∀ n s, go T F K n (.loop b) s = some (e, s') → n ≤ k + 1 → AWp P b (AThen (fun s2 => ∃ m, m < n ∧ (go T F K m (.loop b) s2 = some (e, s') ∧ m ≤ k + 1)) (fun e' s'' => e' = e.toExit ∧ s'' = s')) s := by
        intro n s hn hle
        cases n with
        | zero => simp [go] at hn
        | succ n =>
          unfold go at hn
          have ihn : ∀ (c : Code) (s s' : AS) (e : EX), go T F K n c s = some (e, s') → AWp P c (fun e' s'' => e' = e.toExit ∧ s'' = s') s := by
            rcases Nat.lt_or_ge n k with h' | h'
            · exact go_ok n
            · have : n = k := by omega
              rw [this]; exact ih
          simp only at hn
          split at hn
          · rename_i s1 hx
            refine (ihn _ _ _ _ hx).mono ?_
            rintro e' s'' ⟨rfl, rfl⟩
            exact ⟨n, Nat.lt_succ_self _, hn, by omega⟩
          · rename_i hx
            refine (ihn _ _ _ _ hn).mono ?_
            rintro e' s'' ⟨rfl, rfl⟩
            cases e with
            | nor => exact absurd hn (by intro hh; exact hx _ hh)
            | exi j => exact ⟨rfl, rfl⟩
            | ret => exact ⟨rfl, rfl⟩
      refine AWp.loop (fun n s => go T F K n (.loop b) s = some (e, s') ∧ n ≤ k + 1) (fun n s hI => key n s hI.1 hI.2) (n := k + 1) ⟨?_, Nat.le_refl _⟩
      unfold go
      exact h
    · cases h; exact AWp.exit ⟨rfl, rfl⟩
    · cases h; exact AWp.ret ⟨rfl, rfl⟩
    · cases h


end

/-- A call that the kernel has run. -/
theorem go_calls {P : Program} {T : Tab} (hT : TabOk P T) {F : FuncId → Option Func} (hF : ∀ f fn, F f = some fn → P.funcs[f]? = some fn) (hm : P.follows .mixedOrders = true) {K : AKnow} (hK : AKnowOk P K)
    {k : Nat} {f : FuncId} {args : List AV} {σ σ' : Store} {v : AV} (h : callWith T F K (go T F K k) f args σ = some (v, σ')) : ACallOk P f args σ (fun v' σ'' => v' = v ∧ σ'' = σ') := by
  unfold callWith at h
  split at h
  · rename_i r hg
    cases h
    split at hg
    · rename_i g hg2
      exact (hK f g hg2 _ _ _ _ hg).1
    · cases hg
  split at h
  · rename_i fn hfn
    split at h
    · rename_i body hb
      split at h
      · rename_i hcond
        refine ACallOk.of_calls (hF f fn hfn) hcond.2 (by simp [hb]) ?_
        refine ACalls.of_body hT (hF f fn hfn) hb hcond.1 ?_
        split at h
        · rename_i s1 hx
          split at h
          · rename_i v1 hv
            cases h
            exact (go_ok hT hF hm hK k _ _ _ _ hx).mono fun e' s'' ⟨h1, h2⟩ => ⟨.inl h1, v, by rw [h2]; exact hv, rfl, by rw [h2]⟩
          · cases h
        · rename_i s1 hx
          split at h
          · rename_i v1 hv
            cases h
            exact (go_ok hT hF hm hK k _ _ _ _ hx).mono fun e' s'' ⟨h1, h2⟩ => ⟨.inr h1, v, by rw [h2]; exact hv, rfl, by rw [h2]⟩
          · cases h
        · cases h
      · cases h
    · cases h
  · cases h

end Go.Ab
