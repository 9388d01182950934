/- The abstract machine, part 4: addresses, parts of values, slices of slices, lengths. -/
import Derived.Test.YthpjicimlandeaaGreatDoorAbStore
set_option linter.unusedVariables false
set_option linter.unusedSimpArgs false
namespace Go.Ab
open Go

def aFieldAddr (T : Tab) (s : TypeId) (x : AV) (field : Nat) : Option AV :=
  match T s with
  | some { und := .struct fields, .. } =>
    match fields[field]? with
    | some f => match T f.type with
      | some fi => if fi.size = 0 then none else
        match x with
        | .mp id i j => some (.mp id i (j + f.offset))
        | .rp cs => if f.offset ≤ cs.length then some (.rp (cs.drop f.offset)) else none
        | _ => none
      | none => none
    | none => none
  | _ => none

theorem Rep.rp_drop {G : Ghost} {cs : List AV} {b o : Nat} (h : Rep G (.rp cs) (.pointer (some ⟨b, o, none⟩))) (n : Nat) (hn : n ≤ cs.length) : Rep G (.rp (cs.drop n)) (.pointer (some ⟨b, o + n, none⟩)) := by
  cases h with
  | rp cs a val hs himm hrep =>
    refine .rp _ _ (fun j => val (n + j)) rfl (fun j hj => ?_) (fun j hj => ?_)
    · simp at hj
      have := himm (n + j) (by omega)
      simpa [Nat.add_assoc] using this
    · simp at hj
      have := hrep (n + j) (by omega)
      simpa using this

theorem aFieldAddr_ok {P : Program} {T : Tab} (hT : TabOk P T) {G : Ghost} {σ : Store} {w : World} (h : Rel G σ w) {s : TypeId} {id field : Nat} {x v : AV} {u : Value} (hx : Rep G x u)
    (ha : aFieldAddr T s x field = some v) : VRes G σ w σ id v ((Instr.fieldAt s u field).run P w) := by
  unfold aFieldAddr at ha
  split at ha
  · rename_i fields size zero bytes _ hs
    split at ha
    · rename_i f hf
      split at ha
      · rename_i fi hfi
        split at ha
        · cases ha
        · rename_i hsz
          have key : ∀ b o, u = .pointer (some ⟨b, o, none⟩) → (Instr.fieldAt s u field).run P w = .ok (.pointer (some ⟨b, o + f.offset, none⟩)) w := fun b o hu => by
            subst hu
            simp only [Instr.fieldAt, Sem.run_bind, run_und hT hs, Result.andThen_ok, hf, Instr.sureAddr, Sem.run_pure, fieldPlace, run_size hT hfi]
            rw [if_neg hsz]
            simp [add_none]
          split at ha
          · rename_i id' i j
            cases ha
            cases hx with
            | mp _ _ _ p hp =>
              rw [key _ _ rfl]
              refine VRes.same ?_ h
              have := Rep.mp (G := G) id' i (j + f.offset) p hp
              rwa [← Nat.add_assoc] at this
          · split at ha
            · rename_i cs hle
              cases ha
              have hx' := hx
              cases hx with
              | rp cs a val hs' himm hrep =>
                obtain ⟨b, o, sp⟩ := a
                simp at hs'; subst hs'
                rw [key _ _ rfl]
                exact VRes.same (hx'.rp_drop _ hle) h
            · cases ha
          · cases ha
      · cases ha
    · cases ha
  · cases ha

/-- A part of a value. -/
def aPart (T : Tab) (t : TypeId) (cs : List AV) (off : Nat) : Option AV :=
  match T t with
  | some ti => cellsLoad ti cs off
  | none => none

theorem aPart_ok {P : Program} {T : Tab} (hT : TabOk P T) {G : Ghost} {w : World} {t : TypeId} {cs : List AV} {vs : List Value} (hcs : Reps G cs vs) {off : Nat} {v : AV} (ha : aPart T t cs off = some v) :
    ∃ u, (part t vs.toArray off).run P w = .ok u w ∧ Rep G v u := by
  unfold aPart at ha
  split at ha
  · rename_i ti ht
    unfold cellsLoad at ha
    by_cases hag : ti.isAgg = true
    · rw [if_pos hag] at ha
      split at ha
      · rename_i hlen
        cases ha
        refine ⟨_, by simp only [part, Sem.run_bind, run_isAgg hT ht, hag, if_true, run_size hT ht, Result.andThen_ok, Sem.run_pure]; rfl, ?_⟩
        have hr := (hcs.drop off).take ti.size
        have := Rep.agg (G := G) _ _ hr.1 hr.2
        have e : vs.toArray.extract off (off + ti.size) = (List.take ti.size (List.drop off vs)).toArray := by
          simp [List.extract_toArray, List.extract_eq_take_drop]
        rw [e]; exact this
      · cases ha
    · rw [if_neg hag] at ha
      obtain ⟨u, hu, hr⟩ := hcs.get ha
      refine ⟨u, ?_, hr⟩
      simp only [part, Sem.run_bind, run_isAgg hT ht, Bool.not_eq_true _ ▸ hag, Result.andThen_ok]
      simp [hu]
  · cases ha

def aField (T : Tab) (s : TypeId) (x : AV) (field : Nat) : Option AV :=
  match T s, x with
  | some { und := .struct fields, .. }, .agg cs => match fields[field]? with
    | some f => aPart T f.type cs f.offset
    | none => none
  | _, _ => none

theorem aField_ok {P : Program} {T : Tab} (hT : TabOk P T) {G : Ghost} {σ : Store} {w : World} (h : Rel G σ w) {s : TypeId} {id field : Nat} {x v : AV} {u : Value} (hx : Rep G x u)
    (ha : aField T s x field = some v) : VRes G σ w σ id v ((Instr.field s u field).run P w) := by
  unfold aField at ha
  split at ha
  · rename_i fields _ _ _ _ cs hs
    split at ha
    · rename_i f hf
      cases hx with
      | agg cs vs h1 h2 =>
        obtain ⟨y, hy, hr⟩ := aPart_ok hT (P := P) (w := w) ⟨h1, h2⟩ ha
        simp only [Instr.field, Sem.run_bind, run_und hT hs, Result.andThen_ok, hf, asAgg, Sem.run_pure, hy]
        exact VRes.same hr h
    · cases ha
  · cases ha

def AV.int? : AV → Option Int
  | .sc (.int _ n) => some n
  | _ => none

def aIndexAddr (T : Tab) (t : TypeId) (x ix : AV) : Option AV :=
  match T t, ix with
  | some { und := .slice elem, .. }, .sc (.int _ n) =>
    match T elem with
    | some ei =>
      match x with
      | .ms id size off len => if 0 ≤ n ∧ n < len ∧ size = ei.size then some (.mp id (off + n.toNat) 0) else none
      | .rs es => if 0 ≤ n then match es[n.toNat]? with
          | some cs => if cs.length = ei.size then some (.rp cs) else none
          | none => none
        else none
      | _ => none
    | none => none
  | some { und := .array len elem, .. }, .sc (.int _ n) =>
    match T elem with
    | some ei => if 0 ≤ n ∧ n < len then
        match x with
        | .mp id i j => some (.mp id i (j + n.toNat * ei.size))
        | .rp cs => if n.toNat * ei.size ≤ cs.length then some (.rp (cs.drop (n.toNat * ei.size))) else none
        | _ => none
      else none
    | none => none
  | _, _ => none

theorem aIndexAddr_ok {P : Program} {T : Tab} (hT : TabOk P T) {G : Ghost} {σ : Store} {w : World} (h : Rel G σ w) {t : TypeId} {id : Nat} {x ix v : AV} {u y : Value} (hx : Rep G x u) (hy : Rep G ix y)
    (ha : aIndexAddr T t x ix = some v) : VRes G σ w σ id v ((Instr.indexAt t u y).run P w) := by
  unfold aIndexAddr at ha
  split at ha
  · rename_i elem _ _ _ _ k n ht
    split at ha
    · rename_i ei he
      cases hy
      split at ha
      · rename_i id' size off len
        split at ha
        · rename_i hn
          obtain ⟨hn0, hn1, hse⟩ := hn
          cases ha
          cases hx with
          | msNil => omega
          | ms _ _ _ _ p hp hv hs a c hA hoff hl hsp =>
            rw [hA (by omega)]
            simp only [Instr.indexAt, asIntOf, Sem.run_bind, Sem.run_pure, Result.andThen_ok, run_und hT ht]
            rw [if_pos (by omega)]
            simp only [Sem.run_bind, run_size hT he, Result.andThen_ok, Sem.run_pure, add_none]
            refine VRes.same ?_ h
            have := Rep.mp (G := G) id' (off + n.toNat) 0 p hp
            rw [hs, ← hse]
            rw [hs, Nat.add_mul, Nat.add_zero] at this
            exact this
        · cases ha
      · rename_i es
        split at ha
        · rename_i hn
          split at ha
          · rename_i cs hcs
            split at ha
            · rename_i hlen
              cases ha
              obtain ⟨hi, hie⟩ := List.getElem?_eq_some_iff.1 hcs
              cases hx with
              | rsNil => simp at hi
              | rs es a cap size val hs hc hl himm hrep =>
                have hs := hs (by omega)
                obtain ⟨b, o, sp⟩ := a
                simp at hs; subst hs
                have hsz : ei.size = size := by rw [← hlen, ← hie]; exact hl _ hi
                simp only [Instr.indexAt, asIntOf, Sem.run_bind, Sem.run_pure, Result.andThen_ok, run_und hT ht]
                rw [if_pos (by omega)]
                simp only [Sem.run_bind, run_size hT he, Result.andThen_ok, Sem.run_pure, add_none]
                refine VRes.same ?_ h
                refine .rp _ _ (fun j => val n.toNat j) rfl (fun j hj => ?_) (fun j hj => ?_)
                · have := himm n.toNat j hi (by omega)
                  simpa [hsz] using this
                · have := hrep n.toNat j hi (by rw [hie]; exact hj)
                  simpa [hie] using this
            · cases ha
          · cases ha
        · cases ha
      · cases ha
    · cases ha
  · rename_i len elem _ _ _ _ k n ht
    split at ha
    · rename_i ei he
      cases hy
      split at ha
      · rename_i hn
        have key : ∀ b o, u = .pointer (some ⟨b, o, none⟩) → (Instr.indexAt t u (.int k n)).run P w = .ok (.pointer (some ⟨b, o + n.toNat * ei.size, none⟩)) w := fun b o hu => by
          subst hu
          simp only [Instr.indexAt, asIntOf, Sem.run_bind, Sem.run_pure, Result.andThen_ok, run_und hT ht, Instr.sureAddr]
          rw [if_pos hn]
          simp [run_size hT he, add_none]
        split at ha
        · rename_i id' i j
          cases ha
          cases hx with
          | mp _ _ _ p hp =>
            rw [key _ _ rfl]
            refine VRes.same ?_ h
            have := Rep.mp (G := G) id' i (j + n.toNat * ei.size) p hp
            rwa [← Nat.add_assoc] at this
        · split at ha
          · rename_i cs hle
            cases ha
            have hx' := hx
            cases hx with
            | rp cs a val hs' himm hrep =>
              obtain ⟨b, o, sp⟩ := a
              simp at hs'; subst hs'
              rw [key _ _ rfl]
              exact VRes.same (hx'.rp_drop _ hle) h
          · cases ha
        · cases ha
      · cases ha
    · cases ha
  · cases ha

def aIndex (T : Tab) (t : TypeId) (x ix : AV) : Option AV :=
  match T t, x, ix with
  | some { und := .array len elem, .. }, .agg cs, .sc (.int _ n) =>
    match T elem with
    | some ei => if 0 ≤ n ∧ n < len then aPart T elem cs (n.toNat * ei.size) else none
    | none => none
  | some { und := .string, .. }, .sc (.string s), .sc (.int _ n) =>
    if 0 ≤ n then match s[n.toNat]? with
      | some b => some (.sc (.int .u8 b.toNat))
      | none => none
    else none
  | _, _, _ => none

theorem aIndex_ok {P : Program} {T : Tab} (hT : TabOk P T) {G : Ghost} {σ : Store} {w : World} (h : Rel G σ w) {t : TypeId} {id : Nat} {x ix v : AV} {u y : Value} (hx : Rep G x u) (hy : Rep G ix y)
    (ha : aIndex T t x ix = some v) : VRes G σ w σ id v ((Instr.index t u y).run P w) := by
  unfold aIndex at ha
  split at ha
  · rename_i len elem _ _ _ _ cs k n ht
    split at ha
    · rename_i ei he
      split at ha
      · rename_i hn
        cases hy
        cases hx with
        | agg cs vs h1 h2 =>
          obtain ⟨z, hz, hr⟩ := aPart_ok hT (P := P) (w := w) ⟨h1, h2⟩ ha
          simp only [Instr.index, asIntOf, Sem.run_bind, Sem.run_pure, Result.andThen_ok, run_und hT ht]
          rw [if_pos hn]
          simp only [Sem.run_bind, run_size hT he, Result.andThen_ok, hz]
          exact VRes.same hr h
      · cases ha
    · cases ha
  · rename_i _ _ _ _ s k n ht
    split at ha
    · rename_i hn
      split at ha
      · rename_i b hb
        cases ha
        cases hy
        cases hx
        simp only [Instr.index, asIntOf, Sem.run_bind, Sem.run_pure, Result.andThen_ok, run_und hT ht, hn, if_true, hb]
        exact VRes.same (.sc _) h
      · cases ha
    · cases ha
  · cases ha

/-- The bounds of a slice expression without a third index. -/
def bound (len : Nat) (x : Option AV) (dflt : Nat) : Option Nat :=
  match x with
  | none => some dflt
  | some (.sc (.int _ n)) => if 0 ≤ n ∧ n ≤ len then some n.toNat else none
  | _ => none

def aSlice (T : Tab) (t : TypeId) (x : AV) (lo hi mx : Option AV) : Option AV :=
  match mx, T t with
  | none, some { und := .slice elem, .. } =>
    match T elem, x with
    | some ei, .ms id size off len => if size = ei.size then
        match bound len hi len with
        | some h => match bound h lo 0 with
          | some l => some (.ms id size (off + l) (h - l))
          | none => none
        | none => none
      else none
    | some ei, .rs es => match bound es.length hi es.length with
      | some h => match bound h lo 0 with
        | some l => if es.all (fun c => c.length == ei.size) then some (.rs ((es.take h).drop l)) else none
        | none => none
      | none => none
    | some _, .sc (.slice none 0 0) => match bound 0 hi 0 with
      | some h => match bound h lo 0 with
        | some _ => some (.sc (.slice none 0 0))
        | none => none
      | none => none
    | _, _ => none
  | none, some { und := .string, .. } =>
    match x with
    | .sc (.string s) => match bound s.size hi s.size with
      | some h => match bound h lo 0 with
        | some l => some (.sc (.string (s.extract l h)))
        | none => none
      | none => none
    | _ => none
  | _, _ => none

/-- An optional operand. -/
def RepO (G : Ghost) (x : Option AV) (v : Option Value) : Prop :=
  match x, v with
  | none, none => True
  | some a, some b => Rep G a b
  | _, _ => False

theorem bound_inv {G : Ghost} {len d n : Nat} {x : Option AV} {v : Option Value} (hx : RepO G x v) (hb : bound len x d = some n) :
    (v = none ∧ n = d) ∨ ∃ k m, v = some (.int k m) ∧ 0 ≤ m ∧ m ≤ len ∧ n = m.toNat := by
  cases x with
  | none =>
    cases v with
    | none => simp [bound] at hb; exact .inl ⟨rfl, hb.symm⟩
    | some _ => exact hx.elim
  | some a =>
    cases v with
    | none => exact hx.elim
    | some b =>
      simp only [RepO] at hx
      unfold bound at hb
      split at hb
      · cases ‹some a = none›
      · rename_i k m e
        cases e
        split at hb
        · rename_i hm
          cases hb
          cases hx
          exact .inr ⟨k, m, rfl, hm.1, hm.2, rfl⟩
        · cases hb
      · cases hb

theorem run_sliceBounds {P : Program} {G : Ghost} {w : World} (isSlice : Bool) {len cap h l : Nat} {hi lo : Option AV} {hv lv : Option Value} (hh : RepO G hi hv) (hl : RepO G lo lv) (hlc : len ≤ cap)
    (b1 : bound len hi len = some h) (b2 : bound h lo 0 = some l) : (Instr.sliceBounds isSlice len cap lv hv none).run P w = .ok (l, h, cap) w ∧ h ≤ len ∧ l ≤ h := by
  rcases bound_inv hh b1 with ⟨rfl, rfl⟩ | ⟨k, m, rfl, h1, h2, rfl⟩
  · rcases bound_inv hl b2 with ⟨rfl, rfl⟩ | ⟨k', m', rfl, h3, h4, rfl⟩
    · exact ⟨by simp [Instr.sliceBounds], by omega, by omega⟩
    · refine ⟨?_, by omega, by omega⟩
      simp [Instr.sliceBounds, Instr.sliceBound, asIntOf, h3, h4]
  · have hmc : m ≤ (cap : Int) := by omega
    rcases bound_inv hl b2 with ⟨rfl, rfl⟩ | ⟨k', m', rfl, h3, h4, rfl⟩
    · exact ⟨by simp [Instr.sliceBounds, Instr.sliceBound, asIntOf, h1, hmc], by omega, by omega⟩
    · refine ⟨?_, by omega, by omega⟩
      have h5 : m' ≤ max m 0 := by omega
      simp [Instr.sliceBounds, Instr.sliceBound, asIntOf, h1, hmc, h3, h5]

theorem aSlice_ok {P : Program} {T : Tab} (hT : TabOk P T) {G : Ghost} {σ : Store} {w : World} (h : Rel G σ w) {t : TypeId} {id : Nat} {x v : AV} {lo hi mx : Option AV} {u : Value} {lv hv mv : Option Value} (hx : Rep G x u)
    (hl : RepO G lo lv) (hh : RepO G hi hv) (hm : RepO G mx mv)
    (ha : aSlice T t x lo hi mx = some v) : VRes G σ w σ id v ((Instr.sliceAt t u lv hv mv).run P w) := by
  unfold aSlice at ha
  split at ha
  · rename_i elem _ _ _ _ ht
    cases mv with
    | some _ => exact hm.elim
    | none =>
    split at ha
    · rename_i ei i size off len he
      split at ha
      case isFalse => cases ha
      rename_i hse
      split at ha
      · rename_i h' b1
        split at ha
        · rename_i l b2
          cases ha
          cases hx with
          | msNil _ _ p hp hvt =>
            obtain ⟨hr, h3, h4⟩ := run_sliceBounds (P := P) (w := w) (cap := 0) true hh hl (Nat.zero_le _) b1 b2
            obtain rfl : h' = 0 := by omega
            obtain rfl : l = 0 := by omega
            simp only [Instr.sliceAt, Instr.slice, Sem.run_bind, run_und hT ht, Result.andThen_ok, hr, run_size hT he, Sem.run_pure]
            exact VRes.same (.msNil _ _ p hp hvt) h
          | ms _ _ _ _ p hp hvt hz a c hA hoff hlc hsp =>
            obtain ⟨hr, h3, h4⟩ := run_sliceBounds (P := P) (w := w) (cap := c) true hh hl hlc b1 b2
            have hps : p.size = ei.size := by rw [hz]; exact hse
            simp only [Instr.sliceAt, Instr.slice, Sem.run_bind, run_und hT ht, Result.andThen_ok, hr, run_size hT he, Sem.run_pure]
            refine VRes.same ?_ h
            by_cases e : c = l
            · rw [if_pos e]
              exact .ms _ _ _ _ p hp hvt hz a (c - l) (fun hne => by omega) (by omega) (by omega) hsp
            · rw [if_neg e, hA (by omega)]
              simp only [Option.map_some, add_none]
              exact .ms _ _ _ _ p hp hvt hz _ (c - l) (fun _ => by rw [← hps, Nat.add_mul]) (by omega) (by omega) rfl
        · cases ha
      · cases ha
    · rename_i ei es he
      split at ha
      · rename_i h' b1
        split at ha
        · rename_i l b2
          split at ha
          · rename_i hall
            cases ha
            cases hx with
            | rsNil =>
              obtain ⟨hr, h3, h4⟩ := run_sliceBounds (P := P) (w := w) (cap := 0) true hh hl (Nat.zero_le _) b1 b2
              simp at h3; subst h3
              obtain rfl : l = 0 := by omega
              simp only [Instr.sliceAt, Instr.slice, Sem.run_bind, run_und hT ht, Result.andThen_ok, hr, run_size hT he, Sem.run_pure]
              exact VRes.same .rsNil h
            | rs es a cap size val hs hc hlen himm hrep =>
              obtain ⟨hr, h3, h4⟩ := run_sliceBounds (P := P) (w := w) (cap := cap) true hh hl hc b1 b2
              obtain ⟨b, o, sp⟩ := a
              simp only [Instr.sliceAt, Instr.slice, Sem.run_bind, run_und hT ht, Result.andThen_ok, hr, run_size hT he, Sem.run_pure]
              refine VRes.same ?_ h
              have hL : ((es.take h').drop l).length = h' - l := by simp; omega
              have hget : ∀ i (hi : i < ((es.take h').drop l).length), ((es.take h').drop l)[i] = es[l + i]'(by rw [hL] at hi; omega) := fun i hi => by simp
              by_cases e : cap = l
              · rw [if_pos e, ← hL]
                have h0 : h' - l = 0 := by omega
                exact .rs _ _ _ size val (fun h => absurd (by omega) h) (by rw [hL]; omega) (fun i hi => by rw [hL] at hi; omega) (fun i j hi => by rw [hL] at hi; omega) (fun i j hi => by rw [hL] at hi; omega)
              · rw [if_neg e]
                have hs := hs (by omega)
                simp at hs; subst hs
                simp only [Option.map_some, add_none]
                rw [← hL]
                refine .rs _ _ _ size (fun i j => val (l + i) j) (fun _ => rfl) (by rw [hL]; omega) (fun i hi => by rw [hget i hi]; exact hlen _ _) (fun i j hi hj => ?_) (fun i j hi hj => ?_)
                · rw [hL] at hi
                  have hse : size = ei.size := by
                    have := List.all_eq_true.1 hall (es[l + i]'(by omega)) (List.getElem_mem _)
                    rw [hlen] at this
                    simpa using this
                  have := himm (l + i) j (by omega) hj
                  rw [← hse]
                  rw [Nat.add_mul] at this
                  simpa [Nat.add_assoc] using this
                · have hi' := hi
                  rw [hL] at hi'
                  have := hrep (l + i) j (by omega) (by rw [hget i hi] at hj; exact hj)
                  simpa using this
          · cases ha
        · cases ha
      · cases ha
    · rename_i ei he
      split at ha
      · rename_i h' b1
        split at ha
        · rename_i l b2
          cases ha
          cases hx
          obtain ⟨hr, h3, h4⟩ := run_sliceBounds (P := P) (w := w) (cap := 0) true hh hl (Nat.zero_le _) b1 b2
          obtain rfl : h' = 0 := by omega
          obtain rfl : l = 0 := by omega
          simp only [Instr.sliceAt, Instr.slice, Sem.run_bind, run_und hT ht, Result.andThen_ok, hr, run_size hT he, Sem.run_pure]
          exact VRes.same (.sc _) h
        · cases ha
      · cases ha
    · cases ha
  · rename_i _ _ _ _ ht
    cases mv with
    | some _ => exact hm.elim
    | none =>
    split at ha
    · rename_i s
      split at ha
      · rename_i h' b1
        split at ha
        · rename_i l b2
          cases ha
          cases hx
          obtain ⟨hr, h3, h4⟩ := run_sliceBounds (P := P) (w := w) (cap := s.size) false hh hl (Nat.le_refl _) b1 b2
          simp only [Instr.sliceAt, Instr.slice, Sem.run_bind, run_und hT ht, Result.andThen_ok, Option.isSome_none, Bool.false_eq_true, if_false, hr, Sem.run_pure]
          exact VRes.same (.sc _) h
        · cases ha
      · cases ha
    · cases ha
  · cases ha

end Go.Ab
