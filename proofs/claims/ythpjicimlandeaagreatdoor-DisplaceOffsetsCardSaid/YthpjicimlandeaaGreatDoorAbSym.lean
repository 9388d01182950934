/- The abstract machine, part 33: states with variables: bounds, what is put in, numbers given anew by a look. -/
import Derived.Test.YthpjicimlandeaaGreatDoorAbB
set_option linter.unusedVariables false
set_option linter.unusedSimpArgs false
namespace Go.Ab
open Go

mutual
/-- All variables are below k. -/
def AV.bnd (k : Nat) : AV → Bool
  | .sy i => Nat.blt i k
  | .ss _ _ i => Nat.blt i k
  | .rs es => bndR k es
  | .rp cs => bndL k cs
  | .fn _ a c => bndL k a && bndL k c
  | .agg cs => bndL k cs
  | .tup cs => bndL k cs
  | _ => true
def bndL (k : Nat) : List AV → Bool
  | [] => true
  | c :: cs => c.bnd k && bndL k cs
def bndR (k : Nat) : List (List AV) → Bool
  | [] => true
  | c :: cs => bndL k c && bndR k cs
end

mutual
theorem sub_agree {θ θ' : Nat → AV} {k : Nat} (h : ∀ i, i < k → θ' i = θ i) : ∀ v : AV, v.bnd k = true → v.sub θ' = v.sub θ
  | .any, _ => by simp
  | .sc v, _ => by simp
  | .rs es, hb => by simp only [AV.sub]; rw [subR_agree h es (by simpa [AV.bnd] using hb)]
  | .rp cs, hb => by simp only [AV.sub]; rw [subL_agree h cs (by simpa [AV.bnd] using hb)]
  | .ms .., _ => by simp
  | .mp .., _ => by simp
  | .mm _, _ => by simp
  | .it _, _ => by simp
  | .fn f a c, hb => by
    simp only [AV.bnd, Bool.and_eq_true] at hb
    simp only [AV.sub]; rw [subL_agree h a hb.1, subL_agree h c hb.2]
  | .agg cs, hb => by simp only [AV.sub]; rw [subL_agree h cs (by simpa [AV.bnd] using hb)]
  | .tup cs, hb => by simp only [AV.sub]; rw [subL_agree h cs (by simpa [AV.bnd] using hb)]
  | .sy i, hb => by simp only [AV.bnd, Nat.blt_eq] at hb; simp [h i hb]
  | .ss id sz i, hb => by simp only [AV.bnd, Nat.blt_eq] at hb; simp [h i hb]
theorem subL_agree {θ θ' : Nat → AV} {k : Nat} (h : ∀ i, i < k → θ' i = θ i) : ∀ l : List AV, bndL k l = true → subL θ' l = subL θ l
  | [], _ => by simp [subL]
  | c :: cs, hb => by
    simp only [bndL, Bool.and_eq_true] at hb
    simp only [subL]; rw [sub_agree h c hb.1, subL_agree h cs hb.2]
theorem subR_agree {θ θ' : Nat → AV} {k : Nat} (h : ∀ i, i < k → θ' i = θ i) : ∀ l : List (List AV), bndR k l = true → subR θ' l = subR θ l
  | [], _ => by simp [subR]
  | c :: cs, hb => by
    simp only [bndR, Bool.and_eq_true] at hb
    simp only [subR]; rw [subL_agree h c hb.1, subR_agree h cs hb.2]
end

def AObj.bnd (k : Nat) : AObj → Bool
  | .row _ _ es => bndR k es
  | .map _ es _ => es.all fun e => e.2.1.bnd k
  | .xrow _ _ i => Nat.blt i k
  | _ => true
theorem AObj.sub_agree {θ θ' : Nat → AV} {k : Nat} (h : ∀ i, i < k → θ' i = θ i) (o : AObj) (hb : o.bnd k = true) : o.sub θ' = o.sub θ := by
  cases o with
  | row e z es => simp only [AObj.sub]; rw [← subR_eq, ← subR_eq, subR_agree h es hb]
  | map agg es c =>
    simp only [AObj.sub]
    congr 1
    apply List.map_congr_left
    intro e he
    rw [Go.Ab.sub_agree h _ (List.all_eq_true.1 hb e he)]
  | xrow e z i => simp only [AObj.bnd, Nat.blt_eq] at hb; simp only [AObj.sub]; rw [h i hb]
  | _ => rfl

def Tr.all {α : Type} (p : α → Bool) : Tr α → Bool
  | .leaf => true
  | .node v l r => (match v with | some x => p x | none => true) && l.all p && r.all p
theorem Tr.map_congr {α β : Type} {f g : α → β} {p : α → Bool} (h : ∀ x, p x = true → f x = g x) : ∀ t : Tr α, t.all p = true → t.map f = t.map g
  | .leaf, _ => rfl
  | .node v l r, hb => by
    simp only [Tr.all, Bool.and_eq_true] at hb
    simp only [Tr.map]
    rw [Tr.map_congr h l hb.1.2, Tr.map_congr h r hb.2]
    cases v with
    | none => rfl
    | some x => simp [h x hb.1.1]

def AS.bnd (k : Nat) (s : AS) : Bool := s.tr.all (AV.bnd k) && s.st.tr.all (AObj.bnd k)
theorem AS.sub_agree {θ θ' : Nat → AV} {k : Nat} (h : ∀ i, i < k → θ' i = θ i) {s : AS} (hb : s.bnd k = true) : s.sub θ' = s.sub θ := by
  simp only [AS.bnd, Bool.and_eq_true] at hb
  simp only [AS.sub, Store.sub]
  rw [Tr.map_congr (Go.Ab.sub_agree h) _ hb.1, Tr.map_congr (AObj.sub_agree h) _ hb.2]
theorem Store.sub_agree {θ θ' : Nat → AV} {k : Nat} (h : ∀ i, i < k → θ' i = θ i) {s : AS} (hb : s.bnd k = true) : s.st.sub θ' = s.st.sub θ := by
  have := AS.sub_agree h hb
  have h2 := congrArg AS.st this
  simpa using h2

/-! ### what is put in for variables, itself with variables -/

mutual
def AV.ssub (η : Nat → AV) : AV → AV
  | .rs es => .rs (ssubR η es)
  | .rp cs => .rp (ssubL η cs)
  | .fn f a c => .fn f (ssubL η a) (ssubL η c)
  | .agg cs => .agg (ssubL η cs)
  | .tup vs => .tup (ssubL η vs)
  | .sy i => η i
  | .ss id sz i => match η i with
    | .sy j => .ss id sz j
    | .rs es => .ms id sz 0 es.length
    | _ => .ms id sz 0 0
  | v => v
def ssubL (η : Nat → AV) : List AV → List AV
  | [] => []
  | c :: cs => c.ssub η :: ssubL η cs
def ssubR (η : Nat → AV) : List (List AV) → List (List AV)
  | [] => []
  | c :: cs => ssubL η c :: ssubR η cs
end

mutual
theorem ssub_sub (η θ : Nat → AV) : ∀ v : AV, (v.ssub η).sub θ = v.sub (fun i => (η i).sub θ)
  | .any => by simp [AV.ssub]
  | .sc v => by simp [AV.ssub]
  | .rs es => by simp only [AV.ssub, AV.sub]; rw [ssubR_sub η θ es]
  | .rp cs => by simp only [AV.ssub, AV.sub]; rw [ssubL_sub η θ cs]
  | .ms .. => by simp [AV.ssub]
  | .mp .. => by simp [AV.ssub]
  | .mm _ => by simp [AV.ssub]
  | .it _ => by simp [AV.ssub]
  | .fn f a c => by simp only [AV.ssub, AV.sub]; rw [ssubL_sub η θ a, ssubL_sub η θ c]
  | .agg cs => by simp only [AV.ssub, AV.sub]; rw [ssubL_sub η θ cs]
  | .tup cs => by simp only [AV.ssub, AV.sub]; rw [ssubL_sub η θ cs]
  | .sy i => by simp [AV.ssub]
  | .ss id sz i => by
    simp only [AV.ssub, sub_ss]
    cases η i <;> simp [rowsOf]
theorem ssubL_sub (η θ : Nat → AV) : ∀ l : List AV, subL θ (ssubL η l) = subL (fun i => (η i).sub θ) l
  | [] => by simp [subL, ssubL]
  | c :: cs => by simp only [subL, ssubL]; rw [ssub_sub η θ c, ssubL_sub η θ cs]
theorem ssubR_sub (η θ : Nat → AV) : ∀ l : List (List AV), subR θ (ssubR η l) = subR (fun i => (η i).sub θ) l
  | [] => by simp [subR, ssubR]
  | c :: cs => by simp only [subR, ssubR]; rw [ssubL_sub η θ c, ssubR_sub η θ cs]
end

def AObj.ssub (η : Nat → AV) : AObj → AObj
  | .row e s es => .row e s (ssubR η es)
  | .map agg es c => .map agg (es.map fun e => (e.1, e.2.1.ssub η, e.2.2)) c
  | .xrow e s i => match η i with
    | .sy j => .xrow e s j
    | .rs es => .row e s es
    | _ => .row e s []
  | o => o
theorem AObj.ssub_sub (η θ : Nat → AV) (o : AObj) : (o.ssub η).sub θ = o.sub (fun i => (η i).sub θ) := by
  cases o with
  | row e z es => simp only [AObj.ssub, AObj.sub, ← subR_eq]; rw [ssubR_sub]
  | map agg es c =>
    simp only [AObj.ssub, AObj.sub, List.map_map]
    congr 1
    apply List.map_congr_left
    intro e _
    simp [Go.Ab.ssub_sub]
  | xrow e z i => simp only [AObj.ssub, AObj.sub]; cases η i <;> simp [AObj.sub, rowsOf]
  | _ => rfl

def AS.ssub (η : Nat → AV) (s : AS) : AS := { n := s.n, tr := s.tr.map (AV.ssub η), st := { next := s.st.next, tr := s.st.tr.map (AObj.ssub η), low := s.st.low } }
theorem Tr.map_map {α β γ : Type} (f : α → β) (g : β → γ) : ∀ t : Tr α, (t.map f).map g = t.map (fun x => g (f x))
  | .leaf => rfl
  | .node v l r => by simp only [Tr.map]; rw [Tr.map_map f g l, Tr.map_map f g r]; cases v <;> rfl
theorem AS.ssub_sub (η θ : Nat → AV) (s : AS) : (s.ssub η).sub θ = s.sub (fun i => (η i).sub θ) := by
  simp only [AS.ssub, AS.sub, Store.sub, Tr.map_map]
  have h1 : (fun x => AV.sub θ (AV.ssub η x)) = AV.sub (fun i => (η i).sub θ) := funext fun x => Go.Ab.ssub_sub η θ x
  have h2 : (fun x => AObj.sub θ (AObj.ssub η x)) = AObj.sub (fun i => (η i).sub θ) := funext fun x => AObj.ssub_sub η θ x
  rw [h1, h2]

def instB (j : Nat) (b : Bool) (i : Nat) : AV := bif Nat.beq i j then .sc (.bool b) else .sy i
theorem inst_sub {θ : Nat → AV} {j : Nat} {b : Bool} (h : θ j = .sc (.bool b)) (s : AS) : (s.ssub (instB j b)).sub θ = s.sub θ := by
  rw [AS.ssub_sub]
  congr 1
  funext i
  unfold instB
  cases hij : Nat.beq i j with
  | true => have := Nat.eq_of_beq_eq_true hij; subst this; simp [h]
  | false => simp

/-! ### numbers given anew -/

abbrev Ren1 := Nat → Option (Option Nat)

def pointsTo (ι : Ren1) (i k : Nat) : Bool := match ι i with | some (some j) => Nat.beq j k | _ => false
def pointsNo (ι : Ren1) (i : Nat) : Bool := match ι i with | some none => true | _ => false
theorem pointsTo_eq {ι : Ren1} {i k : Nat} (h : pointsTo ι i k = true) : ι i = some (some k) := by
  unfold pointsTo at h
  split at h
  · rename_i j hj; rw [hj, Nat.eq_of_beq_eq_true h]
  · cases h
theorem pointsNo_eq {ι : Ren1} {i : Nat} (h : pointsNo ι i = true) : ι i = some none := by
  unfold pointsNo at h
  split at h
  · rename_i hj; exact hj
  · cases h

def fnB : Fn → Fn → Bool
  | .func a, .func b => Nat.beq a b
  | _, _ => false
theorem fnB_eq {a b : Fn} (h : fnB a b = true) : a = b := by
  unfold fnB at h
  split at h
  · rw [Nat.eq_of_beq_eq_true h]
  · cases h

def undB : Value → Value → Bool
  | .tuple a, .tuple b => Nat.beq a.size 0 && Nat.beq b.size 0
  | .pointer none, .pointer none => true
  | a, b => vbeq a b
theorem undB_eq {a b : Value} (h : undB a b = true) : a = b := by
  unfold undB at h
  split at h
  · rename_i a b
    simp only [Bool.and_eq_true] at h
    have h1 : a = #[] := Array.eq_empty_of_size_eq_zero (Nat.eq_of_beq_eq_true h.1)
    have h2 : b = #[] := Array.eq_empty_of_size_eq_zero (Nat.eq_of_beq_eq_true h.2)
    rw [h1, h2]
  · rfl
  · exact vbeq_eq h

mutual
def renB (ι : Ren1) : AV → AV → Bool
  | .any, _ => true
  | .sc v, .sc v' => undB v v'
  | .rs es, .rs es' => renR ι es es'
  | .rp cs, .rp cs' => renL ι cs cs'
  | .ms id z o l, .ms id' z' o' l' => pointsTo ι id id' && Nat.beq z z' && Nat.beq o o' && Nat.beq l l'
  | .ms id _ o l, .sc (.slice none 0 0) => pointsNo ι id && Nat.beq o 0 && Nat.beq l 0
  | .mp id i j, .mp id' i' j' => pointsTo ι id id' && Nat.beq i i' && Nat.beq j j'
  | .mm id, .mm id' => pointsTo ι id id'
  | .it id, .it id' => pointsTo ι id id'
  | .fn f a c, .fn f' a' c' => fnB f f' && renL ι a a' && renL ι c c'
  | .agg cs, .agg cs' => renL ι cs cs'
  | .tup cs, .tup cs' => renL ι cs cs'
  | .sy i, .sy i' => Nat.beq i i'
  | .ss id z i, .ss id' z' i' => pointsTo ι id id' && Nat.beq z z' && Nat.beq i i'
  | _, _ => false
def renL (ι : Ren1) : List AV → List AV → Bool
  | [], [] => true
  | a :: as, b :: bs => renB ι a b && renL ι as bs
  | _, _ => false
def renR (ι : Ren1) : List (List AV) → List (List AV) → Bool
  | [], [] => true
  | a :: as, b :: bs => renL ι a b && renR ι as bs
  | _, _ => false
end

def RVs (ι : Ren1) (as bs : List AV) : Prop := as.length = bs.length ∧ ∀ i (h : i < as.length) (h' : i < bs.length), RV ι as[i] bs[i]
theorem RVs.cons {ι : Ren1} {a b : AV} {as bs : List AV} (h : RV ι a b) (hs : RVs ι as bs) : RVs ι (a :: as) (b :: bs) := by
  refine ⟨by simp [hs.1], fun i h1 h2 => ?_⟩
  cases i with
  | zero => exact h
  | succ i => exact hs.2 i (by simpa using h1) (by simpa using h2)
def RVr (ι : Ren1) (as bs : List (List AV)) : Prop := as.length = bs.length ∧ ∀ i (h : i < as.length) (h' : i < bs.length), RVs ι as[i] bs[i]

theorem RV.fit {ι : Ren1} {v : AV} (h : Fit1 v) : RV ι v v := fun G _ hr => pur_rep (G := G) (G' := G.ren ι) (fun _ _ hh => hh) hr h.pur

theorem RV.rs {ι : Ren1} {es es' : List (List AV)} (h : RVr ι es es') : RV ι (.rs es) (.rs es') := by
  intro G u hr
  cases hr with
  | rsNil => have : es = [] := List.eq_nil_of_length_eq_zero (by simpa using h.1); subst this; exact .rsNil
  | rs _ a cap size val hs hc hlen himm hrep =>
    rw [← h.1]
    have hl := h.1
    refine .rs es a cap size val hs (by omega) (fun i hi => ?_) (fun i j hi hj => himm i j (by omega) hj) (fun i j hi hj => ?_)
    · rw [(h.2 i hi (by omega)).1]; exact hlen i (by omega)
    · have h2 := h.2 i hi (by omega)
      exact h2.2 j hj (by rw [← h2.1]; exact hj) G _ (hrep i j (by omega) (by rw [← h2.1]; exact hj))

mutual
theorem renB_ok {θ : Nat → AV} (hθ : Fit θ) {ι : Ren1} : ∀ (a b : AV), renB ι a b = true → RV ι (a.sub θ) (b.sub θ)
  | .any, b, _ => fun G u _ => by rw [sub_any]; exact .any u
  | .sc v, b, h => by
    cases b with
    | sc v' => simp only [renB] at h; rw [undB_eq h]; intro G u hr; simp only [sub_sc] at *; cases hr; exact .sc _
    | _ => simp [renB] at h
  | .rs es, b, h => by
    cases b with
    | rs es' => simp only [renB] at h; simp only [AV.sub]; exact RV.rs (renR_ok hθ es es' h)
    | _ => simp [renB] at h
  | .rp cs, b, h => by
    cases b with
    | rp cs' =>
      simp only [renB] at h
      have hl := renL_ok hθ cs cs' h
      simp only [AV.sub]
      intro G u hr
      cases hr with
      | rp _ a val hs himm hrep => exact .rp _ a val hs (fun j hj => himm j (by rw [← hl.1]; exact hj)) (fun j hj => hl.2 j hj (by rw [← hl.1]; exact hj) G _ (hrep j (by rw [← hl.1]; exact hj)))
    | _ => simp [renB] at h
  | .ms id z o l, b, h => by
    cases b with
    | ms id' z' o' l' =>
      simp only [renB, Bool.and_eq_true] at h
      have h1 := pointsTo_eq h.1.1.1
      have h2 := Nat.eq_of_beq_eq_true h.1.1.2
      have h3 := Nat.eq_of_beq_eq_true h.1.2
      have h4 := Nat.eq_of_beq_eq_true h.2
      subst h2; subst h3; subst h4
      intro G u hr
      simp only [sub_ms] at *
      cases hr with
      | ms _ _ _ _ p hp hv hz a c ha ho hl hsp => exact .ms id z o l p (by simp only [Ghost.ren, h1]; exact hp) hv hz a c ha ho hl hsp
      | msNil _ _ p hp hv => exact .msNil id z p (by simp only [Ghost.ren, h1]; exact hp) hv
    | sc v =>
      have hv : v = .slice none 0 0 ∧ (pointsNo ι id && Nat.beq o 0 && Nat.beq l 0) = true := by
        cases v with
        | slice a b c =>
          cases a with
          | none =>
            cases b with
            | zero => cases c with
              | zero => exact ⟨rfl, by simpa only [renB] using h⟩
              | succ c => simp [renB] at h
            | succ b => simp [renB] at h
          | some a => simp [renB] at h
        | _ => simp [renB] at h
      obtain ⟨rfl, hh⟩ := hv
      rw [Bool.and_eq_true, Bool.and_eq_true] at hh
      have h1 := pointsNo_eq hh.1.1
      have h3 := Nat.eq_of_beq_eq_true hh.1.2
      have h4 := Nat.eq_of_beq_eq_true hh.2
      subst h3; subst h4
      rw [sub_ms, sub_sc]
      intro G u hr
      cases hr
      exact .msNil id z ⟨0, 0, 0, true⟩ (by simp only [Ghost.ren, h1]) rfl
    | _ => simp [renB] at h
  | .mp id i j, b, h => by
    cases b with
    | mp id' i' j' =>
      simp only [renB, Bool.and_eq_true] at h
      have h1 := pointsTo_eq h.1.1
      have h2 := Nat.eq_of_beq_eq_true h.1.2
      have h3 := Nat.eq_of_beq_eq_true h.2
      subst h2; subst h3
      intro G u hr
      simp only [sub_mp] at *
      cases hr with
      | mp _ _ _ p hp => exact .mp id i j p (by simp only [Ghost.ren, h1]; exact hp)
    | _ => simp [renB] at h
  | .mm id, b, h => by
    cases b with
    | mm id' =>
      simp only [renB] at h
      have h1 := pointsTo_eq h
      intro G u hr
      simp only [sub_mm] at *
      cases hr with
      | mm _ p hp => exact .mm id p (by simp only [Ghost.ren, h1]; exact hp)
    | _ => simp [renB] at h
  | .it id, b, h => by
    cases b with
    | it id' =>
      simp only [renB] at h
      have h1 := pointsTo_eq h
      intro G u hr
      simp only [sub_it] at *
      cases hr with
      | it _ p hp => exact .it id p (by simp only [Ghost.ren, h1]; exact hp)
    | _ => simp [renB] at h
  | .fn f a c, b, h => by
    cases b with
    | fn f' a' c' =>
      simp only [renB, Bool.and_eq_true] at h
      have h1 := fnB_eq h.1.1
      subst h1
      have ha := renL_ok hθ a a' h.1.2
      have hc := renL_ok hθ c c' h.2
      simp only [AV.sub]
      intro G u hr
      cases hr with
      | fn _ _ _ fv cv l1 l2 r1 r2 =>
        exact .fn f _ _ fv cv (by rw [l1, ha.1]) (by rw [l2, hc.1]) (fun i hi hi' => ha.2 i hi (by rw [← ha.1]; exact hi) G _ (r1 i (by rw [← ha.1]; exact hi) hi')) (fun i hi hi' => hc.2 i hi (by rw [← hc.1]; exact hi) G _ (r2 i (by rw [← hc.1]; exact hi) hi'))
    | _ => simp [renB] at h
  | .agg cs, b, h => by
    cases b with
    | agg cs' =>
      simp only [renB] at h
      have hl := renL_ok hθ cs cs' h
      simp only [AV.sub]
      intro G u hr
      cases hr with
      | agg _ vs l1 r1 => exact .agg _ vs (by rw [l1, hl.1]) (fun i hi hi' => hl.2 i hi (by rw [← hl.1]; exact hi) G _ (r1 i (by rw [← hl.1]; exact hi) hi'))
    | _ => simp [renB] at h
  | .tup cs, b, h => by
    cases b with
    | tup cs' =>
      simp only [renB] at h
      have hl := renL_ok hθ cs cs' h
      simp only [AV.sub]
      intro G u hr
      cases hr with
      | tup _ vs l1 r1 => exact .tup _ vs (by rw [l1, hl.1]) (fun i hi hi' => hl.2 i hi (by rw [← hl.1]; exact hi) G _ (r1 i (by rw [← hl.1]; exact hi) hi'))
    | _ => simp [renB] at h
  | .sy i, b, h => by
    cases b with
    | sy i' => simp only [renB] at h; rw [← Nat.eq_of_beq_eq_true h, sub_sy]; exact RV.fit (hθ i)
    | _ => simp [renB] at h
  | .ss id z i, b, h => by
    cases b with
    | ss id' z' i' =>
      simp only [renB, Bool.and_eq_true] at h
      have h1 := pointsTo_eq h.1.1
      have h2 := Nat.eq_of_beq_eq_true h.1.2
      have h3 := Nat.eq_of_beq_eq_true h.2
      subst h2; subst h3
      intro G u hr
      simp only [sub_ss] at *
      generalize (rowsOf (θ i)).length = l at *
      cases hr with
      | ms _ _ _ _ p hp hv hz a c ha ho hl hsp => exact .ms id z 0 l p (by simp only [Ghost.ren, h1]; exact hp) hv hz a c ha ho hl hsp
      | msNil _ _ p hp hv => exact .msNil id z p (by simp only [Ghost.ren, h1]; exact hp) hv
    | _ => simp [renB] at h
theorem renL_ok {θ : Nat → AV} (hθ : Fit θ) {ι : Ren1} : ∀ (a b : List AV), renL ι a b = true → RVs ι (subL θ a) (subL θ b)
  | [], b, h => by
    cases b with
    | nil => exact ⟨rfl, fun i hi => by simp [subL] at hi⟩
    | cons _ _ => simp [renL] at h
  | a :: as, b, h => by
    cases b with
    | nil => simp [renL] at h
    | cons b bs =>
      simp only [renL, Bool.and_eq_true] at h
      simp only [subL]
      exact (renB_ok hθ a b h.1 : RV ι _ _) |> fun h1 => RVs.cons h1 (renL_ok hθ as bs h.2)
theorem renR_ok {θ : Nat → AV} (hθ : Fit θ) {ι : Ren1} : ∀ (a b : List (List AV)), renR ι a b = true → RVr ι (subR θ a) (subR θ b)
  | [], b, h => by
    cases b with
    | nil => exact ⟨rfl, fun i hi => by simp [subR] at hi⟩
    | cons _ _ => simp [renR] at h
  | a :: as, b, h => by
    cases b with
    | nil => simp [renR] at h
    | cons b bs =>
      simp only [renR, Bool.and_eq_true] at h
      simp only [subR]
      have h1 := renL_ok hθ a b h.1
      have h2 := renR_ok hθ as bs h.2
      refine ⟨by simp [h2.1], fun i hi hi' => ?_⟩
      cases i with
      | zero => exact h1
      | succ i => exact h2.2 i (by simpa using hi) (by simpa using hi')
end

end Go.Ab
