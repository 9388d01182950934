/- The abstract machine, part 31: an operation that succeeds on values with variables does the same whatever stands in their place. -/
import Derived.Test.YthpjicimlandeaaGreatDoorAbSub
set_option linter.unusedVariables false
set_option linter.unusedSimpArgs false
namespace Go.Ab
open Go

section
variable {θ : Nat → AV}

theorem scs_sub (l : List Value) : (l.map AV.sc).map (AV.sub θ) = l.map AV.sc := by simp
theorem zeroCells_sub (ti : TI) : ti.zeroCells.map (AV.sub θ) = ti.zeroCells := scs_sub _
theorem zeroAV_sub (ti : TI) : ti.zeroAV.sub θ = ti.zeroAV := ofValue_sub θ _

theorem aAlloc_sub {T : Tab} {σ σ' : Store} {id : Nat} {t : TypeId} {v : AV} (h : aAlloc T σ id t = some (v, σ')) : aAlloc T (σ.sub θ) id t = some (v.sub θ, σ'.sub θ) := by
  unfold aAlloc at *
  split at h
  · cases h; simp [Store.sub_set, AObj.sub, zeroCells_sub]
  · cases h

theorem cellsLoad_sub {ti : TI} {cs : List AV} {j : Nat} {v : AV} (h : cellsLoad ti cs j = some v) : cellsLoad ti (cs.map (AV.sub θ)) j = some (v.sub θ) := by
  unfold cellsLoad at *
  split at h
  · rename_i ha
    rw [if_pos ha]
    split at h
    · rename_i hl
      cases h
      rw [if_pos (by simpa using hl)]; simp [List.map_take, List.map_drop]
    · cases h
  · rename_i ha
    rw [if_neg ha]
    simp [h]

theorem aLoad_sub {T : Tab} {σ : Store} {t : TypeId} {x v : AV} (h : aLoad T σ t x = some v) : aLoad T (σ.sub θ) t (x.sub θ) = some (v.sub θ) := by
  unfold aLoad at h
  split at h
  · split at h
    · rename_i elem size es ho
      split at h
      · rename_i cs hcs
        split at h
        · rename_i ti ht
          simp only [aLoad, sub_mp, Store.sub_objs, ho, Option.map_some, AObj.sub, List.getElem?_map, hcs, ht]
          exact cellsLoad_sub h
        · cases h
      · cases h
    · cases h
  · split at h
    · rename_i ti ht
      simp only [aLoad, sub_rp, ht]
      exact cellsLoad_sub h
    · cases h
  · cases h

theorem aFieldAddr_sub {T : Tab} {s : TypeId} {x v : AV} {f : Nat} (h : aFieldAddr T s x f = some v) : aFieldAddr T s (x.sub θ) f = some (v.sub θ) := by
  unfold aFieldAddr at h
  split at h
  · rename_i fields _ _ _ _ hs
    split at h
    · rename_i fd hf
      split at h
      · rename_i fi hfi
        split at h
        · cases h
        · rename_i hz
          split at h
          · cases h
            simp only [aFieldAddr, hs, hf, hfi, sub_mp]; rw [if_neg hz]
          · split at h
            · rename_i hl
              cases h
              simp only [aFieldAddr, hs, hf, hfi, sub_rp]
              rw [if_neg hz]
              simp [hl, List.map_drop]
            · cases h
          · cases h
      · cases h
    · cases h
  · cases h

theorem aPart_sub {T : Tab} {t : TypeId} {cs : List AV} {off : Nat} {v : AV} (h : aPart T t cs off = some v) : aPart T t (cs.map (AV.sub θ)) off = some (v.sub θ) := by
  unfold aPart at *
  split at h
  · rename_i ti ht; exact cellsLoad_sub h
  · cases h

theorem aField_sub {T : Tab} {s : TypeId} {x v : AV} {f : Nat} (h : aField T s x f = some v) : aField T s (x.sub θ) f = some (v.sub θ) := by
  unfold aField at h
  split at h
  · rename_i fields _ _ _ _ cs hs
    split at h
    · rename_i fd hf
      simp only [aField, hs, sub_agg, hf]
      exact aPart_sub h
    · cases h
  · cases h

theorem aIndexAddr_sub {T : Tab} {t : TypeId} {x ix v : AV} (h : aIndexAddr T t x ix = some v) : aIndexAddr T t (x.sub θ) (ix.sub θ) = some (v.sub θ) := by
  unfold aIndexAddr at h
  split at h
  · rename_i elem _ _ _ _ k n ht
    split at h
    · rename_i ei he
      split at h
      · rename_i id size off len
        split at h
        · rename_i hn
          cases h
          simp [aIndexAddr, ht, he, hn]
        · cases h
      · rename_i es
        split at h
        · rename_i hn
          split at h
          · rename_i cs hcs
            split at h
            · rename_i hl
              cases h
              simp [aIndexAddr, ht, he, hn, List.getElem?_map, hcs, hl]
            · cases h
          · cases h
        · cases h
      · cases h
    · cases h
  · rename_i len elem _ _ _ _ k n ht
    split at h
    · rename_i ei he
      split at h
      · rename_i hn
        split at h
        · cases h
          simp [aIndexAddr, ht, he, hn]
        · split at h
          · rename_i hl
            cases h
            simp [aIndexAddr, ht, he, hn, hl, List.map_drop]
          · cases h
        · cases h
      · cases h
    · cases h
  · cases h

theorem aIndex_sub {T : Tab} {t : TypeId} {x ix v : AV} (h : aIndex T t x ix = some v) : aIndex T t (x.sub θ) (ix.sub θ) = some (v.sub θ) := by
  unfold aIndex at h
  split at h
  · rename_i len elem _ _ _ _ cs k n ht
    split at h
    · rename_i ei he
      split at h
      · rename_i hn
        simp only [aIndex, ht, he, sub_agg, sub_sc]
        rw [if_pos hn]; exact aPart_sub h
      · cases h
    · cases h
  · rename_i ht
    split at h
    · rename_i hn
      split at h
      · rename_i b hb
        cases h
        simp [aIndex, ht, hn, hb]
      · cases h
    · cases h
  · cases h

theorem bound_sub {len : Nat} {x : Option AV} {d n : Nat} (h : bound len x d = some n) : bound len (x.map (AV.sub θ)) d = some n := by
  unfold bound at h
  split at h
  · simpa [bound] using h
  · split at h
    · rename_i hn; simpa [bound, hn] using h
    · cases h
  · cases h

theorem aSlice_sub {T : Tab} {t : TypeId} {x v : AV} {lo hi mx : Option AV} (h : aSlice T t x lo hi mx = some v) : aSlice T t (x.sub θ) (lo.map (AV.sub θ)) (hi.map (AV.sub θ)) (mx.map (AV.sub θ)) = some (v.sub θ) := by
  unfold aSlice at h
  split at h
  · rename_i elem _ _ _ _ ht
    split at h
    · rename_i ei id size off len he
      split at h
      · rename_i hs
        split at h
        · rename_i hh b1
          split at h
          · rename_i l b2
            cases h
            simp [aSlice, ht, he, hs, bound_sub b1, bound_sub b2]
          · cases h
        · cases h
      · cases h
    · rename_i ei es he
      split at h
      · rename_i hh b1
        split at h
        · rename_i l b2
          split at h
          · rename_i hall
            cases h
            have hall' : ((es.map (List.map (AV.sub θ))).all fun c => c.length == ei.size) = true := by
              rw [List.all_map]; simpa [Function.comp_def] using hall
            simp only [aSlice, Option.map_none, ht, he, sub_rs, List.length_map, bound_sub b1, bound_sub b2]
            rw [if_pos hall']; simp [List.map_take, List.map_drop]
          · cases h
        · cases h
      · cases h
    · rename_i he
      split at h
      · rename_i hh b1
        split at h
        · rename_i l b2
          cases h
          simp [aSlice, ht, he, bound_sub b1, bound_sub b2]
        · cases h
      · cases h
    · cases h
  · rename_i ht
    split at h
    · rename_i s
      split at h
      · rename_i hh b1
        split at h
        · rename_i l b2
          cases h
          simp [aSlice, ht, bound_sub b1, bound_sub b2]
        · cases h
      · cases h
    · cases h
  · cases h

theorem i64s_sub : ∀ {cs : List AV} {l : List Int}, AV.i64s cs = some l → cs.map (AV.sub θ) = cs
  | [], _, _ => rfl
  | c :: cs, l, h => by
    unfold AV.i64s at h
    split at h
    · rename_i e; cases e
    · rename_i n cs' e
      cases e
      split at h
      · rename_i l' hl
        simp [i64s_sub hl]
      · cases h
    · cases h

theorem isNil_sub {x : AV} {b : Bool} (h : x.isNil = some b) : (x.sub θ).isNil = some b := by
  unfold AV.isNil at h
  split at h
  · simpa [AV.isNil] using h
  · simpa [AV.isNil] using h
  · simpa [AV.isNil] using h
  · cases h

theorem aBin_nil (T : Tab) (op : BinOp) (t : TypeId) (z : AV) : aBin T op t z (.sc (.slice none 0 0)) = (match T t, z.isNil with
    | some { und := .slice _, .. }, some b => match op with
      | .eql => some (.sc (.bool b))
      | .neq => some (.sc (.bool !b))
      | _ => none
    | _, _ => none) := by cases z <;> first | rfl | (rename_i v; cases v <;> rfl)

theorem aBin_sub {T : Tab} {op : BinOp} {t : TypeId} {x y v : AV} (h : aBin T op t x y = some v) : aBin T op t (x.sub θ) (y.sub θ) = some (v.sub θ) := by
  have h0 := h
  unfold aBin at h
  split at h
  · split at h
    · rename_i e _ _ _ _ b ht hb
      have hb' := isNil_sub (θ := θ) hb
      rw [sub_sc, aBin_nil, ht, hb']
      simp only
      split at h
      · cases h; rfl
      · cases h; rfl
      · cases h
    · cases h
  · rename_i a b _
    rw [sub_sc, sub_sc, h0]
    split at h
    · split at h
      · cases h; rfl
      · cases h; rfl
      · cases h
    · cases h
  · rename_i a b hn1 hn2
    rw [sub_sc, sub_sc, h0]
    split at h
    · cases h; rfl
    · cases h
  · rename_i cs ds
    split at h
    · rename_i as bs ti h1 h2 h3
      rw [sub_agg, sub_agg, i64s_sub h1, i64s_sub h2, h0]
      split at h
      · split at h
        · cases h; rfl
        · cases h; rfl
        · cases h
      · cases h
    · cases h
  · cases h

theorem aUn_sub {op : UnOp} {x v : AV} (h : aUn op x = some v) : aUn op (x.sub θ) = some (v.sub θ) := by
  unfold aUn at h
  split at h
  · cases h; simp [aUn]
  · cases h; simp [aUn]
  · cases h

theorem aConv_sub {T : Tab} {s d : TypeId} {x v : AV} (h : aConv T s d x = some v) : aConv T s d (x.sub θ) = some (v.sub θ) := by
  unfold aConv at h
  split at h
  · rename_i h1 h2
    cases h
    simp [aConv, h1, h2]
  · cases h

theorem aExtract_sub {x v : AV} {i : Nat} (h : aExtract x i = some v) : aExtract (x.sub θ) i = some (v.sub θ) := by
  unfold aExtract at h
  split at h
  · simp [aExtract, h]
  · cases h

theorem splice_sub (cs : List AV) (j : Nat) (vs : List AV) : (splice cs j vs).map (AV.sub θ) = splice (cs.map (AV.sub θ)) j (vs.map (AV.sub θ)) := by
  simp [splice, List.map_take, List.map_drop]

variable (hθ : Fit θ)
include hθ

theorem aBox_sub {σ σ' : Store} {id : Nat} {t : TypeId} {x v : AV} (h : aBox σ id t x = some (v, σ')) : aBox (σ.sub θ) id t (x.sub θ) = some (v.sub θ, σ'.sub θ) := by
  unfold aBox at h
  split at h
  · rename_i cs hc
    cases h
    simp [aBox, cells_sub hθ hc, Store.sub_set, AObj.sub]
  · cases h

theorem all_one_sub {vs : List AV} (h : vs.all AV.one = true) : (vs.map (AV.sub θ)).all AV.one = true := by
  rw [List.all_map, List.all_eq_true]
  intro v hv
  exact one_sub hθ (List.all_eq_true.1 h v hv)

theorem aStore_sub {T : Tab} {σ σ' : Store} {t : TypeId} {x v : AV} (h : aStore T σ t x v = some σ') : aStore T (σ.sub θ) t (x.sub θ) (v.sub θ) = some (σ'.sub θ) := by
  unfold aStore at h
  split at h
  · rename_i id i j vs ti hc ht
    split at h
    · rename_i elem size es ho
      split at h
      · rename_i cs hcs
        split at h
        · rename_i hcond
          cases h
          simp only [aStore, sub_mp, cells_sub hθ hc, ht, Store.sub_objs, ho, Option.map_some, AObj.sub, List.getElem?_map, hcs, List.length_map]
          rw [if_pos ⟨hcond.1, hcond.2.1, all_one_sub hθ hcond.2.2⟩]
          rw [Store.sub_set]
          simp [AObj.sub, splice_sub, List.map_set]
        · cases h
      · cases h
    · cases h
  · cases h

theorem afill_sub {place : Nat → Option (Nat × Nat)} : ∀ {parts : List (Nat × AV)} {cells cs : List AV}, afill place cells parts = some cs → afill place (cells.map (AV.sub θ)) (parts.map fun p => (p.1, p.2.sub θ)) = some (cs.map (AV.sub θ))
  | [], cells, cs, h => by simp only [afill, Option.some.injEq] at h; subst h; simp [afill]
  | (i, v) :: rest, cells, cs, h => by
    unfold afill at h
    split at h
    · rename_i off size vs hp hv
      split at h
      · rename_i hc
        simp only [List.map_cons, afill, hp, cells_sub hθ hv, List.length_map]
        rw [if_pos hc]
        have := afill_sub h
        rwa [splice_sub] at this
      · cases h
    · cases h

theorem setElems_sub {size : Nat} : ∀ {parts : List (Nat × AV)} {es rs : List (List AV)}, setElems size es parts = some rs → setElems size (es.map (List.map (AV.sub θ))) (parts.map fun p => (p.1, p.2.sub θ)) = some (rs.map (List.map (AV.sub θ)))
  | [], es, rs, h => by simp only [setElems, Option.some.injEq] at h; subst h; simp [setElems]
  | (i, v) :: rest, es, rs, h => by
    unfold setElems at h
    split at h
    · rename_i vs hv
      split at h
      · rename_i hc
        simp only [List.map_cons, setElems, cells_sub hθ hv, List.length_map]
        rw [if_pos hc]
        have := setElems_sub h
        rwa [List.map_set] at this
      · cases h
    · cases h

theorem aBuild_sub {T : Tab} {t : TypeId} {parts : List (Nat × AV)} {v : AV} (h : aBuild T t parts = some v) : aBuild T t (parts.map fun p => (p.1, p.2.sub θ)) = some (v.sub θ) := by
  unfold aBuild at h
  split at h
  · rename_i fields _ z _ _ ht
    split at h
    · rename_i l hl
      split at h
      · rename_i cs hc
        cases h
        have := afill_sub hθ hc
        rw [scs_sub] at this
        simp only [aBuild, ht, hl, this, sub_agg]
      · cases h
    · cases h
  · rename_i n elem _ z _ _ ht
    split at h
    · rename_i ei he
      split at h
      · rename_i cs hc
        cases h
        have := afill_sub hθ hc
        rw [scs_sub] at this
        simp only [aBuild, ht, he, this, sub_agg]
      · cases h
    · cases h
  · cases h

theorem aBuildSlice_sub {T : Tab} {σ σ' : Store} {id : Nat} {t : TypeId} {len : Nat} {parts : List (Nat × AV)} {v : AV} (h : aBuildSlice T σ id t len parts = some (v, σ')) :
    aBuildSlice T (σ.sub θ) id t len (parts.map fun p => (p.1, p.2.sub θ)) = some (v.sub θ, σ'.sub θ) := by
  unfold aBuildSlice at h
  split at h
  · rename_i elem _ _ _ _ ht
    split at h
    · rename_i ei he
      split at h
      · rename_i hc
        split at h
        · rename_i es hes
          cases h
          have := setElems_sub hθ hes
          rw [List.map_replicate, zeroCells_sub] at this
          simp only [aBuildSlice, ht, he, hc, and_self, if_true, this, sub_ms, Store.sub_set, AObj.sub]
        · cases h
      · cases h
    · cases h
  · cases h

omit hθ in
theorem srcOf_sub {σ : Store} {x : AV} {es : List (List AV)} (h : srcOf σ x = some es) : srcOf (σ.sub θ) (x.sub θ) = some (es.map (List.map (AV.sub θ))) := by
  unfold srcOf at h
  split at h
  · split at h
    · rename_i ho
      split at h
      · rename_i hl
        cases h
        simp [srcOf, Store.sub_objs, ho, AObj.sub, hl, List.map_take, List.map_drop]
      · cases h
    · cases h
  · cases h; simp [srcOf]
  · cases h; simp [srcOf]
  · cases h

omit hθ in
theorem baseOf_sub {σ : Store} {elem : TypeId} {size : Nat} {x : AV} {r : Option Nat × List (List AV)} (h : baseOf σ elem size x = some r) : baseOf (σ.sub θ) elem size (x.sub θ) = some (r.1, r.2.map (List.map (AV.sub θ))) := by
  unfold baseOf at h
  split at h
  · split at h
    · rename_i ho
      split at h
      · rename_i hc
        cases h
        simp only [sub_ms, baseOf, Store.sub_objs, ho, Option.map_some, AObj.sub, List.length_map]
        rw [if_pos hc]
      · cases h
    · cases h
  · cases h; simp [baseOf]
  · cases h

theorem aAppend_sub {T : Tab} {σ σ' : Store} {id : Nat} {sT xT : TypeId} {s x v : AV} (h : aAppend T σ id sT xT s x = some (v, σ')) : aAppend T (σ.sub θ) id sT xT (s.sub θ) (x.sub θ) = some (v.sub θ, σ'.sub θ) := by
  unfold aAppend at h
  split at h
  · rename_i elem _ _ _ _ xi ht hx
    split at h
    · rename_i ei he
      split at h
      · rename_i old es xs hb hs
        split at h
        · rename_i hc
          cases h
          have hall : ((xs.map (List.map (AV.sub θ))).all fun c => c.length == ei.size && c.all AV.one) = true := by
            rw [List.all_map, List.all_eq_true]
            intro c hcm
            have := List.all_eq_true.1 hc.2.1 c hcm
            simp only [Function.comp, List.length_map, Bool.and_eq_true] at this ⊢
            exact ⟨this.1, all_one_sub hθ this.2⟩
          simp only [aAppend, ht, hx, he, baseOf_sub hb, srcOf_sub hs, List.length_map]
          rw [if_pos ⟨hc.1, hall, hc.2.2⟩]
          cases old <;> simp [Store.sub_set, Store.sub_del, AObj.sub]
        · cases h
      · cases h
    · cases h
  · cases h

omit hθ in
theorem truncBase_sub {σ : Store} {s : AV} {elem : TypeId} {size : Nat} {r : Option Nat × List (List AV)} (hb : baseOf (truncBase σ s) elem size s = some r) : truncBase (σ.sub θ) (s.sub θ) = (truncBase σ s).sub θ := by
  unfold baseOf at hb
  split at hb
  · rename_i id z len
    simp only [truncBase, sub_ms, Store.sub_objs]
    cases ho : σ.objs id with
    | none => simp
    | some o =>
      cases o with
      | row e sz es =>
        simp only [Option.map_some, AObj.sub, List.length_map]
        split
        · rw [Store.sub_set]; simp [AObj.sub, List.map_take]
        · rfl
      | xrow e sz i =>
        simp only [truncBase, ho] at hb
        cases hb
      | _ => simp [AObj.sub]
  · simp [truncBase]
  · cases hb

omit hθ in
theorem aZeros_sub {T : Tab} {σ σ' : Store} {id : Nat} {elem : TypeId} {s x v : AV} (h : aZeros T σ id elem s x = some (v, σ')) : aZeros T (σ.sub θ) id elem (s.sub θ) (x.sub θ) = some (v.sub θ, σ'.sub θ) := by
  unfold aZeros at h
  split at h
  · rename_i k n ei he
    split at h
    · rename_i hc
      cases h
      simp only [aZeros, sub_sc, he]
      rw [if_pos hc]
      simp [Store.sub_set, AObj.sub, zeroCells_sub]
    · cases h
  · cases h

theorem aAppend2_sub {T : Tab} {σ σ' : Store} {id : Nat} {sT xT : TypeId} {s x v : AV} (h : aAppend2 T σ id sT xT s x = some (v, σ')) : aAppend2 T (σ.sub θ) id sT xT (s.sub θ) (x.sub θ) = some (v.sub θ, σ'.sub θ) := by
  unfold aAppend2 at h ⊢
  split at h
  · exact aZeros_sub h
  · have hk := aAppend_sub hθ h
    unfold aAppend at h
    split at h
    · split at h
      · split at h
        · rename_i hb _
          rwa [truncBase_sub hb]
        · cases h
      · cases h
    · cases h

omit hθ in
theorem aLen_sub {T : Tab} {σ : Store} {t : TypeId} {x v : AV} (h : aLen T σ t x = some v) : aLen T (σ.sub θ) t (x.sub θ) = some (v.sub θ) := by
  unfold aLen at h
  split at h
  · rename_i ti ht
    split at h
    · rename_i hu; cases h; simp [aLen, ht, hu]
    · rename_i hu; cases h; simp [aLen, ht, hu]
    · rename_i hu; cases h; simp [aLen, ht, hu]
    · rename_i hu; cases h; simp [aLen, ht, hu]
    · rename_i n e _ hu; cases h; simp [aLen, ht, hu]
    · rename_i hu
      split at h
      · rename_i ho; cases h; simp [aLen, ht, hu, Store.sub_objs, ho, AObj.sub]
      · cases h
    · cases h
  · cases h

omit hθ in
theorem aMaxGo_sub (k : IntKind) : ∀ {l : List AV} {a : Int} {v : Value}, aMaxGo k a l = some v → l.map (AV.sub θ) = l
  | [], _, _, _ => rfl
  | c :: l, a, v, h => by
    unfold aMaxGo at h
    split at h
    · rename_i e; cases e
    · rename_i e; cases e; simp [aMaxGo_sub k h]
    · cases h
omit hθ in
theorem aMinGo_sub (k : IntKind) : ∀ {l : List AV} {a : Int} {v : Value}, aMinGo k a l = some v → l.map (AV.sub θ) = l
  | [], _, _, _ => rfl
  | c :: l, a, v, h => by
    unfold aMinGo at h
    split at h
    · rename_i e; cases e
    · rename_i e; cases e; simp [aMinGo_sub k h]
    · cases h
omit hθ in
theorem aMax_sub {l : List AV} {v : Value} (h : aMax l = some v) : l.map (AV.sub θ) = l := by
  unfold aMax at h
  split at h
  · simp [aMaxGo_sub _ h]
  · cases h
omit hθ in
theorem aMin_sub {l : List AV} {v : Value} (h : aMin l = some v) : l.map (AV.sub θ) = l := by
  unfold aMin at h
  split at h
  · simp [aMinGo_sub _ h]
  · cases h

omit hθ in
theorem aCap_sub {T : Tab} {t : TypeId} {x v : AV} (h : aCap T t x = some v) : aCap T t (x.sub θ) = some (v.sub θ) := by
  unfold aCap at h
  split at h
  · rename_i ht; cases h; simp [aCap, ht]
  · cases h

omit hθ in
theorem key_sub {x : AV} {k : Bool × List Int} (h : x.key = some k) : (x.sub θ).key = some k := by
  unfold AV.key at h
  split at h
  · simpa [AV.key] using h
  · split at h
    · rename_i cs l hl
      rw [sub_agg, i64s_sub hl]
      simpa [AV.key, hl] using h
    · cases h
  · cases h

omit hθ in
theorem mfind_sub (agg : Bool) (l : List Int) : ∀ (es : List (List Int × AV × Nat)) (i : Nat), mfind agg l (es.map fun e => (e.1, e.2.1.sub θ, e.2.2)) i = (mfind agg l es i).map fun p => (p.1, p.2.sub θ)
  | [], i => rfl
  | e :: es, i => by
    simp only [List.map_cons, mfind]
    split
    · rfl
    · exact mfind_sub agg l es (i + 1)

omit hθ in
theorem keyFit_sub (T : Tab) (kt : TypeId) (b : Bool) (l : List Int) (es : List (List Int × AV × Nat)) : keyFit T kt b l (es.map fun e => (e.1, e.2.1.sub θ, e.2.2)) = keyFit T kt b l es := by
  simp only [keyFit, List.all_map, Function.comp_def]

omit hθ in
theorem aLookup_sub {T : Tab} {σ : Store} {t : TypeId} {x ix v : AV} {ok : Bool} (h : aLookup T σ t x ix ok = some v) : aLookup T (σ.sub θ) t (x.sub θ) (ix.sub θ) ok = some (v.sub θ) := by
  unfold aLookup at h
  split at h
  · rename_i kt et _ _ _ _ b l ht hk
    split at h
    · rename_i ei he
      split at h
      · split at h
        · rename_i agg es _ ho
          split at h
          · rename_i hc
            cases h
            simp only [aLookup, ht, key_sub hk, he, sub_mm, Store.sub_objs, ho, Option.map_some, AObj.sub, keyFit_sub, List.isEmpty_map, mfind_sub]
            rw [if_pos hc]
            cases mfind b l es 0 <;> cases ok <;> simp [zeroAV_sub]
          · cases h
        · cases h
      · cases h
    · cases h
  · cases h

omit hθ in
theorem mput_sub (agg : Bool) (l : List Int) (v : AV) (clock : Nat) (es : List (List Int × AV × Nat)) :
    mput agg l (v.sub θ) clock (es.map fun e => (e.1, e.2.1.sub θ, e.2.2)) = ((mput agg l v clock es).1.map (fun e => (e.1, e.2.1.sub θ, e.2.2)), (mput agg l v clock es).2) := by
  simp only [mput, mfind_sub]
  cases mfind agg l es 0 with
  | none => simp
  | some p =>
    simp only [Option.map_some, Prod.mk.injEq, and_true]
    apply List.ext_getElem?
    intro j
    simp only [List.getElem?_modify, List.getElem?_map]
    cases es[j]? with
    | none => simp
    | some e => simp only [Option.map_some]; split <;> simp

omit hθ in
theorem aMapUpdate_sub {T : Tab} {σ σ' : Store} {t : TypeId} {x ix v : AV} (h : aMapUpdate T σ t x ix v = some σ') : aMapUpdate T (σ.sub θ) t (x.sub θ) (ix.sub θ) (v.sub θ) = some (σ'.sub θ) := by
  unfold aMapUpdate at h
  split at h
  · rename_i kt et _ _ _ _ b l ht hk
    split at h
    · split at h
      · rename_i agg es clock ho
        simp only [aMapUpdate, ht, key_sub hk, sub_mm, Store.sub_objs, ho, Option.map_some, AObj.sub, keyFit_sub, List.isEmpty_map]
        split at h
        · rename_i hc
          cases h
          rw [if_pos hc]
          simp [Store.sub_set, AObj.sub]
        · rename_i hn
          rw [if_neg hn]
          split at h
          · rename_i hc
            cases h
            rw [if_pos hc]
            simp [Store.sub_set, AObj.sub, mput_sub]
          · cases h
      · cases h
    · cases h
  · cases h

theorem aBuiltin_sub {T : Tab} {σ σ' : Store} {id : Nat} {b : Builtin} {ts : Array TypeId} {args : List AV} {v : AV} (h : aBuiltin T σ id b ts args = some (v, σ')) : aBuiltin T (σ.sub θ) id b ts (args.map (AV.sub θ)) = some (v.sub θ, σ'.sub θ) := by
  unfold aBuiltin at h
  split at h
  · rename_i t x hts
    split at h
    · rename_i u hu; cases h; simp [aBuiltin, hts, aLen_sub hu]
    · cases h
  · rename_i s x a c hts
    have := aAppend2_sub hθ h
    simp only [aBuiltin, hts, List.map_cons, List.map_nil]; exact this
  · rename_i t x hts
    split at h
    · rename_i u hu; cases h; simp [aBuiltin, hts, aCap_sub hu]
    · cases h
  · rename_i l
    split at h
    · rename_i u hu; cases h; simp [aBuiltin, aMax_sub hu, hu]
    · cases h
  · rename_i l
    split at h
    · rename_i u hu; cases h; simp [aBuiltin, aMin_sub hu, hu]
    · cases h
  · cases h

/-- **An operation that succeeds on values with variables does the same whatever stands in their place.** -/
theorem aop_sub {T : Tab} {ρ : Operand → AV} {σ σ' : Store} {id : Nat} {op : Op} {v : AV} (h : aop T ρ σ id op = some (v, σ')) : aop T (fun x => (ρ x).sub θ) (σ.sub θ) id op = some (v.sub θ, σ'.sub θ) := by
  cases op with
  | move x => cases h; rfl
  | assign x => cases h; rfl
  | pick c a b =>
    simp only [aop] at h ⊢
    split at h
    · rename_i t hc; cases h; simp only [hc, sub_sc]; cases t <;> rfl
    · cases h
  | alloc t => exact aAlloc_sub h
  | box t x => exact aBox_sub hθ h
  | build t ps =>
    simp only [aop] at h ⊢
    split at h
    · rename_i u hu
      cases h
      have := aBuild_sub hθ hu
      simp only [List.map_map, Function.comp_def] at this
      rw [this]
    · cases h
  | buildSlice t len ps =>
    simp only [aop] at h ⊢
    have := aBuildSlice_sub hθ h
    simp only [List.map_map, Function.comp_def] at this
    exact this
  | load t x =>
    simp only [aop] at h ⊢
    split at h
    · rename_i u hu; cases h; rw [aLoad_sub hu]
    · cases h
  | store t a x =>
    simp only [aop] at h ⊢
    split at h
    · rename_i u hu; cases h; rw [aStore_sub hθ hu]; simp
    · cases h
  | nilCheck x =>
    simp only [aop] at h ⊢
    split at h
    · rename_i hx; cases h; simp [hx]
    · rename_i hx; cases h; simp [hx]
    · rename_i hx; cases h; simp [hx]
    · cases h
  | binOp o t x y p =>
    simp only [aop] at h ⊢
    split at h
    · rename_i u hu; cases h; rw [aBin_sub hu]
    · cases h
  | unOp o t x =>
    simp only [aop] at h ⊢
    split at h
    · rename_i u hu; cases h; rw [aUn_sub hu]
    · cases h
  | convert s d x =>
    simp only [aop] at h ⊢
    split at h
    · rename_i u hu; cases h; rw [aConv_sub hu]
    · cases h
  | makeFunc f a c => simp only [aop] at h ⊢; cases h; simp [Function.comp_def]
  | makeMap t n =>
    cases n with
    | none => simp only [aop] at h ⊢; cases h; simp [Store.sub_set, AObj.sub]
    | some n => simp [aop] at h
  | slice t x lo hi mx =>
    simp only [aop] at h ⊢
    split at h
    · rename_i u hu
      cases h
      have := aSlice_sub (θ := θ) hu
      simp only [Option.map_map, Function.comp_def] at this
      rw [this]
    · cases h
  | fieldAddr t x f =>
    simp only [aop] at h ⊢
    split at h
    · rename_i u hu; cases h; rw [aFieldAddr_sub hu]
    · cases h
  | field t x f =>
    simp only [aop] at h ⊢
    split at h
    · rename_i u hu; cases h; rw [aField_sub hu]
    · cases h
  | indexAddr t x i =>
    simp only [aop] at h ⊢
    split at h
    · rename_i u hu; cases h; rw [aIndexAddr_sub hu]
    · cases h
  | index t x i =>
    simp only [aop] at h ⊢
    split at h
    · rename_i u hu; cases h; rw [aIndex_sub hu]
    · cases h
  | lookup t x i ok =>
    simp only [aop] at h ⊢
    split at h
    · rename_i u hu; cases h; rw [aLookup_sub hu]
    · cases h
  | mapUpdate t m k x =>
    simp only [aop] at h ⊢
    split at h
    · rename_i u hu; cases h; rw [aMapUpdate_sub hu]; simp
    · cases h
  | insert t m k x =>
    simp only [aop] at h ⊢
    split at h
    · rename_i u hu; cases h; rw [aMapUpdate_sub hu]; simp
    · cases h
  | extract x i =>
    simp only [aop] at h ⊢
    split at h
    · rename_i u hu; cases h; rw [aExtract_sub hu]
    · cases h
  | call c =>
    obtain ⟨callee, args, ts⟩ := c
    cases callee with
    | builtin b =>
      simp only [aop] at h ⊢
      have := aBuiltin_sub hθ h
      simpa [List.map_map, Function.comp_def] using this
    | value f => simp [aop] at h
    | invoke r m => simp [aop] at h
  | _ => simp [aop] at h

end
end Go.Ab
