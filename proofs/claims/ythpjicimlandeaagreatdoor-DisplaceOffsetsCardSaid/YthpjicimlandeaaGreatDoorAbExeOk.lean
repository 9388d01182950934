/- The abstract machine, part 35: the run on states with variables is right: operations, contents, loops' heads. -/
import Derived.Test.YthpjicimlandeaaGreatDoorAbExe
set_option linter.unusedVariables false
set_option linter.unusedSimpArgs false
namespace Go.Ab
open Go

section bnds
theorem Tr.all_get {α : Type} {p : α → Bool} : ∀ {t : Tr α} {k : Nat} {v : α}, t.all p = true → t.get k = some v → p v = true
  | .leaf, k, v, _, h => by rw [Tr.get_leaf] at h; cases h
  | .node x l r, 0, v, hb, h => by
    simp only [Tr.get] at h; subst h
    simp only [Tr.all, Bool.and_eq_true] at hb
    exact hb.1.1
  | .node x l r, k + 1, v, hb, h => by
    simp only [Tr.all, Bool.and_eq_true] at hb
    simp only [Tr.get] at h
    split at h
    · exact Tr.all_get hb.1.2 h
    · exact Tr.all_get hb.2 h
theorem AS.bnd_get {k : Nat} {s : AS} (h : s.bnd k = true) (t : Nat) : (s.get t).bnd k = true := by
  simp only [AS.bnd, Bool.and_eq_true] at h
  simp only [AS.get]
  cases ht : s.tr.get t with
  | none => rfl
  | some v => exact Tr.all_get h.1 ht
theorem bndL_scs (k : Nat) : ∀ l : List Value, bndL k (l.map .sc) = true
  | [] => by simp [bndL]
  | v :: l => by simp [bndL, AV.bnd, bndL_scs k l]
theorem AS.bnd_eval {k : Nat} {s : AS} (h : s.bnd k = true) (x : Operand) : (s.eval x).bnd k = true := by
  cases x with
  | tmp t => exact s.bnd_get h t
  | const v => cases v <;> simp [AS.eval, AV.ofValue, AV.bnd, bndL_scs]
  | global g => simp [AS.eval, AV.bnd]
  | func f => simp [AS.eval, AV.bnd, bndL]
theorem AS.bnd_obj {k : Nat} {s : AS} (h : s.bnd k = true) {id : Nat} {o : AObj} (ho : s.st.objs id = some o) : o.bnd k = true := by
  simp only [AS.bnd, Bool.and_eq_true] at h
  exact Tr.all_get h.2 ho
end bnds

/-! ### operations -/

section
variable {T : Tab} {Φ : Tell} {θ θ' : Nat → AV} {fr : Nat} (ha : ∀ i, i < fr → θ' i = θ i) {s : AS} (hb : s.bnd fr = true)
include ha hb

theorem eval_agree (x : Operand) : (s.eval x).sub θ' = (s.eval x).sub θ := sub_agree ha _ (s.bnd_eval hb x)

theorem sbase_ok {elem : TypeId} {size : Nat} {a : AV} {old : Option Nat} {x : AV} (hbd : a.bnd fr = true) (h : sbase s.st elem size a = some (old, x)) {es : List (List AV)} (hx : x.sub θ = .rs es) :
    baseOf (s.st.sub θ') elem size (a.sub θ') = some (old, es) ∧ truncBase (s.st.sub θ') (a.sub θ') = s.st.sub θ' := by
  unfold sbase at h
  split at h
  · cases h
    simp only [sub_rs, List.map_nil, AV.rs.injEq] at hx; subst hx
    exact ⟨by simp [baseOf], by simp [truncBase]⟩
  · split at h
    · rename_i id z len _ e sz rows ho
      split at h
      · rename_i hc
        cases h
        have hob := s.bnd_obj hb ho
        have h1 : (s.st.sub θ').objs id = some (.row e sz es) := by
          rw [Store.sub_objs, ho, Option.map_some, AObj.sub_agree ha _ hob]
          simp only [AObj.sub]
          simp only [sub_rs, AV.rs.injEq] at hx; rw [hx]
        have hl : rows.length = es.length := by simp only [sub_rs, AV.rs.injEq] at hx; rw [← hx]; simp
        refine ⟨?_, ?_⟩
        · simp only [sub_ms, baseOf, h1]
          rw [if_pos ⟨by omega, hc.2⟩]
        · simp only [sub_ms, truncBase, h1]
          rw [if_neg (by omega)]
      · cases h
    · cases h
  · split at h
    · rename_i id z i _ e sz j ho
      split at h
      · rename_i hc
        cases h
        obtain ⟨rfl, hsz, he⟩ := hc
        have hj : j < fr := by have := s.bnd_obj hb ho; simpa [AObj.bnd, Nat.blt_eq] using this
        rw [sub_sy] at hx
        have h1 : (s.st.sub θ').objs id = some (.row e sz es) := by
          rw [Store.sub_objs, ho, Option.map_some]
          simp only [AObj.sub, ha j hj, hx, rowsOf]
        refine ⟨?_, ?_⟩
        · simp only [sub_ss, ha j hj, hx, rowsOf, baseOf, h1]
          simp [hsz, he]
        · simp only [sub_ss, ha j hj, hx, rowsOf, truncBase, h1]
          rw [if_neg (by omega)]
      · cases h
    · cases h
  · cases h

theorem ssrc_ok {c y : AV} (hbd : c.bnd fr = true) (h : ssrc s.st c = some y) {xs : List (List AV)} (hx : y.sub θ = .rs xs) : srcOf (s.st.sub θ') (c.sub θ') = some xs := by
  unfold ssrc at h
  split at h
  · cases h
    simp only [sub_rs, List.map_nil, AV.rs.injEq] at hx; subst hx
    simp [srcOf]
  · cases h
    rw [sub_agree ha _ hbd, hx]; simp [srcOf]
  · cases h
    rw [sub_agree ha _ hbd, hx]; simp [srcOf]
  · split at h
    · rename_i id z off len _ e sz rows ho
      split at h
      · rename_i hc
        cases h
        have hob := s.bnd_obj hb ho
        simp only [sub_rs, AV.rs.injEq] at hx
        simp only [sub_ms, srcOf, Store.sub_objs, ho, Option.map_some]
        rw [AObj.sub_agree ha _ hob]
        simp only [AObj.sub, List.length_map]
        rw [if_pos hc, ← hx]
        simp [List.map_take, List.map_drop]
      · cases h
    · cases h
  · split at h
    · rename_i id z i _ e sz j ho
      split at h
      · rename_i hc
        cases h
        subst hc
        have hj : j < fr := by have := s.bnd_obj hb ho; simpa [AObj.bnd, Nat.blt_eq] using this
        rw [sub_sy] at hx
        simp only [sub_ss, ha j hj, hx, rowsOf, srcOf, Store.sub_objs, ho, Option.map_some, AObj.sub]
        simp
      · cases h
    · cases h
  · cases h

theorem sApp_ok {id : Nat} {sT xT : TypeId} {a c pat v : AV} {ro : RO} {σ' : Store} {fr' : Nat} (h1 : a.bnd fr = true) (h2 : c.bnd fr = true) (h : sApp T s.st id sT xT a c fr = some (ro, pat, v, σ', fr')) (he : evalRO T Φ θ ro = some (pat.sub θ')) :
    aAppend2 T (s.st.sub θ') id sT xT (a.sub θ') (c.sub θ') = some (v.sub θ', σ'.sub θ') := by
  unfold sApp at h
  split at h
  · rename_i elem _ _ _ _ ht
    split at h
    · rename_i ei hei
      split at h
      · rename_i old x y hx hy
        cases h
        simp only [evalRO, catRs, ht] at he
        split at he
        · rename_i el _ _ _ _ xi e1 e2
          cases e1
          rw [hei] at he
          simp only at he
          split at he
          · rename_i es xs hex hey
            split at he
            · rename_i hc
              simp only [Option.some.injEq, sub_sy] at he
              obtain ⟨k1, k2⟩ := sbase_ok ha hb h1 hx hex
              have k3 := ssrc_ok ha hb h2 hy hey
              have hcase : aAppend2 T (s.st.sub θ') id sT xT (a.sub θ') (c.sub θ') = aAppend T (truncBase (s.st.sub θ') (a.sub θ')) id sT xT (a.sub θ') (c.sub θ') := by
                unfold aAppend2
                split
                · rename_i e3 e4
                  rw [e2] at e4; cases e4
                  simp [TI.isInt] at hc
                · rfl
              rw [hcase, k2]
              simp only [aAppend, ht, e2, hei, k1, k3]
              rw [if_pos hc]
              simp only [sub_ss, Store.sub_set, AObj.sub, ← he, rowsOf, List.length_append]
              cases old <;> simp [Store.sub_del]
            · cases he
          · cases he
        · cases he
      · cases h
    · cases h
  · cases h

theorem residB_ok (hθ : Fit θ) {id : Nat} {b : Builtin} {ts : Array TypeId} {args : List AV} {pat v : AV} {ro : RO} {σ' : Store} {fr' : Nat} (h1 : ∀ a ∈ args, a.bnd fr = true) (h : residB T s.st id b ts.toList args fr = some (ro, pat, v, σ', fr'))
    (he : evalRO T Φ θ ro = some (pat.sub θ')) : aBuiltin T (s.st.sub θ') id b ts (args.map (AV.sub θ')) = some (v.sub θ', σ'.sub θ') := by
  have hst : s.st.sub θ' = s.st.sub θ := Store.sub_agree ha hb
  have hag : args.map (AV.sub θ') = args.map (AV.sub θ) := List.map_congr_left fun a hm => sub_agree ha a (h1 a hm)
  unfold residB at h
  split at h
  · rename_i t i hts
    cases h
    simp only [evalRO, sub_sy] at he
    rw [hag]
    simp only [aBuiltin, hts, List.map_cons, List.map_nil, sub_sy]
    have h2 : aLen T (s.st.sub θ') t (θ i) = some (θ' fr) := by
      have hf := hθ i
      unfold aLen at he ⊢
      split at he
      · rename_i ti ht
        rcases hf.cases with ⟨k, n, e⟩ | ⟨b, e⟩ | ⟨x, e⟩ | ⟨es, e⟩ <;> rw [e] at he ⊢ <;> (cases hu : ti.und <;> rw [hu] at he <;> first | exact he | (simp only at he ⊢; exact he))
      · cases he
    rw [h2]
  · rename_i t id' z i hts
    split at h
    · rename_i el _ _ _ _ ht
      cases h
      simp only [evalRO, sub_sy] at he
      rw [hag]
      simp only [aBuiltin, hts, List.map_cons, List.map_nil, sub_ss]
      have h2 : aLen T (s.st.sub θ') t (.ms id' z 0 (rowsOf (θ i)).length) = some (θ' fr) := by
        have hf := hθ i
        simp only [aLen, ht] at he ⊢
        rcases hf.cases with ⟨k, n, e⟩ | ⟨b, e⟩ | ⟨x, e⟩ | ⟨es, e⟩ <;> rw [e] at he ⊢ <;> simp [rowsOf] at he ⊢
        exact he
      rw [h2]; simp
    · cases h
  · cases h
    simp only [evalRO, sub_sy] at he
    rw [hag]
    generalize List.map (AV.sub θ) _ = l at *
    cases hm : aMax l with
    | none => rw [hm] at he; cases he
    | some u =>
      rw [hm] at he
      simp only [Option.map_some, Option.some.injEq] at he
      simp [aBuiltin, hm, he]
  · cases h
    simp only [evalRO, sub_sy] at he
    rw [hag]
    generalize List.map (AV.sub θ) _ = l at *
    cases hm : aMin l with
    | none => rw [hm] at he; cases he
    | some u =>
      rw [hm] at he
      simp only [Option.map_some, Option.some.injEq] at he
      simp [aBuiltin, hm, he]
  · rename_i sT xT a c hts
    have := sApp_ok (T := T) (Φ := Φ) ha hb (h1 a (by simp)) (h1 c (by simp)) h he
    simp only [aBuiltin, hts, List.map_cons, List.map_nil]
    exact this
  · cases h

theorem resid_ok (hθ : Fit θ) {id : Nat} {op : Op} {pat v : AV} {ro : RO} {σ' : Store} {fr' : Nat} (h : resid T s.eval s.st id op fr = some (ro, pat, v, σ', fr'))
    (he : evalRO T Φ θ ro = some (pat.sub θ')) : aop T (s.sub θ').eval (s.st.sub θ') id op = some (v.sub θ', σ'.sub θ') := by
  have hev : ∀ x, (s.sub θ').eval x = (s.eval x).sub θ := fun x => by rw [AS.sub_eval, eval_agree ha hb x]
  unfold resid at h
  split at h
  · cases h
    simp only [evalRO, sub_sy] at he
    simp only [aop, hev, he, sub_sy]
  · cases h
    simp only [evalRO, sub_sy] at he
    simp only [aop, hev, he, sub_sy]
  · cases h
    simp only [evalRO, sub_sy] at he
    simp only [aop, hev, he, sub_sy]
  · cases h
    simp only [evalRO, sub_sy] at he
    simp only [aop, hev]
    split at he
    · rename_i t ht
      simp only [Option.some.injEq] at he
      rw [ht]; simp [he]
    · cases he
  · split at h
    · split at h
      · cases h
        simp only [evalRO] at he
        simp only [aop, hev, he]
      · cases h
    · cases h
  · cases h
    simp only [evalRO, sub_sy] at he
    simp only [aop, hev, he, sub_sy]
  · rename_i t x lo hi
    cases h
    simp only [evalRO, sub_sy, Option.map_map] at he
    have e : (s.sub θ').eval = fun x => (s.eval x).sub θ := funext hev
    simp only [aop, e, Option.map_none]
    simp only [Function.comp_def] at he
    rw [he]
    simp
  · rename_i b args ts
    simp only [aop]
    have hm : args.toList.map (s.sub θ').eval = (args.toList.map s.eval).map (AV.sub θ') := by
      rw [List.map_map]; apply List.map_congr_left; intro x _; exact AS.sub_eval θ' s x
    rw [hm]
    refine residB_ok (T := T) (Φ := Φ) ha hb hθ (fun a hmem => ?_) h he
    obtain ⟨x, _, rfl⟩ := List.mem_map.1 hmem
    exact s.bnd_eval hb x
  · cases h

end

/-! ### contents of arguments -/

mutual
theorem contP_pur {θ : Nat → AV} (hθ : Fit θ) : ∀ v : AV, v.contP = true → (v.sub θ).pur = true
  | .sc v, _ => by simp [AV.pur]
  | .sy i, _ => by rw [sub_sy]; exact (hθ i).pur
  | .rs es, h => by simp only [AV.contP] at h; simp only [AV.sub, AV.pur]; exact contR_pur hθ es h
  | .agg cs, h => by simp only [AV.contP] at h; simp only [AV.sub, AV.pur]; exact contL_pur hθ cs h
  | .tup cs, h => by simp only [AV.contP] at h; simp only [AV.sub, AV.pur]; exact contL_pur hθ cs h
  | .any, h => by simp [AV.contP] at h
  | .rp _, h => by simp [AV.contP] at h
  | .ms .., h => by simp [AV.contP] at h
  | .mp .., h => by simp [AV.contP] at h
  | .mm _, h => by simp [AV.contP] at h
  | .it _, h => by simp [AV.contP] at h
  | .fn .., h => by simp [AV.contP] at h
  | .ss .., h => by simp [AV.contP] at h
theorem contL_pur {θ : Nat → AV} (hθ : Fit θ) : ∀ l : List AV, contL l = true → purL (subL θ l) = true
  | [], _ => by simp [subL, purL]
  | c :: cs, h => by
    simp only [contL, Bool.and_eq_true] at h
    simp only [subL, purL, Bool.and_eq_true]
    exact ⟨contP_pur hθ c h.1, contL_pur hθ cs h.2⟩
theorem contR_pur {θ : Nat → AV} (hθ : Fit θ) : ∀ l : List (List AV), contR l = true → purR (subR θ l) = true
  | [], _ => by simp [subR, purR]
  | c :: cs, h => by
    simp only [contR, Bool.and_eq_true] at h
    simp only [subR, purR, Bool.and_eq_true]
    exact ⟨contL_pur hθ c h.1, contR_pur hθ cs h.2⟩
end

theorem ms_frozen {G : Ghost} {σ : Store} {w : World} (h : Rel G σ w) (pl : Nat → Option Pl) {id z off len : Nat} {u : Value} (hr : Rep G (.ms id z off len) u) {elem : TypeId} {size : Nat} {es : List (List AV)} (ho : σ.objs id = some (.row elem size es))
    (hle : off + len ≤ es.length) {l : List (List AV)} (hll : l.length = len)
    (hrows : ∀ i (hi : i < l.length) (hi' : off + i < es.length), l[i].length = es[off + i].length ∧ ∀ j (hj : j < l[i].length) (hj' : j < es[off + i].length) u, Rep G es[off + i][j] u → Rep (G.frozen σ w pl) l[i][j] u) :
    Rep (G.frozen σ w pl) (.rs l) u := by
  cases hr with
  | msNil _ _ p hp hv =>
    have : l = [] := List.eq_nil_of_length_eq_zero hll
    subst this; exact .rsNil
  | ms _ _ _ _ p hp hv hz a c hA hoff hlc hsp =>
    obtain ⟨him, hw0, cells, hb, hps, hn, hcap, hrow⟩ := h.real ho hp hv
    have hlive : (G.frozen σ w pl).imm p.block = some (.cells cells elem (0, 0)) := by
      simp only [Ghost.frozen]
      rw [if_pos ⟨id, _, p, ho, hp, hv, rfl⟩]; exact hb
    rw [← hll]
    by_cases hc0 : c = 0
    · have : l = [] := List.eq_nil_of_length_eq_zero (by omega)
      subst this
      exact .rs [] a c 0 (fun _ _ => undef) (fun _ => hsp) (by simp) (fun i hi => by simp at hi) (fun i j hi => by simp at hi) (fun i j hi => by simp at hi)
    · rw [hA hc0]
      refine .rs l _ c size (fun i j => cells.getD ((off + i) * size + j) undef) (fun _ => rfl) (by omega) (fun i hi => ?_) (fun i j hi hj => ?_) (fun i j hi hj => ?_)
      · have hi' : off + i < es.length := by omega
        rw [(hrows i hi hi').1]; exact (hrow _ hi').1
      · have hi' : off + i < es.length := by omega
        have hlt : (off + i) * size + j < cells.size := by
          rw [hn]
          have : (off + i + 1) * size ≤ p.cap * size := Nat.mul_le_mul_right _ (by omega)
          rw [Nat.add_mul] at this; omega
        simp only [Ghost.cell, hlive, hps]
        have e3 : off * size + i * size + j = (off + i) * size + j := by rw [Nat.add_mul]
        rw [e3]
        simp [hlt]
      · have hi' : off + i < es.length := by omega
        obtain ⟨g1, g2⟩ := hrows i hi hi'
        have hsz := (hrow _ hi').1
        have hlt : (off + i) * size + j < cells.size := by
          rw [hn]
          have : (off + i + 1) * size ≤ p.cap * size := Nat.mul_le_mul_right _ (by omega)
          rw [Nat.add_mul] at this; omega
        have := (hrow _ hi').2 j (by omega) hlt
        have hv' : cells.getD ((off + i) * size + j) undef = cells[(off + i) * size + j] := by simp [hlt]
        rw [hv']
        exact g2 j hj (by omega) _ this

theorem cont1_ok {θ : Nat → AV} (hθ : Fit θ) {σ : Store} {G : Ghost} {w : World} (h : Rel G (σ.sub θ) w) (pl : Nat → Option Pl) (hx : ∀ id e z j, σ.objs id = some (.xrow e z j) → ∃ es, θ j = .rs es) :
    ∀ (k : Nat) (v c : AV) (u : Value), cont1 σ k v = some c → Rep G (v.sub θ) u → Rep (G.frozen (σ.sub θ) w pl) (c.sub θ) u
  | 0, v, c, u, hd, _ => by simp [cont1] at hd
  | k + 1, v, c, u, hd, hr => by
    have ih := cont1_ok hθ h pl hx k
    unfold cont1 at hd
    split at hd
    · rename_i hp
      cases hd
      exact pur_rep (fun b o hb => frozen_imm h hb) hr (contP_pur hθ _ hp)
    · split at hd
      · rename_i cs _
        split at hd
        · rename_i l hl
          cases hd
          obtain ⟨e1, e2⟩ := mapL_get hl
          simp only [sub_agg] at hr ⊢
          cases hr with
          | agg _ vs h1 h2 =>
            refine .agg _ vs (by rw [h1]; simp [e1]) (fun i hi hi' => ?_)
            have hil : i < cs.length := by simp at hi; omega
            have := ih _ _ vs[i] (e2 i hil (by simpa using hi)) (by have := h2 i (by simpa using hil) hi'; simpa using this)
            simpa using this
        · cases hd
      · rename_i cs _
        split at hd
        · rename_i l hl
          cases hd
          obtain ⟨e1, e2⟩ := mapL_get hl
          simp only [sub_tup] at hr ⊢
          cases hr with
          | tup _ vs h1 h2 =>
            refine .tup _ vs (by rw [h1]; simp [e1]) (fun i hi hi' => ?_)
            have hil : i < cs.length := by simp at hi; omega
            have := ih _ _ vs[i] (e2 i hil (by simpa using hi)) (by have := h2 i (by simpa using hil) hi'; simpa using this)
            simpa using this
        · cases hd
      · rename_i id z off len _
        split at hd
        · rename_i elem size es ho
          split at hd
          · rename_i hle
            split at hd
            · rename_i l hl
              cases hd
              obtain ⟨e1, e2⟩ := mapR_get hl
              rw [sub_ms] at hr
              rw [sub_rs]
              refine ms_frozen h pl hr (elem := elem) (size := size) (es := es.map (List.map (AV.sub θ))) (by rw [Store.sub_objs, ho]; rfl) (by simpa using hle) (by simp [e1]; omega) (fun i hi hi' => ?_)
              have hi1 : i < l.length := by simpa using hi
              have hi2 : off + i < es.length := by simpa using hi'
              have hm := e2 i (by rw [← e1]; exact hi1) hi1
              simp only [List.getElem_take, List.getElem_drop] at hm
              obtain ⟨f1, f2⟩ := mapL_get hm
              refine ⟨by simp [f1], fun j hj hj' u hu => ?_⟩
              have hj1 : j < l[i].length := by simpa using hj
              have := ih _ _ u (f2 j (by omega) hj1) (by simpa using hu)
              simpa using this
            · cases hd
          · cases hd
        · cases hd
      · rename_i id z i _
        split at hd
        · rename_i elem size j ho
          split at hd
          · rename_i hji
            cases hd
            subst hji
            obtain ⟨es, hes⟩ := hx id elem size j ho
            rw [sub_ss, hes] at hr
            rw [sub_sy, hes]
            refine ms_frozen h pl hr (elem := elem) (size := size) (es := es) (by rw [Store.sub_objs, ho]; simp [AObj.sub, hes, rowsOf]) (by simp [rowsOf]) (by simp [rowsOf]) (fun i hi hi' => ?_)
            have hpur := (hθ j).pur
            rw [hes] at hpur
            simp only [Nat.zero_add]
            exact ⟨trivial, fun a ha ha' u hu => pur_rep (fun b o hb => frozen_imm h hb) hu (pur_rs hpur i hi a ha)⟩
          · cases hd
        · cases hd
      · cases hd

end Go.Ab
