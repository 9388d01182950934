/- The abstract machine, part 36: the run on states with variables is right. -/
import Derived.Test.YthpjicimlandeaaGreatDoorAbExeOk
set_option linter.unusedVariables false
set_option linter.unusedSimpArgs false
namespace Go.Ab
open Go

theorem fitB_ok {θ : Nat → AV} (hθ : Fit θ) {v : AV} (h : fitB v = true) : Fit1 (v.sub θ) := by
  unfold fitB at h
  split at h
  · simp [Fit1]
  · simp [Fit1]
  · simp [Fit1]
  · rw [sub_sy]; exact hθ _
  · rename_i es
    simp only [AV.sub, Fit1, AV.pur]
    exact contR_pur hθ es h
  · cases h

theorem RVr.map {ι : Ren1} {θ : Nat → AV} {a b : List (List AV)} (h : RVr ι (subR θ a) (subR θ b)) : RVr ι (a.map (List.map (AV.sub θ))) (b.map (List.map (AV.sub θ))) := by
  rw [← subR_eq, ← subR_eq]; exact h

theorem robjB_ok {θ : Nat → AV} (hθ : Fit θ) {ι : Ren1} {o o' : AObj} (h : robjB ι o o' = true) : RObj ι (o.sub θ) (o'.sub θ) := by
  cases o with
  | row e z es =>
    cases o' with
    | row e' z' es' =>
      simp only [robjB, Bool.and_eq_true] at h
      have h2 := (renR_ok hθ es es' h.2).map
      exact ⟨Nat.eq_of_beq_eq_true h.1.1, Nat.eq_of_beq_eq_true h.1.2, h2.1, h2.2⟩
    | _ => simp [robjB] at h
  | xrow e z i =>
    cases o' with
    | xrow e' z' i' =>
      simp only [robjB, Bool.and_eq_true] at h
      have h3 := Nat.eq_of_beq_eq_true h.2
      subst h3
      refine ⟨Nat.eq_of_beq_eq_true h.1.1, Nat.eq_of_beq_eq_true h.1.2, rfl, fun a ha ha' => ⟨rfl, fun b hb hb' => ?_⟩⟩
      intro G u hr
      have hf := hθ i
      rcases hf.cases with ⟨k, n, e⟩ | ⟨b', e⟩ | ⟨x, e⟩ | ⟨es, e⟩
      · simp [e, rowsOf] at ha
      · simp [e, rowsOf] at ha
      · simp [e, rowsOf] at ha
      · have hp := hf.pur
        rw [e] at hp
        simp only [e, rowsOf] at hr ⊢
        exact pur_rep (G := G) (G' := G.ren ι) (fun _ _ hh => hh) hr (pur_rs hp a (by simpa [e, rowsOf] using ha) b (by simpa [e, rowsOf] using hb))
    | _ => simp [robjB] at h
  | map agg es c =>
    cases o' with
    | map agg' es' c' =>
      simp only [robjB, Bool.and_eq_true] at h
      obtain ⟨⟨⟨h1, h2⟩, h3⟩, h4⟩ := h
      have hl := Nat.eq_of_beq_eq_true h3
      refine ⟨by simpa using h1, Nat.eq_of_beq_eq_true h2, by simpa using hl, fun i hi hi' => ?_⟩
      have hi1 : i < es.length := by simpa using hi
      have hi2 : i < es'.length := by simpa using hi'
      have hm := List.all_eq_true.1 h4 (es[i], es'[i]) (by
        rw [List.mem_iff_getElem]
        exact ⟨i, by simp; omega, by simp⟩)
      simp only [Bool.and_eq_true, decide_eq_true_eq] at hm
      simp only [List.getElem_map]
      exact ⟨hm.1.1, renB_ok hθ _ _ hm.1.2, Nat.eq_of_beq_eq_true hm.2⟩
    | _ => simp [robjB] at h
  | siter a b => cases o' <;> simp [robjB] at h
  | miter m a b c => cases o' <;> simp [robjB] at h

theorem slotsOkB_get {ι : Ren1} {η : Nat → AV} {s : AS} : ∀ {l : List AV} {t0 : Nat}, slotsOkB ι η s l t0 = true → ∀ i (h : i < l.length), renB ι ((l[i]).ssub η) (s.get (t0 + i)) = true
  | [], _, _, i, h => by simp at h
  | a :: as, t0, hb, i, h => by
    simp only [slotsOkB, Bool.and_eq_true] at hb
    cases i with
    | zero => exact hb.1
    | succ i =>
      have := slotsOkB_get hb.2 i (by simpa using h)
      simpa [Nat.add_assoc, Nat.add_comm 1 i] using this

theorem injB_ok {ι : Ren1} : ∀ {l : List (Nat × AObj)}, injB ι l = true → ∀ p ∈ l, ∀ q ∈ l, ∀ k, ι p.1 = some (some k) → ι q.1 = some (some k) → p.1 = q.1
  | [], _, p, hp, _, _, _, _, _ => by cases hp
  | a :: l, h, p, hp, q, hq, k, h1, h2 => by
    simp only [injB, Bool.and_eq_true] at h
    have key : ∀ r ∈ l, ι a.1 = some (some k) → ι r.1 = some (some k) → a.1 = r.1 := fun r hr e1 e2 => by
      have := List.all_eq_true.1 h.1 r hr
      rw [e1] at this
      simp only [Bool.or_eq_true] at this
      rcases this with h3 | h3
      · exact (Nat.eq_of_beq_eq_true h3).symm
      · simp [pointsTo, e2] at h3
    rcases List.mem_cons.1 hp with e1 | hp'
    · rcases List.mem_cons.1 hq with e2 | hq'
      · rw [e1, e2]
      · rw [e1] at h1 ⊢; exact key q hq' h1 h2
    · rcases List.mem_cons.1 hq with e2 | hq'
      · rw [e2] at h2 ⊢; exact (key p hp' h2 h1).symm
      · exact injB_ok h.2 p hp' q hq' k h1 h2

theorem valsOf_length (a : Acc) : ∀ (k l : Nat), (valsOf a l k).length = k
  | 0, _ => rfl
  | k + 1, l => by simp [valsOf, valsOf_length a k]

theorem Hint.state_get (h : Hint) (t : Nat) : h.state.get t = (h.slots[t]?).getD (.sc undef) := AS.enter_get _ _ _ _

theorem tryMatch_ok {θ : Nat → AV} (hθ : Fit θ) {n l : Nat} {h : Hint} {s : AS} {vals : List AV} (hm : tryMatch n l h s = some vals) :
    vals.length = h.k ∧ (∀ v ∈ vals, Fit1 (v.sub θ)) ∧ Fit (fun i => (etaOf l vals i).sub θ) ∧ ∃ ι, Ren ι n (h.state.sub (fun i => (etaOf l vals i).sub θ)) (s.sub θ) := by
  unfold tryMatch at hm
  simp only at hm
  split at hm
  · rename_i hc
    cases hm
    generalize hacc : guess s n l h = acc at *
    generalize hio0 : acc.io.filter (fun p => Nat.ble n p.1) = io at *
    simp only [Bool.and_eq_true] at hc
    obtain ⟨⟨⟨⟨⟨⟨c1, c2⟩, c3⟩, c4⟩, c5⟩, c6⟩, c7⟩ := hc
    have hn := Nat.eq_of_beq_eq_true c2
    have hnx := Nat.le_of_ble_eq_true c3
    have hfit : ∀ v ∈ valsOf acc l h.k, Fit1 (v.sub θ) := fun v hv => fitB_ok hθ (List.all_eq_true.1 c1 v hv)
    refine ⟨valsOf_length _ _ _, hfit, fun i => ?_, iotaOf n io, ?_⟩
    · show Fit1 ((etaOf l (valsOf acc l h.k) i).sub θ)
      unfold etaOf
      split
      · cases hg : (valsOf acc l h.k)[i - l]? with
        | none => simpa using hθ i
        | some v => exact hfit v (List.mem_of_getElem? hg)
      · simpa using hθ i
    · have hst : h.state.sub (fun i => (etaOf l (valsOf acc l h.k) i).sub θ) = (h.state.ssub (etaOf l (valsOf acc l h.k))).sub θ := (AS.ssub_sub _ _ _).symm
      have hobj : ∀ i o, (h.state.sub (fun i => (etaOf l (valsOf acc l h.k) i).sub θ)).st.objs i = some o → ∃ o0, (i, o0) ∈ h.objs ∧ o = (o0.ssub (etaOf l (valsOf acc l h.k))).sub θ := fun i o ho => by
        rw [AS.sub_st, Store.sub_objs] at ho
        cases hg : h.state.st.objs i with
        | none => rw [hg] at ho; cases ho
        | some o0 =>
          rw [hg] at ho
          simp only [Option.map_some, Option.some.injEq] at ho
          refine ⟨o0, ?_, by rw [AObj.ssub_sub]; exact ho.symm⟩
          rcases Tr.ofList_get h.objs .leaf i o0 hg with h1 | h1
          · exact h1
          · rw [Tr.get_leaf] at h1; cases h1
      have hio : ∀ i k, iotaL io i = some k → n ≤ i ∧ i < h.next := fun i k hk => by
        have aux : ∀ (L : List (Nat × Option Nat)), L.all (fun p => Nat.ble n p.1 && Nat.blt p.1 h.next) = true → iotaL L i = some k → n ≤ i ∧ i < h.next := by
          intro L
          induction L with
          | nil => intro _ hh; simp [iotaL] at hh
          | cons a L ih =>
            intro hall hh
            simp only [List.all_cons, Bool.and_eq_true] at hall
            unfold iotaL at hh
            split at hh
            · rename_i he
              have := Nat.eq_of_beq_eq_true he
              subst this
              exact ⟨Nat.le_of_ble_eq_true hall.1.1, by simpa [Nat.blt_eq] using hall.1.2⟩
            · exact ih (by simpa using hall.2) hh
        exact aux io c4 hk
      refine ⟨hn, fun i hi => ?_, fun i k hk => ?_, hnx, fun i j k oi oj h1 h2 h3 h4 => ?_, fun t ht => ?_, fun t ht => ?_, fun i o ho => ?_⟩
      · have : Nat.blt i n = true := by rw [Nat.blt_eq]; exact hi
        simp only [iotaOf, this]
      · show i < h.next
        simp only [iotaOf] at hk
        split at hk
        · rename_i hb; rw [Nat.blt_eq] at hb; omega
        · exact (hio i k hk).2
      · obtain ⟨o1, m1, _⟩ := hobj i oi h3
        obtain ⟨o2, m2, _⟩ := hobj j oj h4
        exact injB_ok c7 _ m1 _ m2 k h1 h2
      · have ht' : t < h.slots.length := by rw [hn]; exact ht
        have := slotsOkB_get c5 t ht'
        rw [Nat.zero_add] at this
        rw [AS.sub_get, AS.sub_get, Hint.state_get, List.getElem?_eq_getElem ht', Option.getD_some, ← ssub_sub]
        exact renB_ok hθ _ _ this
      · have ht' : h.slots.length ≤ t := by rw [hn]; exact ht
        rw [AS.sub_get, Hint.state_get, List.getElem?_eq_none ht']; simp
      · obtain ⟨o0, m0, rfl⟩ := hobj i o ho
        have := List.all_eq_true.1 c6 (i, o0) m0
        simp only [objOkB] at this
        split at this
        · rename_i k hk
          split at this
          · rename_i o' ho'
            exact .inl ⟨k, o'.sub θ, hk, by rw [AS.sub_st, Store.sub_objs, ho']; rfl, robjB_ok hθ this⟩
          · cases this
        · rename_i hk
          refine .inr ⟨hk, ?_⟩
          unfold emptyRow at this
          split at this
          · rename_i e z he; exact ⟨e, z, by rw [he]; simp [AObj.sub]⟩
          · cases this
        · cases this
  · cases hm

theorem trOf_map (f : AV → AV) : ∀ (l : List AV) (i : Nat) (t : Tr AV), (trOf l i t).map f = trOf (l.map f) i (t.map f)
  | [], i, t => rfl
  | v :: l, i, t => by
    simp only [trOf, List.map_cons]
    rw [trOf_map f l, Tr.map_set]; rfl

theorem enter_sub (θ : Nat → AV) (n : Nat) (args : List AV) (σ : Store) : (AS.enter n args σ).sub θ = AS.enter n (args.map (AV.sub θ)) (σ.sub θ) := by
  simp only [AS.sub, AS.enter, trOf_map]; rfl

theorem ares1_sub {T : Tab} {θ : Nat → AV} {s : AS} {r : ResultVar} {v : AV} (h : ares1 T s r = some v) : ares1 T (s.sub θ) r = some (v.sub θ) := by
  cases r with
  | tmp t => simp only [ares1, Option.some.injEq] at h ⊢; rw [AS.sub_get, h]
  | cell a t => simp only [ares1] at h ⊢; rw [AS.sub_get]; exact aLoad_sub h
theorem aresL_sub {T : Tab} {θ : Nat → AV} {s : AS} : ∀ {rs : List ResultVar} {l : List AV}, aresL T s rs = some l → aresL T (s.sub θ) rs = some (l.map (AV.sub θ))
  | [], l, h => by simp only [aresL, Option.some.injEq] at h; subst h; rfl
  | r :: rs, l, h => by
    unfold aresL at h
    split at h
    · rename_i v l' h1 h2
      cases h
      simp only [aresL, ares1_sub h1, aresL_sub h2]; rfl
    · cases h
theorem aresults_sub {T : Tab} {θ : Nat → AV} {fn : Func} {s : AS} {v : AV} (h : aresults T fn s = some v) : aresults T fn (s.sub θ) = some (v.sub θ) := by
  unfold aresults at h
  split at h
  · rename_i u hu; cases h; simp [aresults, aresL_sub hu]
  · rename_i l hne hl
    cases h
    simp only [aresults, aresL_sub hl]
    split
    · rename_i u e
      simp only [Option.some.injEq] at e
      have hlen := congrArg List.length e
      simp only [List.length_map, List.length_cons, List.length_nil] at hlen
      obtain ⟨x, rfl⟩ := List.length_eq_one_iff.1 hlen
      exact absurd rfl (hne x)
    · rename_i l' _ e; simp only [Option.some.injEq] at e; subst e; simp
    · rename_i e; cases e
  · cases h

theorem xvars_mem : ∀ {t : Tr AObj} {k : Nat} {e : TypeId} {z j : Nat}, t.get k = some (.xrow e z j) → j ∈ xvars t
  | .leaf, k, e, z, j, h => by rw [Tr.get_leaf] at h; cases h
  | .node v l r, 0, e, z, j, h => by simp only [Tr.get] at h; subst h; simp [xvars]
  | .node v l r, k + 1, e, z, j, h => by
    simp only [Tr.get] at h
    simp only [xvars, List.mem_append]
    split at h
    · exact .inr (.inl (xvars_mem h))
    · exact .inr (.inr (xvars_mem h))

/-! ### the run -/

section
variable {P : Program} {T : Tab} (hT : TabOk P T) {Φ : Tell} (hΦ : TellOk P Φ) {F : FuncId → Option Func} (hF : ∀ f fn, F f = some fn → P.funcs[f]? = some fn) {Q : AV → Prop}

def PostS (T : Tab) (Φ : Tell) (Q : AV → Prop) (fr : Nat) (θ : Nat → AV) (A : Nat → List AV → Prop) (k : KS) (s' : AS) : Prop :=
  ∃ θ' S' fr' A', fr ≤ fr' ∧ Fit θ' ∧ (∀ i, i < fr → θ' i = θ i) ∧ (∀ l, l < fr → A' l = A l) ∧ s' = AS.sub θ' S' ∧ Leads T Φ Q (k S' fr') θ' A'
def PostE (T : Tab) (Φ : Tell) (Q : AV → Prop) (fr : Nat) (θ : Nat → AV) (A : Nat → List AV → Prop) (k : KE) (e : Exit) (s' : AS) : Prop :=
  ∃ e' θ' S' fr' A', e = EX.toExit e' ∧ fr ≤ fr' ∧ Fit θ' ∧ (∀ i, i < fr → θ' i = θ i) ∧ (∀ l, l < fr → A' l = A l) ∧ s' = AS.sub θ' S' ∧ Leads T Φ Q (k e' S' fr') θ' A'

def ExOk (P : Program) (T : Tab) (Φ : Tell) (Q : AV → Prop) (ex : Exe) : Prop :=
  ∀ n c s fr k θ A, Fit θ → Leads T Φ Q (ex n c s fr k) θ A → BWp P n c (PostE T Φ Q fr θ A k) (AS.sub θ s)

include hT hΦ hF in
theorem sOne_ok {ex : Exe} (hex : ExOk P T Φ Q ex) {ops : Array Oper} {n0 n i : Nat} {rest : List Nat} {o : Oper} (ho : ops[i]? = some o) (hi : i ∉ rest) {s : AS} {fr : Nat} {kk : KS} {θ : Nat → AV} {A : Nat → List AV → Prop} (hθ : Fit θ)
    (hw : awanted ops (s.sub θ) o = some true) (hd : dstOk s.n o.dst = true) {Qs : AS → Prop}
    (hk : ∀ s' fr' θ' A', fr ≤ fr' → Fit θ' → (∀ j, j < fr → θ' j = θ j) → (∀ l, l < fr → A' l = A l) → Leads T Φ Q (kk s' fr') θ' A' → BOps P ops n0 n Qs rest (AS.sub θ' s'))
    (h : Leads T Φ Q (sOne T Φ F ex (n0 + i) o s fr kk) θ A) : BOps P ops n0 n Qs (i :: rest) (s.sub θ) := by
  have hd' : dstOk (s.sub θ).n o.dst = true := hd
  unfold sOne at h
  split at h
  · rename_i fo args ts hop
    split at h
    · rename_i f first cap hfo
      have hfo' : (s.sub θ).eval fo = .fn (.func f) (first.map (AV.sub θ)) (cap.map (AV.sub θ)) := by rw [AS.sub_eval, hfo, sub_fn]
      have hargs : first.map (AV.sub θ) ++ args.toList.map (s.sub θ).eval ++ cap.map (AV.sub θ) = (first ++ args.toList.map s.eval ++ cap).map (AV.sub θ) := by
        simp only [List.map_append, List.map_map]
        congr 2
        apply List.map_congr_left
        intro x _
        exact AS.sub_eval θ s x
      unfold sCall at h
      split at h
      · exact h.elim
      · rename_i fn hfn
        split at h
        · rename_i φ hφ
          split at h
          · rename_i pat fr' hpat
            split at h
            · rename_i hbb
              rw [Bool.and_eq_true] at hbb
              have hle := Nat.le_of_ble_eq_true hbb.2
              split at h
              · rename_i cargs hca
                obtain ⟨θ1, a1, f1, e1, θ2, a2, f2, e2, hl⟩ := h
                simp only [evalRO] at e1 e2
                split at e1
                · rename_i hrows
                  rw [hφ] at e2
                  simp only at e2
                  split at e2
                  · rename_i c hc
                    split at e2
                    · rename_i hflat
                      simp only [Option.some.injEq] at e2
                      have hs1 : s.sub θ1 = s.sub θ := AS.sub_agree a1 hbb.1
                      have hs2 : s.sub θ2 = s.sub θ := by rw [AS.sub_agree a2 hbb.1, hs1]
                      have hcargs : mapL (cont1 s.st 50) (first ++ args.toList.map s.eval ++ cap) = some cargs := by
                        unfold cargsOf at hca
                        split at hca
                        · cases hca
                        · split at hca
                          · rename_i l hl2; cases hca; exact hl2
                          · cases hca
                      have hmemo := hΦ f φ hφ _ _ hc
                      have htold : Told P f ((first ++ args.toList.map s.eval ++ cap).map (AV.sub θ1)) (s.st.sub θ1) c := by
                        refine told_of_memo hmemo (hflat trivial) (fun G vs w hr hrel => ?_)
                        obtain ⟨g1, g2⟩ := mapL_get hcargs
                        refine ⟨by rw [hr.1]; simp [g1], fun j hj hj' => ?_⟩
                        have hj1 : j < cargs.length := by simpa using hj
                        have hj2 : j < (first ++ args.toList.map s.eval ++ cap).length := by omega
                        have := cont1_ok (θ := θ1) f1 hrel (fun _ => none) (fun id e z j' ho' => ?_) 50 _ _ vs[j] (g2 j hj2 hj1) (by
                          have := hr.2 j (by simpa using hj2) hj'
                          rw [List.getElem_map] at this
                          exact this)
                        · simpa using this
                        · have hm := List.all_eq_true.1 hrows j' (xvars_mem ho')
                          have hb := s.bnd_obj hbb.1 ho'
                          simp only [AObj.bnd, Nat.blt_eq] at hb
                          rw [a1 j' hb]
                          split at hm
                          · rename_i es he; exact ⟨es, he⟩
                          · cases hm
                      have hargs1 : (first ++ args.toList.map s.eval ++ cap).map (AV.sub θ1) = (first ++ args.toList.map s.eval ++ cap).map (AV.sub θ) := by
                        rw [← hargs]
                        have e : (s.sub θ1).eval = (s.sub θ).eval := by rw [hs1]
                        have hfb := s.bnd_eval hbb.1 fo
                        rw [hfo] at hfb
                        simp only [AV.bnd, Bool.and_eq_true] at hfb
                        have q1 : first.map (AV.sub θ1) = first.map (AV.sub θ) := by rw [← subL_eq, ← subL_eq, subL_agree a1 first hfb.1]
                        have q2 : cap.map (AV.sub θ1) = cap.map (AV.sub θ) := by rw [← subL_eq, ← subL_eq, subL_agree a1 cap hfb.2]
                        simp only [List.map_append, List.map_map]
                        rw [q1, q2]
                        congr 2
                        apply List.map_congr_left
                        intro x _
                        have := congrFun e x
                        rw [AS.sub_eval] at this
                        exact this
                      have hst1 : s.st.sub θ1 = s.st.sub θ := Store.sub_agree a1 hbb.1
                      rw [hargs1, hst1, ← hargs] at htold
                      refine BOps.told ho hop hw hd' hfo' htold ?_
                      have := hk (s.put o.dst pat) fr' θ2 A hle f2 (fun j hj => (a2 j hj).trans (a1 j hj)) (fun _ _ => rfl) hl
                      have e3 := AS.sub_put θ2 s s.st o.dst pat
                      have e4 : ({ s with st := s.st } : AS) = s := rfl
                      rw [e4] at e3
                      rw [e3] at this
                      have e5 : ({ s.sub θ2 with st := s.st.sub θ2 } : AS) = s.sub θ2 := rfl
                      rw [e5, hs2, ← e2] at this
                      exact this
                    · cases e2
                  · cases e2
                · cases e1
              · rename_i cargs hca
                obtain ⟨θ2, a2, f2, e2, hl⟩ := h
                simp only [evalRO] at e2
                rw [hφ] at e2
                simp only at e2
                split at e2
                · rename_i c hc
                  split at e2
                  · simp only [Option.some.injEq] at e2
                    have hs2 : s.sub θ2 = s.sub θ := AS.sub_agree a2 hbb.1
                    have hcargs : cargs = first ++ args.toList.map s.eval ++ cap := by
                      unfold cargsOf at hca
                      split at hca
                      · cases hca; rfl
                      · split at hca <;> cases hca
                    rw [hcargs] at hc
                    have hmemo := hΦ f φ hφ _ _ hc (s.st.sub θ)
                    rw [← hargs] at hmemo
                    refine BOps.told ho hop hw hd' hfo' hmemo ?_
                    have := hk (s.put o.dst pat) fr' θ2 A hle f2 a2 (fun _ _ => rfl) hl
                    have e3 := AS.sub_put θ2 s s.st o.dst pat
                    have e4 : ({ s with st := s.st } : AS) = s := rfl
                    rw [e4] at e3
                    rw [e3] at this
                    have e5 : ({ s.sub θ2 with st := s.st.sub θ2 } : AS) = s.sub θ2 := rfl
                    rw [e5, hs2, ← e2] at this
                    exact this
                  · cases e2
                · cases e2
              · exact h.elim
            · exact h.elim
          · exact h.elim
        · split at h
          · rename_i c hb
            split at h
            · rename_i hcc
              simp only [Bool.and_eq_true, Bool.not_eq_true'] at hcc
              obtain ⟨⟨c1, c2⟩, c3⟩ := hcc
              have := hex _ _ _ _ _ _ _ hθ h
              rw [enter_sub] at this
              refine BOps.inline (n := n) hT ho hop hw hd' hfo' (hF f fn hfn) c2 hb (by rw [hargs, List.length_map]; exact Nat.le_of_ble_eq_true c1) ?_
              rw [hargs]
              refine BWp.mono this ?_
              rintro e s' ⟨e', θ1, S1, fr1, A1, rfl, hfr, f1, a1, b1, rfl, hl⟩
              have hs1 : s.sub θ1 = s.sub θ := AS.sub_agree a1 c3
              have fin : ∀ v, aresults T fn S1 = some v → Leads T Φ Q (kk ({ s with st := S1.st }.put o.dst v) fr1) θ1 A1 → ∃ v, aresults T fn (S1.sub θ1) = some v ∧ BOps P ops n0 n Qs rest ({ s.sub θ with st := (S1.sub θ1).st }.put o.dst v) := fun v hv hl => by
                refine ⟨v.sub θ1, aresults_sub hv, ?_⟩
                have := hk _ _ _ _ hfr f1 a1 b1 hl
                rw [AS.sub_put, hs1] at this
                exact this
              cases e' with
              | exi j => exact hl.elim
              | nor =>
                simp only at hl
                split at hl
                · rename_i v hv; exact ⟨.inl rfl, fin v hv hl⟩
                · exact hl.elim
              | ret =>
                simp only at hl
                split at hl
                · rename_i v hv; exact ⟨.inr rfl, fin v hv hl⟩
                · exact hl.elim
            · exact h.elim
          · exact h.elim
    · exact h.elim
  · split at h
    · rename_i v σ' ha
      have ha' := aop_sub hθ ha
      have e : (fun x => (s.eval x).sub θ) = (s.sub θ).eval := (AS.sub_evalF θ s).symm
      rw [e] at ha'
      refine BOps.plain hT ho hi hw hd' ha' ?_
      have := hk _ _ _ _ (Nat.le_refl _) hθ (fun _ _ => rfl) (fun _ _ => rfl) h
      rw [AS.sub_put] at this
      exact this
    · split at h
      · rename_i ro pat v σ' fr' hr
        split at h
        · rename_i hbb
          rw [Bool.and_eq_true] at hbb
          obtain ⟨θ', a1, f1, e1, hl⟩ := h
          have ha' := resid_ok (T := T) (Φ := Φ) a1 hbb.1 hθ hr e1
          have hs1 : s.sub θ' = s.sub θ := AS.sub_agree a1 hbb.1
          have hst : s.st.sub θ' = (s.sub θ).st := by rw [← hs1]; rfl
          rw [hs1, hst] at ha'
          refine BOps.plain hT ho hi hw hd' ha' ?_
          have := hk _ _ _ _ (Nat.le_of_ble_eq_true hbb.2) f1 a1 (fun _ _ => rfl) hl
          rw [AS.sub_put, hs1] at this
          exact this
        · exact h.elim
      · exact h.elim

include hT hΦ hF in
theorem sOps_ok {ex : Exe} (hex : ExOk P T Φ Q ex) {ops : Array Oper} {n0 n : Nat} : ∀ (l : List Oper) (i : Nat) (s : AS) (fr : Nat) (k : KS) (θ : Nat → AV) (A : Nat → List AV → Prop), (∀ j : Nat, l[j]? = ops[i + j]?) → i + l.length = ops.size → Fit θ →
    Leads T Φ Q (sOps T Φ F ex ops n0 l i s fr k) θ A → BOps P ops n0 n (PostS T Φ Q fr θ A k) (List.range' i l.length) (s.sub θ)
  | [], i, s, fr, k, θ, A, _, _, hθ, h => BOps.nil ⟨θ, s, fr, A, Nat.le_refl _, hθ, fun _ _ => rfl, fun _ _ => rfl, rfl, h⟩
  | o :: rest, i, s, fr, k, θ, A, hl, hlen, hθ, h => by
    have ho : ops[i]? = some o := by have := hl 0; simpa using this.symm
    have hl' : ∀ j : Nat, rest[j]? = ops[i + 1 + j]? := fun j => by have := hl (j + 1); simpa [Nat.add_assoc, Nat.add_comm 1 j] using this
    have hlen' : i + 1 + rest.length = ops.size := by simp at hlen; omega
    have hnot : i ∉ List.range' (i + 1) rest.length := by simp [List.mem_range'_1]; omega
    simp only [List.length_cons, List.range'_succ]
    have ih := fun s' fr' θ' A' (hfr : fr ≤ fr') (hf' : Fit θ') (ha : ∀ j, j < fr → θ' j = θ j) (hA : ∀ l, l < fr → A' l = A l) (hh : Leads T Φ Q (sOps T Φ F ex ops n0 rest (i + 1) s' fr' k) θ' A') =>
      (show BOps P ops n0 n (PostS T Φ Q fr θ A k) (List.range' (i + 1) rest.length) (AS.sub θ' s') from by
        have h1 := sOps_ok (n := n) hex rest (i + 1) s' fr' k θ' A' hl' hlen' hf' hh
        intro G a w g1 g2 g3 g4
        refine wpOps_mono ?_ _ _ _ (h1 G a w g1 g2 g3 g4)
        rintro e a' w' ⟨e1, s2, G2, b1, b2, θ2, S2, fr2, A2, q1, q2, q3, q4, q5, q6⟩
        exact ⟨e1, s2, G2, b1, b2, θ2, S2, fr2, A2, Nat.le_trans hfr q1, q2, fun j hj => (q3 j (by omega)).trans (ha j hj), fun l hl => (q4 l (by omega)).trans (hA l hl), q5, q6⟩)
    unfold sOps at h
    split at h
    · exact h.elim
    · rename_i hd
      split at h
      · rename_i hw
        exact sOne_ok hT hΦ hF hex ho hnot hθ (awanted_sub θ hw) hd ih h
      · rename_i hw
        refine BOps.skip ho (awanted_sub θ hw) hd ?_
        have := ih _ _ _ _ (Nat.le_refl _) hθ (fun _ _ => rfl) (fun _ _ => rfl) h
        have e3 := AS.sub_put θ s s.st o.dst (.sc undef)
        have e4 : ({ s with st := s.st } : AS) = s := rfl
        have e5 : ({ s.sub θ with st := s.st.sub θ } : AS) = s.sub θ := rfl
        rw [e4, e5, sub_sc] at e3
        rw [e3] at this
        exact this
      · rename_i hw
        split at h
        · rename_i j want hg
          have hwant : ∀ b, θ j = .sc (.bool b) → awanted ops (s.sub θ) o = some (b == want) := fun b hb => by
            unfold guardVar at hg
            unfold awanted
            split at hg
            · cases hg
            · rename_i j' w' hgu
              rw [hgu]
              simp only
              split at hg
              · rename_i d hdd
                rw [hdd]
                simp only
                split at hg
                · rename_i hlt
                  rw [Nat.blt_eq] at hlt
                  rw [AS.sub_n, if_pos hlt, AS.sub_get]
                  split at hg
                  · rename_i i' hi'
                    cases hg
                    rw [hi', sub_sy, hb]
                  · cases hg
                · cases hg
              · cases hg
          have both : ∀ b : Bool, θ j = .sc (.bool b) → Leads T Φ Q (match b == want with
              | true => sOne T Φ F ex (n0 + i) o (s.ssub (instB j b)) fr fun s' fr' => sOps T Φ F ex ops n0 rest (i + 1) s' fr' k
              | false => sOps T Φ F ex ops n0 rest (i + 1) ((s.ssub (instB j b)).put o.dst (.sc undef)) fr k) θ A → BOps P ops n0 n (PostS T Φ Q fr θ A k) (i :: List.range' (i + 1) rest.length) (s.sub θ) := fun b hb hh => by
            have hin := inst_sub (θ := θ) (j := j) (b := b) hb s
            have hwb := hwant b hb
            rw [← hin] at hwb ⊢
            split at hh
            · rename_i hbw
              rw [hbw] at hwb
              exact sOne_ok hT hΦ hF hex ho hnot hθ hwb hd ih hh
            · rename_i hbw
              rw [hbw] at hwb
              refine BOps.skip ho hwb hd ?_
              have := ih _ _ _ _ (Nat.le_refl _) hθ (fun _ _ => rfl) (fun _ _ => rfl) hh
              have e3 := AS.sub_put θ (s.ssub (instB j b)) (s.ssub (instB j b)).st o.dst (.sc undef)
              have e4 : ({ s.ssub (instB j b) with st := (s.ssub (instB j b)).st } : AS) = s.ssub (instB j b) := rfl
              have e5 : ({ (s.ssub (instB j b)).sub θ with st := (s.ssub (instB j b)).st.sub θ } : AS) = (s.ssub (instB j b)).sub θ := rfl
              rw [e4, e5, sub_sc] at e3
              rw [e3] at this
              exact this
          rcases h with ⟨hb, hh⟩ | ⟨hb, hh⟩
          · exact both true hb hh
          · exact both false hb hh
        · exact h.elim

theorem BWp.convEnd' {n : Nat} {c : Code} {Q' : Exit → AS → Prop} {s : AS} (h : BWp P n c (fun e s1 => (∃ ι s2, Ren ι n s2 s1 ∧ Q' e s2) ∨ Q' e s1) s) : BWp P n c Q' s := by
  intro hn G a w hr
  refine wp_mono (h hn G a w hr) ?_
  rintro e a' w' ⟨s1, G1, b1, b2, ⟨ι, s2, b3, b4⟩ | b4⟩
  · obtain ⟨h1, h2⟩ := b3.rel b2
    exact ⟨s2, _, b1.trans h2 (Nat.le_refl _), h1, b4⟩
  · exact ⟨s1, G1, b1, b2, b4⟩

/-! ### regions that draw their order -/

theorem smallGo_sub (θ : Nat → AV) (σ : Store) : ∀ (is : List Nat) (t : Store), (smallGo σ is t).sub θ = smallGo (σ.sub θ) is (t.sub θ)
  | [], t => rfl
  | i :: is, t => by
    simp only [smallGo]
    rw [smallGo_sub θ σ is, Store.sub_objs]
    cases σ.objs i with
    | none => rfl
    | some o => simp only [Option.map_some]; rw [Store.sub_set]
theorem small_sub (θ : Nat → AV) (σ : Store) (ids : List Nat) : (small σ ids).sub θ = small (σ.sub θ) ids := smallGo_sub θ σ ids _
theorem applyE_sub (θ : Nat → AV) (σ1 : Store) : ∀ (is : List Nat) (σ : Store), (applyE σ1 is σ).sub θ = applyE (σ1.sub θ) is (σ.sub θ)
  | [], σ => rfl
  | i :: is, σ => by
    simp only [applyE]
    rw [applyE_sub θ σ1 is, Store.sub_objs]
    cases σ1.objs i with
    | none => simp only [Option.map_none]; rw [Store.sub_del]
    | some o => simp only [Option.map_some]; rw [Store.sub_set]
theorem saved_sub (θ : Nat → AV) (σ : Store) (ids : List Nat) : saved (σ.sub θ) ids = (saved σ ids).map fun p => (p.1, p.2.sub θ) := by
  unfold saved
  rw [List.map_filterMap]
  congr 1
  funext id
  rw [Store.sub_objs]
  cases σ.objs id <;> rfl
theorem delAll_sub (θ : Nat → AV) : ∀ (l : List (Nat × AObj)) (σ : Store), (delAll l σ).sub θ = delAll (l.map fun p => (p.1, p.2.sub θ)) (σ.sub θ)
  | [], σ => rfl
  | p :: l, σ => by simp only [delAll, List.map_cons]; rw [delAll_sub θ l, Store.sub_del]
theorem setAll_sub (θ : Nat → AV) : ∀ (l : List (Nat × AObj)) (σ : Store), (setAll l σ).sub θ = setAll (l.map fun p => (p.1, p.2.sub θ)) (σ.sub θ)
  | [], σ => rfl
  | p :: l, σ => by simp only [setAll, List.map_cons]; rw [setAll_sub θ l, Store.sub_set]

theorem callStD_sub (θ : Nat → AV) (σ : Store) (ids : List Nat) : (callStD σ ids).sub θ = callStD (σ.sub θ) ids := by
  unfold callStD
  rw [saved_sub]
  have r1 := setAll_sub θ (saved σ ids) { delAll (saved σ ids) σ with low := σ.next }
  have r2 := delAll_sub θ (saved σ ids) σ
  have r3 : Store.sub θ { delAll (saved σ ids) σ with low := σ.next } = { Store.sub θ (delAll (saved σ ids) σ) with low := σ.next } := rfl
  have r4 : ∀ (x : Store) (l : Nat), Store.sub θ { x with low := l } = { Store.sub θ x with low := l } := fun _ _ => rfl
  rw [r4, r1, r3, r2]; rfl

theorem ids0_sub {θ : Nat → AV} (hθ : Fit θ) (v : AV) : (v.sub θ).ids0 = v.ids0 := by
  cases v with
  | sy i => simpa [AV.ids0] using (hθ i).ids0
  | _ => simp [AV.ids0]
theorem foot_sub {θ : Nat → AV} (hθ : Fit θ) (s : AS) (op : Op) : foot (s.sub θ).eval op = foot s.eval op := by
  cases op with
  | call c =>
    obtain ⟨callee, args, ts⟩ := c
    cases callee <;> simp [foot, AS.sub_eval, ids0_sub hθ]
  | _ => simp [foot, AS.sub_eval, ids0_sub hθ]

/-- What is told, as a function. -/
def toldCl (Φ : Tell) (f : FuncId) (args : List AV) (σ : Store) : Option (AV × Store) := match Φ f with
  | some φ => match φ args with
    | some c => some (c, σ)
    | none => none
  | none => none

theorem resid_idle {T : Tab} {ρ : Operand → AV} {σ σ' : Store} {id : Nat} {op : Op} {fr fr' : Nat} {ro : RO} {pat v : AV} (h : resid T ρ σ id op fr = some (ro, pat, v, σ', fr')) (hi : idle op = true) : σ' = σ ∧ ∀ σ0, resid T ρ σ0 id op fr = some (ro, pat, v, σ0, fr') := by
  cases op with
  | binOp o t x y p => cases h; exact ⟨rfl, fun _ => rfl⟩
  | unOp o t x => cases h; exact ⟨rfl, fun _ => rfl⟩
  | convert s d x => cases h; exact ⟨rfl, fun _ => rfl⟩
  | pick c a b => cases h; exact ⟨rfl, fun _ => rfl⟩
  | indexAddr t x i =>
    simp only [resid] at h ⊢
    split at h
    · split at h
      · cases h; exact ⟨rfl, fun _ => rfl⟩
      · cases h
    · cases h
  | index t x i => cases h; exact ⟨rfl, fun _ => rfl⟩
  | slice t x lo hi mx =>
    cases mx with
    | none => cases h; exact ⟨rfl, fun _ => rfl⟩
    | some m => simp [resid] at h
  | call c => obtain ⟨callee, args, ts⟩ := c; simp [idle] at hi
  | _ => simp [resid] at h

theorem sOneD_ok {ops : Array Oper} {n0 N mask i : Nat} {bar : Bool} {o : Oper} (hbar : bar = true → isCall o.op = true) {s : AS} {fr : Nat} {kk : KD} {θ : Nat → AV} {A : Nat → List AV → Prop} (hθ : Fit θ) (hw : awanted ops (s.sub θ) o = some true) (hd : dstOk s.n o.dst = true)
    (h : Leads T Φ Q (sOneD T Φ F n0 N mask i bar o s fr kk) θ A) : ∃ θ' S' fr' f, fr ≤ fr' ∧ Fit θ' ∧ (∀ j, j < fr → θ' j = θ j) ∧ stepD T (toldCl Φ) ops n0 N mask i bar (s.sub θ) o = some (AS.sub θ' S', f) ∧ Leads T Φ Q (kk S' fr' f) θ' A := by
  have hd' : dstOk (s.sub θ).n o.dst = true := hd
  unfold sOneD at h
  split at h
  · rename_i fo args ts hop
    split at h
    · rename_i f first cap hfo
      have hfo' : (s.sub θ).eval fo = .fn (.func f) (first.map (AV.sub θ)) (cap.map (AV.sub θ)) := by rw [AS.sub_eval, hfo, sub_fn]
      have hargs : first.map (AV.sub θ) ++ args.toList.map (s.sub θ).eval ++ cap.map (AV.sub θ) = (first ++ args.toList.map s.eval ++ cap).map (AV.sub θ) := by
        simp only [List.map_append, List.map_map]
        congr 2
        apply List.map_congr_left
        intro x _
        exact AS.sub_eval θ s x
      unfold sCallD at h
      split at h
      · rename_i fn φ hfn hφ
        split at h
        · rename_i pat fr' hpat
          split at h
          · rename_i hbb
            simp only [Bool.and_eq_true] at hbb
            obtain ⟨⟨c1, c2⟩, c3⟩ := hbb
            obtain ⟨θ', a1, f1, e1, hl⟩ := h
            simp only [evalRO, hφ] at e1
            split at e1
            · rename_i c hc
              split at e1
              · simp only [Option.some.injEq] at e1
                have hs1 : s.sub θ' = s.sub θ := AS.sub_agree a1 c1
                have hst1 : s.st.sub θ' = s.st.sub θ := Store.sub_agree a1 c1
                have hcl : ∀ σ, toldCl Φ f ((first ++ args.toList.map s.eval ++ cap).map (AV.sub θ)) σ = some (c, σ) := fun σ => by simp only [toldCl, hφ, hc]
                cases bar with
                | true =>
                  simp only at hl
                  refine ⟨θ', s.put o.dst pat, fr', _, Nat.le_of_ble_eq_true c2, f1, a1, ?_, hl⟩
                  unfold stepD
                  rw [hw, hd']
                  simp only [hop, hfo', if_true]
                  rw [hargs, hcl]
                  simp only [Nat.le_refl, if_true]
                  have e3 := AS.sub_put θ' s s.st o.dst pat
                  have e4 : ({ s with st := s.st } : AS) = s := rfl
                  have e5 : ({ s.sub θ' with st := s.st.sub θ' } : AS) = s.sub θ' := rfl
                  rw [e4, e5, hs1, ← e1] at e3
                  rw [e3]
                | false =>
                  simp only at hl
                  refine ⟨θ', _, fr', _, Nat.le_of_ble_eq_true c2, f1, a1, ?_, hl⟩
                  unfold stepD
                  rw [hw, hd']
                  simp only [hop, hfo', Bool.false_eq_true, if_false]
                  rw [hargs, hcl]
                  show (if _ then some ({ s.sub θ with st := callStD (s.sub θ).st (exIds n0 N mask) }.put o.dst c, (⟨[], [], true, (s.sub θ).st.next, false⟩ : Inf)) else none) = _
                  rw [if_pos ⟨Nat.le_refl _, by rw [show ∀ (x : Store) (l : Nat), ({ x with low := l } : Store).next = x.next from fun _ _ => rfl, delAll_next]; exact Nat.le_refl _⟩]
                  rw [AS.sub_put, ← e1, callStD_sub, hst1, hs1]
                  rfl
              · cases e1
            · cases e1
          · exact h.elim
        · exact h.elim
      · exact h.elim
    · exact h.elim
  · rename_i hncall
    have hstep : ∀ (θ1 : Nat → AV) (v : AV) (σ1 : Store), aop T (s.sub θ1).eval (small (s.st.sub θ1) (foot (s.sub θ1).eval o.op)) (n0 + i) o.op = some (v, σ1) → s.sub θ1 = s.sub θ →
        stepD T (toldCl Φ) ops n0 N mask i bar (s.sub θ) o = some ({ s.sub θ1 with st := (match σ1.objs (n0 + i) with
          | some x => (if isE o.op then applyE σ1 (foot (s.sub θ1).eval o.op) (s.st.sub θ1) else (s.st.sub θ1)).set (n0 + i) x
          | none => (if isE o.op then applyE σ1 (foot (s.sub θ1).eval o.op) (s.st.sub θ1) else (s.st.sub θ1))) }.put o.dst v, ⟨foot (s.sub θ1).eval o.op, if isE o.op then foot (s.sub θ1).eval o.op else [], false, 0, false⟩) := fun θ1 v σ1 ha hs => by
      have hst : s.st.sub θ1 = (s.sub θ).st := by rw [← hs]; rfl
      rw [hst, hs] at ha ⊢
      unfold stepD
      rw [hw, hd']
      simp only
      rw [ha]
      rfl
    split at h
    · rename_i v σ1 ha
      have ha' := aop_sub hθ ha
      have e : (fun x => (s.eval x).sub θ) = (s.sub θ).eval := (AS.sub_evalF θ s).symm
      rw [e, small_sub] at ha'
      have hft := foot_sub hθ s o.op
      refine ⟨θ, _, fr, _, Nat.le_refl _, hθ, fun _ _ => rfl, ?_, h⟩
      have := hstep θ (v.sub θ) (σ1.sub θ) (by rw [hft]; exact ha') rfl
      rw [this, hft, AS.sub_put]
      congr 3
      rw [Store.sub_objs]
      cases σ1.objs (n0 + i) with
      | none =>
        simp only [Option.map_none]
        split
        · rw [applyE_sub]
        · rfl
      | some x =>
        simp only [Option.map_some]
        rw [Store.sub_set]
        split
        · rw [applyE_sub]
        · rfl
    · split at h
      · rename_i hidle
        split at h
        · rename_i ro pat v σ' fr' hr
          split at h
          · rename_i hbb
            rw [Bool.and_eq_true] at hbb
            obtain ⟨θ', a1, f1, e1, hl⟩ := h
            obtain ⟨rfl, hr2⟩ := resid_idle hr hidle
            have ha' := resid_ok (T := T) (Φ := Φ) a1 hbb.1 hθ hr e1
            have hs1 : s.sub θ' = s.sub θ := AS.sub_agree a1 hbb.1
            have hft0 : foot (s.sub θ').eval o.op = [] ∧ isE o.op = false := by
              have := aop_idle ha' hidle
              exact this.2
            -- on the empty view
            have hsm : aop T (s.sub θ').eval (small (s.st.sub θ') (foot (s.sub θ').eval o.op)) (n0 + i) o.op = some (v.sub θ', small (s.st.sub θ') (foot (s.sub θ').eval o.op)) := by
              let s0 : AS := { s with st := small s.st [] }
              have hb0 : s0.bnd fr = true := by
                have := hbb.1
                simp only [AS.bnd, Bool.and_eq_true] at this ⊢
                exact ⟨this.1, rfl⟩
              have h0 := resid_ok (T := T) (Φ := Φ) (s := s0) a1 hb0 hθ (hr2 (small s.st [])) e1
              have e0 : (s0.sub θ').eval = (s.sub θ').eval := by
                funext x
                rw [AS.sub_eval, AS.sub_eval]
                cases x <;> rfl
              have e10 : (small s.st []).sub θ' = small (s.st.sub θ') [] := small_sub θ' s.st []
              rw [hft0.1, ← e10, ← e0]; exact h0
            have hnone : (small (s.st.sub θ') (foot (s.sub θ').eval o.op)).objs (n0 + i) = none := by rw [hft0.1, small_objs]; simp
            have := hstep θ' _ _ hsm hs1
            rw [hnone, hft0.1, hft0.2] at this
            simp only [Bool.false_eq_true, if_false] at this
            refine ⟨θ', s.put o.dst v, fr', _, Nat.le_of_ble_eq_true hbb.2, f1, a1, ?_, hl⟩
            rw [this]
            have e3 := AS.sub_put θ' s s.st o.dst v
            have e4 : ({ s with st := s.st } : AS) = s := rfl
            rw [e4] at e3
            rw [e3]
          · exact h.elim
        · exact h.elim
      · exact h.elim

theorem sDraw_ok {ops : Array Oper} {n0 N : Nat} {masks : List Nat} : ∀ (l : List Oper) (i : Nat) (s : AS) (fr : Nat) (acc : List Inf) (k : AS → Nat → List Inf → RT) (θ : Nat → AV) (A : Nat → List AV → Prop), Fit θ →
    Leads T Φ Q (sDraw T Φ F ops n0 N masks l i s fr acc k) θ A → ∃ θ' S' fr' fs, fr ≤ fr' ∧ Fit θ' ∧ (∀ j, j < fr → θ' j = θ j) ∧ runD T (toldCl Φ) ops n0 N masks l i (s.sub θ) = some (AS.sub θ' S', fs) ∧ Leads T Φ Q (k S' fr' (acc ++ fs)) θ' A
  | [], i, s, fr, acc, k, θ, A, hθ, h => ⟨θ, s, fr, [], Nat.le_refl _, hθ, fun _ _ => rfl, rfl, by rw [List.append_nil]; exact h⟩
  | o :: rest, i, s, fr, acc, k, θ, A, hθ, h => by
    have fin : ∀ (s1 : AS) (θ1 : Nat → AV) (fr1 : Nat) (f : Inf), fr ≤ fr1 → Fit θ1 → (∀ j, j < fr → θ1 j = θ j) → stepD T (toldCl Φ) ops n0 N (masks.getD i 0) i (isCall o.op && barAt ops masks i) (s.sub θ) o = some (AS.sub θ1 s1, f) →
        Leads T Φ Q (sDraw T Φ F ops n0 N masks rest (i + 1) s1 fr1 (acc ++ [f]) k) θ1 A → ∃ θ' S' fr' fs, fr ≤ fr' ∧ Fit θ' ∧ (∀ j, j < fr → θ' j = θ j) ∧ runD T (toldCl Φ) ops n0 N masks (o :: rest) i (s.sub θ) = some (AS.sub θ' S', fs) ∧ Leads T Φ Q (k S' fr' (acc ++ fs)) θ' A := by
      intro s1 θ1 fr1 f hfr hf1 ha1 hst hl
      obtain ⟨θ2, S2, fr2, fs, g1, g2, g3, g4, g5⟩ := sDraw_ok rest (i + 1) s1 fr1 (acc ++ [f]) k θ1 A hf1 hl
      refine ⟨θ2, S2, fr2, f :: fs, Nat.le_trans hfr g1, g2, fun j hj => (g3 j (by omega)).trans (ha1 j hj), ?_, by simpa using g5⟩
      simp only [runD, hst, g4]
    have skip : ∀ s0 : AS, s0.sub θ = s.sub θ → s0.n = s.n → awanted ops (s.sub θ) o = some false → dstOk s.n o.dst = true → stepD T (toldCl Φ) ops n0 N (masks.getD i 0) i (isCall o.op && barAt ops masks i) (s.sub θ) o = some (AS.sub θ (s0.put o.dst (.sc undef)), ⟨[], [], false, 0, false⟩) := fun s0 h0 _ hw hd => by
      have hd' : dstOk (s.sub θ).n o.dst = true := hd
      unfold stepD
      rw [hw, hd']
      have e3 := AS.sub_put θ s0 s0.st o.dst (.sc undef)
      have e4 : ({ s0 with st := s0.st } : AS) = s0 := rfl
      have e5 : ({ s0.sub θ with st := s0.st.sub θ } : AS) = s0.sub θ := rfl
      rw [e4, e5, sub_sc, h0] at e3
      rw [e3]
    unfold sDraw at h
    split at h
    · exact h.elim
    · rename_i hd
      split at h
      · rename_i hw
        obtain ⟨θ1, S1, fr1, f, g1, g2, g3, g4, g5⟩ := sOneD_ok (T := T) (Φ := Φ) (F := F) (ops := ops) (fun hb => by rw [Bool.and_eq_true] at hb; exact hb.1) hθ (awanted_sub θ hw) hd h
        exact fin S1 θ1 fr1 f g1 g2 g3 g4 g5
      · rename_i hw
        exact fin _ θ fr _ (Nat.le_refl _) hθ (fun _ _ => rfl) (skip s rfl rfl (awanted_sub θ hw) hd) h
      · rename_i hw
        split at h
        · rename_i j want hg
          have hwant : ∀ b, θ j = .sc (.bool b) → awanted ops (s.sub θ) o = some (b == want) := fun b hb => by
            unfold guardVar at hg
            unfold awanted
            split at hg
            · cases hg
            · rename_i j' w' hgu
              rw [hgu]
              simp only
              split at hg
              · rename_i d hdd
                rw [hdd]
                simp only
                split at hg
                · rename_i hlt
                  rw [Nat.blt_eq] at hlt
                  rw [AS.sub_n, if_pos hlt, AS.sub_get]
                  split at hg
                  · rename_i i' hi'
                    cases hg
                    rw [hi', sub_sy, hb]
                  · cases hg
                · cases hg
              · cases hg
          have both : ∀ b : Bool, θ j = .sc (.bool b) → Leads T Φ Q (match b == want with
              | true => sOneD T Φ F n0 N (masks.getD i 0) i (isCall o.op && barAt ops masks i) o (s.ssub (instB j b)) fr fun s' fr' f => sDraw T Φ F ops n0 N masks rest (i + 1) s' fr' (acc ++ [f]) k
              | false => sDraw T Φ F ops n0 N masks rest (i + 1) ((s.ssub (instB j b)).put o.dst (.sc undef)) fr (acc ++ [⟨[], [], false, 0, false⟩]) k) θ A → ∃ θ' S' fr' fs, fr ≤ fr' ∧ Fit θ' ∧ (∀ j, j < fr → θ' j = θ j) ∧ runD T (toldCl Φ) ops n0 N masks (o :: rest) i (s.sub θ) = some (AS.sub θ' S', fs) ∧ Leads T Φ Q (k S' fr' (acc ++ fs)) θ' A := fun b hb hh => by
            have hin := inst_sub (θ := θ) (j := j) (b := b) hb s
            have hwb := hwant b hb
            split at hh
            · rename_i hbw
              rw [hbw] at hwb
              rw [← hin] at hwb
              obtain ⟨θ1, S1, fr1, f, g1, g2, g3, g4, g5⟩ := sOneD_ok (T := T) (Φ := Φ) (F := F) (ops := ops) (fun hb => by rw [Bool.and_eq_true] at hb; exact hb.1) hθ hwb hd hh
              rw [hin] at g4
              exact fin S1 θ1 fr1 f g1 g2 g3 g4 g5
            · rename_i hbw
              rw [hbw] at hwb
              exact fin _ θ fr _ (Nat.le_refl _) hθ (fun _ _ => rfl) (skip _ hin rfl hwb hd) hh
          rcases h with ⟨hb, hh⟩ | ⟨hb, hh⟩
          · exact both true hb hh
          · exact both false hb hh
        · exact h.elim

include hΦ in
theorem toldCl_ok : ∀ f args σ v σ', toldCl Φ f args σ = some (v, σ') → ACallOk P f args σ (fun v' σ'' => v' = v ∧ σ'' = σ') ∧ LowOk σ σ' := by
  intro f args σ v σ' h
  unfold toldCl at h
  split at h
  · rename_i φ hφ
    split at h
    · rename_i c hc
      cases h
      exact ⟨hΦ f φ hφ args v hc σ, .refl _⟩
    · cases h
  · cases h

variable (hm : P.follows .mixedOrders = true)

theorem PostE.weak {fr fr' : Nat} {θ θ' : Nat → AV} {A A' : Nat → List AV → Prop} {k : KE} {e : Exit} {s : AS} (h : PostE T Φ Q fr' θ' A' k e s) (h1 : fr ≤ fr') (h2 : ∀ i, i < fr → θ' i = θ i) (h3 : ∀ l, l < fr → A' l = A l) : PostE T Φ Q fr θ A k e s := by
  obtain ⟨e', θ2, S2, fr2, A2, rfl, r1, r2, r3, r4, r5, r6⟩ := h
  exact ⟨e', θ2, S2, fr2, A2, rfl, Nat.le_trans h1 r1, r2, fun i hi => (r3 i (by omega)).trans (h2 i hi), fun l hl => (r4 l (by omega)).trans (h3 l hl), r5, r6⟩

/-- Rounds, one by one. -/
def BRounds (P : Program) (n : Nat) (c : Code) (Q : Exit → AS → Prop) : Nat → AS → Prop
  | 0, _ => False
  | j + 1, s => BWp P n c (AThen (BRounds P n c Q j) Q) s
theorem BRounds.wp {n : Nat} {c : Code} {Q' : Exit → AS → Prop} {j : Nat} {s : AS} (h : BRounds P n c Q' j s) : BWp P n (.loop c) Q' s := by
  refine BWp.loop (BRounds P n c Q') ?_ h
  intro k s1 hk
  cases k with
  | zero => exact hk.elim
  | succ k =>
    refine BWp.mono hk ?_
    intro e s2 h2
    cases e with
    | normal => exact ⟨k, Nat.lt_succ_self _, h2⟩
    | _ => exact h2

theorem sRounds_ok {ex : Exe} (hex : ExOk P T Φ Q ex) {n : Nat} {b : Code} {k : KE} {fr0 : Nat} {θ0 : Nat → AV} {A0 : Nat → List AV → Prop} : ∀ (j : Nat) (s : AS) (fr : Nat) (θ : Nat → AV) (A : Nat → List AV → Prop), fr0 ≤ fr → Fit θ → (∀ i, i < fr0 → θ i = θ0 i) → (∀ l, l < fr0 → A l = A0 l) →
    Leads T Φ Q (sRounds ex n b k j s fr) θ A → BRounds P n b (PostE T Φ Q fr0 θ0 A0 k) j (s.sub θ)
  | 0, s, fr, θ, A, _, _, _, _, h => h.elim
  | j + 1, s, fr, θ, A, h0, hθ, h1, h2, h => by
    refine BWp.mono (hex n b s fr _ θ A hθ h) ?_
    rintro e s' ⟨e', θ1, S1, fr1, A1, rfl, q1, q2, q3, q4, rfl, q6⟩
    have g1 : ∀ i, i < fr0 → θ1 i = θ0 i := fun i hi => (q3 i (by omega)).trans (h1 i hi)
    have g2 : ∀ l, l < fr0 → A1 l = A0 l := fun l hl => (q4 l (by omega)).trans (h2 l hl)
    cases e' with
    | nor => exact sRounds_ok hex j S1 fr1 θ1 A1 (by omega) q2 g1 g2 q6
    | exi i => exact ⟨.exi i, θ1, S1, fr1, A1, rfl, by omega, q2, g1, g2, rfl, q6⟩
    | ret => exact ⟨.ret, θ1, S1, fr1, A1, rfl, by omega, q2, g1, g2, rfl, q6⟩

include hT hΦ hF hm in
/-- **The run on states with variables is right.** -/
theorem exec_ok {H : Nat → Option Hint} : ∀ m, ExOk P T Φ Q (exec T Φ F H m)
  | 0 => fun n c s fr k θ A _ h => by simp [exec, Leads] at h
  | m + 1 => by
    intro n c s fr k θ A hθ h
    have ih := exec_ok (H := H) m
    have self : ∀ e, Leads T Φ Q (k e s fr) θ A → PostE T Φ Q fr θ A k (EX.toExit e) (s.sub θ) := fun e hh => ⟨e, θ, s, fr, A, rfl, Nat.le_refl _, hθ, fun _ _ => rfl, fun _ _ => rfl, rfl, hh⟩
    unfold exec at h
    split at h
    · exact BWp.of_awp (AWp.skip (self .nor h))
    · exact BWp.of_awp (AWp.label (self .nor h))
    · rename_i id ops
      refine BWp.region ?_
      have := sOps_ok hT hΦ hF ih (n0 := s.st.next) (n := n) ops.toList 0 _ fr _ θ A (fun j => by simp) (by simp) hθ h
      simp only [Array.length_toList] at this
      rw [List.range_eq_range']
      intro G a w g1 g2 g3 g4
      refine wpOps_mono ?_ _ _ _ (this G a w g1 g2 g3 g4)
      rintro e a' w' ⟨e1, s2, G2, b1, b2, θ2, S2, fr2, A2, q⟩
      exact ⟨e1, s2, G2, b1, b2, .nor, θ2, S2, fr2, A2, rfl, q⟩
    · rename_i id ops
      split at h
      · rename_i hst
        obtain ⟨θ', S', fr', fs, g1, g2, g3, g4, g5⟩ := sDraw_ok (T := T) (Φ := Φ) (F := F) ops.toList 0 _ fr [] _ θ A hθ h
        simp only [List.nil_append] at g5
        split at g5
        · rename_i hdyn
          refine BWp.of_awp (AWp.drawn hT hm (cl := toldCl Φ) (toldCl_ok hΦ) (s' := AS.sub θ' S') ?_ ⟨.nor, θ', S', fr', A, rfl, g1, g2, g3, fun _ _ => rfl, rfl, g5⟩)
          unfold runDrawn
          rw [if_pos hst]
          have e : ({ s.sub θ with st := { (s.sub θ).st with next := (s.sub θ).st.next + ops.size } } : AS) = AS.sub θ { s with st := { s.st with next := s.st.next + ops.size } } := rfl
          rw [e]
          have e2 : (s.sub θ).st.next = s.st.next := rfl
          rw [e2, g4]
          simp only
          rw [if_pos hdyn]
        · exact g5.elim
      · exact h.elim
    · rename_i a b
      refine BWp.seq (BWp.mono (ih n a s fr _ θ A hθ h) ?_)
      rintro e s' ⟨e', θ1, S1, fr1, A1, rfl, q1, q2, q3, q4, rfl, q6⟩
      cases e' with
      | nor =>
        refine BWp.mono (ih n b S1 fr1 k θ1 A1 q2 q6) ?_
        rintro e2 s2 ⟨e2', θ2, S2, fr2, A2, rfl, r1, r2, r3, r4, r5, r6⟩
        exact ⟨e2', θ2, S2, fr2, A2, rfl, Nat.le_trans q1 r1, r2, fun i hi => (r3 i (by omega)).trans (q3 i hi), fun l hl => (r4 l (by omega)).trans (q4 l hl), r5, r6⟩
      | exi j => exact ⟨.exi j, θ1, S1, fr1, A1, rfl, q1, q2, q3, q4, rfl, q6⟩
      | ret => exact ⟨.ret, θ1, S1, fr1, A1, rfl, q1, q2, q3, q4, rfl, q6⟩
    · rename_i x a b
      split at h
      · rename_i t hx
        refine BWp.cond (t := t) (by rw [AS.sub_eval, hx, sub_sc]) ?_
        exact ih n _ s fr k θ A hθ h
      · rename_i i hx
        have hev : ∀ t, θ i = .sc (.bool t) → (s.sub θ).eval x = .sc (.bool t) := fun t ht => by rw [AS.sub_eval, hx, sub_sy, ht]
        rcases h with ⟨hb, hh⟩ | ⟨hb, hh⟩
        · refine BWp.cond (t := true) (hev true hb) ?_
          have := ih n a _ fr k θ A hθ hh
          rw [inst_sub hb] at this
          exact this
        · refine BWp.cond (t := false) (hev false hb) ?_
          have := ih n b _ fr k θ A hθ hh
          rw [inst_sub hb] at this
          exact this
      · exact h.elim
    · rename_i id b
      refine BWp.block (BWp.mono (ih n b s fr _ θ A hθ h) ?_)
      rintro e s' ⟨e', θ1, S1, fr1, A1, rfl, q1, q2, q3, q4, rfl, q6⟩
      cases e' with
      | nor => exact ⟨.nor, θ1, S1, fr1, A1, rfl, q1, q2, q3, q4, rfl, q6⟩
      | ret => exact ⟨.ret, θ1, S1, fr1, A1, rfl, q1, q2, q3, q4, rfl, q6⟩
      | exi j =>
        simp only [EX.toExit, AInBlock]
        simp only at q6
        split
        · rename_i e; rw [if_pos e] at q6; exact ⟨.nor, θ1, S1, fr1, A1, rfl, q1, q2, q3, q4, rfl, q6⟩
        · rename_i e; rw [if_neg e] at q6; exact ⟨.exi j, θ1, S1, fr1, A1, rfl, q1, q2, q3, q4, rfl, q6⟩
    · rename_i b
      split at h
      · rename_i hint hH
        split at h
        · rename_i inits hm hbd
          obtain ⟨I, ⟨n1, hI0⟩, hround⟩ := h
          obtain ⟨v1, v2, v3, ι, hren⟩ := tryMatch_ok hθ hm
          refine BWp.conv hren ?_
          have eta_lo : ∀ (vals : List AV) (θ1 : Nat → AV) i, i < fr → (etaOf fr vals i).sub θ1 = θ1 i := fun vals θ1 i hi => by
            unfold etaOf
            have : Nat.ble fr i = false := by
              cases hb : Nat.ble fr i with
              | false => rfl
              | true => have := Nat.le_of_ble_eq_true hb; omega
            rw [this]; simp
          have eta_hi : ∀ (vals : List AV) (θ1 : Nat → AV) j (hj : j < vals.length), (etaOf fr vals (fr + j)).sub θ1 = (vals[j]).sub θ1 := fun vals θ1 j hj => by
            unfold etaOf
            rw [Nat.ble_eq_true_of_le (Nat.le_add_right fr j)]
            simp [hj]
          refine BWp.loop (fun k1 s1 => ∃ vals θ1, I k1 vals ∧ vals.length = hint.k ∧ (∀ v ∈ vals, Fit1 v) ∧ (∀ i, i < fr → θ1 i = θ i) ∧ (∀ j (hj : j < vals.length), θ1 (fr + j) = vals[j]) ∧ Fit θ1 ∧ s1 = hint.state.sub θ1) ?_ (k := n1) ?_
          · rintro k1 s1 ⟨vals, θ1, g1, g2, g3, g4, g5, g6, rfl⟩
            have hb := ih n b hint.state (fr + hint.k + 1) _ θ1 _ g6 (hround k1 vals g1 g2 g3 θ1 g4 g5 g6)
            refine BWp.convEnd' (BWp.mono hb ?_)
            rintro e s' ⟨e', θ2, S2, fr2, A2, rfl, q1, q2, q3, q4, rfl, q6⟩
            have hA2 : A2 fr = fun vals' => ∃ m, m < k1 ∧ I m vals' := by
              rw [q4 fr (by omega)]; simp
            have hlo : ∀ i, i < fr → θ2 i = θ i := fun i hi => (q3 i (by omega)).trans (g4 i hi)
            have hAlo : ∀ l, l < fr → A2 l = A l := fun l hl => by rw [q4 l (by omega)]; simp [Nat.ne_of_lt hl]
            cases e' with
            | nor =>
              left
              simp only at q6
              split at q6
              · rename_i vals' hm'
                obtain ⟨w1, w2, w3, ι', hren'⟩ := tryMatch_ok q2 hm'
                refine ⟨ι', _, hren', ?_⟩
                simp only [EX.toExit, AThen]
                have q7 : A2 fr (vals'.map (AV.sub θ2)) := q6
                rw [hA2] at q7
                obtain ⟨m1, hm1, hI1⟩ := q7
                refine ⟨m1, hm1, vals'.map (AV.sub θ2), _, hI1, by simpa using w1, fun v hv => ?_, fun i hi => by rw [eta_lo]; exact hlo i hi; exact hi, fun j hj => ?_, w3, rfl⟩
                · obtain ⟨v0, hv0, rfl⟩ := List.mem_map.1 hv; exact w2 v0 hv0
                · simp only [List.length_map] at hj
                  rw [eta_hi vals' θ2 j hj]; simp
              · exact q6.elim
            | exi j => right; exact ⟨.exi j, θ2, S2, fr2, A2, rfl, by omega, q2, hlo, hAlo, rfl, q6⟩
            | ret => right; exact ⟨.ret, θ2, S2, fr2, A2, rfl, by omega, q2, hlo, hAlo, rfl, q6⟩
          · refine ⟨inits.map (AV.sub θ), _, hI0, by simpa using v1, fun v hv => ?_, fun i hi => eta_lo _ _ i hi, fun j hj => ?_, v3, rfl⟩
            · obtain ⟨v0, hv0, rfl⟩ := List.mem_map.1 hv; exact v2 v0 hv0
            · simp only [List.length_map] at hj
              rw [eta_hi inits θ j hj]; simp
        · exact h.elim
      · exact (sRounds_ok ih 1000 s fr θ A (Nat.le_refl _) hθ (fun _ _ => rfl) (fun _ _ => rfl) h).wp
    · exact BWp.of_awp (AWp.exit (self (.exi _) h))
    · exact BWp.of_awp (AWp.ret (self .ret h))
    · exact h.elim

include hT hΦ hF hm in
/-- **The contract of a function**, out of where its tree leads. -/
theorem fn_ok {H : Nat → Option Hint} {m fr : Nat} {f : FuncId} {fn : Func} {c : Code} (hfn : F f = some fn) (hname : (fn.name == "runtime.NumGoroutine") = false) (hb : fn.body = some c) {pargs : List AV} (hn : pargs.length ≤ fn.ntmps) (hp : contL pargs = true)
    {θ : Nat → AV} (hθ : Fit θ) {r : AV} (h : Leads T Φ (fun c => c = r) (exec T Φ F H m 0 c (AS.enter fn.ntmps pargs Store.none) fr (kTop T fn)) θ (fun _ _ => False)) : MemoOk P ⟨f, pargs.map (AV.sub θ), r⟩ := by
  refine MemoOk.of_body hT (hF f fn hfn) hname hb (by simpa using hn) (by rw [← purL_eq, ← subL_eq]; exact contL_pur hθ pargs hp) ?_
  have := exec_ok hT hΦ hF hm (H := H) m 0 c _ fr _ θ _ hθ h
  rw [enter_sub] at this
  refine BWp.mono this ?_
  rintro e s' ⟨e', θ1, S1, fr1, A1, rfl, _, f1, _, _, rfl, hl⟩
  have fin : ∀ e'', e' = e'' → (e'' = .nor ∨ e'' = .ret) → (e''.toExit = .normal ∨ e''.toExit = .ret) ∧ ∃ v, aresults T fn (S1.sub θ1) = some v ∧ ∀ G w u pl, Rel G (S1.sub θ1).st w → Rep G v u → Rep (G.frozen (S1.sub θ1).st w pl) r u := by
    intro e'' he hor
    subst he
    refine ⟨by rcases hor with rfl | rfl <;> simp [EX.toExit], ?_⟩
    have hl' : Leads T Φ (fun c => c = r) (match aresults T fn S1 with
      | some v => match v.contP with
        | true => .ret v.nilz []
        | false => match cont1 S1.st 50 v with
          | some c => .ret c.nilz (xvars S1.st.tr)
          | none => .stuck
      | none => .stuck) θ1 A1 := by rcases hor with rfl | rfl <;> exact hl
    split at hl'
    · rename_i v hv
      refine ⟨v.sub θ1, aresults_sub hv, ?_⟩
      intro G w u pl hrel hrep
      split at hl'
      · rename_i hcp
        obtain ⟨_, hq⟩ := hl'
        rw [← hq]
        exact rep_nilz v u (pur_rep (fun b o hb => frozen_imm hrel hb) hrep (contP_pur f1 v hcp))
      · split at hl'
        · rename_i c hc
          obtain ⟨hrows, hq⟩ := hl'
          rw [← hq]
          exact rep_nilz c u (cont1_ok f1 hrel pl (fun id e z j ho => hrows j (xvars_mem ho)) 50 v c u hc hrep)
        · exact hl'.elim
    · exact hl'.elim
  cases e' with
  | exi j => exact hl.elim
  | nor => exact fin .nor rfl (.inl rfl)
  | ret => exact fin .ret rfl (.inr rfl)

end
end Go.Ab
