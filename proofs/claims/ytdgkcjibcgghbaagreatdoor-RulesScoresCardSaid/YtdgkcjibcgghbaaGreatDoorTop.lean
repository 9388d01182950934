/- The statements RulesChecks and RulesScores of chapter 36 hold: for every input the call returns true, and the input reads as it did. No condition but the rows' own. -/
import Derived.Test.YtdgkcjibcgghbaaGreatDoorLaws
import Derived.Test.YtdgkcjibcgghbaaGreatDoorAbLaw
import Derived.Test.YtdgkcjibcgghbaaGreatDoorRows
import Derived.Test.YtdgkcjibcgghbaaGreatDoorCards
import Derived.Test.YtdgkcjibcgghbaaGreatDoorTie
import Derived.ProofKit
import Derived.LaidMore
import Derived.OpenShut
import Derived.Stop.Joined
import Derived.SevenTiedAt
set_option linter.unusedVariables false
set_option linter.unusedSimpArgs false
namespace Go.Proofs.YtdgkcjibcgghbaaGreatDoor
open Go Go.Ab Go.ChangeShapes Go.WideShapes Go.RowKit
set_option maxRecDepth 100000

theorem own : ownKnob Tryz.prog.godebug = none := by kernel_rfl
theorem laidOut : laidOutB Tryz.prog = true := by kernel_rfl
theorem c3 : Tryz.prog.cellsOf 3 = 1 := by kernel_rfl
theorem c44 : Tryz.prog.cellsOf 44 = 4 := by kernel_rfl
theorem c23 : Tryz.prog.cellsOf 23 = 6 := by kernel_rfl
theorem pl23 : plainTy Tryz.prog 5 23 = true := by kernel_rfl
theorem pl24 : plainTy Tryz.prog 5 24 = true := by kernel_rfl

/-- The laid variable, where the door's own run ends. -/
theorem door_met (os : Os) (args : Array Value) : laidMetH Tryz.prog Rows.rulesChecksRow.laid ((World.doorLaid Tryz.prog 400 os).forCall (fun _ _ => 0) ⟨#[], args, []⟩).memory :=
  laidMetH_of_parts3 (fuel := 8) (laidMet_of_run' 8 (by kernel_rfl) (by kernel_rfl)) (by kernel_rfl) (by kernel_rfl)

theorem field {t : TypeId} {fs : Array Field} {c : List AV} (ht : Tryz.prog.underlying t = some (.struct fs)) (h : Sh Tryz.prog t c) (i : Nat) (f : Field) (hf : fs[i]? = some f) : Sh Tryz.prog f.type ((c.drop f.offset).take (Tryz.prog.cellsOf f.type)) :=
  (h.struct_inv ht).2 f (by have := Array.mem_of_getElem? hf; simpa using this)

theorem viol {c : List AV} (h : Sh Tryz.prog 44 c) : ∃ a b d s : Int, c = [.sc (.int .i64 a), .sc (.int .i64 b), .sc (.int .i64 d), .sc (.int .i64 s)] := by
  have hl := (h.struct_inv Tryz.underlying44).1
  rw [c44] at hl
  match c, hl with
  | [x0, x1, x2, x3], _ =>
    have h0 : Sh Tryz.prog 3 [x0] := by have := field Tryz.underlying44 h 0 _ rfl; simpa [c3] using this
    have h1 : Sh Tryz.prog 3 [x1] := by have := field Tryz.underlying44 h 1 _ rfl; simpa [c3] using this
    have h2 : Sh Tryz.prog 3 [x2] := by have := field Tryz.underlying44 h 2 _ rfl; simpa [c3] using this
    have h3 : Sh Tryz.prog 3 [x3] := by have := field Tryz.underlying44 h 3 _ rfl; simpa [c3] using this
    obtain ⟨a, e0, _⟩ := h0.int_inv Tryz.underlying3
    obtain ⟨b, e1, _⟩ := h1.int_inv Tryz.underlying3
    obtain ⟨d, e2, _⟩ := h2.int_inv Tryz.underlying3
    obtain ⟨s, e3, _⟩ := h3.int_inv Tryz.underlying3
    simp at e0 e1 e2 e3
    exact ⟨a, b, d, s, by rw [e0, e1, e2, e3]⟩

theorem viols : ∀ {es : List (List AV)}, (∀ c ∈ es, Sh Tryz.prog 44 c) → ∃ l, szs es = some l
  | [], _ => ⟨[], rfl⟩
  | c :: es, h => by
    obtain ⟨l, hl⟩ := viols (es := es) (fun c' hc => h c' (by simp [hc]))
    obtain ⟨a, b, d, s, rfl⟩ := viol (h c (by simp))
    exact ⟨s :: l, by simp [szs, hl]⟩

theorem spec6 {c : List AV} (h : Sh Tryz.prog 23 c) : ∃ x0 x1 x2 x3 x4 x5 : Int, c = [.sc (.int .i64 x0), .sc (.int .i64 x1), .sc (.int .i64 x2), .sc (.int .i64 x3), .sc (.int .i64 x4), .sc (.int .i64 x5)] := by
  have hl := (h.struct_inv Tryz.underlying23).1
  rw [c23] at hl
  match c, hl with
  | [x0, x1, x2, x3, x4, x5], _ =>
    have h0 : Sh Tryz.prog 3 [x0] := by have := field Tryz.underlying23 h 0 _ rfl; simpa [c3] using this
    have h1 : Sh Tryz.prog 3 [x1] := by have := field Tryz.underlying23 h 1 _ rfl; simpa [c3] using this
    have h2 : Sh Tryz.prog 3 [x2] := by have := field Tryz.underlying23 h 2 _ rfl; simpa [c3] using this
    have h3 : Sh Tryz.prog 3 [x3] := by have := field Tryz.underlying23 h 3 _ rfl; simpa [c3] using this
    have h4 : Sh Tryz.prog 3 [x4] := by have := field Tryz.underlying23 h 4 _ rfl; simpa [c3] using this
    have h5 : Sh Tryz.prog 3 [x5] := by have := field Tryz.underlying23 h 5 _ rfl; simpa [c3] using this
    obtain ⟨a0, e0, _⟩ := h0.int_inv Tryz.underlying3
    obtain ⟨a1, e1, _⟩ := h1.int_inv Tryz.underlying3
    obtain ⟨a2, e2, _⟩ := h2.int_inv Tryz.underlying3
    obtain ⟨a3, e3, _⟩ := h3.int_inv Tryz.underlying3
    obtain ⟨a4, e4, _⟩ := h4.int_inv Tryz.underlying3
    obtain ⟨a5, e5, _⟩ := h5.int_inv Tryz.underlying3
    simp at e0 e1 e2 e3 e4 e5
    exact ⟨a0, a1, a2, a3, a4, a5, by rw [e0, e1, e2, e3, e4, e5]⟩

theorem read3 : ∀ t ∈ Tryz.f3.params.toList, Tryz.prog.readableRec t = true ∧ t < Tryz.prog.types.size := by
  rw [Tryz.params3]
  intro t ht
  have hall : ([23, 24, 24].all fun u => Tryz.prog.readableRec u && decide (u < Tryz.prog.types.size)) = true := by kernel_rfl
  have := List.all_eq_true.1 hall t (by simpa using ht)
  simpa using this
theorem read4 : ∀ t ∈ Tryz.f4.params.toList, Tryz.prog.readableRec t = true ∧ t < Tryz.prog.types.size := by
  rw [Tryz.params4]
  intro t ht
  have hall : ([24, 24].all fun u => Tryz.prog.readableRec u && decide (u < Tryz.prog.types.size)) = true := by kernel_rfl
  have := List.all_eq_true.1 hall t (by simpa using ht)
  simpa using this

theorem lifted3 (os : Os) (started : os.Started) (H : Type) (enc : TypeId × Value → H) :
    ReturnsInHanded {} Tryz.checked os 3 .any (fun w args => (Rows.rulesChecksSpec.pre enc Tryz.prog Tryz.f3 [] false w args ∧ laidMetH Tryz.prog Rows.rulesChecksRow.laid w) ∧ sizedMet enc Tryz.prog Tryz.f3 (OpenSpec.ofChange Rows.rulesChecksSpec) false w args)
      (Rows.rulesChecksSpec.post enc Tryz.prog Tryz.f3 false true false false) := by
  refine returnsInHanded_of_change_and (C := Tryz.checked) (X := fun w _ => laidMetH Tryz.prog Rows.rulesChecksRow.laid w) (fun _ _ _ hh h => h.of_heap hh) own started (by kernel_rfl) Tryz.func3
    (ChangeSpec.witness_shaped (enc := enc) (C := Tryz.checked) (os := os) (X := fun w _ => laidMetH Tryz.prog Rows.rulesChecksRow.laid w) false (World.doorLaid Tryz.prog 400 os) #[.agg #[.int .i64 0, .int .i64 0, .int .i64 0, .int .i64 0, .int .i64 0, .int .i64 0], .slice none 0 0, .slice none 0 0] 8 rfl (World.shaped_of_RefB (by kernel_rfl) (by kernel_rfl)) (by kernel_rfl) (by kernel_rfl) (by kernel_rfl) (door_met os _)) ?_
  intro W base args ds gs before hval0 hW _ _ _ _
  have hval : ∀ (j : Nat) t v, Tryz.f3.params[j]? = some t → args[j]? = some v → Value.okWide Tryz.prog W .any base t v := hval0
  have hW' := hW
  obtain ⟨p, q, hA0, hV, rfl, hfz, hnd⟩ := hW
  have hA : DataW.TrodAll enc Tryz.prog W 0 (fun _ => true) true Tryz.f3.params.toList args.toList ds p := hA0
  rw [Tryz.params3] at hA hval
  obtain ⟨v0, v1, v2, d0, d1, d2, p0, p1, p2, rfl, rfl, rfl, t0, t1, t2⟩ := trodAll_three hA
  obtain ⟨rfl, rfl⟩ := trodVars_none hV
  obtain ⟨cs, r0, s0⟩ := arg_struct Tryz.underlying23 pl23 (hval 0 23 v0 rfl rfl) t0
  obtain ⟨x0, x1, x2, x3, x4, x5, rfl⟩ := spec6 s0
  obtain ⟨a, r1, _, s1⟩ := arg_slice Tryz.underlying24 pl24 (hval 1 24 v1 rfl rfl) t1
  obtain ⟨b, r2, _, s2⟩ := arg_slice Tryz.underlying24 pl24 (hval 2 24 v2 rfl rfl) t2
  obtain ⟨la, ha⟩ := viols s1
  obtain ⟨lb, hb⟩ := viols s2
  refine (law_calls Tryz.func3 (by kernel_rfl) (by kernel_rfl) (m3 x0 x1 x2 x3 x4 x5 ha hb) (.cons r0 (.cons r1 (.cons r2 (.nil _))))).mono ?_
  rintro e W' ⟨rfl, hbel⟩
  exact ⟨_, rfl, law_post laidOut rfl read3 (by kernel_rfl) Tryz.underlying4 ⟨rfl, rfl, rfl⟩ hW' hbel⟩

theorem rulesChecks_holds : Rows.RulesChecksSaid :=
  OpenClaim.holds_of_wide 3 Tryz.f3 rfl rfl rfl rfl rfl rfl rfl ⟨rfl, rfl, rfl, rfl, rfl⟩ rfl rfl rfl rfl rfl (by kernel_rfl) Tryz.func3 (by kernel_rfl)
    (of_decide_eq_true (by kernel_rfl)) (by unfold Func.isWrapper; first | (rw [if_pos (by decide +kernel)]; kernel_rfl) | (rw [if_neg (by decide +kernel)]; exact ⟨rfl, rfl⟩))
    (fun os started H enc _ => lifted3 os started H enc)

theorem lifted4 (os : Os) (started : os.Started) (H : Type) (enc : TypeId × Value → H) :
    ReturnsInHanded {} Tryz.checked os 4 .any (fun w args => (Rows.rulesScoresSpec.pre enc Tryz.prog Tryz.f4 [] false w args ∧ laidMetH Tryz.prog Rows.rulesScoresRow.laid w) ∧ sizedMet enc Tryz.prog Tryz.f4 (OpenSpec.ofChange Rows.rulesScoresSpec) false w args)
      (Rows.rulesScoresSpec.post enc Tryz.prog Tryz.f4 false true false false) := by
  refine returnsInHanded_of_change_and (C := Tryz.checked) (X := fun w _ => laidMetH Tryz.prog Rows.rulesScoresRow.laid w) (fun _ _ _ hh h => h.of_heap hh) own started (by kernel_rfl) Tryz.func4
    (ChangeSpec.witness_shaped (enc := enc) (C := Tryz.checked) (os := os) (X := fun w _ => laidMetH Tryz.prog Rows.rulesScoresRow.laid w) false (World.doorLaid Tryz.prog 400 os) #[.slice none 0 0, .slice none 0 0] 8 rfl (World.shaped_of_RefB (by kernel_rfl) (by kernel_rfl)) (by kernel_rfl) (by kernel_rfl) (by kernel_rfl) (door_met os _)) ?_
  intro W base args ds gs before hval0 hW _ _ _ _
  have hval : ∀ (j : Nat) t v, Tryz.f4.params[j]? = some t → args[j]? = some v → Value.okWide Tryz.prog W .any base t v := hval0
  have hW' := hW
  obtain ⟨p, q, hA0, hV, rfl, hfz, hnd⟩ := hW
  have hA : DataW.TrodAll enc Tryz.prog W 0 (fun _ => true) true Tryz.f4.params.toList args.toList ds p := hA0
  rw [Tryz.params4] at hA hval
  obtain ⟨v1, v2, d1, d2, p1, p2, rfl, rfl, rfl, t1, t2⟩ := trodAll_two hA
  obtain ⟨rfl, rfl⟩ := trodVars_none hV
  obtain ⟨a, r1, _, s1⟩ := arg_slice Tryz.underlying24 pl24 (hval 0 24 v1 rfl rfl) t1
  obtain ⟨b, r2, _, s2⟩ := arg_slice Tryz.underlying24 pl24 (hval 1 24 v2 rfl rfl) t2
  obtain ⟨la, ha⟩ := viols s1
  obtain ⟨lb, hb⟩ := viols s2
  refine (law_calls Tryz.func4 (by kernel_rfl) (by kernel_rfl) (m4 ha hb) (.cons r1 (.cons r2 (.nil _)))).mono ?_
  rintro e W' ⟨rfl, hbel⟩
  exact ⟨_, rfl, law_post laidOut rfl read4 (by kernel_rfl) Tryz.underlying4 ⟨rfl, rfl, rfl⟩ hW' hbel⟩

theorem rulesScores_holds : Rows.RulesScoresSaid :=
  OpenClaim.holds_of_wide 4 Tryz.f4 rfl rfl rfl rfl rfl rfl rfl ⟨rfl, rfl, rfl, rfl, rfl⟩ rfl rfl rfl rfl rfl (by kernel_rfl) Tryz.func4 (by kernel_rfl)
    (of_decide_eq_true (by kernel_rfl)) (by unfold Func.isWrapper; first | (rw [if_pos (by decide +kernel)]; kernel_rfl) | (rw [if_neg (by decide +kernel)]; exact ⟨rfl, rfl⟩))
    (fun os started H enc _ => lifted4 os started H enc)

theorem rulesChecks_card : Rows.RulesChecksCardSaid :=
  Claim7.holds_tied_plain_at .later [] [.data] true (true, "c72ad40f4a29fbdf37bd481fd27be09c84622180fb6b74226ab7e0886a5e6208") false
    rulesChecks_holds (fun _ h => by cases h) (by kernel_rfl) (fun _ h => by cases h) rulesChecks_row_tie rfl ⟨rfl, rfl⟩ (by kernel_rfl) rfl
    (fun f fn hf hfn => by
      obtain rfl : f = 3 := Option.some.inj ((show Tryz.prog.funcNamed Rows.rulesChecksRow.func = some 3 by kernel_rfl).symm.trans hf) |>.symm
      obtain rfl : fn = Tryz.f3 := (Option.some.inj (Tryz.func3.symm.trans hfn)).symm
      exact ⟨by kernel_rfl, fun j t ht => by
        rw [Tryz.params3] at ht
        have hm : t ∈ [23, 24, 24] := by simpa using Array.mem_of_getElem? ht
        have hall : ([23, 24, 24].all fun u => !Tryz.prog.wantsStandIn u) = true := by kernel_rfl
        exact (show Tryz.prog.wantsStandIn t = false by simpa using List.all_eq_true.1 hall t hm)⟩)
    (by kernel_rfl)
#print axioms rulesChecks_card

theorem rulesScores_card : Rows.RulesScoresCardSaid :=
  Claim7.holds_tied_plain_at .later [] [.data] true (true, "c72ad40f4a29fbdf37bd481fd27be09c84622180fb6b74226ab7e0886a5e6208") false
    rulesScores_holds (fun _ h => by cases h) (by kernel_rfl) (fun _ h => by cases h) rulesScores_row_tie rfl ⟨rfl, rfl⟩ (by kernel_rfl) rfl
    (fun f fn hf hfn => by
      obtain rfl : f = 4 := Option.some.inj ((show Tryz.prog.funcNamed Rows.rulesScoresRow.func = some 4 by kernel_rfl).symm.trans hf) |>.symm
      obtain rfl : fn = Tryz.f4 := (Option.some.inj (Tryz.func4.symm.trans hfn)).symm
      exact ⟨by kernel_rfl, fun j t ht => by
        rw [Tryz.params4] at ht
        have hm : t ∈ [24, 24] := by simpa using Array.mem_of_getElem? ht
        have hall : ([24, 24].all fun u => !Tryz.prog.wantsStandIn u) = true := by kernel_rfl
        exact (show Tryz.prog.wantsStandIn t = false by simpa using List.all_eq_true.1 hall t hm)⟩)
    (by kernel_rfl)
#print axioms rulesScores_card
end Go.Proofs.YtdgkcjibcgghbaaGreatDoor
