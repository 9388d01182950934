/- Chapter 36: the statements RulesChecks and RulesScores return true, for all contents. -/
import Derived.Test.YtdgkcjibcgghbaaGreatDoorFns
import Derived.Test.YtdgkcjibcgghbaaGreatDoorAwake
set_option linter.unusedVariables false
set_option linter.unusedSimpArgs false
namespace Go.Proofs.YtdgkcjibcgghbaaGreatDoor
open Go Go.Ab Go.Proofs
set_option maxRecDepth 100000
def φaw : List AV → Option AV
  | [] => some (.sc (.bool true))
  | _ => none
theorem m6 (args : List AV) (r : AV) (h : φaw args = some r) : MemoOk Tryz.prog ⟨6, args, r⟩ := by
  unfold φaw at h
  split at h
  · cases h; exact pureRun_ok hT hF hmix (K := fun _ => none) (fun f g hg => by cases hg) aw
  · cases h
noncomputable def Φ4 : Tell := tellL [(5, φfew), (6, φaw), (7, φchk), (8, φchk), (9, φscore), (10, φscore), (11, φworse), (12, φworse)]
theorem hΦ4 : TellOk Tryz.prog Φ4 := tellL_ok (fun p hp args c h => by
  simp only [List.mem_cons, List.not_mem_nil, or_false] at hp
  rcases hp with rfl | rfl | rfl | rfl | rfl | rfl | rfl | rfl
  · exact m5 args c h
  · exact m6 args c h
  · exact m7 args c h
  · exact m8 args c h
  · exact m9 args c h
  · exact m10 args c h
  · exact m11 args c h
  · exact m12 args c h)
theorem u4 : (T 4).map TI.und = some .bool := by kernel_rfl
theorem b44 : (T 44).map TI.bytes = some 32 := by kernel_rfl
theorem eq_bool (a b : Bool) : aBin T .eql 4 (.sc (.bool a)) (.sc (.bool b)) = some (.sc (.bool (a == b))) := by
  cases hT4 : T 4 with
  | none => have := u4; rw [hT4] at this; cases this
  | some ti =>
    have := u4
    rw [hT4] at this
    simp only [Option.map_some, Option.some.injEq] at this
    obtain ⟨und, size, zero, bytes, flat⟩ := ti
    simp only at this; subst this
    simp [aBin, hT4]
def h3 : List (Nat × Hint) := []
theorem t3 : runTree T Φ4 F h3 1000 3 [.agg [.sy 0, .sy 1, .sy 2, .sy 3, .sy 4, .sy 5], .sy 6, .sy 7] 8 = (.op (.call 5 [.sy 6, .sy 7] false) 8 (.sy 8)
(.op (.un .not (.sy 8)) 9 (.sy 9)
(.test 9
 (.op (.call 6 [] false) 10 (.sy 10)
 (.ret (.sy 10) []))
 (.op (.call 6 [] false) 10 (.sy 10)
 (.test 10
  (.op (.call 7 [.agg [.sy 0, .sy 1, .sy 2, .sy 3, .sy 4, .sy 5]] false) 11 (.sy 11)
  (.op (.call 8 [.agg [.sy 0, .sy 1, .sy 2, .sy 3, .sy 4, .sy 5]] false) 12 (.sy 12)
  (.op (.bin .eql 27 (.sy 11) (.sy 12)) 13 (.sy 13)
  (.test 13
   (.op (.call 9 [.sy 6] false) 14 (.sy 14)
   (.op (.call 10 [.sy 6] false) 15 (.sy 15)
   (.op (.bin .eql 3 (.sy 14) (.sy 15)) 16 (.sy 16)
   (.test 16
    (.op (.call 11 [.sy 6, .sy 7] false) 17 (.sy 17)
    (.op (.call 12 [.sy 6, .sy 7] false) 18 (.sy 18)
    (.op (.bin .eql 4 (.sy 17) (.sy 18)) 19 (.sy 19)
    (.ret (.sy 19) []))))
    (.ret (.sc (.bool false)) [])))))
   (.ret (.sc (.bool false)) [])))))
  (.ret (.sc (.bool false)) [])))))) := by kernel_rfl
def h4 : List (Nat × Hint) := []
theorem t4 : runTree T Φ4 F h4 1000 4 [.sy 0, .sy 1] 2 = (.op (.call 5 [.sy 0, .sy 1] false) 2 (.sy 2)
(.op (.un .not (.sy 2)) 3 (.sy 3)
(.test 3
 (.op (.call 6 [] false) 4 (.sy 4)
 (.ret (.sy 4) []))
 (.op (.call 9 [.sy 0] false) 4 (.sy 4)
 (.op (.call 9 [.sy 1] false) 5 (.sy 5)
 (.op (.cat 24 24 (.rs []) (.sy 0)) 6 (.sy 6)
 (.op (.cat 24 24 (.sy 6) (.sy 1)) 7 (.sy 7)
 (.op (.rows [7]) 8 (.sc (.bool true))
 (.op (.call 9 [.sy 7] true) 8 (.sy 8)
 (.op (.bin .lss 3 (.sy 4) (.sc (.int .i64 0))) 9 (.sy 9)
 (.test 9
  (.ret (.sc (.bool false)) [])
  (.op (.bin .lss 3 (.sy 5) (.sc (.int .i64 0))) 10 (.sy 10)
  (.test 10
   (.ret (.sc (.bool false)) [])
   (.op (.bin .gtr 3 (.sy 4) (.sc (.int .i64 4611686018427387904))) 11 (.sy 11)
   (.test 11
    (.ret (.sc (.bool false)) [])
    (.op (.bin .gtr 3 (.sy 5) (.sc (.int .i64 4611686018427387904))) 12 (.sy 12)
    (.test 12
     (.ret (.sc (.bool false)) [])
     (.op (.bin .lss 3 (.sy 8) (.sy 4)) 13 (.sy 13)
     (.test 13
      (.ret (.sc (.bool false)) [])
      (.op (.bin .lss 3 (.sy 8) (.sy 5)) 14 (.sy 14)
      (.test 14
       (.ret (.sc (.bool false)) [])
       (.op (.bin .leq 3 (.sy 4) (.sc (.int .i64 2305843009213693952))) 15 (.sy 15)
       (.test 15
        (.op (.bin .leq 3 (.sy 5) (.sc (.int .i64 2305843009213693952))) 16 (.sy 16)
        (.test 16
         (.op (.bin .add 3 (.sy 4) (.sy 5)) 17 (.sy 17)
         (.op (.bin .neq 3 (.sy 8) (.sy 17)) 18 (.sy 18)
         (.test 18
          (.ret (.sc (.bool false)) [])
          (.op (.call 6 [] false) 19 (.sy 19)
          (.test 19
           (.op (.call 11 [.sy 0, .sy 1] false) 20 (.sy 20)
           (.op (.bin .gtr 3 (.sy 5) (.sy 4)) 21 (.sy 21)
           (.op (.bin .eql 4 (.sy 20) (.sy 21)) 22 (.sy 22)
           (.test 22
            (.op (.call 11 [.sy 0, .sy 1] false) 23 (.sy 23)
            (.test 23
             (.op (.call 11 [.sy 1, .sy 0] false) 24 (.sy 24)
             (.op (.un .not (.sy 24)) 25 (.sy 25)
             (.test 25
              (.op (.call 11 [.sy 0, .sy 0] false) 26 (.sy 26)
              (.op (.un .not (.sy 26)) 27 (.sy 27)
              (.ret (.sy 27) [])))
              (.ret (.sc (.bool false)) []))))
             (.op (.call 11 [.sy 0, .sy 0] false) 24 (.sy 24)
             (.op (.un .not (.sy 24)) 25 (.sy 25)
             (.ret (.sy 25) [])))))
            (.ret (.sc (.bool false)) [])))))
           (.ret (.sc (.bool false)) []))))))
         (.op (.call 6 [] false) 17 (.sy 17)
         (.test 17
          (.op (.call 11 [.sy 0, .sy 1] false) 18 (.sy 18)
          (.op (.bin .gtr 3 (.sy 5) (.sy 4)) 19 (.sy 19)
          (.op (.bin .eql 4 (.sy 18) (.sy 19)) 20 (.sy 20)
          (.test 20
           (.op (.call 11 [.sy 0, .sy 1] false) 21 (.sy 21)
           (.test 21
            (.op (.call 11 [.sy 1, .sy 0] false) 22 (.sy 22)
            (.op (.un .not (.sy 22)) 23 (.sy 23)
            (.test 23
             (.op (.call 11 [.sy 0, .sy 0] false) 24 (.sy 24)
             (.op (.un .not (.sy 24)) 25 (.sy 25)
             (.ret (.sy 25) [])))
             (.ret (.sc (.bool false)) []))))
            (.op (.call 11 [.sy 0, .sy 0] false) 22 (.sy 22)
            (.op (.un .not (.sy 22)) 23 (.sy 23)
            (.ret (.sy 23) [])))))
           (.ret (.sc (.bool false)) [])))))
          (.ret (.sc (.bool false)) [])))))
        (.op (.call 6 [] false) 16 (.sy 16)
        (.test 16
         (.op (.call 11 [.sy 0, .sy 1] false) 17 (.sy 17)
         (.op (.bin .gtr 3 (.sy 5) (.sy 4)) 18 (.sy 18)
         (.op (.bin .eql 4 (.sy 17) (.sy 18)) 19 (.sy 19)
         (.test 19
          (.op (.call 11 [.sy 0, .sy 1] false) 20 (.sy 20)
          (.test 20
           (.op (.call 11 [.sy 1, .sy 0] false) 21 (.sy 21)
           (.op (.un .not (.sy 21)) 22 (.sy 22)
           (.test 22
            (.op (.call 11 [.sy 0, .sy 0] false) 23 (.sy 23)
            (.op (.un .not (.sy 23)) 24 (.sy 24)
            (.ret (.sy 24) [])))
            (.ret (.sc (.bool false)) []))))
           (.op (.call 11 [.sy 0, .sy 0] false) 21 (.sy 21)
           (.op (.un .not (.sy 21)) 22 (.sy 22)
           (.ret (.sy 22) [])))))
          (.ret (.sc (.bool false)) [])))))
         (.ret (.sc (.bool false)) [])))))))))))))))))))))))))) := by kernel_rfl
theorem m3 (x0 x1 x2 x3 x4 x5 : Int) {a b : List (List AV)} {la lb : List Int} (ha : szs a = some la) (hb : szs b = some lb) :
    MemoOk Tryz.prog ⟨3, [.agg [.sc (.int .i64 x0), .sc (.int .i64 x1), .sc (.int .i64 x2), .sc (.int .i64 x3), .sc (.int .i64 x4), .sc (.int .i64 x5)], .rs a, .rs b], .sc (.bool true)⟩ := by
  have f0 : Fit (env [.sc (.int .i64 x0), .sc (.int .i64 x1), .sc (.int .i64 x2), .sc (.int .i64 x3), .sc (.int .i64 x4), .sc (.int .i64 x5), .rs a, .rs b]) := Fit.env (by simp [szs_fit ha, szs_fit hb])
  refine runTree_ok hT hΦ4 hF hmix (H := h3) (m := 1000) (f := 3) (pargs := [.agg [.sy 0, .sy 1, .sy 2, .sy 3, .sy 4, .sy 5], .sy 6, .sy 7]) (fr := 8) f0 ?_
  rw [t3]
  refine Leads.op1 (.sc (.bool (decide (a.length ≤ 300) && decide (b.length ≤ 300)))) (by simp [evalRO, env, Φ4, tellL, φfew, ha, hb]) f0 trivial ?_
  generalize hq : (decide (a.length ≤ 300) && decide (b.length ≤ 300)) = q
  have f1 := Fit.upd f0 (k := 8) (fit_bool q)
  refine Leads.op1 (.sc (.bool (!q))) (by simp [evalRO, upd, aUn]) f1 trivial ?_
  have f2 := Fit.upd f1 (k := 9) (fit_bool (!q))
  refine Leads.test (!q) (by simp [upd]) (fun k => ?_) (fun k => ?_)
  · refine Leads.op1 (.sc (.bool true)) (by simp [evalRO, Φ4, tellL, φaw]) f2 trivial ?_
    exact Leads.ret (by simp [upd])
  · simp only [Bool.not_eq_false'] at k
    subst k
    simp only [Bool.and_eq_true, decide_eq_true_eq] at hq
    have l1 : a.length ≤ 100000 := by omega
    have l2 : b.length ≤ 100000 := by omega
    refine Leads.op1 (.sc (.bool true)) (by simp [evalRO, Φ4, tellL, φaw]) f2 trivial ?_
    have f3 := Fit.upd f2 (k := 10) (fit_bool true)
    refine Leads.test true (by simp [upd]) (fun _ => ?_) (fun k => by cases k)
    refine Leads.op1 (.sc (.int .i64 (chk x0 x1 x2 x3 x4 x5))) (by simp [evalRO, upd, env, Φ4, tellL, φchk]) f3 trivial ?_
    have f4 := Fit.upd f3 (k := 11) (fit_int .i64 (chk x0 x1 x2 x3 x4 x5))
    refine Leads.op1 (.sc (.int .i64 (chk x0 x1 x2 x3 x4 x5))) (by simp [evalRO, upd, env, Φ4, tellL, φchk]) f4 trivial ?_
    have f5 := Fit.upd f4 (k := 12) (fit_int .i64 (chk x0 x1 x2 x3 x4 x5))
    refine Leads.op1 (.sc (.bool true)) (by simp [evalRO, upd, aBin, sbin]) f5 trivial ?_
    have f6 := Fit.upd f5 (k := 13) (fit_bool true)
    refine Leads.test true (by simp [upd]) (fun _ => ?_) (fun k => by cases k)
    refine Leads.op1 (.sc (.int .i64 (P36.sc 0 la))) (by simp [evalRO, upd, env, Φ4, tellL, φscore, ha, l1]) f6 trivial ?_
    have f7 := Fit.upd f6 (k := 14) (fit_int .i64 (P36.sc 0 la))
    refine Leads.op1 (.sc (.int .i64 (P36.sc 0 la))) (by simp [evalRO, upd, env, Φ4, tellL, φscore, ha, l1]) f7 trivial ?_
    have f8 := Fit.upd f7 (k := 15) (fit_int .i64 (P36.sc 0 la))
    refine Leads.op1 (.sc (.bool true)) (by simp [evalRO, upd, aBin, sbin]) f8 trivial ?_
    have f9 := Fit.upd f8 (k := 16) (fit_bool true)
    refine Leads.test true (by simp [upd]) (fun _ => ?_) (fun k => by cases k)
    refine Leads.op1 (.sc (.bool (decide (P36.sc 0 la < P36.sc 0 lb)))) (by simp [evalRO, upd, env, Φ4, tellL, φworse, ha, hb, l1, l2]) f9 trivial ?_
    have f10 := Fit.upd f9 (k := 17) (fit_bool (decide (P36.sc 0 la < P36.sc 0 lb)))
    refine Leads.op1 (.sc (.bool (decide (P36.sc 0 la < P36.sc 0 lb)))) (by simp [evalRO, upd, env, Φ4, tellL, φworse, ha, hb, l1, l2]) f10 trivial ?_
    have f11 := Fit.upd f10 (k := 18) (fit_bool (decide (P36.sc 0 la < P36.sc 0 lb)))
    refine Leads.op1 (.sc (.bool true)) (by simp [evalRO, upd, eq_bool]) f11 trivial ?_
    exact Leads.ret (by simp [upd])

theorem szs_append : ∀ {a b : List (List AV)} {la lb : List Int}, szs a = some la → szs b = some lb → szs (a ++ b) = some (la ++ lb)
  | [], b, la, lb, ha, hb => by simp only [szs, Option.some.injEq] at ha; subst ha; simpa using hb
  | e :: es, b, la, lb, ha, hb => by
    unfold szs at ha
    split at ha
    · rename_i e'; cases e'
    · rename_i x y z s r e'
      cases e'
      split at ha
      · rename_i l' hl'
        cases ha
        have := szs_append hl' hb
        simp [szs, this]
      · cases ha
    · cases ha
theorem szs_cells : ∀ {a : List (List AV)} {la : List Int}, szs a = some la → (a.all fun c => c.length == 4 && c.all AV.one) = true
  | [], la, ha => by simp
  | e :: es, la, ha => by
    unfold szs at ha
    split at ha
    · rename_i e'; cases e'
    · rename_i x y z s r e'
      cases e'
      split at ha
      · rename_i l' hl'
        simp only [List.all_cons, szs_cells hl']
        rfl
      · cases ha
    · cases ha
theorem cat24 {a b : List (List AV)} {lb : List Int} (hb : szs b = some lb) (hl : a.length + b.length ≤ 600) : catRs T 24 24 (.rs a) (.rs b) = some (.rs (a ++ b)) := by
  have h1 := u24
  have h2 := z44
  have h3 := b44
  cases hT24 : T 24 with
  | none => rw [hT24] at h1; cases h1
  | some ti =>
    rw [hT24] at h1
    simp only [Option.map_some, Option.some.injEq] at h1
    obtain ⟨und, size, zero, bytes, flat⟩ := ti
    simp only at h1; subst h1
    cases hT44 : T 44 with
    | none => rw [hT44] at h2; cases h2
    | some ei =>
      rw [hT44] at h2 h3
      simp only [Option.map_some, Option.some.injEq] at h2 h3
      simp only [catRs, hT24, hT44]
      rw [if_pos ⟨rfl, by rw [h2]; exact szs_cells hb, by rw [h3]; omega, by omega, by omega⟩]

theorem m4 {a b : List (List AV)} {la lb : List Int} (ha : szs a = some la) (hb : szs b = some lb) : MemoOk Tryz.prog ⟨4, [.rs a, .rs b], .sc (.bool true)⟩ := by
  have f0 : Fit (env [.rs a, .rs b]) := Fit.env (by simp [szs_fit ha, szs_fit hb])
  refine runTree_ok hT hΦ4 hF hmix (H := h4) (m := 1000) (f := 4) (pargs := [.sy 0, .sy 1]) (fr := 2) f0 ?_
  rw [t4]
  refine Leads.op1 (.sc (.bool (decide (a.length ≤ 300) && decide (b.length ≤ 300)))) (by simp [evalRO, env, Φ4, tellL, φfew, ha, hb]) f0 trivial ?_
  generalize hq : (decide (a.length ≤ 300) && decide (b.length ≤ 300)) = q
  have f1 := Fit.upd f0 (k := 2) (fit_bool q)
  refine Leads.op1 (.sc (.bool (!q))) (by simp [evalRO, upd, aUn]) f1 trivial ?_
  have f2 := Fit.upd f1 (k := 3) (fit_bool (!q))
  refine Leads.test (!q) (by simp [upd]) (fun k => ?_) (fun k => ?_)
  · refine Leads.op1 (.sc (.bool true)) (by simp [evalRO, Φ4, tellL, φaw]) f2 trivial ?_
    exact Leads.ret (by simp [upd])
  simp only [Bool.not_eq_false'] at k
  subst k
  simp only [Bool.and_eq_true, decide_eq_true_eq] at hq
  have l1 : a.length ≤ 100000 := by omega
  have l2 : b.length ≤ 100000 := by omega
  have l4 : a.length + b.length ≤ 100000 := by omega
  have hab := szs_append ha hb
  have e1 := P36.sc_eq la 0 (by omega) (by unfold P36.big; omega)
  have e2 := P36.sc_eq lb 0 (by omega) (by unfold P36.big; omega)
  have e3 := P36.sc_eq (la ++ lb) 0 (by omega) (by unfold P36.big; omega)
  rw [P36.tot_append] at e3
  have t1 := P36.tot_nonneg la
  have t2 := P36.tot_nonneg lb
  generalize hx : P36.sc 0 la = x at e1
  generalize hy : P36.sc 0 lb = y at e2
  generalize hz : P36.sc 0 (la ++ lb) = z at e3
  generalize P36.tot la = ta at e1 e3 t1
  generalize P36.tot lb = tb at e2 e3 t2
  refine Leads.op1 (.sc (.int .i64 x)) (by simp [evalRO, upd, env, Φ4, tellL, φscore, ha, l1, hx]) f2 trivial ?_
  have f3 := Fit.upd f2 (k := 4) (fit_int .i64 x)
  refine Leads.op1 (.sc (.int .i64 y)) (by simp [evalRO, upd, env, Φ4, tellL, φscore, hb, l2, hy]) f3 trivial ?_
  have f4 := Fit.upd f3 (k := 5) (fit_int .i64 y)
  refine Leads.op1 (.rs a) (by simp only [evalRO]; simp [upd, env]; exact cat24 ha (by simp; omega)) f4 (szs_fit ha) ?_
  have f5 := Fit.upd f4 (k := 6) (szs_fit ha)
  refine Leads.op1 (.rs (a ++ b)) (by simp only [evalRO]; simp [upd, env]; exact cat24 hb (by omega)) f5 (szs_fit hab) ?_
  have f6 := Fit.upd f5 (k := 7) (szs_fit hab)
  refine Leads.opL [] (by simp [evalRO, upd]) f6 (by simp) ?_
  simp only [updL]
  refine Leads.op1 (.sc (.int .i64 z)) (by simp [evalRO, upd, Φ4, tellL, φscore, hab, hz, flatC, l4]) f6 trivial ?_
  have f7 := Fit.upd f6 (k := 8) (fit_int .i64 z)
  refine Leads.op1 (.sc (.bool false)) (by simp [evalRO, upd, aBin, sbin]; unfold P36.big at *; omega) f7 trivial ?_
  have f8 := Fit.upd f7 (k := 9) (fit_bool false)
  refine Leads.test false (by simp [upd]) (fun k => by cases k) (fun _ => ?_)
  refine Leads.op1 (.sc (.bool false)) (by simp [evalRO, upd, aBin, sbin]; unfold P36.big at *; omega) f8 trivial ?_
  have f9 := Fit.upd f8 (k := 10) (fit_bool false)
  refine Leads.test false (by simp [upd]) (fun k => by cases k) (fun _ => ?_)
  refine Leads.op1 (.sc (.bool false)) (by simp [evalRO, upd, aBin, sbin]; unfold P36.big at *; omega) f9 trivial ?_
  have f10 := Fit.upd f9 (k := 11) (fit_bool false)
  refine Leads.test false (by simp [upd]) (fun k => by cases k) (fun _ => ?_)
  refine Leads.op1 (.sc (.bool false)) (by simp [evalRO, upd, aBin, sbin]; unfold P36.big at *; omega) f10 trivial ?_
  have f11 := Fit.upd f10 (k := 12) (fit_bool false)
  refine Leads.test false (by simp [upd]) (fun k => by cases k) (fun _ => ?_)
  refine Leads.op1 (.sc (.bool false)) (by simp [evalRO, upd, aBin, sbin]; unfold P36.big at *; omega) f11 trivial ?_
  have f12 := Fit.upd f11 (k := 13) (fit_bool false)
  refine Leads.test false (by simp [upd]) (fun k => by cases k) (fun _ => ?_)
  refine Leads.op1 (.sc (.bool false)) (by simp [evalRO, upd, aBin, sbin]; unfold P36.big at *; omega) f12 trivial ?_
  have f13 := Fit.upd f12 (k := 14) (fit_bool false)
  refine Leads.test false (by simp [upd]) (fun k => by cases k) (fun _ => ?_)
  refine Leads.op1 (.sc (.bool (decide (x ≤ 2305843009213693952)))) (by simp [evalRO, upd, aBin, sbin]) f13 trivial ?_
  have f14 := Fit.upd f13 (k := 15) (fit_bool (decide (x ≤ 2305843009213693952)))
  refine Leads.test (decide (x ≤ 2305843009213693952)) (by simp [upd]) (fun q1 => ?_) (fun _ => ?_)
  · simp only [decide_eq_true_eq] at q1
    refine Leads.op1 (.sc (.bool (decide (y ≤ 2305843009213693952)))) (by simp [evalRO, upd, aBin, sbin]) f14 trivial ?_
    have f15 := Fit.upd f14 (k := 16) (fit_bool (decide (y ≤ 2305843009213693952)))
    refine Leads.test (decide (y ≤ 2305843009213693952)) (by simp [upd]) (fun q2 => ?_) (fun _ => ?_)
    · simp only [decide_eq_true_eq] at q2
      have hzz : z = x + y := by unfold P36.big at *; omega
      refine Leads.op1 (.sc (.int .i64 (x + y))) (by simp [evalRO, upd, aBin, sbin]; rw [wrap_in (by unfold P36.big at *; omega)]) f15 trivial ?_
      have f16 := Fit.upd f15 (k := 17) (fit_int .i64 (x + y))
      refine Leads.op1 (.sc (.bool false)) (by simp [evalRO, upd, aBin, sbin, hzz]) f16 trivial ?_
      have f17 := Fit.upd f16 (k := 18) (fit_bool false)
      refine Leads.test false (by simp [upd]) (fun k => by cases k) (fun _ => ?_)
      refine Leads.op1 (.sc (.bool true)) (by simp [evalRO, Φ4, tellL, φaw]) f17 trivial ?_
      have c1 := Fit.upd f17 (k := 19) (fit_bool true)
      refine Leads.test true (by simp [upd]) (fun _ => ?_) (fun k => by cases k)
      refine Leads.op1 (.sc (.bool (decide (x < y)))) (by simp [evalRO, upd, env, Φ4, tellL, φworse, ha, hb, l1, l2, hx, hy]) c1 trivial ?_
      have c2 := Fit.upd c1 (k := 20) (fit_bool (decide (x < y)))
      refine Leads.op1 (.sc (.bool (decide (x < y)))) (by simp [evalRO, upd, aBin, sbin]) c2 trivial ?_
      have c3 := Fit.upd c2 (k := 21) (fit_bool (decide (x < y)))
      refine Leads.op1 (.sc (.bool true)) (by simp [evalRO, upd, eq_bool]) c3 trivial ?_
      have c4 := Fit.upd c3 (k := 22) (fit_bool true)
      refine Leads.test true (by simp [upd]) (fun _ => ?_) (fun k => by cases k)
      refine Leads.op1 (.sc (.bool (decide (x < y)))) (by simp [evalRO, upd, env, Φ4, tellL, φworse, ha, hb, l1, l2, hx, hy]) c4 trivial ?_
      have c5 := Fit.upd c4 (k := 23) (fit_bool (decide (x < y)))
      refine Leads.test (decide (x < y)) (by simp [upd]) (fun k => ?_) (fun k => ?_)
      · simp only [decide_eq_true_eq] at k
        have k2 : ¬ y < x := by omega
        refine Leads.op1 (.sc (.bool false)) (by simp [evalRO, upd, env, Φ4, tellL, φworse, ha, hb, l1, l2, hx, hy, k2]) c5 trivial ?_
        have c6 := Fit.upd c5 (k := 24) (fit_bool false)
        refine Leads.op1 (.sc (.bool true)) (by simp [evalRO, upd, aUn]) c6 trivial ?_
        have c7 := Fit.upd c6 (k := 25) (fit_bool true)
        refine Leads.test true (by simp [upd]) (fun _ => ?_) (fun k => by cases k)
        refine Leads.op1 (.sc (.bool false)) (by simp [evalRO, upd, env, Φ4, tellL, φworse, ha, hb, l1, l2, hx, hy]) c7 trivial ?_
        have c8 := Fit.upd c7 (k := 26) (fit_bool false)
        refine Leads.op1 (.sc (.bool true)) (by simp [evalRO, upd, aUn]) c8 trivial ?_
        exact Leads.ret (by simp [upd])
      · refine Leads.op1 (.sc (.bool false)) (by simp [evalRO, upd, env, Φ4, tellL, φworse, ha, hb, l1, l2, hx, hy]) c5 trivial ?_
        have c6 := Fit.upd c5 (k := 24) (fit_bool false)
        refine Leads.op1 (.sc (.bool true)) (by simp [evalRO, upd, aUn]) c6 trivial ?_
        exact Leads.ret (by simp [upd])
    · skip
      refine Leads.op1 (.sc (.bool true)) (by simp [evalRO, Φ4, tellL, φaw]) f15 trivial ?_
      have c1 := Fit.upd f15 (k := 17) (fit_bool true)
      refine Leads.test true (by simp [upd]) (fun _ => ?_) (fun k => by cases k)
      refine Leads.op1 (.sc (.bool (decide (x < y)))) (by simp [evalRO, upd, env, Φ4, tellL, φworse, ha, hb, l1, l2, hx, hy]) c1 trivial ?_
      have c2 := Fit.upd c1 (k := 18) (fit_bool (decide (x < y)))
      refine Leads.op1 (.sc (.bool (decide (x < y)))) (by simp [evalRO, upd, aBin, sbin]) c2 trivial ?_
      have c3 := Fit.upd c2 (k := 19) (fit_bool (decide (x < y)))
      refine Leads.op1 (.sc (.bool true)) (by simp [evalRO, upd, eq_bool]) c3 trivial ?_
      have c4 := Fit.upd c3 (k := 20) (fit_bool true)
      refine Leads.test true (by simp [upd]) (fun _ => ?_) (fun k => by cases k)
      refine Leads.op1 (.sc (.bool (decide (x < y)))) (by simp [evalRO, upd, env, Φ4, tellL, φworse, ha, hb, l1, l2, hx, hy]) c4 trivial ?_
      have c5 := Fit.upd c4 (k := 21) (fit_bool (decide (x < y)))
      refine Leads.test (decide (x < y)) (by simp [upd]) (fun k => ?_) (fun k => ?_)
      · simp only [decide_eq_true_eq] at k
        have k2 : ¬ y < x := by omega
        refine Leads.op1 (.sc (.bool false)) (by simp [evalRO, upd, env, Φ4, tellL, φworse, ha, hb, l1, l2, hx, hy, k2]) c5 trivial ?_
        have c6 := Fit.upd c5 (k := 22) (fit_bool false)
        refine Leads.op1 (.sc (.bool true)) (by simp [evalRO, upd, aUn]) c6 trivial ?_
        have c7 := Fit.upd c6 (k := 23) (fit_bool true)
        refine Leads.test true (by simp [upd]) (fun _ => ?_) (fun k => by cases k)
        refine Leads.op1 (.sc (.bool false)) (by simp [evalRO, upd, env, Φ4, tellL, φworse, ha, hb, l1, l2, hx, hy]) c7 trivial ?_
        have c8 := Fit.upd c7 (k := 24) (fit_bool false)
        refine Leads.op1 (.sc (.bool true)) (by simp [evalRO, upd, aUn]) c8 trivial ?_
        exact Leads.ret (by simp [upd])
      · refine Leads.op1 (.sc (.bool false)) (by simp [evalRO, upd, env, Φ4, tellL, φworse, ha, hb, l1, l2, hx, hy]) c5 trivial ?_
        have c6 := Fit.upd c5 (k := 22) (fit_bool false)
        refine Leads.op1 (.sc (.bool true)) (by simp [evalRO, upd, aUn]) c6 trivial ?_
        exact Leads.ret (by simp [upd])
  · skip
    refine Leads.op1 (.sc (.bool true)) (by simp [evalRO, Φ4, tellL, φaw]) f14 trivial ?_
    have c1 := Fit.upd f14 (k := 16) (fit_bool true)
    refine Leads.test true (by simp [upd]) (fun _ => ?_) (fun k => by cases k)
    refine Leads.op1 (.sc (.bool (decide (x < y)))) (by simp [evalRO, upd, env, Φ4, tellL, φworse, ha, hb, l1, l2, hx, hy]) c1 trivial ?_
    have c2 := Fit.upd c1 (k := 17) (fit_bool (decide (x < y)))
    refine Leads.op1 (.sc (.bool (decide (x < y)))) (by simp [evalRO, upd, aBin, sbin]) c2 trivial ?_
    have c3 := Fit.upd c2 (k := 18) (fit_bool (decide (x < y)))
    refine Leads.op1 (.sc (.bool true)) (by simp [evalRO, upd, eq_bool]) c3 trivial ?_
    have c4 := Fit.upd c3 (k := 19) (fit_bool true)
    refine Leads.test true (by simp [upd]) (fun _ => ?_) (fun k => by cases k)
    refine Leads.op1 (.sc (.bool (decide (x < y)))) (by simp [evalRO, upd, env, Φ4, tellL, φworse, ha, hb, l1, l2, hx, hy]) c4 trivial ?_
    have c5 := Fit.upd c4 (k := 20) (fit_bool (decide (x < y)))
    refine Leads.test (decide (x < y)) (by simp [upd]) (fun k => ?_) (fun k => ?_)
    · simp only [decide_eq_true_eq] at k
      have k2 : ¬ y < x := by omega
      refine Leads.op1 (.sc (.bool false)) (by simp [evalRO, upd, env, Φ4, tellL, φworse, ha, hb, l1, l2, hx, hy, k2]) c5 trivial ?_
      have c6 := Fit.upd c5 (k := 21) (fit_bool false)
      refine Leads.op1 (.sc (.bool true)) (by simp [evalRO, upd, aUn]) c6 trivial ?_
      have c7 := Fit.upd c6 (k := 22) (fit_bool true)
      refine Leads.test true (by simp [upd]) (fun _ => ?_) (fun k => by cases k)
      refine Leads.op1 (.sc (.bool false)) (by simp [evalRO, upd, env, Φ4, tellL, φworse, ha, hb, l1, l2, hx, hy]) c7 trivial ?_
      have c8 := Fit.upd c7 (k := 23) (fit_bool false)
      refine Leads.op1 (.sc (.bool true)) (by simp [evalRO, upd, aUn]) c8 trivial ?_
      exact Leads.ret (by simp [upd])
    · refine Leads.op1 (.sc (.bool false)) (by simp [evalRO, upd, env, Φ4, tellL, φworse, ha, hb, l1, l2, hx, hy]) c5 trivial ?_
      have c6 := Fit.upd c5 (k := 21) (fit_bool false)
      refine Leads.op1 (.sc (.bool true)) (by simp [evalRO, upd, aUn]) c6 trivial ?_
      exact Leads.ret (by simp [upd])
end Go.Proofs.YtdgkcjibcgghbaaGreatDoor
