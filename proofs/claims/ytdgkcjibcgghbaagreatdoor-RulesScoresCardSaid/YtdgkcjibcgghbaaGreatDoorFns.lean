/- Chapter 36: what Check, Score, Worse and their references return, for all contents. -/
import Derived.Test.YtdgkcjibcgghbaaGreatDoorAbUse
import Derived.Test.YtdgkcjibcgghbaaGreatDoorPlain
import Derived.Test.YtdgkcjibcgghbaaGreatDoorProg
import Derived.KernelRfl
set_option linter.unusedVariables false
set_option linter.unusedSimpArgs false
namespace Go.Proofs.YtdgkcjibcgghbaaGreatDoor
open Go Go.Ab Go.Proofs
set_option maxRecDepth 100000
noncomputable def tT : Tr TI := tTr Tryz.prog
noncomputable def fT : Tr Func := fTr Tryz.prog
noncomputable def T : Tab := fun t => tT.get t
noncomputable def F : FuncId → Option Func := fun f => fT.get f
theorem hT : TabOk Tryz.prog T := tTr_ok Tryz.prog
theorem hF : ∀ f fn, F f = some fn → Tryz.prog.funcs[f]? = some fn := fTr_ok Tryz.prog
theorem hmix : Tryz.prog.follows .mixedOrders = true := by kernel_rfl
theorem u24 : (T 24).map TI.und = some (.slice 44) := by kernel_rfl
theorem z44 : (T 44).map TI.size = some 4 := by kernel_rfl
noncomputable def Φ0 : Tell := tellL []
theorem hΦ0 : TellOk Tryz.prog Φ0 := tellL_ok (fun p hp => by cases hp)

/-! ### in a range -/
def φin : List AV → Option AV
  | [.sc (.int .i64 n), .sc (.int .i64 lo), .sc (.int .i64 hi)] => some (.sc (.bool (decide (lo ≤ n) && decide (n ≤ hi))))
  | _ => none
theorem t17 : runTree T Φ0 F [] 1000 17 [.sy 0, .sy 1, .sy 2] 3 = (.op (.bin .leq 3 (.sy 1) (.sy 0)) 3 (.sy 3)
(.test 3
 (.op (.bin .leq 3 (.sy 0) (.sy 2)) 4 (.sy 4)
 (.ret (.sy 4) []))
 (.ret (.sc (.bool false)) []))) := by kernel_rfl
theorem t18 : runTree T Φ0 F [] 1000 18 [.sy 0, .sy 1, .sy 2] 3 = (.op (.bin .geq 3 (.sy 0) (.sy 1)) 3 (.sy 3)
(.test 3
 (.op (.bin .leq 3 (.sy 0) (.sy 2)) 4 (.sy 4)
 (.ret (.sy 4) []))
 (.ret (.sc (.bool false)) []))) := by kernel_rfl

theorem m17 (args : List AV) (c : AV) (h : φin args = some c) : MemoOk Tryz.prog ⟨17, args, c⟩ := by
  unfold φin at h
  split at h
  · rename_i n lo hi
    cases h
    have hfit : Fit (env [.sc (.int .i64 n), .sc (.int .i64 lo), .sc (.int .i64 hi)]) := Fit.env (by simp)
    refine runTree_ok hT hΦ0 hF hmix (H := []) (m := 1000) (f := 17) (pargs := [.sy 0, .sy 1, .sy 2]) (fr := 3) hfit ?_
    rw [t17]
    refine Leads.op1 (.sc (.bool (decide (lo ≤ n)))) (by simp [evalRO, env, aBin, sbin]) hfit trivial ?_
    refine Leads.test (decide (lo ≤ n)) (by simp [upd]) (fun h1 => ?_) (fun h1 => ?_)
    · refine Leads.op1 (.sc (.bool (decide (n ≤ hi)))) (by simp [evalRO, upd, env, aBin, sbin]) (hfit.upd trivial) trivial ?_
      exact Leads.ret (by simp [upd, h1])
    · exact Leads.ret (by simp [h1])
  · cases h
theorem m18 (args : List AV) (c : AV) (h : φin args = some c) : MemoOk Tryz.prog ⟨18, args, c⟩ := by
  unfold φin at h
  split at h
  · rename_i n lo hi
    cases h
    have hfit : Fit (env [.sc (.int .i64 n), .sc (.int .i64 lo), .sc (.int .i64 hi)]) := Fit.env (by simp)
    refine runTree_ok hT hΦ0 hF hmix (H := []) (m := 1000) (f := 18) (pargs := [.sy 0, .sy 1, .sy 2]) (fr := 3) hfit ?_
    rw [t18]
    refine Leads.op1 (.sc (.bool (decide (lo ≤ n)))) (by simp [evalRO, env, aBin, sbin]) hfit trivial ?_
    refine Leads.test (decide (lo ≤ n)) (by simp [upd]) (fun h1 => ?_) (fun h1 => ?_)
    · refine Leads.op1 (.sc (.bool (decide (n ≤ hi)))) (by simp [evalRO, upd, env, aBin, sbin]) (hfit.upd trivial) trivial ?_
      exact Leads.ret (by simp [upd, h1])
    · exact Leads.ret (by simp [h1])
  · cases h

/-! ### specifications -/
noncomputable def Φ1 : Tell := tellL [(17, φin), (18, φin)]
theorem hΦ1 : TellOk Tryz.prog Φ1 := tellL_ok (fun p hp args c h => by
  simp only [List.mem_cons, List.not_mem_nil, or_false] at hp
  rcases hp with rfl | rfl
  · exact m17 args c h
  · exact m18 args c h)
def inB (n lo hi : Int) : Bool := decide (lo ≤ n) && decide (n ≤ hi)
def chk (a b c d e f : Int) : Int := if inB a 1 1073741824 && (inB b 1 9 && (inB c 0 4398046511104 && (inB d 0 4398046511104 && (inB e 0 64 && inB f 0 128)))) then 0 else 2
def φchk : List AV → Option AV
  | [.agg [.sc (.int .i64 a), .sc (.int .i64 b), .sc (.int .i64 c), .sc (.int .i64 d), .sc (.int .i64 e), .sc (.int .i64 f)]] => some (.sc (.int .i64 (chk a b c d e f)))
  | _ => none
theorem call17 {θ : Nat → AV} {x y z : AV} {n lo hi : Int} (h1 : x.sub θ = .sc (.int .i64 n)) (h2 : y.sub θ = .sc (.int .i64 lo)) (h3 : z.sub θ = .sc (.int .i64 hi)) : evalRO T Φ1 θ (.call 17 [x, y, z] false) = some (.sc (.bool (inB n lo hi))) := by
  simp [evalRO, Φ1, tellL, h1, h2, h3, φin, inB]
theorem call18 {θ : Nat → AV} {x y z : AV} {n lo hi : Int} (h1 : x.sub θ = .sc (.int .i64 n)) (h2 : y.sub θ = .sc (.int .i64 lo)) (h3 : z.sub θ = .sc (.int .i64 hi)) : evalRO T Φ1 θ (.call 18 [x, y, z] false) = some (.sc (.bool (inB n lo hi))) := by
  simp [evalRO, Φ1, tellL, h1, h2, h3, φin, inB]
def h7 : List (Nat × Hint) := []
theorem t7 : runTree T Φ1 F h7 1000 7 [.agg [.sy 0, .sy 1, .sy 2, .sy 3, .sy 4, .sy 5]] 6 = (.op (.call 17 [.sy 0, .sc (.int .i64 1), .sc (.int .i64 1073741824)] false) 6 (.sy 6)
(.op (.un .not (.sy 6)) 7 (.sy 7)
(.test 7
 (.ret (.sc (.int .i64 2)) [])
 (.op (.call 17 [.sy 1, .sc (.int .i64 1), .sc (.int .i64 9)] false) 8 (.sy 8)
 (.op (.un .not (.sy 8)) 9 (.sy 9)
 (.test 9
  (.ret (.sc (.int .i64 2)) [])
  (.op (.call 17 [.sy 2, .sc (.int .i64 0), .sc (.int .i64 4398046511104)] false) 10 (.sy 10)
  (.op (.un .not (.sy 10)) 11 (.sy 11)
  (.test 11
   (.ret (.sc (.int .i64 2)) [])
   (.op (.call 17 [.sy 3, .sc (.int .i64 0), .sc (.int .i64 4398046511104)] false) 12 (.sy 12)
   (.op (.un .not (.sy 12)) 13 (.sy 13)
   (.test 13
    (.ret (.sc (.int .i64 2)) [])
    (.op (.call 17 [.sy 4, .sc (.int .i64 0), .sc (.int .i64 64)] false) 14 (.sy 14)
    (.op (.un .not (.sy 14)) 15 (.sy 15)
    (.test 15
     (.ret (.sc (.int .i64 2)) [])
     (.op (.call 17 [.sy 5, .sc (.int .i64 0), .sc (.int .i64 128)] false) 16 (.sy 16)
     (.op (.un .not (.sy 16)) 17 (.sy 17)
     (.test 17
      (.ret (.sc (.int .i64 2)) [])
      (.ret (.sc (.int .i64 0)) []))))))))))))))))))) := by kernel_rfl
def h8 : List (Nat × Hint) := []
theorem t8 : runTree T Φ1 F h8 1000 8 [.agg [.sy 0, .sy 1, .sy 2, .sy 3, .sy 4, .sy 5]] 6 = (.op (.call 18 [.sy 0, .sc (.int .i64 1), .sc (.int .i64 1073741824)] false) 6 (.sy 6)
(.test 6
 (.op (.call 18 [.sy 1, .sc (.int .i64 1), .sc (.int .i64 9)] false) 7 (.sy 7)
 (.test 7
  (.op (.call 18 [.sy 2, .sc (.int .i64 0), .sc (.int .i64 4398046511104)] false) 8 (.sy 8)
  (.test 8
   (.op (.call 18 [.sy 3, .sc (.int .i64 0), .sc (.int .i64 4398046511104)] false) 9 (.sy 9)
   (.test 9
    (.op (.call 18 [.sy 4, .sc (.int .i64 0), .sc (.int .i64 64)] false) 10 (.sy 10)
    (.test 10
     (.op (.call 18 [.sy 5, .sc (.int .i64 0), .sc (.int .i64 128)] false) 11 (.sy 11)
     (.test 11
      (.ret (.sc (.int .i64 0)) [])
      (.ret (.sc (.int .i64 2)) [])))
     (.ret (.sc (.int .i64 2)) [])))
    (.ret (.sc (.int .i64 2)) [])))
   (.ret (.sc (.int .i64 2)) [])))
  (.ret (.sc (.int .i64 2)) [])))
 (.ret (.sc (.int .i64 2)) []))) := by kernel_rfl
theorem m7 (args : List AV) (r : AV) (h : φchk args = some r) : MemoOk Tryz.prog ⟨7, args, r⟩ := by
  unfold φchk at h
  split at h
  · rename_i a b c d e f
    cases h
    have f0 : Fit (env [.sc (.int .i64 a), .sc (.int .i64 b), .sc (.int .i64 c), .sc (.int .i64 d), .sc (.int .i64 e), .sc (.int .i64 f)]) := Fit.env (by simp)
    refine runTree_ok hT hΦ1 hF hmix (H := h7) (m := 1000) (f := 7) (pargs := [.agg [.sy 0, .sy 1, .sy 2, .sy 3, .sy 4, .sy 5]]) (fr := 6) f0 ?_
    rw [t7]
    refine Leads.op1 (.sc (.bool (inB a 1 1073741824))) (call17 (by simp [upd, env]) (by simp) (by simp)) f0 trivial ?_
    have g0 := Fit.upd f0 (k := 6) (fit_bool (inB a 1 1073741824))
    refine Leads.op1 (.sc (.bool (!(inB a 1 1073741824)))) (by simp [evalRO, upd, aUn]) g0 trivial ?_
    have f1 := Fit.upd g0 (k := 7) (fit_bool (!(inB a 1 1073741824)))
    refine Leads.test (!(inB a 1 1073741824)) (by simp [upd]) (fun k0 => ?_) (fun k0 => ?_)
    · simp only [Bool.not_eq_true'] at k0; exact Leads.ret (by simp [chk, k0])
    simp only [Bool.not_eq_false'] at k0
    refine Leads.op1 (.sc (.bool (inB b 1 9))) (call17 (by simp [upd, env]) (by simp) (by simp)) f1 trivial ?_
    have g1 := Fit.upd f1 (k := 8) (fit_bool (inB b 1 9))
    refine Leads.op1 (.sc (.bool (!(inB b 1 9)))) (by simp [evalRO, upd, aUn]) g1 trivial ?_
    have f2 := Fit.upd g1 (k := 9) (fit_bool (!(inB b 1 9)))
    refine Leads.test (!(inB b 1 9)) (by simp [upd]) (fun k1 => ?_) (fun k1 => ?_)
    · simp only [Bool.not_eq_true'] at k1; exact Leads.ret (by simp [chk, k0, k1])
    simp only [Bool.not_eq_false'] at k1
    refine Leads.op1 (.sc (.bool (inB c 0 4398046511104))) (call17 (by simp [upd, env]) (by simp) (by simp)) f2 trivial ?_
    have g2 := Fit.upd f2 (k := 10) (fit_bool (inB c 0 4398046511104))
    refine Leads.op1 (.sc (.bool (!(inB c 0 4398046511104)))) (by simp [evalRO, upd, aUn]) g2 trivial ?_
    have f3 := Fit.upd g2 (k := 11) (fit_bool (!(inB c 0 4398046511104)))
    refine Leads.test (!(inB c 0 4398046511104)) (by simp [upd]) (fun k2 => ?_) (fun k2 => ?_)
    · simp only [Bool.not_eq_true'] at k2; exact Leads.ret (by simp [chk, k0, k1, k2])
    simp only [Bool.not_eq_false'] at k2
    refine Leads.op1 (.sc (.bool (inB d 0 4398046511104))) (call17 (by simp [upd, env]) (by simp) (by simp)) f3 trivial ?_
    have g3 := Fit.upd f3 (k := 12) (fit_bool (inB d 0 4398046511104))
    refine Leads.op1 (.sc (.bool (!(inB d 0 4398046511104)))) (by simp [evalRO, upd, aUn]) g3 trivial ?_
    have f4 := Fit.upd g3 (k := 13) (fit_bool (!(inB d 0 4398046511104)))
    refine Leads.test (!(inB d 0 4398046511104)) (by simp [upd]) (fun k3 => ?_) (fun k3 => ?_)
    · simp only [Bool.not_eq_true'] at k3; exact Leads.ret (by simp [chk, k0, k1, k2, k3])
    simp only [Bool.not_eq_false'] at k3
    refine Leads.op1 (.sc (.bool (inB e 0 64))) (call17 (by simp [upd, env]) (by simp) (by simp)) f4 trivial ?_
    have g4 := Fit.upd f4 (k := 14) (fit_bool (inB e 0 64))
    refine Leads.op1 (.sc (.bool (!(inB e 0 64)))) (by simp [evalRO, upd, aUn]) g4 trivial ?_
    have f5 := Fit.upd g4 (k := 15) (fit_bool (!(inB e 0 64)))
    refine Leads.test (!(inB e 0 64)) (by simp [upd]) (fun k4 => ?_) (fun k4 => ?_)
    · simp only [Bool.not_eq_true'] at k4; exact Leads.ret (by simp [chk, k0, k1, k2, k3, k4])
    simp only [Bool.not_eq_false'] at k4
    refine Leads.op1 (.sc (.bool (inB f 0 128))) (call17 (by simp [upd, env]) (by simp) (by simp)) f5 trivial ?_
    have g5 := Fit.upd f5 (k := 16) (fit_bool (inB f 0 128))
    refine Leads.op1 (.sc (.bool (!(inB f 0 128)))) (by simp [evalRO, upd, aUn]) g5 trivial ?_
    have f6 := Fit.upd g5 (k := 17) (fit_bool (!(inB f 0 128)))
    refine Leads.test (!(inB f 0 128)) (by simp [upd]) (fun k5 => ?_) (fun k5 => ?_)
    · simp only [Bool.not_eq_true'] at k5; exact Leads.ret (by simp [chk, k0, k1, k2, k3, k4, k5])
    simp only [Bool.not_eq_false'] at k5
    exact Leads.ret (by simp [chk, k0, k1, k2, k3, k4, k5])
  · cases h
theorem m8 (args : List AV) (r : AV) (h : φchk args = some r) : MemoOk Tryz.prog ⟨8, args, r⟩ := by
  unfold φchk at h
  split at h
  · rename_i a b c d e f
    cases h
    have f0 : Fit (env [.sc (.int .i64 a), .sc (.int .i64 b), .sc (.int .i64 c), .sc (.int .i64 d), .sc (.int .i64 e), .sc (.int .i64 f)]) := Fit.env (by simp)
    refine runTree_ok hT hΦ1 hF hmix (H := h8) (m := 1000) (f := 8) (pargs := [.agg [.sy 0, .sy 1, .sy 2, .sy 3, .sy 4, .sy 5]]) (fr := 6) f0 ?_
    rw [t8]
    refine Leads.op1 (.sc (.bool (inB a 1 1073741824))) (call18 (by simp [upd, env]) (by simp) (by simp)) f0 trivial ?_
    have f1 := Fit.upd f0 (k := 6) (fit_bool (inB a 1 1073741824))
    refine Leads.test (inB a 1 1073741824) (by simp [upd]) (fun k0 => ?_) (fun k0 => ?_)
    rotate_left
    · exact Leads.ret (by simp [chk, k0])
    refine Leads.op1 (.sc (.bool (inB b 1 9))) (call18 (by simp [upd, env]) (by simp) (by simp)) f1 trivial ?_
    have f2 := Fit.upd f1 (k := 7) (fit_bool (inB b 1 9))
    refine Leads.test (inB b 1 9) (by simp [upd]) (fun k1 => ?_) (fun k1 => ?_)
    rotate_left
    · exact Leads.ret (by simp [chk, k0, k1])
    refine Leads.op1 (.sc (.bool (inB c 0 4398046511104))) (call18 (by simp [upd, env]) (by simp) (by simp)) f2 trivial ?_
    have f3 := Fit.upd f2 (k := 8) (fit_bool (inB c 0 4398046511104))
    refine Leads.test (inB c 0 4398046511104) (by simp [upd]) (fun k2 => ?_) (fun k2 => ?_)
    rotate_left
    · exact Leads.ret (by simp [chk, k0, k1, k2])
    refine Leads.op1 (.sc (.bool (inB d 0 4398046511104))) (call18 (by simp [upd, env]) (by simp) (by simp)) f3 trivial ?_
    have f4 := Fit.upd f3 (k := 9) (fit_bool (inB d 0 4398046511104))
    refine Leads.test (inB d 0 4398046511104) (by simp [upd]) (fun k3 => ?_) (fun k3 => ?_)
    rotate_left
    · exact Leads.ret (by simp [chk, k0, k1, k2, k3])
    refine Leads.op1 (.sc (.bool (inB e 0 64))) (call18 (by simp [upd, env]) (by simp) (by simp)) f4 trivial ?_
    have f5 := Fit.upd f4 (k := 10) (fit_bool (inB e 0 64))
    refine Leads.test (inB e 0 64) (by simp [upd]) (fun k4 => ?_) (fun k4 => ?_)
    rotate_left
    · exact Leads.ret (by simp [chk, k0, k1, k2, k3, k4])
    refine Leads.op1 (.sc (.bool (inB f 0 128))) (call18 (by simp [upd, env]) (by simp) (by simp)) f5 trivial ?_
    have f6 := Fit.upd f5 (k := 11) (fit_bool (inB f 0 128))
    refine Leads.test (inB f 0 128) (by simp [upd]) (fun k5 => ?_) (fun k5 => ?_)
    rotate_left
    · exact Leads.ret (by simp [chk, k0, k1, k2, k3, k4, k5])
    exact Leads.ret (by simp [chk, k0, k1, k2, k3, k4, k5])
  · cases h

/-! ### scores -/
def szs : List (List AV) → Option (List Int)
  | [] => some []
  | [.sc (.int .i64 _), .sc (.int .i64 _), .sc (.int .i64 _), .sc (.int .i64 s)] :: r => match szs r with
    | some l => some (s :: l)
    | none => none
  | _ => none
theorem szs_get : ∀ {es : List (List AV)} {l : List Int}, szs es = some l → l.length = es.length ∧ ∀ i (h : i < l.length), ∃ a b c, es[i]? = some [.sc (.int .i64 a), .sc (.int .i64 b), .sc (.int .i64 c), .sc (.int .i64 l[i])]
  | [], l, h => by simp only [szs, Option.some.injEq] at h; subst h; exact ⟨rfl, fun i h => by simp at h⟩
  | e :: es, l, h => by
    unfold szs at h
    split at h
    · rename_i e'; cases e'
    · rename_i a b c s r e'
      cases e'
      split at h
      · rename_i l' hl'
        cases h
        obtain ⟨h1, h2⟩ := szs_get hl'
        refine ⟨by simp [h1], fun i hi => ?_⟩
        cases i with
        | zero => exact ⟨a, b, c, rfl⟩
        | succ i => obtain ⟨a', b', c', h3⟩ := h2 i (by simpa using hi); exact ⟨a', b', c', by simpa using h3⟩
      · cases h
    · cases h
theorem szs_pur : ∀ {es : List (List AV)} {l : List Int}, szs es = some l → purR es = true
  | [], l, h => by simp [purR]
  | e :: es, l, h => by
    unfold szs at h
    split at h
    · rename_i e'; cases e'
    · rename_i a b c s r e'
      cases e'
      split at h
      · rename_i l' hl'; simp [purR, purL, AV.pur, szs_pur hl']
      · cases h
    · cases h
theorem szs_fit {es : List (List AV)} {l : List Int} (h : szs es = some l) : Fit1 (.rs es) := by simp only [Fit1, AV.pur]; exact szs_pur h
def φscore : List AV → Option AV
  | [.rs es] => match szs es with
    | some l => if es.length ≤ 100000 then some (.sc (.int .i64 (P36.sc 0 l))) else none
    | none => none
  | _ => none
def h9 : List (Nat × Hint) := [(2, ⟨2, [.sy 0, .any, .sy 2, .any, .any, .any, .sy 0, .sy 1, .sy 3, .any, .any, .any, .any, .any, .any, .any, .any, .any, .any, .any, .any, .any, .any, .any], [], 4⟩)]
theorem t9 : runTree T Φ0 F h9 1000 9 [.sy 0] 1 = (.op (.len 24 (.sy 0)) 1 (.sy 1)
(.loop 2 2 [.sc (.int .i64 0), .sc (.int .i64 0)]
 (.op (.bin .lss 3 (.sy 3) (.sy 1)) 5 (.sy 5)
 (.test 5
  (.op (.idx 24 (.sy 0) (.sy 3)) 6 (.rp [.sy 6, .sy 7, .sy 8, .sy 9])
  (.op (.mx [.sy 9, .sc (.int .i64 0)]) 10 (.sy 10)
  (.op (.bin .sub 3 (.sc (.int .i64 4611686018427387904)) (.sy 2)) 11 (.sy 11)
  (.op (.bin .gtr 3 (.sy 10) (.sy 11)) 12 (.sy 12)
  (.test 12
   (.ret (.sc (.int .i64 4611686018427387904)) [])
   (.op (.bin .add 3 (.sy 2) (.sy 10)) 13 (.sy 13)
   (.op (.bin .add 3 (.sy 3) (.sc (.int .i64 1))) 14 (.sy 14)
   (.again 2 [.sy 13, .sy 14]))))))))
  (.ret (.sy 2) []))))) := by kernel_rfl
def h10 : List (Nat × Hint) := [(1, ⟨2, [.sy 0, .any, .sc (.int .i64 0), .sy 1, .sy 2, .any, .any, .any, .any, .any, .any, .any, .any, .any, .any, .any, .any, .any, .any, .any, .any, .any, .any, .any], [], 3⟩)]
theorem t10 : runTree T Φ0 F h10 1000 10 [.sy 0] 1 = (.loop 1 2 [.sc (.int .i64 0), .sc (.int .i64 0)]
 (.op (.len 24 (.sy 0)) 4 (.sy 4)
 (.op (.bin .lss 3 (.sy 2) (.sy 4)) 5 (.sy 5)
 (.test 5
  (.op (.idx 24 (.sy 0) (.sy 2)) 6 (.rp [.sy 6, .sy 7, .sy 8, .sy 9])
  (.op (.mx [.sy 9, .sc (.int .i64 0)]) 10 (.sy 10)
  (.op (.mn [.sy 10, .sc (.int .i64 4611686018427387904)]) 11 (.sy 11)
  (.op (.bin .add 3 (.sy 1) (.sy 11)) 12 (.sy 12)
  (.op (.mn [.sy 12, .sc (.int .i64 4611686018427387904)]) 13 (.sy 13)
  (.op (.bin .lss 3 (.sy 13) (.sc (.int .i64 0))) 14 (.sy 14)
  (.test 14
   (.op (.bin .add 3 (.sy 2) (.sc (.int .i64 1))) 15 (.sy 15)
   (.again 1 [.sc (.int .i64 4611686018427387904), .sy 15]))
   (.op (.bin .add 3 (.sy 2) (.sc (.int .i64 1))) 15 (.sy 15)
   (.again 1 [.sy 13, .sy 15])))))))))
  (.ret (.sy 1) []))))) := by kernel_rfl
theorem drop_cons {l : List Int} {k : Nat} (h : k < l.length) : l.drop k = l[k] :: l.drop (k + 1) := List.drop_eq_getElem_cons h
theorem mx_int (k : IntKind) (a b : Int) : aMax [.sc (.int k a), .sc (.int k b)] = some (.int k (max a b)) := by
  simp only [aMax, aMaxGo, Option.some.injEq, Value.int.injEq, true_and]; split <;> omega
theorem mn_int (k : IntKind) (a b : Int) : aMin [.sc (.int k a), .sc (.int k b)] = some (.int k (min a b)) := by
  simp only [aMin, aMinGo, Option.some.injEq, Value.int.injEq, true_and]; split <;> omega
theorem m9 (args : List AV) (r : AV) (h : φscore args = some r) : MemoOk Tryz.prog ⟨9, args, r⟩ := by
  unfold φscore at h
  split at h
  · rename_i es
    split at h
    · rename_i l hl
      split at h
      · rename_i hlen
        cases h
        obtain ⟨hll, hget⟩ := szs_get hl
        have f0 : Fit (env [.rs es]) := Fit.env (by simpa using szs_fit hl)
        refine runTree_ok hT hΦ0 hF hmix (H := h9) (m := 1000) (f := 9) (pargs := [.sy 0]) (fr := 1) f0 ?_
        rw [t9]
        refine Leads.op1 (.sc (.int .i64 es.length)) (by simp only [evalRO, sub_sy]; exact len_rs u24) f0 trivial ?_
        refine ⟨fun n vals => ∃ (k : Nat) (acc : Int), n = es.length - k ∧ k ≤ es.length ∧ vals = [.sc (.int .i64 acc), .sc (.int .i64 k)] ∧ 0 ≤ acc ∧ acc ≤ P36.big ∧ P36.sc acc (l.drop k) = P36.sc 0 l, ⟨es.length, 0, 0, by simp, by simp, by simp, by simp, by simp [P36.big], by simp⟩, ?_⟩
        rintro n vals ⟨k, acc, rfl, hk, rfl, ha0, ha1, hsc⟩ _ _ θ' hlo hhi f2
        have e0 : θ' 0 = .rs es := by rw [hlo 0 (by omega)]; simp [upd, env]
        have e1 : θ' 1 = .sc (.int .i64 es.length) := by rw [hlo 1 (by omega)]; simp [upd]
        have e2 : θ' 2 = .sc (.int .i64 acc) := by simpa using hhi 0 (by simp)
        have e3 : θ' 3 = .sc (.int .i64 k) := by simpa using hhi 1 (by simp)
        refine Leads.op1 (.sc (.bool (decide (k < es.length)))) (by simp [evalRO, e1, e3, aBin, sbin]) f2 trivial ?_
        refine Leads.test (decide (k < es.length)) (by simp [upd]) (fun q => ?_) (fun q => ?_)
        · have hkl : k < l.length := by rw [hll]; simpa using q
          obtain ⟨a, b, c, hc⟩ := hget k hkl
          refine Leads.opL [.sc (.int .i64 a), .sc (.int .i64 b), .sc (.int .i64 c), .sc (.int .i64 l[k])] (by
            simp only [evalRO, sub_sy, sub_rp]
            have e0' : upd θ' 5 (.sc (.bool (decide (k < es.length)))) 0 = .rs es := by simp [upd, e0]
            have e3' : upd θ' 5 (.sc (.bool (decide (k < es.length)))) 3 = .sc (.int .i64 k) := by simp [upd, e3]
            rw [e0', e3', idx_rs u24 z44 (by omega) (by simpa using hc) rfl]
            simp [updL, upd]) (f2.upd (fit_bool _)) (by simp) ?_
          have f3 : Fit (updL (upd θ' 5 (.sc (.bool (decide (k < es.length))))) 6 [.sc (.int .i64 a), .sc (.int .i64 b), .sc (.int .i64 c), .sc (.int .i64 l[k])]) := (f2.upd (fit_bool _)).updL (by simp)
          refine Leads.op1 (.sc (.int .i64 (max l[k] 0))) (by simp [evalRO, updL, upd, mx_int]) f3 trivial ?_
          refine Leads.op1 (.sc (.int .i64 (P36.big - acc))) (by simp only [evalRO]; simp [updL, upd, e2, aBin, sbin]; rw [wrap_in (by unfold P36.big at *; omega)]; rfl) (f3.upd (fit_int _ _)) trivial ?_
          refine Leads.op1 (.sc (.bool (decide (max l[k] 0 > P36.big - acc)))) (by simp [evalRO, updL, upd, aBin, sbin]) ((f3.upd (fit_int _ _)).upd (fit_int _ _)) trivial ?_
          have f6 := Fit.upd (Fit.upd (Fit.upd f3 (k := 10) (fit_int .i64 (max l[k] 0))) (k := 11) (fit_int .i64 (P36.big - acc))) (k := 12) (fit_bool (decide (max l[k] 0 > P36.big - acc)))
          rw [drop_cons hkl] at hsc
          simp only [P36.sc] at hsc
          refine Leads.test (decide (max l[k] 0 > P36.big - acc)) (by simp [upd]) (fun q2 => ?_) (fun q2 => ?_)
          · simp only [decide_eq_true_eq] at q2
            rw [if_pos q2] at hsc
            exact Leads.ret (by simp only [sub_sc]; rw [← hsc]; rfl)
          · simp only [decide_eq_false_iff_not] at q2
            rw [if_neg q2] at hsc
            refine Leads.op1 (.sc (.int .i64 (acc + max l[k] 0))) (by simp [evalRO, updL, upd, e2, aBin, sbin]; rw [wrap_in (by unfold P36.big at *; omega)]) f6 trivial ?_
            refine Leads.op1 (.sc (.int .i64 ((k : Int) + 1))) (by simp [evalRO, updL, upd, e3, aBin, sbin]; rw [wrap_in (by omega)]) (f6.upd (fit_int _ _)) trivial ?_
            refine Leads.here ⟨es.length - (k + 1), by rw [← hll]; omega, k + 1, acc + max l[k] 0, rfl, by omega, by simp [upd], by omega, by unfold P36.big at *; omega, hsc⟩
        · simp only [decide_eq_false_iff_not] at q
          have : l.drop k = [] := by rw [List.drop_eq_nil_iff]; omega
          rw [this] at hsc
          exact Leads.ret (by simp [upd, e2, ← hsc, P36.sc])
      · cases h
    · cases h
  · cases h
theorem rsStep_bd (n v : Int) (h0 : 0 ≤ n) (h1 : n ≤ P36.big) : P36.rsStep n v = min P36.big (n + max v 0) := by
  have := P36.rs_eq [v] n h0 h1
  simpa [P36.rs, P36.tot] using this
theorem m10 (args : List AV) (r : AV) (h : φscore args = some r) : MemoOk Tryz.prog ⟨10, args, r⟩ := by
  unfold φscore at h
  split at h
  · rename_i es
    split at h
    · rename_i l hl
      split at h
      · rename_i hlen
        cases h
        obtain ⟨hll, hget⟩ := szs_get hl
        have f0 : Fit (env [.rs es]) := Fit.env (by simpa using szs_fit hl)
        refine runTree_ok hT hΦ0 hF hmix (H := h10) (m := 1000) (f := 10) (pargs := [.sy 0]) (fr := 1) f0 ?_
        rw [t10]
        refine ⟨fun n vals => ∃ (k : Nat) (acc : Int), n = es.length - k ∧ k ≤ es.length ∧ vals = [.sc (.int .i64 acc), .sc (.int .i64 k)] ∧ 0 ≤ acc ∧ acc ≤ P36.big ∧ P36.rs acc (l.drop k) = P36.rs 0 l, ⟨es.length, 0, 0, by simp, by simp, by simp, by simp, by simp [P36.big], by simp⟩, ?_⟩
        rintro n vals ⟨k, acc, rfl, hk, rfl, ha0, ha1, hsc⟩ _ _ θ' hlo hhi f2
        have e0 : θ' 0 = .rs es := by rw [hlo 0 (by omega)]; simp [env]
        have e1 : θ' 1 = .sc (.int .i64 acc) := by simpa using hhi 0 (by simp)
        have e2 : θ' 2 = .sc (.int .i64 k) := by simpa using hhi 1 (by simp)
        refine Leads.op1 (.sc (.int .i64 es.length)) (by simp only [evalRO, sub_sy, e0]; exact len_rs u24) f2 trivial ?_
        have f3 := Fit.upd f2 (k := 4) (fit_int .i64 es.length)
        refine Leads.op1 (.sc (.bool (decide (k < es.length)))) (by simp [evalRO, upd, e2, aBin, sbin]) f3 trivial ?_
        have f4 := Fit.upd f3 (k := 5) (fit_bool (decide (k < es.length)))
        refine Leads.test (decide (k < es.length)) (by simp [upd]) (fun q => ?_) (fun q => ?_)
        · have hkl : k < l.length := by rw [hll]; simpa using q
          obtain ⟨a, b, c, hc⟩ := hget k hkl
          refine Leads.opL [.sc (.int .i64 a), .sc (.int .i64 b), .sc (.int .i64 c), .sc (.int .i64 l[k])] (by
            simp only [evalRO, sub_sy, sub_rp]
            have e0' : upd (upd θ' 4 (.sc (.int .i64 es.length))) 5 (.sc (.bool (decide (k < es.length)))) 0 = .rs es := by simp [upd, e0]
            have e3' : upd (upd θ' 4 (.sc (.int .i64 es.length))) 5 (.sc (.bool (decide (k < es.length)))) 2 = .sc (.int .i64 k) := by simp [upd, e2]
            rw [e0', e3', idx_rs u24 z44 (by omega) (by simpa using hc) rfl]
            simp [updL, upd]) f4 (by simp) ?_
          have f5 := Fit.updL (vs := [.sc (.int .i64 a), .sc (.int .i64 b), .sc (.int .i64 c), .sc (.int .i64 l[k])]) (k := 6) f4 (by simp)
          refine Leads.op1 (.sc (.int .i64 (max l[k] 0))) (by simp [evalRO, updL, upd, mx_int]) f5 trivial ?_
          have f6 := Fit.upd f5 (k := 10) (fit_int .i64 (max l[k] 0))
          refine Leads.op1 (.sc (.int .i64 (min (max l[k] 0) P36.big))) (by simp [evalRO, upd, mn_int, P36.big]) f6 trivial ?_
          have f7 := Fit.upd f6 (k := 11) (fit_int .i64 (min (max l[k] 0) P36.big))
          refine Leads.op1 (.sc (.int .i64 (IntKind.i64.wrap (acc + min (max l[k] 0) P36.big)))) (by simp [evalRO, updL, upd, e1, aBin, sbin]) f7 trivial ?_
          have f8 := Fit.upd f7 (k := 12) (fit_int .i64 (IntKind.i64.wrap (acc + min (max l[k] 0) P36.big)))
          refine Leads.op1 (.sc (.int .i64 (min (IntKind.i64.wrap (acc + min (max l[k] 0) P36.big)) P36.big))) (by simp [evalRO, upd, mn_int, P36.big]) f8 trivial ?_
          have f9 := Fit.upd f8 (k := 13) (fit_int .i64 (min (IntKind.i64.wrap (acc + min (max l[k] 0) P36.big)) P36.big))
          refine Leads.op1 (.sc (.bool (decide (min (IntKind.i64.wrap (acc + min (max l[k] 0) P36.big)) P36.big < 0)))) (by simp [evalRO, upd, aBin, sbin]) f9 trivial ?_
          have f10 := Fit.upd f9 (k := 14) (fit_bool (decide (min (IntKind.i64.wrap (acc + min (max l[k] 0) P36.big)) P36.big < 0)))
          rw [drop_cons hkl] at hsc
          simp only [P36.rs] at hsc
          have hbd := rsStep_bd acc l[k] ha0 ha1
          refine Leads.test (decide (min (IntKind.i64.wrap (acc + min (max l[k] 0) P36.big)) P36.big < 0)) (by simp [upd]) (fun q2 => ?_) (fun q2 => ?_)
          · simp only [decide_eq_true_eq] at q2
            have hst : P36.rsStep acc l[k] = P36.big := by unfold P36.rsStep; rw [if_pos q2]
            rw [hst] at hsc
            refine Leads.op1 (.sc (.int .i64 ((k : Int) + 1))) (by simp [evalRO, updL, upd, e2, aBin, sbin]; rw [wrap_in (by omega)]) f10 trivial ?_
            refine Leads.here ⟨es.length - (k + 1), by rw [← hll]; omega, k + 1, P36.big, rfl, by omega, by simp [upd, P36.big], by unfold P36.big; omega, by omega, hsc⟩
          · simp only [decide_eq_false_iff_not] at q2
            have hst : P36.rsStep acc l[k] = min (IntKind.i64.wrap (acc + min (max l[k] 0) P36.big)) P36.big := by unfold P36.rsStep; rw [if_neg q2]
            rw [hst] at hsc
            refine Leads.op1 (.sc (.int .i64 ((k : Int) + 1))) (by simp [evalRO, updL, upd, e2, aBin, sbin]; rw [wrap_in (by omega)]) f10 trivial ?_
            refine Leads.here ⟨es.length - (k + 1), by rw [← hll]; omega, k + 1, min (IntKind.i64.wrap (acc + min (max l[k] 0) P36.big)) P36.big, rfl, by omega, by simp [upd], by omega, by omega, hsc⟩
        · simp only [decide_eq_false_iff_not] at q
          have : l.drop k = [] := by rw [List.drop_eq_nil_iff]; omega
          rw [this] at hsc
          exact Leads.ret (by simp only [sub_sy]; rw [← P36.rs_sc, ← hsc]; simp [upd, e1, P36.rs])
      · cases h
    · cases h
  · cases h

/-! ### being worse -/
def φworse : List AV → Option AV
  | [.rs a, .rs b] => match szs a, szs b with
    | some la, some lb => if a.length ≤ 100000 ∧ b.length ≤ 100000 then some (.sc (.bool (decide (P36.sc 0 la < P36.sc 0 lb)))) else none
    | _, _ => none
  | _ => none
noncomputable def Φ3 : Tell := tellL [(9, φscore), (10, φscore)]
theorem hΦ3 : TellOk Tryz.prog Φ3 := tellL_ok (fun p hp args c h => by
  simp only [List.mem_cons, List.not_mem_nil, or_false] at hp
  rcases hp with rfl | rfl
  · exact m9 args c h
  · exact m10 args c h)
def h11 : List (Nat × Hint) := []
theorem t11 : runTree T Φ3 F h11 1000 11 [.sy 0, .sy 1] 2 = (.op (.call 9 [.sy 1] false) 2 (.sy 2)
(.op (.call 9 [.sy 0] false) 3 (.sy 3)
(.op (.bin .gtr 3 (.sy 2) (.sy 3)) 4 (.sy 4)
(.ret (.sy 4) [])))) := by kernel_rfl
def h12 : List (Nat × Hint) := []
theorem t12 : runTree T Φ3 F h12 1000 12 [.sy 0, .sy 1] 2 = (.op (.call 10 [.sy 1] false) 2 (.sy 2)
(.op (.call 10 [.sy 0] false) 3 (.sy 3)
(.op (.bin .gtr 3 (.sy 2) (.sy 3)) 4 (.sy 4)
(.ret (.sy 4) [])))) := by kernel_rfl
theorem m11 (args : List AV) (r : AV) (h : φworse args = some r) : MemoOk Tryz.prog ⟨11, args, r⟩ := by
  unfold φworse at h
  split at h
  · rename_i a b
    split at h
    · rename_i la lb ha hb
      split at h
      · rename_i hc
        cases h
        have f0 : Fit (env [.rs a, .rs b]) := Fit.env (by simp [szs_fit ha, szs_fit hb])
        refine runTree_ok hT hΦ3 hF hmix (H := h11) (m := 1000) (f := 11) (pargs := [.sy 0, .sy 1]) (fr := 2) f0 ?_
        rw [t11]
        refine Leads.op1 (.sc (.int .i64 (P36.sc 0 lb))) (by simp [evalRO, env, Φ3, tellL, φscore, hb, hc.2]) f0 trivial ?_
        have f1 := Fit.upd f0 (k := 2) (fit_int .i64 (P36.sc 0 lb))
        refine Leads.op1 (.sc (.int .i64 (P36.sc 0 la))) (by simp [evalRO, env, upd, Φ3, tellL, φscore, ha, hc.1]) f1 trivial ?_
        have f2 := Fit.upd f1 (k := 3) (fit_int .i64 (P36.sc 0 la))
        refine Leads.op1 (.sc (.bool (decide (P36.sc 0 la < P36.sc 0 lb)))) (by simp [evalRO, upd, aBin, sbin]) f2 trivial ?_
        exact Leads.ret (by simp [upd])
      · cases h
    · cases h
  · cases h
theorem m12 (args : List AV) (r : AV) (h : φworse args = some r) : MemoOk Tryz.prog ⟨12, args, r⟩ := by
  unfold φworse at h
  split at h
  · rename_i a b
    split at h
    · rename_i la lb ha hb
      split at h
      · rename_i hc
        cases h
        have f0 : Fit (env [.rs a, .rs b]) := Fit.env (by simp [szs_fit ha, szs_fit hb])
        refine runTree_ok hT hΦ3 hF hmix (H := h12) (m := 1000) (f := 12) (pargs := [.sy 0, .sy 1]) (fr := 2) f0 ?_
        rw [t12]
        refine Leads.op1 (.sc (.int .i64 (P36.sc 0 lb))) (by simp [evalRO, env, Φ3, tellL, φscore, hb, hc.2]) f0 trivial ?_
        have f1 := Fit.upd f0 (k := 2) (fit_int .i64 (P36.sc 0 lb))
        refine Leads.op1 (.sc (.int .i64 (P36.sc 0 la))) (by simp [evalRO, env, upd, Φ3, tellL, φscore, ha, hc.1]) f1 trivial ?_
        have f2 := Fit.upd f1 (k := 3) (fit_int .i64 (P36.sc 0 la))
        refine Leads.op1 (.sc (.bool (decide (P36.sc 0 la < P36.sc 0 lb)))) (by simp [evalRO, upd, aBin, sbin]) f2 trivial ?_
        exact Leads.ret (by simp [upd])
      · cases h
    · cases h
  · cases h

/-! ### few -/
def φfew : List AV → Option AV
  | [.rs a, .rs b] => match szs a, szs b with
    | some _, some _ => some (.sc (.bool (decide (a.length ≤ 300) && decide (b.length ≤ 300))))
    | _, _ => none
  | _ => none
def h5 : List (Nat × Hint) := []
theorem t5 : runTree T Φ0 F h5 1000 5 [.sy 0, .sy 1] 2 = (.op (.len 24 (.sy 0)) 2 (.sy 2)
(.op (.bin .leq 3 (.sy 2) (.sc (.int .i64 300))) 3 (.sy 3)
(.test 3
 (.op (.len 24 (.sy 1)) 4 (.sy 4)
 (.op (.bin .leq 3 (.sy 4) (.sc (.int .i64 300))) 5 (.sy 5)
 (.ret (.sy 5) [])))
 (.ret (.sc (.bool false)) [])))) := by kernel_rfl
theorem m5 (args : List AV) (r : AV) (h : φfew args = some r) : MemoOk Tryz.prog ⟨5, args, r⟩ := by
  unfold φfew at h
  split at h
  · rename_i a b
    split at h
    · rename_i la lb ha hb
      cases h
      have f0 : Fit (env [.rs a, .rs b]) := Fit.env (by simp [szs_fit ha, szs_fit hb])
      refine runTree_ok hT hΦ0 hF hmix (H := h5) (m := 1000) (f := 5) (pargs := [.sy 0, .sy 1]) (fr := 2) f0 ?_
      rw [t5]
      refine Leads.op1 (.sc (.int .i64 a.length)) (by simp only [evalRO, sub_sy]; exact len_rs u24) f0 trivial ?_
      have f1 := Fit.upd f0 (k := 2) (fit_int .i64 a.length)
      refine Leads.op1 (.sc (.bool (decide (a.length ≤ 300)))) (by simp [evalRO, upd, aBin, sbin]; omega) f1 trivial ?_
      have f2 := Fit.upd f1 (k := 3) (fit_bool (decide (a.length ≤ 300)))
      refine Leads.test (decide (a.length ≤ 300)) (by simp [upd]) (fun q => ?_) (fun q => ?_)
      · refine Leads.op1 (.sc (.int .i64 b.length)) (by simp only [evalRO, sub_sy]; exact len_rs u24) f2 trivial ?_
        have f3 := Fit.upd f2 (k := 4) (fit_int .i64 b.length)
        refine Leads.op1 (.sc (.bool (decide (b.length ≤ 300)))) (by simp [evalRO, upd, aBin, sbin]; omega) f3 trivial ?_
        exact Leads.ret (by simp [upd, q])
      · exact Leads.ret (by simp [q])
    · cases h
  · cases h
end Go.Proofs.YtdgkcjibcgghbaaGreatDoor
