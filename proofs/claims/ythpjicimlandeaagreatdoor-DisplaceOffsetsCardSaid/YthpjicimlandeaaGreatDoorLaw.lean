/- Chapter 35: DisplaceOffsets returns true for all gaps. -/
import Derived.Test.YthpjicimlandeaaGreatDoorPlain
import Derived.Test.YthpjicimlandeaaGreatDoorAwZ
set_option linter.unusedVariables false
set_option linter.unusedSimpArgs false
namespace Go.Proofs.YthpjicimlandeaaGreatDoor
open Go Go.Ab Go.Proofs
set_option maxRecDepth 100000
set_option maxHeartbeats 1000000
def φsame : List AV → Option AV
  | [.rs a, .rs b] => if a.all (fun c => match c with | [.sc (.int .i64 _), .sc (.int .i64 _)] => true | _ => false) = true ∧ a.length ≤ 10000000 ∧ rbeq (abeq 3) a b = true then some (.sc (.bool true)) else none
  | _ => none
theorem φsame_ok (args : List AV) (r : AV) (h : φsame args = some r) : MemoOk Tryz.prog ⟨6, args, r⟩ := by
  unfold φsame at h
  split at h
  · rename_i a b
    split at h
    · rename_i hq
      obtain ⟨h1, h2, h3⟩ := hq
      cases h
      have e : a = b := rbeq_eq (abeq_eq 3) h3
      subst e
      refine m6 a (fun c hc => ?_) h2
      have := List.all_eq_true.1 h1 c hc
      split at this
      · exact ⟨_, _, rfl⟩
      · cases this
    · cases h
  · cases h
def φaw : List AV → Option AV
  | [] => some (.sc (.bool true))
  | _ => none
theorem φaw_ok (args : List AV) (r : AV) (h : φaw args = some r) : MemoOk Tryz.prog ⟨7, args, r⟩ := by
  unfold φaw at h
  split at h
  · cases h; exact awake_ok
  · cases h
noncomputable def Φ1 : Tell := tellL [(4, φoff), (5, φoff), (6, φsame), (7, φaw)]
theorem hΦ1 : TellOk Tryz.prog Φ1 := tellL_ok (fun p hp => by
  simp only [List.mem_cons, List.not_mem_nil, or_false] at hp
  rcases hp with rfl | rfl | rfl | rfl
  · exact m4
  · exact m5
  · exact φsame_ok
  · exact φaw_ok)
def r3 : RT := (.op (.call 4 [.sy 0] false) 1 (.tup [.sy 1, .sy 2])
(.op (.call 5 [.sy 0] false) 3 (.tup [.sy 3, .sy 4])
(.op (.bin .eql 23 (.sy 2) (.sy 4)) 5 (.sy 5)
(.test 5
 (.op (.call 6 [.sy 1, .sy 3] false) 6 (.sy 6)
 (.test 6
  (.op (.call 7 [] false) 7 (.sy 7)
  (.ret (.sy 7) []))
  (.ret (.sc (.bool false)) [])))
 (.ret (.sc (.bool false)) [])))))
theorem t3 : runTree T Φ1 F [] 1000 3 [.sy 0] 1 = r3 := by kernel_rfl
theorem abeq_i64 (k : Nat) (n : Int) : abeq (k + 1) (I64 n) (I64 n) = true := by simp [abeq, vbeq]
theorem rbeq_pts : ∀ {es : List (List AV)}, Pts es → rbeq (abeq 3) es es = true
  | [], _ => by simp [rbeq]
  | c :: es, h => by
    obtain ⟨a, b, rfl⟩ := h c (by simp)
    simp [rbeq, lbeq, abeq_i64 2, rbeq_pts (es := es) (fun c hc => h c (by simp [hc]))]
theorem m3 (g : Int) : MemoOk Tryz.prog ⟨3, [I64 g], .sc (.bool true)⟩ := by
  have key : ∀ (es : List (List AV)) (n : Int), Pts es → es.length ≤ 10000000 → φoff [I64 g] = some (.tup [.rs es, I64 n]) → MemoOk Tryz.prog ⟨3, [I64 g], .sc (.bool true)⟩ := by
    intro es n hp hl ho
    have hs : φsame [.rs es, .rs es] = some (.sc (.bool true)) := by
      simp only [φsame]
      rw [if_pos ⟨List.all_eq_true.2 (fun c hc => by obtain ⟨a, b, rfl⟩ := hp c hc; rfl), hl, rbeq_pts hp⟩]
    refine runTree_okE hT hΦ1 hF hmix t3 (L := [I64 g]) (by simp) (by simp [env]) ?_
    unfold r3
    refine LeadsE.opL [.rs es, I64 n] (by simp only [evalRO]; rw [show Φ1 4 = some φoff from rfl]; simp [env, ho]) rfl (by simp [pts_fit hp]) ?_
    refine LeadsE.opL [.rs es, I64 n] (by simp only [evalRO]; rw [show Φ1 5 = some φoff from rfl]; simp [env, ho]) rfl (by simp [pts_fit hp]) ?_
    refine LeadsE.op1 (.sc (.bool true)) (by simp [evalRO, env, aBin, sbin]) rfl trivial ?_
    refine LeadsE.test true rfl (fun _ => ?_) (fun q => by cases q)
    refine LeadsE.op1 (.sc (.bool true)) (by simp only [evalRO]; rw [show Φ1 6 = some φsame from rfl]; simp [env, hs]) rfl trivial ?_
    refine LeadsE.test true rfl (fun _ => ?_) (fun q => by cases q)
    refine LeadsE.op1 (.sc (.bool true)) (by simp only [evalRO]; rw [show Φ1 7 = some φaw from rfl]; simp [φaw]) rfl trivial ?_
    exact LeadsE.ret (by simp [env])
  by_cases h : g < 0 ∨ 64 < g
  · exact key [] 2 (fun c hc => by cases hc) (by simp) (by simp [φoff, h])
  · have hl := allTo_len g.toNat (by omega)
    exact key (allTo g.toNat) 0 (allTo_pts _) (by omega) (by simp [φoff, h])
end Go.Proofs.YthpjicimlandeaaGreatDoor
