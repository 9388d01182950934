/- Chapter 35: what Offsets and its reference return, for all contents. -/
import Derived.Test.YthpjicimlandeaaGreatDoorAbLead
import Derived.Test.YthpjicimlandeaaGreatDoorProg
import Derived.KernelRfl
set_option linter.unusedVariables false
set_option linter.unusedSimpArgs false
namespace Go.Proofs.YthpjicimlandeaaGreatDoor
open Go Go.Ab Go.Proofs
set_option maxRecDepth 100000
noncomputable def tT : Tr TI := tTr Tryz.prog
noncomputable def fT : Tr Func := fTr Tryz.prog
noncomputable def T : Tab := fun t => tT.get t
noncomputable def F : FuncId → Option Func := fun f => fT.get f
theorem hT : TabOk Tryz.prog T := tTr_ok Tryz.prog
theorem hF : ∀ f fn, F f = some fn → Tryz.prog.funcs[f]? = some fn := fTr_ok Tryz.prog
theorem hmix : Tryz.prog.follows .mixedOrders = true := by kernel_rfl
theorem u22 : (T 22).map TI.und = some (.slice 30) := by kernel_rfl
theorem z30 : (T 30).map TI.size = some 2 := by kernel_rfl
noncomputable def Φ0 : Tell := tellL []
theorem hΦ0 : TellOk Tryz.prog Φ0 := tellL_ok (fun p hp => by cases hp)
def h4 : List (Nat × Hint) := [(3, ⟨2, [.sy 0, .any, .ss 10 2 3, .sc (.int .i64 0), .any, .any, .any, .any, .any, .any, .sy 0, .sc (.bool false), .sc (.bool false), .sy 0, .sc (.bool false), .sc (.bool false), .sy 0, .sy 4, .any, .any, .any, .any, .any, .any, .any, .any, .any, .any, .any, .any, .any, .any, .any, .any, .any, .any, .any, .any, .any, .any, .any, .any, .any, .any, .any, .any, .any, .any, .any, .any, .any, .any, .any, .any, .any, .any, .any, .any, .any], [(10, .xrow 30 2 3)], 11⟩),
  (10, ⟨2, [.sy 0, .any, .ss 10 2 10, .sc (.int .i64 0), .sy 4, .sy 7, .any, .any, .any, .any, .sy 0, .sc (.bool false), .sc (.bool false), .sy 0, .sc (.bool false), .sc (.bool false), .sy 0, .sy 4, .sc (.bool true), .sy 4, .sy 4, .sy 7, .sy 7, .sy 8, .sy 9, .sy 11, .any, .any, .any, .any, .any, .any, .any, .any, .any, .any, .any, .any, .any, .any, .any, .any, .any, .any, .any, .any, .any, .any, .any, .any, .any, .any, .any, .any, .any, .any, .any, .any, .any], [(10, .xrow 30 2 10)], 21⟩),
  (16, ⟨2, [.sy 0, .any, .ss 10 2 17, .sc (.int .i64 0), .sy 4, .sy 7, .sy 11, .any, .any, .any, .sy 0, .sc (.bool false), .sc (.bool false), .sy 0, .sc (.bool false), .sc (.bool false), .sy 0, .sy 4, .sc (.bool true), .sy 4, .sy 4, .sy 7, .sy 7, .sy 8, .sy 9, .sy 11, .sc (.bool true), .sy 11, .sy 7, .sy 14, .sy 15, .sy 16, .any, .any, .any, .any, .any, .any, .any, .any, .any, .any, .any, .any, .any, .any, .any, .any, .any, .any, .any, .any, .any, .any, .any, .any, .any, .any, .any], [(10, .xrow 30 2 17)], 28⟩)]
def r4 : RT := (.op (.bin .lss 3 (.sy 0) (.sc (.int .i64 0))) 1 (.sy 1)
(.test 1
 (.ret (.tup [.rs [], .sc (.int .i64 2)]) [])
 (.op (.bin .gtr 3 (.sy 0) (.sc (.int .i64 64))) 2 (.sy 2)
 (.test 2
  (.ret (.tup [.rs [], .sc (.int .i64 2)]) [])
  (.loop 3 2 [.rs [], .sc (.int .i64 0)]
   (.op (.bin .lss 3 (.sy 4) (.sy 0)) 6 (.sy 6)
   (.test 6
    (.op (.bin .add 3 (.sy 4) (.sc (.int .i64 1))) 7 (.sy 7)
    (.op (.bin .mul 3 (.sc (.int .i64 2)) (.sy 7)) 8 (.sy 8)
    (.op (.bin .add 3 (.sy 8) (.sc (.int .i64 1))) 9 (.sy 9)
    (.loop 10 2 [.sy 3, .sc (.int .i64 0)]
     (.op (.bin .lss 3 (.sy 11) (.sy 9)) 13 (.sy 13)
     (.test 13
      (.op (.bin .mul 3 (.sc (.int .i64 2)) (.sy 7)) 14 (.sy 14)
      (.op (.bin .add 3 (.sy 14) (.sc (.int .i64 1))) 15 (.sy 15)
      (.loop 16 2 [.sc (.int .i64 0), .sy 10]
       (.op (.bin .lss 3 (.sy 16) (.sy 15)) 19 (.sy 19)
       (.test 19
        (.op (.bin .sub 3 (.sy 16) (.sy 7)) 20 (.sy 20)
        (.op (.bin .sub 3 (.sy 11) (.sy 7)) 21 (.sy 21)
        (.op (.un .neg (.sy 20)) 22 (.sy 22)
        (.op (.un .neg (.sy 21)) 23 (.sy 23)
        (.op (.mx [.sy 20, .sy 22, .sy 21, .sy 23]) 24 (.sy 24)
        (.op (.bin .eql 3 (.sy 24) (.sy 7)) 25 (.sy 25)
        (.test 25
         (.op (.cat 22 22 (.sy 17) (.rs [[.sy 20, .sy 21]])) 26 (.sy 26)
         (.op (.bin .add 3 (.sy 16) (.sc (.int .i64 1))) 27 (.sy 27)
         (.again 16 [.sy 27, .sy 26])))
         (.op (.bin .add 3 (.sy 16) (.sc (.int .i64 1))) 26 (.sy 26)
         (.again 16 [.sy 26, .sy 17])))))))))
        (.op (.bin .add 3 (.sy 11) (.sc (.int .i64 1))) 20 (.sy 20)
        (.again 10 [.sy 17, .sy 20])))))))
      (.op (.bin .add 3 (.sy 4) (.sc (.int .i64 1))) 14 (.sy 14)
      (.again 3 [.sy 10, .sy 14]))))))))
    (.ret (.tup [.sy 3, .sc (.int .i64 0)]) [3]))))))))
theorem t4 : runTree T Φ0 F h4 1000 4 [.sy 0] 1 = r4 := by kernel_rfl
def h5 : List (Nat × Hint) := [(3, ⟨2, [.sy 0, .any, .sc (.slice none 0 0), .sc (.int .i64 0), .ss 10 2 3, .sy 4, .any, .any, .sy 0, .sc (.bool false), .sc (.bool false), .sy 0, .sc (.bool false), .sc (.bool false), .any, .any, .any, .any, .any, .any, .any, .any, .any, .any, .any, .any, .any, .any, .any, .any, .any, .any, .any, .any, .any, .any, .any, .any, .any, .any, .any, .any, .any, .any, .any, .any, .any], [(10, .xrow 30 2 3)], 11⟩),
  (8, ⟨2, [.sy 0, .any, .sc (.slice none 0 0), .sc (.int .i64 0), .ss 10 2 8, .sy 4, .sy 9, .any, .sy 0, .sc (.bool false), .sc (.bool false), .sy 0, .sc (.bool false), .sc (.bool false), .sy 4, .sy 0, .sc (.bool true), .any, .any, .sy 4, .sy 7, .any, .any, .any, .any, .any, .any, .any, .any, .any, .any, .any, .any, .any, .any, .any, .any, .any, .any, .any, .any, .any, .any, .any, .any, .any, .any], [(10, .xrow 30 2 8)], 17⟩),
  (13, ⟨2, [.sy 0, .any, .sc (.slice none 0 0), .sc (.int .i64 0), .ss 10 2 14, .sy 4, .sy 9, .sy 13, .sy 0, .sc (.bool false), .sc (.bool false), .sy 0, .sc (.bool false), .sc (.bool false), .sy 4, .sy 0, .sc (.bool true), .any, .any, .sy 4, .sy 7, .sy 9, .sy 4, .sc (.bool true), .any, .any, .sy 4, .sy 12, .any, .any, .any, .any, .any, .any, .any, .any, .any, .any, .any, .any, .any, .any, .any, .any, .any, .any, .any], [(10, .xrow 30 2 14)], 23⟩)]
def r5 : RT := (.op (.bin .lss 3 (.sy 0) (.sc (.int .i64 0))) 1 (.sy 1)
(.test 1
 (.ret (.tup [.rs [], .sc (.int .i64 2)]) [])
 (.op (.bin .gtr 3 (.sy 0) (.sc (.int .i64 64))) 2 (.sy 2)
 (.test 2
  (.ret (.tup [.rs [], .sc (.int .i64 2)]) [])
  (.loop 3 2 [.rs [], .sc (.int .i64 1)]
   (.op (.bin .leq 3 (.sy 4) (.sy 0)) 6 (.sy 6)
   (.test 6
    (.op (.un .neg (.sy 4)) 7 (.sy 7)
    (.loop 8 2 [.sy 3, .sy 7]
     (.op (.bin .leq 3 (.sy 9) (.sy 4)) 11 (.sy 11)
     (.test 11
      (.op (.un .neg (.sy 4)) 12 (.sy 12)
      (.loop 13 2 [.sy 12, .sy 8]
       (.op (.bin .leq 3 (.sy 13) (.sy 4)) 16 (.sy 16)
       (.test 16
        (.op (.un .neg (.sy 13)) 17 (.sy 17)
        (.op (.mx [.sy 13, .sy 17]) 18 (.sy 18)
        (.op (.un .neg (.sy 9)) 19 (.sy 19)
        (.op (.mx [.sy 9, .sy 19]) 20 (.sy 20)
        (.op (.mx [.sy 18, .sy 20]) 21 (.sy 21)
        (.op (.bin .eql 3 (.sy 21) (.sy 4)) 22 (.sy 22)
        (.test 22
         (.op (.cat 22 22 (.sy 14) (.rs [[.sy 13, .sy 9]])) 23 (.sy 23)
         (.op (.bin .add 3 (.sy 13) (.sc (.int .i64 1))) 24 (.sy 24)
         (.again 13 [.sy 24, .sy 23])))
         (.op (.bin .add 3 (.sy 13) (.sc (.int .i64 1))) 23 (.sy 23)
         (.again 13 [.sy 23, .sy 14])))))))))
        (.op (.bin .add 3 (.sy 9) (.sc (.int .i64 1))) 17 (.sy 17)
        (.again 8 [.sy 14, .sy 17]))))))
      (.op (.bin .add 3 (.sy 4) (.sc (.int .i64 1))) 12 (.sy 12)
      (.again 3 [.sy 8, .sy 12]))))))
    (.ret (.tup [.sy 3, .sc (.int .i64 0)]) [3]))))))))
theorem t5 : runTree T Φ0 F h5 1000 5 [.sy 0] 1 = r5 := by kernel_rfl
def h6 : List (Nat × Hint) := [(5, ⟨1, [.sy 0, .sy 1, .any, .any, .sc (.bool false), .sy 5, .sy 0, .sy 2, .sy 1, .sy 3, .sc (.bool false), .any, .any, .any, .any, .any, .any, .any, .any, .any, .any, .any, .any, .any, .any, .any], [], 7⟩)]
def r6 : RT := (.op (.len 22 (.sy 0)) 2 (.sy 2)
(.op (.len 22 (.sy 1)) 3 (.sy 3)
(.op (.bin .neq 3 (.sy 2) (.sy 3)) 4 (.sy 4)
(.test 4
 (.ret (.sc (.bool false)) [])
 (.loop 5 1 [.sc (.int .i64 0)]
  (.op (.len 22 (.sy 0)) 7 (.sy 7)
  (.op (.bin .lss 3 (.sy 5) (.sy 7)) 8 (.sy 8)
  (.test 8
   (.op (.idx 22 (.sy 0) (.sy 5)) 9 (.rp [.sy 9, .sy 10])
   (.op (.idx 22 (.sy 1) (.sy 5)) 11 (.rp [.sy 11, .sy 12])
   (.op (.bin .neq 30 (.agg [.sy 9, .sy 10]) (.agg [.sy 11, .sy 12])) 13 (.sy 13)
   (.test 13
    (.ret (.sc (.bool false)) [])
    (.op (.bin .add 3 (.sy 5) (.sc (.int .i64 1))) 14 (.sy 14)
    (.again 5 [.sy 14]))))))
   (.ret (.sc (.bool true)) [])))))))))
theorem t6 : runTree T Φ0 F h6 1000 6 [.sy 0, .sy 1] 2 = r6 := by kernel_rfl
end Go.Proofs.YthpjicimlandeaaGreatDoor
