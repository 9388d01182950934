/- A part of the proof; its readable source lies in wip of the prover's repo (squeezed here for the limit of bytes). -/
import Derived.Test.YtgahoiioknakhaaGreatDoorMc
import Derived.Test.YtgahoiioknakhaaGreatDoorMb
import Derived.Test.YtgahoiioknakhaaGreatDoorDen
import Derived.Test.YtgahoiioknakhaaGreatDoorShelf
import Derived.Laws.Externs
set_option linter.all false
open Decidable renaming decide->No
open Option renaming some->Z,none->W
namespace Go.Proofs.YtgahoiioknakhaaGreatDoor
open Go Go.Ab Go.Proofs
set_option maxRecDepth 100000
variable [zv]
def bE8:Km.Ok Φ:=eu 22 Km ea [] [] [b5 0 2] 2
def bE7:Kn.Ok Φ:=eu 23 Kn (m7 bE8 ea) [] [] [b5 0 2] 2
def bF1:Z2.Ok Φ:=eu 24 Z2 ea [] [] [y 0] 1
def bE9:Ko.Ok Φ:=eu 25 Ko (m7 bF1 ea) [] [] [y 0,y 1] 2
def bF0:Kp.Ok Φ:=eu 26 Kp (m7 bE7 (m7 bE9 ea)) [] [] [b5 0 2,b5 2 2] 4
def bF2:Z5.Ok Φ:=eu 29 Z5 ea [(2,z41)] [(537002055,⟨1,up [] 30 [(0,[y 0]),(2,[dd]),(5,[y 0,y 1,y 2])],[],4⟩)] [y 0] 1
def bF3:Z6.Ok Φ:=eu 30 Z6 ea [] [] [b5 0 2,b5 2 2,b5 4 2] 6
def bF4:aa2.Ok Φ:=eu 42 aa2 ea [] [] [b5 0 2,b5 2 2] 4
def bF5:aa3.Ok Φ:=eu 43 aa3 (m7 bF2 (m7 bF4 (m7 bF3 ea))) [] [] [b5 0 2,b5 2 2,b5 4 2] 6
def bH1:Pp.Ok Φ:=eu 44 Pp (m7 bF5 ea) [] [] [y 0,y 1,pH 2 3,.fT [y 5]] 6
def bE5:Yx.Ok Φ:=eu 113 Yx ea [(2,z41)] [(537067632,⟨1,up [] 18 [(0,[y 0]),(2,[iV 0,iV 0]),(6,[y 0,y 1,y 2])],[],5⟩)] [y 0] 1
def bE6:Yy.Ok Φ:=eu 114 Yy (m7 bE9 (m7 bE5 ea)) [] [] [b5 0 4,b5 4 4] 8
def bh9:Ki.Ok Φ:=tK uc (List.mem_of_getElem? (i:=18) rfl) λx r hx=>Good.row (g:=130) (bH0 (t:=61) (elem:=63) cb Tryz.func130 (by kernel_rfl) (by kernel_rfl) (by kernel_rfl) (by kernel_rfl) (by kernel_rfl) (by kernel_rfl) hx)
def bd3:Z3.Ok Φ:=tK uc (List.mem_of_getElem? (i:=27) rfl) λx r hx=>by
  have hx:(bif No (x.2.1=2)then rE (λa b=>Iw (a,b)) x.1 else W)=Z r:=hx;cases hc:No (x.2.1=2)with
  |false=>rw[hc]at hx;cases hx
  |true=>rw[hc]at hx;have e:x.2.1=2:=of_decide_eq_true hc;have:=NL bN7 rfl Tryz.func186 (by kernel_rfl) (by kernel_rfl) (by decide) rfl rfl (zY (z:=2) cb (by kernel_rfl)).1 (zY (z:=2) cb (by kernel_rfl)).2 Tryz.func187 (by kernel_rfl) (by kernel_rfl) (cl:=.nil) x.2.2 (λa _ b _ v hv=>F5 bF0 (by decide) (x:=(a,b)) (r:=v) hv) hx;refine Good.sort (g:=186) ?_;have e2:a6 Z3.mW x=[enc (.hF _) x.1,.b4 (.int .i64 x.2.1),.fn (.func 187) [] (a6 .nil x.2.2)]:=rfl;rw[e2,e];exact this
def be4:aa4.Ok Φ:=tK uc (List.mem_of_getElem? (i:=45) rfl) λx r hx=>by
  have hx:(bif No (x.2.1=1)then rE (λa b=>Bf (a,b,x.2.2.1,x.2.2.2)) x.1 else W)=Z r:=hx;cases hc:No (x.2.1=1)with
  |false=>rw[hc]at hx;cases hx
  |true=>rw[hc]at hx;have e:x.2.1=1:=of_decide_eq_true hc;have:=bX1 sortInt rfl Tryz.func225 (by kernel_rfl) (by kernel_rfl) rfl Tryz.func226 (by kernel_rfl) (by kernel_rfl) (cl:=(.cons (.ptr (.cons fk (.cons fk (.one fk)))) (.one (.ptr (.one (.rH (.cons fk (.one (.agg (.cons fk (.one fk))))))))))) x.2.2 (λa _ b _ v hv=>F5 bH1 (by decide) (x:=(a,b,x.2.2.1,x.2.2.2)) (r:=v) hv) hx;refine Good.sort (g:=225) ?_;have e2:a6 aa4.mW x=[enc (.hF _) x.1,.b4 (.int .i64 x.2.1),.fn (.func 226) [] (a6 (.cons (.ptr (.cons fk (.cons fk (.one fk)))) (.one (.ptr (.one (.rH (.cons fk (.one (.agg (.cons fk (.one fk)))))))))) x.2.2)]:=rfl;rw[e2,e];exact this
def bm4:Pq.Ok Φ:=tK uc (List.mem_of_getElem? (i:=48) rfl) λx r hx=>Good.sort (g:=175) (bV2 bM9 rfl Tryz.func175 (by kernel_rfl) (by kernel_rfl) hx)
def bl0:ac3.Ok Φ:=tK uc (List.mem_of_getElem? (i:=69) rfl) λx r hx=>Good.vh (by decide) (bV3 bf4 rfl Tryz.func127 (by kernel_rfl) (by kernel_rfl) rfl (m:=zv.n) rfl hx)
def bl1:Pv.Ok Φ:=tK uc (List.mem_of_getElem? (i:=84) rfl) λx r hx=>Good.row (g:=131) (bI7 (t:=24) (elem:=3) cb Tryz.func131 (by kernel_rfl) (by kernel_rfl) (by kernel_rfl) (by kernel_rfl) (by kernel_rfl) (by kernel_rfl) hx)
def bI1:Yo.Ok Φ:=tK uc (List.mem_of_getElem? (i:=104) rfl) λx r hx=>Good.vh (by decide) (bU9 (run_callFunc_extern Tryz.func148 (by kernel_rfl) (by kernel_rfl) (by kernel_rfl) (by kernel_rfl)) hx)
def aN8:Yz.Ok Φ:=tK uc (List.mem_of_getElem? (i:=115) rfl) λx r hx=>by
  have hx:(bif No (x.2.1=4)then rE (λa b=>HT (a,b)) x.1 else W)=Z r:=hx;cases hc:No (x.2.1=4)with
  |false=>rw[hc]at hx;cases hx
  |true=>rw[hc]at hx;have e:x.2.1=4:=of_decide_eq_true hc;have:=NL bK2 rfl Tryz.func22 (by kernel_rfl) (by kernel_rfl) (by decide) rfl rfl (zY (z:=4) cb (by kernel_rfl)).1 (zY (z:=4) cb (by kernel_rfl)).2 Tryz.func23 (by kernel_rfl) (by kernel_rfl) (cl:=.nil) x.2.2 (λa _ b _ v hv=>F5 bE6 (by decide) (x:=(a,b)) (r:=v) hv) hx;refine Good.sort (g:=22) ?_;have e2:a6 Yz.mW x=[enc (.hF _) x.1,.b4 (.int .i64 x.2.1),.fn (.func 23) [] (a6 .nil x.2.2)]:=rfl;rw[e2,e];exact this
theorem hand:Hand:=⟨bh9,bd3,be4,bm4,bl0,bl1,bI1,aN8⟩
end Go.Proofs.YtgahoiioknakhaaGreatDoor
