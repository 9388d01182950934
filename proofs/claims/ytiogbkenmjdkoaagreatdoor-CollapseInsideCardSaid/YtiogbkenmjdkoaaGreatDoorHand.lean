/- A part of the proof; its readable source lies in wip of the prover's repo (squeezed here for the limit of bytes). -/
import Derived.Test.YtiogbkenmjdkoaaGreatDoorMe
import Derived.Test.YtiogbkenmjdkoaaGreatDoorMc
import Derived.Test.YtiogbkenmjdkoaaGreatDoorDen
import Derived.Test.YtiogbkenmjdkoaaGreatDoorShelf
import Derived.Laws.Externs
set_option linter.all false
open Decidable renaming decide->IT
open Option renaming some->U,none->No
namespace Go.Proofs.YtiogbkenmjdkoaaGreatDoor
open Go Go.Ab Go.Proofs
set_option maxRecDepth 100000
variable [yC]
def aM5:=iV 20 zy hU [] [] [gA 0 2] 2
def aM6:=iV 21 C6 (bx aM5 hU) [] [] [gA 0 2] 2
def aM7:=iV 22 C7 hU [] [] [y 0] 1
def FC:=iV 23 x7 (bx aM7 hU) [] [] [y 0,y 1] 2
def aM8:=iV 24 Jb (bx aM6 (bx FC hU)) [] [] [gA 0 2,gA 2 2] 4
def aM9:=iV 27 zz hU [(2,z41)] [(537002055,⟨1,up [] 30 [(0,[y 0]),(2,[fk]),(5,[y 0,y 1,y 2])],[],4⟩)] [y 0] 1
def aN0:=iV 28 Bx hU [] [] [gA 0 2,gA 2 2,gA 4 2] 6
def aN1:=iV 40 FY hU [] [] [gA 0 2,gA 2 2] 4
def aN2:=iV 41 FZ (bx aM9 (bx aN1 (bx aN0 hU))) [] [] [gA 0 2,gA 2 2,gA 4 2] 6
def aN3:=iV 42 Jk (bx aN2 hU) [] [] [y 0,y 1,sx 2 3,.h8 [y 5]] 6
def aN4:=iV 86 JN (bx FC hU) [] [] [gA 0 4,gA 4 4] 8
def aM1:=iV 101 IM (bx FC hU) [] [] [gA 0 2,gA 2 2] 4
def aM2:=iV 110 FL hU [(2,z41)] [(537067632,⟨1,up [] 18 [(0,[y 0]),(2,[lZ 0,lZ 0]),(6,[y 0,y 1,y 2])],[],5⟩)] [y 0] 1
def aM3:=iV 111 IZ (bx FC (bx aM2 hU)) [] [] [gA 0 3,gA 3 3] 6
def aM4:=iV 116 I0 (bx FC hU) [] [] [gA 0 3,gA 3 3] 6
def ah3:C4.Ok Φ:=ub uA (List.mem_of_getElem? (i:=16) rfl) λx r hx=>Good.row (g:=55) (aO9 (t:=88) (elem:=60) ca Tryz.func55 (by kernel_rfl) (by kernel_rfl) (by kernel_rfl) (by kernel_rfl) (by kernel_rfl) (by kernel_rfl) hx)
def ZT:FU.Ok Φ:=ub uA (List.mem_of_getElem? (i:=25) rfl) λx r hx=>by
  have hx:(bif IT (x.2.1=2)then pT (λa b=>Ee (a,b)) x.1 else No)=U r:=hx;cases hc:IT (x.2.1=2)with
  |false=>rw[hc]at hx;cases hx
  |true=>rw[hc]at hx;have e:x.2.1=2:=of_decide_eq_true hc;have:=EF ba2 rfl Tryz.func202 (by kernel_rfl) (by kernel_rfl) (by decide) rfl rfl (wM (z:=2) ca (by kernel_rfl)).1 (wM (z:=2) ca (by kernel_rfl)).2 Tryz.func203 (by kernel_rfl) (by kernel_rfl) (cl:=.nil) x.2.2 (λa _ b _ v hv=>A0 aM8 (by decide) (x:=(a,b)) (r:=v) hv) hx;refine Good.sort (g:=202) ?_;have e2:e8 FU.nq x=[enc (.ft _) x.1,.bF (.int .i64 x.2.1),.fn (.func 203) [] (e8 .nil x.2.2)]:=rfl;rw[e2,e];exact this
def ZX:F0.Ok Φ:=ub uA (List.mem_of_getElem? (i:=43) rfl) λx r hx=>by
  have hx:(bif IT (x.2.1=1)then pT (λa b=>yA (a,b,x.2.2.1,x.2.2.2)) x.1 else No)=U r:=hx;cases hc:IT (x.2.1=1)with
  |false=>rw[hc]at hx;cases hx
  |true=>rw[hc]at hx;have e:x.2.1=1:=of_decide_eq_true hc;have:=aW1 sortInt rfl Tryz.func176 (by kernel_rfl) (by kernel_rfl) rfl Tryz.func177 (by kernel_rfl) (by kernel_rfl) (cl:=(.cons (.ptr (.cons d' (.cons d' (.one d')))) (.one (.ptr (.one (.pa (.cons d' (.one (.agg (.cons d' (.one d'))))))))))) x.2.2 (λa _ b _ v hv=>A0 aN3 (by decide) (x:=(a,b,x.2.2.1,x.2.2.2)) (r:=v) hv) hx;refine Good.sort (g:=176) ?_;have e2:e8 F0.nq x=[enc (.ft _) x.1,.bF (.int .i64 x.2.1),.fn (.func 177) [] (e8 (.cons (.ptr (.cons d' (.cons d' (.one d')))) (.one (.ptr (.one (.pa (.cons d' (.one (.agg (.cons d' (.one d')))))))))) x.2.2)]:=rfl;rw[e2,e];exact this
def av2:BA.Ok Φ:=ub uA (List.mem_of_getElem? (i:=46) rfl) λx r hx=>Good.sort (g:=26) (bf3 aZ1 rfl Tryz.func26 (by kernel_rfl) (by kernel_rfl) hx)
def au7:Jw.Ok Φ:=ub uA (List.mem_of_getElem? (i:=67) rfl) λx r hx=>Good.w_ (by decide) (bd8 ag3 rfl Tryz.func139 (by kernel_rfl) (by kernel_rfl) rfl (m:=yC.n) rfl hx)
def av5:Da.Ok Φ:=ub uA (List.mem_of_getElem? (i:=82) rfl) λx r hx=>Good.row (g:=32) (aM0 (t:=24) (elem:=3) ca Tryz.func32 (by kernel_rfl) (by kernel_rfl) (by kernel_rfl) (by kernel_rfl) (by kernel_rfl) (by kernel_rfl) hx)
def ZS:F7.Ok Φ:=ub uA (List.mem_of_getElem? (i:=87) rfl) λx r hx=>by
  have hx:(bif IT (x.2.1=4)then pT (λa b=>D1 (a,b)) x.1 else No)=U r:=hx;cases hc:IT (x.2.1=4)with
  |false=>rw[hc]at hx;cases hx
  |true=>rw[hc]at hx;have e:x.2.1=4:=of_decide_eq_true hc;have:=EF ba0 rfl Tryz.func34 (by kernel_rfl) (by kernel_rfl) (by decide) rfl rfl (wM (z:=4) ca (by kernel_rfl)).1 (wM (z:=4) ca (by kernel_rfl)).2 Tryz.func35 (by kernel_rfl) (by kernel_rfl) (cl:=.nil) x.2.2 (λa _ b _ v hv=>A0 aN4 (by decide) (x:=(a,b)) (r:=v) hv) hx;refine Good.sort (g:=34) ?_;have e2:e8 F7.nq x=[enc (.ft _) x.1,.bF (.int .i64 x.2.1),.fn (.func 35) [] (e8 .nil x.2.2)]:=rfl;rw[e2,e];exact this
def ZV:FK.Ok Φ:=ub uA (List.mem_of_getElem? (i:=102) rfl) λx r hx=>by
  have hx:(bif IT (x.2.1=2)then pT (λa b=>Ec (a,b)) x.1 else No)=U r:=hx;cases hc:IT (x.2.1=2)with
  |false=>rw[hc]at hx;cases hx
  |true=>rw[hc]at hx;have e:x.2.1=2:=of_decide_eq_true hc;have:=EF aZ8 rfl Tryz.func216 (by kernel_rfl) (by kernel_rfl) (by decide) rfl rfl (wM (z:=2) ca (by kernel_rfl)).1 (wM (z:=2) ca (by kernel_rfl)).2 Tryz.func217 (by kernel_rfl) (by kernel_rfl) (cl:=.nil) x.2.2 (λa _ b _ v hv=>A0 aM1 (by decide) (x:=(a,b)) (r:=v) hv) hx;refine Good.sort (g:=216) ?_;have e2:e8 FK.nq x=[enc (.ft _) x.1,.bF (.int .i64 x.2.1),.fn (.func 217) [] (e8 .nil x.2.2)]:=rfl;rw[e2,e];exact this
def ZQ:FM.Ok Φ:=ub uA (List.mem_of_getElem? (i:=112) rfl) λx r hx=>by
  have hx:(bif IT (x.2.1=3)then pT (λa b=>DN (a,b)) x.1 else No)=U r:=hx;cases hc:IT (x.2.1=3)with
  |false=>rw[hc]at hx;cases hx
  |true=>rw[hc]at hx;have e:x.2.1=3:=of_decide_eq_true hc;have:=EF aZ3 rfl Tryz.func57 (by kernel_rfl) (by kernel_rfl) (by decide) rfl rfl (wM (z:=3) ca (by kernel_rfl)).1 (wM (z:=3) ca (by kernel_rfl)).2 Tryz.func58 (by kernel_rfl) (by kernel_rfl) (cl:=.nil) x.2.2 (λa _ b _ v hv=>A0 aM3 (by decide) (x:=(a,b)) (r:=v) hv) hx;refine Good.sort (g:=57) ?_;have e2:e8 FM.nq x=[enc (.ft _) x.1,.bF (.int .i64 x.2.1),.fn (.func 58) [] (e8 .nil x.2.2)]:=rfl;rw[e2,e];exact this
def ag8:FP.Ok Φ:=ub uA (List.mem_of_getElem? (i:=115) rfl) λx r hx=>Good.row (g:=54) (aL1 (t:=22) (elem:=62) ca Tryz.func54 (by kernel_rfl) (by kernel_rfl) (by kernel_rfl) (by kernel_rfl) (by kernel_rfl) (by kernel_rfl) hx)
def ZU:FQ.Ok Φ:=ub uA (List.mem_of_getElem? (i:=117) rfl) λx r hx=>by
  have hx:(bif IT (x.2.1=3)then pT (λa b=>DW (a,b)) x.1 else No)=U r:=hx;cases hc:IT (x.2.1=3)with
  |false=>rw[hc]at hx;cases hx
  |true=>rw[hc]at hx;have e:x.2.1=3:=of_decide_eq_true hc;have:=EF aZ6 rfl Tryz.func71 (by kernel_rfl) (by kernel_rfl) (by decide) rfl rfl (wM (z:=3) ca (by kernel_rfl)).1 (wM (z:=3) ca (by kernel_rfl)).2 Tryz.func72 (by kernel_rfl) (by kernel_rfl) (cl:=.nil) x.2.2 (λa _ b _ v hv=>A0 aM4 (by decide) (x:=(a,b)) (r:=v) hv) hx;refine Good.sort (g:=71) ?_;have e2:e8 FQ.nq x=[enc (.ft _) x.1,.bF (.int .i64 x.2.1),.fn (.func 72) [] (e8 .nil x.2.2)]:=rfl;rw[e2,e];exact this
theorem hand:Hand:=⟨ah3,ZT,ZX,av2,au7,av5,ZS,ZV,ZQ,ag8,ZU⟩
end Go.Proofs.YtiogbkenmjdkoaaGreatDoor
