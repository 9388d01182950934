/- A part of the proof; its readable source lies in wip of the prover's repo (squeezed here for the limit of bytes). -/
import Derived.Test.YthaceaflkhpooaaGreatDoorMd
import Derived.Test.YthaceaflkhpooaaGreatDoorMc
import Derived.Test.YthaceaflkhpooaaGreatDoorDen
import Derived.Test.YthaceaflkhpooaaGreatDoorShelf
import Derived.Laws.Externs
set_option linter.unusedVariables false
set_option linter.unusedSimpArgs false
set_option linter.unusedSectionVars false
namespace Go.Proofs.YthaceaflkhpooaaGreatDoor
open Go Go.Ab Go.Proofs
set_option maxRecDepth 100000
variable [Mx]
theorem oz18:q18.Ok Φ:=okt 18 E1 rfl rfl d18
theorem oz19:q19.Ok Φ:=okt 19 (y6 oz18 E1) rfl rfl d19
theorem oz20:q20.Ok Φ:=okt 20 E1 rfl rfl d20
theorem oz21:q21.Ok Φ:=okt 21 (y6 oz20 E1) rfl rfl d21
theorem oz22:q22.Ok Φ:=okt 22 (y6 oz19 (y6 oz21 E1)) rfl rfl d22
theorem oz25:q25.Ok Φ:=okt 25 E1 rfl rfl d25
theorem oz26:q26.Ok Φ:=okt 26 E1 rfl rfl d26
theorem oz38:q38.Ok Φ:=okt 38 E1 rfl rfl d38
theorem oz39:q39.Ok Φ:=okt 39 (y6 oz25 (y6 oz38 (y6 oz26 E1))) rfl rfl d39
theorem oz40:q40.Ok Φ:=okt 40 (y6 oz39 E1) rfl rfl d40
theorem oz88:q88.Ok Φ:=okt 88 (y6 oz21 E1) rfl rfl d88
theorem oz91:q91.Ok Φ:=okt 91 (y6 oz21 E1) rfl rfl d91
theorem br0:q14.Ok Φ:=P1 pg0 (List.mem_of_getElem? (i:=14) rfl) fun x r hx=>Good.row (g:=35) (kC0 (t:=49) (elem:=36) hT Tryz.func35 (by kernel_rfl) (by kernel_rfl) (by kernel_rfl) (by kernel_rfl) (by kernel_rfl) (by kernel_rfl) hx)
theorem K9:q23.Ok Φ:=P1 pg0 (List.mem_of_getElem? (i:=23) rfl) fun x r hx=>by
  have hx:(bif decide (x.2.1=2)then cj0 (fun a b=>T1 (a,b)) x.1 else none)=some r:=hx
  cases hc:decide (x.2.1=2)with
  | false=>rw[hc]at hx;cases hx
  | true =>
    rw[hc]at hx
    have e:x.2.1=2:=of_decide_eq_true hc
    have:=eU0 sortSeg rfl Tryz.func150 (by kernel_rfl) (by kernel_rfl) (by decide) rfl rfl (cw0 (z:=2) hT (by kernel_rfl)).1 (cw0 (z:=2) hT (by kernel_rfl)).2 Tryz.func151 (by kernel_rfl) (by kernel_rfl) (cl:=.nil) x.2.2 (fun a _ b _ v hv=>gZ0 oz22 (by decide) (x:=(a,b)) (r:=v) hv) hx
    refine Good.sort (g:=150) ?_
    have e2:y3 q23.dom x=[enc (.sl _) x.1,.sc (.int .i64 x.2.1),.fn (.func 151) [] (y3 .nil x.2.2)]:=rfl
    rw[e2,e]
    exact this
theorem R0:q41.Ok Φ:=P1 pg0 (List.mem_of_getElem? (i:=41) rfl) fun x r hx=>by
  have hx:(bif decide (x.2.1=1)then cj0 (fun a b=>J1 (a,b,x.2.2.1,x.2.2.2)) x.1 else none)=some r:=hx
  cases hc:decide (x.2.1=1)with
  | false=>rw[hc]at hx;cases hx
  | true =>
    rw[hc]at hx
    have e:x.2.1=1:=of_decide_eq_true hc
    have:=pc0 sortInt rfl Tryz.func136 (by kernel_rfl) (by kernel_rfl) rfl Tryz.func137 (by kernel_rfl) (by kernel_rfl) (cl:=(.cons (.ptr (.cons sI (.cons sI (.one sI)))) (.one (.ptr (.one (.fmap (.cons sI (.one (.agg (.cons sI (.one sI))))))))))) x.2.2 (fun a _ b _ v hv=>gZ0 oz40 (by decide) (x:=(a,b,x.2.2.1,x.2.2.2)) (r:=v) hv) hx
    refine Good.sort (g:=136) ?_
    have e2:y3 q41.dom x=[enc (.sl _) x.1,.sc (.int .i64 x.2.1),.fn (.func 137) [] (y3 (.cons (.ptr (.cons sI (.cons sI (.one sI)))) (.one (.ptr (.one (.fmap (.cons sI (.one (.agg (.cons sI (.one sI)))))))))) x.2.2)]:=rfl
    rw[e2,e]
    exact this
theorem eK0:q44.Ok Φ:=P1 pg0 (List.mem_of_getElem? (i:=44) rfl) fun x r hx=>Good.sort (g:=109) (pe0 sortAsc rfl Tryz.func109 (by kernel_rfl) (by kernel_rfl) hx)
theorem dX0:q65.Ok Φ:=P1 pg0 (List.mem_of_getElem? (i:=65) rfl) fun x r hx=>Good.memo (by decide) (pw0 conts rfl Tryz.func86 (by kernel_rfl) (by kernel_rfl) rfl (m:=Mx.n) rfl hx)
theorem bW0:q83.Ok Φ:=P1 pg0 (List.mem_of_getElem? (i:=83) rfl) fun x r hx=>Good.row (g:=34) (kq0 (t:=22) (elem:=38) hT Tryz.func34 (by kernel_rfl) (by kernel_rfl) (by kernel_rfl) (by kernel_rfl) (by kernel_rfl) (by kernel_rfl) hx)
theorem dW0:q84.Ok Φ:=P1 pg0 (List.mem_of_getElem? (i:=84) rfl) fun x r hx=>Good.memo (by decide) (mt0 (t:=24) (elem:=3) hT Tryz.func36 (by kernel_rfl) (by kernel_rfl) (by kernel_rfl) (by kernel_rfl) (by kernel_rfl) hx)
theorem aJ0:q85.Ok Φ:=P1 pg0 (List.mem_of_getElem? (i:=85) rfl) fun x r hx=>Good.sort (g:=38) (qh0 revPt rfl Tryz.func38 (by kernel_rfl) (by kernel_rfl) (cw0 (z:=2) hT (by kernel_rfl)).1 (cw0 (z:=2) hT (by kernel_rfl)).2 hx)
theorem K5:q89.Ok Φ:=P1 pg0 (List.mem_of_getElem? (i:=89) rfl) fun x r hx=>by
  have hx:(bif decide (x.2.1=4)then cj0 (fun a b=>M3 (a,b)) x.1 else none)=some r:=hx
  cases hc:decide (x.2.1=4)with
  | false=>rw[hc]at hx;cases hx
  | true =>
    rw[hc]at hx
    have e:x.2.1=4:=of_decide_eq_true hc
    have:=eU0 sortReg rfl Tryz.func64 (by kernel_rfl) (by kernel_rfl) (by decide) rfl rfl (cw0 (z:=4) hT (by kernel_rfl)).1 (cw0 (z:=4) hT (by kernel_rfl)).2 Tryz.func65 (by kernel_rfl) (by kernel_rfl) (cl:=.nil) x.2.2 (fun a _ b _ v hv=>gZ0 oz88 (by decide) (x:=(a,b)) (r:=v) hv) hx
    refine Good.sort (g:=64) ?_
    have e2:y3 q89.dom x=[enc (.sl _) x.1,.sc (.int .i64 x.2.1),.fn (.func 65) [] (y3 .nil x.2.2)]:=rfl
    rw[e2,e]
    exact this
theorem G4:q92.Ok Φ:=P1 pg0 (List.mem_of_getElem? (i:=92) rfl) fun x r hx=>by
  have hx:(bif decide (x.2.1=3)then cj0 (fun a b=>G5 (a,b)) x.1 else none)=some r:=hx
  cases hc:decide (x.2.1=3)with
  | false=>rw[hc]at hx;cases hx
  | true =>
    rw[hc]at hx
    have e:x.2.1=3:=of_decide_eq_true hc
    have:=eU0 sortOut rfl Tryz.func41 (by kernel_rfl) (by kernel_rfl) (by decide) rfl rfl (cw0 (z:=3) hT (by kernel_rfl)).1 (cw0 (z:=3) hT (by kernel_rfl)).2 Tryz.func42 (by kernel_rfl) (by kernel_rfl) (cl:=.nil) x.2.2 (fun a _ b _ v hv=>gZ0 oz91 (by decide) (x:=(a,b)) (r:=v) hv) hx
    refine Good.sort (g:=41) ?_
    have e2:y3 q92.dom x=[enc (.sl _) x.1,.sc (.int .i64 x.2.1),.fn (.func 42) [] (y3 .nil x.2.2)]:=rfl
    rw[e2,e]
    exact this
theorem lm0:q105.Ok Φ:=P1 pg0 (List.mem_of_getElem? (i:=105) rfl) fun x r hx=>Good.memo (by decide) (pD0 (run_callFunc_extern Tryz.func79 (by kernel_rfl) (by kernel_rfl) (by kernel_rfl) (by kernel_rfl)) hx)
theorem hand:Hand:=⟨br0,K9,R0,eK0,dX0,bW0,dW0,aJ0,K5,G4,lm0⟩
end Go.Proofs.YthaceaflkhpooaaGreatDoor
