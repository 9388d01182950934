/- A part of the proof; its readable source lies in wip of the prover's repo (squeezed here for the limit of bytes). -/
import Derived.Test.YtenigicdlmagjaaGreatDoorMe
import Derived.Test.YtenigicdlmagjaaGreatDoorMc
import Derived.Test.YtenigicdlmagjaaGreatDoorDen
import Derived.Test.YtenigicdlmagjaaGreatDoorShelf
import Derived.Laws.Externs
set_option linter.unusedVariables false
set_option linter.unusedSimpArgs false
set_option linter.unusedSectionVars false
namespace Go.Proofs.YtenigicdlmagjaaGreatDoor
open Go Go.Ab Go.Proofs
set_option maxRecDepth 100000
variable [Mx]
theorem oz20:q20.Ok Φ:=okt 20 C0 rfl rfl d20
theorem oz21:q21.Ok Φ:=okt 21 (u9 oz20 C0) rfl rfl d21
theorem oz22:q22.Ok Φ:=okt 22 C0 rfl rfl d22
theorem oz23:q23.Ok Φ:=okt 23 (u9 oz22 C0) rfl rfl d23
theorem oz24:q24.Ok Φ:=okt 24 (u9 oz21 (u9 oz23 C0)) rfl rfl d24
theorem oz27:q27.Ok Φ:=okt 27 C0 rfl rfl d27
theorem oz28:q28.Ok Φ:=okt 28 C0 rfl rfl d28
theorem oz40:q40.Ok Φ:=okt 40 C0 rfl rfl d40
theorem oz41:q41.Ok Φ:=okt 41 (u9 oz27 (u9 oz40 (u9 oz28 C0))) rfl rfl d41
theorem oz42:q42.Ok Φ:=okt 42 (u9 oz41 C0) rfl rfl d42
theorem oz86:q86.Ok Φ:=okt 86 (u9 oz23 C0) rfl rfl d86
theorem oz101:q101.Ok Φ:=okt 101 (u9 oz23 C0) rfl rfl d101
theorem oz110:q110.Ok Φ:=okt 110 C0 rfl rfl d110
theorem oz111:q111.Ok Φ:=okt 111 (u9 oz23 (u9 oz110 C0)) rfl rfl d111
theorem oz116:q116.Ok Φ:=okt 116 (u9 oz23 C0) rfl rfl d116
theorem bT0:q16.Ok Φ:=Q3 pd0 (List.mem_of_getElem? (i:=16) rfl) fun x r hx=>Good.row (g:=47) (ma0 (t:=75) (elem:=57) hT Tryz.func47 (by kernel_rfl) (by kernel_rfl) (by kernel_rfl) (by kernel_rfl) (by kernel_rfl) (by kernel_rfl) hx)
theorem L4:q25.Ok Φ:=Q3 pd0 (List.mem_of_getElem? (i:=25) rfl) fun x r hx=>by
  have hx:(bif decide (x.2.1=2)then aw0 (fun a b=>U8 (a,b)) x.1 else none)=some r:=hx;cases hc:decide (x.2.1=2)with
  | false=>rw[hc]at hx;cases hx
  | true=>rw[hc]at hx;have e:x.2.1=2:=of_decide_eq_true hc;have:=bJ0 sortSeg rfl Tryz.func124 (by kernel_rfl) (by kernel_rfl) (by decide) rfl rfl (bq0 (z:=2) hT (by kernel_rfl)).1 (bq0 (z:=2) hT (by kernel_rfl)).2 Tryz.func125 (by kernel_rfl) (by kernel_rfl) (cl:=.nil) x.2.2 (fun a _ b _ v hv=>eg0 oz24 (by decide) (x:=(a,b)) (r:=v) hv) hx;refine Good.sort (g:=124) ?_;have e2:y3 q25.dom x=[enc (.sl _) x.1,.sc (.int .i64 x.2.1),.fn (.func 125) [] (y3 .nil x.2.2)]:=rfl;rw[e2,e];exact this
theorem T3:q43.Ok Φ:=Q3 pd0 (List.mem_of_getElem? (i:=43) rfl) fun x r hx=>by
  have hx:(bif decide (x.2.1=1)then aw0 (fun a b=>J4 (a,b,x.2.2.1,x.2.2.2)) x.1 else none)=some r:=hx;cases hc:decide (x.2.1=1)with
  | false=>rw[hc]at hx;cases hx
  | true=>rw[hc]at hx;have e:x.2.1=1:=of_decide_eq_true hc;have:=po0 sortInt rfl Tryz.func185 (by kernel_rfl) (by kernel_rfl) rfl Tryz.func186 (by kernel_rfl) (by kernel_rfl) (cl:=(.cons (.ptr (.cons sI (.cons sI (.one sI)))) (.one (.ptr (.one (.fmap (.cons sI (.one (.agg (.cons sI (.one sI))))))))))) x.2.2 (fun a _ b _ v hv=>eg0 oz42 (by decide) (x:=(a,b,x.2.2.1,x.2.2.2)) (r:=v) hv) hx;refine Good.sort (g:=185) ?_;have e2:y3 q43.dom x=[enc (.sl _) x.1,.sc (.int .i64 x.2.1),.fn (.func 186) [] (y3 (.cons (.ptr (.cons sI (.cons sI (.one sI)))) (.one (.ptr (.one (.fmap (.cons sI (.one (.agg (.cons sI (.one sI)))))))))) x.2.2)]:=rfl;rw[e2,e];exact this
theorem fk0:q46.Ok Φ:=Q3 pd0 (List.mem_of_getElem? (i:=46) rfl) fun x r hx=>Good.sort (g:=23) (oQ0 sortAsc rfl Tryz.func23 (by kernel_rfl) (by kernel_rfl) hx)
theorem eH0:q67.Ok Φ:=Q3 pd0 (List.mem_of_getElem? (i:=67) rfl) fun x r hx=>Good.memo (by decide) (pI0 conts rfl Tryz.func139 (by kernel_rfl) (by kernel_rfl) rfl (m:=Mx.n) rfl hx)
theorem ev0:q82.Ok Φ:=Q3 pd0 (List.mem_of_getElem? (i:=82) rfl) fun x r hx=>Good.row (g:=48) (lw0 (t:=24) (elem:=3) hT Tryz.func48 (by kernel_rfl) (by kernel_rfl) (by kernel_rfl) (by kernel_rfl) (by kernel_rfl) (by kernel_rfl) hx)
theorem L2:q87.Ok Φ:=Q3 pd0 (List.mem_of_getElem? (i:=87) rfl) fun x r hx=>by
  have hx:(bif decide (x.2.1=4)then aw0 (fun a b=>M9 (a,b)) x.1 else none)=some r:=hx;cases hc:decide (x.2.1=4)with
  | false=>rw[hc]at hx;cases hx
  | true=>rw[hc]at hx;have e:x.2.1=4:=of_decide_eq_true hc;have:=bJ0 sortReg rfl Tryz.func136 (by kernel_rfl) (by kernel_rfl) (by decide) rfl rfl (bq0 (z:=4) hT (by kernel_rfl)).1 (bq0 (z:=4) hT (by kernel_rfl)).2 Tryz.func137 (by kernel_rfl) (by kernel_rfl) (cl:=.nil) x.2.2 (fun a _ b _ v hv=>eg0 oz86 (by decide) (x:=(a,b)) (r:=v) hv) hx;refine Good.sort (g:=136) ?_;have e2:y3 q87.dom x=[enc (.sl _) x.1,.sc (.int .i64 x.2.1),.fn (.func 137) [] (y3 .nil x.2.2)]:=rfl;rw[e2,e];exact this
theorem O1:q102.Ok Φ:=Q3 pd0 (List.mem_of_getElem? (i:=102) rfl) fun x r hx=>by
  have hx:(bif decide (x.2.1=2)then aw0 (fun a b=>V8 (a,b)) x.1 else none)=some r:=hx;cases hc:decide (x.2.1=2)with
  | false=>rw[hc]at hx;cases hx
  | true=>rw[hc]at hx;have e:x.2.1=2:=of_decide_eq_true hc;have:=bJ0 sortRan rfl Tryz.func222 (by kernel_rfl) (by kernel_rfl) (by decide) rfl rfl (bq0 (z:=2) hT (by kernel_rfl)).1 (bq0 (z:=2) hT (by kernel_rfl)).2 Tryz.func223 (by kernel_rfl) (by kernel_rfl) (cl:=.nil) x.2.2 (fun a _ b _ v hv=>eg0 oz101 (by decide) (x:=(a,b)) (r:=v) hv) hx;refine Good.sort (g:=222) ?_;have e2:y3 q102.dom x=[enc (.sl _) x.1,.sc (.int .i64 x.2.1),.fn (.func 223) [] (y3 .nil x.2.2)]:=rfl;rw[e2,e];exact this
theorem E8:q112.Ok Φ:=Q3 pd0 (List.mem_of_getElem? (i:=112) rfl) fun x r hx=>by
  have hx:(bif decide (x.2.1=3)then aw0 (fun a b=>F6 (a,b)) x.1 else none)=some r:=hx;cases hc:decide (x.2.1=3)with
  | false=>rw[hc]at hx;cases hx
  | true=>rw[hc]at hx;have e:x.2.1=3:=of_decide_eq_true hc;have:=bJ0 sortCan rfl Tryz.func50 (by kernel_rfl) (by kernel_rfl) (by decide) rfl rfl (bq0 (z:=3) hT (by kernel_rfl)).1 (bq0 (z:=3) hT (by kernel_rfl)).2 Tryz.func51 (by kernel_rfl) (by kernel_rfl) (cl:=.nil) x.2.2 (fun a _ b _ v hv=>eg0 oz111 (by decide) (x:=(a,b)) (r:=v) hv) hx;refine Good.sort (g:=50) ?_;have e2:y3 q112.dom x=[enc (.sl _) x.1,.sc (.int .i64 x.2.1),.fn (.func 51) [] (y3 .nil x.2.2)]:=rfl;rw[e2,e];exact this
theorem ce0:q115.Ok Φ:=Q3 pd0 (List.mem_of_getElem? (i:=115) rfl) fun x r hx=>Good.row (g:=46) (lM0 (t:=22) (elem:=59) hT Tryz.func46 (by kernel_rfl) (by kernel_rfl) (by kernel_rfl) (by kernel_rfl) (by kernel_rfl) (by kernel_rfl) hx)
theorem L5:q117.Ok Φ:=Q3 pd0 (List.mem_of_getElem? (i:=117) rfl) fun x r hx=>by
  have hx:(bif decide (x.2.1=3)then aw0 (fun a b=>K3 (a,b)) x.1 else none)=some r:=hx;cases hc:decide (x.2.1=3)with
  | false=>rw[hc]at hx;cases hx
  | true=>rw[hc]at hx;have e:x.2.1=3:=of_decide_eq_true hc;have:=bJ0 sortNod rfl Tryz.func66 (by kernel_rfl) (by kernel_rfl) (by decide) rfl rfl (bq0 (z:=3) hT (by kernel_rfl)).1 (bq0 (z:=3) hT (by kernel_rfl)).2 Tryz.func67 (by kernel_rfl) (by kernel_rfl) (cl:=.nil) x.2.2 (fun a _ b _ v hv=>eg0 oz116 (by decide) (x:=(a,b)) (r:=v) hv) hx;refine Good.sort (g:=66) ?_;have e2:y3 q117.dom x=[enc (.sl _) x.1,.sc (.int .i64 x.2.1),.fn (.func 67) [] (y3 .nil x.2.2)]:=rfl;rw[e2,e];exact this
theorem hand:Hand:=⟨bT0,L4,T3,fk0,eH0,ev0,L2,O1,E8,ce0,L5⟩
end Go.Proofs.YtenigicdlmagjaaGreatDoor
