/- A part of the proof; its readable source lies in wip of the prover's repo (squeezed here for the limit of bytes). -/
import Derived.Test.YtlnpfkdodfgdcaaGreatDoorMd
import Derived.Test.YtlnpfkdodfgdcaaGreatDoorMc
import Derived.Test.YtlnpfkdodfgdcaaGreatDoorDen
import Derived.Test.YtlnpfkdodfgdcaaGreatDoorShelf
import Derived.Laws.Externs
set_option linter.unusedVariables false
set_option linter.unusedSimpArgs false
set_option linter.unusedSectionVars false
namespace Go.Proofs.YtlnpfkdodfgdcaaGreatDoor
open Go Go.Ab Go.Proofs
set_option maxRecDepth 100000
variable [Mx]
theorem oz22:q22.Ok Φ:=okt 22 C9 rfl rfl d22
theorem oz23:q23.Ok Φ:=okt 23 (y7 oz22 C9) rfl rfl d23
theorem oz24:q24.Ok Φ:=okt 24 C9 rfl rfl d24
theorem oz25:q25.Ok Φ:=okt 25 (y7 oz24 C9) rfl rfl d25
theorem oz26:q26.Ok Φ:=okt 26 (y7 oz23 (y7 oz25 C9)) rfl rfl d26
theorem oz29:q29.Ok Φ:=okt 29 C9 rfl rfl d29
theorem oz30:q30.Ok Φ:=okt 30 C9 rfl rfl d30
theorem oz42:q42.Ok Φ:=okt 42 C9 rfl rfl d42
theorem oz43:q43.Ok Φ:=okt 43 (y7 oz29 (y7 oz42 (y7 oz30 C9))) rfl rfl d43
theorem oz44:q44.Ok Φ:=okt 44 (y7 oz43 C9) rfl rfl d44
theorem oz113:q113.Ok Φ:=okt 113 C9 rfl rfl d113
theorem oz114:q114.Ok Φ:=okt 114 (y7 oz25 (y7 oz113 C9)) rfl rfl d114
theorem bC0:q18.Ok Φ:=T5 rN0 (List.mem_of_getElem? (i:=18) rfl) fun x r hx=>Good.memo (by decide) (mz0 (t:=73) (elem:=75) hT Tryz.func92 (by kernel_rfl) (by kernel_rfl) (by kernel_rfl) (by kernel_rfl) (by kernel_rfl) hx)
theorem K4:q27.Ok Φ:=T5 rN0 (List.mem_of_getElem? (i:=27) rfl) fun x r hx=>by
  have hx:(bif decide (x.2.1=2)then du0 (fun a b=>T4 (a,b)) x.1 else none)=some r:=hx;cases hc:decide (x.2.1=2)with
  | false=>rw[hc]at hx;cases hx
  | true=>rw[hc]at hx;have e:x.2.1=2:=of_decide_eq_true hc;have:=ji0 sortSeg rfl Tryz.func130 (by kernel_rfl) (by kernel_rfl) (by decide) rfl rfl (kg0 (z:=2) hT (by kernel_rfl)).1 (kg0 (z:=2) hT (by kernel_rfl)).2 Tryz.func131 (by kernel_rfl) (by kernel_rfl) (cl:=.nil) x.2.2 (fun a _ b _ v hv=>gN0 oz26 (by decide) (x:=(a,b)) (r:=v) hv) hx;refine Good.sort (g:=130) ?_;have e2:y9 q27.dom x=[enc (.sl _) x.1,.sc (.int .i64 x.2.1),.fn (.func 131) [] (y9 .nil x.2.2)]:=rfl;rw[e2,e];exact this
theorem Q6:q45.Ok Φ:=T5 rN0 (List.mem_of_getElem? (i:=45) rfl) fun x r hx=>by
  have hx:(bif decide (x.2.1=1)then du0 (fun a b=>I4 (a,b,x.2.2.1,x.2.2.2)) x.1 else none)=some r:=hx;cases hc:decide (x.2.1=1)with
  | false=>rw[hc]at hx;cases hx
  | true=>rw[hc]at hx;have e:x.2.1=1:=of_decide_eq_true hc;have:=pT0 sortInt rfl Tryz.func150 (by kernel_rfl) (by kernel_rfl) rfl Tryz.func151 (by kernel_rfl) (by kernel_rfl) (cl:=(.cons (.ptr (.cons sI (.cons sI (.one sI)))) (.one (.ptr (.one (.fmap (.cons sI (.one (.agg (.cons sI (.one sI))))))))))) x.2.2 (fun a _ b _ v hv=>gN0 oz44 (by decide) (x:=(a,b,x.2.2.1,x.2.2.2)) (r:=v) hv) hx;refine Good.sort (g:=150) ?_;have e2:y9 q45.dom x=[enc (.sl _) x.1,.sc (.int .i64 x.2.1),.fn (.func 151) [] (y9 (.cons (.ptr (.cons sI (.cons sI (.one sI)))) (.one (.ptr (.one (.fmap (.cons sI (.one (.agg (.cons sI (.one sI)))))))))) x.2.2)]:=rfl;rw[e2,e];exact this
theorem fx0:q48.Ok Φ:=T5 rN0 (List.mem_of_getElem? (i:=48) rfl) fun x r hx=>Good.sort (g:=119) (pu0 sortAsc rfl Tryz.func119 (by kernel_rfl) (by kernel_rfl) hx)
theorem eV0:q69.Ok Φ:=T5 rN0 (List.mem_of_getElem? (i:=69) rfl) fun x r hx=>Good.memo (by decide) (pB0 conts rfl Tryz.func89 (by kernel_rfl) (by kernel_rfl) rfl (m:=Mx.n) rfl hx)
theorem eE0:q84.Ok Φ:=T5 rN0 (List.mem_of_getElem? (i:=84) rfl) fun x r hx=>Good.memo (by decide) (nk0 (t:=24) (elem:=3) hT Tryz.func94 (by kernel_rfl) (by kernel_rfl) (by kernel_rfl) (by kernel_rfl) (by kernel_rfl) hx)
theorem le0:q104.Ok Φ:=T5 rN0 (List.mem_of_getElem? (i:=104) rfl) fun x r hx=>Good.memo (by decide) (pr0 (run_callFunc_extern Tryz.func110 (by kernel_rfl) (by kernel_rfl) (by kernel_rfl) (by kernel_rfl)) hx)
theorem H4:q115.Ok Φ:=T5 rN0 (List.mem_of_getElem? (i:=115) rfl) fun x r hx=>by
  have hx:(bif decide (x.2.1=4)then du0 (fun a b=>F1 (a,b)) x.1 else none)=some r:=hx;cases hc:decide (x.2.1=4)with
  | false=>rw[hc]at hx;cases hx
  | true=>rw[hc]at hx;have e:x.2.1=4:=of_decide_eq_true hc;have:=ji0 sortVio rfl Tryz.func24 (by kernel_rfl) (by kernel_rfl) (by decide) rfl rfl (kg0 (z:=4) hT (by kernel_rfl)).1 (kg0 (z:=4) hT (by kernel_rfl)).2 Tryz.func25 (by kernel_rfl) (by kernel_rfl) (cl:=.nil) x.2.2 (fun a _ b _ v hv=>gN0 oz114 (by decide) (x:=(a,b)) (r:=v) hv) hx;refine Good.sort (g:=24) ?_;have e2:y9 q115.dom x=[enc (.sl _) x.1,.sc (.int .i64 x.2.1),.fn (.func 25) [] (y9 .nil x.2.2)]:=rfl;rw[e2,e];exact this
theorem br0:mH0 T F (fun _=>none) 1000000 7 []=some (.sc (.bool true)):=by kernel_rfl
theorem cv0:q120.Ok Φ:=T5 rN0 (List.mem_of_getElem? (i:=120) rfl) fun x r hx=>Good.memo (by decide) (by
  have e:r=true:=(Option.some.inj (hx:some true=some r)).symm;subst e;exact oS0 hT hF hmix (fun f g hg=>by cases hg) br0)
theorem hand:Hand:=⟨bC0,K4,Q6,fx0,eV0,eE0,le0,H4,cv0⟩
end Go.Proofs.YtlnpfkdodfgdcaaGreatDoor
