/- A part of the proof; its readable source lies in wip of the prover's repo (squeezed here for the limit of bytes). -/
import Derived.Test.YtmbcpilmoecnnaaGreatDoorMc
import Derived.Test.YtmbcpilmoecnnaaGreatDoorMb
import Derived.Test.YtmbcpilmoecnnaaGreatDoorDen
import Derived.Test.YtmbcpilmoecnnaaGreatDoorShelf
import Derived.Laws.Externs
set_option linter.all false
open Decidable renaming decide->No
open Option renaming some->Z,none->W
namespace Go.Proofs.YtmbcpilmoecnnaaGreatDoor
open Go Go.Ab Go.Proofs
set_option maxRecDepth 100000
variable [zv]
def bE5:Ki.Ok Φ:=eu 18 Ki ea [] [] [b5 0 2] 2
def bE6:Kj.Ok Φ:=eu 19 Kj (m7 bE5 ea) [] [] [b5 0 2] 2
def bE7:Kk.Ok Φ:=eu 20 Kk ea [] [] [y 0] 1
def OX:Kl.Ok Φ:=eu 21 Kl (m7 bE7 ea) [] [] [y 0,y 1] 2
def bE8:Km.Ok Φ:=eu 22 Km (m7 bE6 (m7 OX ea)) [] [] [b5 0 2,b5 2 2] 4
def bE9:Ko.Ok Φ:=eu 25 Ko ea [(2,z41)] [(537002055,⟨1,up [] 30 [(0,[y 0]),(2,[dd]),(5,[y 0,y 1,y 2])],[],4⟩)] [y 0] 1
def bF0:Kp.Ok Φ:=eu 26 Kp ea [] [] [b5 0 2,b5 2 2,b5 4 2] 6
def bF1:Kq.Ok Φ:=eu 38 Kq ea [] [] [b5 0 2,b5 2 2] 4
def bF2:Kr.Ok Φ:=eu 39 Kr (m7 bE9 (m7 bF1 (m7 bF0 ea))) [] [] [b5 0 2,b5 2 2,b5 4 2] 6
def bF3:Ks.Ok Φ:=eu 40 Ks (m7 bF2 ea) [] [] [y 0,y 1,pH 2 3,.fT [y 5]] 6
def bF4:Kv.Ok Φ:=eu 88 Kv (m7 OX ea) [] [] [b5 0 4,b5 4 4] 8
def bF5:Kx.Ok Φ:=eu 91 Kx (m7 OX ea) [] [] [b5 0 3,b5 3 3] 6
def bh9:Pf.Ok Φ:=tK uc (List.mem_of_getElem? (i:=14) rfl) λx r hx=>Good.row (g:=45) (bH0 (t:=46) (elem:=45) cb Tryz.func45 (by kernel_rfl) (by kernel_rfl) (by kernel_rfl) (by kernel_rfl) (by kernel_rfl) (by kernel_rfl) hx)
def bd3:Kn.Ok Φ:=tK uc (List.mem_of_getElem? (i:=23) rfl) λx r hx=>by
  have hx:(bif No (x.2.1=2)then rE (λa b=>Iw (a,b)) x.1 else W)=Z r:=hx;cases hc:No (x.2.1=2)with
  |false=>rw[hc]at hx;cases hx
  |true=>rw[hc]at hx;have e:x.2.1=2:=of_decide_eq_true hc;have:=NL bN7 rfl Tryz.func248 (by kernel_rfl) (by kernel_rfl) (by decide) rfl rfl (zY (z:=2) cb (by kernel_rfl)).1 (zY (z:=2) cb (by kernel_rfl)).2 Tryz.func249 (by kernel_rfl) (by kernel_rfl) (cl:=.nil) x.2.2 (λa _ b _ v hv=>F5 bE8 (by decide) (x:=(a,b)) (r:=v) hv) hx;refine Good.sort (g:=248) ?_;have e2:a6 Kn.mW x=[enc (.hF _) x.1,.b4 (.int .i64 x.2.1),.fn (.func 249) [] (a6 .nil x.2.2)]:=rfl;rw[e2,e];exact this
def be4:Kt.Ok Φ:=tK uc (List.mem_of_getElem? (i:=41) rfl) λx r hx=>by
  have hx:(bif No (x.2.1=1)then rE (λa b=>Bf (a,b,x.2.2.1,x.2.2.2)) x.1 else W)=Z r:=hx;cases hc:No (x.2.1=1)with
  |false=>rw[hc]at hx;cases hx
  |true=>rw[hc]at hx;have e:x.2.1=1:=of_decide_eq_true hc;have:=bX1 sortInt rfl Tryz.func215 (by kernel_rfl) (by kernel_rfl) rfl Tryz.func216 (by kernel_rfl) (by kernel_rfl) (cl:=(.cons (.ptr (.cons fk (.cons fk (.one fk)))) (.one (.ptr (.one (.rH (.cons fk (.one (.agg (.cons fk (.one fk))))))))))) x.2.2 (λa _ b _ v hv=>F5 bF3 (by decide) (x:=(a,b,x.2.2.1,x.2.2.2)) (r:=v) hv) hx;refine Good.sort (g:=215) ?_;have e2:a6 Kt.mW x=[enc (.hF _) x.1,.b4 (.int .i64 x.2.1),.fn (.func 216) [] (a6 (.cons (.ptr (.cons fk (.cons fk (.one fk)))) (.one (.ptr (.one (.rH (.cons fk (.one (.agg (.cons fk (.one fk)))))))))) x.2.2)]:=rfl;rw[e2,e];exact this
def bm4:Pp.Ok Φ:=tK uc (List.mem_of_getElem? (i:=44) rfl) λx r hx=>Good.sort (g:=162) (bV2 bM9 rfl Tryz.func162 (by kernel_rfl) (by kernel_rfl) hx)
def bl0:Pt.Ok Φ:=tK uc (List.mem_of_getElem? (i:=65) rfl) λx r hx=>Good.w4 (by decide) (bV3 bf4 rfl Tryz.func117 (by kernel_rfl) (by kernel_rfl) rfl (m:=zv.n) rfl hx)
def bj7:Pu.Ok Φ:=tK uc (List.mem_of_getElem? (i:=83) rfl) λx r hx=>Good.row (g:=44) (bH1 (t:=22) (elem:=50) cb Tryz.func44 (by kernel_rfl) (by kernel_rfl) (by kernel_rfl) (by kernel_rfl) (by kernel_rfl) (by kernel_rfl) hx)
def bl1:Pv.Ok Φ:=tK uc (List.mem_of_getElem? (i:=84) rfl) λx r hx=>Good.row (g:=46) (bI7 (t:=24) (elem:=3) cb Tryz.func46 (by kernel_rfl) (by kernel_rfl) (by kernel_rfl) (by kernel_rfl) (by kernel_rfl) (by kernel_rfl) hx)
def bh4:Pw.Ok Φ:=tK uc (List.mem_of_getElem? (i:=85) rfl) λx r hx=>Good.sort (g:=48) (ca5 bJ0 rfl Tryz.func48 (by kernel_rfl) (by kernel_rfl) (zY (z:=2) cb (by kernel_rfl)).1 (zY (z:=2) cb (by kernel_rfl)).2 hx)
def bc9:Kw.Ok Φ:=tK uc (List.mem_of_getElem? (i:=89) rfl) λx r hx=>by
  have hx:(bif No (x.2.1=4)then rE (λa b=>Im (a,b)) x.1 else W)=Z r:=hx;cases hc:No (x.2.1=4)with
  |false=>rw[hc]at hx;cases hx
  |true=>rw[hc]at hx;have e:x.2.1=4:=of_decide_eq_true hc;have:=NL bN5 rfl Tryz.func84 (by kernel_rfl) (by kernel_rfl) (by decide) rfl rfl (zY (z:=4) cb (by kernel_rfl)).1 (zY (z:=4) cb (by kernel_rfl)).2 Tryz.func85 (by kernel_rfl) (by kernel_rfl) (cl:=.nil) x.2.2 (λa _ b _ v hv=>F5 bF4 (by decide) (x:=(a,b)) (r:=v) hv) hx;refine Good.sort (g:=84) ?_;have e2:a6 Kw.mW x=[enc (.hF _) x.1,.b4 (.int .i64 x.2.1),.fn (.func 85) [] (a6 .nil x.2.2)]:=rfl;rw[e2,e];exact this
def bc5:Ky.Ok Φ:=tK uc (List.mem_of_getElem? (i:=92) rfl) λx r hx=>by
  have hx:(bif No (x.2.1=3)then rE (λa b=>HT (a,b)) x.1 else W)=Z r:=hx;cases hc:No (x.2.1=3)with
  |false=>rw[hc]at hx;cases hx
  |true=>rw[hc]at hx;have e:x.2.1=3:=of_decide_eq_true hc;have:=NL bN3 rfl Tryz.func51 (by kernel_rfl) (by kernel_rfl) (by decide) rfl rfl (zY (z:=3) cb (by kernel_rfl)).1 (zY (z:=3) cb (by kernel_rfl)).2 Tryz.func52 (by kernel_rfl) (by kernel_rfl) (cl:=.nil) x.2.2 (λa _ b _ v hv=>F5 bF5 (by decide) (x:=(a,b)) (r:=v) hv) hx;refine Good.sort (g:=51) ?_;have e2:a6 Ky.mW x=[enc (.hF _) x.1,.b4 (.int .i64 x.2.1),.fn (.func 52) [] (a6 .nil x.2.2)]:=rfl;rw[e2,e];exact this
def bI1:Pe.Ok Φ:=tK uc (List.mem_of_getElem? (i:=105) rfl) λx r hx=>Good.w4 (by decide) (bU9 (run_callFunc_extern Tryz.func110 (by kernel_rfl) (by kernel_rfl) (by kernel_rfl) (by kernel_rfl)) hx)
theorem hand:Hand:=⟨bh9,bd3,be4,bm4,bl0,bj7,bl1,bh4,bc9,bc5,bI1⟩
end Go.Proofs.YtmbcpilmoecnnaaGreatDoor
