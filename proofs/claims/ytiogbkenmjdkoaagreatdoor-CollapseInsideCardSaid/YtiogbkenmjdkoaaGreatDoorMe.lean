/- A part of the proof; its readable source lies in wip of the prover's repo (squeezed here for the limit of bytes). -/
import Derived.Test.YtiogbkenmjdkoaaGreatDoorMd
import Derived.Test.YtiogbkenmjdkoaaGreatDoorMc
import Derived.Shelf.Strings.Search3
set_option linter.all false
open Array renaming range->bf
open Bool renaming and_assoc->ku,and_eq_true->ab,false_eq_true->aq,false_or->dt,not_false->aW,not_true->ax,true_and->dX,true_eq_false->jA,true->IN,false->IS
open ByteArray renaming mk->dj
open Decidable renaming decide->IT
open Go.IntKind renaming i32->kr,i64->aa,u64->cA,u8->eI
open Go.Lib renaming bitLen->eU
open Go.Shelf renaming Ren->eV
open Go.Value.int renaming injEq->gz
open Int renaming le_of_lt->dm,le_total->kZ,mul_nonneg->aK,mul_pos->cH,natAbs_mul->kG,pos_of_mul_pos_right->bZ,toNat_natCast->dG
open List renaming all_cons->cE,all_eq_true->ak,all_nil->ij,append_nil->cM,drop_eq_getElem_cons->bN,drop_length->jV,drop_zero->gB,filter_cons->bw,find?_some->dI,foldl->bh,foldl_append->g_,getElem?_cons_succ->aM,getElem?_eq_getElem->ae,getElem?_map->aX,getElem_mem->au,idxOf_lt_length_iff->iB,length->eT,length_append->aT,length_cons->aA,length_drop->eY,length_filter_le->cV,length_map->aF,length_nil->bL,map_append->cL,map_cons->ay,map_nil->bO,mem_append->aO,mem_cons->aI,mem_flatMap->cY,mem_flatten->br,mem_map->aP,mem_map_of_mem->aC,mem_of_find?_eq_some->bj,mem_of_getElem?->aJ,mem_of_mem_drop->bn,mem_or_eq_of_mem_set->cO,mem_singleton->aG,nil_append->bq,not_mem_nil->iA,pairwise_cons->ba,range->bo,sum_cons->db,tail_cons->gg,take_length->cB
open List.Pairwise renaming cons->kO,nil->gJ
open List.cons renaming injEq->cG
open Nat renaming le_trans->bI,lt_of_lt_of_le->ed,mod_lt->gV,mul_le_mul->kF,mul_le_mul_left->gr,zero_add->aN,zero_le->dq
open Option renaming getD->gM,map_some->aj,some->U,none->No
open Option.some renaming injEq->ai
namespace Go.Ab
noncomputable section
open Go
variable [Fuel]
def DL:ma->Option ((Int×Int×Int×Int)):=λx=>bif IT (((x).length:Int)=0)then U (0,0,(-1),(-1))else a8 (nth x 0) λv3=>a8 (nth x 0) λv5=>a8 (nth x 0) λd=>a8 (nth x 0) λv9=>rounds (α:=Int×Int×Int×Int×Int) (β:=(Int×Int×Int×Int)) (λb a=>bif IT (a.1<((x).length:Int))then a8 (nth x a.1) λc=>a8 (nth x a.1) λv22=>a8 (nth x a.1) λv25=>a8 (nth x a.1) λv28=>b ((aa.wrap (a.1+1)),(bh s8 a.2.1 [c.1]),(bh s8 a.2.2.1 [v22.2]),(bh py a.2.2.2.1 [v25.1]),(bh py a.2.2.2.2 [v28.2]))else U (a.2.1,a.2.2.1,a.2.2.2.1,a.2.2.2.2)) (1,v3.1,v5.2,d.1,v9.2)
def DP:oE->Option (Bool):=λx=>bif IT ((30:Int)<((x.1).length:Int))then U IS else bif IT ((30:Int)<((x.2.1).length:Int))then U IS else bif IT ((30:Int)<((x.2.2).length:Int))then U IS else rounds (α:=ma×Int) (β:=Bool) (λf c=>bif IT (c.2<((x.1).length:Int))then a8 (nth x.1 c.2) λd=>a8 (la 16 c.1 [(d.2.1,d.2.2)]) λv17=>f (v17,(aa.wrap (c.2+1)))else rounds (α:=ma×Int) (β:=Bool) (λe b=>bif IT (b.2<((x.2.1).length:Int))then a8 (nth x.2.1 b.2) λv20=>bif IT ((180:Int)<(aa.wrap (((b.1).length:Int)+((v20.2.2.2.1).length:Int))))then U IS else a8 (nth x.2.1 b.2) λv29=>a8 (la 16 b.1 v29.2.2.2.1) λv35=>e (v35,(aa.wrap (b.2+1)))else a8 (U ()) λa=>a8 (DL b.1) λa=>bif IT ((-1073741824)<=a.1)then bif IT ((-1073741824)<=a.2.1)then bif IT (a.2.2.1<=1073741824)then bif IT (a.2.2.2<=1073741824)then bif IT ((aa.wrap (a.2.2.1-a.1))<=3000)then U (IT ((aa.wrap (a.2.2.2-a.2.1))<=3000))else U IS else U IS else U IS else U IS else U IS) (c.1,0)) (([]:List (Int×Int)),0)
def DQ:ov->Option (Bool):=λx=>a8 (DP (x.1,x.2.1,x.2.2.1)) λv4=>bif !(v4)then U IS else bif IT ((20:Int)<((x.2.2.2).length:Int))then U IS else rounds (α:=Int) (β:=Bool) (λc a=>bif IT (a<((x.2.2.2).length:Int))then a8 (nth x.2.2.2 a) λv12=>bif IT ((40:Int)<((v12.2.2.2.2).length:Int))then U IS else a8 (nth x.2.2.2 a) λb=>bif IT ((100:Int)<((b.2.2.2.1).size:Int))then U IS else c (aa.wrap (a+1))else U IN) 0
def GD:Int×Int->Option (ma):=λx=>U [((aa.wrap (x.1+x.2)),x.1),((aa.wrap (x.1+x.2)),(aa.wrap (x.1+x.2))),(x.1,(aa.wrap (x.1+x.2)))]
def Lf:Unit->Option (ov):=λx=>a8 (GD (0,10)) λv0=>a8 (GD (2,2)) λv1=>U ([(1,0,0),(2,2,2)],[(1,1,1,v0,1,0),(2,2,2,v1,2,1)],[1,2],[(5,5,1,(dj #[]),[1]),(6,6,2,(dj #[]),[2])])
def D0:oE->Option ((List Int×List Int)):=λx=>rounds (α:=List Int×Int) (β:=(List Int×List Int)) (λe a=>bif IT (a.2<((x.1).length:Int))then a8 (nth x.1 a.2) λf=>a8 (la 8 a.1 [f.1]) λv11=>e (v11,(aa.wrap (a.2+1)))else rounds (α:=List Int×Int) (β:=(List Int×List Int)) (λg b=>bif IT (b.2<((x.2.1).length:Int))then a8 (nth x.2.1 b.2) λc=>a8 (la 8 b.1 [c.1]) λd=>g (d,(aa.wrap (b.2+1)))else U (a.1,b.1)) (([]:List (Int)),0)) (([]:List (Int)),0)
def Ad:List Int->Option (Bool):=λx=>rounds (α:=Int) (β:=Bool) (λb a=>bif IT (a<((x).length:Int))then a8 (nth x (aa.wrap (a-1))) λv6=>a8 (nth x a) λc=>bif IT (c<=v6)then U IS else b (aa.wrap (a+1))else U IN) 1
def D5:Int->Option (Bool):=λx=>bif IT (x<1)then U IN else U (IT (1073741824<x))
def Gv:List Int×(Unit)->Option (Bool):=λx=>rounds (α:=Int) (β:=Bool) (λb a=>bif IT (a<((x.1).length:Int))then a8 (nth x.1 a) λv5=>a8 (D5 v5) λv6=>bif v6 then U (IT (0<=a))else b (aa.wrap (a+1))else U IS) 0
def Af:List Int->Option (Bool):=λx=>a8 (Gv (x,())) λv1=>U (!(v1))
def Ag:(Int×Int)->Option (Bool):=λx=>bif IT (x.1<(-1048576))then U IN else bif IT (1048576<x.1)then U IN else bif IT (x.2<(-1048576))then U IN else U (IT (1048576<x.2))
def Gn:ma×(Unit)->Option (Bool):=λx=>rounds (α:=Int) (β:=Bool) (λb a=>bif IT (a<((x.1).length:Int))then a8 (nth x.1 a) λv5=>a8 (Ag (v5.1,v5.2)) λc=>bif c then U (IT (0<=a))else b (aa.wrap (a+1))else U IS) 0
def ED:oE->Option (Bool):=λx=>rounds (α:=Int) (β:=Bool) (λd a=>bif IT (a<((x.1).length:Int))then a8 (nth x.1 a) λc=>a8 (Ag (c.2.1,c.2.2)) λv10=>bif v10 then U IS else d (aa.wrap (a+1))else rounds (α:=Int) (β:=Bool) (λe b=>bif IT (b<((x.2.1).length:Int))then a8 (nth x.2.1 b) λv11=>a8 (Gn (v11.2.2.2.1,())) λv17=>bif v17 then U IS else e (aa.wrap (b+1))else U IN) 0) 0
def yv:List Int×Int->Option (Int):=λx=>rounds (α:=Int) (β:=Int) (λb a=>bif IT (a<((x.1).length:Int))then a8 (nth x.1 a) λv6=>bif IT (x.2=v6)then U a else b (aa.wrap (a+1))else U (-1)) 0
def rL:List Int×Int->Option (Bool):=λx=>a8 (yv (x.1,x.2)) λv2=>U (IT (0<=v2))
def D6:oE×List Int->Option (Int):=λx=>rounds (α:=Int) (β:=Int) (λh d=>bif IT (d<((x.1.1).length:Int))then a8 (nth x.1.1 d) λg=>a8 (xg x.1.1 No (U d)) λv11=>rounds (α:=Int) (β:=Int) (λc a=>bif IT (a<((v11).length:Int))then a8 (nth v11 a) λb=>bif IT (g.2.1=b.2.1)&&IT (g.2.2=b.2.2)then U 8 else c (aa.wrap (a+1))else h (aa.wrap (d+1))) 0 else rounds (α:=Int) (β:=Int) (λi e=>bif IT (e<((x.1.2.1).length:Int))then a8 (nth x.1.2.1 e) λv12=>a8 (rL (x.2,v12.2.1)) λf=>bif !(f)then U 7 else a8 (rL (x.2,v12.2.2.1)) λv20=>bif !(v20)then U 7 else i (aa.wrap (e+1))else rounds (α:=Int) (β:=Int) (λc a=>bif IT (a<((x.1.2.1).length:Int))then a8 (nth x.1.2.1 a) λb=>bif !decide (b.2.2.2.2.1=0)then a8 (rL (x.1.2.2,b.2.2.2.2.1)) λv23=>bif !(v23)then U 12 else bif !decide (b.2.2.2.2.2=0)then a8 (rL (x.1.2.2,b.2.2.2.2.2)) λv26=>bif !(v26)then U 12 else c (aa.wrap (a+1))else c (aa.wrap (a+1))else bif !decide (b.2.2.2.2.2=0)then a8 (rL (x.1.2.2,b.2.2.2.2.2)) λv24=>bif !(v24)then U 12 else c (aa.wrap (a+1))else c (aa.wrap (a+1))else U 0) 0) 0) 0
def yU:oE×Int->Option ((D_×Bool)):=λx=>rounds (α:=Int) (β:=(D_×Bool)) (λd b=>bif IT (b<((x.1.2.1).length:Int))then a8 (nth x.1.2.1 b) λa=>bif IT (a.1=x.2)then a8 (Dn a.2.2.2.1) λc=>U ((a.1,a.2.1,a.2.2.1,c,a.2.2.2.2.1,a.2.2.2.2.2),IN)else d (aa.wrap (b+1))else U ((0,0,0,([]:List (Int×Int)),0,0),IS)) 0
def wC:oE×Int->Option (((Int×Int×Int)×Bool)):=λx=>rounds (α:=Int) (β:=((Int×Int×Int)×Bool)) (λc b=>bif IT (b<((x.1.1).length:Int))then a8 (nth x.1.1 b) λa=>bif IT (a.1=x.2)then U ((a.1,a.2.1,a.2.2),IN)else c (aa.wrap (b+1))else U ((0,0,0),IS)) 0
def vo:oE×Int->Option ((ma×Int)):=λx=>a8 (yU ((x.1.1,x.1.2.1,x.1.2.2),x.2)) λv4=>a8 (wC ((x.1.1,x.1.2.1,x.1.2.2),v4.1.2.1)) λv11=>a8 (wC ((x.1.1,x.1.2.1,x.1.2.2),v4.1.2.2.1)) λa=>bif !(v4.2)then U (([]:List (Int×Int)),7)else bif !(v11.2)then U (([]:List (Int×Int)),7)else bif !(a.2)then U (([]:List (Int×Int)),7)else a8 (U (aa.wrap (1+((v4.1.2.2.2.1).length:Int)))) λv23=>bif IT (v23<0)then No else a8 (U (aa.wrap (v23+1))) λv25=>bif IT (v25<0)then No else bif IT (v25<0)then No else a8 (U (aa.wrap (v25-0))) λv28=>bif IT (0<v28)then a8 (yq 16 ((0,0):Int×Int) v28) λv30=>a8 (U ()) λv31=>a8 (la 16 ([]:List (Int×Int)) [(v11.1.2.1,v11.1.2.2)]) λv31=>a8 (la 16 v31 v4.1.2.2.2.1) λv32=>a8 (la 16 v32 [(a.1.2.1,a.1.2.2)]) λv33=>U (v33,0)else a8 (la 16 [(v11.1.2.1,v11.1.2.2)] v4.1.2.2.2.1) λv30=>a8 (la 16 v30 [(a.1.2.1,a.1.2.2)]) λv31=>U (v31,0)
def sJ:((Int×Int×Int×ma×Int×Int×ma)×Int)->Option (((Int×Int)×(Int×Int))):=λx=>a8 (U ()) λv2=>a8 (U x.1) λv2=>a8 (nth v2.2.2.2.2.2.2 x.2) λv9=>a8 (U ()) λv11=>a8 (U x.1) λv11=>a8 (nth v11.2.2.2.2.2.2 (aa.wrap (x.2+1))) λa=>U ((v9.1,v9.2),(a.1,a.2))
def wj:((Int×Int×Int×ma×Int×Int×ma)×Int)->Option (Int):=λx=>a8 (sJ (x.1,x.2)) λv2=>U (bh s8 v2.1.1 [v2.2.1])
def xm:Int->Option (Bool):=λx=>U (!decide (x=x))
def xf:Int×Int->Option (Int):=λx=>a8 (xm x.1) λv2=>a8 (xm x.2) λv3=>bif v2 then bif v3 then U 0 else U (-1)else bif v3 then U 1 else bif IT (x.1<x.2)then U (-1)else bif IT (x.2<x.1)then U 1 else U 0
def Ee:((Int×Int×Int×ma×Int×Int×ma)×Int)×((Int×Int×Int×ma×Int×Int×ma)×Int)->Option (Int):=λx=>a8 (wj (x.1.1,x.1.2)) λv4=>a8 (wj (x.2.1,x.2.2)) λv5=>a8 (xf (v4,v5)) λv6=>U v6
def DK:List ((Int×Int×Int×ma×Int×Int×ma)×Int)×Int×(Unit)->Option (List ((Int×Int×Int×ma×Int×Int×ma)×Int)):=λx=>bif IT (x.2.1=2)then pT (λa b=>Ee (a,b)) x.1 else No
def BS:((Int×Int×Int×ma×Int×Int×ma)×Int)->Option (Int):=λx=>a8 (sJ (x.1,x.2)) λv2=>U (bh py v2.1.1 [v2.2.1])
def wB:ma->Option (Bool):=λx=>rounds (α:=Int) (β:=Bool) (λb a=>bif IT (a<((x).length:Int))then a8 (nth x a) λv5=>bif IT (v5.1<(-2097152))then U IS else bif IT (2097152<v5.1)then U IS else bif IT (v5.2<(-2097152))then U IS else bif IT (2097152<v5.2)then U IS else b (aa.wrap (a+1))else U IN) 0
def yI:(Int×Int)×(Int×Int)×(Int×Int)->Option (Int):=λx=>U (aa.wrap ((aa.wrap ((aa.wrap (x.2.1.1-x.1.1))*(aa.wrap (x.2.2.2-x.1.2))))-(aa.wrap ((aa.wrap (x.2.1.2-x.1.2))*(aa.wrap (x.2.2.1-x.1.1))))))
def nP:(Int×Int)×(Int×Int)×(Int×Int)->Option (Bool):=λx=>a8 (U ()) λv6=>a8 (wB [(x.1.1,x.1.2),(x.2.1.1,x.2.1.2),(x.2.2.1,x.2.2.2)]) λv6=>bif !(v6)then U IS else a8 (yI ((x.1.1,x.1.2),(x.2.1.1,x.2.1.2),(x.2.2.1,x.2.2.2))) λa=>bif !decide (a=0)then U IS else bif IT ((bh s8 x.1.1 [x.2.1.1])<=x.2.2.1)then bif IT (x.2.2.1<=(bh py x.1.1 [x.2.1.1]))then bif IT ((bh s8 x.1.2 [x.2.1.2])<=x.2.2.2)then U (IT (x.2.2.2<=(bh py x.1.2 [x.2.1.2])))else U IS else U IS else U IS
def vf:((Int×Int×Int×ma×Int×Int×ma)×Int)->Option (Bool):=λx=>U (IT (x.2=0))
def tm:((Int×Int×Int×ma×Int×Int×ma)×Int)->Option (Bool):=λx=>a8 (U ()) λv2=>a8 (U x.1) λv2=>U (IT (x.2=(aa.wrap (((v2.2.2.2.2.2.2).length:Int)-2))))
def EM:(Int×Int)×(Int×Int)×(Int×Int)->Option (Int):=λx=>a8 (U ()) λv6=>a8 (wB [(x.1.1,x.1.2),(x.2.1.1,x.2.1.2),(x.2.2.1,x.2.2.2)]) λv6=>bif !(v6)then U 0 else a8 (yI ((x.1.1,x.1.2),(x.2.1.1,x.2.1.2),(x.2.2.1,x.2.2.2))) λa=>U a
def pP:(Int×Int)×(Int×Int)×(Int×Int)->Option (Int):=λx=>a8 (EM ((x.1.1,x.1.2),(x.2.1.1,x.2.1.2),(x.2.2.1,x.2.2.2))) λv6=>bif IT (0<v6)then U 1 else bif IT (v6<0)then U (-1)else U 0
def n_:(Int×Int)×(Int×Int)->Option (Bool):=λx=>bif IT (x.1.1<x.2.1)then U IN else bif IT (x.1.1=x.2.1)then U (IT (x.1.2<x.2.2))else U IS
def B_:(Int×Int)×(Int×Int)×(Int×Int)×(Int×Int)->Option (Int):=λx=>a8 (n_ ((x.2.1.1,x.2.1.2),(x.1.1,x.1.2))) λb=>bif b then a8 (n_ ((x.2.2.2.1,x.2.2.2.2),(x.2.2.1.1,x.2.2.1.2))) λv9=>bif v9 then a8 (n_ ((x.2.1.1,x.2.1.2),(x.2.2.2.1,x.2.2.2.2))) λv10=>bif v10 then a8 (n_ ((x.2.2.1.1,x.2.2.1.2),(x.1.1,x.1.2))) λv11=>bif v11 then bif IT (x.2.2.2.1=x.2.2.1.1)&&IT (x.2.2.2.2=x.2.2.1.2)then U 1 else a8 (n_ ((x.2.2.2.1,x.2.2.2.2),(x.2.2.1.1,x.2.2.1.2))) λa=>bif a then U 2 else U 0 else bif IT (x.2.2.2.1=x.1.1)&&IT (x.2.2.2.2=x.1.2)then U 1 else a8 (n_ ((x.2.2.2.1,x.2.2.2.2),(x.1.1,x.1.2))) λa=>bif a then U 2 else U 0 else a8 (n_ ((x.2.2.1.1,x.2.2.1.2),(x.1.1,x.1.2))) λv11=>bif v11 then bif IT (x.2.1.1=x.2.2.1.1)&&IT (x.2.1.2=x.2.2.1.2)then U 1 else a8 (n_ ((x.2.1.1,x.2.1.2),(x.2.2.1.1,x.2.2.1.2))) λa=>bif a then U 2 else U 0 else bif IT (x.2.1.1=x.1.1)&&IT (x.2.1.2=x.1.2)then U 1 else a8 (n_ ((x.2.1.1,x.2.1.2),(x.1.1,x.1.2))) λa=>bif a then U 2 else U 0 else a8 (n_ ((x.2.1.1,x.2.1.2),(x.2.2.1.1,x.2.2.1.2))) λv10=>bif v10 then a8 (n_ ((x.2.2.2.1,x.2.2.2.2),(x.1.1,x.1.2))) λv11=>bif v11 then bif IT (x.2.2.1.1=x.2.2.2.1)&&IT (x.2.2.1.2=x.2.2.2.2)then U 1 else a8 (n_ ((x.2.2.1.1,x.2.2.1.2),(x.2.2.2.1,x.2.2.2.2))) λa=>
 bif a then U 2 else U 0 else bif IT (x.2.2.1.1=x.1.1)&&IT (x.2.2.1.2=x.1.2)then U 1 else a8 (n_ ((x.2.2.1.1,x.2.2.1.2),(x.1.1,x.1.2))) λa=>bif a then U 2 else U 0 else a8 (n_ ((x.2.2.2.1,x.2.2.2.2),(x.1.1,x.1.2))) λv11=>bif v11 then bif IT (x.2.1.1=x.2.2.2.1)&&IT (x.2.1.2=x.2.2.2.2)then U 1 else a8 (n_ ((x.2.1.1,x.2.1.2),(x.2.2.2.1,x.2.2.2.2))) λa=>bif a then U 2 else U 0 else bif IT (x.2.1.1=x.1.1)&&IT (x.2.1.2=x.1.2)then U 1 else a8 (n_ ((x.2.1.1,x.2.1.2),(x.1.1,x.1.2))) λa=>bif a then U 2 else U 0 else a8 (n_ ((x.2.2.2.1,x.2.2.2.2),(x.2.2.1.1,x.2.2.1.2))) λv9=>bif v9 then a8 (n_ ((x.1.1,x.1.2),(x.2.2.2.1,x.2.2.2.2))) λv10=>bif v10 then a8 (n_ ((x.2.2.1.1,x.2.2.1.2),(x.2.1.1,x.2.1.2))) λv11=>bif v11 then bif IT (x.2.2.2.1=x.2.2.1.1)&&IT (x.2.2.2.2=x.2.2.1.2)then U 1 else a8 (n_ ((x.2.2.2.1,x.2.2.2.2),(x.2.2.1.1,x.2.2.1.2))) λa=>bif a then U 2 else U 0 else bif IT (x.2.2.2.1=x.2.1.1)&&IT (x.2.2.2.2=x.2.1.2)then U 1 else a8 (n_ ((x.2.2.2.1,x.2.2.2.2),(x.2.1.1,x.2.1.2))) λa=>bif a then U 2 else U 0 else a8 (n_ ((x.2.2.1.1,x.2.2.1.2),(x.2.1.1,x.2.1.2))) λv11=>bif v11 then bif IT (x.1.1=x.2.2.1.1)&&IT (x.1.2=x.2.2.1.2)then U 1 else a8 (n_ ((x.1.1,x.1.2),(x.2.2.1.1,x.2.2.1.2))) λa=>
 bif a then U 2 else U 0 else bif IT (x.1.1=x.2.1.1)&&IT (x.1.2=x.2.1.2)then U 1 else a8 (n_ ((x.1.1,x.1.2),(x.2.1.1,x.2.1.2))) λa=>bif a then U 2 else U 0 else a8 (n_ ((x.1.1,x.1.2),(x.2.2.1.1,x.2.2.1.2))) λv10=>bif v10 then a8 (n_ ((x.2.2.2.1,x.2.2.2.2),(x.2.1.1,x.2.1.2))) λv11=>bif v11 then bif IT (x.2.2.1.1=x.2.2.2.1)&&IT (x.2.2.1.2=x.2.2.2.2)then U 1 else a8 (n_ ((x.2.2.1.1,x.2.2.1.2),(x.2.2.2.1,x.2.2.2.2))) λa=>bif a then U 2 else U 0 else bif IT (x.2.2.1.1=x.2.1.1)&&IT (x.2.2.1.2=x.2.1.2)then U 1 else a8 (n_ ((x.2.2.1.1,x.2.2.1.2),(x.2.1.1,x.2.1.2))) λa=>bif a then U 2 else U 0 else a8 (n_ ((x.2.2.2.1,x.2.2.2.2),(x.2.1.1,x.2.1.2))) λv11=>bif v11 then bif IT (x.1.1=x.2.2.2.1)&&IT (x.1.2=x.2.2.2.2)then U 1 else a8 (n_ ((x.1.1,x.1.2),(x.2.2.2.1,x.2.2.2.2))) λa=>bif a then U 2 else U 0 else bif IT (x.1.1=x.2.1.1)&&IT (x.1.2=x.2.1.2)then U 1 else a8 (n_ ((x.1.1,x.1.2),(x.2.1.1,x.2.1.2))) λa=>bif a then U 2 else U 0
def Cn:(Int×Int)×(Int×Int)×(Int×Int)×(Int×Int)->Option (Int):=λx=>a8 (U ()) λf=>a8 (wB [(x.1.1,x.1.2),(x.2.1.1,x.2.1.2),(x.2.2.1.1,x.2.2.1.2),(x.2.2.2.1,x.2.2.2.2)]) λf=>bif !(f)then U 0 else bif IT (x.1.1=x.2.1.1)&&IT (x.1.2=x.2.1.2)then a8 (nP ((x.2.2.1.1,x.2.2.1.2),(x.2.2.2.1,x.2.2.2.2),(x.1.1,x.1.2))) λv11=>bif v11 then U 1 else U 0 else bif IT (x.2.2.1.1=x.2.2.2.1)&&IT (x.2.2.1.2=x.2.2.2.2)then a8 (nP ((x.1.1,x.1.2),(x.2.1.1,x.2.1.2),(x.2.2.1.1,x.2.2.1.2))) λv12=>bif v12 then U 1 else U 0 else a8 (pP ((x.1.1,x.1.2),(x.2.1.1,x.2.1.2),(x.2.2.1.1,x.2.2.1.2))) λv12=>bif IT (v12=0)then a8 (pP ((x.1.1,x.1.2),(x.2.1.1,x.2.1.2),(x.2.2.2.1,x.2.2.2.2))) λa=>bif IT (a=0)then a8 (B_ ((x.1.1,x.1.2),(x.2.1.1,x.2.1.2),(x.2.2.1.1,x.2.2.1.2),(x.2.2.2.1,x.2.2.2.2))) λb=>U b else a8 (pP ((x.1.1,x.1.2),(x.2.1.1,x.2.1.2),(x.2.2.1.1,x.2.2.1.2))) λb=>a8 (pP ((x.1.1,x.1.2),(x.2.1.1,x.2.1.2),(x.2.2.2.1,x.2.2.2.2))) λv17=>bif IT ((aa.wrap (b*v17))<=0)then a8 (pP ((x.2.2.1.1,x.2.2.1.2),(x.2.2.2.1,x.2.2.2.2),(x.1.1,x.1.2))) λv20=>a8 (pP ((x.2.2.1.1,x.2.2.1.2),(x.2.2.2.1,x.2.2.2.2),(x.2.1.1,x.2.1.2))) λv21=>bif IT ((aa.wrap (v20*v21))<=0)then U 1 else U 0 else U 0 else a8 (pP ((x.1.1,x.1.2),(x.2.1.1,x.2.1.2),(x.2.2.1.1,x.2.2.1.2))) λa=>a8 (pP ((x.1.1,x.1.2),(x.2.1.1,x.2.1.2),(x.2.2.2.1,x.2.2.2.2))) λc=>
 bif IT ((aa.wrap (a*c))<=0)then a8 (pP ((x.2.2.1.1,x.2.2.1.2),(x.2.2.2.1,x.2.2.2.2),(x.1.1,x.1.2))) λd=>a8 (pP ((x.2.2.1.1,x.2.2.1.2),(x.2.2.2.1,x.2.2.2.2),(x.2.1.1,x.2.1.2))) λe=>bif IT ((aa.wrap (d*e))<=0)then U 1 else U 0 else U 0
def BW:((Int×Int×Int×ma×Int×Int×ma)×Int)×((Int×Int×Int×ma×Int×Int×ma)×Int)×List (Int×(Int×Int))->Option (Bool):=λx=>a8 (sJ (x.1.1,x.1.2)) λv5=>a8 (sJ (x.2.1.1,x.2.1.2)) λv9=>a8 (Cn ((v5.1.1,v5.1.2),(v5.2.1,v5.2.2),(v9.1.1,v9.1.2),(v9.2.1,v9.2.2))) λc=>a8 (U ()) λl=>a8 (U x.1.1) λl=>a8 (U ()) λv21=>a8 (U x.2.1.1) λv21=>bif IT (l.1=v21.1)then bif IT (x.2.1.2<x.1.2)then bif IT ((aa.wrap (x.2.1.2+1))=x.1.2)then U (IT (c=1))else a8 (U ()) λv32=>a8 (U x.2.1.1) λv32=>a8 (U ()) λv39=>a8 (U x.2.1.1) λv39=>bif IT (v32.2.1=v39.2.2.1)then a8 (vf (x.2.1.1,x.2.1.2)) λi=>bif i then a8 (tm (x.1.1,x.1.2)) λj=>bif j then U (IT (c=1))else U (IT (c=0))else U (IT (c=0))else U (IT (c=0))else bif IT ((aa.wrap (x.1.2+1))=x.2.1.2)then U (IT (c=1))else a8 (U ()) λv32=>a8 (U x.1.1) λv32=>a8 (U ()) λv39=>a8 (U x.1.1) λv39=>bif IT (v32.2.1=v39.2.2.1)then a8 (vf (x.1.1,x.1.2)) λi=>bif i then a8 (tm (x.2.1.1,x.2.1.2)) λj=>bif j then U (IT (c=1))else U (IT (c=0))else U (IT (c=0))else U (IT (c=0))else bif !decide (c=1)then U (IT (c=0))else a8 (U ()) λv30=>a8 (U x.1.1) λv30=>a8 (U ()) λv37=>a8 (U x.1.1) λv37=>a8 (mH (ff (λ(a b:Int)=>IT (a=b)) v30.2.1 x.2.2) (U (0,0))) λv44=>a8 (U ()) λv46=>
 a8 (U x.2.1.1) λv46=>bif IT (v30.2.1=v46.2.1)then a8 (nP ((v5.1.1,v5.1.2),(v5.2.1,v5.2.2),(v44.1,v44.2))) λv54=>bif v54 then a8 (nP ((v9.1.1,v9.1.2),(v9.2.1,v9.2.2),(v44.1,v44.2))) λv55=>bif v55 then U IN else a8 (mH (ff (λ(a b:Int)=>IT (a=b)) v37.2.2.1 x.2.2) (U (0,0))) λf=>a8 (U ()) λv58=>a8 (U x.2.1.1) λv58=>bif IT (v37.2.2.1=v58.2.1)then a8 (nP ((v5.1.1,v5.1.2),(v5.2.1,v5.2.2),(f.1,f.2))) λv66=>bif v66 then a8 (nP ((v9.1.1,v9.1.2),(v9.2.1,v9.2.2),(f.1,f.2))) λv67=>bif v67 then U IN else U IS else U IS else a8 (U ()) λv66=>a8 (U x.2.1.1) λv66=>bif IT (v37.2.2.1=v66.2.2.1)then a8 (nP ((v5.1.1,v5.1.2),(v5.2.1,v5.2.2),(f.1,f.2))) λd=>bif d then a8 (nP ((v9.1.1,v9.1.2),(v9.2.1,v9.2.2),(f.1,f.2))) λv75=>bif v75 then U IN else U IS else U IS else U IS else a8 (mH (ff (λ(a b:Int)=>IT (a=b)) v37.2.2.1 x.2.2) (U (0,0))) λv55=>a8 (U ()) λv57=>a8 (U x.2.1.1) λv57=>bif IT (v37.2.2.1=v57.2.1)then a8 (nP ((v5.1.1,v5.1.2),(v5.2.1,v5.2.2),(v55.1,v55.2))) λh=>bif h then a8 (nP ((v9.1.1,v9.1.2),(v9.2.1,v9.2.2),(v55.1,v55.2))) λv66=>bif v66 then U IN else U IS else U IS else a8 (U ()) λh=>a8 (U x.2.1.1) λh=>bif IT (v37.2.2.1=h.2.2.1)then a8 (nP ((v5.1.1,v5.1.2),(v5.2.1,v5.2.2),(v55.1,v55.2))) λg=>
 bif g then a8 (nP ((v9.1.1,v9.1.2),(v9.2.1,v9.2.2),(v55.1,v55.2))) λd=>bif d then U IN else U IS else U IS else U IS else a8 (U ()) λv54=>a8 (U x.2.1.1) λv54=>bif IT (v30.2.1=v54.2.2.1)then a8 (nP ((v5.1.1,v5.1.2),(v5.2.1,v5.2.2),(v44.1,v44.2))) λe=>bif e then a8 (nP ((v9.1.1,v9.1.2),(v9.2.1,v9.2.2),(v44.1,v44.2))) λv63=>bif v63 then U IN else a8 (mH (ff (λ(a b:Int)=>IT (a=b)) v37.2.2.1 x.2.2) (U (0,0))) λv64=>a8 (U ()) λv66=>a8 (U x.2.1.1) λv66=>bif IT (v37.2.2.1=v66.2.1)then a8 (nP ((v5.1.1,v5.1.2),(v5.2.1,v5.2.2),(v64.1,v64.2))) λd=>bif d then a8 (nP ((v9.1.1,v9.1.2),(v9.2.1,v9.2.2),(v64.1,v64.2))) λv75=>bif v75 then U IN else U IS else U IS else a8 (U ()) λd=>a8 (U x.2.1.1) λd=>bif IT (v37.2.2.1=d.2.2.1)then a8 (nP ((v5.1.1,v5.1.2),(v5.2.1,v5.2.2),(v64.1,v64.2))) λv82=>bif v82 then a8 (nP ((v9.1.1,v9.1.2),(v9.2.1,v9.2.2),(v64.1,v64.2))) λm=>bif m then U IN else U IS else U IS else U IS else a8 (mH (ff (λ(a b:Int)=>IT (a=b)) v37.2.2.1 x.2.2) (U (0,0))) λv63=>a8 (U ()) λh=>a8 (U x.2.1.1) λh=>bif IT (v37.2.2.1=h.2.1)then a8 (nP ((v5.1.1,v5.1.2),(v5.2.1,v5.2.2),(v63.1,v63.2))) λg=>bif g then a8 (nP ((v9.1.1,v9.1.2),(v9.2.1,v9.2.2),(v63.1,v63.2))) λd=>bif d then U IN else U IS else U IS else a8 (U ()) λg=>
 a8 (U x.2.1.1) λg=>bif IT (v37.2.2.1=g.2.2.1)then a8 (nP ((v5.1.1,v5.1.2),(v5.2.1,v5.2.2),(v63.1,v63.2))) λk=>bif k then a8 (nP ((v9.1.1,v9.1.2),(v9.2.1,v9.2.2),(v63.1,v63.2))) λv82=>bif v82 then U IN else U IS else U IS else U IS else a8 (mH (ff (λ(a b:Int)=>IT (a=b)) v37.2.2.1 x.2.2) (U (0,0))) λe=>a8 (U ()) λv64=>a8 (U x.2.1.1) λv64=>bif IT (v37.2.2.1=v64.2.1)then a8 (nP ((v5.1.1,v5.1.2),(v5.2.1,v5.2.2),(e.1,e.2))) λv72=>bif v72 then a8 (nP ((v9.1.1,v9.1.2),(v9.2.1,v9.2.2),(e.1,e.2))) λg=>bif g then U IN else U IS else U IS else a8 (U ()) λv72=>a8 (U x.2.1.1) λv72=>bif IT (v37.2.2.1=v72.2.2.1)then a8 (nP ((v5.1.1,v5.1.2),(v5.2.1,v5.2.2),(e.1,e.2))) λv80=>bif v80 then a8 (nP ((v9.1.1,v9.1.2),(v9.2.1,v9.2.2),(e.1,e.2))) λk=>bif k then U IN else U IS else U IS else U IS
def EA:oE->Option (Bool):=λx=>rounds (α:=List ((Int×Int×Int×ma×Int×Int×ma)×Int)×Int) (β:=Bool) (λB o=>bif IT (o.2<((x.2.1).length:Int))then a8 (nth x.2.1 o.2) λf=>a8 (vo ((x.1,x.2.1,x.2.2),f.1)) λd=>bif !decide (d.2=0)then U IS else bif IT (f.2.1=f.2.2.1)then bif IT (((d.1).length:Int)<4)then U IS else rounds (α:=List ((Int×Int×Int×ma×Int×Int×ma)×Int)×Int) (β:=Bool) (λs g=>bif IT (g.2<(aa.wrap (((d.1).length:Int)-1)))then a8 (nth d.1 g.2) λv26=>a8 (nth d.1 (aa.wrap (g.2+1))) λv29=>bif IT (v26.1=v29.1)&&IT (v26.2=v29.2)then U IS else a8 (la 16 g.1 [((f.1,f.2.1,f.2.2.1,f.2.2.2.1,f.2.2.2.2.1,f.2.2.2.2.2,d.1),g.2)]) λv32=>s (v32,(aa.wrap (g.2+1)))else B (g.1,(aa.wrap (o.2+1)))) (o.1,0)else rounds (α:=List ((Int×Int×Int×ma×Int×Int×ma)×Int)×Int) (β:=Bool) (λt h=>bif IT (h.2<(aa.wrap (((d.1).length:Int)-1)))then a8 (nth d.1 h.2) λv24=>a8 (nth d.1 (aa.wrap (h.2+1))) λv27=>bif IT (v24.1=v27.1)&&IT (v24.2=v27.2)then U IS else a8 (la 16 h.1 [((f.1,f.2.1,f.2.2.1,f.2.2.2.1,f.2.2.2.2.1,f.2.2.2.2.2,d.1),h.2)]) λv30=>t (v30,(aa.wrap (h.2+1)))else B (h.1,(aa.wrap (o.2+1)))) (o.1,0)else rounds (α:=Int×List (Int×(Int×Int))) (β:=Bool) (λC q=>bif IT (q.1<((x.1).length:Int))then a8 (nth x.1 q.1) λe=>
 C ((aa.wrap (q.1+1)),(k7 (λ(a b:Int)=>IT (a=b)) e.1 (e.2.1,e.2.2) q.2))else a8 (U ()) λe=>a8 (DK (o.1,2,())) λe=>rounds (α:=Int) (β:=Bool) (λr l=>bif IT (l<((e).length:Int))then a8 (nth e l) λc=>a8 (xg e (U (aa.wrap (l+1))) No) λv21=>rounds (α:=Int) (β:=Bool) (λu p=>bif IT (p<((v21).length:Int))then a8 (nth v21 p) λv26=>a8 (wj (v26.1,v26.2)) λv28=>a8 (BS (c.1,c.2)) λv29=>bif IT (v29<v28)then rounds (α:=Int) (β:=Bool) (λm i=>bif IT (i<((x.1).length:Int))then a8 (nth x.1 i) λv35=>a8 (sJ (c.1,c.2)) λj=>a8 (nP ((j.1.1,j.1.2),(j.2.1,j.2.2),(v35.2.1,v35.2.2))) λv=>bif v then a8 (vf (c.1,c.2)) λw=>bif w then a8 (U ()) λv44=>a8 (U c.1) λv44=>bif !((IT (v44.2.1=v35.1)))then a8 (tm (c.1,c.2)) λv53=>bif v53 then a8 (U ()) λv54=>a8 (U c.1) λv54=>bif !((IT (v54.2.2.1=v35.1)))then U IS else m (aa.wrap (i+1))else U IS else m (aa.wrap (i+1))else a8 (tm (c.1,c.2)) λv44=>bif v44 then a8 (U ()) λv45=>a8 (U c.1) λv45=>bif !((IT (v45.2.2.1=v35.1)))then U IS else m (aa.wrap (i+1))else U IS else m (aa.wrap (i+1))else r (aa.wrap (l+1))) 0 else a8 (U ()) λv31=>a8 (BW ((c.1,c.2),(v26.1,v26.2),q.2)) λv31=>
 bif !(v31)then U IS else u (aa.wrap (p+1))else rounds (α:=Int) (β:=Bool) (λn k=>bif IT (k<((x.1).length:Int))then a8 (nth x.1 k) λv30=>a8 (sJ (c.1,c.2)) λv33=>a8 (nP ((v33.1.1,v33.1.2),(v33.2.1,v33.2.2),(v30.2.1,v30.2.2))) λv37=>bif v37 then a8 (vf (c.1,c.2)) λj=>bif j then a8 (U ()) λv39=>a8 (U c.1) λv39=>bif !((IT (v39.2.1=v30.1)))then a8 (tm (c.1,c.2)) λz=>bif z then a8 (U ()) λv49=>a8 (U c.1) λv49=>bif !((IT (v49.2.2.1=v30.1)))then U IS else n (aa.wrap (k+1))else U IS else n (aa.wrap (k+1))else a8 (tm (c.1,c.2)) λv39=>bif v39 then a8 (U ()) λv40=>a8 (U c.1) λv40=>bif !((IT (v40.2.2.1=v30.1)))then U IS else n (aa.wrap (k+1))else U IS else n (aa.wrap (k+1))else r (aa.wrap (l+1))) 0) 0 else U IN) 0) (0,([]:List (Int×(Int×Int))))) (([]:List ((Int×Int×Int×List (Int×Int)×Int×Int×List (Int×Int))×Int)),0)
def EE:oE->Option (Int):=λx=>bif IT ((256:Int)<((x.1).length:Int))then U 3 else bif IT ((256:Int)<((x.2.1).length:Int))then U 3 else bif IT ((64:Int)<((x.2.2).length:Int))then U 3 else rounds (α:=Int) (β:=Int) (λc b=>bif IT (b<((x.2.1).length:Int))then a8 (nth x.2.1 b) λa=>bif IT ((64:Int)<((a.2.2.2.1).length:Int))then U 3 else c (aa.wrap (b+1))else a8 (D0 (x.1,x.2.1,x.2.2)) λa=>a8 (Ad a.1) λd=>bif !(d)then U 10 else a8 (Ad a.2) λv17=>bif !(v17)then U 10 else a8 (Ad x.2.2) λe=>bif !(e)then U 10 else a8 (Af a.1) λv21=>bif !(v21)then U 2 else a8 (Af a.2) λv23=>bif !(v23)then U 2 else a8 (Af x.2.2) λv25=>bif !(v25)then U 2 else a8 (ED (x.1,x.2.1,x.2.2)) λv27=>bif !(v27)then U 2 else a8 (D6 ((x.1,x.2.1,x.2.2),a.1)) λv29=>bif !decide (v29=0)then U v29 else a8 (EA (x.1,x.2.1,x.2.2)) λv31=>bif !(v31)then U 11 else U 0) 0
def yG:(Int×Int)×(Int×Int)->Option (Bool):=λx=>bif IT (x.2.2<x.1.2)then U IN else bif IT (x.2.2=x.1.2)then U (IT (x.2.1<x.1.1))else U IS
def yO:(Int×Int)×(Int×Int)×(Int×Int)->Option (Bool):=λx=>a8 (U ()) λv6=>a8 (wB [(x.1.1,x.1.2),(x.2.1.1,x.2.1.2),(x.2.2.1,x.2.2.2)]) λv6=>bif !(v6)then U IS else bif IT (x.2.1.1=x.1.1)&&IT (x.2.1.2=x.1.2)then U IS else bif IT (x.2.2.1=x.1.1)&&IT (x.2.2.2=x.1.2)then U IS else a8 (yG ((x.1.1,x.1.2),(x.2.1.1,x.2.1.2))) λv10=>a8 (yG ((x.1.1,x.1.2),(x.2.2.1,x.2.2.2))) λv11=>bif !(v10==v11)then a8 (yG ((x.1.1,x.1.2),(x.2.2.1,x.2.2.2))) λa=>U a else a8 (yI ((x.1.1,x.1.2),(x.2.1.1,x.2.1.2),(x.2.2.1,x.2.2.2))) λa=>U (IT (0<a))
def yA:Int×Int×(Int×Int×Int)×(List (Int×(Int×Int)))->Option (Int):=λx=>a8 (mH (ff (λ(a b:Int)=>IT (a=b)) x.1 x.2.2.2) (U (0,0))) λv6=>a8 (mH (ff (λ(a b:Int)=>IT (a=b)) x.2.1 x.2.2.2) (U (0,0))) λe=>a8 (yO ((x.2.2.1.2.1,x.2.2.1.2.2),(v6.1,v6.2),(e.1,e.2))) λv10=>bif v10 then U (-1)else a8 (mH (ff (λ(a b:Int)=>IT (a=b)) x.2.1 x.2.2.2) (U (0,0))) λv11=>a8 (mH (ff (λ(a b:Int)=>IT (a=b)) x.1 x.2.2.2) (U (0,0))) λc=>a8 (yO ((x.2.2.1.2.1,x.2.2.1.2.2),(v11.1,v11.2),(c.1,c.2))) λd=>bif d then U 1 else U 0
def LM:List Int×Int×((Int×Int×Int)×(List (Int×(Int×Int))))->Option (List Int):=λx=>bif IT (x.2.1=1)then pT (λa b=>yA (a,b,x.2.2.1,x.2.2.2)) x.1 else No
def Ca:oE×Int->Option (List Int):=λx=>a8 (wC ((x.1.1,x.1.2.1,x.1.2.2),x.2)) λv4=>bif !(v4.2)then U ([]:List (Int))else rounds (α:=Int×List Int×List (Int×(Int×Int))) (β:=List Int) (λe c=>bif IT (c.1<((x.1.2.1).length:Int))then a8 (nth x.1.2.1 c.1) λd=>bif !decide (d.2.1=x.2)then bif !decide (d.2.2.1=x.2)then e ((aa.wrap (c.1+1)),c.2.1,c.2.2)else a8 (vo ((x.1.1,x.1.2.1,x.1.2.2),d.1)) λv23=>bif !decide (v23.2=0)then e ((aa.wrap (c.1+1)),c.2.1,c.2.2)else bif IT (d.2.1=x.2)then a8 (nth v23.1 1) λv27=>a8 (la 8 c.2.1 [d.1]) λv29=>a8 (U (k7 (λ(a b:Int)=>IT (a=b)) d.1 (v27.1,v27.2) c.2.2)) λv30=>bif IT (d.2.2.1=x.2)then a8 (nth v23.1 (aa.wrap (((v23.1).length:Int)-2))) λv35=>a8 (la 8 v29 [(aa.wrap (0-d.1))]) λv37=>e ((aa.wrap (c.1+1)),v37,(k7 (λ(a b:Int)=>IT (a=b)) (aa.wrap (0-d.1)) (v35.1,v35.2) v30))else e ((aa.wrap (c.1+1)),v29,v30)else bif IT (d.2.2.1=x.2)then a8 (nth v23.1 (aa.wrap (((v23.1).length:Int)-2))) λv31=>a8 (la 8 c.2.1 [(aa.wrap (0-d.1))]) λv33=>e ((aa.wrap (c.1+1)),v33,(k7 (λ(a b:Int)=>IT (a=b)) (aa.wrap (0-d.1)) (v31.1,v31.2) c.2.2))else e ((aa.wrap (c.1+1)),c.2.1,c.2.2)else a8 (vo ((x.1.1,x.1.2.1,x.1.2.2),d.1)) λv22=>
 bif !decide (v22.2=0)then e ((aa.wrap (c.1+1)),c.2.1,c.2.2)else bif IT (d.2.1=x.2)then a8 (nth v22.1 1) λv26=>a8 (la 8 c.2.1 [d.1]) λv28=>a8 (U (k7 (λ(a b:Int)=>IT (a=b)) d.1 (v26.1,v26.2) c.2.2)) λv29=>bif IT (d.2.2.1=x.2)then a8 (nth v22.1 (aa.wrap (((v22.1).length:Int)-2))) λf=>a8 (la 8 v28 [(aa.wrap (0-d.1))]) λv36=>e ((aa.wrap (c.1+1)),v36,(k7 (λ(a b:Int)=>IT (a=b)) (aa.wrap (0-d.1)) (f.1,f.2) v29))else e ((aa.wrap (c.1+1)),v28,v29)else bif IT (d.2.2.1=x.2)then a8 (nth v22.1 (aa.wrap (((v22.1).length:Int)-2))) λv30=>a8 (la 8 c.2.1 [(aa.wrap (0-d.1))]) λv32=>e ((aa.wrap (c.1+1)),v32,(k7 (λ(a b:Int)=>IT (a=b)) (aa.wrap (0-d.1)) (v30.1,v30.2) c.2.2))else e ((aa.wrap (c.1+1)),c.2.1,c.2.2)else a8 (U ()) λd=>a8 (LM (c.2.1,1,((v4.1.1,v4.1.2.1,v4.1.2.2),c.2.2))) λd=>U d) (0,([]:List (Int)),([]:List (Int×(Int×Int))))
def B0:List Int×Int->Option (Int):=λx=>a8 (yv (x.1,x.2)) λv2=>bif IT (v2<0)then U 0 else a8 ((bif IT (((x.1).length:Int)=0)then No else U ((aa.wrap ((aa.wrap (v2+((x.1).length:Int)))-1)).tmod ((x.1).length:Int)))) λa=>a8 (nth x.1 a) λv9=>U v9
def xt:oE->Option ((List (List Int)×Int)):=λx=>a8 (EE (x.1,x.2.1,x.2.2)) λv3=>bif !decide (v3=0)then U (([]:List (List (Int))),v3)else rounds (α:=List Int×Int×ma) (β:=(List (List Int)×Int)) (λm f=>bif IT (f.2.1<((x.1).length:Int))then a8 (nth x.1 f.2.1) λv11=>a8 (Ca ((x.1,x.2.1,x.2.2),v11.1)) λg=>rounds (α:=List Int×Int×ma) (β:=(List (List Int)×Int)) (λj e=>bif IT (e.2.1<((g).length:Int))then a8 (nth g e.2.1) λv21=>a8 (la 8 e.1 [v21]) λv22=>a8 (B0 (g,v21)) λv24=>j (v22,(aa.wrap (e.2.1+1)),(k7 (λ(a b:Int)=>IT (a=b)) (aa.wrap (0-v21)) v24 e.2.2))else m (e.1,(aa.wrap (f.2.1+1)),e.2.2)) (f.1,0,f.2.2)else a8 (U ()) λv11=>a8 (vO (f.1,1)) λv11=>rounds (α:=Int×List (List Int)×List (Int×Bool)) (β:=(List (List Int)×Int)) (λi c=>bif IT (c.1<((v11).length:Int))then a8 ((bif IT (0<=c.1)&&IT (c.1<(v11).length)then U ()else No)) λh=>a8 (((v11)[(c.1).toNat]?).map (λx=>x)) λh=>a8 (mH (ff (λ(a b:Int)=>IT (a=b)) h c.2.2) (U IS)) λk=>bif !(k)then rounds (α:=Int×List Int×List (Int×Bool)) (β:=(List (List Int)×Int)) (λl d=>a8 (mH (ff (λ(a b:Int)=>IT (a=b)) d.1 d.2.2) (U IS)) λv25=>bif !(v25)then a8 (la 8 d.2.1 [d.1]) λv28=>a8 (mH (ff (λ(a b:Int)=>IT (a=b)) d.1 f.2.2) (U 0)) λv29=>l (v29,v28,(k7 (λ(a b:Int)=>
 IT (a=b)) d.1 IN d.2.2))else a8 (U ()) λv27=>a8 (la 24 c.2.1 [d.2.1]) λv27=>i ((aa.wrap (c.1+1)),v27,d.2.2)) (h,([]:List (Int)),c.2.2)else i ((aa.wrap (c.1+1)),c.2.1,c.2.2)else U (c.2.1,0)) (0,([]:List (List (Int))),([]:List (Int×Bool)))) (([]:List (Int)),0,([]:List (Int×Int)))
def Ae:oE->Option (Ak):=λx=>rounds (α:=Int×Ak) (β:=Ak) (λe c=>bif IT (c.1<((x.2.1).length:Int))then a8 (nth x.2.1 c.1) λf=>a8 (vo ((x.1,x.2.1,x.2.2),f.1)) λd=>bif IT (d.2=0)then e ((aa.wrap (c.1+1)),(k7 (λ(a b:Int)=>IT (a=b)) f.1 d.1 c.2))else e ((aa.wrap (c.1+1)),c.2)else U c.2) (0,([]:List (Int×List (Int×Int))))
def Am:oE×Int->Option ((D_×Bool)):=λx=>bif IT (x.2=0)then U ((0,0,0,([]:List (Int×Int)),0,0),IS)else bif IT (x.2=(-9223372036854775808))then U ((0,0,0,([]:List (Int×Int)),0,0),IS)else a8 (yU ((x.1.1,x.1.2.1,x.1.2.2),(bh py x.2 [(aa.wrap (0-x.2))]))) λa=>U ((a.1.1,a.1.2.1,a.1.2.2.1,a.1.2.2.2.1,a.1.2.2.2.2.1,a.1.2.2.2.2.2),a.2)
def wu:oE×List Int->Option (Int):=λx=>bif IT ((512:Int)<((x.2).length:Int))then U 0 else rounds (α:=Int×Int) (β:=Int) (λf b=>bif IT (b.2<((x.2).length:Int))then a8 (nth x.2 b.2) λv11=>a8 (Am ((x.1.1,x.1.2.1,x.1.2.2),v11)) λv12=>bif !(v12.2)then U 0 else a8 (vo ((x.1.1,x.1.2.1,x.1.2.2),(bh py v11 [(aa.wrap (0-v11))]))) λv22=>bif !decide (v22.2=0)then U 0 else rounds (α:=Int×Int) (β:=Int) (λc a=>bif IT (a.2<(aa.wrap (((v22.1).length:Int)-1)))then a8 (nth v22.1 a.2) λv31=>a8 (nth v22.1 (aa.wrap (a.2+1))) λd=>a8 (nth v22.1 (aa.wrap (a.2+1))) λe=>a8 (nth v22.1 a.2) λv40=>c ((aa.wrap (a.1+(aa.wrap ((aa.wrap (v31.1*d.2))-(aa.wrap (e.1*v40.2)))))),(aa.wrap (a.2+1)))else bif IT (v11<0)then f ((aa.wrap (b.1+(aa.wrap (0-a.1)))),(aa.wrap (b.2+1)))else f ((aa.wrap (b.1+a.1)),(aa.wrap (b.2+1)))) (0,0)else U b.1) (0,0)
def wi:Ak×List Int×(Int×Int)->Option (Bool):=λx=>rounds (α:=Int×Bool×Bool) (β:=Bool) (λg e=>bif IT (e.1<((x.2.1).length:Int))then a8 (nth x.2.1 e.1) λv10=>a8 (mH (ff (λ(a b:Int)=>IT (a=b)) (bh py v10 [(aa.wrap (0-v10))]) x.1) No) λf=>rounds (α:=Int×Bool×Bool) (β:=Bool) (λd c=>bif IT (c.1<((f).length:Int))then a8 (nth f (aa.wrap (c.1-1))) λv21=>a8 (nth f c.1) λv23=>a8 (nP ((v21.1,v21.2),(v23.1,v23.2),(x.2.2.1,x.2.2.2))) λv25=>bif v25 then d ((aa.wrap (c.1+1)),c.2.1,IN)else bif IT (v21.2<=x.2.2.2)then bif IT (x.2.2.2<v23.2)then a8 (pP ((v21.1,v21.2),(v23.1,v23.2),(x.2.2.1,x.2.2.2))) λv28=>bif IT (0<v28)then d ((aa.wrap (c.1+1)),(!(c.2.1)),c.2.2)else bif IT (v23.2<=x.2.2.2)then bif IT (x.2.2.2<v21.2)then a8 (pP ((v21.1,v21.2),(v23.1,v23.2),(x.2.2.1,x.2.2.2))) λv32=>bif IT (v32<0)then d ((aa.wrap (c.1+1)),(!(c.2.1)),c.2.2)else d ((aa.wrap (c.1+1)),c.2.1,c.2.2)else d ((aa.wrap (c.1+1)),c.2.1,c.2.2)else d ((aa.wrap (c.1+1)),c.2.1,c.2.2)else bif IT (v23.2<=x.2.2.2)then bif IT (x.2.2.2<v21.2)then a8 (pP ((v21.1,v21.2),(v23.1,v23.2),(x.2.2.1,x.2.2.2))) λv30=>
 bif IT (v30<0)then d ((aa.wrap (c.1+1)),(!(c.2.1)),c.2.2)else d ((aa.wrap (c.1+1)),c.2.1,c.2.2)else d ((aa.wrap (c.1+1)),c.2.1,c.2.2)else d ((aa.wrap (c.1+1)),c.2.1,c.2.2)else bif IT (v23.2<=x.2.2.2)then bif IT (x.2.2.2<v21.2)then a8 (pP ((v21.1,v21.2),(v23.1,v23.2),(x.2.2.1,x.2.2.2))) λv29=>bif IT (v29<0)then d ((aa.wrap (c.1+1)),(!(c.2.1)),c.2.2)else d ((aa.wrap (c.1+1)),c.2.1,c.2.2)else d ((aa.wrap (c.1+1)),c.2.1,c.2.2)else d ((aa.wrap (c.1+1)),c.2.1,c.2.2)else g ((aa.wrap (e.1+1)),c.2.2,c.2.1)) (1,e.2.2,e.2.1)else bif e.2.2 then U (!(e.2.1))else U IS) (0,IS,IS)
def B8:oE×Int->Option (Int):=λx=>rounds (α:=Int×Int) (β:=Int) (λc a=>bif IT (a.1<((x.1.2.1).length:Int))then a8 (nth x.1.2.1 a.1) λv9=>bif IT (v9.2.1=x.2)then a8 (U (aa.wrap (a.2+1))) λb=>bif IT (v9.2.2.1=x.2)then c ((aa.wrap (a.1+1)),(aa.wrap (b+1)))else c ((aa.wrap (a.1+1)),b)else bif IT (v9.2.2.1=x.2)then c ((aa.wrap (a.1+1)),(aa.wrap (a.2+1)))else c ((aa.wrap (a.1+1)),a.2)else U a.2) (0,0)
def wo:oE×List (List Int)×Ak->Option (List pS):=λx=>rounds (α:=List (List Int)×Int×Bool×List (Int×List Int×Unit×Unit)) (β:=List pS) (λr h=>bif IT (h.2.1<((x.2.1).length:Int))then a8 (nth x.2.1 h.2.1) λv12=>a8 (wu ((x.1.1,x.1.2.1,x.1.2.2),v12)) λm=>bif IT (0<m)then a8 (la 80 h.2.2.2 [(m,v12,(),())]) λl=>r (h.1,(aa.wrap (h.2.1+1)),IS,l)else a8 (la 24 h.1 [v12]) λl=>r (l,(aa.wrap (h.2.1+1)),IS,h.2.2.2)else a8 (FB (λx=>(x.1,x.2.1,([]:List (List (Int))),([]:List (Int)))) h.2.2.2) λv12=>rounds (α:=Int×List pS) (β:=List pS) (λo e=>bif IT (e.1<((h.1).length:Int))then a8 ((bif IT (0<=e.1)&&IT (e.1<(h.1).length)then U ()else No)) λk=>a8 (((h.1)[(e.1).toNat]?).map (λx=>x)) λk=>a8 (nth k 0) λp=>a8 (nth k 0) λv20=>a8 (mH (ff (λ(a b:Int)=>IT (a=b)) (bh py p [(aa.wrap (0-v20))]) x.2.2) No) λv23=>a8 (nth v23 0) λv24=>rounds (α:=Int×Int) (β:=List pS) (λi c=>bif IT (c.1<((e.2).length:Int))then bif IT (c.2=0)then a8 ((bif IT (0<=c.1)&&IT (c.1<(e.2).length)then U ()else No)) λv32=>a8 (U ()) λv32=>a8 (((e.2)[(c.1).toNat]?).map (λx=>x.2.1)) λv32=>a8 (wi (x.2.2,v32,(v24.1,v24.2))) λv33=>
 bif v33 then i ((aa.wrap (c.1+1)),c.1)else i ((aa.wrap (c.1+1)),c.2)else a8 ((bif IT (0<=c.1)&&IT (c.1<(e.2).length)then U ()else No)) λv32=>a8 (U ()) λv32=>a8 (((e.2)[(c.1).toNat]?).map (λx=>x.1)) λv32=>a8 ((bif IT (0<=c.2)&&IT (c.2<(e.2).length)then U ()else No)) λv33=>a8 (U ()) λv33=>a8 (((e.2)[(c.2).toNat]?).map (λx=>x.1)) λv33=>bif IT (v32<v33)then a8 ((bif IT (0<=c.1)&&IT (c.1<(e.2).length)then U ()else No)) λv35=>a8 (U ()) λv35=>a8 (((e.2)[(c.1).toNat]?).map (λx=>x.2.1)) λv35=>a8 (wi (x.2.2,v35,(v24.1,v24.2))) λv36=>bif v36 then i ((aa.wrap (c.1+1)),c.1)else i ((aa.wrap (c.1+1)),c.2)else i ((aa.wrap (c.1+1)),c.2)else a8 (((e.2)[(c.2).toNat]?).map (λx=>x.2.2.1)) λv31=>a8 ((bif IT (0<=c.2)&&IT (c.2<(e.2).length)then U ()else No)) λv32=>a8 (U ()) λv32=>a8 (za e.2 c.2) λv32=>a8 (la 24 v31 [k]) λv32=>a8 ((bif IT (0<=c.2)&&IT (c.2<(e.2).length)then U ()else No)) λv33=>a8 (U ()) λv33=>a8 (za e.2 c.2) λv33=>a8 (U ()) λv33=>a8 (rG e.2 (c.2).toNat (λx y=>(x.1,x.2.1,y,x.2.2.2)) v32) λv33=>o ((aa.wrap (e.1+1)),v33)) (1,0)else rounds (α:=Int×List pS) (β:=List pS) (λn f=>bif IT (f.1<((x.1.1).length:Int))then a8 (nth x.1.1 f.1) λv23=>
 a8 (B8 ((x.1.1,x.1.2.1,x.1.2.2),v23.1)) λv26=>bif IT (v26=0)then rounds (α:=Int×Int) (β:=List pS) (λj d=>bif IT (d.1<((f.2).length:Int))then bif IT (d.2=0)then a8 ((bif IT (0<=d.1)&&IT (d.1<(f.2).length)then U ()else No)) λg=>a8 (U ()) λg=>a8 (((f.2)[(d.1).toNat]?).map (λx=>x.2.1)) λg=>a8 (wi (x.2.2,g,(v23.2.1,v23.2.2))) λv35=>bif v35 then j ((aa.wrap (d.1+1)),d.1)else j ((aa.wrap (d.1+1)),d.2)else a8 ((bif IT (0<=d.1)&&IT (d.1<(f.2).length)then U ()else No)) λg=>a8 (U ()) λg=>a8 (((f.2)[(d.1).toNat]?).map (λx=>x.1)) λg=>a8 ((bif IT (0<=d.2)&&IT (d.2<(f.2).length)then U ()else No)) λv35=>a8 (U ()) λv35=>a8 (((f.2)[(d.2).toNat]?).map (λx=>x.1)) λv35=>bif IT (g<v35)then a8 ((bif IT (0<=d.1)&&IT (d.1<(f.2).length)then U ()else No)) λv37=>a8 (U ()) λv37=>a8 (((f.2)[(d.1).toNat]?).map (λx=>x.2.1)) λv37=>a8 (wi (x.2.2,v37,(v23.2.1,v23.2.2))) λq=>bif q then j ((aa.wrap (d.1+1)),d.1)else j ((aa.wrap (d.1+1)),d.2)else j ((aa.wrap (d.1+1)),d.2)else a8 (((f.2)[(d.2).toNat]?).map (λx=>x.2.2.2)) λv33=>a8 ((bif IT (0<=d.2)&&IT (d.2<(f.2).length)then U ()else No)) λg=>a8 (U ()) λg=>a8 (za f.2 d.2) λg=>a8 (la 8 v33 [v23.1]) λg=>
 a8 ((bif IT (0<=d.2)&&IT (d.2<(f.2).length)then U ()else No)) λv35=>a8 (U ()) λv35=>a8 (za f.2 d.2) λv35=>a8 (U ()) λv35=>a8 (rG f.2 (d.2).toNat (λx y=>(x.1,x.2.1,x.2.2.1,y)) g) λv35=>n ((aa.wrap (f.1+1)),v35)) (1,0)else n ((aa.wrap (f.1+1)),f.2)else U f.2) (0,e.2)) (0,v12)) (([]:List (List (Int))),0,IS,[(0,([]:List (Int)),(),())])
def wz:oE×Int->Option (Int):=λx=>a8 (Am ((x.1.1,x.1.2.1,x.1.2.2),x.2)) λv4=>bif !(v4.2)then U 0 else bif IT (0<x.2)then U v4.1.2.2.2.2.1 else U v4.1.2.2.2.2.2
def xn:pS->Option (List (List Int)):=λx=>a8 (la 24 [x.2.1] x.2.2.1) λv4=>U v4
def Ai:oE×List pS->Option ((List Int×Bool)):=λx=>rounds (α:=List Int×Int×List (Int×Bool)) (β:=(List Int×Bool)) (λm d=>bif IT (d.2.1<((x.2).length:Int))then a8 (nth x.2 d.2.1) λv10=>bif IT (0<d.2.1)then a8 (nth v10.2.1 0) λf=>a8 (wz ((x.1.1,x.1.2.1,x.1.2.2),f)) λe=>bif IT (e=0)then U (([]:List (Int)),IS)else a8 (mH (ff (λ(a b:Int)=>IT (a=b)) e d.2.2) (U IS)) λj=>bif j then U (([]:List (Int)),IS)else a8 (xn (v10.1,v10.2.1,v10.2.2.1,v10.2.2.2)) λv20=>rounds (α:=Int) (β:=(List Int×Bool)) (λg c=>bif IT (c<((v20).length:Int))then a8 (nth v20 c) λv25=>rounds (α:=Int) (β:=(List Int×Bool)) (λk h=>bif IT (h<((v25).length:Int))then a8 (nth v25 h) λv30=>a8 (wz ((x.1.1,x.1.2.1,x.1.2.2),v30)) λv31=>bif !decide (v31=e)then U (([]:List (Int)),IS)else k (aa.wrap (h+1))else g (aa.wrap (c+1))) 0 else a8 (la 8 d.1 [e]) λv25=>m (v25,(aa.wrap (d.2.1+1)),(k7 (λ(a b:Int)=>IT (a=b)) e IN d.2.2))) 0 else a8 (xn (v10.1,v10.2.1,v10.2.2.1,v10.2.2.2)) λf=>rounds (α:=Int) (β:=(List Int×Bool)) (λl i=>bif IT (i<((f).length:Int))then a8 (nth f i) λv20=>rounds (α:=Int) (β:=(List Int×Bool)) (λg c=>bif IT (c<((v20).length:Int))then a8 (nth v20 c) λv25=>a8 (wz ((x.1.1,x.1.2.1,x.1.2.2),v25)) λv26=>
 bif !decide (v26=0)then U (([]:List (Int)),IS)else g (aa.wrap (c+1))else l (aa.wrap (i+1))) 0 else a8 (la 8 d.1 [0]) λv20=>m (v20,(aa.wrap (d.2.1+1)),d.2.2)) 0 else U (d.1,(IT (((d.2.2).length:Int)=((x.1.2.2).length:Int))))) (([]:List (Int)),0,([]:List (Int×Bool)))
def Ea:oE->Option (Int):=λx=>a8 (xt (x.1,x.2.1,x.2.2)) λv3=>bif !decide (v3.2=0)then U v3.2 else a8 (Ae (x.1,x.2.1,x.2.2)) λv6=>a8 (wo ((x.1,x.2.1,x.2.2),v3.1,v6)) λa=>a8 (Ai ((x.1,x.2.1,x.2.2),a)) λb=>bif !(b.2)then U 12 else U 0
def Ll:tt->Option (Bool):=λx=>U (IT ((64:Int)<((x.2.2.2.2).length:Int)))
def Ge:sO×(Unit)->Option (Bool):=λx=>rounds (α:=Int) (β:=Bool) (λb a=>bif IT (a<((x.1).length:Int))then a8 (nth x.1 a) λv5=>a8 (Ll (v5.1,v5.2.1,v5.2.2.1,v5.2.2.2.1,v5.2.2.2.2)) λv10=>bif v10 then U (IT (0<=a))else b (aa.wrap (a+1))else U IS) 0
def GO:tt->Option (Bool):=λx=>bif IT (x.1<1)then U IN else bif IT (1073741824<x.1)then U IN else bif IT (x.2.2.1<1)then U IN else U (IT (9<x.2.2.1))
def zk:sO×(Unit)->Option (Bool):=λx=>rounds (α:=Int) (β:=Bool) (λb a=>bif IT (a<((x.1).length:Int))then a8 (nth x.1 a) λv5=>a8 (GO (v5.1,v5.2.1,v5.2.2.1,v5.2.2.2.1,v5.2.2.2.2)) λv10=>bif v10 then U (IT (0<=a))else b (aa.wrap (a+1))else U IS) 0
def qM:Int->Option (Int):=λx=>bif IT (x=1)then U 1 else bif IT (x=2)then U 1 else bif IT (x=8)then U 1 else bif IT (x=3)then U 2 else bif IT (x=4)then U 2 else bif IT (x=5)then U 3 else bif IT (x=6)then U 3 else bif IT (x=7)then U 3 else U 0
def GN:tt->Option (Bool):=λx=>a8 (qM x.2.1) λv5=>U (IT (v5=0))
def zm:sO×(Unit)->Option (Bool):=λx=>rounds (α:=Int) (β:=Bool) (λb a=>bif IT (a<((x.1).length:Int))then a8 (nth x.1 a) λv5=>a8 (GN (v5.1,v5.2.1,v5.2.2.1,v5.2.2.2.1,v5.2.2.2.2)) λv10=>bif v10 then U (IT (0<=a))else b (aa.wrap (a+1))else U IS) 0
def B5:Int->Option (Int):=λx=>bif IT (x<0)then U (-1)else bif IT (1114111<x)then U (-1)else a8 RP λ_=>rounds (α:=Int) (β:=Int) (λb a=>bif IT (a<13)then a8 (nth [(32,32,0),(39,41,0),(45,46,0),(48,57,0),(65,90,1),(97,122,1),(192,214,1),(216,246,1),(248,591,1),(880,1023,2),(1024,1279,3),(1488,1514,4),(19968,40959,5)] a) λv46=>bif IT (v46.1<=(kr.wrap x))then bif IT ((kr.wrap x)<=v46.2.1)then U v46.2.2 else b (aa.wrap (a+1))else b (aa.wrap (a+1))else U (-1)) 0
def Eo:ByteArray->Option ((List Int×Int)):=λx=>rounds (α:=List Int×Int) (β:=(List Int×Int)) (λb a=>bif IT ((a.2).toNat<(x).size)then a8 (Gg x a.2) λv5=>a8 (B5 (aa.wrap v5.2.1)) λv9=>bif IT (v9<0)then U (([]:List (Int)),4)else a8 (la 8 a.1 [(aa.wrap v5.2.1)]) λv12=>b (v12,v5.2.2)else U (a.1,0)) (([]:List (Int)),0)
def EO:ByteArray->Option ((List Int×Int)):=λx=>bif ((x).toList==((dj #[])).toList)then U (([]:List (Int)),14)else bif IT ((40:Int)<((x).size:Int))then U (([]:List (Int)),3)else a8 (Eo x) λv4=>bif !decide (v4.2=0)then U (([]:List (Int)),v4.2)else a8 (tP x 0) λf=>bif IT (f=32)then U (([]:List (Int)),14)else a8 (tP x (aa.wrap (((x).size:Int)-1))) λv11=>bif IT (v11=32)then U (([]:List (Int)),14)else a8 (strings_Contains (x,(dj #[32,32]))) λb=>bif b then U (([]:List (Int)),14)else rounds (α:=Int) (β:=(List Int×Int)) (λc a=>bif IT (a<((v4.1).length:Int))then a8 (nth v4.1 a) λd=>a8 (B5 d) λe=>bif !decide (e=0)then U (v4.1,0)else c (aa.wrap (a+1))else U (([]:List (Int)),14)) 0
def Ar:ByteArray->Option (Int):=λx=>a8 (EO x) λv1=>U v1.2
def GM:tt->Option (Bool):=λx=>bif !((x.2.2.2.1).toList==((dj #[])).toList)then a8 (Ar x.2.2.2.1) λv6=>U (!decide (v6=0))else U IS
def zl:sO×(Unit)->Option (Bool):=λx=>rounds (α:=Int) (β:=Bool) (λb a=>bif IT (a<((x.1).length:Int))then a8 (nth x.1 a) λv5=>a8 (GM (v5.1,v5.2.1,v5.2.2.1,v5.2.2.2.1,v5.2.2.2.2)) λv10=>bif v10 then U (IT (0<=a))else b (aa.wrap (a+1))else U IS) 0
def GP:tt->Option (Bool):=λx=>bif IT (((x.2.2.2.2).length:Int)=0)then U IN else a8 (qM x.2.1) λa=>bif IT (a=1)then U (IT ((1:Int)<((x.2.2.2.2).length:Int)))else U IS
def zn:sO×(Unit)->Option (Bool):=λx=>rounds (α:=Int) (β:=Bool) (λb a=>bif IT (a<((x.1).length:Int))then a8 (nth x.1 a) λv5=>a8 (GP (v5.1,v5.2.1,v5.2.2.1,v5.2.2.2.1,v5.2.2.2.2)) λv10=>bif v10 then U (IT (0<=a))else b (aa.wrap (a+1))else U IS) 0
def Hr:List Int×Int->Option (Bool):=λx=>a8 (rL (x.1,x.2)) λv2=>U v2
def DX:Int×tt×oE->Option (Bool):=λx=>a8 (qM x.2.1.2.1) λv9=>bif IT (v9=1)then a8 (wC ((x.2.2.1,x.2.2.2.1,x.2.2.2.2),x.1)) λv11=>U (!(v11.2))else bif IT (v9=2)then a8 (yU ((x.2.2.1,x.2.2.2.1,x.2.2.2.2),x.1)) λv12=>U (!(v12.2))else bif IT (v9=3)then a8 (Hr (x.2.2.2.2,x.1)) λa=>U (!(a))else U IN
def Gw:List Int×(tt×oE)->Option (Bool):=λx=>rounds (α:=Int) (β:=Bool) (λb a=>bif IT (a<((x.1).length:Int))then a8 (nth x.1 a) λc=>a8 (DX (c,(x.2.1.1,x.2.1.2.1,x.2.1.2.2.1,x.2.1.2.2.2.1,x.2.1.2.2.2.2),(x.2.2.1,x.2.2.2.1,x.2.2.2.2))) λd=>bif d then U (IT (0<=a))else b (aa.wrap (a+1))else U IS) 0
def D3:oE×tt->Option (Bool):=λx=>a8 (U ()) λa=>a8 (Gw (x.2.2.2.2.2,((x.2.1,x.2.2.1,x.2.2.2.1,x.2.2.2.2.1,x.2.2.2.2.2),(x.1.1,x.1.2.1,x.1.2.2)))) λa=>U a
def GQ:tt×ov->Option (Bool):=λx=>a8 (D3 ((x.2.1,x.2.2.1,x.2.2.2.1),(x.1.1,x.1.2.1,x.1.2.2.1,x.1.2.2.2.1,x.1.2.2.2.2))) λv9=>U v9
def zj:sO×(ov)->Option (Bool):=λx=>rounds (α:=Int) (β:=Bool) (λc a=>bif IT (a<((x.1).length:Int))then a8 (nth x.1 a) λv9=>a8 (GQ ((v9.1,v9.2.1,v9.2.2.1,v9.2.2.2.1,v9.2.2.2.2),(x.2.1,x.2.2.1,x.2.2.2.1,x.2.2.2.2))) λb=>bif b then U (IT (0<=a))else c (aa.wrap (a+1))else U IS) 0
def B7:List Int->Option (Bool):=λx=>rounds (α:=Int) (β:=Bool) (λb a=>bif IT (a<((x).length:Int))then a8 (nth x (aa.wrap (a-1))) λv6=>a8 (nth x a) λc=>bif IT (c<=v6)then U IS else b (aa.wrap (a+1))else U IN) 1
def yB:ov->Option (Int):=λx=>a8 (Ea (x.1,x.2.1,x.2.2.1)) λv4=>bif !decide (v4=0)then U v4 else bif IT ((128:Int)<((x.2.2.2).length:Int))then U 3 else a8 (Ge (x.2.2.2,())) λI=>bif I then U 3 else rounds (α:=Int×Int) (β:=Int) (λD l=>bif IT (l.1<((x.2.2.2).length:Int))then a8 (nth x.2.2.2 l.1) λm=>a8 (U (aa.wrap (l.2+1))) λp=>bif IT (1<p)then a8 (nth x.2.2.2 (aa.wrap (p-2))) λv22=>bif IT (m.1<=v22.1)then bif IT (0<=l.1)then U 10 else a8 (zk (x.2.2.2,())) λv29=>bif v29 then U 2 else a8 (zm (x.2.2.2,())) λv30=>bif v30 then U 9 else a8 (zl (x.2.2.2,())) λv31=>bif v31 then U 14 else a8 (zn (x.2.2.2,())) λv32=>bif v32 then U 1 else a8 (U ()) λv33=>a8 (zj (x.2.2.2,(x.1,x.2.1,x.2.2.1,x.2.2.2))) λv33=>bif v33 then U 7 else rounds (α:=Int×List ((Int×Int)×Bool)) (β:=Int) (λq g=>bif IT (g.1<((x.2.2.2).length:Int))then a8 (nth x.2.2.2 g.1) λv39=>a8 (qM v39.2.1) λv44=>bif IT (v44=2)then q ((aa.wrap (g.1+1)),g.2)else bif IT (v44=3)then rounds (α:=Int×List ((Int×Int)×Bool)) (β:=Int) (λr c=>bif IT (c.1<((v39.2.2.2.2).length:Int))then a8 (nth v39.2.2.2.2 c.1) λn=>a8 (mH (ff (λ(a b:Int×Int)=>(IT (a.1=b.1)&&IT (a.2=b.2))) (v39.2.1,n) c.2) (U IS)) λv53=>
 bif v53 then bif IT (0<=g.1)then U 13 else U 0 else r ((aa.wrap (c.1+1)),(k7 (λ(a b:Int×Int)=>(IT (a.1=b.1)&&IT (a.2=b.2))) (v39.2.1,n) IN c.2))else q ((aa.wrap (g.1+1)),c.2)) (0,g.2)else rounds (α:=Int×List ((Int×Int)×Bool)) (β:=Int) (λr c=>bif IT (c.1<((v39.2.2.2.2).length:Int))then a8 (nth v39.2.2.2.2 c.1) λn=>a8 (mH (ff (λ(a b:Int×Int)=>(IT (a.1=b.1)&&IT (a.2=b.2))) (0,n) c.2) (U IS)) λv53=>bif v53 then bif IT (0<=g.1)then U 13 else U 0 else r ((aa.wrap (c.1+1)),(k7 (λ(a b:Int×Int)=>(IT (a.1=b.1)&&IT (a.2=b.2))) (0,n) IN c.2))else q ((aa.wrap (g.1+1)),c.2)) (0,g.2)else U 0) (0,([]:List ((Int×Int)×Bool)))else a8 (B7 m.2.2.2.2) λv28=>bif !(v28)then bif IT (0<=l.1)then U 10 else a8 (zk (x.2.2.2,())) λv31=>bif v31 then U 2 else a8 (zm (x.2.2.2,())) λv32=>bif v32 then U 9 else a8 (zl (x.2.2.2,())) λv33=>bif v33 then U 14 else a8 (zn (x.2.2.2,())) λk=>bif k then U 1 else a8 (U ()) λv35=>a8 (zj (x.2.2.2,(x.1,x.2.1,x.2.2.1,x.2.2.2))) λv35=>bif v35 then U 7 else rounds (α:=Int×List ((Int×Int)×Bool)) (β:=Int) (λs h=>bif IT (h.1<((x.2.2.2).length:Int))then a8 (nth x.2.2.2 h.1) λv41=>a8 (qM v41.2.1) λv46=>
 bif IT (v46=2)then s ((aa.wrap (h.1+1)),h.2)else bif IT (v46=3)then rounds (α:=Int×List ((Int×Int)×Bool)) (β:=Int) (λt d=>bif IT (d.1<((v41.2.2.2.2).length:Int))then a8 (nth v41.2.2.2.2 d.1) λv54=>a8 (mH (ff (λ(a b:Int×Int)=>(IT (a.1=b.1)&&IT (a.2=b.2))) (v41.2.1,v54) d.2) (U IS)) λv55=>bif v55 then bif IT (0<=h.1)then U 13 else U 0 else t ((aa.wrap (d.1+1)),(k7 (λ(a b:Int×Int)=>(IT (a.1=b.1)&&IT (a.2=b.2))) (v41.2.1,v54) IN d.2))else s ((aa.wrap (h.1+1)),d.2)) (0,h.2)else rounds (α:=Int×List ((Int×Int)×Bool)) (β:=Int) (λt d=>bif IT (d.1<((v41.2.2.2.2).length:Int))then a8 (nth v41.2.2.2.2 d.1) λv54=>a8 (mH (ff (λ(a b:Int×Int)=>(IT (a.1=b.1)&&IT (a.2=b.2))) (0,v54) d.2) (U IS)) λv55=>bif v55 then bif IT (0<=h.1)then U 13 else U 0 else t ((aa.wrap (d.1+1)),(k7 (λ(a b:Int×Int)=>(IT (a.1=b.1)&&IT (a.2=b.2))) (0,v54) IN d.2))else s ((aa.wrap (h.1+1)),d.2)) (0,h.2)else U 0) (0,([]:List ((Int×Int)×Bool)))else D ((aa.wrap (l.1+1)),p)else a8 (B7 m.2.2.2.2) λv21=>bif !(v21)then bif IT (0<=l.1)then U 10 else a8 (zk (x.2.2.2,())) λv24=>bif v24 then U 2 else a8 (zm (x.2.2.2,())) λv25=>bif v25 then U 9 else a8 (zl (x.2.2.2,())) λv26=>bif v26 then U 14 else a8 (zn (x.2.2.2,())) λv27=>
 bif v27 then U 1 else a8 (U ()) λv28=>a8 (zj (x.2.2.2,(x.1,x.2.1,x.2.2.1,x.2.2.2))) λv28=>bif v28 then U 7 else rounds (α:=Int×List ((Int×Int)×Bool)) (β:=Int) (λu i=>bif IT (i.1<((x.2.2.2).length:Int))then a8 (nth x.2.2.2 i.1) λk=>a8 (qM k.2.1) λv39=>bif IT (v39=2)then u ((aa.wrap (i.1+1)),i.2)else bif IT (v39=3)then rounds (α:=Int×List ((Int×Int)×Bool)) (β:=Int) (λv e=>bif IT (e.1<((k.2.2.2.2).length:Int))then a8 (nth k.2.2.2.2 e.1) λo=>a8 (mH (ff (λ(a b:Int×Int)=>(IT (a.1=b.1)&&IT (a.2=b.2))) (k.2.1,o) e.2) (U IS)) λw=>bif w then bif IT (0<=i.1)then U 13 else U 0 else v ((aa.wrap (e.1+1)),(k7 (λ(a b:Int×Int)=>(IT (a.1=b.1)&&IT (a.2=b.2))) (k.2.1,o) IN e.2))else u ((aa.wrap (i.1+1)),e.2)) (0,i.2)else rounds (α:=Int×List ((Int×Int)×Bool)) (β:=Int) (λv e=>bif IT (e.1<((k.2.2.2.2).length:Int))then a8 (nth k.2.2.2.2 e.1) λo=>a8 (mH (ff (λ(a b:Int×Int)=>(IT (a.1=b.1)&&IT (a.2=b.2))) (0,o) e.2) (U IS)) λw=>bif w then bif IT (0<=i.1)then U 13 else U 0 else v ((aa.wrap (e.1+1)),(k7 (λ(a b:Int×Int)=>
 (IT (a.1=b.1)&&IT (a.2=b.2))) (0,o) IN e.2))else u ((aa.wrap (i.1+1)),e.2)) (0,i.2)else U 0) (0,([]:List ((Int×Int)×Bool)))else D ((aa.wrap (l.1+1)),p)else a8 (zk (x.2.2.2,())) λm=>bif m then U 2 else a8 (zm (x.2.2.2,())) λG=>bif G then U 9 else a8 (zl (x.2.2.2,())) λH=>bif H then U 14 else a8 (zn (x.2.2.2,())) λv17=>bif v17 then U 1 else a8 (U ()) λE=>a8 (zj (x.2.2.2,(x.1,x.2.1,x.2.2.1,x.2.2.2))) λE=>bif E then U 7 else rounds (α:=Int×List ((Int×Int)×Bool)) (β:=Int) (λz j=>bif IT (j.1<((x.2.2.2).length:Int))then a8 (nth x.2.2.2 j.1) λv24=>a8 (qM v24.2.1) λv29=>bif IT (v29=2)then z ((aa.wrap (j.1+1)),j.2)else bif IT (v29=3)then rounds (α:=Int×List ((Int×Int)×Bool)) (β:=Int) (λB f=>bif IT (f.1<((v24.2.2.2.2).length:Int))then a8 (nth v24.2.2.2.2 f.1) λv37=>a8 (mH (ff (λ(a b:Int×Int)=>(IT (a.1=b.1)&&IT (a.2=b.2))) (v24.2.1,v37) f.2) (U IS)) λC=>bif C then bif IT (0<=j.1)then U 13 else U 0 else B ((aa.wrap (f.1+1)),(k7 (λ(a b:Int×Int)=>(IT (a.1=b.1)&&IT (a.2=b.2))) (v24.2.1,v37) IN f.2))else z ((aa.wrap (j.1+1)),f.2)) (0,j.2)else rounds (α:=Int×List ((Int×Int)×Bool)) (β:=Int) (λB f=>bif IT (f.1<((v24.2.2.2.2).length:Int))then a8 (nth v24.2.2.2.2 f.1) λv37=>a8 (mH (ff (λ(a b:Int×Int)=>
 (IT (a.1=b.1)&&IT (a.2=b.2))) (0,v37) f.2) (U IS)) λC=>bif C then bif IT (0<=j.1)then U 13 else U 0 else B ((aa.wrap (f.1+1)),(k7 (λ(a b:Int×Int)=>(IT (a.1=b.1)&&IT (a.2=b.2))) (0,v37) IN f.2))else z ((aa.wrap (j.1+1)),f.2)) (0,j.2)else U 0) (0,([]:List ((Int×Int)×Bool)))) (0,0)
def G4:ov×Int->Option ((tt×Bool)):=λx=>rounds (α:=Int) (β:=(tt×Bool)) (λc a=>bif IT (a<((x.1.2.2.2).length:Int))then a8 (nth x.1.2.2.2 a) λv9=>bif IT (v9.1=x.2)then a8 (Dm v9.2.2.2.2) λb=>U ((v9.1,v9.2.1,v9.2.2.1,v9.2.2.2.1,b),IN)else c (aa.wrap (a+1))else U ((0,0,0,(dj #[]),([]:List (Int))),IS)) 0
def bits_Len64:Int->Option (Int):=λx=>bif IT (4294967296<=x)then a8 ((bif IT ((32:Int)<0)then No else U (x.fdiv (2^(min (32:Int).toNat cA.bits))))) λv2=>bif IT (65536<=v2)then a8 ((bif IT ((16:Int)<0)then No else U (v2.fdiv (2^(min (16:Int).toNat cA.bits))))) λv4=>bif IT (256<=v4)then a8 ((bif IT ((8:Int)<0)then No else U (v4.fdiv (2^(min (8:Int).toNat cA.bits))))) λv6=>a8 (tP yn (eI.wrap v6)) λb=>U (aa.wrap (56+(aa.wrap b)))else a8 (tP yn (eI.wrap v4)) λa=>U (aa.wrap (48+(aa.wrap a)))else bif IT (256<=v2)then a8 ((bif IT ((8:Int)<0)then No else U (v2.fdiv (2^(min (8:Int).toNat cA.bits))))) λv5=>a8 (tP yn (eI.wrap v5)) λa=>U (aa.wrap (40+(aa.wrap a)))else a8 (tP yn (eI.wrap v2)) λv6=>U (aa.wrap (32+(aa.wrap v6)))else bif IT (65536<=x)then a8 ((bif IT ((16:Int)<0)then No else U (x.fdiv (2^(min (16:Int).toNat cA.bits))))) λv3=>bif IT (256<=v3)then a8 ((bif IT ((8:Int)<0)then No else U (v3.fdiv (2^(min (8:Int).toNat cA.bits))))) λv5=>a8 (tP yn (eI.wrap v5)) λa=>U (aa.wrap (24+(aa.wrap a)))else a8 (tP yn (eI.wrap v3)) λv6=>
 U (aa.wrap (16+(aa.wrap v6)))else bif IT (256<=x)then a8 ((bif IT ((8:Int)<0)then No else U (x.fdiv (2^(min (8:Int).toNat cA.bits))))) λv4=>a8 (tP yn (eI.wrap v4)) λv6=>U (aa.wrap (8+(aa.wrap v6)))else a8 (tP yn (eI.wrap x)) λv5=>U (aa.wrap (0+(aa.wrap v5)))
def bits_Len:Int->Option (Int):=λx=>a8 (bits_Len64 x) λv1=>U v1
def D1:pS×pS->Option (Int):=λx=>a8 (xf (x.1.1,x.2.1)) λa=>U a
def DJ:List pS×Int×(Unit)->Option (List pS):=λx=>bif IT (x.2.1=4)then pT (λa b=>D1 (a,b)) x.1 else No
def yx:oE->Option ((List pS×Int)):=λx=>a8 (xt (x.1,x.2.1,x.2.2)) λv3=>bif !decide (v3.2=0)then bif !decide (v3.2=0)then U (([]:List (Int×List (Int)×List (List (Int))×List (Int))),v3.2)else a8 (bits_Len 0) λc=>rounds (α:=Unit) (β:=(List pS×Int)) (λf g=>U (([]:List (Int×List (Int)×List (List (Int))×List (Int))),0)) ()else a8 (Ae (x.1,x.2.1,x.2.2)) λv6=>a8 (wo ((x.1,x.2.1,x.2.2),v3.1,v6)) λc=>a8 (Ai ((x.1,x.2.1,x.2.2),c)) λe=>bif !(e.2)then U (([]:List (Int×List (Int)×List (List (Int))×List (Int))),12)else rounds (α:=List pS×Int) (β:=(List pS×Int)) (λd a=>bif IT (a.2<((c).length:Int))then a8 (nth c a.2) λb=>a8 (nth e.1 a.2) λv20=>a8 (la 80 a.1 [(v20,b.2.1,b.2.2.1,b.2.2.2)]) λv21=>d (v21,(aa.wrap (a.2+1)))else a8 (U ()) λb=>a8 (DJ (a.1,4,())) λb=>U (b,0)) (([]:List (Int×List (Int)×List (List (Int))×List (Int))),0)
def Aa:oE->Option (List (Int×pS)):=λx=>a8 (yx (x.1,x.2.1,x.2.2)) λv3=>rounds (α:=Int×List (Int×pS)) (β:=List (Int×pS)) (λd c=>bif IT (c.1<((v3.1).length:Int))then a8 (nth v3.1 c.1) λv10=>d ((aa.wrap (c.1+1)),(k7 (λ(a b:Int)=>IT (a=b)) v10.1 (v10.1,v10.2.1,v10.2.2.1,v10.2.2.2) c.2))else U c.2) (0,([]:List (Int×(Int×List (Int)×List (List (Int))×List (Int)))))
def Ah:ov×Int×Int->Option (List Int):=λx=>bif IT (x.2.1<1)then U ([]:List (Int))else bif IT (3<x.2.1)then U ([]:List (Int))else rounds (α:=Int×List Int) (β:=List Int) (λc a=>bif IT (a.1<((x.1.2.2.2).length:Int))then a8 (nth x.1.2.2.2 a.1) λb=>a8 (qM b.2.1) λd=>bif IT (d=x.2.1)then a8 (rL (b.2.2.2.2,x.2.2)) λv20=>bif v20 then a8 (la 8 a.2 [b.1]) λv21=>c ((aa.wrap (a.1+1)),v21)else c ((aa.wrap (a.1+1)),a.2)else c ((aa.wrap (a.1+1)),a.2)else U a.2) (0,([]:List (Int)))
def DZ:List Int×List Int->Option (Bool):=λx=>bif !decide (((x.1).length:Int)=((x.2).length:Int))then U IS else rounds (α:=Int) (β:=Bool) (λb a=>bif IT (a<((x.1).length:Int))then a8 (nth x.1 a) λv9=>a8 (nth x.2 a) λv10=>bif !decide (v9=v10)then U IS else b (aa.wrap (a+1))else U IN) 0
def xy:oE×Int->Option (Int):=λx=>a8 (Am ((x.1.1,x.1.2.1,x.1.2.2),x.2)) λv4=>bif !(v4.2)then U 0 else bif IT (0<x.2)then U v4.1.2.1 else U v4.1.2.2.1
def B3:List (List Int)->Option (List Int):=λx=>rounds (α:=Int×Int) (β:=List Int) (λu j=>bif IT (j.2<((x).length:Int))then a8 (nth x j.2) λv6=>a8 (U (aa.wrap (j.1+((v6).length:Int)))) λs=>bif IT (s<0)then No else u (s,(aa.wrap (j.2+1)))else bif IT (j.1<0)then No else a8 (U (aa.wrap (j.1-0))) λt=>bif IT (0<t)then a8 (yq 8 (0:Int) t) λv9=>a8 (U ()) λv10=>rounds (α:=List Int×Int) (β:=List Int) (λm g=>bif IT (g.2<((x).length:Int))then a8 (nth x g.2) λc=>a8 (la 8 g.1 c) λn=>m (n,(aa.wrap (g.2+1)))else a8 (U ()) λc=>a8 (vO (g.1,1)) λc=>bif IT (((c).length:Int)<2)then U c else rounds (α:=Int) (β:=List Int) (λo e=>bif IT (e<((c).length:Int))then a8 ((bif IT (0<=e)&&IT (e<(c).length)then U ()else No)) λv22=>a8 (((c)[(e).toNat]?).map (λx=>x)) λv22=>a8 (U (aa.wrap (e-1))) λv23=>a8 ((bif IT (0<=v23)&&IT (v23<(c).length)then U ()else No)) λv24=>a8 (((c)[(v23).toNat]?).map (λx=>x)) λv24=>bif IT (v22=v24)then a8 (sb (c).length e) λv26=>rounds (α:=Int×List Int×Int) (β:=List Int) (λk a=>a8 (CX v26.2) λv32=>bif IT (a.1<v26.2)then a8 (v8 v26.1 v26.2 a.1) λv33=>a8 (((a.2.1)[(v33).toNat]?).map (λx=>x)) λi=>a8 (v8 v26.1 v26.2 (aa.wrap (a.1-1))) λv36=>
 a8 (((a.2.1)[(v36).toNat]?).map (λx=>x)) λv37=>bif !decide (i=v37)then a8 (v8 v26.1 v26.2 a.1) λv39=>a8 (((a.2.1)[(v39).toNat]?).map (λx=>x)) λv40=>a8 ((bif IT (0<=a.2.2)&&IT (a.2.2<(a.2.1).length)then U ()else No)) λv41=>a8 (rG a.2.1 (a.2.2).toNat (λx y=>y) v40) λv41=>k ((aa.wrap (a.1+1)),v41,(aa.wrap (a.2.2+1)))else k ((aa.wrap (a.1+1)),a.2.1,a.2.2)else a8 (sb (a.2.1).length a.2.2) λv33=>a8 (uF a.2.1 v33.1 v33.2) λv35=>a8 (uB (a.2.1).length (v35).length a.2.2) λv36=>U v35) (1,c,e)else o (aa.wrap (e+1))else U c) 1) (([]:List (Int)),0)else rounds (α:=List Int×Int) (β:=List Int) (λp h=>bif IT (h.2<((x).length:Int))then a8 (nth x h.2) λd=>a8 (la 8 h.1 d) λc=>p (c,(aa.wrap (h.2+1)))else a8 (U ()) λd=>a8 (vO (h.1,1)) λd=>bif IT (((d).length:Int)<2)then U d else rounds (α:=Int) (β:=List Int) (λq f=>bif IT (f<((d).length:Int))then a8 ((bif IT (0<=f)&&IT (f<(d).length)then U ()else No)) λv21=>a8 (((d)[(f).toNat]?).map (λx=>x)) λv21=>a8 (U (aa.wrap (f-1))) λv22=>a8 ((bif IT (0<=v22)&&IT (v22<(d).length)then U ()else No)) λv23=>a8 (((d)[(v22).toNat]?).map (λx=>x)) λv23=>bif IT (v21=v23)then a8 (sb (d).length f) λv25=>
 rounds (α:=Int×List Int×Int) (β:=List Int) (λl b=>a8 (CX v25.2) λv31=>bif IT (b.1<v25.2)then a8 (v8 v25.1 v25.2 b.1) λv32=>a8 (((b.2.1)[(v32).toNat]?).map (λx=>x)) λv33=>a8 (v8 v25.1 v25.2 (aa.wrap (b.1-1))) λv35=>a8 (((b.2.1)[(v35).toNat]?).map (λx=>x)) λv36=>bif !decide (v33=v36)then a8 (v8 v25.1 v25.2 b.1) λr=>a8 (((b.2.1)[(r).toNat]?).map (λx=>x)) λv39=>a8 ((bif IT (0<=b.2.2)&&IT (b.2.2<(b.2.1).length)then U ()else No)) λv40=>a8 (rG b.2.1 (b.2.2).toNat (λx y=>y) v39) λv40=>l ((aa.wrap (b.1+1)),v40,(aa.wrap (b.2.2+1)))else l ((aa.wrap (b.1+1)),b.2.1,b.2.2)else a8 (sb (b.2.1).length b.2.2) λv32=>a8 (uF b.2.1 v32.1 v32.2) λi=>a8 (uB (b.2.1).length (i).length b.2.2) λv35=>U i) (1,d,f)else q (aa.wrap (f+1))else U d) 1) (([]:List (Int)),0)) (0,0)
def DM:Int×Int->Option (Bool):=λx=>a8 (xm x.1) λv2=>bif v2 then a8 (xm x.2) λv3=>bif !(v3)then U IN else U (IT (x.1<x.2))else U (IT (x.1<x.2))
def El:List Int×List Int->Option (List Int):=λx=>a8 (U ()) λv2=>a8 (B3 [x.2]) λv2=>a8 (U ()) λv3=>a8 (B3 [x.1]) λv3=>rounds (α:=Int×List Int) (β:=List Int) (λd c=>bif IT (c.1<((v3).length:Int))then a8 (nth v3 c.1) λv9=>rounds (α:=Int×Int) (β:=List Int) (λe a=>bif IT (a.2<a.1)then a8 ((bif IT ((1:Int)<0)then No else U ((cA.wrap (aa.wrap (a.2+a.1))).fdiv (2^(min (1:Int).toNat cA.bits))))) λv17=>a8 (U (aa.wrap v17)) λb=>a8 (nth v2 b) λf=>a8 (DM (f,v9)) λv20=>bif v20 then e (a.1,(aa.wrap (b+1)))else e (b,a.2)else bif IT (a.2<((v2).length:Int))then a8 (nth v2 a.2) λg=>bif IT (g=v9)then a8 (la 8 c.2 [v9]) λb=>d ((aa.wrap (c.1+1)),b)else a8 (nth v2 a.2) λb=>bif !decide (b=b)then bif !decide (v9=v9)then a8 (la 8 c.2 [v9]) λv21=>d ((aa.wrap (c.1+1)),v21)else d ((aa.wrap (c.1+1)),c.2)else d ((aa.wrap (c.1+1)),c.2)else d ((aa.wrap (c.1+1)),c.2)) (((v2).length:Int),0)else U c.2) (0,([]:List (Int)))
def D4:ov×Int×Int×List (Int×Bool)->Option (Bool):=λx=>rounds (α:=Int) (β:=Bool) (λh g=>bif IT (g<((x.1.2.2.2).length:Int))then a8 (nth x.1.2.2.2 g) λv11=>bif IT (v11.1=x.2.1)then h (aa.wrap (g+1))else a8 (qM v11.2.1) λv17=>bif !decide (v17=3)then h (aa.wrap (g+1))else a8 (rL (v11.2.2.2.2,x.2.2.1)) λi=>bif !(i)then h (aa.wrap (g+1))else rounds (α:=Int) (β:=Bool) (λe c=>bif IT (c<((x.1.2.2.2).length:Int))then a8 (nth x.1.2.2.2 c) λv25=>bif IT (v25.1=x.2.1)then e (aa.wrap (c+1))else a8 (qM v25.2.1) λv31=>bif !decide (v31=3)then e (aa.wrap (c+1))else a8 (El (v11.2.2.2.2,v25.2.2.2.2)) λv33=>bif IT ((0:Int)<((v33).length:Int))then e (aa.wrap (c+1))else rounds (α:=Int) (β:=Bool) (λf d=>bif IT (d<((x.1.2.1).length:Int))then a8 (nth x.1.2.1 d) λv40=>a8 (rL (v11.2.2.2.2,v40.2.2.2.2.1)) λv46=>a8 (rL (v11.2.2.2.2,v40.2.2.2.2.2)) λj=>bif (v46==j)then f (aa.wrap (d+1))else a8 (mH (ff (λ(a b:Int)=>IT (a=b)) v40.1 x.2.2.2) (U IS)) λv49=>bif v49 then f (aa.wrap (d+1))else bif v46 then a8 (rL (v25.2.2.2.2,v40.2.2.2.2.2)) λv50=>bif !(v50)then e (aa.wrap (c+1))else f (aa.wrap (d+1))else a8 (rL (v25.2.2.2.2,v40.2.2.2.2.1)) λv50=>
 bif !(v50)then e (aa.wrap (c+1))else f (aa.wrap (d+1))else U IN) 0 else h (aa.wrap (g+1))) 0 else U IS) 0
def z8:ov×List (Int×pS)×tt->Option ((Int×Bool)):=λx=>a8 (qM x.2.2.2.1) λv10=>bif !decide (v10=3)then U (0,IS)else bif !decide (((x.2.2.2.2.2.2).length:Int)=1)then U (0,IS)else a8 (nth x.2.2.2.2.2.2 0) λe=>a8 (U (ff (λ(a b:Int)=>IT (a=b)) e x.2.1).isSome) λf=>bif f then a8 (mH (ff (λ(a b:Int)=>IT (a=b)) e x.2.1) No) λc=>bif IT (((c.2.1).length:Int)=0)then U (0,IS)else bif IT ((0:Int)<((c.2.2.1).length:Int))then U (0,IS)else bif IT ((0:Int)<((c.2.2.2).length:Int))then U (0,IS)else a8 (Ah ((x.1.1,x.1.2.1,x.1.2.2.1,x.1.2.2.2),3,c.1)) λv26=>a8 (U ()) λv27=>a8 (DZ (v26,[x.2.2.1])) λv27=>bif !(v27)then U (0,IS)else a8 (nth c.2.1 0) λv29=>a8 (wz ((x.1.1,x.1.2.1,x.1.2.2.1),(aa.wrap (0-v29)))) λv31=>rounds (α:=Int×List (Int×Bool)) (β:=(Int×Bool)) (λg d=>bif IT (d.1<((c.2.1).length:Int))then a8 (nth c.2.1 d.1) λv37=>a8 (U (bh py v37 [(aa.wrap (0-v37))])) λv39=>a8 (xy ((x.1.1,x.1.2.1,x.1.2.2.1),v37)) λv40=>a8 (mH (ff (λ(a b:Int)=>IT (a=b)) v39 d.2) (U IS)) λv41=>bif v41 then U (0,IS)else a8 (wz ((x.1.1,x.1.2.1,x.1.2.2.1),(aa.wrap (0-v37)))) λh=>bif !decide (h=v31)then U (0,IS)else a8 (B8 ((x.1.1,x.1.2.1,x.1.2.2.1),v40)) λv45=>bif !decide (v45=2)then U (0,IS)else a8 (Ah ((x.1.1,x.1.2.1,x.1.2.2.1,x.1.2.2.2),1,v40)) λi=>
 bif IT ((0:Int)<((i).length:Int))then U (0,IS)else a8 (Ah ((x.1.1,x.1.2.1,x.1.2.2.1,x.1.2.2.2),2,v39)) λv50=>bif IT ((0:Int)<((v50).length:Int))then U (0,IS)else g ((aa.wrap (d.1+1)),(k7 (λ(a b:Int)=>IT (a=b)) v39 IN d.2))else a8 (U ()) λv37=>a8 (D4 ((x.1.1,x.1.2.1,x.1.2.2.1,x.1.2.2.2),x.2.2.1,v31,d.2)) λv37=>bif v37 then U (0,IS)else U (v31,IN)) (0,([]:List (Int×Bool)))else U (0,IS)
def Eu:ma->Option ((Int×Int×Int×Int)):=λx=>bif IT (((x).length:Int)=0)then U (0,0,(-1),(-1))else a8 (nth x 0) λv3=>a8 (nth x 0) λv5=>a8 (nth x 0) λd=>a8 (nth x 0) λv9=>rounds (α:=Int×Int×Int×Int×Int) (β:=(Int×Int×Int×Int)) (λc a=>bif IT (a.1<((x).length:Int))then a8 (nth x a.1) λb=>c ((aa.wrap (a.1+1)),(bh s8 a.2.1 [b.1]),(bh s8 a.2.2.1 [b.2]),(bh py a.2.2.2.1 [b.1]),(bh py a.2.2.2.2 [b.2]))else U (a.2.1,a.2.2.1,a.2.2.2.1,a.2.2.2.2)) (0,v3.1,v5.2,d.1,v9.2)
def HG:Int×Int->Option (Int):=λx=>a8 (U (IT (x.2=0))) λv2=>bif v2 then U 21 else a8 (U (IT (x.1=(-9223372036854775808)))) λv3=>bif v3 then a8 (U (IT (x.2=(-1)))) λv4=>bif v4 then U 15 else U 0 else U 0
def xG:Int×Int->Option ((Int×Int)):=λx=>a8 (HG (x.1,x.2)) λv2=>bif !decide (v2=0)then U (0,v2)else a8 ((bif IT (x.2=0)then No else U (aa.wrap (x.1.tdiv x.2)))) λv4=>a8 ((bif IT (x.2=0)then No else U (x.1.tmod x.2))) λv5=>bif !decide (v5=0)then bif ((IT (v5<0))==(IT (x.2<0)))then U ((aa.wrap (v4+1)),0)else U (v4,0)else U (v4,0)
def Ec:(Int×Int)×(Int×Int)->Option (Int):=λx=>a8 (xf (x.1.1,x.2.1)) λv4=>U v4
def Ga:ma×Int×(Unit)->Option (ma):=λx=>bif IT (x.2.1=2)then pT (λa b=>Ec (a,b)) x.1 else No
def B9:ma->Option (ma):=λx=>a8 (Fo 16 ((0,0):Int×Int) ((x).length:Int)) λv2=>a8 (EC v2 x) λv3=>a8 (U ()) λv4=>a8 (Ga (v3,2,())) λv4=>rounds (α:=ma×Int) (β:=ma) (λe b=>bif IT (b.2<((v4).length:Int))then a8 ((bif IT (0<=b.2)&&IT (b.2<(v4).length)then U ()else No)) λv10=>a8 (((v4)[(b.2).toNat]?).map (λx=>(x.1,x.2))) λv10=>a8 (U (aa.wrap (((b.1).length:Int)-1))) λa=>bif IT (v10.2<=v10.1)then e (b.1,(aa.wrap (b.2+1)))else bif IT (0<=a)then a8 ((bif IT (0<=a)&&IT (a<(b.1).length)then U ()else No)) λc=>a8 (U ()) λc=>a8 (((b.1)[(a).toNat]?).map (λx=>x.2)) λc=>bif IT (v10.1<=c)then a8 ((bif IT (0<=a)&&IT (a<(b.1).length)then U ()else No)) λd=>a8 (U ()) λd=>a8 (((b.1)[(a).toNat]?).map (λx=>x.2)) λd=>a8 ((bif IT (0<=a)&&IT (a<(b.1).length)then U ()else No)) λv20=>a8 (U ()) λv20=>a8 (rG b.1 (a).toNat (λx y=>(x.1,y)) (bh py d [v10.2])) λv20=>e (v20,(aa.wrap (b.2+1)))else a8 (la 16 b.1 [(v10.1,v10.2)]) λd=>e (d,(aa.wrap (b.2+1)))else a8 (la 16 b.1 [(v10.1,v10.2)]) λc=>e (c,(aa.wrap (b.2+1)))else U b.1) (([]:List (Int×Int)),0)
def EL:ma×ma->Option (ma):=λx=>a8 (B9 x.2) λv2=>a8 (B9 x.1) λv3=>rounds (α:=ma×Int×ma) (β:=ma) (λe d=>bif IT (d.2.1<((v3).length:Int))then a8 (nth v3 d.2.1) λv10=>rounds (α:=ma) (β:=ma) (λh a=>bif IT ((0:Int)<((a).length:Int))then a8 (nth a 0) λi=>bif IT (i.2<=v10.1)then a8 (xg a (U 1) No) λj=>h j else rounds (α:=Int×Int×ma) (β:=ma) (λf b=>bif IT (b.2.1<((a).length:Int))then a8 (nth a b.2.1) λv25=>bif IT (v25.1<v10.2)then a8 (nth a b.2.1) λv28=>bif IT (b.1<v28.1)then a8 (la 16 b.2.2 [(b.1,v28.1)]) λv31=>a8 (nth a b.2.1) λv32=>f (v32.2,(aa.wrap (b.2.1+1)),v31)else a8 (nth a b.2.1) λv31=>f (v31.2,(aa.wrap (b.2.1+1)),b.2.2)else bif IT (b.1<v10.2)then a8 (la 16 b.2.2 [(b.1,v10.2)]) λv29=>e (a,(aa.wrap (d.2.1+1)),v29)else e (a,(aa.wrap (d.2.1+1)),b.2.2)else bif IT (b.1<v10.2)then a8 (la 16 b.2.2 [(b.1,v10.2)]) λv26=>e (a,(aa.wrap (d.2.1+1)),v26)else e (a,(aa.wrap (d.2.1+1)),b.2.2)) (v10.1,0,d.2.2)else rounds (α:=Int×Int×ma) (β:=ma) (λg c=>bif IT (c.2.1<((a).length:Int))then a8 (nth a c.2.1) λv22=>bif IT (v22.1<v10.2)then a8 (nth a c.2.1) λv25=>bif IT (c.1<v25.1)then a8 (la 16 c.2.2 [(c.1,v25.1)]) λv28=>a8 (nth a c.2.1) λv29=>
 g (v29.2,(aa.wrap (c.2.1+1)),v28)else a8 (nth a c.2.1) λv28=>g (v28.2,(aa.wrap (c.2.1+1)),c.2.2)else bif IT (c.1<v10.2)then a8 (la 16 c.2.2 [(c.1,v10.2)]) λv26=>e (a,(aa.wrap (d.2.1+1)),v26)else e (a,(aa.wrap (d.2.1+1)),c.2.2)else bif IT (c.1<v10.2)then a8 (la 16 c.2.2 [(c.1,v10.2)]) λv23=>e (a,(aa.wrap (d.2.1+1)),v23)else e (a,(aa.wrap (d.2.1+1)),c.2.2)) (v10.1,0,d.2.2)) d.1 else U d.2.2) (v2,0,([]:List (Int×Int)))
def DV:Ak×oE×pS×Int->Option (ma):=λx=>a8 (xn (x.2.2.1.1,x.2.2.1.2.1,x.2.2.1.2.2.1,x.2.2.1.2.2.2)) λv9=>rounds (α:=Int×List Int×ma) (β:=ma) (λo h=>bif IT (h.1<((v9).length:Int))then a8 (nth v9 h.1) λm=>rounds (α:=Int×List Int×ma) (β:=ma) (λp i=>bif IT (i.1<((m).length:Int))then a8 (nth m i.1) λv23=>a8 (mH (ff (λ(a b:Int)=>IT (a=b)) (bh py v23 [(aa.wrap (0-v23))]) x.1) No) λv26=>rounds (α:=Int×List Int×ma) (β:=ma) (λf c=>bif IT (c.1<((v26).length:Int))then a8 (nth v26 (aa.wrap (c.1-1))) λd=>a8 (nth v26 c.1) λv36=>bif IT (v36.2<d.2)then bif IT (x.2.2.2<v36.2)then f ((aa.wrap (c.1+1)),c.2.1,c.2.2)else bif IT (d.2<x.2.2.2)then f ((aa.wrap (c.1+1)),c.2.1,c.2.2)else bif IT (v36.2=d.2)then a8 (la 16 c.2.2 [((bh s8 v36.1 [d.1]),(aa.wrap ((bh py v36.1 [d.1])+1)))]) λv45=>f ((aa.wrap (c.1+1)),c.2.1,v45)else a8 (U (aa.wrap ((aa.wrap (x.2.2.2-v36.2))*(aa.wrap (d.1-v36.1))))) λv44=>a8 (U (aa.wrap (d.2-v36.2))) λv45=>a8 (xG (v44,v45)) λv46=>bif IT ((aa.wrap (v46.1*v45))=v44)then a8 (la 16 c.2.2 [((aa.wrap (v36.1+v46.1)),(aa.wrap ((aa.wrap (v36.1+v46.1))+1)))]) λv53=>bif IT (x.2.2.2<d.2)then a8 (la 8 c.2.1 [(aa.wrap (v36.1+v46.1))]) λj=>
 f ((aa.wrap (c.1+1)),j,v53)else f ((aa.wrap (c.1+1)),c.2.1,v53)else bif IT (x.2.2.2<d.2)then a8 (la 8 c.2.1 [(aa.wrap (v36.1+v46.1))]) λk=>f ((aa.wrap (c.1+1)),k,c.2.2)else f ((aa.wrap (c.1+1)),c.2.1,c.2.2)else bif IT (x.2.2.2<d.2)then f ((aa.wrap (c.1+1)),c.2.1,c.2.2)else bif IT (v36.2<x.2.2.2)then f ((aa.wrap (c.1+1)),c.2.1,c.2.2)else bif IT (d.2=v36.2)then a8 (la 16 c.2.2 [((bh s8 d.1 [v36.1]),(aa.wrap ((bh py d.1 [v36.1])+1)))]) λv45=>f ((aa.wrap (c.1+1)),c.2.1,v45)else a8 (U (aa.wrap ((aa.wrap (x.2.2.2-d.2))*(aa.wrap (v36.1-d.1))))) λv44=>a8 (U (aa.wrap (v36.2-d.2))) λv45=>a8 (xG (v44,v45)) λv46=>bif IT ((aa.wrap (v46.1*v45))=v44)then a8 (la 16 c.2.2 [((aa.wrap (d.1+v46.1)),(aa.wrap ((aa.wrap (d.1+v46.1))+1)))]) λv53=>bif IT (x.2.2.2<v36.2)then a8 (la 8 c.2.1 [(aa.wrap (d.1+v46.1))]) λj=>f ((aa.wrap (c.1+1)),j,v53)else f ((aa.wrap (c.1+1)),c.2.1,v53)else bif IT (x.2.2.2<v36.2)then a8 (la 8 c.2.1 [(aa.wrap (d.1+v46.1))]) λk=>
 f ((aa.wrap (c.1+1)),k,c.2.2)else f ((aa.wrap (c.1+1)),c.2.1,c.2.2)else p ((aa.wrap (i.1+1)),c.2.1,c.2.2)) (1,i.2.1,i.2.2)else o ((aa.wrap (h.1+1)),i.2.1,i.2.2)) (0,h.2.1,h.2.2)else rounds (α:=Int×ma) (β:=ma) (λl g=>bif IT (g.1<((x.2.2.1.2.2.2).length:Int))then a8 (nth x.2.2.1.2.2.2 g.1) λv21=>a8 (wC ((x.2.1.1,x.2.1.2.1,x.2.1.2.2),v21)) λv22=>bif v22.2 then bif IT (v22.1.2.2=x.2.2.2)then a8 (la 16 g.2 [(v22.1.2.1,(aa.wrap (v22.1.2.1+1)))]) λv28=>l ((aa.wrap (g.1+1)),v28)else l ((aa.wrap (g.1+1)),g.2)else l ((aa.wrap (g.1+1)),g.2)else a8 (U ()) λv21=>a8 (vO (h.2.1,1)) λv21=>rounds (α:=Int×ma) (β:=ma) (λn e=>bif IT (e.1<((v21).length:Int))then a8 (U (aa.wrap (e.1-1))) λv27=>a8 ((bif IT (0<=v27)&&IT (v27<(v21).length)then U ()else No)) λv28=>a8 (((v21)[(v27).toNat]?).map (λx=>x)) λv28=>a8 ((bif IT (0<=e.1)&&IT (e.1<(v21).length)then U ()else No)) λv29=>a8 (((v21)[(e.1).toNat]?).map (λx=>x)) λv29=>bif IT (v28<v29)then a8 (U (aa.wrap (e.1-1))) λv31=>a8 ((bif IT (0<=v31)&&IT (v31<(v21).length)then U ()else No)) λv32=>a8 (((v21)[(v31).toNat]?).map (λx=>x)) λv32=>a8 ((bif IT (0<=e.1)&&IT (e.1<(v21).length)then U ()else No)) λv33=>a8 (((v21)[(e.1).toNat]?).map (λx=>
 x)) λv33=>a8 (la 16 e.2 [(v32,v33)]) λd=>n ((aa.wrap (e.1+2)),d)else n ((aa.wrap (e.1+2)),e.2)else bif IT (((e.2).length:Int)=0)then U ([]:List (Int×Int))else a8 (U ()) λv29=>a8 (U ()) λv29=>a8 (EL (e.2,g.2)) λv29=>U v29) (1,([]:List (Int×Int)))) (0,h.2.2)) (0,([]:List (Int)),([]:List (Int×Int)))
def rJ:Ak×oE×pS×Int->Option (((Int×Int)×Bool)):=λx=>a8 (DV (x.1,(x.2.1.1,x.2.1.2.1,x.2.1.2.2),(x.2.2.1.1,x.2.2.1.2.1,x.2.2.1.2.2.1,x.2.2.1.2.2.2),x.2.2.2)) λv9=>rounds (α:=Int×Bool×Int×Int×Int) (β:=((Int×Int)×Bool)) (λc a=>bif IT (a.1<((v9).length:Int))then a8 (nth v9 a.1) λb=>a8 (U (aa.wrap (b.2-b.1))) λv20=>bif IT (a.2.2.1<v20)then a8 ((bif IT ((1:Int)<0)then No else U ((aa.wrap ((aa.wrap (b.1+b.2))-1)).fdiv (2^(min (1:Int).toNat aa.bits))))) λv24=>c ((aa.wrap (a.1+1)),IN,v20,v24,x.2.2.2)else c ((aa.wrap (a.1+1)),a.2.1,a.2.2.1,a.2.2.2.1,a.2.2.2.2)else U ((a.2.2.2.1,a.2.2.2.2),a.2.1)) (0,IS,0,0,0)
def vg:oE×Int->Option (((Int×Int)×Bool)):=λx=>a8 (xt (x.1.1,x.1.2.1,x.1.2.2)) λv4=>bif !decide (v4.2=0)then bif !decide (v4.2=0)then U ((0,0),IS)else a8 (U ()) λg=>a8 (yv (([]:List (Int)),x.2)) λg=>bif IT (g<1)then U ((0,0),IS)else No else a8 (Ae (x.1.1,x.1.2.1,x.1.2.2)) λl=>a8 (wo ((x.1.1,x.1.2.1,x.1.2.2),v4.1,l)) λg=>a8 (Ai ((x.1.1,x.1.2.1,x.1.2.2),g)) λv9=>bif !(v9.2)then U ((0,0),IS)else a8 (yv (v9.1,x.2)) λv12=>bif IT (v12<1)then U ((0,0),IS)else a8 (nth g v12) λo=>rounds (α:=Int×ma) (β:=((Int×Int)×Bool)) (λp i=>bif IT (i.1<((o.2.1).length:Int))then a8 (nth o.2.1 i.1) λv23=>a8 (mH (ff (λ(a b:Int)=>IT (a=b)) (bh py v23 [(aa.wrap (0-v23))]) l) No) λv26=>rounds (α:=Int×ma) (β:=((Int×Int)×Bool)) (λq h=>bif IT (h.1<((v26).length:Int))then a8 (nth v26 (aa.wrap (h.1-1))) λv33=>a8 (nth v26 h.1) λv35=>a8 (la 16 h.2 [(v33.1,v33.2),(v35.1,v35.2)]) λv37=>q ((aa.wrap (h.1+1)),v37)else p ((aa.wrap (i.1+1)),h.2)) (1,i.2)else a8 (U ()) λv23=>a8 (Eu i.2) λv23=>a8 (U (aa.wrap (v23.2.1+v23.2.2.2))) λv27=>a8 ((bif IT ((1:Int)<0)then No else U (v27.fdiv (2^(min (1:Int).toNat aa.bits))))) λv28=>rounds (α:=Int×Int×Int) (β:=((Int×Int)×Bool)) (λd c=>
 bif IT ((aa.wrap (v28+c.1))<=v23.2.2.2)then a8 (U (aa.wrap (v28+c.1))) λv35=>a8 (U (aa.wrap (v28-c.1))) λv36=>bif IT (v35<v23.2.1)then bif IT (v36<v23.2.1)then d ((aa.wrap (c.1+1)),c.2.1,c.2.2)else bif IT (v23.2.2.2<v36)then d ((aa.wrap (c.1+1)),c.2.1,c.2.2)else a8 (nth g v12) λv40=>a8 (rJ (l,(x.1.1,x.1.2.1,x.1.2.2),(v40.1,v40.2.1,v40.2.2.1,v40.2.2.2),v36)) λv44=>bif v44.2 then U ((v44.1.1,v44.1.2),IN)else d ((aa.wrap (c.1+1)),v44.1.1,v44.1.2)else bif IT (v23.2.2.2<v35)then bif IT (v36<v23.2.1)then d ((aa.wrap (c.1+1)),c.2.1,c.2.2)else bif IT (v23.2.2.2<v36)then d ((aa.wrap (c.1+1)),c.2.1,c.2.2)else a8 (nth g v12) λv41=>a8 (rJ (l,(x.1.1,x.1.2.1,x.1.2.2),(v41.1,v41.2.1,v41.2.2.1,v41.2.2.2),v36)) λv45=>bif v45.2 then U ((v45.1.1,v45.1.2),IN)else d ((aa.wrap (c.1+1)),v45.1.1,v45.1.2)else a8 (nth g v12) λv39=>a8 (rJ (l,(x.1.1,x.1.2.1,x.1.2.2),(v39.1,v39.2.1,v39.2.2.1,v39.2.2.2),v35)) λe=>bif e.2 then U ((e.1.1,e.1.2),IN)else bif IT (v36<v23.2.1)then d ((aa.wrap (c.1+1)),e.1.1,e.1.2)else bif IT (v23.2.2.2<v36)then d ((aa.wrap (c.1+1)),e.1.1,e.1.2)else a8 (nth g v12) λm=>a8 (rJ (l,(x.1.1,x.1.2.1,x.1.2.2),(m.1,m.2.1,m.2.2.1,m.2.2.2),v36)) λj=>
 bif j.2 then U ((j.1.1,j.1.2),IN)else d ((aa.wrap (c.1+1)),j.1.1,j.1.2)else bif IT (v23.2.1<=(aa.wrap (v28-c.1)))then a8 (U (aa.wrap (v28+c.1))) λv37=>a8 (U (aa.wrap (v28-c.1))) λf=>bif IT (v37<v23.2.1)then bif IT (f<v23.2.1)then d ((aa.wrap (c.1+1)),c.2.1,c.2.2)else bif IT (v23.2.2.2<f)then d ((aa.wrap (c.1+1)),c.2.1,c.2.2)else a8 (nth g v12) λn=>a8 (rJ (l,(x.1.1,x.1.2.1,x.1.2.2),(n.1,n.2.1,n.2.2.1,n.2.2.2),f)) λv46=>bif v46.2 then U ((v46.1.1,v46.1.2),IN)else d ((aa.wrap (c.1+1)),v46.1.1,v46.1.2)else bif IT (v23.2.2.2<v37)then bif IT (f<v23.2.1)then d ((aa.wrap (c.1+1)),c.2.1,c.2.2)else bif IT (v23.2.2.2<f)then d ((aa.wrap (c.1+1)),c.2.1,c.2.2)else a8 (nth g v12) λe=>a8 (rJ (l,(x.1.1,x.1.2.1,x.1.2.2),(e.1,e.2.1,e.2.2.1,e.2.2.2),f)) λk=>bif k.2 then U ((k.1.1,k.1.2),IN)else d ((aa.wrap (c.1+1)),k.1.1,k.1.2)else a8 (nth g v12) λv41=>a8 (rJ (l,(x.1.1,x.1.2.1,x.1.2.2),(v41.1,v41.2.1,v41.2.2.1,v41.2.2.2),v37)) λv45=>bif v45.2 then U ((v45.1.1,v45.1.2),IN)else bif IT (f<v23.2.1)then d ((aa.wrap (c.1+1)),v45.1.1,v45.1.2)else bif IT (v23.2.2.2<f)then d ((aa.wrap (c.1+1)),v45.1.1,v45.1.2)else a8 (nth g v12) λv50=>
 a8 (rJ (l,(x.1.1,x.1.2.1,x.1.2.2),(v50.1,v50.2.1,v50.2.2.1,v50.2.2.2),f)) λv54=>bif v54.2 then U ((v54.1.1,v54.1.2),IN)else d ((aa.wrap (c.1+1)),v54.1.1,v54.1.2)else U ((0,0),IS)) (0,0,0)) (0,([]:List (Int×Int)))
def GI:ov×Int->Option ((Int×Bool)):=λx=>a8 (yB (x.1.1,x.1.2.1,x.1.2.2.1,x.1.2.2.2)) λv5=>bif !decide (v5=0)then U (0,IS)else a8 (G4 ((x.1.1,x.1.2.1,x.1.2.2.1,x.1.2.2.2),x.2)) λa=>bif !(a.2)then U (0,IS)else a8 (Aa (x.1.1,x.1.2.1,x.1.2.2.1)) λc=>a8 (z8 ((x.1.1,x.1.2.1,x.1.2.2.1,x.1.2.2.2),c,(a.1.1,a.1.2.1,a.1.2.2.1,a.1.2.2.2.1,a.1.2.2.2.2))) λb=>bif !(b.2)then U (0,IS)else a8 (nth a.1.2.2.2.2 0) λd=>a8 (vg ((x.1.1,x.1.2.1,x.1.2.2.1),d)) λe=>bif !(e.2)then U (0,IS)else U (b.1,IN)
def D7:oE×Int->Option (Int):=λx=>rounds (α:=Int×Int) (β:=Int) (λd a=>bif IT (a.1<((x.1.2.1).length:Int))then a8 (nth x.1.2.1 a.1) λv9=>bif IT (v9.2.2.2.2.1=x.2)then a8 (U ()) λb=>a8 (wu ((x.1.1,x.1.2.1,x.1.2.2),[v9.1])) λb=>bif IT (v9.2.2.2.2.2=x.2)then a8 (U ()) λc=>a8 (wu ((x.1.1,x.1.2.1,x.1.2.2),[v9.1])) λc=>d ((aa.wrap (a.1+1)),(aa.wrap ((aa.wrap (a.2+b))-c)))else d ((aa.wrap (a.1+1)),(aa.wrap (a.2+b)))else bif IT (v9.2.2.2.2.2=x.2)then a8 (U ()) λv17=>a8 (wu ((x.1.1,x.1.2.1,x.1.2.2),[v9.1])) λv17=>d ((aa.wrap (a.1+1)),(aa.wrap (a.2-v17)))else d ((aa.wrap (a.1+1)),a.2)else U a.2) (0,0)
def DU:List Int->Option (Int):=λx=>rounds (α:=Int) (β:=Int) (λb a=>bif IT (a<((x).length:Int))then a8 (nth x a) λv5=>bif !decide (v5=0)then U v5 else b (aa.wrap (a+1))else U 0) 0
def DN:(Int×Int×Int)×(Int×Int×Int)->Option (Int):=λx=>a8 (xf (x.1.2.2,x.2.2.2)) λv6=>a8 (xf (x.1.1,x.2.1)) λb=>a8 (U ()) λa=>a8 (DU [v6,b]) λa=>U a
def Rp:List (Int×Int×Int)×Int×(Unit)->Option (List (Int×Int×Int)):=λx=>bif IT (x.2.1=3)then pT (λa b=>DN (a,b)) x.1 else No
def z6:ov×Int->Option (List (Int×Int×Int)):=λx=>a8 (Aa (x.1.1,x.1.2.1,x.1.2.2.1)) λv5=>rounds (α:=Int×List (Int×Int×Int)) (β:=List (Int×Int×Int)) (λb a=>bif IT (a.1<((x.1.2.2.2).length:Int))then a8 (nth x.1.2.2.2 a.1) λv11=>a8 (z8 ((x.1.1,x.1.2.1,x.1.2.2.1,x.1.2.2.2),v5,(v11.1,v11.2.1,v11.2.2.1,v11.2.2.2.1,v11.2.2.2.2))) λc=>bif !(c.2)then b ((aa.wrap (a.1+1)),a.2)else a8 (nth v11.2.2.2.2 0) λd=>a8 (D7 ((x.1.1,x.1.2.1,x.1.2.2.1),d)) λv20=>bif IT (v20<x.2)then a8 (nth v11.2.2.2.2 0) λv22=>a8 (la 24 a.2 [(v11.1,v22,v20)]) λv23=>b ((aa.wrap (a.1+1)),v23)else b ((aa.wrap (a.1+1)),a.2)else a8 (U ()) λv11=>a8 (Rp (a.2,3,())) λv11=>U v11) (0,([]:List (Int×Int×Int)))
def BZ:ov×(Int×Int×Int×Int×Int×Int)->Option ((List Int×Int)):=λx=>a8 (yB (x.1.1,x.1.2.1,x.1.2.2.1,x.1.2.2.2)) λv10=>bif !decide (v10=0)then U (([]:List (Int)),v10)else a8 (z6 ((x.1.1,x.1.2.1,x.1.2.2.1,x.1.2.2.2),x.2.2.2.1)) λv12=>rounds (α:=Int×List Int) (β:=(List Int×Int)) (λb a=>bif IT (a.1<((v12).length:Int))then a8 (nth v12 a.1) λc=>a8 (vg ((x.1.1,x.1.2.1,x.1.2.2.1),c.2.1)) λv21=>bif v21.2 then a8 (la 8 a.2 [c.1]) λv24=>b ((aa.wrap (a.1+1)),v24)else b ((aa.wrap (a.1+1)),a.2)else U (a.2,0)) (0,([]:List (Int)))
def DW:(Int×Int×Int)×(Int×Int×Int)->Option (Int):=λx=>a8 (xf (x.1.1,x.2.1)) λv6=>U v6
def DR:List (Int×Int×Int)×Int×(Unit)->Option (List (Int×Int×Int)):=λx=>bif IT (x.2.1=3)then pT (λa b=>DW (a,b)) x.1 else No
def BU:ov×Int×Int×(Int×Int)->Option (ov):=λx=>a8 (DF x.1.1) λs=>rounds (α:=Int×vq) (β:=ov) (λJ j=>bif IT (j.1<((x.1.2.1).length:Int))then a8 (nth x.1.2.1 j.1) λi=>a8 (Dn i.2.2.2.1) λv20=>a8 (U ()) λv21=>a8 (la 64 j.2 [(i.1,i.2.1,i.2.2.1,v20,i.2.2.2.2.1,i.2.2.2.2.2)]) λv21=>J ((aa.wrap (j.1+1)),v21)else a8 (Dm x.1.2.2.1) λi=>rounds (α:=Int×sO) (β:=ov) (λK n=>bif IT (n.1<((x.1.2.2.2).length:Int))then a8 (nth x.1.2.2.2 n.1) λv20=>a8 (Dm v20.2.2.2.2) λv25=>a8 (U ()) λv26=>a8 (la 64 n.2 [(v20.1,v20.2.1,v20.2.2.1,v20.2.2.2.1,v25)]) λv26=>K ((aa.wrap (n.1+1)),v26)else rounds (α:=vq×List (Int×Bool)×Bool) (β:=ov) (λp q=>bif q.2.2 then rounds (α:=List Int×Bool) (β:=ov) (λt z=>bif z.2 then rounds (α:=Int×Int) (β:=ov) (λr g=>bif IT (g.1<((x.1.1).length:Int))then a8 (nth x.1.1 g.1) λv32=>bif IT (v32.1=g.2)then r ((aa.wrap (g.1+1)),(aa.wrap (g.2+1)))else r ((aa.wrap (g.1+1)),g.2)else rounds (α:=List (Int×Int×Int)×Bool) (β:=ov) (λu B=>bif B.2 then a8 (la 24 B.1 [(g.2,x.2.2.2.1,x.2.2.2.2)]) λv35=>a8 (U ()) λv36=>a8 (DR (v35,3,())) λv36=>rounds (α:=Int×sO) (β:=ov) (λC k=>bif IT (k.1<((n.2).length:Int))then a8 ((bif IT (0<=k.1)&&IT (k.1<(k.2).length)then U ()else No)) λo=>a8 (U ()) λo=>a8 (U ()) λo=>
 a8 (((k.2)[(k.1).toNat]?).map (λx=>x.1)) λo=>bif IT (o=x.2.1)then a8 (U ()) λv44=>a8 (U ()) λv44=>a8 (rG k.2 (k.1).toNat (λx y=>(x.1,y,x.2.2.1,x.2.2.2.1,x.2.2.2.2)) 8) λv44=>a8 (U ()) λv45=>a8 (U ()) λv45=>a8 (U ()) λv45=>a8 (rG v44 (k.1).toNat (λx y=>(x.1,x.2.1,x.2.2.1,x.2.2.2.1,y)) [g.2]) λv45=>C ((aa.wrap (k.1+1)),v45)else C ((aa.wrap (k.1+1)),k.2)else U (v36,q.1,z.1,k.2)) (0,n.2)else rounds (α:=Int) (β:=ov) (λM m=>bif IT (m<((s).length:Int))then a8 ((bif IT (0<=m)&&IT (m<(s).length)then U ()else No)) λv39=>a8 (((s)[(m).toNat]?).map (λx=>(x.1,x.2.1,x.2.2))) λv39=>a8 (mH (ff (λ(a b:Int)=>IT (a=b)) v39.1 q.2.1) (U IS)) λo=>bif o then bif IT (m=(-1))then u (s,IN)else rounds (α:=Int×List (Int×Int×Int)×Int) (β:=ov) (λD e=>bif IT (e.1<((e.2.1).length:Int))then a8 ((bif IT (0<=e.1)&&IT (e.1<(e.2.1).length)then U ()else No)) λv51=>a8 (((e.2.1)[(e.1).toNat]?).map (λx=>(x.1,x.2.1,x.2.2))) λv51=>a8 (mH (ff (λ(a b:Int)=>IT (a=b)) v51.1 q.2.1) (U IS)) λv54=>bif !(v54)then a8 ((bif IT (0<=e.2.2)&&IT (e.2.2<(e.2.1).length)then U ()else No)) λE=>a8 (rG e.2.1 (e.2.2).toNat (λx y=>(y.1,y.2.1,y.2.2)) (v51.1,v51.2.1,v51.2.2)) λE=>
 D ((aa.wrap (e.1+1)),E,(aa.wrap (e.2.2+1)))else D ((aa.wrap (e.1+1)),e.2.1,e.2.2)else a8 (sb (e.2.1).length e.2.2) λv51=>a8 (uF e.2.1 v51.1 v51.2) λv53=>a8 (uB (e.2.1).length (v53).length e.2.2) λv54=>u (v53,IN)) ((aa.wrap (m+1)),s,m)else M (aa.wrap (m+1))else u (s,IN)) 0) (s,IS)) (0,1)else rounds (α:=Int) (β:=ov) (λr g=>bif IT (g<((i).length:Int))then a8 ((bif IT (0<=g)&&IT (g<(i).length)then U ()else No)) λv31=>a8 (((i)[(g).toNat]?).map (λx=>x)) λv31=>bif IT (v31=x.2.2.1)then bif IT (g=(-1))then t (i,IN)else rounds (α:=Int×List Int×Int) (β:=ov) (λG f=>bif IT (f.1<((f.2.1).length:Int))then a8 ((bif IT (0<=f.1)&&IT (f.1<(f.2.1).length)then U ()else No)) λv41=>a8 (((f.2.1)[(f.1).toNat]?).map (λx=>x)) λv41=>bif !((IT (v41=x.2.2.1)))then a8 ((bif IT (0<=f.2.2)&&IT (f.2.2<(f.2.1).length)then U ()else No)) λv44=>a8 (rG f.2.1 (f.2.2).toNat (λx y=>y) v41) λv44=>G ((aa.wrap (f.1+1)),v44,(aa.wrap (f.2.2+1)))else G ((aa.wrap (f.1+1)),f.2.1,f.2.2)else a8 (sb (f.2.1).length f.2.2) λv41=>a8 (uF f.2.1 v41.1 v41.2) λH=>a8 (uB (f.2.1).length (H).length f.2.2) λv44=>
 t (H,IN)) ((aa.wrap (g+1)),i,g)else r (aa.wrap (g+1))else t (i,IN)) 0) (i,IS)else rounds (α:=Int) (β:=ov) (λN l=>bif IT (l<((j.2).length:Int))then a8 ((bif IT (0<=l)&&IT (l<(j.2).length)then U ()else No)) λv28=>a8 (((j.2)[(l).toNat]?).map (λx=>(x.1,x.2.1,x.2.2.1,x.2.2.2.1,x.2.2.2.2.1,x.2.2.2.2.2))) λv28=>bif !decide (v28.2.2.2.2.1=x.2.2.1)then bif !decide (v28.2.2.2.2.2=x.2.2.1)then N (aa.wrap (l+1))else a8 (U (k7 (λ(a b:Int)=>IT (a=b)) v28.2.2.1 IN (k7 (λ(a b:Int)=>IT (a=b)) v28.2.1 IN ([]:List (Int×Bool))))) λv37=>bif IT (l=(-1))then p (j.2,v37,IN)else rounds (α:=Int×List (Int×Bool)×vq×Int) (β:=ov) (λv c=>bif IT (c.1<((c.2.2.1).length:Int))then a8 ((bif IT (0<=c.1)&&IT (c.1<(c.2.2.1).length)then U ()else No)) λh=>a8 (((c.2.2.1)[(c.1).toNat]?).map (λx=>(x.1,x.2.1,x.2.2.1,x.2.2.2.1,x.2.2.2.2.1,x.2.2.2.2.2))) λh=>bif !decide (h.2.2.2.2.1=x.2.2.1)then bif !decide (h.2.2.2.2.2=x.2.2.1)then a8 ((bif IT (0<=c.2.2.2)&&IT (c.2.2.2<(c.2.2.1).length)then U ()else No)) λv55=>a8 (rG c.2.2.1 (c.2.2.2).toNat (λx y=>(y.1,y.2.1,y.2.2.1,y.2.2.2.1,y.2.2.2.2.1,y.2.2.2.2.2)) (h.1,h.2.1,h.2.2.1,h.2.2.2.1,h.2.2.2.2.1,h.2.2.2.2.2)) λv55=>
 v ((aa.wrap (c.1+1)),c.2.1,v55,(aa.wrap (c.2.2.2+1)))else v ((aa.wrap (c.1+1)),(k7 (λ(a b:Int)=>IT (a=b)) h.2.2.1 IN (k7 (λ(a b:Int)=>IT (a=b)) h.2.1 IN c.2.1)),c.2.2.1,c.2.2.2)else v ((aa.wrap (c.1+1)),(k7 (λ(a b:Int)=>IT (a=b)) h.2.2.1 IN (k7 (λ(a b:Int)=>IT (a=b)) h.2.1 IN c.2.1)),c.2.2.1,c.2.2.2)else a8 (sb (c.2.2.1).length c.2.2.2) λh=>a8 (uF c.2.2.1 h.1 h.2) λv49=>a8 (uB (c.2.2.1).length (v49).length c.2.2.2) λv50=>p (v49,c.2.1,IN)) ((aa.wrap (l+1)),v37,j.2,l)else a8 (U (k7 (λ(a b:Int)=>IT (a=b)) v28.2.2.1 IN (k7 (λ(a b:Int)=>IT (a=b)) v28.2.1 IN ([]:List (Int×Bool))))) λv36=>bif IT (l=(-1))then p (j.2,v36,IN)else rounds (α:=Int×List (Int×Bool)×vq×Int) (β:=ov) (λw d=>bif IT (d.1<((d.2.2.1).length:Int))then a8 ((bif IT (0<=d.1)&&IT (d.1<(d.2.2.1).length)then U ()else No)) λv46=>a8 (((d.2.2.1)[(d.1).toNat]?).map (λx=>(x.1,x.2.1,x.2.2.1,x.2.2.2.1,x.2.2.2.2.1,x.2.2.2.2.2))) λv46=>bif !decide (v46.2.2.2.2.1=x.2.2.1)then bif !decide (v46.2.2.2.2.2=x.2.2.1)then a8 ((bif IT (0<=d.2.2.2)&&IT (d.2.2.2<(d.2.2.1).length)then U ()else No)) λv54=>a8 (rG d.2.2.1 (d.2.2.2).toNat (λx y=>(y.1,y.2.1,y.2.2.1,y.2.2.2.1,y.2.2.2.2.1,y.2.2.2.2.2)) (v46.1,v46.2.1,v46.2.2.1,v46.2.2.2.1,v46.2.2.2.2.1,v46.2.2.2.2.2)) λv54=>
 w ((aa.wrap (d.1+1)),d.2.1,v54,(aa.wrap (d.2.2.2+1)))else w ((aa.wrap (d.1+1)),(k7 (λ(a b:Int)=>IT (a=b)) v46.2.2.1 IN (k7 (λ(a b:Int)=>IT (a=b)) v46.2.1 IN d.2.1)),d.2.2.1,d.2.2.2)else w ((aa.wrap (d.1+1)),(k7 (λ(a b:Int)=>IT (a=b)) v46.2.2.1 IN (k7 (λ(a b:Int)=>IT (a=b)) v46.2.1 IN d.2.1)),d.2.2.1,d.2.2.2)else a8 (sb (d.2.2.1).length d.2.2.2) λv46=>a8 (uF d.2.2.1 v46.1 v46.2) λI=>a8 (uB (d.2.2.1).length (I).length d.2.2.2) λv49=>p (I,d.2.1,IN)) ((aa.wrap (l+1)),v36,j.2,l)else p (j.2,([]:List (Int×Bool)),IN)) 0) (j.2,([]:List (Int×Bool)),IS)) (0,([]:List (Int×Int×Int×ByteArray×List (Int))))) (0,([]:List (Int×Int×Int×List (Int×Int)×Int×Int)))
def xo:ov×(Int×Int×Int×Int×Int×Int)->Option (((List (Int×Int×Int)×vq×List Int×sO×List Int)×Int)):=λx=>a8 (yB (x.1.1,x.1.2.1,x.1.2.2.1,x.1.2.2.2)) λv10=>bif !decide (v10=0)then U ((([]:List (Int×Int×Int)),([]:List (Int×Int×Int×List (Int×Int)×Int×Int)),([]:List (Int)),([]:List (Int×Int×Int×ByteArray×List (Int))),([]:List (Int))),v10)else a8 (DF x.1.1) λv12=>rounds (α:=Int×vq) (β:=((List (Int×Int×Int)×vq×List Int×sO×List Int)×Int)) (λg c=>bif IT (c.1<((x.1.2.1).length:Int))then a8 (nth x.1.2.1 c.1) λb=>a8 (Dn b.2.2.2.1) λv24=>a8 (U ()) λv25=>a8 (la 64 c.2 [(b.1,b.2.1,b.2.2.1,v24,b.2.2.2.2.1,b.2.2.2.2.2)]) λv25=>g ((aa.wrap (c.1+1)),v25)else a8 (Dm x.1.2.2.1) λb=>rounds (α:=Int×sO) (β:=((List (Int×Int×Int)×vq×List Int×sO×List Int)×Int)) (λh d=>bif IT (d.1<((x.1.2.2.2).length:Int))then a8 (nth x.1.2.2.2 d.1) λv24=>a8 (Dm v24.2.2.2.2) λv29=>a8 (U ()) λv30=>a8 (la 64 d.2 [(v24.1,v24.2.1,v24.2.2.1,v24.2.2.2.1,v29)]) λv30=>h ((aa.wrap (d.1+1)),v30)else a8 (U ()) λv24=>a8 (U ()) λv24=>a8 (U ()) λv24=>rounds (α:=List (Int×Int×Int)×vq×List Int×sO×List Int) (β:=((List (Int×Int×Int)×vq×List Int×sO×List Int)×Int)) (λi a=>a8 (z6 ((a.1,a.2.1,a.2.2.1,a.2.2.2.1),x.2.2.2.1)) λv30=>rounds (α:=Int) (β:=((List (Int×Int×Int)×vq×List Int×sO×List Int)×Int)) (λj e=>
 bif IT (e<((v30).length:Int))then a8 (nth v30 e) λv35=>a8 (vg ((a.1,a.2.1,a.2.2.1),v35.2.1)) λf=>bif f.2 then a8 (BU ((a.1,a.2.1,a.2.2.1,a.2.2.2.1),v35.1,v35.2.1,(f.1.1,f.1.2))) λv41=>a8 (la 8 a.2.2.2.2 [v35.1]) λv45=>i (v41.1,v41.2.1,v41.2.2.1,v41.2.2.2,v45)else j (aa.wrap (e+1))else a8 (U ()) λv35=>a8 (vO (a.2.2.2.2,1)) λv35=>U ((a.1,a.2.1,a.2.2.1,a.2.2.2.1,v35),0)) 0) (v12,c.2,b,d.2,([]:List (Int)))) (0,([]:List (Int×Int×Int×ByteArray×List (Int))))) (0,([]:List (Int×Int×Int×List (Int×Int)×Int×Int)))
def LP:ov×Int->Option ((ov×Int)):=λx=>a8 (yB (x.1.1,x.1.2.1,x.1.2.2.1,x.1.2.2.2)) λv5=>bif !decide (v5=0)then U ((([]:List (Int×Int×Int)),([]:List (Int×Int×Int×List (Int×Int)×Int×Int)),([]:List (Int)),([]:List (Int×Int×Int×ByteArray×List (Int)))),v5)else a8 (G4 ((x.1.1,x.1.2.1,x.1.2.2.1,x.1.2.2.2),x.2)) λa=>bif !(a.2)then U ((([]:List (Int×Int×Int)),([]:List (Int×Int×Int×List (Int×Int)×Int×Int)),([]:List (Int)),([]:List (Int×Int×Int×ByteArray×List (Int)))),7)else a8 (qM a.1.2.1) λb=>bif !decide (b=3)then U ((([]:List (Int×Int×Int)),([]:List (Int×Int×Int×List (Int×Int)×Int×Int)),([]:List (Int)),([]:List (Int×Int×Int×ByteArray×List (Int)))),9)else a8 (Aa (x.1.1,x.1.2.1,x.1.2.2.1)) λc=>a8 (z8 ((x.1.1,x.1.2.1,x.1.2.2.1,x.1.2.2.2),c,(a.1.1,a.1.2.1,a.1.2.2.1,a.1.2.2.2.1,a.1.2.2.2.2))) λv17=>bif !(v17.2)then U ((([]:List (Int×Int×Int)),([]:List (Int×Int×Int×List (Int×Int)×Int×Int)),([]:List (Int)),([]:List (Int×Int×Int×ByteArray×List (Int)))),13)else a8 (nth a.1.2.2.2.2 0) λv20=>a8 (vg ((x.1.1,x.1.2.1,x.1.2.2.1),v20)) λv21=>bif !(v21.2)then U ((([]:List (Int×Int×Int)),([]:List (Int×Int×Int×List (Int×Int)×Int×Int)),([]:List (Int)),([]:List (Int×Int×Int×ByteArray×List (Int)))),13)else a8 (nth a.1.2.2.2.2 0) λv25=>a8 (BU ((x.1.1,x.1.2.1,x.1.2.2.1,x.1.2.2.2),x.2,v25,(v21.1.1,v21.1.2))) λv26=>U ((v26.1,v26.2.1,v26.2.2.1,v26.2.2.2),0)
def GF:List Int×List Int->Option (Bool):=λx=>bif !decide (((x.1).length:Int)=((x.2).length:Int))then U IS else rounds (α:=Int) (β:=Bool) (λb a=>bif IT (a<((x.1).length:Int))then a8 (nth x.1 a) λv9=>a8 (nth x.2 a) λv10=>bif !decide (v9=v10)then U IS else b (aa.wrap (a+1))else U IN) 0
def z1:Unit->Option (Bool):=λx=>a8 (Lf ()) λv0=>a8 (GI ((v0.1,v0.2.1,v0.2.2.1,v0.2.2.2),6)) λv4=>a8 (GI ((v0.1,v0.2.1,v0.2.2.1,v0.2.2.2),5)) λv6=>a8 (BZ ((v0.1,v0.2.1,v0.2.2.1,v0.2.2.2),(0,0,10,0,0,0))) λg=>a8 (xo ((v0.1,v0.2.1,v0.2.2.1,v0.2.2.2),(0,0,10,0,0,0))) λv10=>a8 (LP ((v0.1,v0.2.1,v0.2.2.1,v0.2.2.2),7)) λc=>a8 (U (IT (v4.1=1))) λv21=>bif v21 then bif v4.2 then a8 (U (!(v6.2))) λv22=>bif v22 then a8 (U (IT (g.2=0))) λv23=>bif v23 then a8 (U ()) λv24=>a8 (GF (g.1,[6])) λv24=>bif v24 then a8 (U (IT (v10.2=0))) λv25=>bif v25 then a8 (U ()) λv26=>a8 (GF (v10.1.2.2.2.2,[6])) λv26=>bif v26 then a8 (U ((v10.1.1).length:Int)) λv27=>a8 (U (IT (v27=2))) λv28=>bif v28 then a8 (nth v10.1.1 1) λv29=>a8 (U ((λ(a b:Int×Int×Int)=>(IT (a.1=b.1)&&(IT (a.2.1=b.2.1)&&IT (a.2.2=b.2.2)))) (v29.1,v29.2.1,v29.2.2) (3,3,3))) λv32=>bif v32 then a8 (U ((v10.1.2.1).length:Int)) λv33=>a8 (U (IT (v33=1))) λd=>bif d then a8 (U ((v10.1.2.2.2.1).length:Int)) λv35=>a8 (U (IT (v35=2))) λv36=>bif v36 then a8 (nth v10.1.2.2.2.1 1) λv37=>a8 (U (IT (v37.2.1=8))) λe=>bif e then a8 (U (IT (c.2=7))) λf=>U f else U IS else U IS else U IS else U IS else U IS else U IS else U IS else U IS else U IS else U IS else U IS else U IS
def G7:List Int×Int->Option (Bool):=λx=>rounds (α:=Int) (β:=Bool) (λb a=>bif IT (a<((x.1).length:Int))then a8 (nth x.1 a) λv6=>bif IT (v6=x.2)then U IN else b (aa.wrap (a+1))else U IS) 0
def I_:Ak×List pS×(Int×Int)->Option (Int):=λx=>rounds (α:=Int×Int) (β:=Int) (λc a=>bif IT (a.1<((x.2.1).length:Int))then bif IT (a.2=(0:Int))then a8 (nth x.2.1 a.1) λv10=>a8 (wi (x.1,v10.2.1,(x.2.2.1,x.2.2.2))) λb=>bif b then c ((aa.wrap (a.1+(1:Int))),a.1)else c ((aa.wrap (a.1+(1:Int))),a.2)else a8 (nth x.2.1 a.1) λv10=>a8 (nth x.2.1 a.2) λb=>bif IT (v10.1<b.1)then a8 (nth x.2.1 a.1) λd=>a8 (wi (x.1,d.2.1,(x.2.2.1,x.2.2.2))) λv23=>bif v23 then c ((aa.wrap (a.1+(1:Int))),a.1)else c ((aa.wrap (a.1+(1:Int))),a.2)else c ((aa.wrap (a.1+(1:Int))),a.2)else U a.2) ((1:Int),(0:Int))
def DG:(Int×Int)->Option (Bool):=λx=>bif IT ((-1048576:Int)<=x.1)then bif IT (x.1<=(1048576:Int))then bif IT ((-1048576:Int)<=x.2)then U (IT (x.2<=(1048576:Int)))else U IS else U IS else U IS
def I':oE×(Int×Int)->Option ((Int×Int×Int)):=λx=>a8 (xt (x.1.1,x.1.2.1,x.1.2.2)) λv5=>bif !decide (v5.2=(0:Int))then bif !decide (v5.2=(0:Int))then U ((0:Int),(0:Int),v5.2)else a8 (DG (x.2.1,x.2.2)) λv9=>bif !(v9)then U ((0:Int),(0:Int),(2:Int))else rounds (α:=Int) (β:=(Int×Int×Int)) (λi d=>bif IT (d<((x.1.1).length:Int))then a8 (nth x.1.1 d) λe=>bif IT (e.2.1=x.2.1)&&IT (e.2.2=x.2.2)then U ((1:Int),e.1,(0:Int))else i (aa.wrap (d+(1:Int)))else bif IT ((0:Int)<((x.1.2.1).length:Int))then a8 (nth x.1.2.1 (0:Int)) λv17=>No else No) (0:Int)else a8 (Ae (x.1.1,x.1.2.1,x.1.2.2)) λj=>a8 (wo ((x.1.1,x.1.2.1,x.1.2.2),v5.1,j)) λv9=>a8 (Ai ((x.1.1,x.1.2.1,x.1.2.2),v9)) λv10=>bif !(v10.2)then U ((0:Int),(0:Int),(12:Int))else a8 (DG (x.2.1,x.2.2)) λk=>bif !(k)then U ((0:Int),(0:Int),(2:Int))else rounds (α:=Int) (β:=(Int×Int×Int)) (λl f=>bif IT (f<((x.1.1).length:Int))then a8 (nth x.1.1 f) λg=>bif IT (g.2.1=x.2.1)&&IT (g.2.2=x.2.2)then U ((1:Int),g.1,(0:Int))else l (aa.wrap (f+(1:Int)))else rounds (α:=Int) (β:=(Int×Int×Int)) (λm h=>bif IT (h<((x.1.2.1).length:Int))then a8 (nth x.1.2.1 h) λv23=>a8 (mH (ff (λ(a b:Int)=>IT (a=b)) v23.1 j) No) λv29=>rounds (α:=Int) (β:=(Int×Int×Int)) (λn c=>bif IT (c<((v29).length:Int))then a8 (nth v29 (aa.wrap (c-(1:Int)))) λv35=>
 a8 (nth v29 c) λv37=>a8 (nP ((v35.1,v35.2),(v37.1,v37.2),(x.2.1,x.2.2))) λv39=>bif v39 then U ((2:Int),v23.1,(0:Int))else n (aa.wrap (c+(1:Int)))else m (aa.wrap (h+(1:Int)))) (1:Int)else a8 (I_ (j,v9,(x.2.1,x.2.2))) λv23=>a8 (nth v10.1 v23) λv24=>U ((0:Int),v24,(0:Int))) (0:Int)) (0:Int)
def GV:ov×Int->Option (Bool):=λx=>a8 (DQ (x.1.1,x.1.2.1,x.1.2.2.1,x.1.2.2.2)) λv5=>bif !(v5)then a8 (z1 ()) λc=>U c else a8 (GI ((x.1.1,x.1.2.1,x.1.2.2.1,x.1.2.2.2),x.2)) λc=>a8 (LP ((x.1.1,x.1.2.1,x.1.2.2.1,x.1.2.2.2),x.2)) λv9=>bif !(c.2)then a8 (z1 ()) λa=>bif a then bif !decide (v9.2=(0:Int))then U (IT (c.1=(0:Int)))else U IS else U IS else a8 (G4 ((v9.1.1,v9.1.2.1,v9.1.2.2.1,v9.1.2.2.2),x.2)) λa=>bif !decide (v9.2=(0:Int))then U IS else bif !(a.2)then U IS else bif !decide (a.1.2.1=(8:Int))then U IS else bif !decide (((a.1.2.2.2.2).length:Int)=(1:Int))then U IS else a8 (nth a.1.2.2.2.2 (0:Int)) λv26=>a8 (B8 ((v9.1.1,v9.1.2.1,v9.1.2.2.1),v26)) λv27=>bif !decide (v27=(0:Int))then U IS else a8 (yx (v9.1.1,v9.1.2.1,v9.1.2.2.1)) λv29=>rounds (α:=Int) (β:=Bool) (λe b=>bif IT (b<((v29.1).length:Int))then a8 (nth v29.1 b) λv35=>a8 (nth a.1.2.2.2.2 (0:Int)) λv39=>a8 (G7 (v35.2.2.2,v39)) λv40=>a8 (nth v29.1 b) λv41=>bif !(v40==(IT (v41.1=c.1)))then U IS else e (aa.wrap (b+(1:Int)))else a8 (nth a.1.2.2.2.2 (0:Int)) λv35=>a8 (wC ((v9.1.1,v9.1.2.1,v9.1.2.2.1),v35)) λv36=>a8 (I' ((x.1.1,x.1.2.1,x.1.2.2.1),(v36.1.2.1,v36.1.2.2))) λv40=>a8 (G4 ((x.1.1,x.1.2.1,x.1.2.2.1,x.1.2.2.2),x.2)) λd=>a8 (z1 ()) λv49=>
 bif v49 then bif IT (v29.2=(0:Int))then bif v36.2 then bif IT (v40.1=(0:Int))then bif IT (v40.2.2=(0:Int))then bif IT (((d.1.2.2.2.2).length:Int)=(1:Int))then a8 (nth d.1.2.2.2.2 (0:Int)) λv55=>U (IT (v40.2.1=v55))else U IS else U IS else U IS else U IS else U IS else U IS) (0:Int)
end
end Go.Ab
namespace Go.Ab
open Go
@[simp] theorem cr {α β:Type} (a:α) (f:α->Option β):a8 (U a) f=f a:=rfl
@[simp] theorem bu5 {α β:Type} (f:α->Option β):a8 No f=No:=rfl
def Cw:2^100<=many:=Classical.choose_spec (⟨2^100,Nat.le_refl _⟩:∃n:Nat,2^100<=n)
def Nq:1000000000<=many:=bI (by decide) Cw
def UC{α β:Type}{F:(α->Option β)->α->Option β}(I:α->Prop)(a:α->Nat)(g:α->Option β)(h:∀rec x,I x->(∀y,I y->a y<a x->rec y=g y)->F rec x=g x):∀(n:Nat) (x:α),I x->a x<n->iter F n x=g x
 | 0,x,_,hm=>lH hm (Nat.not_lt_zero _)
 |n+1,x,a7,hm=>by show F (iter F n) x=g x;exact h _ x a7 λy b c=>UC I a g h n y b (by omega)
def aQ5{α β:Type}{F:(α->Option β)->α->Option β}(I:α->Prop)(a:α->Nat)(g:α->Option β)(h:∀rec x,I x->(∀y,I y->a y<a x->rec y=g y)->F rec x=g x){x:α}(b:I x)(hm:a x<2^100):rounds F x=g x :=UC I a g h many x b (ed hm Cw)
def SQ{α β:Type}{F:(α->Option β)->α->Option β}{x:α}{v:Option β}(h:∀rec,F rec x=v):rounds F x=v :=aQ5 (λy=>y=x) (λ_=>0) (λ_=>v) (λrec y a _=>by rw[a];exact h rec) rfl (by omega)
def oy{S β α A:Type}(xs:List α){F:(S->Option β)->S->Option β}(st:Nat->A->S)(g:A->List α->Option β)(hl:xs.length<2^100)
  (c:∀rec a,F rec (st xs.length a)=g a []) (b:∀rec i a x rest,i<xs.length->xs.drop i=x::rest->(∀e,rec (st (i+1) e)=g e rest)->F rec (st i a)=g a (x::rest)) (a:A):rounds F (st 0 a)=g a xs:=by
 have key:∀(k i n:Nat) (a:A),i<=xs.length->k=xs.length-i->k<n->iter F n (st i a)=g a (xs.drop i):=by
  intro k
  induction k with
  |zero=>
   intro i n a a7 hk h;have:i=xs.length:=by omega
   subst this;cases n with
   |zero=>omega
   |succ n=>rw[jV];exact c _ a
  |succ k j=>
   intro i n a a7 hk h;cases n with
   |zero=>omega
   |succ n=>
    have d:i<xs.length:=by omega
    have f:xs.drop i=xs[i]::xs.drop (i+1):=bN d;rw[f];exact b _ i a xs[i] _ d f λe=>j (i+1) n e (by omega) (by omega) (by omega)
 have:=key xs.length 0 many a (dq _) (by omega) (ed hl Cw);rw[gB]at this;exact this
def oU{S β α A:Type}(xs:List α){F:(S->Option β)->S->Option β}(st:Nat->A->S)(g:A->List α->Option β)(I:Nat->A->Prop)(hl:xs.length<2^100)
  (c:∀rec a,I xs.length a->F rec (st xs.length a)=g a []) (b:∀rec i a x rest,i<xs.length->I i a->xs.drop i=x::rest->(∀d,I (i+1) d->rec (st (i+1) d)=g d rest)->F rec (st i a)=g a (x::rest)) (a:A) (ha:I 0 a):rounds F (st 0 a)=g a xs:=by
 have key:∀(k i n:Nat) (a:A),i<=xs.length->k=xs.length-i->k<n->I i a->iter F n (st i a)=g a (xs.drop i):=by
  intro k
  induction k with
  |zero=>
   intro i n a a7 hk l f;have:i=xs.length:=by omega
   subst this;cases n with
   |zero=>omega
   |succ n=>rw[jV];exact c _ a f
  |succ k m=>
   intro i n a a7 hk l f;cases n with
   |zero=>omega
   |succ n=>
    have e:i<xs.length:=by omega
    have j:xs.drop i=xs[i]::xs.drop (i+1):=bN e;rw[j];exact b _ i a xs[i] _ e f j λd h=>m (i+1) n d (by omega) (by omega) (by omega) h
 have:=key xs.length 0 many a (dq _) (by omega) (ed hl Cw) ha;rw[gB]at this;exact this
theorem mJ{α:Type}(xs:List α)(i:Nat):nth xs (i:Int)=xs[i]?:=by unfold nth;simp
theorem mq{α:Type}{xs:List α}{i:Nat}{x:α}{rest:List α}(h:xs.drop i=x::rest):nth xs (i:Int)=U x:=by grind[mJ,List.head?,List.head?_drop]
def N'{α:Type}{xs:List α}{i:Int}(a:0<=i):nth xs i=xs[i.toNat]?:=by unfold nth;simp[a]
theorem lR{n:Int}(h1:-9223372036854775808<=n)(h2:n<=9223372036854775807):aa.wrap n=n:=IntWalk.i64_in n ⟨h1,h2⟩
theorem nE{α:Type}{b:Nat}{xs ys:List α}(a:b<=1000)(h:xs.length+ys.length<=1000000000):la b xs ys=U (xs++ys):=by
 unfold la;have h1:(2*(xs.length+ys.length)+1000)*b<=2^48:=by have:(2*(xs.length+ys.length)+1000)*b<=(2*1000000000+1000)*1000:=kF (by omega) a;omega
 grind
def bl0{α:Type}{xs:List α}{i:Nat}(h:i<=xs.length):xg xs No (U (i:Int))=U (xs.take i):=by unfold xg zI;simp[h]
def TH{α:Type}{xs:List α}{i:Int}(a:0<=i)(h:i<=xs.length):xg xs (U i) No=U (xs.drop i.toNat):=by unfold xg zI;simp[a,h]
open Go.Proofs Go.Shelf Go.Sort
theorem y6{α:Type}{r:α}{l:List α}(i:Nat):nN r (r::l) i∈r::l:=by
 unfold nN
 grind
theorem Hm{α:Type}(cf:α->α->Int)(r:α)(l:List α):nG cf (r::l)=((pdq (ltOf (λi j=>cf (nN r (r::l) i) (nN r (r::l) j))) (bf (r::l).length) 0 (r::l).length (eU (r::l).length) IN IN).toList).map (nN r (r::l)):=rfl
theorem aC6{α:Type}(cf:α->α->Int)(r:α)(l:List α):Ordered cf (r::l)=SWO (ltOf (λi j=>cf (nN r (r::l) i) (nN r (r::l) j))):=rfl
def VU{α:Type}{cf:α->α->Int}{r:α}{l:List α}(hO:Ordered cf (r::l)) :
  PermIn 0 (r::l).length (bf (r::l).length) (pdq (ltOf (λi j=>cf (nN r (r::l) i) (nN r (r::l) j))) (bf (r::l).length) 0 (r::l).length (eU (r::l).length) IN IN)/\SortedIn (ltOf (λi j=>cf (nN r (r::l) i) (nN r (r::l) j))) 0 (r::l).length (pdq (ltOf (λi j=>cf (nN r (r::l) i) (nN r (r::l) j))) (bf (r::l).length) 0 (r::l).length (eU (r::l).length) IN IN) :=
 pdq_sorts _ hO (bf (r::l).length) 0 (r::l).length (eU (r::l).length) IN IN (dq _) (by simp) (Or.inl rfl)
theorem q4{α:Type}{cf:α->α->Int}:∀ {xs:List α},Ordered cf xs->(nG cf xs).Perm xs
 | [],_=>List.Perm.refl _
 |r::l,hO=>by
  obtain⟨⟨h1,_,b⟩,_⟩:=VU hO;rw[Hm];generalize hes:r::l=es at *;generalize pdq (α:=Nat) _ _ _ _ _ _ _=d at *;have c:d.extract 0 es.length=d:=by grind
  have e:(bf es.length).extract 0 es.length=bf es.length:=by grind
  rw[c,e]at b;refine(b.map (nN r es)).trans ?_;have:(bf es.length).toList.map (nN r es)=es:=by
   apply List.ext_getElem?;intro k;rw[aX];by_cases hk:k<es.length
   .have a:(bf es.length).toList[k]?=U k:=by simp[hk]
    rw[a];simp[nN,hk]
   grind
  rw[this]
def yE{α:Type}{cf:α->α->Int}:∀ {xs:List α},Ordered cf xs->(nG cf xs).Pairwise (λa b=>¬cf b a<0)
 | [],_=>gJ
 |r::l,hO=>by
  obtain⟨⟨h1,_,_⟩,hs⟩:=VU hO;rw[Hm];generalize hes:r::l=es at *;generalize pdq (α:=Nat) _ _ _ _ _ _ _=d at *;rw[List.pairwise_map];rw[List.pairwise_iff_getElem];intro i j a7 hj c;have e:d.size=es.length:=by simpa using h1
  have f:i<d.size:=by simpa using a7
  have g:j<d.size:=by simpa using hj
  have:=hs i j (dq _) c (by omega)
  grind[ltOf,decide_eq_false_iff_not]
def Cd{α:Type}{cf:α->α->Int}:∀ {xs:List α},(∀x∈xs,¬cf x x<0)->(∀x∈xs,∀y∈xs,∀z∈xs,cf x y<0->cf y z<0->cf x z<0)->(∀x∈xs,∀y∈xs,∀z∈xs,¬cf x y<0->¬cf y z<0->¬cf x z<0)->Ordered cf xs
 | [],_,_,_=>trivial
 |r::l,h1,h2,c=>by
  refine⟨λi=>?_,λi j k a b=>?_,λi j k a b=>?_⟩
  .grind[ltOf,decide_eq_false_iff_not,y6]
  .grind[ltOf,y6]
  grind[ltOf,decide_eq_false_iff_not,y6]
def Cy{α:Type}{cmp:α->α->Option Int}{cf:α->α->Int}{xs:List α}(hc:∀x∈xs,∀y∈xs,cmp x y=U (cf x y))(hO:Ordered cf xs)(hl:xs.length<4611686018427387904):pT cmp xs=U (nG cf xs):=by
 have f:∀x∈xs,∀y∈xs,(cmp x y).getD 0=cf x y:=λx a y b=>by rw[hc x a y b];rfl
 have d:∀(r:α) (l:List α),xs=r::l->(λi j=>(cmp (nN r (r::l) i) (nN r (r::l) j)).getD 0)=(λi j=>cf (nN r (r::l) i) (nN r (r::l) j)):=λr l e=>by grind[y6]
 have c:Ordered (λx y=>(cmp x y).getD 0) xs:=by
  cases xs with
  |nil=>trivial
  |cons r l=>grind[aC6]
 rw[bs0 (λx a y b=>by rw[hc x a y b];rfl) c hl];cases xs with
 |nil=>rfl
 |cons r l=>grind[Hm]
open Go Go.Sort Go.Proofs Go.Shelf
variable [nF]
def Np{α:Type}{b:Nat}{xs r:List α}(h:la b [] xs=U r):r=xs/\(2*xs.length+1000)*b<=2^48/\xs.length<=2^62:=by
 unfold la at h;simp only[bL,aN,bq]at h;by_cases c1:(2*xs.length+1000)*b<=2^48
 .by_cases c2:xs.length<=2^62
  .simp[c1,c2]at h
   exact⟨h.symm,c1,c2⟩
  simp[c2]at h
 simp[c1]at h
def bd8 {P:Program} {j:eV} (L:Lays.n144 P j) {f:FuncId} (hf:j.f 144=f) {d:Func} (p:P.funcs[f]?=U d) (k:(d.name== "runtime.NumGoroutine")=IS) (l:d.body.isNone=IS)
  {b:Nat} (q:j.g 1=b) {m:Int} (hm:nF.cell b 0=U (.int .i64 m)) {x:ByteArray×ByteArray} {r:Bool} (h:strings_Contains x=U r):oI P ⟨f,e8 (.cons .str (.one .str)) x,enc .bool r⟩:=by
 subst hf q;unfold strings_Contains at h;by_cases hs:x.1.size<4294967281
 .simp only[hs,lV,dn,ai]at h
  subst h;intro σ;refine po.CY p k l ?_;intro G vs w a c;obtain⟨u,s,rfl,n,a⟩:=a.cons_inv;obtain⟨v,t,rfl,o,a⟩:=a.cons_inv;obtain rfl:=a.s_;cases n;cases o;have i:w.cell? ⟨j.g 1,0,No⟩=U (.int .i64 m):=c.cell (c.qV _ _ _ hm);refine(Any.strings_Contains L x.1 x.2 m w hs i).mono ?_;rintro e w' ⟨rfl,rfl⟩;exact⟨_,_,σ,G,rfl,.refl _ _ _ _,.bF _,c,rfl,rfl⟩
 simp[hs]at h
def wM{P:Program}{T:dd}(ca:mc P T){t:TypeId}{z:Nat}(h:(T t).map (λti=>(ti.isAgg,ti.size))=U (IN,z)):(∀w,(isAgg t).run P w=.ok IN w)/\∀w,(Go.sizeOf t).run P w=.ok z w:=by
 cases a:T t with
 |none=>rw[a]at h;cases h
 |some ti=>rw[a]at h;simp only[aj,ai,Prod.mk.injEq]at h;exact⟨λw=>by rw[ER ca a w,h.1],λw=>by rw[p1 ca a w,h.2]⟩
def A0{P:Program}{ts:List fp}{t:fp}(h:t.Ok (tJ P ts))(hf:t.f<p6){x:t.nq.T}{r:t.ng.T}(a:t.fn x=U r):oI P ⟨t.f,e8 t.nq x,enc t.ng r⟩:=by obtain⟨φ,h1,h2⟩:=h x r a;exact(NA P ts).w_ t.f φ hf h1 _ _ h2
def EP{α:Type}{a:α->List ag}{r:α}{l:List α}(i:Nat):mB ((r::l).map a) i=a (nN r (r::l) i):=by unfold mB nN;rw[aX];cases(r::l)[i]?<;>rfl
def R7{α:Type}{a:α->List ag}{cf:List ag->List ag->Int}{b:α->α->Int}:∀ {xs:List α},(∀x∈xs,∀y∈xs,cf (a x) (a y)=b x y)->rq cf (xs.map a)=(nG b xs).map a
 | [],_=>rfl
 |r::l,h=>by
  have e:(λi j=>cf (mB ((r::l).map a) i) (mB ((r::l).map a) j))=λi j=>b (nN r (r::l) i) (nN r (r::l) j):=by funext i j;rw[EP,EP];exact h _ (y6 i) _ (y6 j)
  rw[L9 (by simp),e,Hm,List.map_map,aF];exact List.map_congr_left λi _=>EP i
def W6{α:Type}{a:α->List ag}{cf:List ag->List ag->Int}{b:α->α->Int}{xs:List α}(h:∀x∈xs,∀y∈xs,cf (a x) (a y)=b x y)(hO:Ordered b xs)(c:xs.map a≠[]):SWO (ltOf (λi j=>cf (mB (xs.map a) i) (mB (xs.map a) j))):=by
 cases xs with
 |nil=>simp at c
 |cons r l=>
  have e:(λi j=>cf (mB ((r::l).map a) i) (mB ((r::l).map a) j))=λi j=>b (nN r (r::l) i) (nN r (r::l) j):=by funext i j;rw[EP,EP];exact h _ (y6 i) _ (y6 j)
  rw[e];exact hO
noncomputable def Ci{α:Type}(c:α->List ag)(d:α->α->Int)(a b:List ag):Int :=open Classical in if h:∃p:α×α,c p.1=a/\c p.2=b then d h.choose.1 h.choose.2 else 0
def W7{α:Type}{a:α->List ag}(a7:∀x y,a x=a y->x=y)(b:α->α->Int)(x y:α):Ci a b (a x) (a y)=b x y:=by have hex:∃p:α×α,a p.1=a x/\a p.2=a y:=⟨(x,y),rfl,rfl⟩;unfold Ci;rw[dif_pos hex];obtain⟨h1,h2⟩:=hex.choose_spec;rw[a7 _ _ h1,a7 _ _ h2]
def TX{α:Type}{cmp:α->α->Option Int}{xs r:List α}(h:pT cmp xs=U r):(∀x∈xs,∀y∈xs,cmp x y=U ((cmp x y).getD 0))/\Ordered (λx y=>(cmp x y).getD 0) xs/\xs.length<4611686018427387904/\r=nG (λx y=>(cmp x y).getD 0) xs:=by
 obtain⟨hc,rfl⟩:=aW6 h;refine⟨λx a y b=>?_,hc.2.1,hc.2.2,rfl⟩;have:=hc.1 x a y b;cases he:cmp x y with
 |none=>rw[he]at this;cases this
 |some v=>rfl
def EF {P:Program} {p:eV} (L:SlLaysF0.n6 P p) {f:FuncId} (hf:p.f 6=f) {k:Func} (J:P.funcs[f]?=U k) (q:(k.name== "runtime.NumGoroutine")=IS) (s:k.body.isNone=IS)
  {el:bl} {z:Nat} (hz:0<z) (u:el.len=z) (B:el.cells=IN) (K:∀w,(isAgg (p.t 24)).run P w=.ok IN w) (M:∀w,(Go.sizeOf (p.t 24)).run P w=.ok z w)
  {g:FuncId} {l:Func} (N:P.funcs[g]?=U l) (C:(l.name== "runtime.NumGoroutine")=IS) (D:l.body.isNone=IS) {cl:bl} (c:cl.T)
  {cmp:el.T->el.T->Option Int} {x r:List el.T} (n:∀a∈x,∀b∈x,∀v,cmp a b=U v->oI P ⟨g,[.agg (e8 el a),.agg (e8 el b)]++e8 cl c,Gz v⟩) (h:pT cmp x=U r) :
  E6 P f [.rs (x.map (e8 el)),.bF (.int .i64 z),.fn (.func g) [] (e8 cl c)] (.rs (r.map (e8 el))):=by
 obtain⟨h1,hO,O,rfl⟩:=TX h;intro v Q rest i;simp only[cG,ag.bF.injEq,gz,pB]at i;obtain⟨rfl,o,rfl⟩:=i;have o:Q=z:=by omega
 subst o;have m:∀a∈x,∀b∈x,Ci (e8 el) (λa b=>(cmp a b).getD 0) (e8 el a) (e8 el b)=(cmp a b).getD 0:=λa _ b _=>W7 (wE el) _ a b;refine⟨_,_,rfl,rfl,?_,?_⟩
 .simp only[aF]
  exact(q4 hO).length_eq
 intro σ id e restv R S;have hm:∀j∈x.map (e8 el),∃a∈x,j=e8 el a:=λj h=>by obtain⟨a,ha,e⟩:=aP.1 h;exact⟨a,ha,e.symm⟩
 have:=bo7 L hf J q s hz K M N C D (e:=e) (es:=x.map (e8 el)) (caps:=e8 cl c) (cf:=Ci (e8 el) (λa b=>(cmp a b).getD 0))
  (λj h=>by obtain⟨a,_,rfl⟩:=hm j h;rw[sm,u])
  (λj h d E=>by obtain⟨a,_,rfl⟩:=hm j h;exact ak.1 (cells_one B a) d E)
  (λj h d E=>by obtain⟨a,_,rfl⟩:=hm j h;exact ak.1 (xE el a) d E)
  (by simpa using O)
  (λj h G h'=>by
   obtain⟨a,ha,rfl⟩:=hm j h;obtain⟨b,H,rfl⟩:=hm G h';rw[m a ha b H];exact n a ha b H _ (h1 a ha b H))
  (λI=>W6 m hO I) R (restv:=restv) S
 rw[R7 m]at this;exact this
def aW1 {P:Program} {E:eV} (L:SlLaysF.n6 P E) {f:FuncId} (hf:E.f 6=f) {k:Func} (G:P.funcs[f]?=U k) (q:(k.name== "runtime.NumGoroutine")=IS) (t:k.body.isNone=IS)
  {s:dr} (u:s.Ev=IN) {g:FuncId} {l:Func} (H:P.funcs[g]?=U l) (w:(l.name== "runtime.NumGoroutine")=IS) (z:l.body.isNone=IS) {cl:bl} (c:cl.T)
  {cmp:s.T->s.T->Option Int} {x r:List s.T} (n:∀a∈x,∀b∈x,∀v,cmp a b=U v->oI P ⟨g,[enc s a,enc s b]++e8 cl c,Gz v⟩) (h:pT cmp x=U r) :
  E6 P f [.rs (x.map (e8 (.one s))),.bF (.int .i64 1),.fn (.func g) [] (e8 cl c)] (.rs (r.map (e8 (.one s)))):=by
 obtain⟨h1,hO,I,rfl⟩:=TX h;intro v J rest i;simp only[cG,ag.bF.injEq,gz,pB]at i;obtain⟨rfl,o,rfl⟩:=i;have o:J=1:=by omega
 subst o;have m:∀a∈x,∀b∈x,Ci (e8 (.one s)) (λa b=>(cmp a b).getD 0) (e8 (.one s) a) (e8 (.one s) b)=(cmp a b).getD 0:=λa _ b _=>W7 (wE (.one s)) _ a b;refine⟨_,_,rfl,rfl,?_,?_⟩
 .simp only[aF]
  exact(q4 hO).length_eq
 intro σ id e restv K M;have hm:∀j∈x.map (e8 (.one s)),∃a∈x,j=e8 (.one s) a:=λj h=>by obtain⟨a,ha,e⟩:=aP.1 h;exact⟨a,ha,e.symm⟩
 have:=bm2 L hf G q t H w z (e:=e) (es:=x.map (e8 (.one s))) (caps:=e8 cl c) (cf:=Ci (e8 (.one s)) (λa b=>(cmp a b).getD 0))
  (λj h=>by obtain⟨a,_,rfl⟩:=hm j h;rfl)
  (λj h d p=>by
   obtain⟨a,_,rfl⟩:=hm j h;simp only[e8,aG]at p;rw[p];exact Na u a)
  (λj h d p=>by obtain⟨a,_,rfl⟩:=hm j h;exact ak.1 (xE (.one s) a) d p)
  (by simpa using I)
  (λj h B h'=>by
   obtain⟨a,ha,rfl⟩:=hm j h;obtain⟨b,C,rfl⟩:=hm B h';rw[m a ha b C];exact n a ha b C _ (h1 a ha b C))
  (λD=>W6 m hO D) K (restv:=restv) M
 rw[R7 m]at this;exact this
def bf3 {P:Program} {q:eV} (L:SlLaysM.n5 P q) {f:FuncId} (hf:q.f 5=f) {d:Func} (s:P.funcs[f]?=U d) (l:(d.name== "runtime.NumGoroutine")=IS) (m:d.body.isNone=IS)
  {x:List Int×Int} {r:List Int} (h:vO x=U r):E6 P f (e8 (.cons (.ft (.one (.int .i64))) (.one (.int .i64))) x) (enc (.ft (.one (.int .i64))) r):=by
 unfold vO at h;cases hc:(IT (x.2=1)&&IT (x.1.length<4611686018427387904))with
 |false=>rw[hc]at h;cases h
 |true=>
  rw[hc,Ig]at h;simp only[dn,ai]at h;subst h;simp only[ab,gb]at hc;intro v t rest a;simp only[e8,enc,cG,ag.bF.injEq,gz,pB]at a;obtain⟨rfl,k,rfl⟩:=a;have k:t=1:=by omega
  subst k;refine⟨x.1.map uY,_,rfl,rfl,?_,?_⟩
  .simp only[aF]
   exact List.length_mergeSort ..
  intro σ id e restv u z;intro G vs w a c;obtain⟨C,g,rfl,B,b⟩:=a.cons_inv;have j:Rel G (σ.del id) w:=c.less rfl (λi o h=>by
   rw[bg.tb]at h;split at h
   .cases h
   exact h)
  have n:g=[]:=(z G g w b j).s_;have p:restv=[]:=by have:g.length=restv.length:=b.1;rw[n]at this;exact List.length_eq_zero_iff.1 (show restv.length=0 from this.symm)
  subst p;exact bq4 L hf s l m hc.2 u G _ w a c
def aO9 {P:Program} {T:dd} (ca:mc P T) {f:FuncId} {fn:Func} {t elem:TypeId} (hf:P.funcs[f]?=U fn) (a:(fn.name== "runtime.NumGoroutine")=IS) (c:CR fn t=IN) (b:fn.resultTypes.toList=[t])
  (h1:(T t).map mL.fT=U (.slice elem)) (h2:(T elem).map mL.size=U 2) (i:(T elem).map mL.bytes=U 16) {x r:List (Int×Int)} (h:la 16 [] x=U r) :
  CK P f (e8 (.one (.ft (.cons (.int .i64) (.one (.int .i64))))) x) (enc (.ft (.cons (.int .i64) (.one (.int .i64)))) r):=by
 obtain⟨e,j,k⟩:=Np h;exact LX ca hf a c b h1 h2 i (by decide) (l:=.cons (.int .i64) (.one (.int .i64))) (λv=>⟨rfl,λd g=>by
  simp only[e8,enc,aI,iA,or_false]at g;rcases g with rfl|rfl<;>rfl⟩) j k e
def aL1 {P:Program} {T:dd} (ca:mc P T) {f:FuncId} {fn:Func} {t elem:TypeId} (hf:P.funcs[f]?=U fn) (a:(fn.name== "runtime.NumGoroutine")=IS) (c:CR fn t=IN) (b:fn.resultTypes.toList=[t])
  (h1:(T t).map mL.fT=U (.slice elem)) (h2:(T elem).map mL.size=U 3) (i:(T elem).map mL.bytes=U 24) {x r:List (Int×Int×Int)} (h:la 24 [] x=U r) :
  CK P f (e8 (.one (.ft (.cons (.int .i64) (.cons (.int .i64) (.one (.int .i64)))))) x) (enc (.ft (.cons (.int .i64) (.cons (.int .i64) (.one (.int .i64))))) r):=by
 obtain⟨e,j,k⟩:=Np h;exact LX ca hf a c b h1 h2 i (by decide) (l:=.cons (.int .i64) (.cons (.int .i64) (.one (.int .i64)))) (λv=>⟨rfl,λd g=>by
  simp only[e8,enc,aI,iA,or_false]at g;rcases g with rfl|rfl|rfl<;>rfl⟩) j k e
def aM0 {P:Program} {T:dd} (ca:mc P T) {f:FuncId} {fn:Func} {t elem:TypeId} (hf:P.funcs[f]?=U fn) (a:(fn.name== "runtime.NumGoroutine")=IS) (c:CR fn t=IN) (b:fn.resultTypes.toList=[t])
  (h1:(T t).map mL.fT=U (.slice elem)) (h2:(T elem).map mL.size=U 1) (i:(T elem).map mL.bytes=U 8) {x r:List Int} (h:la 8 [] x=U r) :
  CK P f (e8 (.one (.ft (.one (.int .i64)))) x) (enc (.ft (.one (.int .i64))) r):=by
 obtain⟨e,j,k⟩:=Np h;exact LX ca hf a c b h1 h2 i (by decide) (l:=.one (.int .i64)) (λv=>⟨rfl,λd g=>by
  simp only[e8,enc,aG]at g;rw[g];rfl⟩) j k e
end Go.Ab
namespace Go.Ab
open Go
def Le(xs:List Int)(y:Int)(hl:xs.length<2^62):yv (xs,y)=U (if y∈xs then((xs.idxOf y:Nat):Int)else -1):=by
 unfold yv;simp only[cr];refine(oy (A:=Unit) xs (λi _=>(i:Int)) (λ_ rest=>U (if y∈rest then((xs.length-rest.length+rest.idxOf y:Nat):Int)else -1)) (by omega) ?_ ?_ ()).trans ?_
 .intro rec a
  simp
 .intro rec i a x rest a7 d e
  have hlen:rest.length=xs.length-(i+1):=by have:=mP eT d;simp at this;omega
  have c:((i:Int)<(xs.length:Int)):=by omega
  simp only[c,lV,dn,mq d,cr];by_cases b:y=x
  .subst b
   simp[hlen];omega
  have f:aa.wrap ((i:Int)+1)=((i+1:Nat):Int):=by grind[lR]
  simp only[b,mD,ct,f];rw[e ()]
  grind
 simp
def BO(xs:List Int)(y:Int)(hl:xs.length<2^62):rL (xs,y)=U (IT (y∈xs)):=by unfold rL;simp only[Le xs y hl,cr];by_cases h:y∈xs<;>simp[h]
abbrev b6:=Int×Int
abbrev ef:=Int×Int×Int
abbrev dk:=Int×Int×Int×List b6×Int×Int
def pq(a6:List ef)(id:Int):Option ef:=a6.find? λn=>IT (n.1=id)
def qC(al:List dk)(id:Int):Option dk:=al.find? λa=>IT (a.1=id)
def tr{α:Type}{xs rest:List α}{i:Nat}{x:α}(h:xs.drop i=x::rest):i<xs.length/\rest.length=xs.length-(i+1)/\x∈xs:=by
 have h1:=mP eT h
 grind[bn]
theorem lG{i n:Nat}(h:i<n)(a:n<2^62):aa.wrap ((i:Int)+1)=((i+1:Nat):Int):=by grind[lR]
theorem lJ{i n:Nat}(h:i<n):IT ((i:Int)<(n:Int))=IN:=by simpa using h
def mG(n:Nat):IT ((n:Int)<(n:Int))=IS:=by simp
def LV(a6:List ef)(al:List dk)(fs:List Int)(id:Int)(hl:a6.length<2^62):wC ((a6,al,fs),id)=U (match pq a6 id with|some n=>(n,IN)|none=>((0,0,0),IS)):=by
 unfold wC;simp only[cr];refine(oy (A:=Unit) a6 (λi _=>(i:Int)) (λ_ rest=>U (match pq rest id with|some n=>(n,IN)|none=>((0,0,0),IS))) (by omega) ?_ ?_ ()).trans rfl
 .intro rec a
  simp[pq]
 intro rec i a x rest a7 b c;simp only[lJ a7,dn,mq b,cr,lG a7 hl];by_cases h:x.1=id
 .subst h;simp[pq]
 simp only[h,mD,ct,c ()];simp[pq,h]
theorem Sm(a6:List ef)(al:List dk)(fs:List Int)(id:Int)(hl:al.length<2^62)(hv:∀a∈al,a.2.2.2.1.length<=1000000000):yU ((a6,al,fs),id)=U (match qC al id with|some a=>(a,IN)|none=>((0,0,0,[],0,0),IS)):=by
 unfold yU;simp only[cr];refine(oy (A:=Unit) al (λi _=>(i:Int)) (λ_ rest=>U (match qC rest id with|some n=>(n,IN)|none=>((0,0,0,[],0,0),IS))) (by omega) ?_ ?_ ()).trans rfl
 .intro rec a
  simp[qC]
 intro rec i a x rest a7 b c;have d:=hv x (tr b).2.2;have hc:Dn x.2.2.2.1=U x.2.2.2.1:=by grind[Dn,nE]
 simp only[lJ a7,dn,mq b,cr,lG a7 hl,hc];by_cases h:x.1=id
 .subst h;simp[qC]
 simp only[h,mD,ct,c ()];simp[qC,h]
def as9(a6:List ef)(al:List dk)(fs:List Int)(f:a6.length<=1000000)(ha:al.length<=1000000):D0 (a6,al,fs)=U (a6.map (·.1),al.map (·.1)):=by
 unfold D0;simp only[cr];refine(oU (A:=List Int) a6 (λi a=>(a,(i:Int))) (λa rest=>U (a++rest.map (·.1),al.map (·.1))) (λi a=>a.length=i) (by omega) ?_ ?_ [] rfl).trans rfl
 .intro rec a g
  simp only[mG,ct,bO,cM];refine(oU (A:=List Int) al (λi a=>(a,(i:Int))) (λb rest=>U (a,b++rest.map (·.1))) (λi a=>a.length=i) (by omega) ?_ ?_ [] rfl).trans rfl
  .intro rec b h
   simp[mG]
  intro rec i b x rest a7 c d e;simp only[lJ a7,dn,mq d,cr,lG a7 (show al.length<2^62 by omega)]
  grind[nE,cr]
 intro rec i a x rest a7 c d e;simp only[lJ a7,dn,mq d,cr,lG a7 (show a6.length<2^62 by omega)]
 grind[nE,cr]
def fc(p:b6):Bool:=IT (-2097152<=p.1)&&IT (p.1<=2097152)&&IT (-2097152<=p.2)&&IT (p.2<=2097152)
def HH(p:b6):fc p=IN↔-2097152<=p.1/\p.1<=2097152/\-2097152<=p.2/\p.2<=2097152:=by simp[fc,and_assoc]
def kj(a b c:b6):Int:=(b.1-a.1)*(c.2-a.2)-(b.2-a.2)*(c.1-a.1)
def Fk{a b m n:Int}(h1:-m<=a)(h2:a<=m)(g:-n<=b)(h:b<=n):-(m*n)<=a*b/\a*b<=m*n:=by
 have hm:0<=m:=by omega
 have c:0<=n:=by omega
 have d:a.natAbs<=m.natAbs:=by omega
 have e:b.natAbs<=n.natAbs:=by omega
 have f:=kF d e;rw[<-kG,<-kG]at f;have i:0<=m*n:=aK hm c;omega
def bi2{a b c:b6}(ha:fc a=IN)(d:fc b=IN)(hc:fc c=IN):-35184372088832<=kj a b c/\kj a b c<=35184372088832:=by rw[HH]at ha d hc;have h1:=Fk (a:=b.1-a.1) (b:=c.2-a.2) (m:=4194304) (n:=4194304) (by omega) (by omega) (by omega) (by omega);have h2:=Fk (a:=b.2-a.2) (b:=c.1-a.1) (m:=4194304) (n:=4194304) (by omega) (by omega) (by omega) (by omega);unfold kj;omega
def R6(l:List b6)(hl:l.length<2^62):wB l=U (l.all fc):=by
 unfold wB;refine(oy (A:=Unit) l (λi _=>(i:Int)) (λ_ rest=>U (rest.all fc)) (by omega) ?_ ?_ ()).trans rfl
 .intro rec a
  simp
 intro rec i a x rest a7 d e;simp only[lJ a7,dn,mq d,cr,lG a7 hl];rw[e ()];by_cases h1:x.1 < -2097152
 .have:fc x=IS:=by simp[fc];omega
  simp[h1,this]
 by_cases h2:2097152<x.1
 .have:fc x=IS:=by simp[fc];omega
  simp[h1,h2,this]
 by_cases b:x.2 < -2097152
 .have:fc x=IS:=by simp[fc];omega
  simp[h1,h2,b,this]
 by_cases c:2097152<x.2
 .have:fc x=IS:=by simp[fc];omega
  simp[h1,h2,b,c,this]
 have:fc x=IN:=by rw[HH];omega
 simp[h1,h2,b,c,this]
def LF(a b c:b6)(ha:fc a=IN)(d:fc b=IN)(hc:fc c=IN):yI (a,b,c)=U (kj a b c):=by have f:=bi2 ha d hc;rw[HH]at ha d hc;have h1:=Fk (a:=b.1-a.1) (b:=c.2-a.2) (m:=4194304) (n:=4194304) (by omega) (by omega) (by omega) (by omega);have h2:=Fk (a:=b.2-a.2) (b:=c.1-a.1) (m:=4194304) (n:=4194304) (by omega) (by omega) (by omega) (by omega);unfold yI;simp only[cr];rw[lR (n:=b.1-a.1) (by omega) (by omega),lR (n:=c.2-a.2) (by omega) (by omega),lR (n:=b.2-a.2) (by omega) (by omega),lR (n:=c.1-a.1) (by omega) (by omega),lR (n:=(b.1-a.1)*(c.2-a.2)) (by omega) (by omega),lR (n:=(b.2-a.2)*(c.1-a.1)) (by omega) (by omega)];have e:aa.wrap ((b.1-a.1)*(c.2-a.2)-(b.2-a.2)*(c.1-a.1))=kj a b c:=lR (n:=kj a b c) (by omega) (by omega);exact mP U e
def rY(a b c:b6):Int:=if fc a&&fc b&&fc c then kj a b c else 0
def K6(a b c:b6):wB [(a.1,a.2),(b.1,b.2),(c.1,c.2)]=U (fc a&&fc b&&fc c):=by rw[R6 _ (by simp)];simp[ku]
def aA7(a b c d:b6):wB [(a.1,a.2),(b.1,b.2),(c.1,c.2),(d.1,d.2)]=U (fc a&&fc b&&fc c&&fc d):=by rw[R6 _ (by simp)];simp[ku]
def aA0(a b c:b6):EM (a,b,c)=U (rY a b c):=by
 unfold EM rY;simp only[cr,K6];cases h:(fc a&&fc b&&fc c)with
 |false=>simp
 |true=>simp only[ab]at h;simp only[ax,ct,LF a b c h.1.1 h.1.2 h.2,cr,jj]
def lK(a b c:b6):Int:=if 0<rY a b c then 1 else if rY a b c<0 then -1 else 0
def R8(a b c:b6):pP (a,b,c)=U (lK a b c):=by
 unfold pP lK;simp only[cr,aA0];by_cases h1:0<rY a b c
 .simp[h1]
 by_cases h2:rY a b c<0<;>simp[h1,h2]
theorem vJ(a b:Int):bh py a [b]=max a b:=by simp only[bh,py];split<;>omega
def J'(a b:Int):bh s8 a [b]=min a b:=by simp only[bh,s8];split<;>omega
def sU(a b p:b6):Bool:=IT (min a.1 b.1<=p.1)&&(IT (p.1<=max a.1 b.1)&&(IT (min a.2 b.2<=p.2)&&IT (p.2<=max a.2 b.2)))
def l_(a b p:b6):Bool:=(fc a&&fc b&&fc p)&&(IT (kj a b p=0)&&sU a b p)
def Hl(a b p:b6):nP (a,b,p)=U (l_ a b p):=by
 unfold nP l_;simp only[cr,K6];cases h:(fc a&&fc b&&fc p)with
 |false=>simp
 |true=>simp only[ab]at h;simp only[ax,ct,LF a b p h.1.1 h.1.2 h.2,cr,vJ,J',sU];cases IT (kj a b p=0)<;>cases IT (min a.1 b.1<=p.1)<;>cases IT (p.1<=max a.1 b.1)<;>cases IT (min a.2 b.2<=p.2)<;>simp
def lo(a b:b6):Bool:=IT (a.1<b.1)||(IT (a.1=b.1)&&IT (a.2<b.2))
def ax2(a b:b6):n_ (a,b)=U (lo a b):=by unfold n_ lo;simp only[cr];cases IT (a.1<b.1)<;>cases IT (a.1=b.1)<;>rfl
def mz(a b:b6):Bool:=IT (a.1=b.1)&&IT (a.2=b.2)
theorem pR(a b:b6):mz a b=IN↔a=b:=by simp[mz,Prod.ext_iff]
def qx(a b c d:b6):Int :=
 let e:=if lo b a then b else a
 let g:=if lo b a then a else b
 let c':=if lo d c then d else c
 let h:=if lo d c then c else d
 let f:=if lo e c' then c' else e
 let l:=if lo h g then h else g
 if mz f l then 1 else if lo f l then 2 else 0
def ay2(a b c d:b6):B_ (a,b,c,d)=U (qx a b c d):=by
 unfold B_ qx;have e:∀p q:b6,(IT (p.1=q.1)&&IT (p.2=q.2))=mz p q:=λ_ _=>rfl;have i:∀p q:b6,n_ ((p.1,p.2),(q.1,q.2))=U (lo p q):=λp q=>ax2 p q;simp only[i,cr,e];cases h1:lo b a<;>cases h2:lo d c<;>simp only[dn,ct,jj,j2,aq]
 .cases g:lo a c<;>cases h:lo d b<;>simp only[dn,ct,jj,j2,aq]
  .cases mz a b<;>cases f:lo a b<;>simp_all
  .cases mz a d<;>cases f:lo a d<;>simp_all
  .cases mz c b<;>cases f:lo c b<;>simp_all
  cases mz c d<;>cases f:lo c d<;>simp_all
 .cases g:lo a d<;>cases h:lo c b<;>simp only[dn,ct,jj,j2,aq]
  .cases mz a b<;>cases f:lo a b<;>simp_all
  .cases mz a c<;>cases f:lo a c<;>simp_all
  .cases mz d b<;>cases f:lo d b<;>simp_all
  cases mz d c<;>cases f:lo d c<;>simp_all
 .cases g:lo b c<;>cases h:lo d a<;>simp only[dn,ct,jj,j2,aq]
  .cases mz b a<;>cases f:lo b a<;>simp_all
  .cases mz b d<;>cases f:lo b d<;>simp_all
  .cases mz c a<;>cases f:lo c a<;>simp_all
  cases mz c d<;>cases f:lo c d<;>simp_all
 cases g:lo b d<;>cases h:lo c a<;>simp only[dn,ct,jj,j2,aq]
 .cases mz b a<;>cases f:lo b a<;>simp_all
 .cases mz b c<;>cases f:lo b c<;>simp_all
 .cases mz d a<;>cases f:lo d a<;>simp_all
 cases mz d c<;>cases f:lo d c<;>simp_all
def SB(a b c:b6):lK a b c=1\/lK a b c=-1\/lK a b c=0:=by
 unfold lK;split
 .exact .inl rfl
 split
 .exact .inr (.inl rfl)
 exact .inr (.inr rfl)
def bn6(a b c d e f:b6):aa.wrap (lK a b c*lK d e f)=lK a b c*lK d e f:=by rcases SB a b c with h|h|h<;>rcases SB d e f with h'|h'|h'<;>rw[h,h']<;>exact lR (by decide) (by decide)
def oZ(a b c d:b6):Int :=
 if fc a&&fc b&&fc c&&fc d then
  if mz a b then(if l_ c d a then 1 else 0)else if mz c d then(if l_ a b c then 1 else 0)else if lK a b c=0/\lK a b d=0 then qx a b c d else if lK a b c*lK a b d<=0/\lK c d a*lK c d b<=0 then 1 else 0 else 0
def aD3(a b c d:b6):Cn (a,b,c,d)=U (oZ a b c d):=by
 unfold Cn oZ;have e:∀p q:b6,(IT (p.1=q.1)&&IT (p.2=q.2))=mz p q:=λ_ _=>rfl;have i:∀p q r:b6,nP ((p.1,p.2),(q.1,q.2),(r.1,r.2))=U (l_ p q r):=λp q r=>Hl p q r;have j:∀p q r:b6,pP ((p.1,p.2),(q.1,q.2),(r.1,r.2))=U (lK p q r):=λp q r=>R8 p q r;have k:∀p q r s:b6,B_ ((p.1,p.2),(q.1,q.2),(r.1,r.2),(s.1,s.2))=U (qx p q r s):=λp q r s=>ay2 p q r s;simp only[cr,aA7,e,i,j,k,bn6];cases h:(fc a&&fc b&&fc c&&fc d)with
 |false=>simp
 |true=>
  simp only[ax,ct,jj];cases mz a b with
  |true=>cases l_ c d a<;>simp
  |false=>
   simp only[ct,aq,j2];cases mz c d with
   |true=>cases l_ a b c<;>simp
   |false=>
    simp only[ct,aq,j2];by_cases h1:lK a b c=0
    .by_cases h2:lK a b d=0
     .simp[h1,h2]
     by_cases f:lK c d a*lK c d b<=0<;>simp[h1,h2,f]
    by_cases g:lK a b c*lK a b d<=0
    .by_cases f:lK c d a*lK c d b<=0<;>simp[h1,g,f]
    simp[h1,g]
def oX(o p:b6):Bool:=IT (p.2<o.2)||(IT (p.2=o.2)&&IT (p.1<o.1))
def aB8(o p:b6):yG (o,p)=U (oX o p):=by unfold yG oX;simp only[cr];cases IT (p.2<o.2)<;>cases IT (p.2=o.2)<;>rfl
def qb(o a b:b6):Bool:=(fc o&&fc a&&fc b)&&(!mz a o&&(!mz b o&&(if oX o a=oX o b then IT (0<kj o a b)else oX o b)))
def aD2(o a b:b6):yO (o,a,b)=U (qb o a b):=by
 unfold yO qb;have e:∀p q:b6,(IT (p.1=q.1)&&IT (p.2=q.2))=mz p q:=λ_ _=>rfl;have c:∀p q:b6,yG ((p.1,p.2),(q.1,q.2))=U (oX p q):=λp q=>aB8 p q;simp only[cr,K6,e,c];cases h:(fc o&&fc a&&fc b)with
 |false=>simp
 |true=>simp only[ab]at h;have d:yI ((o.1,o.2),(a.1,a.2),(b.1,b.2))=U (kj o a b):=LF o a b h.1.1 h.1.2 h.2;simp only[ax,ct,d,cr];cases mz a o<;>cases mz b o<;>cases oX o a<;>cases oX o b<;>simp
def oP(al:List dk)(id:Int):Nat:=(al.map λa=>(if a.2.1=id then 1 else 0)+(if a.2.2.1=id then 1 else 0)).sum
def Ry(a6:List ef)(al:List dk)(fs:List Int)(id:Int)(ha:al.length<=1000000):B8 ((a6,al,fs),id)=U ((oP al id:Nat):Int):=by
 unfold B8;simp[cr];refine(oU (A:=Nat) al (λi a=>((i:Int),(a:Int))) (λa rest=>U ((a+oP rest id:Nat):Int)) (λi a=>a<=2*i) (by omega) ?_ ?_ 0 (by omega)).trans (by simp)
 .intro rec a c
  simp[oP]
 intro rec i a x rest a7 c d b;have e:=lG a7 (show al.length<2^62 by omega);have f:aa.wrap ((a:Int)+1)=((a+1:Nat):Int):=by rw[lR (by omega) (by omega)];omega
 have g:aa.wrap (((a+1:Nat):Int)+1)=((a+2:Nat):Int):=by rw[lR (by omega) (by omega)];omega
 simp only[lJ a7,dn,mq d,cr,e,f,g];by_cases h1:x.2.1=id<;>by_cases h2:x.2.2.1=id
 .simp only[h1,h2,lV,dn]
  rw[b _ (by omega)];simp only[oP,ay,db,h1,h2,jj];congr 2;omega
 .simp only[h1,h2,lV,mD,dn,ct]
  rw[b _ (by omega)];simp only[oP,ay,db,h1,h2,jj,j2];congr 2;omega
 .simp only[h1,h2,lV,mD,dn,ct]
  rw[b _ (by omega)];simp only[oP,ay,db,h1,h2,jj,j2];congr 2;omega
 simp only[h1,h2,lV,mD,dn,ct];rw[b _ (by omega)];simp only[oP,ay,db,h1,h2,jj,j2];congr 2;omega
def qc:List Int->Bool
 | []=>IN
 | [_]=>IN
 |a::b::l=>IT (a<b)&&qc (b::l)
def Lh(xs:List Int)(hl:xs.length<2^62):Ad xs=U (qc xs):=by
 unfold Ad;cases xs with
 |nil=>exact SQ λrec=>by simp[qc]
 |cons y ys=>
  simp[aA]at hl;refine(oU (A:=Int) ys (λi a=>((i:Int)+1)) (λa rest=>U (qc (a::rest))) (λi a=>(y::ys)[i]?=U a) (by omega) ?_ ?_ y rfl).trans rfl
  .intro rec a b
   simp[qc]
  intro rec i a x rest a7 b d e;have f:IT ((i:Int)+1<(((y::ys).length:Nat):Int))=IN:=by simp[aA,gb];omega
  have g:aa.wrap ((i:Int)+1-1)=((i:Nat):Int):=by rw[lR (by omega) (by omega)];omega
  have j:aa.wrap ((i:Int)+1+1)=((i+1:Nat):Int)+1:=by rw[lR (by omega) (by omega)];omega
  have c:nth (y::ys) ((i:Int)+1)=U x:=by
   have:((i:Int)+1)=((i+1:Nat):Int):=by omega
   rw[this,mJ,aM,<-mJ,mq d]
  simp only[cr,f,dn,g,mJ,b,c,j];have k:(y::ys)[i+1]?=U x:=by rw[<-mJ];rw[<-c];congr 1
  rw[e x k];by_cases h:x<=a
  .have:¬a<x:=by omega
   simp[h,qc,this]
  have:a<x:=by omega
  simp[h,qc,this]
def pathOf(a6:List ef)(al:List dk)(id:Int):Option (List b6):=match qC al id with
 |none=>No
 |some a=>match pq a6 a.2.1,pq a6 a.2.2.1 with
  |some f,U t=>U ((f.2.1,f.2.2)::(a.2.2.2.1++[(t.2.1,t.2.2)]))
  |_,_=>No
def ZE{α:Type}{z:α}{n:Int}(a:0<n)(h1:n<=1000000):yq 16 z n=U (List.replicate n.toNat z):=by
 unfold yq;have b:IT (aa.wrap n=n)=IN:=by rw[lR (by omega) (by omega)];simp
 have c:IT (0<n)=IN:=by simpa using a
 have d:IT ((2*n.toNat+1000)*16<=2^48)=IN:=by simp[gb];omega
 have e:IT (n.toNat<=2^62)=IN:=by simp[gb];omega
 rw[b,c,d,e];rfl
def Ui{al:List dk}{id:Int}{a:dk}(h:qC al id=U a):a∈al:=bj h
def Sg(a6:List ef)(al:List dk)(fs:List Int)(id:Int)(m:a6.length<=1000000)(ha:al.length<=1000000)(hv:∀a∈al,a.2.2.2.1.length<=900000) :
  vo ((a6,al,fs),id)=U (match pathOf a6 al id with|some l=>(l,0)|none=>([],7)):=by
 unfold vo;simp only[Sm a6 al fs _ (show al.length<2^62 by omega) (λa h=>by have:=hv a h;omega),LV a6 al fs _ (show a6.length<2^62 by omega),cr];unfold pathOf;cases c:qC al id with
 |none=>simp
 |some a=>
  have b:=hv a (Ui c);simp only[ax,ct];cases cu:pq a6 a.2.1 with
  |none=>simp
  |some f=>
   simp only[ax,ct];cases ca:pq a6 a.2.2.1 with
   |none=>simp
   |some t=>
    simp only[ax,ct];generalize n:a.2.2.2.1=via at b;have d:aa.wrap (1+(via.length:Int))=1+via.length:=lR (by omega) (by omega);have e:aa.wrap (1+(via.length:Int)+1)=via.length+2:=by rw[lR (by omega) (by omega)];omega
    have g:IT (1+(via.length:Int)<0)=IS:=by simp[nu];omega
    have i:IT ((via.length:Int)+2<0)=IS:=by simp[nu];omega
    have j:aa.wrap ((via.length:Int)+2-0)=via.length+2:=by rw[lR (by omega) (by omega)];omega
    have k:IT (0<(via.length:Int)+2)=IN:=by simp[gb];omega
    simp only[d,e,g,i,j,k,ct,dn];rw[ZE (by omega) (by omega)];simp[cr];rw[nE (by omega) (by simp)];simp[cr,bq];rw[nE (by omega) (by simp;omega)];simp[cr];rw[nE (by omega) (by simp;omega)];simp
def aW9{a6:List ef}{al:List dk}{id:Int}{l:List b6}(h:pathOf a6 al id=U l):∃a,qC al id=U a/\l.length=a.2.2.2.1.length+2:=by
 unfold pathOf at h;split at h
 .cases h
 rename_i a ha;split at h
 .cases h;exact⟨a,ha,by simp⟩
 cases h
def qp(n:Int):Bool:=IT (1<=n)&&IT (n<=1073741824)
def Lq(xs:List Int)(hl:xs.length<2^62):Af xs=U (xs.all qp):=by
 unfold Af;have h1:∀n,D5 n=U (!(qp n)):=λn=>by
  unfold D5 qp;by_cases h1:n<1
  .have:¬ 1<=n:=by omega
   simp[h1,this]
  have b:1<=n:=by omega
  by_cases h2:1073741824<n
  .have:¬n<=1073741824:=by omega
   simp[h1,h2,b,this]
  have:n<=1073741824:=by omega
  simp[h1,h2,b,this]
 have h2:Gv (xs,())=U (!(xs.all qp)):=by
  unfold Gv;simp;refine(oy (A:=Unit) xs (λi _=>(i:Int)) (λ_ rest=>U (!(rest.all qp))) (by omega) ?_ ?_ ()).trans rfl
  .intro rec a;simp
  intro rec i a x rest a7 c d;simp only[lJ a7,dn,mq c,cr,lG a7 hl,h1];rw[d ()];cases h:qp x<;>simp[cE,h]
 simp[h2,cr,Bool.not_not]
def mQ(p:b6):Bool:=IT (-1048576<=p.1)&&IT (p.1<=1048576)&&IT (-1048576<=p.2)&&IT (p.2<=1048576)
def vl{p:b6}(h:mQ p=IN):fc p=IN:=by simp[mQ,ab,gb]at h;rw[HH];omega
def Ri(p:b6):Ag p=U (!(mQ p)):=by
 unfold Ag mQ;by_cases h1:p.1 < -1048576
 .have:¬ -1048576<=p.1:=by omega
  simp[h1,this]
 by_cases h2:1048576<p.1
 .have:¬p.1<=1048576:=by omega
  simp[h1,h2,this]
 by_cases a:p.2 < -1048576
 .have:¬ -1048576<=p.2:=by omega
  simp[h1,h2,a,this]
 have c:-1048576<=p.1:=by omega
 have a2:p.1<=1048576:=by omega
 have a3:-1048576<=p.2:=by omega
 by_cases b:1048576<p.2
 .have:¬p.2<=1048576:=by omega
  simp[h1,h2,a,b,this]
 have:p.2<=1048576:=by omega
 simp[h1,h2,a,b,c,a2,a3,this]
def ax5(l:List b6)(hl:l.length<2^62):Gn (l,())=U (!(l.all mQ)):=by
 unfold Gn;simp;refine(oy (A:=Unit) l (λi _=>(i:Int)) (λ_ rest=>U (!(rest.all mQ))) (by omega) ?_ ?_ ()).trans rfl
 .intro rec a;simp
 intro rec i a x rest a7 b c;have e:Ag (x.1,x.2)=U (!(mQ x)):=Ri x;simp only[lJ a7,dn,mq b,cr,lG a7 hl,e];rw[c ()];cases h:mQ x<;>simp[cE,h]
theorem ax7(a6:List ef)(al:List dk)(fs:List Int)(d:a6.length<=1000000)(ha:al.length<=1000000)(hv:∀a∈al,a.2.2.2.1.length<=900000) :
  ED (a6,al,fs)=U ((a6.all λn=>mQ (n.2.1,n.2.2))&&(al.all λa=>a.2.2.2.1.all mQ)):=by
 unfold ED;simp;refine(oy (A:=Unit) a6 (λi _=>(i:Int)) (λ_ rest=>U ((rest.all λn=>mQ (n.2.1,n.2.2))&&(al.all λa=>a.2.2.2.1.all mQ))) (by omega) ?_ ?_ ()).trans rfl
 .intro rec a
  simp[ct,ij,dX];refine(oy (A:=Unit) al (λi _=>(i:Int)) (λ_ rest=>U (rest.all λa=>a.2.2.2.1.all mQ)) (by omega) ?_ ?_ ()).trans rfl
  .intro rec a;simp
  intro rec i a x rest a7 b c;have e:=hv x (tr b).2.2;simp only[lJ a7,dn,mq b,cr,lG a7 (show al.length<2^62 by omega),ax5 x.2.2.2.1 (by omega)];rw[c ()];cases h:x.2.2.2.1.all mQ<;>simp[h]
 intro rec i a x rest a7 b c;simp only[lJ a7,dn,mq b,cr,lG a7 (show a6.length<2^62 by omega),Ri];rw[c ()];cases h:mQ (x.2.1,x.2.2)<;>simp[h]
def vK(n m:ef):Bool:=mz (n.2.1,n.2.2) (m.2.1,m.2.2)
def uz:List ef->List ef->Bool
 |_,[]=>IS
 |pre,n::rest=>pre.any (vK n)||uz (pre++[n]) rest
def vt(a6:List ef)(al:List dk)(fs nodes:List Int):Int :=bif uz [] a6 then 8 else bif al.any (λa=>!(IT (a.2.1∈nodes)&&IT (a.2.2.1∈nodes)))then 7 else bif al.any (λa=>!((IT (a.2.2.2.2.1=0)||IT (a.2.2.2.2.1∈fs))&&(IT (a.2.2.2.2.2=0)||IT (a.2.2.2.2.2∈fs))))then 12 else 0
theorem av9(a6:List ef)(al:List dk)(fs nodes:List Int)(t:a6.length<=1000000)(ha:al.length<=1000000)(hf:fs.length<=1000000)(n:nodes.length<=1000000) :
  D6 ((a6,al,fs),nodes)=U (vt a6 al fs nodes):=by
 have d:∀y,rL (nodes,y)=U (IT (y∈nodes)):=λy=>BO nodes y (by omega);have e:∀y,rL (fs,y)=U (IT (y∈fs)):=λy=>BO fs y (by omega);unfold D6;simp only[cr,d,e];refine(oy (A:=Unit) a6 (λi _=>(i:Int)) (λ_ rest=>U (bif uz (a6.take (a6.length-rest.length)) rest then 8 else bif al.any (λa=>!(IT (a.2.1∈nodes)&&IT (a.2.2.1∈nodes)))then 7 else bif al.any (λa=>!((IT (a.2.2.2.2.1=0)||IT (a.2.2.2.2.1∈fs))&&(IT (a.2.2.2.2.2=0)||IT (a.2.2.2.2.2∈fs))))then 12 else 0)) (by omega) ?_ ?_ ()).trans (by simp[vt])
 .intro rec u
  simp only[mG,ct,uz,ct];refine(oy (A:=Unit) al (λi _=>(i:Int)) (λ_ rest=>U (bif rest.any (λa=>!(IT (a.2.1∈nodes)&&IT (a.2.2.1∈nodes)))then 7 else bif al.any (λa=>!((IT (a.2.2.2.2.1=0)||IT (a.2.2.2.2.1∈fs))&&(IT (a.2.2.2.2.2=0)||IT (a.2.2.2.2.2∈fs))))then 12 else 0)) (by omega) ?_ ?_ ()).trans rfl
  .intro rec u
   simp only[mG,ct,List.any_nil,ct];refine(oy (A:=Unit) al (λi _=>(i:Int)) (λ_ rest=>U (bif rest.any (λa=>!((IT (a.2.2.2.2.1=0)||IT (a.2.2.2.2.1∈fs))&&(IT (a.2.2.2.2.2=0)||IT (a.2.2.2.2.2∈fs))))then 12 else 0)) (by omega) ?_ ?_ ()).trans rfl
   .intro rec u
    simp
   intro rec i u x rest a7 b c;simp only[lJ a7,dn,mq b,cr,lG a7 (show al.length<2^62 by omega)];rw[c ()]
   grind
  intro rec i u x rest a7 b c;simp only[lJ a7,dn,mq b,cr,lG a7 (show al.length<2^62 by omega)];rw[c ()]
  grind
 intro rec i u x rest a7 b c;have o:=tr b;have p:a6.length-(x::rest).length=i:=by simp;omega
 have q:a6.length-rest.length=i+1:=by omega
 have r:a6.take (i+1)=a6.take i++[x]:=by grind
 simp only[lJ a7,dn,mq b,cr,lG a7 (show a6.length<2^62 by omega),bl0 (Nat.le_of_lt a7)];simp only[p,uz];have f:=c ();rw[q,r]at f;have g:(a6.take i).length<2^62:=by simp;omega
 refine(oy (A:=Unit) (a6.take i) (λi _=>(i:Int)) (λ_ l=>U (bif (l.any (vK x)||uz (a6.take i++[x]) rest)then 8 else bif al.any (λa=>!(IT (a.2.1∈nodes)&&IT (a.2.2.1∈nodes)))then 7 else bif al.any (λa=>!((IT (a.2.2.2.2.1=0)||IT (a.2.2.2.2.1∈fs))&&(IT (a.2.2.2.2.2=0)||IT (a.2.2.2.2.2∈fs))))then 12 else 0)) (by omega) ?_ ?_ ()).trans rfl
 .grind
 intro m j u y l hj h k;have s:(IT (x.2.1=y.2.1)&&IT (x.2.2=y.2.2))=vK x y:=rfl;simp only[lJ hj,dn,mq h,cr,lG hj g,s];rw[k ()]
 grind
abbrev GC:=Int×Int×Int×List b6×Int×Int×List b6
abbrev fy:=GC×Int
def GC.path(l:GC):List b6:=l.2.2.2.2.2.2
def mi(a:dk)(l:List b6):GC:=(a.1,a.2.1,a.2.2.1,a.2.2.2.1,a.2.2.2.2.1,a.2.2.2.2.2,l)
def pV(a:dk)(l:List b6):List fy:=(bo (l.length-1)).map λ(i:Nat)=>(mi a l,(i:Int))
def re:List b6->Bool
 | []=>IN
 | [_]=>IN
 |p::q::l=>!(mz p q)&&re (q::l)
def mE(a6:List ef)(al:List dk):List dk->Option (List fy)
 | []=>U []
 |a::b=>match pathOf a6 al a.1 with
  |none=>No
  |some l=>bif (IT (a.2.1=a.2.2.1)&&IT (l.length<4))||!(re l)then No else match mE a6 al b with
   |some r=>U (pV a l++r)
   |none=>No
theorem YK{β:Type}(a:dk)(l:List b6)(acc:List fy)(K:List fy×Int->Option β)(bad:β)(hl:l.length<=1000000)(f:2<=l.length)(o:acc.length<=300000000) :
  rounds (α:=List ((Int×Int×Int×List (Int×Int)×Int×Int×List (Int×Int))×Int)×Int) (β:=β) (λk x=>
    a8 (U (IT (x.2<aa.wrap ((l.length:Int)-1)))) λv25=>
    bif v25 then(
     a8 (nth l x.2) λv26=>
     a8 (U (aa.wrap (x.2+(1:Int)))) λv28=>
     a8 (nth l v28) λv29=>
     a8 (U ((λ(a b:Int×Int)=>(IT (a.1=b.1)&&IT (a.2=b.2))) (v26.1,v26.2) (v29.1,v29.2))) λv31=>
     bif v31 then(
     U bad)else(
     a8 (la 16 x.1 [((a.1,a.2.1,a.2.2.1,a.2.2.2.1,a.2.2.2.2.1,a.2.2.2.2.2,l),x.2)]) λv32=>
     a8 (U (aa.wrap (x.2+(1:Int)))) λv33=>
     k (v32,v33)))else K x) (acc,(0:Int))=bif re l then K (acc++pV a l,(l.length:Int)-1)else U bad:=by
 cases l with
 |nil=>simp at f
 |cons p c=>
  simp only[aA]at hl f;have t:aa.wrap (((p::c).length:Nat)-1:Int)=(c.length:Int):=by rw[aA,lR (by omega) (by omega)];omega
  simp only[cr,t];refine(oU (A:=List fy) c (λi s=>(s,(i:Int))) (λs rest=>bif re ((p::c).drop (c.length-rest.length))then K (acc++pV a (p::c),(c.length:Int))else U bad)
   (λi s=>s=acc++(bo i).map λ(j:Nat)=>(mi a (p::c),(j:Int))) (by omega) ?_ ?_ acc (by simp)).trans (by
    have:(((p::c).length:Nat):Int)-1=c.length:=by rw[aA];omega
    rw[this];simp)
  .intro rec s hs
   have g:re ((p::c).drop c.length)=IN:=by
    have:((p::c).drop c.length).length=1:=by simp
    match h:(p::c).drop c.length,this with
    | [x],_=>rfl
   simp only[mG,ct,bL,Nat.sub_zero,g,dn];subst hs;rfl
  intro rec i s x rest a7 q m u;have v:=tr m;have e:c.length-(x::rest).length=i:=by simp;omega
  have d:c.length-rest.length=i+1:=by omega
  have g:nth (p::c) (i:Int)=U ((p::c)[i]'(by simp;omega)):=by rw[mJ];exact ae _
  have w:nth (p::c) ((i+1:Nat):Int)=U x:=by rw[mJ,aM,<-mJ];exact mq m
  have z:=lG a7 (show c.length<2^62 by omega);have r:(p::c).drop (i+1)=x::rest:=by simpa using m
  have n:(p::c).drop i=(p::c)[i]'(by simp;omega)::x::rest:=by rw[bN (by simp;omega),r]
  rw[e,n];have hlen:s.length<=300000000+i:=by rw[q];simp;omega
  simp only[lJ a7,dn,g,cr,z,w];rw[nE (by omega) (by simp;omega)];have B:(IT (((p::c)[i]'(by simp;omega)).1=x.1)&&IT (((p::c)[i]'(by simp;omega)).2=x.2))=mz ((p::c)[i]'(by simp;omega)) x:=rfl;simp only[cr,B];rw[u _ (by rw[q,List.range_succ,cL];simp[mi]),d,r];simp only[re];cases mz ((p::c)[i]'(by simp;omega)) x<;>simp
structure uC(s:fy):Prop where
 b5:0<=s.2
 a7:s.2+1<s.1.path.length
 len:s.1.path.length<=1000000
def hT(s:fy):b6:=(s.1.path[s.2.toNat]?).getD (0,0)
def hF(s:fy):b6:=(s.1.path[s.2.toNat+1]?).getD (0,0)
def wO{s:fy}(h:uC s):sJ s=U (hT s,hF s):=by
 obtain⟨l,i⟩:=s;obtain⟨h1,h2,a⟩:=h;simp only at h1 h2 a;unfold sJ hT hF;have b:aa.wrap (i+1)=i+1:=lR (by omega) (by omega);have c:nth l.path i=U (l.path[i.toNat]'(by omega)):=by rw[N' h1];exact ae _
 have d:nth l.path (i+1)=U (l.path[i.toNat+1]'(by omega)):=by
  rw[N' (by omega)];have:(i+1).toNat=i.toNat+1:=by omega
  rw[this];exact ae _
 simp only[cr,b];show a8 (nth l.path i) _=_;rw[c];simp only[cr];show a8 (nth l.path (i+1)) _=_;rw[d];simp only[cr];have e:l.path[i.toNat]?=U (l.path[i.toNat]'(by omega)):=ae _;have f:l.path[i.toNat+1]?=U (l.path[i.toNat+1]'(by omega)):=ae _;rw[e,f];rfl
def oh(s:fy):Int:=min (hT s).1 (hF s).1
def sk(s:fy):Int:=max (hT s).1 (hF s).1
def Oa{s:fy}(h:uC s):wj s=U (oh s):=by unfold wj;have:sJ (s.1,s.2)=U (hT s,hF s):=wO h;simp only[this,cr,J'];rfl
def Zr{s:fy}(h:uC s):BS s=U (sk s):=by unfold BS;have:sJ (s.1,s.2)=U (hT s,hF s):=wO h;simp only[this,cr,vJ];rfl
def uR(s:fy):Bool:=IT (s.2=0)
def ui(s:fy):Bool:=IT (s.2=(s.1.path.length:Int)-2)
def VM(s:fy):vf s=U (uR s):=by unfold vf uR;simp
def NU{s:fy}(h:uC s):tm s=U (ui s):=by unfold tm ui;have hl:=h.len;have e:aa.wrap ((s.1.path.length:Int)-2)=(s.1.path.length:Int)-2:=lR (by omega) (by omega);simp only[cr];show U (IT (s.2=aa.wrap ((s.1.path.length:Int)-2)))=_;rw[e]
def Cr{a:dk}{l:List b6}{s:fy}(h:s∈pV a l):∃i:Nat,i+1<l.length/\s=(mi a l,(i:Int)):=by unfold pV at h;obtain⟨i,a7,rfl⟩:=aP.1 h;rw[List.mem_range]at a7;exact⟨i,by omega,rfl⟩
def bp0{a:dk}{l:List b6}(hl:l.length<=1000000){s:fy}(h:s∈pV a l):uC s:=by obtain⟨i,a7,rfl⟩:=Cr h;exact⟨by simp,by show((i:Int)+1<(l.length:Int));omega,hl⟩
def Hh{a6:List ef}{al:List dk}:∀ {l:List dk} {r:List fy},mE a6 al l=U r->∀s∈r,∃a∈l,∃p,pathOf a6 al a.1=U p/\s∈pV a p
 | [],r,h,s,hs=>by simp[mE]at h;subst h;simp at hs
 |a::l,r,h,s,hs=>by
  unfold mE at h;split at h
  .cases h
  rename_i p hp;cases hc:((IT (a.2.1=a.2.2.1)&&IT (p.length<4))||!(re p))with
  |true=>rw[hc]at h;cases h
  |false=>
   rw[hc]at h;simp only[ct]at h;split at h
   next d b=>
    cases h;rcases aO.1 hs with hs|hs
    .exact⟨a,by simp,p,hp,hs⟩
    obtain⟨c,h1,h2⟩:=Hh b s hs;exact⟨c,by simp[h1],h2⟩
   cases h
def mkMap(a6:List ef)(m:List (Int×b6)):List (Int×b6):=a6.foldl (λm n=>k7 (λ(a b:Int)=>IT (a=b)) n.1 (n.2.1,n.2.2) m) m
abbrev fx:Int->Int->Bool:=λa b=>IT (a=b)
def De(a b:Int):fx a b=IT (a=b):=rfl
theorem sL{V:Type}(k c:Int)(v:V):∀m:List (Int×V),ff fx k (k7 fx c v m)=if k=c then U v else ff fx k m
 | []=>by by_cases h:k=c<;>simp[k7,ff,h,De]
 |p::m=>by
  have d:=sL k c v m;simp only[k7,De];by_cases h1:c=p.1
  .simp only[h1,lV,dn,ff,De]
   by_cases h:k=p.1<;>simp[h]
  simp only[h1,mD,ct,ff,De];by_cases h:k=p.1
  .have:¬k=c:=λe=>h1 (by rw[<-e,h])
   simp[h];exact λe=>lH e.symm h1
  have f:ff (λa b=>IT (a=b)) k (k7 fx c v m)=if k=c then U v else ff fx k m:=d
  simp[h];exact d
theorem TQ(k:Int):∀(a6:List ef) (m:List (Int×b6)),(∀n∈a6,k≠n.1)->ff fx k (mkMap a6 m)=ff fx k m
 | [],m,_=>rfl
 |n::a6,m,h=>by have a:=TQ k a6 (k7 fx n.1 (n.2.1,n.2.2) m) (λx b=>h x (by simp[b]));show ff fx k (mkMap a6 (k7 fx n.1 (n.2.1,n.2.2) m))=_;rw[a,sL,b8 (h n (by simp))]
def nI(m:List (Int×b6))(id:Int):b6:=(ff fx id m).getD (0,0)
def oH(s t:fy)(m:List (Int×b6)):Bool :=
 let c:=oZ (hT s) (hF s) (hT t) (hF t)
 bif IT (s.1.1=t.1.1)then
  (bif IT (t.2<s.2)then
   (bif IT (t.2+1=s.2)||(IT (t.1.2.1=t.1.2.2.1)&&(uR t&&ui s))then IT (c=1)else IT (c=0))else(bif IT (s.2+1=t.2)||(IT (s.1.2.1=s.1.2.2.1)&&(uR s&&ui t))then IT (c=1)else IT (c=0)))else bif IT (c=1)then
  ((IT (s.1.2.1=t.1.2.1)||IT (s.1.2.1=t.1.2.2.1))&&(l_ (hT s) (hF s) (nI m s.1.2.1)&&l_ (hT t) (hF t) (nI m s.1.2.1))) ||
  ((IT (s.1.2.2.1=t.1.2.1)||IT (s.1.2.2.1=t.1.2.2.1))&&(l_ (hT s) (hF s) (nI m s.1.2.2.1)&&l_ (hT t) (hF t) (nI m s.1.2.2.1)))else IT (c=0)
def Xd(m:List (Int×b6))(id:Int):mH (ff (λ(a b:Int)=>IT (a=b)) id m) (U ((0:Int),(0:Int)))=U (nI m id):=by unfold nI;show mH (ff fx id m) _=_;cases ff fx id m<;>rfl
def aB1{s t:fy}(hs:uC s)(e:uC t)(m:List (Int×b6)):BW (s,t,m)=U (oH s t m):=by
 have f:=hs.a7;have g:=e.a7;have h:=hs.len;have i:=e.len;have j:=hs.b5;have k:=e.b5;have l:sJ (s.1,s.2)=U (hT s,hF s):=wO hs;have n:sJ (t.1,t.2)=U (hT t,hF t):=wO e;have o:∀a b c d:b6,Cn ((a.1,a.2),(b.1,b.2),(c.1,c.2),(d.1,d.2))=U (oZ a b c d):=λa b c d=>aD3 a b c d;have p:∀a b c:b6,nP ((a.1,a.2),(b.1,b.2),(c.1,c.2))=U (l_ a b c):=λa b c=>Hl a b c;have q:∀s:fy,vf (s.1,s.2)=U (uR s):=λs=>VM s;have r:tm (s.1,s.2)=U (ui s):=NU hs;have u:tm (t.1,t.2)=U (ui t):=NU e;have v:aa.wrap (t.2+1)=t.2+1:=lR (by omega) (by omega);have w:aa.wrap (s.2+1)=s.2+1:=lR (by omega) (by omega);unfold BW oH;simp only[l,n,o,p,q,r,u,v,w,cr,Xd];generalize oZ (hT s) (hF s) (hT t) (hF t)=c;generalize l_ (hT s) (hF s) (nI m s.1.2.1)=o1;generalize l_ (hT t) (hF t) (nI m s.1.2.1)=o2;generalize l_ (hT s) (hF s) (nI m s.1.2.2.1)=o3;generalize l_ (hT t) (hF t) (nI m s.1.2.2.1)=o4;generalize uR s=f1;generalize uR t=f2;generalize ui s=mj;generalize ui t=nh;generalize IT (s.1.2.1=t.1.2.1)=d1;generalize IT (s.1.2.1=t.1.2.2.1)=d2;generalize IT (s.1.2.2.1=t.1.2.1)=d3;generalize IT (s.1.2.2.1=t.1.2.2.1)=d4;generalize IT (c=1)=c1;generalize IT (c=0)=x;generalize IT (t.2+1=s.2)=g1;generalize IT (s.2+1=t.2)=g2;generalize IT (s.1.2.1=s.1.2.2.1)=g3;generalize IT (t.1.2.1=t.1.2.2.1)=g4;generalize IT (t.2<s.2)=g5;cases IT (s.1.1=t.1.1)
 .cases c1
  .rfl
  cases d1<;>cases d2<;>cases d3<;>cases d4<;>cases o1<;>cases o2<;>cases o3<;>cases o4<;>rfl
 cases g5
 .cases g2<;>cases g3<;>cases f1<;>cases nh<;>rfl
 cases g1<;>cases g4<;>cases f2<;>cases mj<;>rfl
open Go.Proofs Go.Shelf Go.Sort
def tR(a b:Int):Int:=if a<b then -1 else if b<a then 1 else 0
def cmp_eq(a b:Int):xf (a,b)=U (tR a b):=by
 have h:∀n,xm n=U IS:=λn=>by unfold xm;simp
 unfold xf tR;simp only[h,cr,ct];by_cases h1:a<b
 .simp[h1]
 by_cases h2:b<a<;>simp[h1,h2]
theorem qu{a b:Int}:tR a b<0↔a<b:=by
 unfold tR;by_cases h1:a<b
 .simp[h1]
 by_cases h2:b<a<;>simp[h1,h2]
def pv(s t:fy):Int:=tR (oh s) (oh t)
def uJ(l:List fy):Ordered pv l :=Cd (λx _=>by unfold pv;rw[qu];omega) (λx _ y _ z _ a b=>by unfold pv at *;rw[qu]at *;omega) (λx _ y _ z _ a b=>by unfold pv at *;rw[qu]at *;omega)
def aR3{l:List fy}(hs:∀s∈l,uC s)(hl:l.length<4611686018427387904):DK (l,2,())=U (nG pv l):=by unfold DK;simp only[lV,dn];refine Cy (λx a y b=>?_) (uJ l) hl;unfold Ee;have c:wj (x.1,x.2)=U (oh x):=Oa (hs x a);have d:wj (y.1,y.2)=U (oh y):=Oa (hs y b);simp only[c,d,cr,cmp_eq];rfl
def rp(s:fy)(n:ef):Bool:=!(l_ (hT s) (hF s) (n.2.1,n.2.2))||((uR s&&IT (s.1.2.1=n.1))||(ui s&&IT (s.1.2.2.1=n.1)))
def wU(s:fy)(m:List (Int×b6)):List fy->Bool
 | []=>IN
 |t::r=>bif IT (sk s<oh t)then IN else oH s t m&&wU s m r
def u3(a6:List ef)(m:List (Int×b6)):List fy->Bool
 | []=>IN
 |s::r=>wU s m r&&(a6.all (rp s)&&u3 a6 m r)
def uQ(a6:List ef)(al:List dk):Bool:=match mE a6 al al with
 |none=>IS
 |some l=>u3 a6 (mkMap a6 []) (nG pv l)
def bk9(a6:List ef)(B:a6.length<=1000000){s:fy}(hs:uC s)(K:Option Bool) :
  rounds (α:=Int) (β:=Bool) (λk x=>
   a8 (U (IT (x<(a6.length:Int)))) λh=>
   bif h then(
    a8 (nth a6 x) λv35=>
    a8 (sJ (s.1,s.2)) λd=>
    a8 (nP ((d.1.1,d.1.2),(d.2.1,d.2.2),(v35.2.1,v35.2.2))) λj=>
    bif j then(
    a8 (vf (s.1,s.2)) λe=>
    bif e then(
     a8 (U ()) λv44=>
     a8 (U s.1) λv44=>
     a8 (U (IT (v44.2.1=v35.1))) λv51=>
     a8 (U (!(v51))) λg=>
     bif g then(
     a8 (tm (s.1,s.2)) λv53=>
     bif v53 then(
      a8 (U ()) λv54=>
      a8 (U s.1) λv54=>
      a8 (U (IT (v54.2.2.1=v35.1))) λm=>
      a8 (U (!(m))) λn=>
      bif n then(
      U IS)else(
      a8 (U (aa.wrap (x+(1:Int)))) λv63=>
      k v63))else(
      U IS))else(
     a8 (U (aa.wrap (x+(1:Int)))) λv53=>
     k v53))else(
     a8 (tm (s.1,s.2)) λv44=>
     bif v44 then(
     a8 (U ()) λv45=>
     a8 (U s.1) λv45=>
     a8 (U (IT (v45.2.2.1=v35.1))) λg=>
     a8 (U (!(g))) λv53=>
     bif v53 then(
      U IS)else(
      a8 (U (aa.wrap (x+(1:Int)))) λv54=>
      k v54))else(
     U IS)))else(
    a8 (U (aa.wrap (x+(1:Int)))) λe=>
    k e))else K) (0:Int)=bif a6.all (rp s)then K else U IS:=by
 have p:sJ (s.1,s.2)=U (hT s,hF s):=wO hs;have q:∀a b c:b6,nP ((a.1,a.2),(b.1,b.2),(c.1,c.2))=U (l_ a b c):=λa b c=>Hl a b c;have r:vf (s.1,s.2)=U (uR s):=VM s;have t:tm (s.1,s.2)=U (ui s):=NU hs;refine(oy (A:=Unit) a6 (λi _=>(i:Int)) (λ_ rest=>bif rest.all (rp s)then K else U IS) (by omega) ?_ ?_ ()).trans rfl
 .intro rec u;simp
 intro rec i u x rest a7 v w;have z:nP (((hT s).1,(hT s).2),((hF s).1,(hF s).2),(x.2.1,x.2.2))=U (l_ (hT s) (hF s) (x.2.1,x.2.2)):=q _ _ (x.2.1,x.2.2);simp only[lJ a7,dn,mq v,cr,lG a7 (show a6.length<2^62 by omega),p,r,t,z];rw[w (),cE];unfold rp;generalize l_ (hT s) (hF s) (x.2.1,x.2.2)=o;generalize uR s=f;generalize ui s=l;generalize IT (s.1.2.1=x.1)=d1;generalize IT (s.1.2.2.1=x.1)=d2;cases o<;>cases f<;>cases l<;>cases d1<;>cases d2<;>rfl
def bh0(a:dk)(l:List b6):(pV a l).length=l.length-1:=by simp[pV]
def be6(a6:List ef){β:Type}(j:a6.length<=1000000)(K:Int×List (Int×b6)->Option β) :
  rounds (α:=Int×List (Int×(Int×Int))) (β:=β) (λf d=>
   a8 (U (IT (d.1<(a6.length:Int)))) λv12=>
   bif v12 then(
   a8 (nth a6 d.1) λc=>
   a8 (U (k7 (λ(a b:Int)=>IT (a=b)) c.1 (c.2.1,c.2.2) d.2)) λe=>
   a8 (U (aa.wrap (d.1+(1:Int)))) λv17=>
   f (v17,e))else K d) ((0:Int),([]:List (Int×(Int×Int))))=K ((a6.length:Int),mkMap a6 []):=by
 refine(oy (A:=List (Int×b6)) a6 (λi m=>((i:Int),m)) (λm rest=>K ((a6.length:Int),mkMap rest m)) (by omega) ?_ ?_ []).trans rfl
 .intro rec m
  simp[mkMap]
 intro rec i m x rest a7 g h;simp only[lJ a7,dn,mq g,cr,lG a7 (show a6.length<2^62 by omega)];rw[h];rfl
theorem ay3(a6:List ef)(al:List dk)(fs:List Int)(hn:a6.length<=1000)(ha:al.length<=1000)(hv:∀a∈al,a.2.2.2.1.length<=1000):EA (a6,al,fs)=U (uQ a6 al):=by
 have f:∀id,vo ((a6,al,fs),id)=U (match pathOf a6 al id with|some l=>(l,0)|none=>([],7)):=λid=>Sg a6 al fs id (by omega) (by omega) (λa h=>by have:=hv a h;omega);have g:∀id l,pathOf a6 al id=U l->2<=l.length/\l.length<=1002:=λid l h=>by obtain⟨a,h1,h2⟩:=aW9 h;have:=hv a (Ui h1);omega
 have n:=λK=>be6 a6 (β:=Bool) (by omega) K;have alone:=λ(s:fy) (hs:uC s) K=>bk9 a6 (by omega) hs K;have b:=λ(a:dk) (l:List b6) (acc:List fy) (h1:l.length<=1000000) (h2:2<=l.length) (Q:acc.length<=300000000) K=>YK (β:=Bool) a l acc K IS h1 h2 Q;simp only[cr]at n alone b;unfold EA uQ;simp only[cr,f];refine(oU (A:=List fy) al (λi s=>(s,(i:Int))) (λs rest=>U (match mE a6 al rest with|none=>IS|some l=>u3 a6 (mkMap a6 []) (nG pv (s++l)))) (λi s=>s.length<=1002*i/\∀x∈s,uC x) (by omega) ?_ ?_ [] ⟨by simp,by simp⟩).trans (by simp)
 .intro rec s G
  simp only[mG,ct,mE,cM];refine(n _).trans ?_;obtain⟨H,e⟩:=G;have hlen:s.length<=1002000:=by have:1002*al.length<=1002*1000:=gr _ ha;omega
  simp only[cr,aR3 e (by omega)];have c:=q4 (uJ s);have k:∀x∈nG pv s,uC x:=λx m=>e x (c.mem_iff.1 m);have o:(nG pv s).length<=1002000:=by rw[c.length_eq];exact hlen
  generalize nG pv s=l at k o;refine(oy (A:=Unit) l (λi _=>(i:Int)) (λ_ rest=>U (u3 a6 (mkMap a6 []) rest)) (by omega) ?_ ?_ ()).trans rfl
  .intro rec u;simp[u3]
  intro rec i u x rest a7 p D;have I:=tr p;have m:=k x I.2.2;have d:l.drop (i+1)=rest:=by have:=mP List.tail p;simpa using this
  have J:xg l (U ((i+1:Nat):Int)) No=U rest:=by
   rw[TH (by omega) (by omega)];have:((i+1:Nat):Int).toNat=i+1:=by omega
   rw[this,d]
  simp only[lJ a7,dn,mq p,cr,lG a7 (show l.length<2^62 by omega),J];have q:∀t∈rest,uC t:=λt w=>k t (by rw[<-d]at w;exact bn w);have hK:∀v,rec v=rec v:=λ_=>rfl;refine(oy (A:=Unit) rest (λj _=>(j:Int)) (λ_ r=>bif wU x (mkMap a6 []) r then(bif a6.all (rp x)then U (u3 a6 (mkMap a6 []) rest)else U IS)else U IS) (by omega) ?_ ?_ ()).trans ?_
  .intro z u
   simp only[mG,ct,wU,dn];rw[alone x m,D ()]
  .intro z j u t r hj B M
   have w:=q t (tr B).2.2;have R:wj (t.1,t.2)=U (oh t):=Oa w;have S:BS (x.1,x.2)=U (sk x):=Zr m;have V:BW ((x.1,x.2),(t.1,t.2),mkMap a6 [])=U (oH x t (mkMap a6 [])):=aB1 m w _;simp only[lJ hj,dn,mq B,cr,lG hj (show rest.length<2^62 by omega),R,S,V];rw[alone x m,D (),M ()];simp only[wU];generalize IT (sk x<oh t)=mb;generalize oH x t (mkMap a6 [])=mn;cases mb<;>cases mn<;>simp
  simp only[u3];generalize wU x (mkMap a6 []) rest=mb;generalize a6.all (rp x)=mn;cases mb<;>cases mn<;>simp
 intro rec i s x rest a7 G p D;obtain⟨H,e⟩:=G;have E:1002*i<=1002*1000:=gr _ (by omega);simp only[lJ a7,dn,mq p,cr,lG a7 (show al.length<2^62 by omega),mE];cases hp:pathOf a6 al x.1 with
 |none=>simp
 |some l=>
  obtain⟨N,o⟩:=g _ _ hp;have fin:rec (s++pV x l,((i+1:Nat):Int))=U (match mE a6 al rest with|none=>IS|some l'=>u3 a6 (mkMap a6 []) (nG pv ((s++pV x l)++l'))):=D _ ⟨by rw[aT,bh0];omega,λy C=>by
   rcases aO.1 C with C|C
   .exact e y C
   exact bp0 (by omega) C⟩
  simp only[lV,ax,ct];have key:=b x l s (by omega) N (by omega) (λs'=>rec (s'.1,((i+1:Nat):Int)));by_cases hc:x.2.1=x.2.2.1
  .simp only[hc,lV,dn,dX]
   by_cases P:l.length<4
   .have:IT ((l.length:Int)<4)=IN:=by simp only[gb];omega
    simp[this,P]
   have O:IT ((l.length:Int)<4)=IS:=by simp only[nu];omega
   simp only[O,ct,P,mD,dt];rw[hc]at key;refine key.trans ?_;cases re l with
   |false=>simp
   |true=>simp only[dn,ax,ct,fin];cases mE a6 al rest<;>simp
  simp only[hc,mD,ct,Bool.false_and,dt];refine key.trans ?_;cases re l with
  |false=>simp
  |true=>simp only[dn,ax,ct,fin];cases mE a6 al rest<;>simp
def vI(a6:List ef)(al:List dk)(fs:List Int):Bool:=IT (a6.length<=256)&&(IT (al.length<=256)&&(IT (fs.length<=64)&&al.all λa=>IT (a.2.2.2.1.length<=64)))
def so(a6:List ef)(al:List dk)(fs:List Int):Int :=bif !(vI a6 al fs)then 3 else bif !(qc (a6.map (·.1))&&(qc (al.map (·.1))&&qc fs))then 10 else bif !((a6.map (·.1)).all qp&&((al.map (·.1)).all qp&&(fs.all qp&&((a6.all λn=>mQ (n.2.1,n.2.2))&&(al.all λa=>a.2.2.2.1.all mQ)))))then 2 else bif !decide (vt a6 al fs (a6.map (·.1))=0)then vt a6 al fs (a6.map (·.1))else bif !(uQ a6 al)then 11 else 0
theorem RM(a6:List ef)(al:List dk)(fs:List Int):EE (a6,al,fs)=U (so a6 al fs):=by
 unfold EE so vI;simp only[cr];by_cases h1:a6.length<=256;rotate_left
 .grind
 by_cases h2:al.length<=256;rotate_left
 .grind
 by_cases c:fs.length<=64;rotate_left
 .grind
 have d:IT ((256:Int)<(a6.length:Int))=IS:=by grind
 have a2:IT ((256:Int)<(al.length:Int))=IS:=by grind
 have a3:IT ((64:Int)<(fs.length:Int))=IS:=by grind
 simp only[d,a2,a3,ct,h1,h2,c,lV,dX];refine(oU (A:=Unit) al (λi _=>(i:Int)) (λ_ rest=>U (bif !(rest.all λa=>IT (a.2.2.2.1.length<=64))then 3 else bif !(qc (a6.map (·.1))&&(qc (al.map (·.1))&&qc fs))then 10 else bif !((a6.map (·.1)).all qp&&((al.map (·.1)).all qp&&(fs.all qp&&((a6.all λn=>mQ (n.2.1,n.2.2))&&(al.all λa=>a.2.2.2.1.all mQ)))))then 2 else bif !decide (vt a6 al fs (a6.map (·.1))=0)then vt a6 al fs (a6.map (·.1))else bif !(uQ a6 al)then 11 else 0)) (λi _=>∀a∈al.take i,a.2.2.2.1.length<=64) (by omega) ?_ ?_ () (by simp)).trans rfl
 .intro rec u b
  rw[cB]at b;have hv:∀a∈al,a.2.2.2.1.length<=900000:=λa ha=>by have:=b a ha;omega
  simp only[mG,ct,ij,ax,as9 a6 al fs (by omega) (by omega),cr,Lh _ (show(a6.map (·.1)).length<2^62 by simp;omega),Lh _ (show(al.map (·.1)).length<2^62 by simp;omega),
   Lh fs (by omega),Lq _ (show(a6.map (·.1)).length<2^62 by simp;omega),Lq _ (show(al.map (·.1)).length<2^62 by simp;omega),Lq fs (by omega),ax7 a6 al fs (by omega) (by omega) hv,
   av9 a6 al fs (a6.map (·.1)) (by omega) (by omega) (by omega) (by simp;omega),ay3 a6 al fs (by omega) (by omega) (λa ha=>by have:=b a ha;omega)]
  grind
 intro rec i u x rest a7 b f g;simp only[lJ a7,dn,mq f,cr,lG a7 (show al.length<2^62 by omega),cE];by_cases h:x.2.2.2.1.length<=64
 .have e:IT ((64:Int)<(x.2.2.2.1.length:Int))=IS:=by grind
  simp only[e,ct,h,lV,dX];refine g () ?_
  grind
 grind
def sI(u:b6):Prop:=0<u.2\/u.2=0/\0<u.1
def lA(u v:b6):Int:=u.1*v.2-u.2*v.1
def Q1(u v w:b6):v.2*lA u w=u.2*lA v w+w.2*lA u v:=by
 unfold lA
 grind
def aO3(u v:b6):lA v u=- lA u v:=by
 unfold lA
 grind
theorem YS(u:b6):lA u u=0:=by have:=aO3 u u;omega
def VC{u v w:b6}(hu:sI u)(hv:sI v)(hw:sI w)(h1:0<lA u v)(h2:0<lA v w):0<lA u w:=by
 have hid:=Q1 u v w;have b:0<=u.2:=by unfold sI at hu;omega
 have c:0<=w.2:=by unfold sI at hw;omega
 rcases hv with hv|⟨hv,d⟩
 .by_cases e:0<u.2
  .have mb:=cH e h2
   have mn:=aK c (dm h1);exact bZ (a:=v.2) (by omega) hv |> λh=>h
  by_cases f:0<w.2
  .have mb:=aK b (dm h2)
   have mn:=cH f h1;exact bZ (a:=v.2) (by omega) hv |> λh=>h
  exfalso;have g:w.2=0:=by omega
  have i:0<w.1:=by unfold sI at hw;omega
  have:lA v w=- (v.2*w.1):=by unfold lA;rw[g];omega
  have:=cH hv i;omega
 exfalso;have:lA u v=- (u.2*v.1):=by unfold lA;rw[hv];omega
 have:=aK b (dm d);omega
def UH{u v w:b6}(hu:sI u)(hv:sI v)(hw:sI w)(h1:lA u v<=0)(h2:lA v w<=0):lA u w<=0:=by
 have hid:=Q1 u v w;have a:0<=u.2:=by unfold sI at hu;omega
 have b:0<=w.2:=by unfold sI at hw;omega
 rcases hv with hv|⟨hv,c⟩
 .have mb:=aK a (show 0<=- lA v w by omega)
  have mn:=aK b (show 0<=- lA u v by omega);rw[Int.mul_neg]at mb mn;by_cases h:lA u w<=0
  .exact h
  have:=cH hv (show 0<lA u w by omega);omega
 have f:lA v w=v.1*w.2:=by unfold lA;rw[hv];omega
 have d:w.2=0:=by
  by_cases h:0<w.2
  .have:=cH c h;omega
  omega
 have:lA u w=- (u.2*w.1):=by unfold lA;rw[d];omega
 have e:0<w.1:=by unfold sI at hw;omega
 have:=aK a (dm e);omega
def vec(o p:b6):b6:=(p.1-o.1,p.2-o.2)
def Fs(u:b6):b6:=(-u.1,-u.2)
def Cp(o p:b6)(h:p≠o):oX o p=IS↔sI (vec o p):=by
 unfold oX sI vec
 grind
def Cg(o p:b6)(h:p≠o):oX o p=IN↔sI (Fs (vec o p)):=by
 unfold oX sI vec Fs
 grind
def Q2(u v:b6):lA (Fs u) (Fs v)=lA u v:=by unfold lA Fs;simp only[Int.neg_mul_neg]
def vY(o p:b6):Prop:=fc p=IN/\p≠o
theorem AV{o a b:b6}(d:fc o=IN)(ha:vY o a)(c:vY o b):qb o a b=if oX o a=oX o b then IT (0<lA (vec o a) (vec o b))else oX o b:=by
 unfold qb;have e:mz a o=IS:=by
  cases h:mz a o with
  |false=>rfl
  |true=>exact lH ((pR a o).1 h) ha.2
 have f:mz b o=IS:=by
  cases h:mz b o with
  |false=>rfl
  |true=>exact lH ((pR b o).1 h) c.2
 simp only[d,ha.1,c.1,e,f,Bool.and_self,aW,dX];rfl
def aQ9{o a:b6}(b:fc o=IN)(ha:vY o a):qb o a a=IS:=by grind[AV,YS]
theorem aV8{o a b c:b6}(h:fc o=IN)(ha:vY o a)(g:vY o b)(hc:vY o c)(h1:qb o a b=IN)(h2:qb o b c=IN):qb o a c=IN:=by
 rw[AV h ha g]at h1;rw[AV h g hc]at h2;rw[AV h ha hc];cases d:oX o a<;>cases e:oX o b<;>cases f:oX o c<;>simp only[d,e,f,jj,j2,aq,jA]at h1 h2⊢
 .exact mw (VC ((Cp o a ha.2).1 d) ((Cp o b g.2).1 e) ((Cp o c hc.2).1 f) (sK h1) (sK h2))
 refine mw ?_;have g1:=sK h1;have g2:=sK h2;rw[<-Q2]at g1 g2⊢;exact VC ((Cg o a ha.2).1 d) ((Cg o b g.2).1 e) ((Cg o c hc.2).1 f) g1 g2
theorem aO5{o a b c:b6}(i:fc o=IN)(ha:vY o a)(g:vY o b)(hc:vY o c)(h1:qb o a b=IS)(h2:qb o b c=IS):qb o a c=IS:=by
 rw[AV i ha g]at h1;rw[AV i g hc]at h2;rw[AV i ha hc];cases d:oX o a<;>cases e:oX o b<;>cases f:oX o c<;>simp only[d,e,f,jj,j2,aq,jA]at h1 h2⊢
 .refine mN (λh=>?_)
  have g1:=of_decide_eq_false h1;have g2:=of_decide_eq_false h2;have:=UH ((Cp o a ha.2).1 d) ((Cp o b g.2).1 e) ((Cp o c hc.2).1 f) (by omega) (by omega);omega
 refine mN (λh=>?_);have g1:=of_decide_eq_false h1;have g2:=of_decide_eq_false h2;rw[<-Q2]at g1 g2 h;have:=UH ((Cg o a ha.2).1 d) ((Cg o b g.2).1 e) ((Cg o c hc.2).1 f) (by omega) (by omega);omega
open Go.Proofs Go.Shelf Go.Sort
structure eS(a6:List ef)(al:List dk)(fs:List Int):Prop where
 zB:vI a6 al fs=IN
 wK:qc (a6.map (·.1))=IN
 tz:qc (al.map (·.1))=IN
 GX:qc fs=IN
 TD:(a6.map (·.1)).all qp=IN
 Iv:(al.map (·.1)).all qp=IN
 TC:fs.all qp=IN
 IK:(a6.all λn=>mQ (n.2.1,n.2.2))=IN
 N1:(al.all λa=>a.2.2.2.1.all mQ)=IN
 conn:vt a6 al fs (a6.map (·.1))=0
 C2:uQ a6 al=IN
theorem B'{a6:List ef}{al:List dk}{fs:List Int}:so a6 al fs=0↔eS a6 al fs:=by
 constructor
 .intro h
  unfold so at h;cases h1:vI a6 al fs with
  |false=>rw[h1]at h;simp at h
  |true=>
   rw[h1]at h;simp only[ax,ct]at h;cases h2:(qc (a6.map (·.1))&&(qc (al.map (·.1))&&qc fs))with
   |false=>rw[h2]at h;simp at h
   |true=>
    rw[h2]at h;simp only[ax,ct]at h;cases b:((a6.map (·.1)).all qp&&((al.map (·.1)).all qp&&(fs.all qp&&((a6.all λn=>mQ (n.2.1,n.2.2))&&(al.all λa=>a.2.2.2.1.all mQ)))))with
    |false=>rw[b]at h;simp at h
    |true=>
     rw[b]at h;simp only[ax,ct]at h;by_cases c:vt a6 al fs (a6.map (·.1))=0
     .simp only[c,lV,ax,ct]at h
      cases d:uQ a6 al with
      |false=>rw[d]at h;simp at h
      |true=>simp only[ab]at h2 b;exact⟨h1,h2.1,h2.2.1,h2.2.2,b.1,b.2.1,b.2.2.1,b.2.2.2.1,b.2.2.2.2,c,d⟩
     grind
 intro h;unfold so;simp[h.zB,h.wK,h.tz,h.GX,h.TD,h.Iv,h.TC,h.IK,h.N1,h.conn,h.C2]
def pA:∀ {l:List Int},qc l=IN->l.Pairwise (·<·)
 | [],_=>gJ
 | [a],_=>by simp
 |a::b::l,h=>by
  simp only[qc,ab,gb]at h;have d:=pA h.2;refine kO (λx c=>?_) d;rcases aI.1 c with rfl|c
  .exact h.1
  have:=(ba.1 d).1 x c;omega
def Eb{α:Type}{f:α->Int}:∀ {l:List α},(l.map f).Pairwise (·<·)->∀x∈l,l.find? (λy=>IT (f y=f x))=U x
 | [],_,x,a=>by simp at a
 |y::l,h,x,a=>by
  simp only[ay,ba]at h;rw[List.find?_cons];rcases aI.1 a with rfl|a
  .simp
  have h1:=h.1 (f x) (aC a);have:¬f y=f x:=by omega
  simp only[this,mD];exact Eb h.2 x a
def SU{a6:List ef}{al:List dk}:∀ {l:List dk} {r:List fy},mE a6 al l=U r->∀a∈l,∃p,pathOf a6 al a.1=U p/\re p=IN/\(a.2.1=a.2.2.1->4<=p.length)
 | [],r,h,a,ha=>by simp at ha
 |b::l,r,h,a,ha=>by
  unfold mE at h;split at h
  .cases h
  rename_i p hp;cases hc:((IT (b.2.1=b.2.2.1)&&IT (p.length<4))||!(re p))with
  |true=>rw[hc]at h;cases h
  |false=>
   rw[hc]at h;simp only[ct]at h;split at h
   next d c=>
    rcases aI.1 ha with rfl|ha
    .simp only[Bool.or_eq_false_iff,Bool.and_eq_false_iff,nu,Bool.not_eq_false']at hc
     refine⟨p,hp,hc.2,λe=>?_⟩;rcases hc.1 with h1|h1
     .exact lH e h1
     omega
    exact SU c a ha
   cases h
def H8:∀ {l:List b6} {i:Nat} {p q:b6},re l=IN->l[i]?=U p->l[i+1]?=U q->p≠q
 | [],i,p,q,_,h,_=>by simp at h
 | [a],0,p,q,_,_,h=>by simp at h
 | [a],i+1,p,q,_,h,_=>by simp at h
 |a::b::l,0,p,q,h,h1,h2=>by simp only[re,ab,Bool.not_eq_true']at h;simp at h1 h2;subst h1;subst h2;intro e;rw[(pR a b).2 e]at h;cases h.1
 |a::b::l,i+1,p,q,h,h1,h2=>by simp only[re,ab]at h;exact H8 h.2 (by simpa using h1) (by simpa using h2)
namespace eS
variable {a6:List ef} {al:List dk} {fs:List Int} (h:eS a6 al fs)
include h
theorem zo:a6.length<=256:=by
 have:=h.zB
 grind[vI]
theorem vS:al.length<=256:=by
 have:=h.zB
 grind[vI]
theorem Fl:fs.length<=64:=by
 have:=h.zB
 grind[vI]
theorem CQ{a:dk}(ha:a∈al):a.2.2.2.1.length<=64:=by
 have:=h.zB
 grind[vI,ak]
theorem vA{a:dk}(ha:a∈al):qC al a.1=U a:=Eb (f:=λa:dk=>a.1) (pA h.tz) a ha
theorem x3{n:ef}(a:n∈a6):pq a6 n.1=U n:=Eb (f:=λn:ef=>n.1) (pA h.wK) n a
theorem num{a:dk}(ha:a∈al):1<=a.1/\a.1<=1073741824:=by have:=ak.1 h.Iv a.1 (aC ha);simpa[qp]using this
theorem x_:∃r,mE a6 al al=U r:=by
 have:=h.C2
 grind[uQ]
theorem path{a:dk}(ha:a∈al):∃f t,pq a6 a.2.1=U f/\pq a6 a.2.2.1=U t/\pathOf a6 al a.1=U ((f.2.1,f.2.2)::(a.2.2.2.1++[(t.2.1,t.2.2)]))/\re ((f.2.1,f.2.2)::(a.2.2.2.1++[(t.2.1,t.2.2)]))=IN/\(a.2.1=a.2.2.1->2<=a.2.2.2.1.length):=by
 obtain⟨r,b⟩:=h.x_;obtain⟨p,h1,h2,d⟩:=SU b a ha;have c:=h1;unfold pathOf at h1;rw[h.vA ha]at h1
 grind
theorem Ir{n:ef}(a:n∈a6):mQ (n.2.1,n.2.2)=IN:=ak.1 h.IK n a
theorem Br{a:dk}(ha:a∈al){l:List b6}(hl:pathOf a6 al a.1=U l):∀p∈l,mQ p=IN:=by
 obtain⟨f,t,h1,h2,b,_⟩:=h.path ha;rw[hl]at b;cases b;intro p hp;rcases aI.1 hp with rfl|hp
 .exact h.Ir (bj h1)
 rcases aO.1 hp with hp|hp
 .exact ak.1 (ak.1 h.N1 a ha) p hp
 simp at hp;subst hp;exact h.Ir (bj h2)
theorem Lc(id:Int):vo ((a6,al,fs),id)=U (match pathOf a6 al id with|some l=>(l,0)|none=>([],7)) :=Sg a6 al fs id (by have:=h.zo;omega) (by have:=h.vS;omega) (λa ha=>by have:=h.CQ ha;omega)
theorem ZR(id:Int):wC ((a6,al,fs),id)=U (match pq a6 id with|some n=>(n,IN)|none=>((0,0,0),IS)) :=LV a6 al fs id (by have:=h.zo;omega)
theorem PN(id:Int):yU ((a6,al,fs),id)=U (match qC al id with|some a=>(a,IN)|none=>((0,0,0,[],0,0),IS)) :=Sm a6 al fs id (by have:=h.vS;omega) (λa ha=>by have:=h.CQ ha;omega)
end eS
def nY(a6:List ef)(al:List dk)(node:Int)(a:dk):List (Int×b6):=match pathOf a6 al a.1 with
 |none=>[]
 |some l=>(if a.2.1=node then [(a.1,(l[1]?).getD (0,0))]else [])++(if a.2.2.1=node then [(-a.1,(l[l.length-2]?).getD (0,0))]else [])
def rj(a6:List ef)(al:List dk)(node:Int)(l:List dk):List (Int×b6):=l.flatMap (nY a6 al node)
def zQ(o:b6)(m:List (Int×b6))(d e:Int):Int:=if qb o (nI m d) (nI m e)then -1 else if qb o (nI m e) (nI m d)then 1 else 0
def Y7(n:ef)(m:List (Int×b6))(d e:Int):yA (d,e,n,m)=U (zQ (n.2.1,n.2.2) m d e):=by
 have h1:∀o a b:b6,yO ((o.1,o.2),(a.1,a.2),(b.1,b.2))=U (qb o a b):=λo a b=>aD2 o a b;have h2:∀a b:b6,yO ((n.2.1,n.2.2),(a.1,a.2),(b.1,b.2))=U (qb (n.2.1,n.2.2) a b):=λa b=>h1 (n.2.1,n.2.2) a b;unfold yA zQ;simp[Xd,cr,h2];cases qb (n.2.1,n.2.2) (nI m d) (nI m e)
 .cases qb (n.2.1,n.2.2) (nI m e) (nI m d)<;>simp
 simp
def sR(m:List (Int×b6))(l:List (Int×b6)):List (Int×b6):=l.foldl (λm p=>k7 (λ(a b:Int)=>IT (a=b)) p.1 p.2 m) m
def SS(k:Int):∀(l:List (Int×b6)) (m:List (Int×b6)),(∀p∈l,p.1≠k)->ff fx k (sR m l)=ff fx k m
 | [],m,_=>rfl
 |p::l,m,h=>by have:=SS k l (k7 fx p.1 p.2 m) (λq a=>h q (by simp[a]));show ff fx k (sR (k7 fx p.1 p.2 m) l)=_;rw[this,sL,b8 (λe=>h p (by simp) e.symm)]
def Lr:∀(l:List (Int×b6)) (m:List (Int×b6)),(l.map (·.1)).Nodup->∀p∈l,ff fx p.1 (sR m l)=U p.2
 | [],m,_,p,hp=>by simp at hp
 |q::l,m,a,p,hp=>by
  simp only[ay,List.nodup_cons]at a;show ff fx p.1 (sR (k7 fx q.1 q.2 m) l)=_;rcases aI.1 hp with rfl|hp
  .rw[SS p.1 l _ (λx b e=>a.1 (by rw[<-e];exact aC b)),sL,b9 rfl]
  exact Lr l _ a.2 p hp
def aA8{n:Int}(h:1<=n/\n<=1073741824):aa.wrap (0-n)=-n:=by rw[lR (by omega) (by omega)];omega
namespace eS
variable {a6:List ef} {al:List dk} {fs:List Int} (h:eS a6 al fs)
include h
theorem F8(node:Int):∀ {l:List dk},(∀a∈l,a∈al)->(l.map (·.1)).Pairwise (·<·)->((rj a6 al node l).map (·.1)).Nodup
 | [],_,_=>by simp[rj]
 |a::l,hm,hp=>by
  have k:=F8 node (l:=l) (λx d=>hm x (by simp[d])) (by simp only[ay,ba]at hp;exact hp.2);have ha:=h.num (hm a (by simp));have key:∀(b:dk),b∈al->∀p∈nY a6 al node b,p.1=b.1\/p.1=-b.1:=λb f p hp=>by
   unfold nY at hp;split at hp
   .simp at hp
   rcases aO.1 hp with hp|hp
   .split at hp<;>simp at hp
    exact .inl (by rw[hp])
   split at hp<;>simp at hp;exact .inr (by rw[hp])
  have e:rj a6 al node (a::l)=nY a6 al node a++rj a6 al node l:=rfl;rw[e,cL,List.nodup_append];refine⟨?_,k,?_⟩
  .unfold nY
   split
   .simp
   by_cases h1:a.2.1=node<;>by_cases h2:a.2.2.1=node<;>simp[h1,h2];omega
  intro x d y m n;obtain⟨p,g,rfl⟩:=aP.1 d;obtain⟨q,i,rfl⟩:=aP.1 m;obtain⟨b,f,j⟩:=cY.1 i;have c:=hm b (by simp[f]);have o:=h.num c;simp only[ay,ba]at hp;have r:=hp.1 b.1 (aC f);rcases key a (hm a (by simp)) p g with s|s<;>rcases key b c q j with t|t<;>omega
theorem J6{node:Int}{l:List dk}(hm:∀a∈l,a∈al){p:Int×b6}(hp:p∈rj a6 al node l):∃a∈l,∃q,pathOf a6 al a.1=U q/\((a.2.1=node/\p=(a.1,(q[1]?).getD (0,0)))\/(a.2.2.1=node/\p=(-a.1,(q[q.length-2]?).getD (0,0)))):=by
 obtain⟨a,ha,hp⟩:=cY.1 hp;unfold nY at hp;split at hp
 .simp at hp
 rename_i q b;refine⟨a,ha,q,b,?_⟩;rcases aO.1 hp with hp|hp
 .split at hp<;>simp at hp
  exact .inl ⟨by assumption,hp⟩
 split at hp<;>simp at hp;exact .inr ⟨by assumption,hp⟩
theorem aV5{n:ef}(g:pq a6 n.1=U n){l:List dk}(hm:∀a∈l,a∈al){p:Int×b6}(hp:p∈rj a6 al n.1 l):vY (n.2.1,n.2.2) p.2:=by
 obtain⟨a,ha,q,i,hc⟩:=h.J6 hm hp;obtain⟨f,t,h1,h2,j,k,_⟩:=h.path (hm a ha);have b:=h.Br (hm a ha) i;rw[i]at j;cases j;rcases hc with⟨e,rfl⟩|⟨e,rfl⟩
 .rw[e,g]at h1
  cases h1;have d:((n.2.1,n.2.2)::(a.2.2.2.1++[(t.2.1,t.2.2)]))[0]?=U (n.2.1,n.2.2):=rfl;obtain⟨x,c⟩:∃x,((n.2.1,n.2.2)::(a.2.2.2.1++[(t.2.1,t.2.2)]))[1]?=U x:=⟨_,ae (by simp)⟩;refine⟨?_,?_⟩
  .show fc (gM _ _)=IN
   rw[c];exact vl (b x (aJ c))
  show gM _ _≠_;rw[c];exact λe=>H8 k d c e.symm
 rw[e,g]at h2;cases h2;generalize m:(f.2.1,f.2.2)::(a.2.2.2.1++[(n.2.1,n.2.2)])=L at *;have hlen:L.length=a.2.2.2.1.length+2:=by rw[<-m];simp
 have d:L[L.length-2+1]?=U (n.2.1,n.2.2):=by
  have:L.length-2+1=a.2.2.2.1.length+1:=by omega
  rw[this,<-m];simp
 obtain⟨x,c⟩:∃x,L[L.length-2]?=U x:=⟨_,ae (by omega)⟩;refine⟨?_,?_⟩
 .show fc (gM _ _)=IN
  rw[c];exact vl (b x (aJ c))
 show gM _ _≠_;rw[c];exact H8 k c d
omit h in
theorem On(node:Int):∀(l:List dk),(rj a6 al node l).length<=2*l.length
 | []=>by simp[rj]
 |a::l=>by
  have b:=On node l;have e:rj a6 al node (a::l)=nY a6 al node a++rj a6 al node l:=rfl;have:(nY a6 al node a).length<=2:=by
   unfold nY;split
   .simp
   by_cases h1:a.2.1=node<;>by_cases h2:a.2.2.1=node<;>simp[h1,h2]
  rw[e,aT,aA];omega
theorem Lz{n:ef}(q:pq a6 n.1=U n)(i:n∈a6):Ordered (zQ (n.2.1,n.2.2) (sR [] (rj a6 al n.1 al))) ((rj a6 al n.1 al).map (·.1)):=by
 have j:=h.F8 n.1 (l:=al) (λ_ ha=>ha) (pA h.tz);have c:∀d∈(rj a6 al n.1 al).map (·.1),vY (n.2.1,n.2.2) (nI (sR [] (rj a6 al n.1 al)) d):=λd r=>by obtain⟨p,hp,rfl⟩:=aP.1 r;unfold nI;rw[Lr _ [] j p hp];exact h.aV5 q (λ_ ha=>ha) hp
 have k:fc (n.2.1,n.2.2)=IN:=vl (h.Ir i);generalize sR [] (rj a6 al n.1 al)=m at c;have f:∀d e,zQ (n.2.1,n.2.2) m d e<0↔qb (n.2.1,n.2.2) (nI m d) (nI m e)=IN:=λd e=>by
  unfold zQ;cases qb (n.2.1,n.2.2) (nI m d) (nI m e)
  .cases qb (n.2.1,n.2.2) (nI m e) (nI m d)<;>simp
  simp
 refine Cd (λx g=>?_) (λx g y o z hz a b=>?_) (λx g y o z hz a b=>?_)
 .rw[f,aQ9 k (c x g)];simp
 .rw[f]at a b⊢
  exact aV8 k (c x g) (c y o) (c z hz) a b
 rw[f,Bool.not_eq_true]at a b⊢;exact aO5 k (c x g) (c y o) (c z hz) a b
def l2(a6:List ef)(al:List dk)(n:ef):List Int:=nG (zQ (n.2.1,n.2.2) (sR [] (rj a6 al n.1 al))) ((rj a6 al n.1 al).map (·.1))
theorem YC(node:Int):Ca ((a6,al,fs),node)=U (match pq a6 node with|some n=>l2 a6 al n|none=>[]):=by
 have hlen:=h.vS;unfold Ca;simp only[h.ZR,cr];cases o:pq a6 node with
 |none=>simp
 |some n=>
  have c:n.1=node:=by have:=dI o;simpa using this
  subst c;have q:n∈a6:=bj o;simp only[ax,ct,h.Lc,cr];refine(oU (A:=List Int×List (Int×b6)) al (λi a=>((i:Int),a.1,a.2)) (λa rest=>pT (λd e=>yA (d,e,n,sR a.2 (rj a6 al n.1 rest))) (a.1++(rj a6 al n.1 rest).map (·.1))) (λi a=>a.1.length<=2*i) (by omega) ?_ ?_ ([],[]) (by simp)).trans ?_
  .intro rec a z
   simp[ct];unfold LM;simp[lV,dn];have e:rj a6 al n.1 []=[]:=rfl;rw[e];simp[bO,cM];show a8 (pT _ a.1) _=pT _ a.1;have B:sR a.2 []=a.2:=rfl;rw[B];cases pT (λd e=>yA (d,e,n,a.2)) a.1<;>rfl
  .intro rec i a x rest a7 z r m
   have s:=(tr r).2.2;obtain⟨f,t,h1,h2,u,C,J⟩:=h.path s;have g:=h.num s;have D:rj a6 al n.1 (x::rest)=nY a6 al n.1 x++rj a6 al n.1 rest:=rfl;have E:=(tr r).1;generalize G:(f.2.1,f.2.2)::(x.2.2.2.1++[(t.2.1,t.2.2)])=L at u C;have H:L.length=x.2.2.2.1.length+2:=by rw[<-G];simp
   have hv:=h.CQ s;obtain⟨mb,j⟩:∃p,L[1]?=U p:=⟨_,ae (by omega)⟩;obtain⟨mn,k⟩:∃p,L[L.length-2]?=U p:=⟨_,ae (by omega)⟩;have v:nth L (1:Int)=U mb:=by have:=mJ L 1;rw[j]at this;exact this
   have I:aa.wrap ((L.length:Int)-2)=((L.length-2:Nat):Int):=by rw[lR (by omega) (by omega)];omega
   have w:nth L ((L.length-2:Nat):Int)=U mn:=by rw[mJ];exact k
   simp only[lJ a7,dn,mq r,cr,lG a7 (show al.length<2^62 by omega),u,lV,ax,ct,v,I,w,aA8 g];have l:nY a6 al n.1 x=(if x.2.1=n.1 then [(x.1,mb)]else [])++(if x.2.2.1=n.1 then [(-x.1,mn)]else []):=by unfold nY;rw[u];simp[j,k,Option.getD_some]
   rw[D,l];by_cases c1:x.2.1=n.1<;>by_cases c2:x.2.2.1=n.1
   .simp[c1,c2,lV,ax,ct,dn]
    rw[nE (by omega) (by simp;omega)];simp[cr];rw[nE (by omega) (by simp;omega)];simp only[cr];have:=m (a.1++[x.1]++[-x.1],k7 (λ(a b:Int)=>IT (a=b)) (-x.1) mn (k7 (λ(a b:Int)=>IT (a=b)) x.1 mb a.2)) (by simp;omega);refine this.trans ?_;simp[sR]
   .simp[c1,c2,lV,mD,ax,aW,ct,dn]
    rw[nE (by omega) (by simp;omega)];simp[cr];have:=m (a.1++[x.1],k7 (λ(a b:Int)=>IT (a=b)) x.1 mb a.2) (by simp;omega);refine this.trans ?_;simp[sR]
   .simp[c1,c2,lV,mD,ax,aW,ct,dn]
    rw[nE (by omega) (by simp;omega)];simp[cr];have:=m (a.1++[-x.1],k7 (λ(a b:Int)=>IT (a=b)) (-x.1) mn a.2) (by simp;omega);refine this.trans ?_;simp[sR]
   simp[c1,c2,mD,aW,ct];have:=m a (by omega);refine this.trans ?_;simp
  simp[bq];have hl:=On (a6:=a6) (al:=al) n.1 al;exact Cy (λx _ y _=>Y7 n _ x y) (h.Lz o q) (by simp;omega)
end eS
def pf(l:List Int)(d:Int):Int:=if d∈l then(l[(l.idxOf d+l.length-1)%l.length]?).getD 0 else 0
def Yx(l:List Int)(d:Int)(hl:l.length<=1000000):B0 (l,d)=U (pf l d):=by
 unfold B0 pf;simp only[Le l d (by omega),cr];by_cases a:d∈l
 .have a7:l.idxOf d<l.length:=iB.2 a
  have b:IT (((l.idxOf d:Nat):Int)<0)=IS:=by grind
  have c:aa.wrap (((l.idxOf d:Nat):Int)+(l.length:Int))=((l.idxOf d+l.length:Nat):Int):=by grind[lR]
  have e:aa.wrap (((l.idxOf d+l.length:Nat):Int)-1)=((l.idxOf d+l.length-1:Nat):Int):=by grind[lR]
  have f:IT ((l.length:Int)=0)=IS:=by grind
  have g:Int.tmod ((l.idxOf d+l.length-1:Nat):Int) (l.length:Int)=(((l.idxOf d+l.length-1)%l.length:Nat):Int):=by grind
  have hm:(l.idxOf d+l.length-1)%l.length<l.length:=gV _ (by omega);simp only[a,jj,b,ct,c,e,f,g,mJ,cr];rw[ae hm];rfl
 simp[a]
theorem Cm{l:List Int}{d:Int}(h:d∈l):pf l d∈l:=by grind[pf,iB,gV,ae,au]
def p8(S:List Int):List (Int×Bool):=S.map λd=>(d,IN)
theorem VO(d:Int):∀S:List Int,ff fx d (p8 S)=if d∈S then U IN else No
 | []=>rfl
 |x::S=>by have a:=VO d S;show(bif fx d x then U IN else ff fx d (p8 S))=_;rw[a,De];by_cases h:d=x<;>simp[h]
theorem Ng(d:Int):∀S:List Int,d∉S->k7 fx d IN (p8 S)=p8 (S++[d])
 | [],_=>rfl
 |x::S,h=>by simp only[aI,not_or]at h;have a:=Ng d S h.2;show(bif fx d x then(d,IN)::p8 S else(x,IN)::k7 fx d IN (p8 S))=_;rw[a,De];simp[h.1,p8]
theorem Hp(d:Int)(S:List Int):mH (ff (λ(a b:Int)=>IT (a=b)) d (p8 S)) (U IS)=U (IT (d∈S)):=by grind[mH,ff,p8,VO]
def qw(lC:Int->Int):Nat->List Int->Int->List Int->List Int×List Int
 | 0,S,_,c=>(c,S)
 |n+1,S,d,c=>if d∈S then(c,S)else qw lC n (S++[d]) (lC d) (c++[d])
def pe(D S:List Int):Nat:=(D.filter λd=>!decide (d∈S)).length
def M3{D S:List Int}{d:Int}(a:d∈D)(hs:d∉S):pe D (S++[d])<pe D S:=by
 unfold pe
 induction D with
 |nil=>simp at a
 |cons x D b=>
  have mono:∀D:List Int,(D.filter λy=>!decide (y∈S++[d])).length<=(D.filter λy=>!decide (y∈S)).length:=λD=>by
   induction D with
   |nil=>simp
   |cons y D b=>grind
  grind
theorem aW4{β:Type}(mp:List (Int×Int))(D:List Int)(o:D.length<=100000)(i:∀d∈D,(ff fx d mp).getD 0∈D)(K:Int×List Int×List (Int×Bool)->Option β)(G:List Int×List Int->Option β)(p:∀d c S,K (d,c,p8 S)=G (c,S)) :
  ∀(S:List Int) (d:Int) (c:List Int),d∈D->c.length+pe D S<=100000->rounds (α:=Int×List Int×List (Int×Bool)) (β:=β) (λf e=>
     a8 (mH (ff (λ(a b:Int)=>IT (a=b)) e.1 e.2.2) (U IS)) λv25=>
     a8 (U (!(v25))) λv26=>
     bif v26 then(
     a8 (U (k7 (λ(a b:Int)=>IT (a=b)) e.1 IN e.2.2)) λv27=>
     a8 (la 8 e.2.1 [e.1]) λv28=>
     a8 (mH (ff (λ(a b:Int)=>IT (a=b)) e.1 mp) (U (0:Int))) λv29=>
     f (v29,v28,v27))else K e) (d,c,p8 S)=G (qw (λd=>(ff fx d mp).getD 0) (pe D S+1) S d c):=by
 have sZ:∀d,mH (ff (λ(a b:Int)=>IT (a=b)) d mp) (U (0:Int))=U ((ff fx d mp).getD 0):=λd=>by show mH (ff fx d mp) _=_;cases ff fx d mp<;>rfl
 generalize cu:(λ(f:Int×List Int×List (Int×Bool)->Option β) (e:Int×List Int×List (Int×Bool))=>
     a8 (mH (ff (λ(a b:Int)=>IT (a=b)) e.1 e.2.2) (U IS)) λv25=>
     a8 (U (!(v25))) λv26=>
     bif v26 then(
     a8 (U (k7 (λ(a b:Int)=>IT (a=b)) e.1 IN e.2.2)) λv27=>
     a8 (la 8 e.2.1 [e.1]) λv28=>
     a8 (mH (ff (λ(a b:Int)=>IT (a=b)) e.1 mp) (U (0:Int))) λv29=>
     f (v29,v28,v27))else K e)=F
 have q:∀rec d c S,d∈S->F rec (d,c,p8 S)=G (c,S):=λrec d c S hs=>by grind[Hp,cr,decide_true,ax]
 have h1:∀rec d c S,d∉S->c.length<=100000->F rec (d,c,p8 S)=rec ((ff fx d mp).getD 0,c++[d],p8 (S++[d])):=λrec d c S hs hc=>by grind[k7,p8,Ng,la,nE,Hp,cr,decide_false,aW]
 have key:∀(n m:Nat) (S:List Int) (d:Int) (c:List Int),d∈D->c.length+pe D S<=100000->pe D S<n->n<=m->iter F m (d,c,p8 S)=G (qw (λd=>(ff fx d mp).getD 0) n S d c):=by
  intro n
  induction n with
  |zero=>intro m S d c _ _ h;omega
  |succ n r=>
   intro m S d c g hc s hm;cases m with
   |zero=>omega
   |succ m=>
    show F (iter F m) (d,c,p8 S)=_;by_cases hs:d∈S
    .grind[qw]
    have j:=M3 g hs
    grind[qw]
 intro S d c g hc;have h2:pe D S<=D.length:=cV _ _;have k:=Nq;have l:pe D S+1<=many:=bI (by omega) k;exact key (pe D S+1) many S d c g hc (Nat.lt_succ_self _) l
def AZ(l:List Int)(m:List (Int×Int)):List (Int×Int):=l.foldl (λm d=>k7 (λ(a b:Int)=>IT (a=b)) (-d) (pf l d) m) m
def xc(L:List (List Int))(m:List (Int×Int)):List (Int×Int):=L.foldl (λm l=>AZ l m) m
def SL(l:List Int)(D:List Int):∀(r:List Int) (m:List (Int×Int)),(∀d∈r,d∈l)->(∀d∈l,d∈D)->(∀k v,ff fx k m=U v->v∈D) ->
  (∀k v,ff fx k (r.foldl (λm d=>k7 (λ(a b:Int)=>IT (a=b)) (-d) (pf l d) m) m)=U v->v∈D)/\(∀k,(ff fx k m).isSome=IN->(ff fx k (r.foldl (λm d=>k7 (λ(a b:Int)=>IT (a=b)) (-d) (pf l d) m) m)).isSome=IN) /\
  ∀d∈r,(ff fx (-d) (r.foldl (λm d=>k7 (λ(a b:Int)=>IT (a=b)) (-d) (pf l d) m) m)).isSome=IN
 | [],m,_,_,hm=>⟨hm,λ_ h=>h,λd c=>by simp at c⟩
 |x::r,m,e,hl,hm=>by
  have f:=e x (by simp);have hp:∀k v,ff fx k (k7 fx (-x) (pf l x) m)=U v->v∈D:=λk v h=>by
   rw[sL]at h;split at h
   .cases h;exact hl _ (Cm f)
   exact hm k v h
  obtain⟨h1,h2,g⟩:=SL l D r (k7 fx (-x) (pf l x) m) (λd c=>e d (by simp[c])) hl hp;refine⟨h1,λk hk=>h2 k ?_,λd c=>?_⟩
  .rw[sL];split
   .rfl
   exact hk
  rcases aI.1 c with rfl|c
  .exact h2 _ (by rw[sL,b9 rfl];rfl)
  exact g d c
def SE(D:List Int):∀(L:List (List Int)) (m:List (Int×Int)),(∀l∈L,∀d∈l,d∈D)->(∀k v,ff fx k m=U v->v∈D) ->
  (∀k v,ff fx k (xc L m)=U v->v∈D)/\(∀k,(ff fx k m).isSome=IN->(ff fx k (xc L m)).isSome=IN)/\∀l∈L,∀d∈l,(ff fx (-d) (xc L m)).isSome=IN
 | [],m,_,hm=>⟨hm,λ_ h=>h,λl hl=>by simp at hl⟩
 |l::L,m,b,hm=>by
  obtain⟨f,a2,a3⟩:=SL l D l m (λ_ h=>h) (b l (by simp)) hm;obtain⟨g,c,i⟩:=SE D L (AZ l m) (λx a=>b x (by simp[a])) f;refine⟨g,λk hk=>c k (a2 k hk),λx a d e=>?_⟩;rcases aI.1 a with rfl|a
  .exact c _ (a3 d e)
  exact i x a d e
def qg(lC:Int->Int)(D:List Int):List Int->List Int->List (List Int)->List (List Int)
 | [],_,acc=>acc
 |d::a,S,acc=>if d∈S then qg lC D a S acc else
   let r:=qw lC (pe D S+1) S d []
   qg lC D a r.2 (acc++[r.1])
namespace eS
variable {a6:List ef} {al:List dk} {fs:List Int} (h:eS a6 al fs)
def wI(a6:List ef)(al:List dk):List (List Int):=a6.map (l2 a6 al)
def l3(a6:List ef)(al:List dk):List Int:=(wI a6 al).flatten
include h
theorem wJ{n:ef}(a:n∈a6):(l2 a6 al n).Perm ((rj a6 al n.1 al).map (·.1)):=q4 (h.Lz (h.x3 a) a)
theorem af2{n:ef}(a:n∈a6):(l2 a6 al n).length<=512:=by rw[(h.wJ a).length_eq,aF];have:=On (a6:=a6) (al:=al) n.1 al;have:=h.vS;omega
theorem qZ{d:Int}:d∈l3 a6 al↔∃a∈al,d=a.1\/d=-a.1:=by
 unfold l3 wI;constructor
 .intro b
  obtain⟨l,hl,b⟩:=br.1 b;obtain⟨n,c,rfl⟩:=aP.1 hl;rw[(h.wJ c).mem_iff]at b;obtain⟨p,hp,rfl⟩:=aP.1 b;obtain⟨a,ha,q,_,hc⟩:=h.J6 (λ_ ha=>ha) hp;rcases hc with⟨_,rfl⟩|⟨_,rfl⟩
  .exact⟨a,ha,.inl rfl⟩
  exact⟨a,ha,.inr rfl⟩
 rintro ⟨a,ha,b⟩;obtain⟨f,t,h1,h2,k,_⟩:=h.path ha;have mk:∀(n:ef),n∈a6->d∈(nY a6 al n.1 a).map (·.1)->d∈((a6.map (l2 a6 al)).flatten):=λn c g=>by refine br.2 ⟨_,aC c,?_⟩;rw[(h.wJ c).mem_iff];obtain⟨p,hp,e⟩:=aP.1 g;exact e▸aC (cY.2 ⟨a,ha,hp⟩)
 have i:f.1=a.2.1:=by have:=dI h1;simpa using this
 have j:t.1=a.2.2.1:=by have:=dI h2;simpa using this
 rcases b with rfl|rfl
 .refine mk f (bj h1) ?_
  unfold nY;rw[k];simp[i]
 refine mk t (bj h2) ?_;unfold nY;rw[k];simp[j]
theorem Fq{d:Int}(b:d∈l3 a6 al):-d∈l3 a6 al:=by
 rw[h.qZ]at b⊢;obtain⟨a,ha,rfl|rfl⟩:=b
 .exact⟨a,ha,.inr rfl⟩
 exact⟨a,ha,.inl (by omega)⟩
theorem Rb:(l3 a6 al).length<=512:=by
 have key:∀l:List ef,(∀n∈l,n∈a6)->((l.map (l2 a6 al)).flatten).length<=(l.map λn=>(rj a6 al n.1 al).length).sum:=by
  intro l
  induction l with
  |nil=>intro _;simp
  |cons n l c=>intro hl;have:=c (λx f=>hl x (by simp[f]));have e:=(h.wJ (hl n (by simp))).length_eq;rw[aF]at e;simp only[ay,List.flatten_cons,aT,db,e];omega
 have q:=key a6 (λ_ o=>o);have g:∀l:List ef,(l.map (·.1)).Pairwise (·<·)->∀b:List dk,(l.map λn=>(rj a6 al n.1 b).length).sum<=2*b.length:=by
  intro l hp b
  induction b with
  |nil=>
   have:(l.map λn=>(rj a6 al n.1 []).length).sum=0:=by
    clear hp
    induction l with
    |nil=>rfl
    |cons n l c=>simp only[ay,db,c];rfl
   omega
  |cons a b c=>
   have e:∀n:ef,(rj a6 al n.1 (a::b)).length=(nY a6 al n.1 a).length+(rj a6 al n.1 b).length:=λn=>by have e:rj a6 al n.1 (a::b)=nY a6 al n.1 a++rj a6 al n.1 b:=rfl;rw[e,aT]
   have k:(l.map λn=>(rj a6 al n.1 (a::b)).length).sum=(l.map λn=>(nY a6 al n.1 a).length).sum+(l.map λn=>(rj a6 al n.1 b).length).sum:=by
    simp only[e];clear c hp
    induction l with
    |nil=>rfl
    |cons n l c=>simp only[ay,db,c];omega
   have r:(l.map λn=>(nY a6 al n.1 a).length).sum<=2:=by
    have hle:∀n:ef,(nY a6 al n.1 a).length<=(if a.2.1=n.1 then 1 else 0)+(if a.2.2.1=n.1 then 1 else 0):=λn=>by
     unfold nY;split
     .simp
     by_cases h1:a.2.1=n.1<;>by_cases h2:a.2.2.1=n.1<;>simp[h1,h2]
    have i:∀(x:Int) (l:List ef),(l.map (·.1)).Pairwise (·<·)->(l.map λn=>if x=n.1 then 1 else 0).sum<=1:=by
     intro x l
     induction l with
     |nil=>intro _;simp
     |cons n l c=>
      intro hp;simp only[ay,ba]at hp;simp only[ay,db];by_cases f:x=n.1
      .have:(l.map λn=>if x=n.1 then 1 else 0).sum=0:=by
        have d:∀m∈l,(if x=m.1 then 1 else 0)=0:=λm hm=>by have:=hp.1 m.1 (aC hm);rw[b8 (by omega)]
        clear c hp
        induction l with
        |nil=>rfl
        |cons m l j=>simp only[ay,db,d m (by simp),j (λy p=>d y (by simp[p]))]
       simp[f];rw[<-f];omega
      have:=c hp.2;simp[f];exact this
    have c1:=i a.2.1 l hp;have c2:=i a.2.2.1 l hp;have:(l.map λn=>(nY a6 al n.1 a).length).sum<=(l.map λn=>if a.2.1=n.1 then 1 else 0).sum+(l.map λn=>if a.2.2.1=n.1 then 1 else 0).sum:=by
     clear c c1 c2 k hp
     induction l with
     |nil=>simp
     |cons n l c=>simp only[ay,db];have:=hle n;omega
    omega
   rw[k,aA];omega
 have s:=g a6 (pA h.wK) al;have:=h.vS;show((a6.map (l2 a6 al)).flatten).length<=_;omega
def Gr(a6:List ef)(al:List dk):List (Int×Int):=xc (wI a6 al) []
def mC(a6:List ef)(al:List dk)(d:Int):Int:=(ff fx d (Gr a6 al)).getD 0
theorem qK{d:Int}(a:d∈l3 a6 al):mC a6 al d∈l3 a6 al:=by
 obtain⟨h1,_,e⟩:=SE (l3 a6 al) (wI a6 al) [] (λl hl d a=>br.2 ⟨l,hl,a⟩) (λk v hv=>by simp[ff]at hv);obtain⟨l,hl,b⟩:=br.1 (h.Fq a);have c:=e l hl _ b;rw[Int.neg_neg]at c;unfold mC Gr;cases hv:ff fx d (xc (wI a6 al) [])with
 |none=>rw[hv]at c;cases c
 |some v=>exact h1 d v hv
def lT(a6:List ef)(al:List dk):List (List Int):=qg (mC a6 al) (l3 a6 al) ((l3 a6 al).mergeSort λa b=>IT (a<=b)) [] []
omit h in
theorem LH{α β:Type}{l rest:List α}{i:Nat}{x:α}(f:α->β)(a:l.drop i=x::rest):(l.take (i+1)).map f=(l.take i).map f++[f x]:=by
 rw[List.take_add_one];have:l[i]?=U x:=by rw[<-mJ];exact mq a
 rw[this];simp
theorem Gy:xt (a6,al,fs)=U (lT a6 al,0):=by
 have V:=h.zo;have k:so a6 al fs=0:=B'.2 h;have hD:=h.Rb;unfold xt;simp only[RM,k,cr,lV,ax,ct];refine(oU (A:=List Int×List (Int×Int)) a6 (λi a=>(a.1,(i:Int),a.2)) (λ_ _=>U (lT a6 al,0)) (λi a=>a.1=((a6.take i).map (l2 a6 al)).flatten/\a.2=xc ((a6.take i).map (l2 a6 al)) []/\a.1.length<=512*i) (by omega) ?_ ?_ ([],[]) ⟨by simp,by simp[xc],by simp⟩)
 .intro rec a B
  obtain⟨h1,h2,K⟩:=B;rw[cB]at h1 h2;have C:a.1=l3 a6 al:=h1;have M:a.2=Gr a6 al:=h2;have es:vO (l3 a6 al,1)=U ((l3 a6 al).mergeSort λa b=>IT (a<=b)):=by
   unfold vO;rw[<-Ig];have:IT ((l3 a6 al).length<4611686018427387904)=IN:=by simp only[gb];omega
   simp[this]
  simp only[mG,ct,C,M,es,cr];have f:=List.mergeSort_perm (l3 a6 al) (λa b=>IT (a<=b));unfold lT;generalize hL:(l3 a6 al).mergeSort (λa b=>IT (a<=b))=L at f;have N:L.length<=100000-10:=by rw[f.length_eq];omega
  have D:∀d∈L,d∈l3 a6 al:=λd g=>f.mem_iff.1 g;refine(oU (A:=List (List Int)×List Int) L (λi b=>((i:Int),b.1,p8 b.2)) (λb rest=>U (qg (mC a6 al) (l3 a6 al) rest b.2 b.1,0)) (λi b=>b.1.length<=i) (by omega) ?_ ?_ ([],[]) (by simp)).trans rfl
  .intro rec b n
   simp[qg]
  intro rec i b x rest a7 n g w;have o:L[i]?=U x:=by rw[<-mJ];exact mq g
  have p:(bif IT ((0:Int)<=(i:Int))&&IT ((i:Int)<(L.length:Int))then U ()else No)=U ():=by
   have C:IT ((0:Int)<=(i:Int))=IN:=by simp only[gb];omega
   rw[C,lJ a7];rfl
  simp only[lJ a7,dn,p,cr,dG,o,aj,Hp,lG a7 (show L.length<2^62 by omega)];by_cases hs:x∈b.2
  .simp only[hs,lV,ax,ct]
   have:=w (b.1,b.2) (by show b.1.length<=i+1;omega);refine this.trans ?_;simp[qg,hs]
  simp only[hs,mD,aW,dn];have O:pe (l3 a6 al) b.2<=(l3 a6 al).length:=cV _ _;have q:=aW4 (Gr a6 al) (l3 a6 al) (by omega) (λd g=>h.qK g) (λs=>a8 (la 24 b.1 [s.2.1]) λv27=>rec (((i+1:Nat):Int),v27,s.2.2)) (λr=>U (qg (mC a6 al) (l3 a6 al) rest r.2 (b.1++[r.1]),0)) (λd c S=>by
   have:la 24 b.1 [c]=U (b.1++[c]):=nE (by omega) (by simp;omega);show a8 (la 24 b.1 [c]) _=_;rw[this];exact w (b.1++[c],S) (by show(b.1++[c]).length<=i+1;simp;omega)) b.2 x [] (D x (tr g).2.2) (by simp;omega)
  simp only[cr]at q;refine q.trans ?_;simp only[qg,hs,j2];rfl
 intro rec i a x rest a7 B g w;obtain⟨h1,h2,K⟩:=B;have o:=(tr g).2.2;have P:=h.af2 o;have E:Ca ((a6,al,fs),x.1)=U (l2 a6 al x):=by rw[h.YC,h.x3 o]
 simp only[lJ a7,dn,mq g,cr,lG a7 (show a6.length<2^62 by omega),E];have hk:512*i<=512*256:=gr _ (by omega);refine(oU (A:=List Int×List (Int×Int)) (l2 a6 al x) (λj b=>(b.1,(j:Int),b.2)) (λ_ _=>U (lT a6 al,0)) (λj b=>b.1=a.1++(l2 a6 al x).take j/\b.2=((l2 a6 al x).take j).foldl (λm d=>k7 (λ(a b:Int)=>IT (a=b)) (-d) (pf (l2 a6 al x) d) m) a.2) (by omega) ?_ ?_ a ⟨by simp,by simp⟩)
 .intro t b n
  obtain⟨g1,g2⟩:=n;rw[cB]at g1 g2;simp only[mG,ct];refine w (b.1,b.2) ⟨?_,?_,?_⟩
  .rw[LH _ g,List.flatten_append,<-h1]
   simp[g1]
  .rw[LH _ g]
   show b.2=xc ((a6.take i).map (l2 a6 al)++[l2 a6 al x]) [];unfold xc;rw[g_];show b.2=AZ (l2 a6 al x) (xc ((a6.take i).map (l2 a6 al)) []);rw[<-h2,g2];rfl
  show b.1.length<=512*(i+1);rw[g1,aT];omega
 intro t j b y r2 hj n l G;obtain⟨g1,g2⟩:=n;have Q:=(tr l).2.2;have H:1<=y/\y<=1073741824\/-1073741824<=y/\y<=-1:=by have:y∈l3 a6 al:=br.2 ⟨_,aC o,Q⟩;rw[h.qZ]at this;obtain⟨a',I,e|e⟩:=this<;>have:=h.num I<;>omega
 have u:aa.wrap (0-y)=-y:=by rw[lR (by omega) (by omega)];omega
 have R:b.1.length<=512*i+j:=by rw[g1,aT,List.length_take];omega
 have J:B0 (l2 a6 al x,y)=U (pf (l2 a6 al x) y):=Yx _ _ (by omega);simp only[lJ hj,dn,mq l,cr,lG hj (show(l2 a6 al x).length<2^62 by omega),u,J];rw[nE (by omega) (by simp;omega)];simp only[cr];have v:(l2 a6 al x).take (j+1)=(l2 a6 al x).take j++[y]:=by have:=LH (λz:Int=>z) l;simpa using this
 refine G (b.1++[y],_) ⟨?_,?_⟩
 .rw[v,g1,List.append_assoc]
 rw[v,g_,<-g2];rfl
end eS
theorem Rg{a6:List ef}{al:List dk}{fs:List Int}(h:so a6 al fs≠0):xt (a6,al,fs)=U ([],so a6 al fs):=by unfold xt;simp only[RM,cr,h,mD,aW,dn]
abbrev l6:=Int×List Int×List (List Int)×List Int
def wL(a6:List ef)(al:List dk)(l:List dk)(m:List (Int×List b6)):List (Int×List b6):=l.foldl (λm a=>match pathOf a6 al a.1 with|some p=>k7 (λ(a b:Int)=>IT (a=b)) a.1 p m|none=>m) m
def j9(a6:List ef)(al:List dk):List (Int×List b6):=wL a6 al al []
def qY(d:Int):Prop:=-9223372036854775808<d/\d<=9223372036854775807
def lN(d:Int):Int:=max d (-d)
def l5(al:List dk)(d:Int):Int:=if d=0 then 0 else match qC al (lN d)with
 |some a=>if 0<d then a.2.2.2.2.1 else a.2.2.2.2.2
 |none=>0
def nM(a:l6):List (List Int):=a.2.1::a.2.2.1
def ns(al:List dk)(k:Nat):Bool->List l6->List Int->List Int->List Int×Bool
 |_,[],seen,out=>(out,IT ((seen.length:Int)=(k:Int)))
 |true,a::r,seen,out=>bif (nM a).all (λc=>c.all λd=>IT (l5 al d=0))then ns al k IS r seen (out++[0])else([],IS)
 |false,a::r,seen,out=>
  let f:=l5 al (a.2.1.headD 0)
  bif IT (f=0)||IT (f∈seen)then([],IS)else bif (nM a).all (λc=>c.all λd=>IT (l5 al d=f))then ns al k IS r (seen++[f]) (out++[f])else([],IS)
namespace eS
variable {a6:List ef} {al:List dk} {fs:List Int} (h:eS a6 al fs)
include h
theorem IJ:Ae (a6,al,fs)=U (j9 a6 al):=by
 have hlen:=h.vS;unfold Ae j9;simp only[cr,h.Lc];refine(oy (A:=List (Int×List b6)) al (λi m=>((i:Int),m)) (λm rest=>U (wL a6 al rest m)) (by omega) ?_ ?_ []).trans rfl
 .intro rec m
  simp[wL]
 intro rec i m x rest a7 b a;simp only[lJ a7,dn,mq b,cr,lG a7 (show al.length<2^62 by omega)];cases hp:pathOf a6 al x.1 with
 |none=>
  have:IT ((7:Int)=0)=IS:=by decide
  simp only[this,ct];rw[a];simp[wL,hp]
 |some p=>simp only[lV,dn];rw[a];simp[wL,hp]
theorem Ut:∀(l:List dk) (m:List (Int×List b6)),(∀a∈l,a∈al)->(l.map (·.1)).Pairwise (·<·)->∀a∈l,ff fx a.1 (wL a6 al l m)=pathOf a6 al a.1
 | [],m,_,_,a,ha=>by simp at ha
 |b::l,m,hm,hp,a,ha=>by
  simp only[ay,ba]at hp;obtain⟨f,t,_,_,d,_⟩:=h.path (hm b (by simp));have e:wL a6 al (b::l) m=wL a6 al l (k7 fx b.1 ((f.2.1,f.2.2)::(b.2.2.2.1++[(t.2.1,t.2.2)])) m):=by show bh _ _ _=_;rw[List.foldl_cons,d];rfl
  have g:∀(l:List dk) (m:List (Int×List b6)) (k:Int),(∀a∈l,a.1≠k)->ff fx k (wL a6 al l m)=ff fx k m:=by
   intro l
   induction l with
   |nil=>intro m k _;rfl
   |cons x l i=>
    intro m k hk;show ff fx k (wL a6 al l _)=_;rw[i _ k (λa ha=>hk a (by simp[ha]))];cases c:pathOf a6 al x.1 with
    |none=>simp only[c]
    |some p=>simp only[c];have:=sL k x.1 p m;rw[b8 (λe=>hk x (by simp) e.symm)]at this;exact this
  rw[e];rcases aI.1 ha with rfl|ha
  .rw[g l _ a.1 (λx c=>by have:=hp.1 x.1 (aC c);omega),sL,b9 rfl,d]
  exact Ut l _ (λx c=>hm x (by simp[c])) hp.2 a ha
theorem FE{a:dk}(ha:a∈al):ff fx a.1 (j9 a6 al)=pathOf a6 al a.1:=h.Ut al [] (λ_ h=>h) (pA h.tz) a ha
theorem GW{d:Int}(c:qY d):Am ((a6,al,fs),d)=U (if d=0 then((0,0,0,[],0,0),IS)else match qC al (lN d)with|some a=>(a,IN)|none=>((0,0,0,[],0,0),IS)):=by
 unfold Am;obtain⟨h1,h2⟩:=c;simp only[cr];by_cases b:d=0
 .simp[b]
 have e:IT (d=-9223372036854775808)=IS:=by simp only[nu];omega
 have f:aa.wrap (0-d)=-d:=by rw[lR (by omega) (by omega)];omega
 simp only[b,mD,ct,e,f,vJ,h.PN,cr,j2];have g:lN d=max d (-d):=rfl;rw[g]
 all_goals cases qC al (max d (-d))with
 |none=>rfl
 |some a=>rfl
theorem GH{d:Int}(c:qY d):wz ((a6,al,fs),d)=U (l5 al d):=by
 unfold wz l5;simp only[h.GW c,cr];by_cases b:d=0
 .simp[b]
 simp only[b,j2];cases qC al (lN d)with
 |none=>simp
 |some a=>simp only[ax,ct];by_cases h1:0<d<;>simp[h1]
theorem Q8{a:l6}(ha:a.2.2.1.length<=1000000):xn a=U (nM a):=by unfold xn nM;have:la 24 [a.2.1] a.2.2.1=U ([a.2.1]++a.2.2.1):=nE (by omega) (by simp;omega);simp only[this,cr];rfl
theorem aY4{β:Type}(f:Int)(cs:List (List Int))(k:∀c∈cs,(∀d∈c,qY d)/\c.length<2^62)(hl:cs.length<2^62)(K:Option β)(bad:Option β) :
  rounds (α:=Int) (β:=β) (λl a=>
    a8 (U (IT (a<(cs.length:Int)))) λv24=>
    bif v24 then(
     a8 (nth cs a) λv25=>
     a8 (U ((v25).length:Int)) λv26=>
     rounds (α:=Int) (β:=β) (λm b=>
     a8 (U (IT (b<v26))) λv29=>
     bif v29 then(
      a8 (nth v25 b) λv30=>
      a8 (wz ((a6,al,fs),v30)) λv31=>
      a8 (U (!decide (v31=f))) λv32=>
      bif v32 then bad else(
      a8 (U (aa.wrap (b+(1:Int)))) λv33=>
      m v33))else(
      a8 (U (aa.wrap (a+(1:Int)))) λv30=>
      l v30)) (0:Int))else K) (0:Int)=bif cs.all (λc=>c.all λd=>IT (l5 al d=f))then K else bad:=by
 simp only[cr];refine(oy (A:=Unit) cs (λi _=>(i:Int)) (λ_ rest=>bif rest.all (λc=>c.all λd=>IT (l5 al d=f))then K else bad) (by omega) ?_ ?_ ()).trans rfl
 .intro rec u;simp
 intro rec i u x rest a7 q s;obtain⟨n,o⟩:=k x (tr q).2.2;simp only[lJ a7,dn,mq q,cr,lG a7 hl];rw[s (),cE];refine(oy (A:=Unit) x (λi _=>(i:Int)) (λ_ r=>bif r.all (λd=>IT (l5 al d=f))then(bif rest.all (λc=>c.all λd=>IT (l5 al d=f))then K else bad)else bad) (by omega) ?_ ?_ ()).trans ?_
 .intro e u;simp
 .intro e j u y r hj g p
  have t:=n y (tr g).2.2;simp only[lJ hj,dn,mq g,cr,lG hj o,h.GH t];rw[p (),cE];cases IT (l5 al y=f)<;>simp
 cases x.all (λd=>IT (l5 al d=f))<;>simp
structure YB(a:l6):Prop where
 outer:(∀d∈a.2.1,qY d)/\a.2.1.length<=1000000
 inner:∀c∈a.2.2.1,(∀d∈c,qY d)/\c.length<=1000000
 Rv:a.2.2.1.length<=1000000
theorem Hk{l:List l6}(hl:l.length<=1000000)(p:∀a∈l,YB a)(q:∀a∈l.tail,a.2.1≠[]):Ai ((a6,al,fs),l)=U (ns al fs.length IN l [] []):=by
 have cu:=h.Fl;have ft:=λ(f:Int) (cs:List (List Int)) h1 h2 K bad=>h.aY4 (β:=List Int×Bool) f cs h1 h2 K bad;simp only[cr]at ft;unfold Ai;simp only[cr];refine(oU (A:=List Int×List Int) l (λi a=>(a.2,(i:Int),p8 a.1)) (λa rest=>U (ns al fs.length (IT (rest.length=l.length)) rest a.1 a.2)) (λi a=>a.2.length<=i) (by omega) ?_ ?_ ([],[]) (by simp)).trans (by simp)
 .intro rec a E
  have e:((p8 a.1).length:Int)=(a.1.length:Int):=by simp[p8]
  simp only[mG,ct,ns,e]
 intro rec i a x rest a7 E r C;have s:=tr r;have j:=p x s.2.2;have t:xn (x.1,x.2.1,x.2.2.1,x.2.2.2)=U (nM x):=h.Q8 j.Rv;have m:∀c∈nM x,(∀d∈c,qY d)/\c.length<2^62:=λc hc=>by
  rcases aI.1 hc with rfl|hc
  .exact⟨j.outer.1,by have:=j.outer.2;omega⟩
  exact⟨(j.inner c hc).1,by have:=(j.inner c hc).2;omega⟩
 have n:(nM x).length<2^62:=by have:=j.Rv;simp only[nM,aA];omega
 simp only[lJ a7,dn,mq r,cr,lG a7 (show l.length<2^62 by omega),t];have D:IT (rest.length=l.length)=IS:=by simp only[nu];omega
 have g:∀f:Int,la 8 a.2 [f]=U (a.2++[f]):=λf=>nE (by omega) (by simp;omega);by_cases G:i=0
 .subst G
  have u:IT ((x::rest).length=l.length)=IN:=by simp only[aA,gb];omega
  have v:IT ((0:Int)<((0:Nat):Int))=IS:=by decide
  simp only[v,ct,u];refine(ft 0 (nM x) m n _ _).trans ?_;simp only[g,cr,ns];have w:(a.2++[(0:Int)]).length<=0+1:=by rw[aT];simp only[List.length_singleton];omega
  have:=C (a.1,a.2++[0]) w;rw[D]at this;rw[this];cases(nM x).all (λc=>c.all λd=>IT (l5 al d=0))<;>simp
 have u:IT ((x::rest).length=l.length)=IS:=by simp only[aA,nu];omega
 have v:IT ((0:Int)<(i:Int))=IN:=by simp only[gb];omega
 have z:x∈l.tail:=by
  have:x∈l.drop 1:=by
   have hm:x∈l.drop i:=by rw[r];simp
   have:l.drop i=(l.drop 1).drop (i-1):=by rw[List.drop_drop,show 1+(i-1)=i by omega]
   rw[this]at hm;exact bn hm
  simpa using this
 obtain⟨d0,o,k⟩:∃d0 o,x.2.1=d0::o:=by
  cases hc:x.2.1 with
  |nil=>exact lH hc (q x z)
  |cons d0 o=>exact⟨d0,o,rfl⟩
 have B:nth x.2.1 (0:Int)=U d0:=by have:=mJ x.2.1 0;rw[k]at this⊢;exact this
 have pJ:qY d0:=j.outer.1 d0 (by rw[k];simp);have H:x.2.1.headD 0=d0:=by rw[k];rfl
 simp only[v,dn,u,B,cr,h.GH pJ,Hp,ns,H];by_cases hz:l5 al d0=0
 .simp[hz]
 simp only[hz,mD,ct,dt];by_cases hs:l5 al d0∈a.1
 .simp[hs]
 have I:k7 (λ(a b:Int)=>IT (a=b)) (l5 al d0) IN (p8 a.1)=p8 (a.1++[l5 al d0]):=Ng _ _ hs;simp only[hs,mD,ct,I];refine(ft (l5 al d0) (nM x) m n _ _).trans ?_;simp only[g,cr];have:=C (a.1++[l5 al d0],a.2++[l5 al d0]) (by simp;omega);rw[D]at this;rw[this];cases(nM x).all (λc=>c.all λd=>IT (l5 al d=l5 al d0))<;>simp
end eS
def vQ(at':b6)(st:Bool×Bool)(a b:b6):Bool×Bool :=
 bif l_ a b at' then(st.1,IN)else
 bif (IT (a.2<=at'.2)&&(IT (at'.2<b.2)&&IT (0<lK a b at')))||(IT (b.2<=at'.2)&&(IT (at'.2<a.2)&&IT (lK a b at'<0)))then(!st.1,st.2)else st
def um(at':b6):b6->List b6->Bool×Bool->Bool×Bool
 |_,[],st=>st
 |p,q::r,st=>um at' q r (vQ at' st p q)
def x4(at':b6)(l:List b6)(st:Bool×Bool):Bool×Bool:=match l with
 | []=>st
 |p::r=>um at' p r st
def q6(m:List (Int×List b6))(at':b6):List Int->Bool×Bool->Bool×Bool
 | [],st=>st
 |d::r,st=>q6 m at' r (x4 at' ((ff fx (lN d) m).getD []) st)
def pd(m:List (Int×List b6))(nc:List Int)(at':b6):Bool:=bif (q6 m at' nc (IS,IS)).1 then !(q6 m at' nc (IS,IS)).2 else IS
def aW2{β:Type}(at':b6)(p0:b6)(l:List b6)(hl:l.length<=1000000)(K:Bool×Bool->Option β)(st:Bool×Bool) :
  rounds (α:=Int×Bool×Bool) (β:=β) (λf d=>
   bif (IT (d.1<((p0::l).length:Int)))then(
   a8 (nth (p0::l) (aa.wrap (d.1-(1:Int)))) λv21=>
   a8 (nth (p0::l) d.1) λv23=>
   a8 (nP ((v21.1,v21.2),(v23.1,v23.2),(at'.1,at'.2))) λv25=>
   bif v25 then(
    f (aa.wrap (d.1+(1:Int)),d.2.1,IN))else(
    bif (IT (v21.2<=at'.2))then(
    bif (IT (at'.2<v23.2))then(
     a8 (pP ((v21.1,v21.2),(v23.1,v23.2),(at'.1,at'.2))) λv28=>
     bif (IT ((0:Int)<v28))then(
     f (aa.wrap (d.1+(1:Int)),!(d.2.1),d.2.2))else(
     bif (IT (v23.2<=at'.2))then(
      bif (IT (at'.2<v21.2))then(
      a8 (pP ((v21.1,v21.2),(v23.1,v23.2),(at'.1,at'.2))) λv32=>
      bif (IT (v32<(0:Int)))then(
       f (aa.wrap (d.1+(1:Int)),!(d.2.1),d.2.2))else(
       f (aa.wrap (d.1+(1:Int)),d.2.1,d.2.2)))else(
      f (aa.wrap (d.1+(1:Int)),d.2.1,d.2.2)))else(
      f (aa.wrap (d.1+(1:Int)),d.2.1,d.2.2))))else(
     bif (IT (v23.2<=at'.2))then(
     bif (IT (at'.2<v21.2))then(
      a8 (pP ((v21.1,v21.2),(v23.1,v23.2),(at'.1,at'.2))) λv30=>
      bif (IT (v30<(0:Int)))then(
      f (aa.wrap (d.1+(1:Int)),!(d.2.1),d.2.2))else(
      f (aa.wrap (d.1+(1:Int)),d.2.1,d.2.2)))else(
      f (aa.wrap (d.1+(1:Int)),d.2.1,d.2.2)))else(
     f (aa.wrap (d.1+(1:Int)),d.2.1,d.2.2))))else(
    bif (IT (v23.2<=at'.2))then(
     bif (IT (at'.2<v21.2))then(
     a8 (pP ((v21.1,v21.2),(v23.1,v23.2),(at'.1,at'.2))) λv29=>
     bif (IT (v29<(0:Int)))then(
      f (aa.wrap (d.1+(1:Int)),!(d.2.1),d.2.2))else(
      f (aa.wrap (d.1+(1:Int)),d.2.1,d.2.2)))else(
     f (aa.wrap (d.1+(1:Int)),d.2.1,d.2.2)))else(
     f (aa.wrap (d.1+(1:Int)),d.2.1,d.2.2)))))else(
   K d.2)) ((1:Int),st)=K (um at' p0 l st):=by
 refine(oU (A:=b6×Bool×Bool) l (λi a=>(((i+1:Nat):Int),a.2)) (λa rest=>K (um at' a.1 rest a.2)) (λi a=>(p0::l)[i]?=U a.1) (by omega) ?_ ?_ (p0,st) rfl)
 .grind[um]
 intro rec i a x rest a7 j k m;have h:(p0::l)[i+1]?=U x:=by rw[aM,<-mJ];exact mq k
 have e:((p0::l).length:Int)=((l.length+1:Nat):Int):=by simp
 have o:aa.wrap (((i+1:Nat):Int)-1)=(i:Int):=by grind[lR]
 have p:aa.wrap (((i+1:Nat):Int)+1)=((i+1+1:Nat):Int):=lG (n:=2000000) (by omega) (by omega);have f1:∀a b c:b6,nP ((a.1,a.2),(b.1,b.2),(c.1,c.2))=U (l_ a b c):=λa b c=>Hl a b c;have f2:∀a b c:b6,pP ((a.1,a.2),(b.1,b.2),(c.1,c.2))=U (lK a b c):=λa b c=>R8 a b c;simp only[e,lJ (show i+1<l.length+1 by omega),dn,o,mJ,j,h,cr,f1,f2,p];have q:=λg=>m (x,g) h
 grind[um,vQ,l_,lK,decide_true,decide_false]
def HO(m:List (Int×List b6))(nc:List Int):Prop:=nc.length<=1000000/\∀d∈nc,qY d/\∃p0 l,ff fx (lN d) m=U (p0::l)/\l.length<=1000000
theorem aR1{m:List (Int×List b6)}{nc:List Int}(h:HO m nc)(at':b6):wi (m,nc,(at'.1,at'.2))=U (pd m nc at'):=by
 have ft:=λ(p0:b6) (l:List b6) hl K st=>aW2 (β:=Bool) at' p0 l hl K st;unfold wi;simp only[cr];refine(oy (A:=Bool×Bool) nc (λi a=>((i:Int),a.2,a.1)) (λa rest=>U (bif (q6 m at' rest a).1 then !(q6 m at' rest a).2 else IS)) (by have:=h.1;omega) ?_ ?_ (IS,IS)).trans rfl
 .grind[q6]
 intro rec i a d rest a7 f n;have hm:d∈nc:=by grind[bn]
 obtain⟨⟨d1,d2⟩,p0,l,c,e⟩:=h.2 d hm;have g:aa.wrap (0-d)=-d:=by grind[lR]
 have j:ff (λ(a b:Int)=>IT (a=b)) (max d (-d)) m=U (p0::l):=c;have k:mH (U (p0::l)) (No:Option (List b6))=U (p0::l):=rfl;simp only[lJ a7,dn,mq f,cr,g,vJ,j,k,lG a7 (show nc.length<2^62 by have:=h.1;omega)];refine(ft p0 l e (λx=>rec (((i+1:Nat):Int),x.2,x.1)) (a.1,a.2)).trans ?_
 grind[um,q6,x4]
def Bd(p q:b6):Int:=p.1*q.2-q.1*p.2
def o9:b6->List b6->Int
 |_,[]=>0
 |p,q::r=>Bd p q+o9 q r
def Hy{a b A:Int}(h1:-A<=a)(h2:a<=A)(f:-A<=b)(g:b<=A):-(A*A)<=a*b/\a*b<=A*A:=by
 have d:0<=A:=by omega
 constructor
 .have h:a*b+A*A=(A+a)*b+A*(A-b):=by grind
  rcases kZ 0 b with c|c
  .have:=aK (show 0<=A+a by omega) c
   have:=aK d (show 0<=A-b by omega);omega
  have e:a*b+A*A=(A-a)*(-b)+A*(A+b):=by grind
  have:=aK (show 0<=A-a by omega) (show 0<=-b by omega);have:=aK d (show 0<=A+b by omega);omega
 rcases kZ 0 b with c|c
 .have e:A*A-a*b=(A-a)*b+A*(A-b):=by grind
  have:=aK (show 0<=A-a by omega) c;have:=aK d (show 0<=A-b by omega);omega
 have e:A*A-a*b=(A+a)*(-b)+A*(A+b):=by grind
 have:=aK (show 0<=A+a by omega) (show 0<=-b by omega);have:=aK d (show 0<=A+b by omega);omega
def sG(p:b6):Prop:=-2097152<=p.1/\p.1<=2097152/\-2097152<=p.2/\p.2<=2097152
def Mg:∀(l:List b6) (p:b6),sG p->(∀q∈l,sG q)->-(8796093022208*(l.length:Int))<=o9 p l/\o9 p l<=8796093022208*(l.length:Int)
 | [],_,_,_=>by simp[o9]
 |q::r,p,hp,hl=>by have a:=hl q (by simp);have c:=Mg r q a (λx b=>hl x (by simp[b]));obtain⟨d,a2⟩:=Hy (A:=2097152) hp.1 hp.2.1 a.2.2.1 a.2.2.2;obtain⟨e,f⟩:=Hy (A:=2097152) a.1 a.2.1 hp.2.2.1 hp.2.2.2;simp only[o9,Bd,aA];omega
def bc6{β:Type}(p0:b6)(l:List b6)(hl:l.length<=1000)(k:sG p0)(hc:∀q∈l,sG q)(K:Int->Option β) :
  rounds (α:=Int×Int) (β:=β) (λd b=>
    bif (IT (b.2<(l.length:Int)))then(
     a8 (nth (p0::l) b.2) λv31=>
     a8 (nth (p0::l) (aa.wrap (b.2+(1:Int)))) λe=>
     a8 (nth (p0::l) (aa.wrap (b.2+(1:Int)))) λf=>
     a8 (nth (p0::l) b.2) λv40=>
     d (aa.wrap (b.1+aa.wrap (aa.wrap (v31.1*e.2)-aa.wrap (f.1*v40.2))),aa.wrap (b.2+(1:Int))))else(
     K b.1)) ((0:Int),(0:Int))=K (o9 p0 l):=by
 refine(oU (A:=b6×Int) l (λi a=>(a.2,(i:Int))) (λa rest=>K (a.2+o9 a.1 rest)) (λi a=>(p0::l)[i]?=U a.1/\sG a.1/\-(8796093022208*(i:Int))<=a.2/\a.2<=8796093022208*(i:Int)) (by omega) ?_ ?_ (p0,0) ⟨rfl,k,by simp,by simp⟩).trans (by simp)
 .grind[o9]
 intro rec i a x rest a7 g m o;obtain⟨g,hp,g1,g2⟩:=g;have j:(p0::l)[i+1]?=U x:=by rw[aM,<-mJ];exact mq m
 have h:x∈l:=by grind
 have c:=hc x h;have p:aa.wrap ((i:Int)+1)=((i+1:Nat):Int):=lG (n:=2000000) (by omega) (by omega);simp only[lJ a7,dn,p,mJ,g,j,cr];obtain⟨w,a2⟩:=Hy (A:=2097152) hp.1 hp.2.1 c.2.2.1 c.2.2.2;obtain⟨z,B⟩:=Hy (A:=2097152) c.1 c.2.1 hp.2.2.1 hp.2.2.2;have r:aa.wrap (a.1.1*x.2)=a.1.1*x.2:=lR (by omega) (by omega);have s:aa.wrap (x.1*a.1.2)=x.1*a.1.2:=lR (by omega) (by omega);have t:aa.wrap (a.1.1*x.2-x.1*a.1.2)=Bd a.1 x:=lR (by omega) (by omega);have u:Bd a.1 x=a.1.1*x.2-x.1*a.1.2:=rfl;have v:aa.wrap (a.2+Bd a.1 x)=a.2+Bd a.1 x:=lR (by omega) (by omega);rw[r,s,t,v];have:=o (x,a.2+Bd a.1 x) ⟨j,c,by simp only;omega,by simp only;omega⟩
 grind[o9]
def tH(a6:List ef)(al:List dk)(d:Int):Int:=match pathOf a6 al (lN d)with
 |some (p::l)=>if d<0 then -(o9 p l)else o9 p l
 |_=>0
def mK(a6:List ef)(al:List dk):List Int->Int
 | []=>0
 |d::r=>tH a6 al d+mK a6 al r
namespace eS
variable {a6:List ef} {al:List dk} {fs:List Int} (h:eS a6 al fs)
include h
theorem He{d:Int}(c:∃a∈al,a.1=lN d):∃p0 l,pathOf a6 al (lN d)=U (p0::l)/\l.length<=65/\sG p0/\∀q∈l,sG q:=by
 obtain⟨a,ha,hid⟩:=c;obtain⟨f,t,_,_,hp,_⟩:=h.path ha;have hv:a.2.2.2.1.length<=64:=by
  have:=h.zB
  grind[vI,ak]
 have e:=h.Br ha hp;have b:∀p:b6,mQ p=IN->sG p:=λp hp=>by simp only[mQ,ab,gb]at hp;exact⟨by omega,by omega,by omega,by omega⟩
 grind
theorem PZ{nc:List Int}(hc:nc.length<=512)(hm:∀d∈nc,qY d/\d≠0/\∃a∈al,a.1=lN d):wu ((a6,al,fs),nc)=U (mK a6 al nc):=by
 have ft:=λ(p0:b6) (l:List b6) hl e hc K=>bc6 (β:=Int) p0 l hl e hc K;unfold wu;have hlen:IT ((512:Int)<(nc.length:Int))=IS:=by grind
 simp only[cr,hlen,ct];refine(oU (A:=Int) nc (λi a=>(a,(i:Int))) (λa rest=>U (a+mK a6 al rest)) (λi a=>-(571746046443520*(i:Int))<=a/\a<=571746046443520*(i:Int)) (by omega) ?_ ?_ 0 ⟨by simp,by simp⟩).trans (by simp)
 .grind[mK]
 intro rec i a d rest a7 q m r;have f:d∈nc:=by grind[bn]
 obtain⟨n,e,j,b,hid⟩:=hm d f;obtain⟨d1,d2⟩:=n;have c:qC al (lN d)=U j:=by rw[<-hid];exact h.vA b
 obtain⟨p0,l,hp,hl,k,cl⟩:=h.He ⟨j,b,hid⟩;have o:aa.wrap (0-d)=-d:=by grind[lR]
 have g:pathOf a6 al (max d (-d))=U (p0::l):=hp;simp only[lJ a7,dn,mq m,cr,h.GW ⟨d1,d2⟩,e,j2,c,ax,ct,o,vJ,h.Lc,g,lV];have p:aa.wrap (((p0::l).length:Int)-1)=(l.length:Int):=by grind[lR,aA]
 simp only[p];refine(ft p0 l (by omega) k cl (λA=>bif IT (d<0)then rec (aa.wrap (a+aa.wrap (0-A)),aa.wrap ((i:Int)+1))else rec (aa.wrap (a+A),aa.wrap ((i:Int)+1)))).trans ?_;obtain⟨s,t⟩:=Mg l p0 k cl
 grind[o9,lG,lR,decide_true,mK,tH,decide_false]
end eS
def yj(L:List l6)(b:Nat):Int:=((L[b]?).map (λx=>x.1)).getD 0
def ug(m:List (Int×List b6))(at':b6)(L:List l6):List l6->Nat->Nat->Nat
 | [],_,b=>b
 |x::r,i,b=>ug m at' L r (i+1) (bif (IT (b=0)||IT (x.1<yj L b))&&pd m x.2.1 at' then i else b)
def p_(m:List (Int×List b6))(L:List l6)(at':b6):Nat:=ug m at' L L.tail 1 0
def MF(m:List (Int×List b6))(at':b6)(L:List l6):∀(r:List l6) (i b n:Nat),i+r.length<=n->b<n->ug m at' L r i b<n
 | [],_,b,n,_,a=>a
 |x::r,i,b,n,a7,a=>by
  simp only[ug];simp only[aA]at a7;refine MF m at' L r (i+1) _ n (by omega) ?_;cases(IT (b=0)||IT (x.1<yj L b))&&pd m x.2.1 at'
  .exact a
  simp only[dn];omega
def TY{β:Type}(m:List (Int×List b6))(at':b6)(c:l6)(l:List l6)(hl:l.length<=1000000)(hp:∀a∈l,HO m a.2.1)(K:Int×Int->Option β) :
  rounds (α:=Int×Int) (β:=β) (λd b=>
    bif (IT (b.1<(((c::l).length:Nat):Int)))then(
    bif (IT (b.2=(0:Int)))then(
     a8 ((bif IT (0<=b.1)&&IT (b.1<(((c::l).length:Nat):Int))then U ()else No)) λ_=>
     a8 (((c::l)[(b.1).toNat]?).map (λx=>x.2.1)) λv32=>
     a8 (wi (m,v32,(at'.1,at'.2))) λv33=>
     bif v33 then(
     d (aa.wrap (b.1+(1:Int)),b.1))else(
     d (aa.wrap (b.1+(1:Int)),b.2)))else(
     a8 ((bif IT (0<=b.1)&&IT (b.1<(((c::l).length:Nat):Int))then U ()else No)) λ_=>
     a8 (((c::l)[(b.1).toNat]?).map (λx=>x.1)) λv32=>
     a8 ((bif IT (0<=b.2)&&IT (b.2<(((c::l).length:Nat):Int))then U ()else No)) λ_=>
     a8 (((c::l)[(b.2).toNat]?).map (λx=>x.1)) λv33=>
     bif (IT (v32<v33))then(
     a8 ((bif IT (0<=b.1)&&IT (b.1<(((c::l).length:Nat):Int))then U ()else No)) λ_=>
     a8 (((c::l)[(b.1).toNat]?).map (λx=>x.2.1)) λv35=>
     a8 (wi (m,v35,(at'.1,at'.2))) λv36=>
     bif v36 then(
      d (aa.wrap (b.1+(1:Int)),b.1))else(
      d (aa.wrap (b.1+(1:Int)),b.2)))else(
     d (aa.wrap (b.1+(1:Int)),b.2))))else(
    K b)) ((1:Int),(0:Int))=K (((l.length+1:Nat):Int),((p_ m (c::l) at':Nat):Int)):=by
 have e:(((c::l).length:Nat):Int)=((l.length+1:Nat):Int):=by simp
 refine(oU (A:=Nat) l (λi a=>(((i+1:Nat):Int),(a:Int))) (λa rest=>K (((l.length+1:Nat):Int),((ug m at' (c::l) rest (l.length-rest.length+1) a:Nat):Int))) (λi a=>a<i+1) (by omega) ?_ ?_ 0 (by omega)).trans ?_
 .intro rec a t
  simp only[e,mG,ct,ug]
 .intro rec i a x rest a7 t j p
  have f:l.length-(x::rest).length+1=i+1:=by have:=mP eT j;simp only[eY,aA]at this⊢;omega
  have g:l.length-rest.length+1=i+1+1:=by simp only[aA]at f;have:=mP eT j;simp only[eY,aA]at this;omega
  have u:(c::l)[i+1]?=U x:=by rw[aM,<-mJ];exact mq j
  have k:x∈l:=by
   have:x∈l.drop i:=by rw[j];simp
   exact bn this
  have ha:a<(c::l).length:=by simp only[aA];omega
  have q:(c::l)[a]?=U ((c::l)[a]'ha):=ae ha;have v:aa.wrap (((i+1:Nat):Int)+1)=((i+1+1:Nat):Int):=lG (n:=2000000) (by omega) (by omega);have w:(IT (0<=((i+1:Nat):Int))&&IT (((i+1:Nat):Int)<((l.length+1:Nat):Int)))=IN:=by simp;omega
  have z:(IT (0<=(a:Int))&&IT ((a:Int)<((l.length+1:Nat):Int)))=IN:=by simp;omega
  have B:IT ((a:Int)=0)=IT (a=0):=by by_cases h:a=0<;>simp[h]
  have o:=aR1 (hp x k) at';simp only[e,lJ (show i+1<l.length+1 by omega),dn,v,w,z,B,dG,u,q,aj,cr,o];have r:=p (i+1) (by omega);have s:=p a (by omega);simp only[g]at r s;rw[r,s,f];have C:yj (c::l) a=((c::l)[a]'ha).1:=by simp[yj,q]
  simp only[ug,C];cases h1:IT (a=0)<;>cases h2:IT (x.1<((c::l)[a]'ha).1)<;>cases D:pd m x.2.1 at'<;>rfl
 simp only[Nat.sub_self,aN,p_,gg]
abbrev KA:=Int×List Int×Unit×Unit
def pr(L:List l6)(k:Nat)(c:List Int):List l6:=match L[k]? with
 |some x=>L.set k (x.1,x.2.1,x.2.2.1++[c],x.2.2.2)
 |none=>L
def rX(L:List l6)(k:Nat)(n:Int):List l6:=match L[k]? with
 |some x=>L.set k (x.1,x.2.1,x.2.2.1,x.2.2.2++[n])
 |none=>L
structure uI(m:List (Int×List b6))(L:List l6)(n i j:Nat):Prop where
 len:L.length=n+1
 out:∀a∈L.tail,HO m a.2.1
 vN:∀a∈L,a.2.2.1.length<=i
 yN:∀a∈L,a.2.2.2.length<=j
def G3{α:Type}{L:List α}{k:Nat}{y a:α}(h:a∈(L.set k y).tail):a∈L.tail\/(a=y/\1<=k/\k<L.length):=by
 cases L with
 |nil=>simp at h
 |cons x l=>
  cases k with
  |zero=>simp at h;exact .inl (by simpa using h)
  |succ k=>
   simp only[List.set_cons_succ,gg]at h⊢;by_cases hk:k<l.length
   .rcases cO h with h|h
    .exact .inl h
    exact .inr ⟨h,by omega,by simp;omega⟩
   rw[List.set_eq_of_length_le (by omega)]at h;exact .inl h
def HY{α:Type}{L:List α}{k:Nat}{x:α}(h:L[k]?=U x)(hk:1<=k):x∈L.tail:=by
 cases L with
 |nil=>simp at h
 |cons y l=>
  cases k with
  |zero=>omega
  |succ k=>rw[aM]at h;exact aJ h
theorem uI.pr{m:List (Int×List b6)}{L:List l6}{n i j k:Nat}(h:uI m L n i j)(c:List Int):uI m (pr L k c) n (i+1) j:=by
 unfold Go.Ab.pr;cases d:L[k]? with
 |none=>exact⟨h.len,h.out,λa ha=>by have:=h.vN a ha;omega,h.yN⟩
 |some x=>
  have b:=aJ d;refine⟨by simp[h.len],λa ha=>?_,λa ha=>?_,λa ha=>?_⟩
  .rcases G3 ha with ha|⟨rfl,hk,_⟩
   .exact h.out a ha
   exact h.out x (HY d hk)
  .rcases cO ha with ha|rfl
   .have:=h.vN a ha;omega
   have:=h.vN x b;simp;omega
  rcases cO ha with ha|rfl
  .exact h.yN a ha
  exact h.yN x b
theorem uI.rX{m:List (Int×List b6)}{L:List l6}{n i j k:Nat}(h:uI m L n i j)(c:Int):uI m (rX L k c) n i (j+1):=by
 unfold Go.Ab.rX;cases d:L[k]? with
 |none=>exact⟨h.len,h.out,h.vN,λa ha=>by have:=h.yN a ha;omega⟩
 |some x=>
  have b:=aJ d;refine⟨by simp[h.len],λa ha=>?_,λa ha=>?_,λa ha=>?_⟩
  .rcases G3 ha with ha|⟨rfl,hk,_⟩
   .exact h.out a ha
   exact h.out x (HY d hk)
  .rcases cO ha with ha|rfl
   .exact h.vN a ha
   exact h.vN x b
  rcases cO ha with ha|rfl
  .have:=h.yN a ha;omega
  have:=h.yN x b;simp;omega
def uI.cons{m:List (Int×List b6)}{L:List l6}{n i j:Nat}(h:uI m L n i j):∃a l,L=a::l:=by
 cases L with
 |nil=>have:=h.len;simp at this
 |cons x l=>exact⟨x,l,rfl⟩
def uI.Rw{m:List (Int×List b6)}{L:List l6}{n i j:Nat}(h:uI m L n i j)(p:b6):p_ m L p<L.length:=by obtain⟨a,l,rfl⟩:=h.cons;exact MF m p _ l 1 0 _ (by simp;omega) (by simp)
def oo(m:List (Int×List b6))(c:List Int):b6:=((((ff fx (lN (c.headD 0)) m).getD [])[0]?).getD (0,0))
def qW(m:List (Int×List b6)):List (List Int)->List l6->List l6
 | [],L=>L
 |c::r,L=>qW m r (pr L (p_ m L (oo m c)) c)
def qB(a6:List ef)(al:List dk)(m:List (Int×List b6)):List ef->List l6->List l6
 | [],L=>L
 |n::r,L=>qB a6 al m r (bif IT (oP al n.1=0)then rX L (p_ m L (n.2.1,n.2.2)) n.1 else L)
def oR(a6:List ef)(al:List dk)(cs:List (List Int)):List l6:=(0,[],[],[])::(cs.filter λc=>IT (0<mK a6 al c)).map λc=>(mK a6 al c,c,[],[])
def tv(a6:List ef)(al:List dk)(m:List (Int×List b6))(cs:List (List Int)):List l6 :=qB a6 al m a6 (qW m (cs.filter λc=>!decide (0<mK a6 al c)) (oR a6 al cs))
structure Pm(al:List dk)(cs:List (List Int)):Prop where
 len:cs.length<=512
 nc:∀c∈cs,c≠[]/\c.length<=512/\∀d∈c,qY d/\d≠0/\∃a∈al,a.1=lN d
namespace eS
variable {a6:List ef} {al:List dk} {fs:List Int} (h:eS a6 al fs)
include h
theorem Q_{d:Int}(b:∃a∈al,a.1=lN d):∃p0 l,ff fx (lN d) (j9 a6 al)=U (p0::l)/\l.length<=65:=by obtain⟨p0,l,hp,hl,_,_⟩:=h.He b;obtain⟨a,ha,hid⟩:=b;exact⟨p0,l,by rw[<-hid,h.FE ha,hid];exact hp,hl⟩
theorem aO8{cs:List (List Int)}(hc:Pm al cs){c:List Int}(hm:c∈cs):HO (j9 a6 al) c:=by obtain⟨_,h1,h2⟩:=hc.nc c hm;refine⟨by omega,λd a=>?_⟩;obtain⟨g1,_,g3⟩:=h2 d a;obtain⟨p0,l,hl,b⟩:=h.Q_ g3;exact⟨g1,p0,l,hl,by omega⟩
theorem Hf{cs:List (List Int)}(hc:Pm al cs):wo ((a6,al,fs),cs,j9 a6 al)=U (tv a6 al (j9 a6 al) cs):=by
 have J:a6.length<=256:=by have:=h.zB;simp only[vI,ab,gb]at this;exact this.1
 unfold wo;simp only[cr];let Z:l6->KA:=λa=>(a.1,a.2.1,(),());have hZ:∀(l:List KA),l.map (λx=>((x.1,x.2.1,([]:List (List Int)),([]:List Int)):l6))=l.map (λx=>(x.1,x.2.1,[],[])):=λ_=>rfl;refine(oU (A:=List (List Int)×List KA) cs (λi a=>(a.1,(i:Int),IS,a.2))
  (λa rest=>U (qB a6 al (j9 a6 al) a6 (qW (j9 a6 al) (a.1++rest.filter λc=>!decide (0<mK a6 al c)) ((a.2.map λx=>(x.1,x.2.1,[],[]))++(rest.filter λc=>IT (0<mK a6 al c)).map λc=>(mK a6 al c,c,[],[])))))
  (λi a=>a.1.length<=i/\a.2.length<=i+1/\a.2≠[]/\(∀c∈a.1,c∈cs)/\∀x∈a.2.tail,x.2.1∈cs) (by have:=hc.len;omega) ?_ ?_ ([],[(0,[],(),())]) ⟨by simp,by simp,by simp,by simp,by simp⟩).trans ?_
 .intro rec a K
  obtain⟨i1,i2,i3,i4,i5⟩:=K;have hlen:=hc.len;have z:FB (λx:KA=>((x.1,x.2.1,([]:List (List Int)),([]:List Int)):l6)) a.2=U (a.2.map λx=>(x.1,x.2.1,[],[])):=by
   unfold FB;have:IT (16*a.2.length<=mg)=IN:=by simp only[gb,mg];omega
   rw[this];rfl
  simp only[mG,ct,z,cr,List.filter_nil,cM,bO];have hA:uI (j9 a6 al) (a.2.map λx=>((x.1,x.2.1,[],[]):l6)) (a.2.length-1) 0 0:=by
   obtain⟨y,l,hl⟩:∃y l,a.2=y::l:=by
    cases M:a.2 with
    |nil=>exact lH M i3
    |cons y l=>exact⟨y,l,rfl⟩
   rw[hl]at i5⊢;refine⟨by simp,λb w=>?_,λb w=>?_,λb w=>?_⟩
   .simp only[ay,gg]at w
    obtain⟨x,f,rfl⟩:=aP.1 w;exact h.aO8 hc (i5 x f)
   .obtain⟨x,f,rfl⟩:=aP.1 w;simp
   obtain⟨x,f,rfl⟩:=aP.1 w;simp
  generalize hL0:(a.2.map λx=>((x.1,x.2.1,[],[]):l6))=L0 at *;have hnl:a.2.length-1<=1000000:=by omega
  generalize a.2.length-1=nL at *;generalize hR:a.1=R at *;have hRl:R.length<=512:=by omega
  refine(oU (A:=List l6) R (λi L=>((i:Int),L)) (λL rest=>U (qB a6 al (j9 a6 al) a6 (qW (j9 a6 al) rest L))) (λi L=>uI (j9 a6 al) L nL i 0) (by omega) ?_ ?_ L0 hA)
  .intro rec L g
   simp only[mG,ct,qW];refine(oU (A:=List l6) a6 (λi L=>((i:Int),L)) (λL rest=>U (qB a6 al (j9 a6 al) rest L)) (λi L=>uI (j9 a6 al) L nL R.length i) (by omega) ?_ ?_ L g)
   .intro rec L g
    simp only[mG,ct,qB]
   intro rec j L n rest hj g t u;have B:aa.wrap ((j:Int)+1)=((j+1:Nat):Int):=lG (n:=2000000) (by omega) (by omega);have C:=Ry a6 al fs n.1 (by have:=h.vS;omega);have N:IT (((oP al n.1:Nat):Int)=0)=IT (oP al n.1=0):=by by_cases hz:oP al n.1=0<;>simp[hz]
   simp only[lJ hj,dn,mq t,cr,C,N,B,qB];cases hz:IT (oP al n.1=0)with
   |false=>simp only[ct];exact u L ⟨g.len,g.out,g.vN,λx f=>by have:=g.yN x f;omega⟩
   |true=>
    simp only[dn];obtain⟨o,l,p⟩:=g.cons;have v:l.length<=1000000:=by have:=g.len;rw[p]at this;simp at this;omega
    have m:=g.Rw (n.2.1,n.2.2);have q:=u _ (g.rX (k:=p_ (j9 a6 al) L (n.2.1,n.2.2)) n.1);have D:=g.yN;have r:=g.out;subst p;refine(TY (β:=List l6) (j9 a6 al) (n.2.1,n.2.2) o l v r _).trans ?_;generalize p_ (j9 a6 al) (o::l) (n.2.1,n.2.2)=k at *;have hk:(o::l)[k]?=U ((o::l)[k]'m):=ae m;have O:=D _ (au m);generalize(o::l)[k]'m=y at *;have P:(IT (0<=(k:Int))&&IT ((k:Int)<(((o::l).length:Nat):Int)))=IN:=by simp only[ab,gb];omega
    have e:la 8 y.2.2.2 [n.1]=U (y.2.2.2++[n.1]):=nE (by omega) (by simp;omega);simp only[dG,hk,aj,cr,P,dn,za,e,rG];simp only[rX,hk]at q⊢;exact q
  intro rec j L c rest hj g t u;have s:c∈cs:=by
   refine i4 c ?_;have:c∈R.drop j:=by rw[t];simp
   exact bn this
  obtain⟨c1,c2,Q⟩:=hc.nc c s;obtain⟨d,lA,rfl⟩:∃d lA,c=d::lA:=by
   cases c with
   |nil=>exact lH rfl c1
   |cons d lA=>exact⟨d,lA,rfl⟩
  obtain⟨⟨d1,d2⟩,_,g3⟩:=Q d (by simp);obtain⟨p0,pl,E,_⟩:=h.Q_ g3;have e1:aa.wrap (0-d)=-d:=by rw[lR (by omega) (by omega)];omega
  have B:aa.wrap ((j:Int)+1)=((j+1:Nat):Int):=lG (n:=2000000) (by omega) (by omega);have N:(IT (0<=(j:Int))&&IT ((j:Int)<((R.length:Nat):Int)))=IN:=by simp only[ab,gb];omega
  have S:R[j]?=U (d::lA):=by rw[<-mJ];exact mq t
  have n0:nth (d::lA) (0:Int)=U d:=by have:=mJ (d::lA) 0;exact this
  have n1:nth (p0::pl) (0:Int)=U p0:=by have:=mJ (p0::pl) 0;exact this
  have G:ff (λ(a b:Int)=>IT (a=b)) (max d (-d)) (j9 a6 al)=U (p0::pl):=E;have e5:mH (U (p0::pl)) (No:Option (List b6))=U (p0::pl):=rfl;have V:oo (j9 a6 al) (d::lA)=p0:=by simp[oo,E]
  simp only[lJ hj,dn,N,cr,dG,S,aj,n0,e1,vJ,G,e5,n1,B,qW,V];obtain⟨o,l,p⟩:=g.cons;have v:l.length<=1000000:=by have:=g.len;rw[p]at this;simp at this;omega
  have m:=g.Rw p0;have q:=u _ (g.pr (k:=p_ (j9 a6 al) L p0) (d::lA));have H:=g.vN;have r:=g.out;subst p;refine(TY (β:=List l6) (j9 a6 al) p0 o l v r _).trans ?_;generalize p_ (j9 a6 al) (o::l) p0=k at *;have hk:(o::l)[k]?=U ((o::l)[k]'m):=ae m;have O:=H _ (au m);generalize(o::l)[k]'m=y at *;have P:(IT (0<=(k:Int))&&IT ((k:Int)<(((o::l).length:Nat):Int)))=IN:=by simp only[ab,gb];omega
  have e:la 24 y.2.2.1 [d::lA]=U (y.2.2.1++[d::lA]):=nE (by omega) (by simp;omega);simp only[dG,hk,aj,cr,P,dn,za,e,rG];simp only[pr,hk]at q⊢;exact q
 .intro rec i a c rest a7 K t u
  obtain⟨i1,i2,i3,i4,i5⟩:=K;have s:c∈cs:=by
   have:c∈cs.drop i:=by rw[t];simp
   exact bn this
  obtain⟨c1,c2,Q⟩:=hc.nc c s;have htw:wu ((a6,al,fs),c)=U (mK a6 al c):=h.PZ c2 Q;have B:aa.wrap ((i:Int)+1)=((i+1:Nat):Int):=lG (n:=2000000) (by have:=hc.len;omega) (by omega);have hlen:=hc.len;simp only[lJ a7,dn,mq t,cr,htw,B];by_cases I:0<mK a6 al c
  .have e:la 80 a.2 [(mK a6 al c,c,(),())]=U (a.2++[(mK a6 al c,c,(),())]):=nE (by omega) (by simp;omega)
   simp only[I,lV,dn,e,cr];have:=u (a.1,a.2++[(mK a6 al c,c,(),())]) ⟨by show a.1.length<=i+1;omega,by simp;omega,by simp,i4,λx f=>?_⟩
   .rw[this]
    simp[I,bw]
   obtain⟨y,l,hl⟩:∃y l,a.2=y::l:=by
    cases M:a.2 with
    |nil=>exact lH M i3
    |cons y l=>exact⟨y,l,rfl⟩
   simp only[hl,List.cons_append,gg]at f i5;rcases aO.1 f with f|f
   .exact i5 x f
   simp at f;subst f;exact s
  have e:la 24 a.1 [c]=U (a.1++[c]):=nE (by omega) (by simp;omega);simp only[I,mD,ct,e,cr];have:=u (a.1++[c],a.2) ⟨by simp;omega,by show a.2.length<=i+1+1;omega,i3,λx f=>?_,i5⟩
  .rw[this]
   simp[I,bw]
  rcases aO.1 f with f|f
  .exact i4 x f
  simp at f;subst f;exact s
 simp[tv,oR]
end eS
end Go.Ab
