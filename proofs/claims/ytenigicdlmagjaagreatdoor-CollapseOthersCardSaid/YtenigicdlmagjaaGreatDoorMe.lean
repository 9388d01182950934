/- A part of the proof; its readable source lies in wip of the prover's repo (squeezed here for the limit of bytes). -/
import Derived.Test.YtenigicdlmagjaaGreatDoorMd
import Derived.Test.YtenigicdlmagjaaGreatDoorMc
import Derived.Shelf.Strings.Search3
set_option linter.unusedVariables false
set_option linter.unusedSimpArgs false
set_option linter.unusedSectionVars false
open Array renaming range->aW
open Bool renaming and_assoc->iH,and_eq_true->ab,false_eq_true->au,false_or->dP,not_false->aP,not_true->aw,true_and->dt,true_eq_false->gS
open ByteArray renaming mk->cG
open Go.IntKind renaming i32->iG,i64->aa,u64->bU,u8->dz
open Go.Lib renaming bitLen->dH
open Go.Shelf renaming Ren->dI
open Go.Value.int renaming injEq->eZ
open Int renaming le_of_lt->fD,le_total->ji,mul_nonneg->bH,mul_pos->eU,natAbs_mul->iO,pos_of_mul_pos_right->gf
open List renaming all_cons->bZ,all_eq_true->ak,all_nil->fU,append_nil->dv,drop_eq_getElem_cons->bw,drop_length->ig,drop_zero->fe,find?_some->dV,foldl->a_,foldl_append->fN,getElem?_cons_succ->aI,getElem?_eq_getElem->ae,getElem?_map->aM,idxOf_lt_length_iff->gb,length->gB,length_append->aH,length_cons->ax,length_filter_le->ck,length_map->aB,length_nil->aU,map_append->cF,map_cons->ay,map_nil->bA,mem_append->aK,mem_cons->aC,mem_flatMap->eI,mem_flatten->bD,mem_map->aY,mem_map_of_mem->bm,mem_of_find?_eq_some->bj,mem_of_getElem?->aD,mem_of_mem_drop->aX,mem_singleton->aT,nil_append->bG,not_mem_nil->dM,pairwise_cons->cI,range->bE,sum_cons->cA,take_length->bM
open List.Pairwise renaming cons->i_,nil->ec
open List.cons renaming injEq->b_
open Nat renaming le_trans->bo,lt_of_lt_of_le->db,mod_lt->gN,mul_le_mul->iN,mul_le_mul_left->eT,zero_le->cP
open Option renaming getD->fE,map_some->aj
open Option.some renaming injEq->ai
namespace Go.Ab
open Go
variable [Fuel]
noncomputable def F2:List (Int×Int)->Option ((Int×Int×Int×Int)):=fun x=>bif decide (((x).length:Int)=0)then some (0,0,(-1),(-1))else b8 (nth x 0) fun v3=>b8 (nth x 0) fun v5=>b8 (nth x 0) fun d=>b8 (nth x 0) fun v9=>rounds (α:=Int×Int×Int×Int×Int) (β:=(Int×Int×Int×Int)) (fun b a=>bif decide (a.1<((x).length:Int))then b8 (nth x a.1) fun c=>b8 (nth x a.1) fun v22=>b8 (nth x a.1) fun v25=>b8 (nth x a.1) fun v28=>b ((aa.wrap (a.1+1)),(a_ mnI a.2.1 [c.1]),(a_ mnI a.2.2.1 [v22.2]),(a_ mxI a.2.2.2.1 [v25.1]),(a_ mxI a.2.2.2.2 [v28.2]))else some (a.2.1,a.2.2.1,a.2.2.2.1,a.2.2.2.2)) (1,v3.1,v5.2,d.1,v9.2)
noncomputable def G9:(List (Int×Int×Int)×List (Int×Int×Int×List (Int×Int)×Int×Int)×List (Int))->Option (Bool):=fun x=>bif decide ((30:Int)<((x.1).length:Int))then some false else bif decide ((30:Int)<((x.2.1).length:Int))then some false else bif decide ((30:Int)<((x.2.2).length:Int))then some false else rounds (α:=List (Int×Int)×Int) (β:=Bool) (fun f c=>bif decide (c.2<((x.1).length:Int))then b8 (nth x.1 c.2) fun d=>b8 (G5 16 c.1 [(d.2.1,d.2.2)]) fun v17=>f (v17,(aa.wrap (c.2+1)))else rounds (α:=List (Int×Int)×Int) (β:=Bool) (fun e b=>bif decide (b.2<((x.2.1).length:Int))then b8 (nth x.2.1 b.2) fun v20=>bif decide ((180:Int)<(aa.wrap (((b.1).length:Int)+((v20.2.2.2.1).length:Int))))then some false else b8 (nth x.2.1 b.2) fun v29=>b8 (G5 16 b.1 v29.2.2.2.1) fun v35=>e (v35,(aa.wrap (b.2+1)))else b8 (some ()) fun a=>b8 (F2 b.1) fun a=>bif decide ((-1073741824)<=a.1)then bif decide ((-1073741824)<=a.2.1)then bif decide (a.2.2.1<=1073741824)then bif decide (a.2.2.2<=1073741824)then bif decide ((aa.wrap (a.2.2.1-a.1))<=3000)then some (decide ((aa.wrap (a.2.2.2-a.2.1))<=3000))else some false else some false else some false else some false else some false) (c.1,0)) (([]:List (Int×Int)),0)
noncomputable def G7:(List (Int×Int×Int)×List (Int×Int×Int×List (Int×Int)×Int×Int)×List (Int)×List (Int×Int×Int×ByteArray×List (Int)))->Option (Bool):=fun x=>b8 (G9 (x.1,x.2.1,x.2.2.1)) fun v4=>bif !(v4)then some false else bif decide ((20:Int)<((x.2.2.2).length:Int))then some false else rounds (α:=Int) (β:=Bool) (fun c a=>bif decide (a<((x.2.2.2).length:Int))then b8 (nth x.2.2.2 a) fun v12=>bif decide ((40:Int)<((v12.2.2.2.2).length:Int))then some false else b8 (nth x.2.2.2 a) fun b=>bif decide ((100:Int)<((b.2.2.2.1).size:Int))then some false else c (aa.wrap (a+1))else some true) 0
noncomputable def J7:Int×Int->Option (List (Int×Int)):=fun x=>some [((aa.wrap (x.1+x.2)),x.1),((aa.wrap (x.1+x.2)),(aa.wrap (x.1+x.2))),(x.1,(aa.wrap (x.1+x.2)))]
noncomputable def T2:Unit->Option ((List (Int×Int×Int)×List (Int×Int×Int×List (Int×Int)×Int×Int)×List (Int)×List (Int×Int×Int×ByteArray×List (Int)))):=fun x=>b8 (J7 (0,10)) fun v0=>b8 (J7 (2,2)) fun v1=>some ([(1,0,0),(2,2,2)],[(1,1,1,v0,1,0),(2,2,2,v1,2,1)],[1,2],[(5,5,1,(cG #[]),[1]),(6,6,2,(cG #[]),[2])])
noncomputable def M8:(List (Int×Int×Int)×List (Int×Int×Int×List (Int×Int)×Int×Int)×List (Int))->Option ((List (Int)×List (Int))):=fun x=>rounds (α:=List (Int)×Int) (β:=(List (Int)×List (Int))) (fun e a=>bif decide (a.2<((x.1).length:Int))then b8 (nth x.1 a.2) fun f=>b8 (G5 8 a.1 [f.1]) fun v11=>e (v11,(aa.wrap (a.2+1)))else rounds (α:=List (Int)×Int) (β:=(List (Int)×List (Int))) (fun g b=>bif decide (b.2<((x.2.1).length:Int))then b8 (nth x.2.1 b.2) fun c=>b8 (G5 8 b.1 [c.1]) fun d=>g (d,(aa.wrap (b.2+1)))else some (a.1,b.1)) (([]:List (Int)),0)) (([]:List (Int)),0)
noncomputable def J8:List (Int)->Option (Bool):=fun x=>rounds (α:=Int) (β:=Bool) (fun b a=>bif decide (a<((x).length:Int))then b8 (nth x (aa.wrap (a-1))) fun v6=>b8 (nth x a) fun c=>bif decide (c<=v6)then some false else b (aa.wrap (a+1))else some true) 1
noncomputable def O9:Int->Option (Bool):=fun x=>bif decide (x<1)then some true else some (decide (1073741824<x))
noncomputable def w7:List (Int)×(Unit)->Option (Bool):=fun x=>rounds (α:=Int) (β:=Bool) (fun b a=>bif decide (a<((x.1).length:Int))then b8 (nth x.1 a) fun v5=>b8 (O9 v5) fun v6=>bif v6 then some (decide (0<=a))else b (aa.wrap (a+1))else some false) 0
noncomputable def M3:List (Int)->Option (Bool):=fun x=>b8 (w7 (x,())) fun v1=>some (!(v1))
noncomputable def M0:(Int×Int)->Option (Bool):=fun x=>bif decide (x.1<(-1048576))then some true else bif decide (1048576<x.1)then some true else bif decide (x.2<(-1048576))then some true else some (decide (1048576<x.2))
noncomputable def u5:List (Int×Int)×(Unit)->Option (Bool):=fun x=>rounds (α:=Int) (β:=Bool) (fun b a=>bif decide (a<((x.1).length:Int))then b8 (nth x.1 a) fun v5=>b8 (M0 (v5.1,v5.2)) fun c=>bif c then some (decide (0<=a))else b (aa.wrap (a+1))else some false) 0
noncomputable def aH0:(List (Int×Int×Int)×List (Int×Int×Int×List (Int×Int)×Int×Int)×List (Int))->Option (Bool):=fun x=>rounds (α:=Int) (β:=Bool) (fun d a=>bif decide (a<((x.1).length:Int))then b8 (nth x.1 a) fun c=>b8 (M0 (c.2.1,c.2.2)) fun v10=>bif v10 then some false else d (aa.wrap (a+1))else rounds (α:=Int) (β:=Bool) (fun e b=>bif decide (b<((x.2.1).length:Int))then b8 (nth x.2.1 b) fun v11=>b8 (u5 (v11.2.2.2.1,())) fun v17=>bif v17 then some false else e (aa.wrap (b+1))else some true) 0) 0
noncomputable def E3:List (Int)×Int->Option (Int):=fun x=>rounds (α:=Int) (β:=Int) (fun b a=>bif decide (a<((x.1).length:Int))then b8 (nth x.1 a) fun v6=>bif decide (x.2=v6)then some a else b (aa.wrap (a+1))else some (-1)) 0
noncomputable def l8:List (Int)×Int->Option (Bool):=fun x=>b8 (E3 (x.1,x.2)) fun v2=>some (decide (0<=v2))
noncomputable def S8:(List (Int×Int×Int)×List (Int×Int×Int×List (Int×Int)×Int×Int)×List (Int))×List (Int)->Option (Int):=fun x=>rounds (α:=Int) (β:=Int) (fun h d=>bif decide (d<((x.1.1).length:Int))then b8 (nth x.1.1 d) fun g=>b8 (sK0 x.1.1 none (some d)) fun v11=>rounds (α:=Int) (β:=Int) (fun c a=>bif decide (a<((v11).length:Int))then b8 (nth v11 a) fun b=>bif decide (g.2.1=b.2.1)&&decide (g.2.2=b.2.2)then some 8 else c (aa.wrap (a+1))else h (aa.wrap (d+1))) 0 else rounds (α:=Int) (β:=Int) (fun i e=>bif decide (e<((x.1.2.1).length:Int))then b8 (nth x.1.2.1 e) fun v12=>b8 (l8 (x.2,v12.2.1)) fun f=>bif !(f)then some 7 else b8 (l8 (x.2,v12.2.2.1)) fun v20=>bif !(v20)then some 7 else i (aa.wrap (e+1))else rounds (α:=Int) (β:=Int) (fun c a=>bif decide (a<((x.1.2.1).length:Int))then b8 (nth x.1.2.1 a) fun b=>bif !decide (b.2.2.2.2.1=0)then b8 (l8 (x.1.2.2,b.2.2.2.2.1)) fun v23=>bif !(v23)then some 12 else bif !decide (b.2.2.2.2.2=0)then b8 (l8 (x.1.2.2,b.2.2.2.2.2)) fun v26=>bif !(v26)then some 12 else c (aa.wrap (a+1))else c (aa.wrap (a+1))else bif !decide (b.2.2.2.2.2=0)then b8 (l8 (x.1.2.2,b.2.2.2.2.2)) fun v24=>bif !(v24)then some 12 else c (aa.wrap (a+1))else c (aa.wrap (a+1))else some 0) 0) 0) 0
noncomputable def bd0:(List (Int×Int×Int)×List (Int×Int×Int×List (Int×Int)×Int×Int)×List (Int))×Int->Option (((Int×Int×Int×List (Int×Int)×Int×Int)×Bool)):=fun x=>rounds (α:=Int) (β:=((Int×Int×Int×List (Int×Int)×Int×Int)×Bool)) (fun d b=>bif decide (b<((x.1.2.1).length:Int))then b8 (nth x.1.2.1 b) fun a=>bif decide (a.1=x.2)then b8 (slices_Clone_api_Point a.2.2.2.1) fun c=>some ((a.1,a.2.1,a.2.2.1,c,a.2.2.2.2.1,a.2.2.2.2.2),true)else d (aa.wrap (b+1))else some ((0,0,0,([]:List (Int×Int)),0,0),false)) 0
noncomputable def S5:(List (Int×Int×Int)×List (Int×Int×Int×List (Int×Int)×Int×Int)×List (Int))×Int->Option (((Int×Int×Int)×Bool)):=fun x=>rounds (α:=Int) (β:=((Int×Int×Int)×Bool)) (fun c b=>bif decide (b<((x.1.1).length:Int))then b8 (nth x.1.1 b) fun a=>bif decide (a.1=x.2)then some ((a.1,a.2.1,a.2.2),true)else c (aa.wrap (b+1))else some ((0,0,0),false)) 0
noncomputable def M7:(List (Int×Int×Int)×List (Int×Int×Int×List (Int×Int)×Int×Int)×List (Int))×Int->Option ((List (Int×Int)×Int)):=fun x=>b8 (bd0 ((x.1.1,x.1.2.1,x.1.2.2),x.2)) fun v4=>b8 (S5 ((x.1.1,x.1.2.1,x.1.2.2),v4.1.2.1)) fun v11=>b8 (S5 ((x.1.1,x.1.2.1,x.1.2.2),v4.1.2.2.1)) fun a=>bif !(v4.2)then some (([]:List (Int×Int)),7)else bif !(v11.2)then some (([]:List (Int×Int)),7)else bif !(a.2)then some (([]:List (Int×Int)),7)else b8 (some (aa.wrap (1+((v4.1.2.2.2.1).length:Int)))) fun v23=>bif decide (v23<0)then none else b8 (some (aa.wrap (v23+1))) fun v25=>bif decide (v25<0)then none else bif decide (v25<0)then none else b8 (some (aa.wrap (v25-0))) fun v28=>bif decide (0<v28)then b8 (uZ0 16 ((0,0):Int×Int) v28) fun v30=>b8 (some ()) fun v31=>b8 (G5 16 ([]:List (Int×Int)) [(v11.1.2.1,v11.1.2.2)]) fun v31=>b8 (G5 16 v31 v4.1.2.2.2.1) fun v32=>b8 (G5 16 v32 [(a.1.2.1,a.1.2.2)]) fun v33=>some (v33,0)else b8 (G5 16 [(v11.1.2.1,v11.1.2.2)] v4.1.2.2.2.1) fun v30=>b8 (G5 16 v30 [(a.1.2.1,a.1.2.2)]) fun v31=>some (v31,0)
noncomputable def u6:((Int×Int×Int×List (Int×Int)×Int×Int×List (Int×Int))×Int)->Option (((Int×Int)×(Int×Int))):=fun x=>b8 (some ()) fun v2=>b8 (some x.1) fun v2=>b8 (nth v2.2.2.2.2.2.2 x.2) fun v9=>b8 (some ()) fun v11=>b8 (some x.1) fun v11=>b8 (nth v11.2.2.2.2.2.2 (aa.wrap (x.2+1))) fun a=>some ((v9.1,v9.2),(a.1,a.2))
noncomputable def A8:((Int×Int×Int×List (Int×Int)×Int×Int×List (Int×Int))×Int)->Option (Int):=fun x=>b8 (u6 (x.1,x.2)) fun v2=>some (a_ mnI v2.1.1 [v2.2.1])
noncomputable def y4:Int->Option (Bool):=fun x=>some (!decide (x=x))
noncomputable def p8:Int×Int->Option (Int):=fun x=>b8 (y4 x.1) fun v2=>b8 (y4 x.2) fun v3=>bif v2 then bif v3 then some 0 else some (-1)else bif v3 then some 1 else bif decide (x.1<x.2)then some (-1)else bif decide (x.2<x.1)then some 1 else some 0
noncomputable def U8:((Int×Int×Int×List (Int×Int)×Int×Int×List (Int×Int))×Int)×((Int×Int×Int×List (Int×Int)×Int×Int×List (Int×Int))×Int)->Option (Int):=fun x=>b8 (A8 (x.1.1,x.1.2)) fun v4=>b8 (A8 (x.2.1,x.2.2)) fun v5=>b8 (p8 (v4,v5)) fun v6=>some v6
noncomputable def slices_SortFunc_plan_segment_plan_planar_1:List ((Int×Int×Int×List (Int×Int)×Int×Int×List (Int×Int))×Int)×Int×(Unit)->Option (List ((Int×Int×Int×List (Int×Int)×Int×Int×List (Int×Int))×Int)):=fun x=>bif decide (x.2.1=2)then aw0 (fun a b=>U8 (a,b)) x.1 else none
noncomputable def H7:((Int×Int×Int×List (Int×Int)×Int×Int×List (Int×Int))×Int)->Option (Int):=fun x=>b8 (u6 (x.1,x.2)) fun v2=>some (a_ mxI v2.1.1 [v2.2.1])
noncomputable def S7:List (Int×Int)->Option (Bool):=fun x=>rounds (α:=Int) (β:=Bool) (fun b a=>bif decide (a<((x).length:Int))then b8 (nth x a) fun v5=>bif decide (v5.1<(-2097152))then some false else bif decide (2097152<v5.1)then some false else bif decide (v5.2<(-2097152))then some false else bif decide (2097152<v5.2)then some false else b (aa.wrap (a+1))else some true) 0
noncomputable def U2:(Int×Int)×(Int×Int)×(Int×Int)->Option (Int):=fun x=>some (aa.wrap ((aa.wrap ((aa.wrap (x.2.1.1-x.1.1))*(aa.wrap (x.2.2.2-x.1.2))))-(aa.wrap ((aa.wrap (x.2.1.2-x.1.2))*(aa.wrap (x.2.2.1-x.1.1))))))
noncomputable def A3:(Int×Int)×(Int×Int)×(Int×Int)->Option (Bool):=fun x=>b8 (some ()) fun v6=>b8 (S7 [(x.1.1,x.1.2),(x.2.1.1,x.2.1.2),(x.2.2.1,x.2.2.2)]) fun v6=>bif !(v6)then some false else b8 (U2 ((x.1.1,x.1.2),(x.2.1.1,x.2.1.2),(x.2.2.1,x.2.2.2))) fun a=>bif !decide (a=0)then some false else bif decide ((a_ mnI x.1.1 [x.2.1.1])<=x.2.2.1)then bif decide (x.2.2.1<=(a_ mxI x.1.1 [x.2.1.1]))then bif decide ((a_ mnI x.1.2 [x.2.1.2])<=x.2.2.2)then some (decide (x.2.2.2<=(a_ mxI x.1.2 [x.2.1.2])))else some false else some false else some false
noncomputable def y8:((Int×Int×Int×List (Int×Int)×Int×Int×List (Int×Int))×Int)->Option (Bool):=fun x=>some (decide (x.2=0))
noncomputable def w5:((Int×Int×Int×List (Int×Int)×Int×Int×List (Int×Int))×Int)->Option (Bool):=fun x=>b8 (some ()) fun v2=>b8 (some x.1) fun v2=>some (decide (x.2=(aa.wrap (((v2.2.2.2.2.2.2).length:Int)-2))))
noncomputable def bL0:(Int×Int)×(Int×Int)×(Int×Int)->Option (Int):=fun x=>b8 (some ()) fun v6=>b8 (S7 [(x.1.1,x.1.2),(x.2.1.1,x.2.1.2),(x.2.2.1,x.2.2.2)]) fun v6=>bif !(v6)then some 0 else b8 (U2 ((x.1.1,x.1.2),(x.2.1.1,x.2.1.2),(x.2.2.1,x.2.2.2))) fun a=>some a
noncomputable def B1:(Int×Int)×(Int×Int)×(Int×Int)->Option (Int):=fun x=>b8 (bL0 ((x.1.1,x.1.2),(x.2.1.1,x.2.1.2),(x.2.2.1,x.2.2.2))) fun v6=>bif decide (0<v6)then some 1 else bif decide (v6<0)then some (-1)else some 0
noncomputable def o8:(Int×Int)×(Int×Int)->Option (Bool):=fun x=>bif decide (x.1.1<x.2.1)then some true else bif decide (x.1.1=x.2.1)then some (decide (x.1.2<x.2.2))else some false
noncomputable def Y7:(Int×Int)×(Int×Int)×(Int×Int)×(Int×Int)->Option (Int):=fun x=>b8 (o8 ((x.2.1.1,x.2.1.2),(x.1.1,x.1.2))) fun b=>bif b then b8 (o8 ((x.2.2.2.1,x.2.2.2.2),(x.2.2.1.1,x.2.2.1.2))) fun v9=>bif v9 then b8 (o8 ((x.2.1.1,x.2.1.2),(x.2.2.2.1,x.2.2.2.2))) fun v10=>bif v10 then b8 (o8 ((x.2.2.1.1,x.2.2.1.2),(x.1.1,x.1.2))) fun v11=>bif v11 then bif decide (x.2.2.2.1=x.2.2.1.1)&&decide (x.2.2.2.2=x.2.2.1.2)then some 1 else b8 (o8 ((x.2.2.2.1,x.2.2.2.2),(x.2.2.1.1,x.2.2.1.2))) fun a=>bif a then some 2 else some 0 else bif decide (x.2.2.2.1=x.1.1)&&decide (x.2.2.2.2=x.1.2)then some 1 else b8 (o8 ((x.2.2.2.1,x.2.2.2.2),(x.1.1,x.1.2))) fun a=>bif a then some 2 else some 0 else b8 (o8 ((x.2.2.1.1,x.2.2.1.2),(x.1.1,x.1.2))) fun v11=>bif v11 then bif decide (x.2.1.1=x.2.2.1.1)&&decide (x.2.1.2=x.2.2.1.2)then some 1 else b8 (o8 ((x.2.1.1,x.2.1.2),(x.2.2.1.1,x.2.2.1.2))) fun a=>bif a then some 2 else some 0 else bif decide (x.2.1.1=x.1.1)&&decide (x.2.1.2=x.1.2)then some 1 else b8 (o8 ((x.2.1.1,x.2.1.2),(x.1.1,x.1.2))) fun a=>bif a then some 2 else some 0 else b8 (o8 ((x.2.1.1,x.2.1.2),(x.2.2.1.1,x.2.2.1.2))) fun v10=>bif v10 then b8 (o8 ((x.2.2.2.1,x.2.2.2.2),(x.1.1,x.1.2))) fun v11=>bif v11 then bif decide (x.2.2.1.1=x.2.2.2.1)&&decide (x.2.2.1.2=x.2.2.2.2)then some 1 else b8 (o8 ((x.2.2.1.1,x.2.2.1.2),(x.2.2.2.1,x.2.2.2.2))) fun a=>
 bif a then some 2 else some 0 else bif decide (x.2.2.1.1=x.1.1)&&decide (x.2.2.1.2=x.1.2)then some 1 else b8 (o8 ((x.2.2.1.1,x.2.2.1.2),(x.1.1,x.1.2))) fun a=>bif a then some 2 else some 0 else b8 (o8 ((x.2.2.2.1,x.2.2.2.2),(x.1.1,x.1.2))) fun v11=>bif v11 then bif decide (x.2.1.1=x.2.2.2.1)&&decide (x.2.1.2=x.2.2.2.2)then some 1 else b8 (o8 ((x.2.1.1,x.2.1.2),(x.2.2.2.1,x.2.2.2.2))) fun a=>bif a then some 2 else some 0 else bif decide (x.2.1.1=x.1.1)&&decide (x.2.1.2=x.1.2)then some 1 else b8 (o8 ((x.2.1.1,x.2.1.2),(x.1.1,x.1.2))) fun a=>bif a then some 2 else some 0 else b8 (o8 ((x.2.2.2.1,x.2.2.2.2),(x.2.2.1.1,x.2.2.1.2))) fun v9=>bif v9 then b8 (o8 ((x.1.1,x.1.2),(x.2.2.2.1,x.2.2.2.2))) fun v10=>bif v10 then b8 (o8 ((x.2.2.1.1,x.2.2.1.2),(x.2.1.1,x.2.1.2))) fun v11=>bif v11 then bif decide (x.2.2.2.1=x.2.2.1.1)&&decide (x.2.2.2.2=x.2.2.1.2)then some 1 else b8 (o8 ((x.2.2.2.1,x.2.2.2.2),(x.2.2.1.1,x.2.2.1.2))) fun a=>bif a then some 2 else some 0 else bif decide (x.2.2.2.1=x.2.1.1)&&decide (x.2.2.2.2=x.2.1.2)then some 1 else b8 (o8 ((x.2.2.2.1,x.2.2.2.2),(x.2.1.1,x.2.1.2))) fun a=>bif a then some 2 else some 0 else b8 (o8 ((x.2.2.1.1,x.2.2.1.2),(x.2.1.1,x.2.1.2))) fun v11=>bif v11 then bif decide (x.1.1=x.2.2.1.1)&&decide (x.1.2=x.2.2.1.2)then some 1 else b8 (o8 ((x.1.1,x.1.2),(x.2.2.1.1,x.2.2.1.2))) fun a=>
 bif a then some 2 else some 0 else bif decide (x.1.1=x.2.1.1)&&decide (x.1.2=x.2.1.2)then some 1 else b8 (o8 ((x.1.1,x.1.2),(x.2.1.1,x.2.1.2))) fun a=>bif a then some 2 else some 0 else b8 (o8 ((x.1.1,x.1.2),(x.2.2.1.1,x.2.2.1.2))) fun v10=>bif v10 then b8 (o8 ((x.2.2.2.1,x.2.2.2.2),(x.2.1.1,x.2.1.2))) fun v11=>bif v11 then bif decide (x.2.2.1.1=x.2.2.2.1)&&decide (x.2.2.1.2=x.2.2.2.2)then some 1 else b8 (o8 ((x.2.2.1.1,x.2.2.1.2),(x.2.2.2.1,x.2.2.2.2))) fun a=>bif a then some 2 else some 0 else bif decide (x.2.2.1.1=x.2.1.1)&&decide (x.2.2.1.2=x.2.1.2)then some 1 else b8 (o8 ((x.2.2.1.1,x.2.2.1.2),(x.2.1.1,x.2.1.2))) fun a=>bif a then some 2 else some 0 else b8 (o8 ((x.2.2.2.1,x.2.2.2.2),(x.2.1.1,x.2.1.2))) fun v11=>bif v11 then bif decide (x.1.1=x.2.2.2.1)&&decide (x.1.2=x.2.2.2.2)then some 1 else b8 (o8 ((x.1.1,x.1.2),(x.2.2.2.1,x.2.2.2.2))) fun a=>bif a then some 2 else some 0 else bif decide (x.1.1=x.2.1.1)&&decide (x.1.2=x.2.1.2)then some 1 else b8 (o8 ((x.1.1,x.1.2),(x.2.1.1,x.2.1.2))) fun a=>bif a then some 2 else some 0
noncomputable def bY0:(Int×Int)×(Int×Int)×(Int×Int)×(Int×Int)->Option (Int):=fun x=>b8 (some ()) fun f=>b8 (S7 [(x.1.1,x.1.2),(x.2.1.1,x.2.1.2),(x.2.2.1.1,x.2.2.1.2),(x.2.2.2.1,x.2.2.2.2)]) fun f=>bif !(f)then some 0 else bif decide (x.1.1=x.2.1.1)&&decide (x.1.2=x.2.1.2)then b8 (A3 ((x.2.2.1.1,x.2.2.1.2),(x.2.2.2.1,x.2.2.2.2),(x.1.1,x.1.2))) fun v11=>bif v11 then some 1 else some 0 else bif decide (x.2.2.1.1=x.2.2.2.1)&&decide (x.2.2.1.2=x.2.2.2.2)then b8 (A3 ((x.1.1,x.1.2),(x.2.1.1,x.2.1.2),(x.2.2.1.1,x.2.2.1.2))) fun v12=>bif v12 then some 1 else some 0 else b8 (B1 ((x.1.1,x.1.2),(x.2.1.1,x.2.1.2),(x.2.2.1.1,x.2.2.1.2))) fun v12=>bif decide (v12=0)then b8 (B1 ((x.1.1,x.1.2),(x.2.1.1,x.2.1.2),(x.2.2.2.1,x.2.2.2.2))) fun a=>bif decide (a=0)then b8 (Y7 ((x.1.1,x.1.2),(x.2.1.1,x.2.1.2),(x.2.2.1.1,x.2.2.1.2),(x.2.2.2.1,x.2.2.2.2))) fun b=>some b else b8 (B1 ((x.1.1,x.1.2),(x.2.1.1,x.2.1.2),(x.2.2.1.1,x.2.2.1.2))) fun b=>b8 (B1 ((x.1.1,x.1.2),(x.2.1.1,x.2.1.2),(x.2.2.2.1,x.2.2.2.2))) fun v17=>bif decide ((aa.wrap (b*v17))<=0)then b8 (B1 ((x.2.2.1.1,x.2.2.1.2),(x.2.2.2.1,x.2.2.2.2),(x.1.1,x.1.2))) fun v20=>b8 (B1 ((x.2.2.1.1,x.2.2.1.2),(x.2.2.2.1,x.2.2.2.2),(x.2.1.1,x.2.1.2))) fun v21=>bif decide ((aa.wrap (v20*v21))<=0)then some 1 else some 0 else some 0 else b8 (B1 ((x.1.1,x.1.2),(x.2.1.1,x.2.1.2),(x.2.2.1.1,x.2.2.1.2))) fun a=>b8 (B1 ((x.1.1,x.1.2),(x.2.1.1,x.2.1.2),(x.2.2.2.1,x.2.2.2.2))) fun c=>
 bif decide ((aa.wrap (a*c))<=0)then b8 (B1 ((x.2.2.1.1,x.2.2.1.2),(x.2.2.2.1,x.2.2.2.2),(x.1.1,x.1.2))) fun d=>b8 (B1 ((x.2.2.1.1,x.2.2.1.2),(x.2.2.2.1,x.2.2.2.2),(x.2.1.1,x.2.1.2))) fun e=>bif decide ((aa.wrap (d*e))<=0)then some 1 else some 0 else some 0
noncomputable def K5:((Int×Int×Int×List (Int×Int)×Int×Int×List (Int×Int))×Int)×((Int×Int×Int×List (Int×Int)×Int×Int×List (Int×Int))×Int)×List (Int×(Int×Int))->Option (Bool):=fun x=>b8 (u6 (x.1.1,x.1.2)) fun v5=>b8 (u6 (x.2.1.1,x.2.1.2)) fun v9=>b8 (bY0 ((v5.1.1,v5.1.2),(v5.2.1,v5.2.2),(v9.1.1,v9.1.2),(v9.2.1,v9.2.2))) fun c=>b8 (some ()) fun l=>b8 (some x.1.1) fun l=>b8 (some ()) fun v21=>b8 (some x.2.1.1) fun v21=>bif decide (l.1=v21.1)then bif decide (x.2.1.2<x.1.2)then bif decide ((aa.wrap (x.2.1.2+1))=x.1.2)then some (decide (c=1))else b8 (some ()) fun v32=>b8 (some x.2.1.1) fun v32=>b8 (some ()) fun v39=>b8 (some x.2.1.1) fun v39=>bif decide (v32.2.1=v39.2.2.1)then b8 (y8 (x.2.1.1,x.2.1.2)) fun i=>bif i then b8 (w5 (x.1.1,x.1.2)) fun j=>bif j then some (decide (c=1))else some (decide (c=0))else some (decide (c=0))else some (decide (c=0))else bif decide ((aa.wrap (x.1.2+1))=x.2.1.2)then some (decide (c=1))else b8 (some ()) fun v32=>b8 (some x.1.1) fun v32=>b8 (some ()) fun v39=>b8 (some x.1.1) fun v39=>bif decide (v32.2.1=v39.2.2.1)then b8 (y8 (x.1.1,x.1.2)) fun i=>bif i then b8 (w5 (x.2.1.1,x.2.1.2)) fun j=>bif j then some (decide (c=1))else some (decide (c=0))else some (decide (c=0))else some (decide (c=0))else bif !decide (c=1)then some (decide (c=0))else b8 (some ()) fun v30=>b8 (some x.1.1) fun v30=>b8 (some ()) fun v37=>b8 (some x.1.1) fun v37=>b8 (orO (lkp (fun (a b:Int)=>
 decide (a=b)) v30.2.1 x.2.2) (some (0,0))) fun v44=>b8 (some ()) fun v46=>b8 (some x.2.1.1) fun v46=>bif decide (v30.2.1=v46.2.1)then b8 (A3 ((v5.1.1,v5.1.2),(v5.2.1,v5.2.2),(v44.1,v44.2))) fun v54=>bif v54 then b8 (A3 ((v9.1.1,v9.1.2),(v9.2.1,v9.2.2),(v44.1,v44.2))) fun v55=>bif v55 then some true else b8 (orO (lkp (fun (a b:Int)=>decide (a=b)) v37.2.2.1 x.2.2) (some (0,0))) fun f=>b8 (some ()) fun v58=>b8 (some x.2.1.1) fun v58=>bif decide (v37.2.2.1=v58.2.1)then b8 (A3 ((v5.1.1,v5.1.2),(v5.2.1,v5.2.2),(f.1,f.2))) fun v66=>bif v66 then b8 (A3 ((v9.1.1,v9.1.2),(v9.2.1,v9.2.2),(f.1,f.2))) fun v67=>bif v67 then some true else some false else some false else b8 (some ()) fun v66=>b8 (some x.2.1.1) fun v66=>bif decide (v37.2.2.1=v66.2.2.1)then b8 (A3 ((v5.1.1,v5.1.2),(v5.2.1,v5.2.2),(f.1,f.2))) fun d=>bif d then b8 (A3 ((v9.1.1,v9.1.2),(v9.2.1,v9.2.2),(f.1,f.2))) fun v75=>bif v75 then some true else some false else some false else some false else b8 (orO (lkp (fun (a b:Int)=>decide (a=b)) v37.2.2.1 x.2.2) (some (0,0))) fun v55=>b8 (some ()) fun v57=>b8 (some x.2.1.1) fun v57=>bif decide (v37.2.2.1=v57.2.1)then b8 (A3 ((v5.1.1,v5.1.2),(v5.2.1,v5.2.2),(v55.1,v55.2))) fun h=>bif h then b8 (A3 ((v9.1.1,v9.1.2),(v9.2.1,v9.2.2),(v55.1,v55.2))) fun v66=>bif v66 then some true else some false else some false else b8 (some ()) fun h=>b8 (some x.2.1.1) fun h=>
 bif decide (v37.2.2.1=h.2.2.1)then b8 (A3 ((v5.1.1,v5.1.2),(v5.2.1,v5.2.2),(v55.1,v55.2))) fun g=>bif g then b8 (A3 ((v9.1.1,v9.1.2),(v9.2.1,v9.2.2),(v55.1,v55.2))) fun d=>bif d then some true else some false else some false else some false else b8 (some ()) fun v54=>b8 (some x.2.1.1) fun v54=>bif decide (v30.2.1=v54.2.2.1)then b8 (A3 ((v5.1.1,v5.1.2),(v5.2.1,v5.2.2),(v44.1,v44.2))) fun e=>bif e then b8 (A3 ((v9.1.1,v9.1.2),(v9.2.1,v9.2.2),(v44.1,v44.2))) fun v63=>bif v63 then some true else b8 (orO (lkp (fun (a b:Int)=>decide (a=b)) v37.2.2.1 x.2.2) (some (0,0))) fun v64=>b8 (some ()) fun v66=>b8 (some x.2.1.1) fun v66=>bif decide (v37.2.2.1=v66.2.1)then b8 (A3 ((v5.1.1,v5.1.2),(v5.2.1,v5.2.2),(v64.1,v64.2))) fun d=>bif d then b8 (A3 ((v9.1.1,v9.1.2),(v9.2.1,v9.2.2),(v64.1,v64.2))) fun v75=>bif v75 then some true else some false else some false else b8 (some ()) fun d=>b8 (some x.2.1.1) fun d=>bif decide (v37.2.2.1=d.2.2.1)then b8 (A3 ((v5.1.1,v5.1.2),(v5.2.1,v5.2.2),(v64.1,v64.2))) fun v82=>bif v82 then b8 (A3 ((v9.1.1,v9.1.2),(v9.2.1,v9.2.2),(v64.1,v64.2))) fun m=>bif m then some true else some false else some false else some false else b8 (orO (lkp (fun (a b:Int)=>decide (a=b)) v37.2.2.1 x.2.2) (some (0,0))) fun v63=>b8 (some ()) fun h=>b8 (some x.2.1.1) fun h=>bif decide (v37.2.2.1=h.2.1)then b8 (A3 ((v5.1.1,v5.1.2),(v5.2.1,v5.2.2),(v63.1,v63.2))) fun g=>bif g then b8 (A3 ((v9.1.1,v9.1.2),(v9.2.1,v9.2.2),(v63.1,v63.2))) fun d=>
 bif d then some true else some false else some false else b8 (some ()) fun g=>b8 (some x.2.1.1) fun g=>bif decide (v37.2.2.1=g.2.2.1)then b8 (A3 ((v5.1.1,v5.1.2),(v5.2.1,v5.2.2),(v63.1,v63.2))) fun k=>bif k then b8 (A3 ((v9.1.1,v9.1.2),(v9.2.1,v9.2.2),(v63.1,v63.2))) fun v82=>bif v82 then some true else some false else some false else some false else b8 (orO (lkp (fun (a b:Int)=>decide (a=b)) v37.2.2.1 x.2.2) (some (0,0))) fun e=>b8 (some ()) fun v64=>b8 (some x.2.1.1) fun v64=>bif decide (v37.2.2.1=v64.2.1)then b8 (A3 ((v5.1.1,v5.1.2),(v5.2.1,v5.2.2),(e.1,e.2))) fun v72=>bif v72 then b8 (A3 ((v9.1.1,v9.1.2),(v9.2.1,v9.2.2),(e.1,e.2))) fun g=>bif g then some true else some false else some false else b8 (some ()) fun v72=>b8 (some x.2.1.1) fun v72=>bif decide (v37.2.2.1=v72.2.2.1)then b8 (A3 ((v5.1.1,v5.1.2),(v5.2.1,v5.2.2),(e.1,e.2))) fun v80=>bif v80 then b8 (A3 ((v9.1.1,v9.1.2),(v9.2.1,v9.2.2),(e.1,e.2))) fun k=>bif k then some true else some false else some false else some false
noncomputable def aD0:(List (Int×Int×Int)×List (Int×Int×Int×List (Int×Int)×Int×Int)×List (Int))->Option (Bool):=fun x=>rounds (α:=List ((Int×Int×Int×List (Int×Int)×Int×Int×List (Int×Int))×Int)×Int) (β:=Bool) (fun B o=>bif decide (o.2<((x.2.1).length:Int))then b8 (nth x.2.1 o.2) fun f=>b8 (M7 ((x.1,x.2.1,x.2.2),f.1)) fun d=>bif !decide (d.2=0)then some false else bif decide (f.2.1=f.2.2.1)then bif decide (((d.1).length:Int)<4)then some false else rounds (α:=List ((Int×Int×Int×List (Int×Int)×Int×Int×List (Int×Int))×Int)×Int) (β:=Bool) (fun s g=>bif decide (g.2<(aa.wrap (((d.1).length:Int)-1)))then b8 (nth d.1 g.2) fun v26=>b8 (nth d.1 (aa.wrap (g.2+1))) fun v29=>bif decide (v26.1=v29.1)&&decide (v26.2=v29.2)then some false else b8 (G5 16 g.1 [((f.1,f.2.1,f.2.2.1,f.2.2.2.1,f.2.2.2.2.1,f.2.2.2.2.2,d.1),g.2)]) fun v32=>s (v32,(aa.wrap (g.2+1)))else B (g.1,(aa.wrap (o.2+1)))) (o.1,0)else rounds (α:=List ((Int×Int×Int×List (Int×Int)×Int×Int×List (Int×Int))×Int)×Int) (β:=Bool) (fun t h=>bif decide (h.2<(aa.wrap (((d.1).length:Int)-1)))then b8 (nth d.1 h.2) fun v24=>b8 (nth d.1 (aa.wrap (h.2+1))) fun v27=>bif decide (v24.1=v27.1)&&decide (v24.2=v27.2)then some false else b8 (G5 16 h.1 [((f.1,f.2.1,f.2.2.1,f.2.2.2.1,f.2.2.2.2.1,f.2.2.2.2.2,d.1),h.2)]) fun v30=>
 t (v30,(aa.wrap (h.2+1)))else B (h.1,(aa.wrap (o.2+1)))) (o.1,0)else rounds (α:=Int×List (Int×(Int×Int))) (β:=Bool) (fun C q=>bif decide (q.1<((x.1).length:Int))then b8 (nth x.1 q.1) fun e=>C ((aa.wrap (q.1+1)),(I9 (fun (a b:Int)=>decide (a=b)) e.1 (e.2.1,e.2.2) q.2))else b8 (some ()) fun e=>b8 (slices_SortFunc_plan_segment_plan_planar_1 (o.1,2,())) fun e=>rounds (α:=Int) (β:=Bool) (fun r l=>bif decide (l<((e).length:Int))then b8 (nth e l) fun c=>b8 (sK0 e (some (aa.wrap (l+1))) none) fun v21=>rounds (α:=Int) (β:=Bool) (fun u p=>bif decide (p<((v21).length:Int))then b8 (nth v21 p) fun v26=>b8 (A8 (v26.1,v26.2)) fun v28=>b8 (H7 (c.1,c.2)) fun v29=>bif decide (v29<v28)then rounds (α:=Int) (β:=Bool) (fun m i=>bif decide (i<((x.1).length:Int))then b8 (nth x.1 i) fun v35=>b8 (u6 (c.1,c.2)) fun j=>b8 (A3 ((j.1.1,j.1.2),(j.2.1,j.2.2),(v35.2.1,v35.2.2))) fun v=>bif v then b8 (y8 (c.1,c.2)) fun w=>bif w then b8 (some ()) fun v44=>b8 (some c.1) fun v44=>bif !((decide (v44.2.1=v35.1)))then b8 (w5 (c.1,c.2)) fun v53=>bif v53 then b8 (some ()) fun v54=>b8 (some c.1) fun v54=>bif !((decide (v54.2.2.1=v35.1)))then some false else m (aa.wrap (i+1))else some false else m (aa.wrap (i+1))else b8 (w5 (c.1,c.2)) fun v44=>bif v44 then b8 (some ()) fun v45=>b8 (some c.1) fun v45=>
 bif !((decide (v45.2.2.1=v35.1)))then some false else m (aa.wrap (i+1))else some false else m (aa.wrap (i+1))else r (aa.wrap (l+1))) 0 else b8 (some ()) fun v31=>b8 (K5 ((c.1,c.2),(v26.1,v26.2),q.2)) fun v31=>bif !(v31)then some false else u (aa.wrap (p+1))else rounds (α:=Int) (β:=Bool) (fun n k=>bif decide (k<((x.1).length:Int))then b8 (nth x.1 k) fun v30=>b8 (u6 (c.1,c.2)) fun v33=>b8 (A3 ((v33.1.1,v33.1.2),(v33.2.1,v33.2.2),(v30.2.1,v30.2.2))) fun v37=>bif v37 then b8 (y8 (c.1,c.2)) fun j=>bif j then b8 (some ()) fun v39=>b8 (some c.1) fun v39=>bif !((decide (v39.2.1=v30.1)))then b8 (w5 (c.1,c.2)) fun z=>bif z then b8 (some ()) fun v49=>b8 (some c.1) fun v49=>bif !((decide (v49.2.2.1=v30.1)))then some false else n (aa.wrap (k+1))else some false else n (aa.wrap (k+1))else b8 (w5 (c.1,c.2)) fun v39=>bif v39 then b8 (some ()) fun v40=>b8 (some c.1) fun v40=>bif !((decide (v40.2.2.1=v30.1)))then some false else n (aa.wrap (k+1))else some false else n (aa.wrap (k+1))else r (aa.wrap (l+1))) 0) 0 else some true) 0) (0,([]:List (Int×(Int×Int))))) (([]:List ((Int×Int×Int×List (Int×Int)×Int×Int×List (Int×Int))×Int)),0)
noncomputable def aA0:(List (Int×Int×Int)×List (Int×Int×Int×List (Int×Int)×Int×Int)×List (Int))->Option (Int):=fun x=>bif decide ((256:Int)<((x.1).length:Int))then some 3 else bif decide ((256:Int)<((x.2.1).length:Int))then some 3 else bif decide ((64:Int)<((x.2.2).length:Int))then some 3 else rounds (α:=Int) (β:=Int) (fun c b=>bif decide (b<((x.2.1).length:Int))then b8 (nth x.2.1 b) fun a=>bif decide ((64:Int)<((a.2.2.2.1).length:Int))then some 3 else c (aa.wrap (b+1))else b8 (M8 (x.1,x.2.1,x.2.2)) fun a=>b8 (J8 a.1) fun d=>bif !(d)then some 10 else b8 (J8 a.2) fun v17=>bif !(v17)then some 10 else b8 (J8 x.2.2) fun e=>bif !(e)then some 10 else b8 (M3 a.1) fun v21=>bif !(v21)then some 2 else b8 (M3 a.2) fun v23=>bif !(v23)then some 2 else b8 (M3 x.2.2) fun v25=>bif !(v25)then some 2 else b8 (aH0 (x.1,x.2.1,x.2.2)) fun v27=>bif !(v27)then some 2 else b8 (S8 ((x.1,x.2.1,x.2.2),a.1)) fun v29=>bif !decide (v29=0)then some v29 else b8 (aD0 (x.1,x.2.1,x.2.2)) fun v31=>bif !(v31)then some 11 else some 0) 0
noncomputable def U3:(Int×Int)×(Int×Int)->Option (Bool):=fun x=>bif decide (x.2.2<x.1.2)then some true else bif decide (x.2.2=x.1.2)then some (decide (x.2.1<x.1.1))else some false
noncomputable def ab0:(Int×Int)×(Int×Int)×(Int×Int)->Option (Bool):=fun x=>b8 (some ()) fun v6=>b8 (S7 [(x.1.1,x.1.2),(x.2.1.1,x.2.1.2),(x.2.2.1,x.2.2.2)]) fun v6=>bif !(v6)then some false else bif decide (x.2.1.1=x.1.1)&&decide (x.2.1.2=x.1.2)then some false else bif decide (x.2.2.1=x.1.1)&&decide (x.2.2.2=x.1.2)then some false else b8 (U3 ((x.1.1,x.1.2),(x.2.1.1,x.2.1.2))) fun v10=>b8 (U3 ((x.1.1,x.1.2),(x.2.2.1,x.2.2.2))) fun v11=>bif !(v10==v11)then b8 (U3 ((x.1.1,x.1.2),(x.2.2.1,x.2.2.2))) fun a=>some a else b8 (U2 ((x.1.1,x.1.2),(x.2.1.1,x.2.1.2),(x.2.2.1,x.2.2.2))) fun a=>some (decide (0<a))
noncomputable def J4:Int×Int×(Int×Int×Int)×(List (Int×(Int×Int)))->Option (Int):=fun x=>b8 (orO (lkp (fun (a b:Int)=>decide (a=b)) x.1 x.2.2.2) (some (0,0))) fun v6=>b8 (orO (lkp (fun (a b:Int)=>decide (a=b)) x.2.1 x.2.2.2) (some (0,0))) fun e=>b8 (ab0 ((x.2.2.1.2.1,x.2.2.1.2.2),(v6.1,v6.2),(e.1,e.2))) fun v10=>bif v10 then some (-1)else b8 (orO (lkp (fun (a b:Int)=>decide (a=b)) x.2.1 x.2.2.2) (some (0,0))) fun v11=>b8 (orO (lkp (fun (a b:Int)=>decide (a=b)) x.1 x.2.2.2) (some (0,0))) fun c=>b8 (ab0 ((x.2.2.1.2.1,x.2.2.1.2.2),(v11.1,v11.2),(c.1,c.2))) fun d=>bif d then some 1 else some 0
noncomputable def slices_SortFunc_int_walk_Around_2:List (Int)×Int×((Int×Int×Int)×(List (Int×(Int×Int))))->Option (List (Int)):=fun x=>bif decide (x.2.1=1)then aw0 (fun a b=>J4 (a,b,x.2.2.1,x.2.2.2)) x.1 else none
noncomputable def Y2:(List (Int×Int×Int)×List (Int×Int×Int×List (Int×Int)×Int×Int)×List (Int))×Int->Option (List (Int)):=fun x=>b8 (S5 ((x.1.1,x.1.2.1,x.1.2.2),x.2)) fun v4=>bif !(v4.2)then some ([]:List (Int))else rounds (α:=Int×List (Int)×List (Int×(Int×Int))) (β:=List (Int)) (fun e c=>bif decide (c.1<((x.1.2.1).length:Int))then b8 (nth x.1.2.1 c.1) fun d=>bif !decide (d.2.1=x.2)then bif !decide (d.2.2.1=x.2)then e ((aa.wrap (c.1+1)),c.2.1,c.2.2)else b8 (M7 ((x.1.1,x.1.2.1,x.1.2.2),d.1)) fun v23=>bif !decide (v23.2=0)then e ((aa.wrap (c.1+1)),c.2.1,c.2.2)else bif decide (d.2.1=x.2)then b8 (nth v23.1 1) fun v27=>b8 (G5 8 c.2.1 [d.1]) fun v29=>b8 (some (I9 (fun (a b:Int)=>decide (a=b)) d.1 (v27.1,v27.2) c.2.2)) fun v30=>bif decide (d.2.2.1=x.2)then b8 (nth v23.1 (aa.wrap (((v23.1).length:Int)-2))) fun v35=>b8 (G5 8 v29 [(aa.wrap (0-d.1))]) fun v37=>e ((aa.wrap (c.1+1)),v37,(I9 (fun (a b:Int)=>decide (a=b)) (aa.wrap (0-d.1)) (v35.1,v35.2) v30))else e ((aa.wrap (c.1+1)),v29,v30)else bif decide (d.2.2.1=x.2)then b8 (nth v23.1 (aa.wrap (((v23.1).length:Int)-2))) fun v31=>b8 (G5 8 c.2.1 [(aa.wrap (0-d.1))]) fun v33=>e ((aa.wrap (c.1+1)),v33,(I9 (fun (a b:Int)=>
 decide (a=b)) (aa.wrap (0-d.1)) (v31.1,v31.2) c.2.2))else e ((aa.wrap (c.1+1)),c.2.1,c.2.2)else b8 (M7 ((x.1.1,x.1.2.1,x.1.2.2),d.1)) fun v22=>bif !decide (v22.2=0)then e ((aa.wrap (c.1+1)),c.2.1,c.2.2)else bif decide (d.2.1=x.2)then b8 (nth v22.1 1) fun v26=>b8 (G5 8 c.2.1 [d.1]) fun v28=>b8 (some (I9 (fun (a b:Int)=>decide (a=b)) d.1 (v26.1,v26.2) c.2.2)) fun v29=>bif decide (d.2.2.1=x.2)then b8 (nth v22.1 (aa.wrap (((v22.1).length:Int)-2))) fun f=>b8 (G5 8 v28 [(aa.wrap (0-d.1))]) fun v36=>e ((aa.wrap (c.1+1)),v36,(I9 (fun (a b:Int)=>decide (a=b)) (aa.wrap (0-d.1)) (f.1,f.2) v29))else e ((aa.wrap (c.1+1)),v28,v29)else bif decide (d.2.2.1=x.2)then b8 (nth v22.1 (aa.wrap (((v22.1).length:Int)-2))) fun v30=>b8 (G5 8 c.2.1 [(aa.wrap (0-d.1))]) fun v32=>e ((aa.wrap (c.1+1)),v32,(I9 (fun (a b:Int)=>decide (a=b)) (aa.wrap (0-d.1)) (v30.1,v30.2) c.2.2))else e ((aa.wrap (c.1+1)),c.2.1,c.2.2)else b8 (some ()) fun d=>b8 (slices_SortFunc_int_walk_Around_2 (c.2.1,1,((v4.1.1,v4.1.2.1,v4.1.2.2),c.2.2))) fun d=>some d) (0,([]:List (Int)),([]:List (Int×(Int×Int))))
noncomputable def N3:List (Int)×Int->Option (Int):=fun x=>b8 (E3 (x.1,x.2)) fun v2=>bif decide (v2<0)then some 0 else b8 ((bif decide (((x.1).length:Int)=0)then none else some ((aa.wrap ((aa.wrap (v2+((x.1).length:Int)))-1)).tmod ((x.1).length:Int)))) fun a=>b8 (nth x.1 a) fun v9=>some v9
noncomputable def M4:(List (Int×Int×Int)×List (Int×Int×Int×List (Int×Int)×Int×Int)×List (Int))->Option ((List (List (Int))×Int)):=fun x=>b8 (aA0 (x.1,x.2.1,x.2.2)) fun v3=>bif !decide (v3=0)then some (([]:List (List (Int))),v3)else rounds (α:=List (Int)×Int×List (Int×Int)) (β:=(List (List (Int))×Int)) (fun m f=>bif decide (f.2.1<((x.1).length:Int))then b8 (nth x.1 f.2.1) fun v11=>b8 (Y2 ((x.1,x.2.1,x.2.2),v11.1)) fun g=>rounds (α:=List (Int)×Int×List (Int×Int)) (β:=(List (List (Int))×Int)) (fun j e=>bif decide (e.2.1<((g).length:Int))then b8 (nth g e.2.1) fun v21=>b8 (G5 8 e.1 [v21]) fun v22=>b8 (N3 (g,v21)) fun v24=>j (v22,(aa.wrap (e.2.1+1)),(I9 (fun (a b:Int)=>decide (a=b)) (aa.wrap (0-v21)) v24 e.2.2))else m (e.1,(aa.wrap (f.2.1+1)),e.2.2)) (f.1,0,f.2.2)else b8 (some ()) fun v11=>b8 (slices_Sort_int (f.1,1)) fun v11=>rounds (α:=Int×List (List (Int))×List (Int×Bool)) (β:=(List (List (Int))×Int)) (fun i c=>bif decide (c.1<((v11).length:Int))then b8 ((bif decide (0<=c.1)&&decide (c.1<(v11).length)then some ()else none)) fun h=>b8 (((v11)[(c.1).toNat]?).map (fun x=>x)) fun h=>b8 (orO (lkp (fun (a b:Int)=>decide (a=b)) h c.2.2) (some false)) fun k=>bif !(k)then rounds (α:=Int×List (Int)×List (Int×Bool)) (β:=(List (List (Int))×Int)) (fun l d=>b8 (orO (lkp (fun (a b:Int)=>decide (a=b)) d.1 d.2.2) (some false)) fun v25=>bif !(v25)then b8 (G5 8 d.2.1 [d.1]) fun v28=>
 b8 (orO (lkp (fun (a b:Int)=>decide (a=b)) d.1 f.2.2) (some 0)) fun v29=>l (v29,v28,(I9 (fun (a b:Int)=>decide (a=b)) d.1 true d.2.2))else b8 (some ()) fun v27=>b8 (G5 24 c.2.1 [d.2.1]) fun v27=>i ((aa.wrap (c.1+1)),v27,d.2.2)) (h,([]:List (Int)),c.2.2)else i ((aa.wrap (c.1+1)),c.2.1,c.2.2)else some (c.2.1,0)) (0,([]:List (List (Int))),([]:List (Int×Bool)))) (([]:List (Int)),0,([]:List (Int×Int)))
noncomputable def K0:(List (Int×Int×Int)×List (Int×Int×Int×List (Int×Int)×Int×Int)×List (Int))->Option (List (Int×List (Int×Int))):=fun x=>rounds (α:=Int×List (Int×List (Int×Int))) (β:=List (Int×List (Int×Int))) (fun e c=>bif decide (c.1<((x.2.1).length:Int))then b8 (nth x.2.1 c.1) fun f=>b8 (M7 ((x.1,x.2.1,x.2.2),f.1)) fun d=>bif decide (d.2=0)then e ((aa.wrap (c.1+1)),(I9 (fun (a b:Int)=>decide (a=b)) f.1 d.1 c.2))else e ((aa.wrap (c.1+1)),c.2)else some c.2) (0,([]:List (Int×List (Int×Int))))
noncomputable def Y0:(List (Int×Int×Int)×List (Int×Int×Int×List (Int×Int)×Int×Int)×List (Int))×Int->Option (((Int×Int×Int×List (Int×Int)×Int×Int)×Bool)):=fun x=>bif decide (x.2=0)then some ((0,0,0,([]:List (Int×Int)),0,0),false)else bif decide (x.2=(-9223372036854775808))then some ((0,0,0,([]:List (Int×Int)),0,0),false)else b8 (bd0 ((x.1.1,x.1.2.1,x.1.2.2),(a_ mxI x.2 [(aa.wrap (0-x.2))]))) fun a=>some ((a.1.1,a.1.2.1,a.1.2.2.1,a.1.2.2.2.1,a.1.2.2.2.2.1,a.1.2.2.2.2.2),a.2)
noncomputable def N8:(List (Int×Int×Int)×List (Int×Int×Int×List (Int×Int)×Int×Int)×List (Int))×List (Int)->Option (Int):=fun x=>bif decide ((512:Int)<((x.2).length:Int))then some 0 else rounds (α:=Int×Int) (β:=Int) (fun f b=>bif decide (b.2<((x.2).length:Int))then b8 (nth x.2 b.2) fun v11=>b8 (Y0 ((x.1.1,x.1.2.1,x.1.2.2),v11)) fun v12=>bif !(v12.2)then some 0 else b8 (M7 ((x.1.1,x.1.2.1,x.1.2.2),(a_ mxI v11 [(aa.wrap (0-v11))]))) fun v22=>bif !decide (v22.2=0)then some 0 else rounds (α:=Int×Int) (β:=Int) (fun c a=>bif decide (a.2<(aa.wrap (((v22.1).length:Int)-1)))then b8 (nth v22.1 a.2) fun v31=>b8 (nth v22.1 (aa.wrap (a.2+1))) fun d=>b8 (nth v22.1 (aa.wrap (a.2+1))) fun e=>b8 (nth v22.1 a.2) fun v40=>c ((aa.wrap (a.1+(aa.wrap ((aa.wrap (v31.1*d.2))-(aa.wrap (e.1*v40.2)))))),(aa.wrap (a.2+1)))else bif decide (v11<0)then f ((aa.wrap (b.1+(aa.wrap (0-a.1)))),(aa.wrap (b.2+1)))else f ((aa.wrap (b.1+a.1)),(aa.wrap (b.2+1)))) (0,0)else some b.1) (0,0)
noncomputable def y5:List (Int×List (Int×Int))×List (Int)×(Int×Int)->Option (Bool):=fun x=>rounds (α:=Int×Bool×Bool) (β:=Bool) (fun g e=>bif decide (e.1<((x.2.1).length:Int))then b8 (nth x.2.1 e.1) fun v10=>b8 (orO (lkp (fun (a b:Int)=>decide (a=b)) (a_ mxI v10 [(aa.wrap (0-v10))]) x.1) none) fun f=>rounds (α:=Int×Bool×Bool) (β:=Bool) (fun d c=>bif decide (c.1<((f).length:Int))then b8 (nth f (aa.wrap (c.1-1))) fun v21=>b8 (nth f c.1) fun v23=>b8 (A3 ((v21.1,v21.2),(v23.1,v23.2),(x.2.2.1,x.2.2.2))) fun v25=>bif v25 then d ((aa.wrap (c.1+1)),c.2.1,true)else bif decide (v21.2<=x.2.2.2)then bif decide (x.2.2.2<v23.2)then b8 (B1 ((v21.1,v21.2),(v23.1,v23.2),(x.2.2.1,x.2.2.2))) fun v28=>bif decide (0<v28)then d ((aa.wrap (c.1+1)),(!(c.2.1)),c.2.2)else bif decide (v23.2<=x.2.2.2)then bif decide (x.2.2.2<v21.2)then b8 (B1 ((v21.1,v21.2),(v23.1,v23.2),(x.2.2.1,x.2.2.2))) fun v32=>bif decide (v32<0)then d ((aa.wrap (c.1+1)),(!(c.2.1)),c.2.2)else d ((aa.wrap (c.1+1)),c.2.1,c.2.2)else d ((aa.wrap (c.1+1)),c.2.1,c.2.2)else d ((aa.wrap (c.1+1)),c.2.1,c.2.2)else bif decide (v23.2<=x.2.2.2)then bif decide (x.2.2.2<v21.2)then b8 (B1 ((v21.1,v21.2),(v23.1,v23.2),(x.2.2.1,x.2.2.2))) fun v30=>
 bif decide (v30<0)then d ((aa.wrap (c.1+1)),(!(c.2.1)),c.2.2)else d ((aa.wrap (c.1+1)),c.2.1,c.2.2)else d ((aa.wrap (c.1+1)),c.2.1,c.2.2)else d ((aa.wrap (c.1+1)),c.2.1,c.2.2)else bif decide (v23.2<=x.2.2.2)then bif decide (x.2.2.2<v21.2)then b8 (B1 ((v21.1,v21.2),(v23.1,v23.2),(x.2.2.1,x.2.2.2))) fun v29=>bif decide (v29<0)then d ((aa.wrap (c.1+1)),(!(c.2.1)),c.2.2)else d ((aa.wrap (c.1+1)),c.2.1,c.2.2)else d ((aa.wrap (c.1+1)),c.2.1,c.2.2)else d ((aa.wrap (c.1+1)),c.2.1,c.2.2)else g ((aa.wrap (e.1+1)),c.2.2,c.2.1)) (1,e.2.2,e.2.1)else bif e.2.2 then some (!(e.2.1))else some false) (0,false,false)
noncomputable def Y3:(List (Int×Int×Int)×List (Int×Int×Int×List (Int×Int)×Int×Int)×List (Int))×Int->Option (Int):=fun x=>rounds (α:=Int×Int) (β:=Int) (fun c a=>bif decide (a.1<((x.1.2.1).length:Int))then b8 (nth x.1.2.1 a.1) fun v9=>bif decide (v9.2.1=x.2)then b8 (some (aa.wrap (a.2+1))) fun b=>bif decide (v9.2.2.1=x.2)then c ((aa.wrap (a.1+1)),(aa.wrap (b+1)))else c ((aa.wrap (a.1+1)),b)else bif decide (v9.2.2.1=x.2)then c ((aa.wrap (a.1+1)),(aa.wrap (a.2+1)))else c ((aa.wrap (a.1+1)),a.2)else some a.2) (0,0)
noncomputable def D5:(List (Int×Int×Int)×List (Int×Int×Int×List (Int×Int)×Int×Int)×List (Int))×List (List (Int))×List (Int×List (Int×Int))->Option (List (Int×List (Int)×List (List (Int))×List (Int))):=fun x=>rounds (α:=List (List (Int))×Int×Bool×List (Int×List (Int)×Unit×Unit)) (β:=List (Int×List (Int)×List (List (Int))×List (Int))) (fun r h=>bif decide (h.2.1<((x.2.1).length:Int))then b8 (nth x.2.1 h.2.1) fun v12=>b8 (N8 ((x.1.1,x.1.2.1,x.1.2.2),v12)) fun m=>bif decide (0<m)then b8 (G5 80 h.2.2.2 [(m,v12,(),())]) fun l=>r (h.1,(aa.wrap (h.2.1+1)),false,l)else b8 (G5 24 h.1 [v12]) fun l=>r (l,(aa.wrap (h.2.1+1)),false,h.2.2.2)else b8 (ownO (fun x=>(x.1,x.2.1,([]:List (List (Int))),([]:List (Int)))) h.2.2.2) fun v12=>rounds (α:=Int×List (Int×List (Int)×List (List (Int))×List (Int))) (β:=List (Int×List (Int)×List (List (Int))×List (Int))) (fun o e=>bif decide (e.1<((h.1).length:Int))then b8 ((bif decide (0<=e.1)&&decide (e.1<(h.1).length)then some ()else none)) fun k=>b8 (((h.1)[(e.1).toNat]?).map (fun x=>x)) fun k=>b8 (nth k 0) fun p=>b8 (nth k 0) fun v20=>b8 (orO (lkp (fun (a b:Int)=>decide (a=b)) (a_ mxI p [(aa.wrap (0-v20))]) x.2.2) none) fun v23=>b8 (nth v23 0) fun v24=>rounds (α:=Int×Int) (β:=List (Int×List (Int)×List (List (Int))×List (Int))) (fun i c=>
 bif decide (c.1<((e.2).length:Int))then bif decide (c.2=0)then b8 ((bif decide (0<=c.1)&&decide (c.1<(e.2).length)then some ()else none)) fun v32=>b8 (some ()) fun v32=>b8 (((e.2)[(c.1).toNat]?).map (fun x=>x.2.1)) fun v32=>b8 (y5 (x.2.2,v32,(v24.1,v24.2))) fun v33=>bif v33 then i ((aa.wrap (c.1+1)),c.1)else i ((aa.wrap (c.1+1)),c.2)else b8 ((bif decide (0<=c.1)&&decide (c.1<(e.2).length)then some ()else none)) fun v32=>b8 (some ()) fun v32=>b8 (((e.2)[(c.1).toNat]?).map (fun x=>x.1)) fun v32=>b8 ((bif decide (0<=c.2)&&decide (c.2<(e.2).length)then some ()else none)) fun v33=>b8 (some ()) fun v33=>b8 (((e.2)[(c.2).toNat]?).map (fun x=>x.1)) fun v33=>bif decide (v32<v33)then b8 ((bif decide (0<=c.1)&&decide (c.1<(e.2).length)then some ()else none)) fun v35=>b8 (some ()) fun v35=>b8 (((e.2)[(c.1).toNat]?).map (fun x=>x.2.1)) fun v35=>b8 (y5 (x.2.2,v35,(v24.1,v24.2))) fun v36=>bif v36 then i ((aa.wrap (c.1+1)),c.1)else i ((aa.wrap (c.1+1)),c.2)else i ((aa.wrap (c.1+1)),c.2)else b8 (((e.2)[(c.2).toNat]?).map (fun x=>x.2.2.1)) fun v31=>b8 ((bif decide (0<=c.2)&&decide (c.2<(e.2).length)then some ()else none)) fun v32=>b8 (some ()) fun v32=>b8 (inO e.2 c.2) fun v32=>b8 (G5 24 v31 [k]) fun v32=>b8 ((bif decide (0<=c.2)&&decide (c.2<(e.2).length)then some ()else none)) fun v33=>b8 (some ()) fun v33=>b8 (inO e.2 c.2) fun v33=>
 b8 (some ()) fun v33=>b8 (kP0 e.2 (c.2).toNat (fun x y=>(x.1,x.2.1,y,x.2.2.2)) v32) fun v33=>o ((aa.wrap (e.1+1)),v33)) (1,0)else rounds (α:=Int×List (Int×List (Int)×List (List (Int))×List (Int))) (β:=List (Int×List (Int)×List (List (Int))×List (Int))) (fun n f=>bif decide (f.1<((x.1.1).length:Int))then b8 (nth x.1.1 f.1) fun v23=>b8 (Y3 ((x.1.1,x.1.2.1,x.1.2.2),v23.1)) fun v26=>bif decide (v26=0)then rounds (α:=Int×Int) (β:=List (Int×List (Int)×List (List (Int))×List (Int))) (fun j d=>bif decide (d.1<((f.2).length:Int))then bif decide (d.2=0)then b8 ((bif decide (0<=d.1)&&decide (d.1<(f.2).length)then some ()else none)) fun g=>b8 (some ()) fun g=>b8 (((f.2)[(d.1).toNat]?).map (fun x=>x.2.1)) fun g=>b8 (y5 (x.2.2,g,(v23.2.1,v23.2.2))) fun v35=>bif v35 then j ((aa.wrap (d.1+1)),d.1)else j ((aa.wrap (d.1+1)),d.2)else b8 ((bif decide (0<=d.1)&&decide (d.1<(f.2).length)then some ()else none)) fun g=>b8 (some ()) fun g=>b8 (((f.2)[(d.1).toNat]?).map (fun x=>x.1)) fun g=>b8 ((bif decide (0<=d.2)&&decide (d.2<(f.2).length)then some ()else none)) fun v35=>b8 (some ()) fun v35=>b8 (((f.2)[(d.2).toNat]?).map (fun x=>x.1)) fun v35=>bif decide (g<v35)then b8 ((bif decide (0<=d.1)&&decide (d.1<(f.2).length)then some ()else none)) fun v37=>b8 (some ()) fun v37=>b8 (((f.2)[(d.1).toNat]?).map (fun x=>x.2.1)) fun v37=>b8 (y5 (x.2.2,v37,(v23.2.1,v23.2.2))) fun q=>
 bif q then j ((aa.wrap (d.1+1)),d.1)else j ((aa.wrap (d.1+1)),d.2)else j ((aa.wrap (d.1+1)),d.2)else b8 (((f.2)[(d.2).toNat]?).map (fun x=>x.2.2.2)) fun v33=>b8 ((bif decide (0<=d.2)&&decide (d.2<(f.2).length)then some ()else none)) fun g=>b8 (some ()) fun g=>b8 (inO f.2 d.2) fun g=>b8 (G5 8 v33 [v23.1]) fun g=>b8 ((bif decide (0<=d.2)&&decide (d.2<(f.2).length)then some ()else none)) fun v35=>b8 (some ()) fun v35=>b8 (inO f.2 d.2) fun v35=>b8 (some ()) fun v35=>b8 (kP0 f.2 (d.2).toNat (fun x y=>(x.1,x.2.1,x.2.2.1,y)) g) fun v35=>n ((aa.wrap (f.1+1)),v35)) (1,0)else n ((aa.wrap (f.1+1)),f.2)else some f.2) (0,e.2)) (0,v12)) (([]:List (List (Int))),0,false,[(0,([]:List (Int)),(),())])
noncomputable def R8:(List (Int×Int×Int)×List (Int×Int×Int×List (Int×Int)×Int×Int)×List (Int))×Int->Option (Int):=fun x=>b8 (Y0 ((x.1.1,x.1.2.1,x.1.2.2),x.2)) fun v4=>bif !(v4.2)then some 0 else bif decide (0<x.2)then some v4.1.2.2.2.2.1 else some v4.1.2.2.2.2.2
noncomputable def B2:(Int×List (Int)×List (List (Int))×List (Int))->Option (List (List (Int))):=fun x=>b8 (G5 24 [x.2.1] x.2.2.1) fun v4=>some v4
noncomputable def P6:(List (Int×Int×Int)×List (Int×Int×Int×List (Int×Int)×Int×Int)×List (Int))×List (Int×List (Int)×List (List (Int))×List (Int))->Option ((List (Int)×Bool)):=fun x=>rounds (α:=List (Int)×Int×List (Int×Bool)) (β:=(List (Int)×Bool)) (fun m d=>bif decide (d.2.1<((x.2).length:Int))then b8 (nth x.2 d.2.1) fun v10=>bif decide (0<d.2.1)then b8 (nth v10.2.1 0) fun f=>b8 (R8 ((x.1.1,x.1.2.1,x.1.2.2),f)) fun e=>bif decide (e=0)then some (([]:List (Int)),false)else b8 (orO (lkp (fun (a b:Int)=>decide (a=b)) e d.2.2) (some false)) fun j=>bif j then some (([]:List (Int)),false)else b8 (B2 (v10.1,v10.2.1,v10.2.2.1,v10.2.2.2)) fun v20=>rounds (α:=Int) (β:=(List (Int)×Bool)) (fun g c=>bif decide (c<((v20).length:Int))then b8 (nth v20 c) fun v25=>rounds (α:=Int) (β:=(List (Int)×Bool)) (fun k h=>bif decide (h<((v25).length:Int))then b8 (nth v25 h) fun v30=>b8 (R8 ((x.1.1,x.1.2.1,x.1.2.2),v30)) fun v31=>bif !decide (v31=e)then some (([]:List (Int)),false)else k (aa.wrap (h+1))else g (aa.wrap (c+1))) 0 else b8 (G5 8 d.1 [e]) fun v25=>m (v25,(aa.wrap (d.2.1+1)),(I9 (fun (a b:Int)=>decide (a=b)) e true d.2.2))) 0 else b8 (B2 (v10.1,v10.2.1,v10.2.2.1,v10.2.2.2)) fun f=>rounds (α:=Int) (β:=(List (Int)×Bool)) (fun l i=>bif decide (i<((f).length:Int))then b8 (nth f i) fun v20=>rounds (α:=Int) (β:=(List (Int)×Bool)) (fun g c=>
 bif decide (c<((v20).length:Int))then b8 (nth v20 c) fun v25=>b8 (R8 ((x.1.1,x.1.2.1,x.1.2.2),v25)) fun v26=>bif !decide (v26=0)then some (([]:List (Int)),false)else g (aa.wrap (c+1))else l (aa.wrap (i+1))) 0 else b8 (G5 8 d.1 [0]) fun v20=>m (v20,(aa.wrap (d.2.1+1)),d.2.2)) 0 else some (d.1,(decide (((d.2.2).length:Int)=((x.1.2.2).length:Int))))) (([]:List (Int)),0,([]:List (Int×Bool)))
noncomputable def Z8:(List (Int×Int×Int)×List (Int×Int×Int×List (Int×Int)×Int×Int)×List (Int))->Option (Int):=fun x=>b8 (M4 (x.1,x.2.1,x.2.2)) fun v3=>bif !decide (v3.2=0)then some v3.2 else b8 (K0 (x.1,x.2.1,x.2.2)) fun v6=>b8 (D5 ((x.1,x.2.1,x.2.2),v3.1,v6)) fun a=>b8 (P6 ((x.1,x.2.1,x.2.2),a)) fun b=>bif !(b.2)then some 12 else some 0
noncomputable def aJ0:(Int×Int×Int×ByteArray×List (Int))->Option (Bool):=fun x=>some (decide ((64:Int)<((x.2.2.2.2).length:Int)))
noncomputable def p9:List (Int×Int×Int×ByteArray×List (Int))×(Unit)->Option (Bool):=fun x=>rounds (α:=Int) (β:=Bool) (fun b a=>bif decide (a<((x.1).length:Int))then b8 (nth x.1 a) fun v5=>b8 (aJ0 (v5.1,v5.2.1,v5.2.2.1,v5.2.2.2.1,v5.2.2.2.2)) fun v10=>bif v10 then some (decide (0<=a))else b (aa.wrap (a+1))else some false) 0
noncomputable def V1:(Int×Int×Int×ByteArray×List (Int))->Option (Bool):=fun x=>bif decide (x.1<1)then some true else bif decide (1073741824<x.1)then some true else bif decide (x.2.2.1<1)then some true else some (decide (9<x.2.2.1))
noncomputable def j7:List (Int×Int×Int×ByteArray×List (Int))×(Unit)->Option (Bool):=fun x=>rounds (α:=Int) (β:=Bool) (fun b a=>bif decide (a<((x.1).length:Int))then b8 (nth x.1 a) fun v5=>b8 (V1 (v5.1,v5.2.1,v5.2.2.1,v5.2.2.2.1,v5.2.2.2.2)) fun v10=>bif v10 then some (decide (0<=a))else b (aa.wrap (a+1))else some false) 0
noncomputable def w6:Int->Option (Int):=fun x=>bif decide (x=1)then some 1 else bif decide (x=2)then some 1 else bif decide (x=8)then some 1 else bif decide (x=3)then some 2 else bif decide (x=4)then some 2 else bif decide (x=5)then some 3 else bif decide (x=6)then some 3 else bif decide (x=7)then some 3 else some 0
noncomputable def W4:(Int×Int×Int×ByteArray×List (Int))->Option (Bool):=fun x=>b8 (w6 x.2.1) fun v5=>some (decide (v5=0))
noncomputable def l5:List (Int×Int×Int×ByteArray×List (Int))×(Unit)->Option (Bool):=fun x=>rounds (α:=Int) (β:=Bool) (fun b a=>bif decide (a<((x.1).length:Int))then b8 (nth x.1 a) fun v5=>b8 (W4 (v5.1,v5.2.1,v5.2.2.1,v5.2.2.2.1,v5.2.2.2.2)) fun v10=>bif v10 then some (decide (0<=a))else b (aa.wrap (a+1))else some false) 0
noncomputable def U1:Int->Option (Int):=fun x=>bif decide (x<0)then some (-1)else bif decide (1114111<x)then some (-1)else b8 gl_0 fun _=>rounds (α:=Int) (β:=Int) (fun b a=>bif decide (a<13)then b8 (nth [(32,32,0),(39,41,0),(45,46,0),(48,57,0),(65,90,1),(97,122,1),(192,214,1),(216,246,1),(248,591,1),(880,1023,2),(1024,1279,3),(1488,1514,4),(19968,40959,5)] a) fun v46=>bif decide (v46.1<=(iG.wrap x))then bif decide ((iG.wrap x)<=v46.2.1)then some v46.2.2 else b (aa.wrap (a+1))else b (aa.wrap (a+1))else some (-1)) 0
noncomputable def Z7:ByteArray->Option ((List (Int)×Int)):=fun x=>rounds (α:=List (Int)×Int) (β:=(List (Int)×Int)) (fun b a=>bif decide ((a.2).toNat<(x).size)then b8 (pY0 x a.2) fun v5=>b8 (U1 (aa.wrap v5.2.1)) fun v9=>bif decide (v9<0)then some (([]:List (Int)),4)else b8 (G5 8 a.1 [(aa.wrap v5.2.1)]) fun v12=>b (v12,v5.2.2)else some (a.1,0)) (([]:List (Int)),0)
noncomputable def cL0:ByteArray->Option ((List (Int)×Int)):=fun x=>bif ((x).toList==((cG #[])).toList)then some (([]:List (Int)),14)else bif decide ((40:Int)<((x).size:Int))then some (([]:List (Int)),3)else b8 (Z7 x) fun v4=>bif !decide (v4.2=0)then some (([]:List (Int)),v4.2)else b8 (oH0 x 0) fun f=>bif decide (f=32)then some (([]:List (Int)),14)else b8 (oH0 x (aa.wrap (((x).size:Int)-1))) fun v11=>bif decide (v11=32)then some (([]:List (Int)),14)else b8 (strings_Contains (x,(cG #[32,32]))) fun b=>bif b then some (([]:List (Int)),14)else rounds (α:=Int) (β:=(List (Int)×Int)) (fun c a=>bif decide (a<((v4.1).length:Int))then b8 (nth v4.1 a) fun d=>b8 (U1 d) fun e=>bif !decide (e=0)then some (v4.1,0)else c (aa.wrap (a+1))else some (([]:List (Int)),14)) 0
noncomputable def X9:ByteArray->Option (Int):=fun x=>b8 (cL0 x) fun v1=>some v1.2
noncomputable def U9:(Int×Int×Int×ByteArray×List (Int))->Option (Bool):=fun x=>bif !((x.2.2.2.1).toList==((cG #[])).toList)then b8 (X9 x.2.2.2.1) fun v6=>some (!decide (v6=0))else some false
noncomputable def j6:List (Int×Int×Int×ByteArray×List (Int))×(Unit)->Option (Bool):=fun x=>rounds (α:=Int) (β:=Bool) (fun b a=>bif decide (a<((x.1).length:Int))then b8 (nth x.1 a) fun v5=>b8 (U9 (v5.1,v5.2.1,v5.2.2.1,v5.2.2.2.1,v5.2.2.2.2)) fun v10=>bif v10 then some (decide (0<=a))else b (aa.wrap (a+1))else some false) 0
noncomputable def W6:(Int×Int×Int×ByteArray×List (Int))->Option (Bool):=fun x=>bif decide (((x.2.2.2.2).length:Int)=0)then some true else b8 (w6 x.2.1) fun a=>bif decide (a=1)then some (decide ((1:Int)<((x.2.2.2.2).length:Int)))else some false
noncomputable def j8:List (Int×Int×Int×ByteArray×List (Int))×(Unit)->Option (Bool):=fun x=>rounds (α:=Int) (β:=Bool) (fun b a=>bif decide (a<((x.1).length:Int))then b8 (nth x.1 a) fun v5=>b8 (W6 (v5.1,v5.2.1,v5.2.2.1,v5.2.2.2.1,v5.2.2.2.2)) fun v10=>bif v10 then some (decide (0<=a))else b (aa.wrap (a+1))else some false) 0
noncomputable def eV0:List (Int)×Int->Option (Bool):=fun x=>b8 (l8 (x.1,x.2)) fun v2=>some v2
noncomputable def K8:Int×(Int×Int×Int×ByteArray×List (Int))×(List (Int×Int×Int)×List (Int×Int×Int×List (Int×Int)×Int×Int)×List (Int))->Option (Bool):=fun x=>b8 (w6 x.2.1.2.1) fun v9=>bif decide (v9=1)then b8 (S5 ((x.2.2.1,x.2.2.2.1,x.2.2.2.2),x.1)) fun v11=>some (!(v11.2))else bif decide (v9=2)then b8 (bd0 ((x.2.2.1,x.2.2.2.1,x.2.2.2.2),x.1)) fun v12=>some (!(v12.2))else bif decide (v9=3)then b8 (eV0 (x.2.2.2.2,x.1)) fun a=>some (!(a))else some true
noncomputable def y6:List (Int)×((Int×Int×Int×ByteArray×List (Int))×(List (Int×Int×Int)×List (Int×Int×Int×List (Int×Int)×Int×Int)×List (Int)))->Option (Bool):=fun x=>rounds (α:=Int) (β:=Bool) (fun b a=>bif decide (a<((x.1).length:Int))then b8 (nth x.1 a) fun c=>b8 (K8 (c,(x.2.1.1,x.2.1.2.1,x.2.1.2.2.1,x.2.1.2.2.2.1,x.2.1.2.2.2.2),(x.2.2.1,x.2.2.2.1,x.2.2.2.2))) fun d=>bif d then some (decide (0<=a))else b (aa.wrap (a+1))else some false) 0
noncomputable def O8:(List (Int×Int×Int)×List (Int×Int×Int×List (Int×Int)×Int×Int)×List (Int))×(Int×Int×Int×ByteArray×List (Int))->Option (Bool):=fun x=>b8 (some ()) fun a=>b8 (y6 (x.2.2.2.2.2,((x.2.1,x.2.2.1,x.2.2.2.1,x.2.2.2.2.1,x.2.2.2.2.2),(x.1.1,x.1.2.1,x.1.2.2)))) fun a=>some a
noncomputable def W0:(Int×Int×Int×ByteArray×List (Int))×(List (Int×Int×Int)×List (Int×Int×Int×List (Int×Int)×Int×Int)×List (Int)×List (Int×Int×Int×ByteArray×List (Int)))->Option (Bool):=fun x=>b8 (O8 ((x.2.1,x.2.2.1,x.2.2.2.1),(x.1.1,x.1.2.1,x.1.2.2.1,x.1.2.2.2.1,x.1.2.2.2.2))) fun v9=>some v9
noncomputable def j9:List (Int×Int×Int×ByteArray×List (Int))×((List (Int×Int×Int)×List (Int×Int×Int×List (Int×Int)×Int×Int)×List (Int)×List (Int×Int×Int×ByteArray×List (Int))))->Option (Bool):=fun x=>rounds (α:=Int) (β:=Bool) (fun c a=>bif decide (a<((x.1).length:Int))then b8 (nth x.1 a) fun v9=>b8 (W0 ((v9.1,v9.2.1,v9.2.2.1,v9.2.2.2.1,v9.2.2.2.2),(x.2.1,x.2.2.1,x.2.2.2.1,x.2.2.2.2))) fun b=>bif b then some (decide (0<=a))else c (aa.wrap (a+1))else some false) 0
noncomputable def Y5:List (Int)->Option (Bool):=fun x=>rounds (α:=Int) (β:=Bool) (fun b a=>bif decide (a<((x).length:Int))then b8 (nth x (aa.wrap (a-1))) fun v6=>b8 (nth x a) fun c=>bif decide (c<=v6)then some false else b (aa.wrap (a+1))else some true) 1
noncomputable def J3:(List (Int×Int×Int)×List (Int×Int×Int×List (Int×Int)×Int×Int)×List (Int)×List (Int×Int×Int×ByteArray×List (Int)))->Option (Int):=fun x=>b8 (Z8 (x.1,x.2.1,x.2.2.1)) fun v4=>bif !decide (v4=0)then some v4 else bif decide ((128:Int)<((x.2.2.2).length:Int))then some 3 else b8 (p9 (x.2.2.2,())) fun I=>bif I then some 3 else rounds (α:=Int×Int) (β:=Int) (fun D l=>bif decide (l.1<((x.2.2.2).length:Int))then b8 (nth x.2.2.2 l.1) fun m=>b8 (some (aa.wrap (l.2+1))) fun p=>bif decide (1<p)then b8 (nth x.2.2.2 (aa.wrap (p-2))) fun v22=>bif decide (m.1<=v22.1)then bif decide (0<=l.1)then some 10 else b8 (j7 (x.2.2.2,())) fun v29=>bif v29 then some 2 else b8 (l5 (x.2.2.2,())) fun v30=>bif v30 then some 9 else b8 (j6 (x.2.2.2,())) fun v31=>bif v31 then some 14 else b8 (j8 (x.2.2.2,())) fun v32=>bif v32 then some 1 else b8 (some ()) fun v33=>b8 (j9 (x.2.2.2,(x.1,x.2.1,x.2.2.1,x.2.2.2))) fun v33=>bif v33 then some 7 else rounds (α:=Int×List ((Int×Int)×Bool)) (β:=Int) (fun q g=>bif decide (g.1<((x.2.2.2).length:Int))then b8 (nth x.2.2.2 g.1) fun v39=>b8 (w6 v39.2.1) fun v44=>bif decide (v44=2)then q ((aa.wrap (g.1+1)),g.2)else bif decide (v44=3)then rounds (α:=Int×List ((Int×Int)×Bool)) (β:=Int) (fun r c=>bif decide (c.1<((v39.2.2.2.2).length:Int))then b8 (nth v39.2.2.2.2 c.1) fun n=>b8 (orO (lkp (fun (a b:Int×Int)=>(decide (a.1=b.1)&&decide (a.2=b.2))) (v39.2.1,n) c.2) (some false)) fun v53=>
 bif v53 then bif decide (0<=g.1)then some 13 else some 0 else r ((aa.wrap (c.1+1)),(I9 (fun (a b:Int×Int)=>(decide (a.1=b.1)&&decide (a.2=b.2))) (v39.2.1,n) true c.2))else q ((aa.wrap (g.1+1)),c.2)) (0,g.2)else rounds (α:=Int×List ((Int×Int)×Bool)) (β:=Int) (fun r c=>bif decide (c.1<((v39.2.2.2.2).length:Int))then b8 (nth v39.2.2.2.2 c.1) fun n=>b8 (orO (lkp (fun (a b:Int×Int)=>(decide (a.1=b.1)&&decide (a.2=b.2))) (0,n) c.2) (some false)) fun v53=>bif v53 then bif decide (0<=g.1)then some 13 else some 0 else r ((aa.wrap (c.1+1)),(I9 (fun (a b:Int×Int)=>(decide (a.1=b.1)&&decide (a.2=b.2))) (0,n) true c.2))else q ((aa.wrap (g.1+1)),c.2)) (0,g.2)else some 0) (0,([]:List ((Int×Int)×Bool)))else b8 (Y5 m.2.2.2.2) fun v28=>bif !(v28)then bif decide (0<=l.1)then some 10 else b8 (j7 (x.2.2.2,())) fun v31=>bif v31 then some 2 else b8 (l5 (x.2.2.2,())) fun v32=>bif v32 then some 9 else b8 (j6 (x.2.2.2,())) fun v33=>bif v33 then some 14 else b8 (j8 (x.2.2.2,())) fun k=>bif k then some 1 else b8 (some ()) fun v35=>b8 (j9 (x.2.2.2,(x.1,x.2.1,x.2.2.1,x.2.2.2))) fun v35=>bif v35 then some 7 else rounds (α:=Int×List ((Int×Int)×Bool)) (β:=Int) (fun s h=>bif decide (h.1<((x.2.2.2).length:Int))then b8 (nth x.2.2.2 h.1) fun v41=>b8 (w6 v41.2.1) fun v46=>
 bif decide (v46=2)then s ((aa.wrap (h.1+1)),h.2)else bif decide (v46=3)then rounds (α:=Int×List ((Int×Int)×Bool)) (β:=Int) (fun t d=>bif decide (d.1<((v41.2.2.2.2).length:Int))then b8 (nth v41.2.2.2.2 d.1) fun v54=>b8 (orO (lkp (fun (a b:Int×Int)=>(decide (a.1=b.1)&&decide (a.2=b.2))) (v41.2.1,v54) d.2) (some false)) fun v55=>bif v55 then bif decide (0<=h.1)then some 13 else some 0 else t ((aa.wrap (d.1+1)),(I9 (fun (a b:Int×Int)=>(decide (a.1=b.1)&&decide (a.2=b.2))) (v41.2.1,v54) true d.2))else s ((aa.wrap (h.1+1)),d.2)) (0,h.2)else rounds (α:=Int×List ((Int×Int)×Bool)) (β:=Int) (fun t d=>bif decide (d.1<((v41.2.2.2.2).length:Int))then b8 (nth v41.2.2.2.2 d.1) fun v54=>b8 (orO (lkp (fun (a b:Int×Int)=>(decide (a.1=b.1)&&decide (a.2=b.2))) (0,v54) d.2) (some false)) fun v55=>bif v55 then bif decide (0<=h.1)then some 13 else some 0 else t ((aa.wrap (d.1+1)),(I9 (fun (a b:Int×Int)=>(decide (a.1=b.1)&&decide (a.2=b.2))) (0,v54) true d.2))else s ((aa.wrap (h.1+1)),d.2)) (0,h.2)else some 0) (0,([]:List ((Int×Int)×Bool)))else D ((aa.wrap (l.1+1)),p)else b8 (Y5 m.2.2.2.2) fun v21=>bif !(v21)then bif decide (0<=l.1)then some 10 else b8 (j7 (x.2.2.2,())) fun v24=>bif v24 then some 2 else b8 (l5 (x.2.2.2,())) fun v25=>bif v25 then some 9 else b8 (j6 (x.2.2.2,())) fun v26=>bif v26 then some 14 else b8 (j8 (x.2.2.2,())) fun v27=>
 bif v27 then some 1 else b8 (some ()) fun v28=>b8 (j9 (x.2.2.2,(x.1,x.2.1,x.2.2.1,x.2.2.2))) fun v28=>bif v28 then some 7 else rounds (α:=Int×List ((Int×Int)×Bool)) (β:=Int) (fun u i=>bif decide (i.1<((x.2.2.2).length:Int))then b8 (nth x.2.2.2 i.1) fun k=>b8 (w6 k.2.1) fun v39=>bif decide (v39=2)then u ((aa.wrap (i.1+1)),i.2)else bif decide (v39=3)then rounds (α:=Int×List ((Int×Int)×Bool)) (β:=Int) (fun v e=>bif decide (e.1<((k.2.2.2.2).length:Int))then b8 (nth k.2.2.2.2 e.1) fun o=>b8 (orO (lkp (fun (a b:Int×Int)=>(decide (a.1=b.1)&&decide (a.2=b.2))) (k.2.1,o) e.2) (some false)) fun w=>bif w then bif decide (0<=i.1)then some 13 else some 0 else v ((aa.wrap (e.1+1)),(I9 (fun (a b:Int×Int)=>(decide (a.1=b.1)&&decide (a.2=b.2))) (k.2.1,o) true e.2))else u ((aa.wrap (i.1+1)),e.2)) (0,i.2)else rounds (α:=Int×List ((Int×Int)×Bool)) (β:=Int) (fun v e=>bif decide (e.1<((k.2.2.2.2).length:Int))then b8 (nth k.2.2.2.2 e.1) fun o=>b8 (orO (lkp (fun (a b:Int×Int)=>(decide (a.1=b.1)&&decide (a.2=b.2))) (0,o) e.2) (some false)) fun w=>bif w then bif decide (0<=i.1)then some 13 else some 0 else v ((aa.wrap (e.1+1)),(I9 (fun (a b:Int×Int)=>
 (decide (a.1=b.1)&&decide (a.2=b.2))) (0,o) true e.2))else u ((aa.wrap (i.1+1)),e.2)) (0,i.2)else some 0) (0,([]:List ((Int×Int)×Bool)))else D ((aa.wrap (l.1+1)),p)else b8 (j7 (x.2.2.2,())) fun m=>bif m then some 2 else b8 (l5 (x.2.2.2,())) fun G=>bif G then some 9 else b8 (j6 (x.2.2.2,())) fun H=>bif H then some 14 else b8 (j8 (x.2.2.2,())) fun v17=>bif v17 then some 1 else b8 (some ()) fun E=>b8 (j9 (x.2.2.2,(x.1,x.2.1,x.2.2.1,x.2.2.2))) fun E=>bif E then some 7 else rounds (α:=Int×List ((Int×Int)×Bool)) (β:=Int) (fun z j=>bif decide (j.1<((x.2.2.2).length:Int))then b8 (nth x.2.2.2 j.1) fun v24=>b8 (w6 v24.2.1) fun v29=>bif decide (v29=2)then z ((aa.wrap (j.1+1)),j.2)else bif decide (v29=3)then rounds (α:=Int×List ((Int×Int)×Bool)) (β:=Int) (fun B f=>bif decide (f.1<((v24.2.2.2.2).length:Int))then b8 (nth v24.2.2.2.2 f.1) fun v37=>b8 (orO (lkp (fun (a b:Int×Int)=>(decide (a.1=b.1)&&decide (a.2=b.2))) (v24.2.1,v37) f.2) (some false)) fun C=>bif C then bif decide (0<=j.1)then some 13 else some 0 else B ((aa.wrap (f.1+1)),(I9 (fun (a b:Int×Int)=>(decide (a.1=b.1)&&decide (a.2=b.2))) (v24.2.1,v37) true f.2))else z ((aa.wrap (j.1+1)),f.2)) (0,j.2)else rounds (α:=Int×List ((Int×Int)×Bool)) (β:=Int) (fun B f=>bif decide (f.1<((v24.2.2.2.2).length:Int))then b8 (nth v24.2.2.2.2 f.1) fun v37=>b8 (orO (lkp (fun (a b:Int×Int)=>
 (decide (a.1=b.1)&&decide (a.2=b.2))) (0,v37) f.2) (some false)) fun C=>bif C then bif decide (0<=j.1)then some 13 else some 0 else B ((aa.wrap (f.1+1)),(I9 (fun (a b:Int×Int)=>(decide (a.1=b.1)&&decide (a.2=b.2))) (0,v37) true f.2))else z ((aa.wrap (j.1+1)),f.2)) (0,j.2)else some 0) (0,([]:List ((Int×Int)×Bool)))) (0,0)
noncomputable def P3:(List (Int×Int×Int)×List (Int×Int×Int×List (Int×Int)×Int×Int)×List (Int)×List (Int×Int×Int×ByteArray×List (Int)))×Int->Option (((Int×Int×Int×ByteArray×List (Int))×Bool)):=fun x=>rounds (α:=Int) (β:=((Int×Int×Int×ByteArray×List (Int))×Bool)) (fun c a=>bif decide (a<((x.1.2.2.2).length:Int))then b8 (nth x.1.2.2.2 a) fun v9=>bif decide (v9.1=x.2)then b8 (slices_Clone_int v9.2.2.2.2) fun b=>some ((v9.1,v9.2.1,v9.2.2.1,v9.2.2.2.1,b),true)else c (aa.wrap (a+1))else some ((0,0,0,(cG #[]),([]:List (Int))),false)) 0
noncomputable def bits_Len64:Int->Option (Int):=fun x=>bif decide (4294967296<=x)then b8 ((bif decide ((32:Int)<0)then none else some (x.fdiv (2^(min (32:Int).toNat bU.bits))))) fun v2=>bif decide (65536<=v2)then b8 ((bif decide ((16:Int)<0)then none else some (v2.fdiv (2^(min (16:Int).toNat bU.bits))))) fun v4=>bif decide (256<=v4)then b8 ((bif decide ((8:Int)<0)then none else some (v4.fdiv (2^(min (8:Int).toNat bU.bits))))) fun v6=>b8 (oH0 uD0 (dz.wrap v6)) fun b=>some (aa.wrap (56+(aa.wrap b)))else b8 (oH0 uD0 (dz.wrap v4)) fun a=>some (aa.wrap (48+(aa.wrap a)))else bif decide (256<=v2)then b8 ((bif decide ((8:Int)<0)then none else some (v2.fdiv (2^(min (8:Int).toNat bU.bits))))) fun v5=>b8 (oH0 uD0 (dz.wrap v5)) fun a=>some (aa.wrap (40+(aa.wrap a)))else b8 (oH0 uD0 (dz.wrap v2)) fun v6=>some (aa.wrap (32+(aa.wrap v6)))else bif decide (65536<=x)then b8 ((bif decide ((16:Int)<0)then none else some (x.fdiv (2^(min (16:Int).toNat bU.bits))))) fun v3=>bif decide (256<=v3)then b8 ((bif decide ((8:Int)<0)then none else some (v3.fdiv (2^(min (8:Int).toNat bU.bits))))) fun v5=>b8 (oH0 uD0 (dz.wrap v5)) fun a=>some (aa.wrap (24+(aa.wrap a)))else b8 (oH0 uD0 (dz.wrap v3)) fun v6=>
 some (aa.wrap (16+(aa.wrap v6)))else bif decide (256<=x)then b8 ((bif decide ((8:Int)<0)then none else some (x.fdiv (2^(min (8:Int).toNat bU.bits))))) fun v4=>b8 (oH0 uD0 (dz.wrap v4)) fun v6=>some (aa.wrap (8+(aa.wrap v6)))else b8 (oH0 uD0 (dz.wrap x)) fun v5=>some (aa.wrap (0+(aa.wrap v5)))
noncomputable def bits_Len:Int->Option (Int):=fun x=>b8 (bits_Len64 x) fun v1=>some v1
noncomputable def M9:(Int×List (Int)×List (List (Int))×List (Int))×(Int×List (Int)×List (List (Int))×List (Int))->Option (Int):=fun x=>b8 (p8 (x.1.1,x.2.1)) fun a=>some a
noncomputable def slices_SortFunc_api_Region_region_Regions_1:List (Int×List (Int)×List (List (Int))×List (Int))×Int×(Unit)->Option (List (Int×List (Int)×List (List (Int))×List (Int))):=fun x=>bif decide (x.2.1=4)then aw0 (fun a b=>M9 (a,b)) x.1 else none
noncomputable def H5:(List (Int×Int×Int)×List (Int×Int×Int×List (Int×Int)×Int×Int)×List (Int))->Option ((List (Int×List (Int)×List (List (Int))×List (Int))×Int)):=fun x=>b8 (M4 (x.1,x.2.1,x.2.2)) fun v3=>bif !decide (v3.2=0)then bif !decide (v3.2=0)then some (([]:List (Int×List (Int)×List (List (Int))×List (Int))),v3.2)else b8 (bits_Len 0) fun c=>rounds (α:=Unit) (β:=(List (Int×List (Int)×List (List (Int))×List (Int))×Int)) (fun f g=>some (([]:List (Int×List (Int)×List (List (Int))×List (Int))),0)) ()else b8 (K0 (x.1,x.2.1,x.2.2)) fun v6=>b8 (D5 ((x.1,x.2.1,x.2.2),v3.1,v6)) fun c=>b8 (P6 ((x.1,x.2.1,x.2.2),c)) fun e=>bif !(e.2)then some (([]:List (Int×List (Int)×List (List (Int))×List (Int))),12)else rounds (α:=List (Int×List (Int)×List (List (Int))×List (Int))×Int) (β:=(List (Int×List (Int)×List (List (Int))×List (Int))×Int)) (fun d a=>bif decide (a.2<((c).length:Int))then b8 (nth c a.2) fun b=>b8 (nth e.1 a.2) fun v20=>b8 (G5 80 a.1 [(v20,b.2.1,b.2.2.1,b.2.2.2)]) fun v21=>d (v21,(aa.wrap (a.2+1)))else b8 (some ()) fun b=>b8 (slices_SortFunc_api_Region_region_Regions_1 (a.1,4,())) fun b=>some (b,0)) (([]:List (Int×List (Int)×List (List (Int))×List (Int))),0)
noncomputable def G4:(List (Int×Int×Int)×List (Int×Int×Int×List (Int×Int)×Int×Int)×List (Int))->Option (List (Int×(Int×List (Int)×List (List (Int))×List (Int)))):=fun x=>b8 (H5 (x.1,x.2.1,x.2.2)) fun v3=>rounds (α:=Int×List (Int×(Int×List (Int)×List (List (Int))×List (Int)))) (β:=List (Int×(Int×List (Int)×List (List (Int))×List (Int)))) (fun d c=>bif decide (c.1<((v3.1).length:Int))then b8 (nth v3.1 c.1) fun v10=>d ((aa.wrap (c.1+1)),(I9 (fun (a b:Int)=>decide (a=b)) v10.1 (v10.1,v10.2.1,v10.2.2.1,v10.2.2.2) c.2))else some c.2) (0,([]:List (Int×(Int×List (Int)×List (List (Int))×List (Int)))))
noncomputable def M5:(List (Int×Int×Int)×List (Int×Int×Int×List (Int×Int)×Int×Int)×List (Int)×List (Int×Int×Int×ByteArray×List (Int)))×Int×Int->Option (List (Int)):=fun x=>bif decide (x.2.1<1)then some ([]:List (Int))else bif decide (3<x.2.1)then some ([]:List (Int))else rounds (α:=Int×List (Int)) (β:=List (Int)) (fun c a=>bif decide (a.1<((x.1.2.2.2).length:Int))then b8 (nth x.1.2.2.2 a.1) fun b=>b8 (w6 b.2.1) fun d=>bif decide (d=x.2.1)then b8 (l8 (b.2.2.2.2,x.2.2)) fun v20=>bif v20 then b8 (G5 8 a.2 [b.1]) fun v21=>c ((aa.wrap (a.1+1)),v21)else c ((aa.wrap (a.1+1)),a.2)else c ((aa.wrap (a.1+1)),a.2)else some a.2) (0,([]:List (Int)))
noncomputable def N0:List (Int)×List (Int)->Option (Bool):=fun x=>bif !decide (((x.1).length:Int)=((x.2).length:Int))then some false else rounds (α:=Int) (β:=Bool) (fun b a=>bif decide (a<((x.1).length:Int))then b8 (nth x.1 a) fun v9=>b8 (nth x.2 a) fun v10=>bif !decide (v9=v10)then some false else b (aa.wrap (a+1))else some true) 0
noncomputable def bP0:(List (Int×Int×Int)×List (Int×Int×Int×List (Int×Int)×Int×Int)×List (Int))×Int->Option (Int):=fun x=>b8 (Y0 ((x.1.1,x.1.2.1,x.1.2.2),x.2)) fun v4=>bif !(v4.2)then some 0 else bif decide (0<x.2)then some v4.1.2.1 else some v4.1.2.2.1
noncomputable def Q9:List (List (Int))->Option (List (Int)):=fun x=>rounds (α:=Int×Int) (β:=List (Int)) (fun u j=>bif decide (j.2<((x).length:Int))then b8 (nth x j.2) fun v6=>b8 (some (aa.wrap (j.1+((v6).length:Int)))) fun s=>bif decide (s<0)then none else u (s,(aa.wrap (j.2+1)))else bif decide (j.1<0)then none else b8 (some (aa.wrap (j.1-0))) fun t=>bif decide (0<t)then b8 (uZ0 8 (0:Int) t) fun v9=>b8 (some ()) fun v10=>rounds (α:=List (Int)×Int) (β:=List (Int)) (fun m g=>bif decide (g.2<((x).length:Int))then b8 (nth x g.2) fun c=>b8 (G5 8 g.1 c) fun n=>m (n,(aa.wrap (g.2+1)))else b8 (some ()) fun c=>b8 (slices_Sort_int (g.1,1)) fun c=>bif decide (((c).length:Int)<2)then some c else rounds (α:=Int) (β:=List (Int)) (fun o e=>bif decide (e<((c).length:Int))then b8 ((bif decide (0<=e)&&decide (e<(c).length)then some ()else none)) fun v22=>b8 (((c)[(e).toNat]?).map (fun x=>x)) fun v22=>b8 (some (aa.wrap (e-1))) fun v23=>b8 ((bif decide (0<=v23)&&decide (v23<(c).length)then some ()else none)) fun v24=>b8 (((c)[(v23).toNat]?).map (fun x=>x)) fun v24=>bif decide (v22=v24)then b8 (cQ0 (c).length e) fun v26=>rounds (α:=Int×List (Int)×Int) (β:=List (Int)) (fun k a=>b8 (nngO v26.2) fun v32=>bif decide (a.1<v26.2)then b8 (qB0 v26.1 v26.2 a.1) fun v33=>b8 (((a.2.1)[(v33).toNat]?).map (fun x=>x)) fun i=>
 b8 (qB0 v26.1 v26.2 (aa.wrap (a.1-1))) fun v36=>b8 (((a.2.1)[(v36).toNat]?).map (fun x=>x)) fun v37=>bif !decide (i=v37)then b8 (qB0 v26.1 v26.2 a.1) fun v39=>b8 (((a.2.1)[(v39).toNat]?).map (fun x=>x)) fun v40=>b8 ((bif decide (0<=a.2.2)&&decide (a.2.2<(a.2.1).length)then some ()else none)) fun v41=>b8 (kP0 a.2.1 (a.2.2).toNat (fun x y=>y) v40) fun v41=>k ((aa.wrap (a.1+1)),v41,(aa.wrap (a.2.2+1)))else k ((aa.wrap (a.1+1)),a.2.1,a.2.2)else b8 (cQ0 (a.2.1).length a.2.2) fun v33=>b8 (pu0 a.2.1 v33.1 v33.2) fun v35=>b8 (oX0 (a.2.1).length (v35).length a.2.2) fun v36=>some v35) (1,c,e)else o (aa.wrap (e+1))else some c) 1) (([]:List (Int)),0)else rounds (α:=List (Int)×Int) (β:=List (Int)) (fun p h=>bif decide (h.2<((x).length:Int))then b8 (nth x h.2) fun d=>b8 (G5 8 h.1 d) fun c=>p (c,(aa.wrap (h.2+1)))else b8 (some ()) fun d=>b8 (slices_Sort_int (h.1,1)) fun d=>bif decide (((d).length:Int)<2)then some d else rounds (α:=Int) (β:=List (Int)) (fun q f=>bif decide (f<((d).length:Int))then b8 ((bif decide (0<=f)&&decide (f<(d).length)then some ()else none)) fun v21=>b8 (((d)[(f).toNat]?).map (fun x=>x)) fun v21=>b8 (some (aa.wrap (f-1))) fun v22=>b8 ((bif decide (0<=v22)&&decide (v22<(d).length)then some ()else none)) fun v23=>b8 (((d)[(v22).toNat]?).map (fun x=>x)) fun v23=>
 bif decide (v21=v23)then b8 (cQ0 (d).length f) fun v25=>rounds (α:=Int×List (Int)×Int) (β:=List (Int)) (fun l b=>b8 (nngO v25.2) fun v31=>bif decide (b.1<v25.2)then b8 (qB0 v25.1 v25.2 b.1) fun v32=>b8 (((b.2.1)[(v32).toNat]?).map (fun x=>x)) fun v33=>b8 (qB0 v25.1 v25.2 (aa.wrap (b.1-1))) fun v35=>b8 (((b.2.1)[(v35).toNat]?).map (fun x=>x)) fun v36=>bif !decide (v33=v36)then b8 (qB0 v25.1 v25.2 b.1) fun r=>b8 (((b.2.1)[(r).toNat]?).map (fun x=>x)) fun v39=>b8 ((bif decide (0<=b.2.2)&&decide (b.2.2<(b.2.1).length)then some ()else none)) fun v40=>b8 (kP0 b.2.1 (b.2.2).toNat (fun x y=>y) v39) fun v40=>l ((aa.wrap (b.1+1)),v40,(aa.wrap (b.2.2+1)))else l ((aa.wrap (b.1+1)),b.2.1,b.2.2)else b8 (cQ0 (b.2.1).length b.2.2) fun v32=>b8 (pu0 b.2.1 v32.1 v32.2) fun i=>b8 (oX0 (b.2.1).length (i).length b.2.2) fun v35=>some i) (1,d,f)else q (aa.wrap (f+1))else some d) 1) (([]:List (Int)),0)) (0,0)
noncomputable def F4:Int×Int->Option (Bool):=fun x=>b8 (y4 x.1) fun v2=>bif v2 then b8 (y4 x.2) fun v3=>bif !(v3)then some true else some (decide (x.1<x.2))else some (decide (x.1<x.2))
noncomputable def aR0:List (Int)×List (Int)->Option (List (Int)):=fun x=>b8 (some ()) fun v2=>b8 (Q9 [x.2]) fun v2=>b8 (some ()) fun v3=>b8 (Q9 [x.1]) fun v3=>rounds (α:=Int×List (Int)) (β:=List (Int)) (fun d c=>bif decide (c.1<((v3).length:Int))then b8 (nth v3 c.1) fun v9=>rounds (α:=Int×Int) (β:=List (Int)) (fun e a=>bif decide (a.2<a.1)then b8 ((bif decide ((1:Int)<0)then none else some ((bU.wrap (aa.wrap (a.2+a.1))).fdiv (2^(min (1:Int).toNat bU.bits))))) fun v17=>b8 (some (aa.wrap v17)) fun b=>b8 (nth v2 b) fun f=>b8 (F4 (f,v9)) fun v20=>bif v20 then e (a.1,(aa.wrap (b+1)))else e (b,a.2)else bif decide (a.2<((v2).length:Int))then b8 (nth v2 a.2) fun g=>bif decide (g=v9)then b8 (G5 8 c.2 [v9]) fun b=>d ((aa.wrap (c.1+1)),b)else b8 (nth v2 a.2) fun b=>bif !decide (b=b)then bif !decide (v9=v9)then b8 (G5 8 c.2 [v9]) fun v21=>d ((aa.wrap (c.1+1)),v21)else d ((aa.wrap (c.1+1)),c.2)else d ((aa.wrap (c.1+1)),c.2)else d ((aa.wrap (c.1+1)),c.2)) (((v2).length:Int),0)else some c.2) (0,([]:List (Int)))
noncomputable def P4:(List (Int×Int×Int)×List (Int×Int×Int×List (Int×Int)×Int×Int)×List (Int)×List (Int×Int×Int×ByteArray×List (Int)))×Int×Int×List (Int×Bool)->Option (Bool):=fun x=>rounds (α:=Int) (β:=Bool) (fun h g=>bif decide (g<((x.1.2.2.2).length:Int))then b8 (nth x.1.2.2.2 g) fun v11=>bif decide (v11.1=x.2.1)then h (aa.wrap (g+1))else b8 (w6 v11.2.1) fun v17=>bif !decide (v17=3)then h (aa.wrap (g+1))else b8 (l8 (v11.2.2.2.2,x.2.2.1)) fun i=>bif !(i)then h (aa.wrap (g+1))else rounds (α:=Int) (β:=Bool) (fun e c=>bif decide (c<((x.1.2.2.2).length:Int))then b8 (nth x.1.2.2.2 c) fun v25=>bif decide (v25.1=x.2.1)then e (aa.wrap (c+1))else b8 (w6 v25.2.1) fun v31=>bif !decide (v31=3)then e (aa.wrap (c+1))else b8 (aR0 (v11.2.2.2.2,v25.2.2.2.2)) fun v33=>bif decide ((0:Int)<((v33).length:Int))then e (aa.wrap (c+1))else rounds (α:=Int) (β:=Bool) (fun f d=>bif decide (d<((x.1.2.1).length:Int))then b8 (nth x.1.2.1 d) fun v40=>b8 (l8 (v11.2.2.2.2,v40.2.2.2.2.1)) fun v46=>b8 (l8 (v11.2.2.2.2,v40.2.2.2.2.2)) fun j=>bif (v46==j)then f (aa.wrap (d+1))else b8 (orO (lkp (fun (a b:Int)=>decide (a=b)) v40.1 x.2.2.2) (some false)) fun v49=>bif v49 then f (aa.wrap (d+1))else bif v46 then b8 (l8 (v25.2.2.2.2,v40.2.2.2.2.2)) fun v50=>bif !(v50)then e (aa.wrap (c+1))else f (aa.wrap (d+1))else b8 (l8 (v25.2.2.2.2,v40.2.2.2.2.1)) fun v50=>
 bif !(v50)then e (aa.wrap (c+1))else f (aa.wrap (d+1))else some true) 0 else h (aa.wrap (g+1))) 0 else some false) 0
noncomputable def D7:(List (Int×Int×Int)×List (Int×Int×Int×List (Int×Int)×Int×Int)×List (Int)×List (Int×Int×Int×ByteArray×List (Int)))×List (Int×(Int×List (Int)×List (List (Int))×List (Int)))×(Int×Int×Int×ByteArray×List (Int))->Option ((Int×Bool)):=fun x=>b8 (w6 x.2.2.2.1) fun v10=>bif !decide (v10=3)then some (0,false)else bif !decide (((x.2.2.2.2.2.2).length:Int)=1)then some (0,false)else b8 (nth x.2.2.2.2.2.2 0) fun e=>b8 (some (lkp (fun (a b:Int)=>decide (a=b)) e x.2.1).isSome) fun f=>bif f then b8 (orO (lkp (fun (a b:Int)=>decide (a=b)) e x.2.1) none) fun c=>bif decide (((c.2.1).length:Int)=0)then some (0,false)else bif decide ((0:Int)<((c.2.2.1).length:Int))then some (0,false)else bif decide ((0:Int)<((c.2.2.2).length:Int))then some (0,false)else b8 (M5 ((x.1.1,x.1.2.1,x.1.2.2.1,x.1.2.2.2),3,c.1)) fun v26=>b8 (some ()) fun v27=>b8 (N0 (v26,[x.2.2.1])) fun v27=>bif !(v27)then some (0,false)else b8 (nth c.2.1 0) fun v29=>b8 (R8 ((x.1.1,x.1.2.1,x.1.2.2.1),(aa.wrap (0-v29)))) fun v31=>rounds (α:=Int×List (Int×Bool)) (β:=(Int×Bool)) (fun g d=>bif decide (d.1<((c.2.1).length:Int))then b8 (nth c.2.1 d.1) fun v37=>b8 (some (a_ mxI v37 [(aa.wrap (0-v37))])) fun v39=>b8 (bP0 ((x.1.1,x.1.2.1,x.1.2.2.1),v37)) fun v40=>b8 (orO (lkp (fun (a b:Int)=>decide (a=b)) v39 d.2) (some false)) fun v41=>bif v41 then some (0,false)else b8 (R8 ((x.1.1,x.1.2.1,x.1.2.2.1),(aa.wrap (0-v37)))) fun h=>
 bif !decide (h=v31)then some (0,false)else b8 (Y3 ((x.1.1,x.1.2.1,x.1.2.2.1),v40)) fun v45=>bif !decide (v45=2)then some (0,false)else b8 (M5 ((x.1.1,x.1.2.1,x.1.2.2.1,x.1.2.2.2),1,v40)) fun i=>bif decide ((0:Int)<((i).length:Int))then some (0,false)else b8 (M5 ((x.1.1,x.1.2.1,x.1.2.2.1,x.1.2.2.2),2,v39)) fun v50=>bif decide ((0:Int)<((v50).length:Int))then some (0,false)else g ((aa.wrap (d.1+1)),(I9 (fun (a b:Int)=>decide (a=b)) v39 true d.2))else b8 (some ()) fun v37=>b8 (P4 ((x.1.1,x.1.2.1,x.1.2.2.1,x.1.2.2.2),x.2.2.1,v31,d.2)) fun v37=>bif v37 then some (0,false)else some (v31,true)) (0,([]:List (Int×Bool)))else some (0,false)
noncomputable def aT0:List (Int×Int)->Option ((Int×Int×Int×Int)):=fun x=>bif decide (((x).length:Int)=0)then some (0,0,(-1),(-1))else b8 (nth x 0) fun v3=>b8 (nth x 0) fun v5=>b8 (nth x 0) fun d=>b8 (nth x 0) fun v9=>rounds (α:=Int×Int×Int×Int×Int) (β:=(Int×Int×Int×Int)) (fun c a=>bif decide (a.1<((x).length:Int))then b8 (nth x a.1) fun b=>c ((aa.wrap (a.1+1)),(a_ mnI a.2.1 [b.1]),(a_ mnI a.2.2.1 [b.2]),(a_ mxI a.2.2.2.1 [b.1]),(a_ mxI a.2.2.2.2 [b.2]))else some (a.2.1,a.2.2.1,a.2.2.2.1,a.2.2.2.2)) (0,v3.1,v5.2,d.1,v9.2)
noncomputable def ew0:Int×Int->Option (Int):=fun x=>b8 (some (decide (x.2=0))) fun v2=>bif v2 then some 21 else b8 (some (decide (x.1=(-9223372036854775808)))) fun v3=>bif v3 then b8 (some (decide (x.2=(-1)))) fun v4=>bif v4 then some 15 else some 0 else some 0
noncomputable def ci0:Int×Int->Option ((Int×Int)):=fun x=>b8 (ew0 (x.1,x.2)) fun v2=>bif !decide (v2=0)then some (0,v2)else b8 ((bif decide (x.2=0)then none else some (aa.wrap (x.1.tdiv x.2)))) fun v4=>b8 ((bif decide (x.2=0)then none else some (x.1.tmod x.2))) fun v5=>bif !decide (v5=0)then bif ((decide (v5<0))==(decide (x.2<0)))then some ((aa.wrap (v4+1)),0)else some (v4,0)else some (v4,0)
noncomputable def V8:(Int×Int)×(Int×Int)->Option (Int):=fun x=>b8 (p8 (x.1.1,x.2.1)) fun v4=>some v4
noncomputable def slices_SortFunc_api_Range_span_Normal_1:List (Int×Int)×Int×(Unit)->Option (List (Int×Int)):=fun x=>bif decide (x.2.1=2)then aw0 (fun a b=>V8 (a,b)) x.1 else none
noncomputable def Y4:List (Int×Int)->Option (List (Int×Int)):=fun x=>b8 (mksO 16 ((0,0):Int×Int) ((x).length:Int)) fun v2=>b8 (cpyO v2 x) fun v3=>b8 (some ()) fun v4=>b8 (slices_SortFunc_api_Range_span_Normal_1 (v3,2,())) fun v4=>rounds (α:=List (Int×Int)×Int) (β:=List (Int×Int)) (fun e b=>bif decide (b.2<((v4).length:Int))then b8 ((bif decide (0<=b.2)&&decide (b.2<(v4).length)then some ()else none)) fun v10=>b8 (((v4)[(b.2).toNat]?).map (fun x=>(x.1,x.2))) fun v10=>b8 (some (aa.wrap (((b.1).length:Int)-1))) fun a=>bif decide (v10.2<=v10.1)then e (b.1,(aa.wrap (b.2+1)))else bif decide (0<=a)then b8 ((bif decide (0<=a)&&decide (a<(b.1).length)then some ()else none)) fun c=>b8 (some ()) fun c=>b8 (((b.1)[(a).toNat]?).map (fun x=>x.2)) fun c=>bif decide (v10.1<=c)then b8 ((bif decide (0<=a)&&decide (a<(b.1).length)then some ()else none)) fun d=>b8 (some ()) fun d=>b8 (((b.1)[(a).toNat]?).map (fun x=>x.2)) fun d=>b8 ((bif decide (0<=a)&&decide (a<(b.1).length)then some ()else none)) fun v20=>b8 (some ()) fun v20=>b8 (kP0 b.1 (a).toNat (fun x y=>(x.1,y)) (a_ mxI d [v10.2])) fun v20=>e (v20,(aa.wrap (b.2+1)))else b8 (G5 16 b.1 [(v10.1,v10.2)]) fun d=>e (d,(aa.wrap (b.2+1)))else b8 (G5 16 b.1 [(v10.1,v10.2)]) fun c=>e (c,(aa.wrap (b.2+1)))else some b.1) (([]:List (Int×Int)),0)
noncomputable def bZ0:List (Int×Int)×List (Int×Int)->Option (List (Int×Int)):=fun x=>b8 (Y4 x.2) fun v2=>b8 (Y4 x.1) fun v3=>rounds (α:=List (Int×Int)×Int×List (Int×Int)) (β:=List (Int×Int)) (fun e d=>bif decide (d.2.1<((v3).length:Int))then b8 (nth v3 d.2.1) fun v10=>rounds (α:=List (Int×Int)) (β:=List (Int×Int)) (fun h a=>bif decide ((0:Int)<((a).length:Int))then b8 (nth a 0) fun i=>bif decide (i.2<=v10.1)then b8 (sK0 a (some 1) none) fun j=>h j else rounds (α:=Int×Int×List (Int×Int)) (β:=List (Int×Int)) (fun f b=>bif decide (b.2.1<((a).length:Int))then b8 (nth a b.2.1) fun v25=>bif decide (v25.1<v10.2)then b8 (nth a b.2.1) fun v28=>bif decide (b.1<v28.1)then b8 (G5 16 b.2.2 [(b.1,v28.1)]) fun v31=>b8 (nth a b.2.1) fun v32=>f (v32.2,(aa.wrap (b.2.1+1)),v31)else b8 (nth a b.2.1) fun v31=>f (v31.2,(aa.wrap (b.2.1+1)),b.2.2)else bif decide (b.1<v10.2)then b8 (G5 16 b.2.2 [(b.1,v10.2)]) fun v29=>e (a,(aa.wrap (d.2.1+1)),v29)else e (a,(aa.wrap (d.2.1+1)),b.2.2)else bif decide (b.1<v10.2)then b8 (G5 16 b.2.2 [(b.1,v10.2)]) fun v26=>e (a,(aa.wrap (d.2.1+1)),v26)else e (a,(aa.wrap (d.2.1+1)),b.2.2)) (v10.1,0,d.2.2)else rounds (α:=Int×Int×List (Int×Int)) (β:=List (Int×Int)) (fun g c=>bif decide (c.2.1<((a).length:Int))then b8 (nth a c.2.1) fun v22=>bif decide (v22.1<v10.2)then b8 (nth a c.2.1) fun v25=>
 bif decide (c.1<v25.1)then b8 (G5 16 c.2.2 [(c.1,v25.1)]) fun v28=>b8 (nth a c.2.1) fun v29=>g (v29.2,(aa.wrap (c.2.1+1)),v28)else b8 (nth a c.2.1) fun v28=>g (v28.2,(aa.wrap (c.2.1+1)),c.2.2)else bif decide (c.1<v10.2)then b8 (G5 16 c.2.2 [(c.1,v10.2)]) fun v26=>e (a,(aa.wrap (d.2.1+1)),v26)else e (a,(aa.wrap (d.2.1+1)),c.2.2)else bif decide (c.1<v10.2)then b8 (G5 16 c.2.2 [(c.1,v10.2)]) fun v23=>e (a,(aa.wrap (d.2.1+1)),v23)else e (a,(aa.wrap (d.2.1+1)),c.2.2)) (v10.1,0,d.2.2)) d.1 else some d.2.2) (v2,0,([]:List (Int×Int)))
noncomputable def K6:List (Int×List (Int×Int))×(List (Int×Int×Int)×List (Int×Int×Int×List (Int×Int)×Int×Int)×List (Int))×(Int×List (Int)×List (List (Int))×List (Int))×Int->Option (List (Int×Int)):=fun x=>b8 (B2 (x.2.2.1.1,x.2.2.1.2.1,x.2.2.1.2.2.1,x.2.2.1.2.2.2)) fun v9=>rounds (α:=Int×List (Int)×List (Int×Int)) (β:=List (Int×Int)) (fun o h=>bif decide (h.1<((v9).length:Int))then b8 (nth v9 h.1) fun m=>rounds (α:=Int×List (Int)×List (Int×Int)) (β:=List (Int×Int)) (fun p i=>bif decide (i.1<((m).length:Int))then b8 (nth m i.1) fun v23=>b8 (orO (lkp (fun (a b:Int)=>decide (a=b)) (a_ mxI v23 [(aa.wrap (0-v23))]) x.1) none) fun v26=>rounds (α:=Int×List (Int)×List (Int×Int)) (β:=List (Int×Int)) (fun f c=>bif decide (c.1<((v26).length:Int))then b8 (nth v26 (aa.wrap (c.1-1))) fun d=>b8 (nth v26 c.1) fun v36=>bif decide (v36.2<d.2)then bif decide (x.2.2.2<v36.2)then f ((aa.wrap (c.1+1)),c.2.1,c.2.2)else bif decide (d.2<x.2.2.2)then f ((aa.wrap (c.1+1)),c.2.1,c.2.2)else bif decide (v36.2=d.2)then b8 (G5 16 c.2.2 [((a_ mnI v36.1 [d.1]),(aa.wrap ((a_ mxI v36.1 [d.1])+1)))]) fun v45=>f ((aa.wrap (c.1+1)),c.2.1,v45)else b8 (some (aa.wrap ((aa.wrap (x.2.2.2-v36.2))*(aa.wrap (d.1-v36.1))))) fun v44=>b8 (some (aa.wrap (d.2-v36.2))) fun v45=>b8 (ci0 (v44,v45)) fun v46=>
 bif decide ((aa.wrap (v46.1*v45))=v44)then b8 (G5 16 c.2.2 [((aa.wrap (v36.1+v46.1)),(aa.wrap ((aa.wrap (v36.1+v46.1))+1)))]) fun v53=>bif decide (x.2.2.2<d.2)then b8 (G5 8 c.2.1 [(aa.wrap (v36.1+v46.1))]) fun j=>f ((aa.wrap (c.1+1)),j,v53)else f ((aa.wrap (c.1+1)),c.2.1,v53)else bif decide (x.2.2.2<d.2)then b8 (G5 8 c.2.1 [(aa.wrap (v36.1+v46.1))]) fun k=>f ((aa.wrap (c.1+1)),k,c.2.2)else f ((aa.wrap (c.1+1)),c.2.1,c.2.2)else bif decide (x.2.2.2<d.2)then f ((aa.wrap (c.1+1)),c.2.1,c.2.2)else bif decide (v36.2<x.2.2.2)then f ((aa.wrap (c.1+1)),c.2.1,c.2.2)else bif decide (d.2=v36.2)then b8 (G5 16 c.2.2 [((a_ mnI d.1 [v36.1]),(aa.wrap ((a_ mxI d.1 [v36.1])+1)))]) fun v45=>f ((aa.wrap (c.1+1)),c.2.1,v45)else b8 (some (aa.wrap ((aa.wrap (x.2.2.2-d.2))*(aa.wrap (v36.1-d.1))))) fun v44=>b8 (some (aa.wrap (v36.2-d.2))) fun v45=>b8 (ci0 (v44,v45)) fun v46=>bif decide ((aa.wrap (v46.1*v45))=v44)then b8 (G5 16 c.2.2 [((aa.wrap (d.1+v46.1)),(aa.wrap ((aa.wrap (d.1+v46.1))+1)))]) fun v53=>bif decide (x.2.2.2<v36.2)then b8 (G5 8 c.2.1 [(aa.wrap (d.1+v46.1))]) fun j=>
 f ((aa.wrap (c.1+1)),j,v53)else f ((aa.wrap (c.1+1)),c.2.1,v53)else bif decide (x.2.2.2<v36.2)then b8 (G5 8 c.2.1 [(aa.wrap (d.1+v46.1))]) fun k=>f ((aa.wrap (c.1+1)),k,c.2.2)else f ((aa.wrap (c.1+1)),c.2.1,c.2.2)else p ((aa.wrap (i.1+1)),c.2.1,c.2.2)) (1,i.2.1,i.2.2)else o ((aa.wrap (h.1+1)),i.2.1,i.2.2)) (0,h.2.1,h.2.2)else rounds (α:=Int×List (Int×Int)) (β:=List (Int×Int)) (fun l g=>bif decide (g.1<((x.2.2.1.2.2.2).length:Int))then b8 (nth x.2.2.1.2.2.2 g.1) fun v21=>b8 (S5 ((x.2.1.1,x.2.1.2.1,x.2.1.2.2),v21)) fun v22=>bif v22.2 then bif decide (v22.1.2.2=x.2.2.2)then b8 (G5 16 g.2 [(v22.1.2.1,(aa.wrap (v22.1.2.1+1)))]) fun v28=>l ((aa.wrap (g.1+1)),v28)else l ((aa.wrap (g.1+1)),g.2)else l ((aa.wrap (g.1+1)),g.2)else b8 (some ()) fun v21=>b8 (slices_Sort_int (h.2.1,1)) fun v21=>rounds (α:=Int×List (Int×Int)) (β:=List (Int×Int)) (fun n e=>bif decide (e.1<((v21).length:Int))then b8 (some (aa.wrap (e.1-1))) fun v27=>b8 ((bif decide (0<=v27)&&decide (v27<(v21).length)then some ()else none)) fun v28=>b8 (((v21)[(v27).toNat]?).map (fun x=>x)) fun v28=>b8 ((bif decide (0<=e.1)&&decide (e.1<(v21).length)then some ()else none)) fun v29=>b8 (((v21)[(e.1).toNat]?).map (fun x=>x)) fun v29=>bif decide (v28<v29)then b8 (some (aa.wrap (e.1-1))) fun v31=>
 b8 ((bif decide (0<=v31)&&decide (v31<(v21).length)then some ()else none)) fun v32=>b8 (((v21)[(v31).toNat]?).map (fun x=>x)) fun v32=>b8 ((bif decide (0<=e.1)&&decide (e.1<(v21).length)then some ()else none)) fun v33=>b8 (((v21)[(e.1).toNat]?).map (fun x=>x)) fun v33=>b8 (G5 16 e.2 [(v32,v33)]) fun d=>n ((aa.wrap (e.1+2)),d)else n ((aa.wrap (e.1+2)),e.2)else bif decide (((e.2).length:Int)=0)then some ([]:List (Int×Int))else b8 (some ()) fun v29=>b8 (some ()) fun v29=>b8 (bZ0 (e.2,g.2)) fun v29=>some v29) (1,([]:List (Int×Int)))) (0,h.2.2)) (0,([]:List (Int)),([]:List (Int×Int)))
noncomputable def w9:List (Int×List (Int×Int))×(List (Int×Int×Int)×List (Int×Int×Int×List (Int×Int)×Int×Int)×List (Int))×(Int×List (Int)×List (List (Int))×List (Int))×Int->Option (((Int×Int)×Bool)):=fun x=>b8 (K6 (x.1,(x.2.1.1,x.2.1.2.1,x.2.1.2.2),(x.2.2.1.1,x.2.2.1.2.1,x.2.2.1.2.2.1,x.2.2.1.2.2.2),x.2.2.2)) fun v9=>rounds (α:=Int×Bool×Int×Int×Int) (β:=((Int×Int)×Bool)) (fun c a=>bif decide (a.1<((v9).length:Int))then b8 (nth v9 a.1) fun b=>b8 (some (aa.wrap (b.2-b.1))) fun v20=>bif decide (a.2.2.1<v20)then b8 ((bif decide ((1:Int)<0)then none else some ((aa.wrap ((aa.wrap (b.1+b.2))-1)).fdiv (2^(min (1:Int).toNat aa.bits))))) fun v24=>c ((aa.wrap (a.1+1)),true,v20,v24,x.2.2.2)else c ((aa.wrap (a.1+1)),a.2.1,a.2.2.1,a.2.2.2.1,a.2.2.2.2)else some ((a.2.2.2.1,a.2.2.2.2),a.2.1)) (0,false,0,0,0)
noncomputable def E0:(List (Int×Int×Int)×List (Int×Int×Int×List (Int×Int)×Int×Int)×List (Int))×Int->Option (((Int×Int)×Bool)):=fun x=>b8 (M4 (x.1.1,x.1.2.1,x.1.2.2)) fun v4=>bif !decide (v4.2=0)then bif !decide (v4.2=0)then some ((0,0),false)else b8 (some ()) fun g=>b8 (E3 (([]:List (Int)),x.2)) fun g=>bif decide (g<1)then some ((0,0),false)else none else b8 (K0 (x.1.1,x.1.2.1,x.1.2.2)) fun l=>b8 (D5 ((x.1.1,x.1.2.1,x.1.2.2),v4.1,l)) fun g=>b8 (P6 ((x.1.1,x.1.2.1,x.1.2.2),g)) fun v9=>bif !(v9.2)then some ((0,0),false)else b8 (E3 (v9.1,x.2)) fun v12=>bif decide (v12<1)then some ((0,0),false)else b8 (nth g v12) fun o=>rounds (α:=Int×List (Int×Int)) (β:=((Int×Int)×Bool)) (fun p i=>bif decide (i.1<((o.2.1).length:Int))then b8 (nth o.2.1 i.1) fun v23=>b8 (orO (lkp (fun (a b:Int)=>decide (a=b)) (a_ mxI v23 [(aa.wrap (0-v23))]) l) none) fun v26=>rounds (α:=Int×List (Int×Int)) (β:=((Int×Int)×Bool)) (fun q h=>bif decide (h.1<((v26).length:Int))then b8 (nth v26 (aa.wrap (h.1-1))) fun v33=>b8 (nth v26 h.1) fun v35=>b8 (G5 16 h.2 [(v33.1,v33.2),(v35.1,v35.2)]) fun v37=>q ((aa.wrap (h.1+1)),v37)else p ((aa.wrap (i.1+1)),h.2)) (1,i.2)else b8 (some ()) fun v23=>b8 (aT0 i.2) fun v23=>b8 (some (aa.wrap (v23.2.1+v23.2.2.2))) fun v27=>b8 ((bif decide ((1:Int)<0)then none else some (v27.fdiv (2^(min (1:Int).toNat aa.bits))))) fun v28=>
 rounds (α:=Int×Int×Int) (β:=((Int×Int)×Bool)) (fun d c=>bif decide ((aa.wrap (v28+c.1))<=v23.2.2.2)then b8 (some (aa.wrap (v28+c.1))) fun v35=>b8 (some (aa.wrap (v28-c.1))) fun v36=>bif decide (v35<v23.2.1)then bif decide (v36<v23.2.1)then d ((aa.wrap (c.1+1)),c.2.1,c.2.2)else bif decide (v23.2.2.2<v36)then d ((aa.wrap (c.1+1)),c.2.1,c.2.2)else b8 (nth g v12) fun v40=>b8 (w9 (l,(x.1.1,x.1.2.1,x.1.2.2),(v40.1,v40.2.1,v40.2.2.1,v40.2.2.2),v36)) fun v44=>bif v44.2 then some ((v44.1.1,v44.1.2),true)else d ((aa.wrap (c.1+1)),v44.1.1,v44.1.2)else bif decide (v23.2.2.2<v35)then bif decide (v36<v23.2.1)then d ((aa.wrap (c.1+1)),c.2.1,c.2.2)else bif decide (v23.2.2.2<v36)then d ((aa.wrap (c.1+1)),c.2.1,c.2.2)else b8 (nth g v12) fun v41=>b8 (w9 (l,(x.1.1,x.1.2.1,x.1.2.2),(v41.1,v41.2.1,v41.2.2.1,v41.2.2.2),v36)) fun v45=>bif v45.2 then some ((v45.1.1,v45.1.2),true)else d ((aa.wrap (c.1+1)),v45.1.1,v45.1.2)else b8 (nth g v12) fun v39=>b8 (w9 (l,(x.1.1,x.1.2.1,x.1.2.2),(v39.1,v39.2.1,v39.2.2.1,v39.2.2.2),v35)) fun e=>bif e.2 then some ((e.1.1,e.1.2),true)else bif decide (v36<v23.2.1)then d ((aa.wrap (c.1+1)),e.1.1,e.1.2)else bif decide (v23.2.2.2<v36)then d ((aa.wrap (c.1+1)),e.1.1,e.1.2)else b8 (nth g v12) fun m=>b8 (w9 (l,(x.1.1,x.1.2.1,x.1.2.2),(m.1,m.2.1,m.2.2.1,m.2.2.2),v36)) fun j=>
 bif j.2 then some ((j.1.1,j.1.2),true)else d ((aa.wrap (c.1+1)),j.1.1,j.1.2)else bif decide (v23.2.1<=(aa.wrap (v28-c.1)))then b8 (some (aa.wrap (v28+c.1))) fun v37=>b8 (some (aa.wrap (v28-c.1))) fun f=>bif decide (v37<v23.2.1)then bif decide (f<v23.2.1)then d ((aa.wrap (c.1+1)),c.2.1,c.2.2)else bif decide (v23.2.2.2<f)then d ((aa.wrap (c.1+1)),c.2.1,c.2.2)else b8 (nth g v12) fun n=>b8 (w9 (l,(x.1.1,x.1.2.1,x.1.2.2),(n.1,n.2.1,n.2.2.1,n.2.2.2),f)) fun v46=>bif v46.2 then some ((v46.1.1,v46.1.2),true)else d ((aa.wrap (c.1+1)),v46.1.1,v46.1.2)else bif decide (v23.2.2.2<v37)then bif decide (f<v23.2.1)then d ((aa.wrap (c.1+1)),c.2.1,c.2.2)else bif decide (v23.2.2.2<f)then d ((aa.wrap (c.1+1)),c.2.1,c.2.2)else b8 (nth g v12) fun e=>b8 (w9 (l,(x.1.1,x.1.2.1,x.1.2.2),(e.1,e.2.1,e.2.2.1,e.2.2.2),f)) fun k=>bif k.2 then some ((k.1.1,k.1.2),true)else d ((aa.wrap (c.1+1)),k.1.1,k.1.2)else b8 (nth g v12) fun v41=>b8 (w9 (l,(x.1.1,x.1.2.1,x.1.2.2),(v41.1,v41.2.1,v41.2.2.1,v41.2.2.2),v37)) fun v45=>bif v45.2 then some ((v45.1.1,v45.1.2),true)else bif decide (f<v23.2.1)then d ((aa.wrap (c.1+1)),v45.1.1,v45.1.2)else bif decide (v23.2.2.2<f)then d ((aa.wrap (c.1+1)),v45.1.1,v45.1.2)else b8 (nth g v12) fun v50=>
 b8 (w9 (l,(x.1.1,x.1.2.1,x.1.2.2),(v50.1,v50.2.1,v50.2.2.1,v50.2.2.2),f)) fun v54=>bif v54.2 then some ((v54.1.1,v54.1.2),true)else d ((aa.wrap (c.1+1)),v54.1.1,v54.1.2)else some ((0,0),false)) (0,0,0)) (0,([]:List (Int×Int)))
noncomputable def Q6:(List (Int×Int×Int)×List (Int×Int×Int×List (Int×Int)×Int×Int)×List (Int)×List (Int×Int×Int×ByteArray×List (Int)))×Int->Option ((Int×Bool)):=fun x=>b8 (J3 (x.1.1,x.1.2.1,x.1.2.2.1,x.1.2.2.2)) fun v5=>bif !decide (v5=0)then some (0,false)else b8 (P3 ((x.1.1,x.1.2.1,x.1.2.2.1,x.1.2.2.2),x.2)) fun a=>bif !(a.2)then some (0,false)else b8 (G4 (x.1.1,x.1.2.1,x.1.2.2.1)) fun c=>b8 (D7 ((x.1.1,x.1.2.1,x.1.2.2.1,x.1.2.2.2),c,(a.1.1,a.1.2.1,a.1.2.2.1,a.1.2.2.2.1,a.1.2.2.2.2))) fun b=>bif !(b.2)then some (0,false)else b8 (nth a.1.2.2.2.2 0) fun d=>b8 (E0 ((x.1.1,x.1.2.1,x.1.2.2.1),d)) fun e=>bif !(e.2)then some (0,false)else some (b.1,true)
noncomputable def S9:(List (Int×Int×Int)×List (Int×Int×Int×List (Int×Int)×Int×Int)×List (Int))×Int->Option (Int):=fun x=>rounds (α:=Int×Int) (β:=Int) (fun d a=>bif decide (a.1<((x.1.2.1).length:Int))then b8 (nth x.1.2.1 a.1) fun v9=>bif decide (v9.2.2.2.2.1=x.2)then b8 (some ()) fun b=>b8 (N8 ((x.1.1,x.1.2.1,x.1.2.2),[v9.1])) fun b=>bif decide (v9.2.2.2.2.2=x.2)then b8 (some ()) fun c=>b8 (N8 ((x.1.1,x.1.2.1,x.1.2.2),[v9.1])) fun c=>d ((aa.wrap (a.1+1)),(aa.wrap ((aa.wrap (a.2+b))-c)))else d ((aa.wrap (a.1+1)),(aa.wrap (a.2+b)))else bif decide (v9.2.2.2.2.2=x.2)then b8 (some ()) fun v17=>b8 (N8 ((x.1.1,x.1.2.1,x.1.2.2),[v9.1])) fun v17=>d ((aa.wrap (a.1+1)),(aa.wrap (a.2-v17)))else d ((aa.wrap (a.1+1)),a.2)else some a.2) (0,0)
noncomputable def K9:List (Int)->Option (Int):=fun x=>rounds (α:=Int) (β:=Int) (fun b a=>bif decide (a<((x).length:Int))then b8 (nth x a) fun v5=>bif !decide (v5=0)then some v5 else b (aa.wrap (a+1))else some 0) 0
noncomputable def F6:(Int×Int×Int)×(Int×Int×Int)->Option (Int):=fun x=>b8 (p8 (x.1.2.2,x.2.2.2)) fun v6=>b8 (p8 (x.1.1,x.2.1)) fun b=>b8 (some ()) fun a=>b8 (K9 [v6,b]) fun a=>some a
noncomputable def slices_SortFunc_collapse_candidate_collapse_candidates_1:List (Int×Int×Int)×Int×(Unit)->Option (List (Int×Int×Int)):=fun x=>bif decide (x.2.1=3)then aw0 (fun a b=>F6 (a,b)) x.1 else none
noncomputable def E7:(List (Int×Int×Int)×List (Int×Int×Int×List (Int×Int)×Int×Int)×List (Int)×List (Int×Int×Int×ByteArray×List (Int)))×Int->Option (List (Int×Int×Int)):=fun x=>b8 (G4 (x.1.1,x.1.2.1,x.1.2.2.1)) fun v5=>rounds (α:=Int×List (Int×Int×Int)) (β:=List (Int×Int×Int)) (fun b a=>bif decide (a.1<((x.1.2.2.2).length:Int))then b8 (nth x.1.2.2.2 a.1) fun v11=>b8 (D7 ((x.1.1,x.1.2.1,x.1.2.2.1,x.1.2.2.2),v5,(v11.1,v11.2.1,v11.2.2.1,v11.2.2.2.1,v11.2.2.2.2))) fun c=>bif !(c.2)then b ((aa.wrap (a.1+1)),a.2)else b8 (nth v11.2.2.2.2 0) fun d=>b8 (S9 ((x.1.1,x.1.2.1,x.1.2.2.1),d)) fun v20=>bif decide (v20<x.2)then b8 (nth v11.2.2.2.2 0) fun v22=>b8 (G5 24 a.2 [(v11.1,v22,v20)]) fun v23=>b ((aa.wrap (a.1+1)),v23)else b ((aa.wrap (a.1+1)),a.2)else b8 (some ()) fun v11=>b8 (slices_SortFunc_collapse_candidate_collapse_candidates_1 (a.2,3,())) fun v11=>some v11) (0,([]:List (Int×Int×Int)))
noncomputable def bx0:(List (Int×Int×Int)×List (Int×Int×Int×List (Int×Int)×Int×Int)×List (Int)×List (Int×Int×Int×ByteArray×List (Int)))×(Int×Int×Int×Int×Int×Int)->Option ((List (Int)×Int)):=fun x=>b8 (J3 (x.1.1,x.1.2.1,x.1.2.2.1,x.1.2.2.2)) fun v10=>bif !decide (v10=0)then some (([]:List (Int)),v10)else b8 (E7 ((x.1.1,x.1.2.1,x.1.2.2.1,x.1.2.2.2),x.2.2.2.1)) fun v12=>rounds (α:=Int×List (Int)) (β:=(List (Int)×Int)) (fun b a=>bif decide (a.1<((v12).length:Int))then b8 (nth v12 a.1) fun c=>b8 (E0 ((x.1.1,x.1.2.1,x.1.2.2.1),c.2.1)) fun v21=>bif v21.2 then b8 (G5 8 a.2 [c.1]) fun v24=>b ((aa.wrap (a.1+1)),v24)else b ((aa.wrap (a.1+1)),a.2)else some (a.2,0)) (0,([]:List (Int)))
noncomputable def K3:(Int×Int×Int)×(Int×Int×Int)->Option (Int):=fun x=>b8 (p8 (x.1.1,x.2.1)) fun v6=>some v6
noncomputable def slices_SortFunc_api_Node_collapse_shrink_4:List (Int×Int×Int)×Int×(Unit)->Option (List (Int×Int×Int)):=fun x=>bif decide (x.2.1=3)then aw0 (fun a b=>K3 (a,b)) x.1 else none
noncomputable def K2:(List (Int×Int×Int)×List (Int×Int×Int×List (Int×Int)×Int×Int)×List (Int)×List (Int×Int×Int×ByteArray×List (Int)))×Int×Int×(Int×Int)->Option ((List (Int×Int×Int)×List (Int×Int×Int×List (Int×Int)×Int×Int)×List (Int)×List (Int×Int×Int×ByteArray×List (Int)))):=fun x=>b8 (slices_Clone_api_Node x.1.1) fun s=>rounds (α:=Int×List (Int×Int×Int×List (Int×Int)×Int×Int)) (β:=(List (Int×Int×Int)×List (Int×Int×Int×List (Int×Int)×Int×Int)×List (Int)×List (Int×Int×Int×ByteArray×List (Int)))) (fun J j=>bif decide (j.1<((x.1.2.1).length:Int))then b8 (nth x.1.2.1 j.1) fun i=>b8 (slices_Clone_api_Point i.2.2.2.1) fun v20=>b8 (some ()) fun v21=>b8 (G5 64 j.2 [(i.1,i.2.1,i.2.2.1,v20,i.2.2.2.2.1,i.2.2.2.2.2)]) fun v21=>J ((aa.wrap (j.1+1)),v21)else b8 (slices_Clone_int x.1.2.2.1) fun i=>rounds (α:=Int×List (Int×Int×Int×ByteArray×List (Int))) (β:=(List (Int×Int×Int)×List (Int×Int×Int×List (Int×Int)×Int×Int)×List (Int)×List (Int×Int×Int×ByteArray×List (Int)))) (fun K n=>bif decide (n.1<((x.1.2.2.2).length:Int))then b8 (nth x.1.2.2.2 n.1) fun v20=>b8 (slices_Clone_int v20.2.2.2.2) fun v25=>b8 (some ()) fun v26=>b8 (G5 64 n.2 [(v20.1,v20.2.1,v20.2.2.1,v20.2.2.2.1,v25)]) fun v26=>K ((aa.wrap (n.1+1)),v26)else rounds (α:=List (Int×Int×Int×List (Int×Int)×Int×Int)×List (Int×Bool)×Bool) (β:=(List (Int×Int×Int)×List (Int×Int×Int×List (Int×Int)×Int×Int)×List (Int)×List (Int×Int×Int×ByteArray×List (Int)))) (fun p q=>
 bif q.2.2 then rounds (α:=List (Int)×Bool) (β:=(List (Int×Int×Int)×List (Int×Int×Int×List (Int×Int)×Int×Int)×List (Int)×List (Int×Int×Int×ByteArray×List (Int)))) (fun t z=>bif z.2 then rounds (α:=Int×Int) (β:=(List (Int×Int×Int)×List (Int×Int×Int×List (Int×Int)×Int×Int)×List (Int)×List (Int×Int×Int×ByteArray×List (Int)))) (fun r g=>bif decide (g.1<((x.1.1).length:Int))then b8 (nth x.1.1 g.1) fun v32=>bif decide (v32.1=g.2)then r ((aa.wrap (g.1+1)),(aa.wrap (g.2+1)))else r ((aa.wrap (g.1+1)),g.2)else rounds (α:=List (Int×Int×Int)×Bool) (β:=(List (Int×Int×Int)×List (Int×Int×Int×List (Int×Int)×Int×Int)×List (Int)×List (Int×Int×Int×ByteArray×List (Int)))) (fun u B=>bif B.2 then b8 (G5 24 B.1 [(g.2,x.2.2.2.1,x.2.2.2.2)]) fun v35=>b8 (some ()) fun v36=>b8 (slices_SortFunc_api_Node_collapse_shrink_4 (v35,3,())) fun v36=>rounds (α:=Int×List (Int×Int×Int×ByteArray×List (Int))) (β:=(List (Int×Int×Int)×List (Int×Int×Int×List (Int×Int)×Int×Int)×List (Int)×List (Int×Int×Int×ByteArray×List (Int)))) (fun C k=>bif decide (k.1<((n.2).length:Int))then b8 ((bif decide (0<=k.1)&&decide (k.1<(k.2).length)then some ()else none)) fun o=>b8 (some ()) fun o=>b8 (some ()) fun o=>b8 (((k.2)[(k.1).toNat]?).map (fun x=>x.1)) fun o=>bif decide (o=x.2.1)then b8 (some ()) fun v44=>b8 (some ()) fun v44=>b8 (kP0 k.2 (k.1).toNat (fun x y=>(x.1,y,x.2.2.1,x.2.2.2.1,x.2.2.2.2)) 8) fun v44=>b8 (some ()) fun v45=>
 b8 (some ()) fun v45=>b8 (some ()) fun v45=>b8 (kP0 v44 (k.1).toNat (fun x y=>(x.1,x.2.1,x.2.2.1,x.2.2.2.1,y)) [g.2]) fun v45=>C ((aa.wrap (k.1+1)),v45)else C ((aa.wrap (k.1+1)),k.2)else some (v36,q.1,z.1,k.2)) (0,n.2)else rounds (α:=Int) (β:=(List (Int×Int×Int)×List (Int×Int×Int×List (Int×Int)×Int×Int)×List (Int)×List (Int×Int×Int×ByteArray×List (Int)))) (fun L m=>bif decide (m<((s).length:Int))then b8 ((bif decide (0<=m)&&decide (m<(s).length)then some ()else none)) fun v39=>b8 (((s)[(m).toNat]?).map (fun x=>(x.1,x.2.1,x.2.2))) fun v39=>b8 (orO (lkp (fun (a b:Int)=>decide (a=b)) v39.1 q.2.1) (some false)) fun o=>bif o then bif decide (m=(-1))then u (s,true)else rounds (α:=Int×List (Int×Int×Int)×Int) (β:=(List (Int×Int×Int)×List (Int×Int×Int×List (Int×Int)×Int×Int)×List (Int)×List (Int×Int×Int×ByteArray×List (Int)))) (fun D e=>bif decide (e.1<((e.2.1).length:Int))then b8 ((bif decide (0<=e.1)&&decide (e.1<(e.2.1).length)then some ()else none)) fun v51=>b8 (((e.2.1)[(e.1).toNat]?).map (fun x=>(x.1,x.2.1,x.2.2))) fun v51=>b8 (orO (lkp (fun (a b:Int)=>decide (a=b)) v51.1 q.2.1) (some false)) fun v54=>bif !(v54)then b8 ((bif decide (0<=e.2.2)&&decide (e.2.2<(e.2.1).length)then some ()else none)) fun E=>b8 (kP0 e.2.1 (e.2.2).toNat (fun x y=>(y.1,y.2.1,y.2.2)) (v51.1,v51.2.1,v51.2.2)) fun E=>
 D ((aa.wrap (e.1+1)),E,(aa.wrap (e.2.2+1)))else D ((aa.wrap (e.1+1)),e.2.1,e.2.2)else b8 (cQ0 (e.2.1).length e.2.2) fun v51=>b8 (pu0 e.2.1 v51.1 v51.2) fun v53=>b8 (oX0 (e.2.1).length (v53).length e.2.2) fun v54=>u (v53,true)) ((aa.wrap (m+1)),s,m)else L (aa.wrap (m+1))else u (s,true)) 0) (s,false)) (0,1)else rounds (α:=Int) (β:=(List (Int×Int×Int)×List (Int×Int×Int×List (Int×Int)×Int×Int)×List (Int)×List (Int×Int×Int×ByteArray×List (Int)))) (fun r g=>bif decide (g<((i).length:Int))then b8 ((bif decide (0<=g)&&decide (g<(i).length)then some ()else none)) fun v31=>b8 (((i)[(g).toNat]?).map (fun x=>x)) fun v31=>bif decide (v31=x.2.2.1)then bif decide (g=(-1))then t (i,true)else rounds (α:=Int×List (Int)×Int) (β:=(List (Int×Int×Int)×List (Int×Int×Int×List (Int×Int)×Int×Int)×List (Int)×List (Int×Int×Int×ByteArray×List (Int)))) (fun G f=>bif decide (f.1<((f.2.1).length:Int))then b8 ((bif decide (0<=f.1)&&decide (f.1<(f.2.1).length)then some ()else none)) fun v41=>b8 (((f.2.1)[(f.1).toNat]?).map (fun x=>x)) fun v41=>bif !((decide (v41=x.2.2.1)))then b8 ((bif decide (0<=f.2.2)&&decide (f.2.2<(f.2.1).length)then some ()else none)) fun v44=>b8 (kP0 f.2.1 (f.2.2).toNat (fun x y=>y) v41) fun v44=>
 G ((aa.wrap (f.1+1)),v44,(aa.wrap (f.2.2+1)))else G ((aa.wrap (f.1+1)),f.2.1,f.2.2)else b8 (cQ0 (f.2.1).length f.2.2) fun v41=>b8 (pu0 f.2.1 v41.1 v41.2) fun H=>b8 (oX0 (f.2.1).length (H).length f.2.2) fun v44=>t (H,true)) ((aa.wrap (g+1)),i,g)else r (aa.wrap (g+1))else t (i,true)) 0) (i,false)else rounds (α:=Int) (β:=(List (Int×Int×Int)×List (Int×Int×Int×List (Int×Int)×Int×Int)×List (Int)×List (Int×Int×Int×ByteArray×List (Int)))) (fun M l=>bif decide (l<((j.2).length:Int))then b8 ((bif decide (0<=l)&&decide (l<(j.2).length)then some ()else none)) fun v28=>b8 (((j.2)[(l).toNat]?).map (fun x=>(x.1,x.2.1,x.2.2.1,x.2.2.2.1,x.2.2.2.2.1,x.2.2.2.2.2))) fun v28=>bif !decide (v28.2.2.2.2.1=x.2.2.1)then bif !decide (v28.2.2.2.2.2=x.2.2.1)then M (aa.wrap (l+1))else b8 (some (I9 (fun (a b:Int)=>decide (a=b)) v28.2.2.1 true (I9 (fun (a b:Int)=>decide (a=b)) v28.2.1 true ([]:List (Int×Bool))))) fun v37=>bif decide (l=(-1))then p (j.2,v37,true)else rounds (α:=Int×List (Int×Bool)×List (Int×Int×Int×List (Int×Int)×Int×Int)×Int) (β:=(List (Int×Int×Int)×List (Int×Int×Int×List (Int×Int)×Int×Int)×List (Int)×List (Int×Int×Int×ByteArray×List (Int)))) (fun v c=>bif decide (c.1<((c.2.2.1).length:Int))then b8 ((bif decide (0<=c.1)&&decide (c.1<(c.2.2.1).length)then some ()else none)) fun h=>b8 (((c.2.2.1)[(c.1).toNat]?).map (fun x=>
 (x.1,x.2.1,x.2.2.1,x.2.2.2.1,x.2.2.2.2.1,x.2.2.2.2.2))) fun h=>bif !decide (h.2.2.2.2.1=x.2.2.1)then bif !decide (h.2.2.2.2.2=x.2.2.1)then b8 ((bif decide (0<=c.2.2.2)&&decide (c.2.2.2<(c.2.2.1).length)then some ()else none)) fun v55=>b8 (kP0 c.2.2.1 (c.2.2.2).toNat (fun x y=>(y.1,y.2.1,y.2.2.1,y.2.2.2.1,y.2.2.2.2.1,y.2.2.2.2.2)) (h.1,h.2.1,h.2.2.1,h.2.2.2.1,h.2.2.2.2.1,h.2.2.2.2.2)) fun v55=>v ((aa.wrap (c.1+1)),c.2.1,v55,(aa.wrap (c.2.2.2+1)))else v ((aa.wrap (c.1+1)),(I9 (fun (a b:Int)=>decide (a=b)) h.2.2.1 true (I9 (fun (a b:Int)=>decide (a=b)) h.2.1 true c.2.1)),c.2.2.1,c.2.2.2)else v ((aa.wrap (c.1+1)),(I9 (fun (a b:Int)=>decide (a=b)) h.2.2.1 true (I9 (fun (a b:Int)=>decide (a=b)) h.2.1 true c.2.1)),c.2.2.1,c.2.2.2)else b8 (cQ0 (c.2.2.1).length c.2.2.2) fun h=>b8 (pu0 c.2.2.1 h.1 h.2) fun v49=>b8 (oX0 (c.2.2.1).length (v49).length c.2.2.2) fun v50=>p (v49,c.2.1,true)) ((aa.wrap (l+1)),v37,j.2,l)else b8 (some (I9 (fun (a b:Int)=>decide (a=b)) v28.2.2.1 true (I9 (fun (a b:Int)=>decide (a=b)) v28.2.1 true ([]:List (Int×Bool))))) fun v36=>bif decide (l=(-1))then p (j.2,v36,true)else rounds (α:=Int×List (Int×Bool)×List (Int×Int×Int×List (Int×Int)×Int×Int)×Int) (β:=(List (Int×Int×Int)×List (Int×Int×Int×List (Int×Int)×Int×Int)×List (Int)×List (Int×Int×Int×ByteArray×List (Int)))) (fun w d=>
 bif decide (d.1<((d.2.2.1).length:Int))then b8 ((bif decide (0<=d.1)&&decide (d.1<(d.2.2.1).length)then some ()else none)) fun v46=>b8 (((d.2.2.1)[(d.1).toNat]?).map (fun x=>(x.1,x.2.1,x.2.2.1,x.2.2.2.1,x.2.2.2.2.1,x.2.2.2.2.2))) fun v46=>bif !decide (v46.2.2.2.2.1=x.2.2.1)then bif !decide (v46.2.2.2.2.2=x.2.2.1)then b8 ((bif decide (0<=d.2.2.2)&&decide (d.2.2.2<(d.2.2.1).length)then some ()else none)) fun v54=>b8 (kP0 d.2.2.1 (d.2.2.2).toNat (fun x y=>(y.1,y.2.1,y.2.2.1,y.2.2.2.1,y.2.2.2.2.1,y.2.2.2.2.2)) (v46.1,v46.2.1,v46.2.2.1,v46.2.2.2.1,v46.2.2.2.2.1,v46.2.2.2.2.2)) fun v54=>w ((aa.wrap (d.1+1)),d.2.1,v54,(aa.wrap (d.2.2.2+1)))else w ((aa.wrap (d.1+1)),(I9 (fun (a b:Int)=>decide (a=b)) v46.2.2.1 true (I9 (fun (a b:Int)=>decide (a=b)) v46.2.1 true d.2.1)),d.2.2.1,d.2.2.2)else w ((aa.wrap (d.1+1)),(I9 (fun (a b:Int)=>decide (a=b)) v46.2.2.1 true (I9 (fun (a b:Int)=>decide (a=b)) v46.2.1 true d.2.1)),d.2.2.1,d.2.2.2)else b8 (cQ0 (d.2.2.1).length d.2.2.2) fun v46=>b8 (pu0 d.2.2.1 v46.1 v46.2) fun I=>b8 (oX0 (d.2.2.1).length (I).length d.2.2.2) fun v49=>p (I,d.2.1,true)) ((aa.wrap (l+1)),v36,j.2,l)else p (j.2,([]:List (Int×Bool)),true)) 0) (j.2,([]:List (Int×Bool)),false)) (0,([]:List (Int×Int×Int×ByteArray×List (Int))))) (0,([]:List (Int×Int×Int×List (Int×Int)×Int×Int)))
noncomputable def C9:(List (Int×Int×Int)×List (Int×Int×Int×List (Int×Int)×Int×Int)×List (Int)×List (Int×Int×Int×ByteArray×List (Int)))×(Int×Int×Int×Int×Int×Int)->Option (((List (Int×Int×Int)×List (Int×Int×Int×List (Int×Int)×Int×Int)×List (Int)×List (Int×Int×Int×ByteArray×List (Int))×List (Int))×Int)):=fun x=>b8 (J3 (x.1.1,x.1.2.1,x.1.2.2.1,x.1.2.2.2)) fun v10=>bif !decide (v10=0)then some ((([]:List (Int×Int×Int)),([]:List (Int×Int×Int×List (Int×Int)×Int×Int)),([]:List (Int)),([]:List (Int×Int×Int×ByteArray×List (Int))),([]:List (Int))),v10)else b8 (slices_Clone_api_Node x.1.1) fun v12=>rounds (α:=Int×List (Int×Int×Int×List (Int×Int)×Int×Int)) (β:=((List (Int×Int×Int)×List (Int×Int×Int×List (Int×Int)×Int×Int)×List (Int)×List (Int×Int×Int×ByteArray×List (Int))×List (Int))×Int)) (fun g c=>bif decide (c.1<((x.1.2.1).length:Int))then b8 (nth x.1.2.1 c.1) fun b=>b8 (slices_Clone_api_Point b.2.2.2.1) fun v24=>b8 (some ()) fun v25=>b8 (G5 64 c.2 [(b.1,b.2.1,b.2.2.1,v24,b.2.2.2.2.1,b.2.2.2.2.2)]) fun v25=>g ((aa.wrap (c.1+1)),v25)else b8 (slices_Clone_int x.1.2.2.1) fun b=>rounds (α:=Int×List (Int×Int×Int×ByteArray×List (Int))) (β:=((List (Int×Int×Int)×List (Int×Int×Int×List (Int×Int)×Int×Int)×List (Int)×List (Int×Int×Int×ByteArray×List (Int))×List (Int))×Int)) (fun h d=>bif decide (d.1<((x.1.2.2.2).length:Int))then b8 (nth x.1.2.2.2 d.1) fun v24=>b8 (slices_Clone_int v24.2.2.2.2) fun v29=>b8 (some ()) fun v30=>
 b8 (G5 64 d.2 [(v24.1,v24.2.1,v24.2.2.1,v24.2.2.2.1,v29)]) fun v30=>h ((aa.wrap (d.1+1)),v30)else b8 (some ()) fun v24=>b8 (some ()) fun v24=>b8 (some ()) fun v24=>rounds (α:=List (Int×Int×Int)×List (Int×Int×Int×List (Int×Int)×Int×Int)×List (Int)×List (Int×Int×Int×ByteArray×List (Int))×List (Int)) (β:=((List (Int×Int×Int)×List (Int×Int×Int×List (Int×Int)×Int×Int)×List (Int)×List (Int×Int×Int×ByteArray×List (Int))×List (Int))×Int)) (fun i a=>b8 (E7 ((a.1,a.2.1,a.2.2.1,a.2.2.2.1),x.2.2.2.1)) fun v30=>rounds (α:=Int) (β:=((List (Int×Int×Int)×List (Int×Int×Int×List (Int×Int)×Int×Int)×List (Int)×List (Int×Int×Int×ByteArray×List (Int))×List (Int))×Int)) (fun j e=>bif decide (e<((v30).length:Int))then b8 (nth v30 e) fun v35=>b8 (E0 ((a.1,a.2.1,a.2.2.1),v35.2.1)) fun f=>bif f.2 then b8 (K2 ((a.1,a.2.1,a.2.2.1,a.2.2.2.1),v35.1,v35.2.1,(f.1.1,f.1.2))) fun v41=>b8 (G5 8 a.2.2.2.2 [v35.1]) fun v45=>i (v41.1,v41.2.1,v41.2.2.1,v41.2.2.2,v45)else j (aa.wrap (e+1))else b8 (some ()) fun v35=>b8 (slices_Sort_int (a.2.2.2.2,1)) fun v35=>some ((a.1,a.2.1,a.2.2.1,a.2.2.2.1,v35),0)) 0) (v12,c.2,b,d.2,([]:List (Int)))) (0,([]:List (Int×Int×Int×ByteArray×List (Int))))) (0,([]:List (Int×Int×Int×List (Int×Int)×Int×Int)))
noncomputable def cY0:(List (Int×Int×Int)×List (Int×Int×Int×List (Int×Int)×Int×Int)×List (Int)×List (Int×Int×Int×ByteArray×List (Int)))×Int->Option (((List (Int×Int×Int)×List (Int×Int×Int×List (Int×Int)×Int×Int)×List (Int)×List (Int×Int×Int×ByteArray×List (Int)))×Int)):=fun x=>b8 (J3 (x.1.1,x.1.2.1,x.1.2.2.1,x.1.2.2.2)) fun v5=>bif !decide (v5=0)then some ((([]:List (Int×Int×Int)),([]:List (Int×Int×Int×List (Int×Int)×Int×Int)),([]:List (Int)),([]:List (Int×Int×Int×ByteArray×List (Int)))),v5)else b8 (P3 ((x.1.1,x.1.2.1,x.1.2.2.1,x.1.2.2.2),x.2)) fun a=>bif !(a.2)then some ((([]:List (Int×Int×Int)),([]:List (Int×Int×Int×List (Int×Int)×Int×Int)),([]:List (Int)),([]:List (Int×Int×Int×ByteArray×List (Int)))),7)else b8 (w6 a.1.2.1) fun b=>bif !decide (b=3)then some ((([]:List (Int×Int×Int)),([]:List (Int×Int×Int×List (Int×Int)×Int×Int)),([]:List (Int)),([]:List (Int×Int×Int×ByteArray×List (Int)))),9)else b8 (G4 (x.1.1,x.1.2.1,x.1.2.2.1)) fun c=>b8 (D7 ((x.1.1,x.1.2.1,x.1.2.2.1,x.1.2.2.2),c,(a.1.1,a.1.2.1,a.1.2.2.1,a.1.2.2.2.1,a.1.2.2.2.2))) fun v17=>bif !(v17.2)then some ((([]:List (Int×Int×Int)),([]:List (Int×Int×Int×List (Int×Int)×Int×Int)),([]:List (Int)),([]:List (Int×Int×Int×ByteArray×List (Int)))),13)else b8 (nth a.1.2.2.2.2 0) fun v20=>b8 (E0 ((x.1.1,x.1.2.1,x.1.2.2.1),v20)) fun v21=>
 bif !(v21.2)then some ((([]:List (Int×Int×Int)),([]:List (Int×Int×Int×List (Int×Int)×Int×Int)),([]:List (Int)),([]:List (Int×Int×Int×ByteArray×List (Int)))),13)else b8 (nth a.1.2.2.2.2 0) fun v25=>b8 (K2 ((x.1.1,x.1.2.1,x.1.2.2.1,x.1.2.2.2),x.2,v25,(v21.1.1,v21.1.2))) fun v26=>some ((v26.1,v26.2.1,v26.2.2.1,v26.2.2.2),0)
noncomputable def M1:List (Int)×List (Int)->Option (Bool):=fun x=>bif !decide (((x.1).length:Int)=((x.2).length:Int))then some false else rounds (α:=Int) (β:=Bool) (fun b a=>bif decide (a<((x.1).length:Int))then b8 (nth x.1 a) fun v9=>b8 (nth x.2 a) fun v10=>bif !decide (v9=v10)then some false else b (aa.wrap (a+1))else some true) 0
noncomputable def C3:Unit->Option (Bool):=fun x=>b8 (T2 ()) fun v0=>b8 (Q6 ((v0.1,v0.2.1,v0.2.2.1,v0.2.2.2),6)) fun v4=>b8 (Q6 ((v0.1,v0.2.1,v0.2.2.1,v0.2.2.2),5)) fun v6=>b8 (bx0 ((v0.1,v0.2.1,v0.2.2.1,v0.2.2.2),(0,0,10,0,0,0))) fun g=>b8 (C9 ((v0.1,v0.2.1,v0.2.2.1,v0.2.2.2),(0,0,10,0,0,0))) fun v10=>b8 (cY0 ((v0.1,v0.2.1,v0.2.2.1,v0.2.2.2),7)) fun c=>b8 (some (decide (v4.1=1))) fun v21=>bif v21 then bif v4.2 then b8 (some (!(v6.2))) fun v22=>bif v22 then b8 (some (decide (g.2=0))) fun v23=>bif v23 then b8 (some ()) fun v24=>b8 (M1 (g.1,[6])) fun v24=>bif v24 then b8 (some (decide (v10.2=0))) fun v25=>bif v25 then b8 (some ()) fun v26=>b8 (M1 (v10.1.2.2.2.2,[6])) fun v26=>bif v26 then b8 (some ((v10.1.1).length:Int)) fun v27=>b8 (some (decide (v27=2))) fun v28=>bif v28 then b8 (nth v10.1.1 1) fun v29=>b8 (some ((fun (a b:Int×Int×Int)=>(decide (a.1=b.1)&&(decide (a.2.1=b.2.1)&&decide (a.2.2=b.2.2)))) (v29.1,v29.2.1,v29.2.2) (3,3,3))) fun v32=>bif v32 then b8 (some ((v10.1.2.1).length:Int)) fun v33=>b8 (some (decide (v33=1))) fun d=>bif d then b8 (some ((v10.1.2.2.2.1).length:Int)) fun v35=>b8 (some (decide (v35=2))) fun v36=>bif v36 then b8 (nth v10.1.2.2.2.1 1) fun v37=>b8 (some (decide (v37.2.1=8))) fun e=>bif e then b8 (some (decide (c.2=7))) fun f=>some f else some false else some false else some false else some false else some false else some false else some false else some false else some false else some false else some false else some false
noncomputable def H2:List (Int)->Option (Bool):=fun x=>rounds (α:=Int) (β:=Bool) (fun b a=>bif decide (a<((x).length:Int))then b8 (nth x a) fun v5=>b8 (nth x (aa.wrap (a-1))) fun c=>bif decide (v5<=c)then some false else b (aa.wrap (a+1))else some true) 1
noncomputable def J6:List (Int)×Int->Option (Bool):=fun x=>rounds (α:=Int) (β:=Bool) (fun b a=>bif decide (a<((x.1).length:Int))then b8 (nth x.1 a) fun v6=>bif decide (v6=x.2)then some true else b (aa.wrap (a+1))else some false) 0
noncomputable def L9:List (Int×Int)×List (Int×Int)->Option (Bool):=fun x=>bif !decide (((x.1).length:Int)=((x.2).length:Int))then some false else rounds (α:=Int) (β:=Bool) (fun b a=>bif decide (a<((x.1).length:Int))then b8 (nth x.1 a) fun v9=>b8 (nth x.2 a) fun v11=>bif !(decide (v9.1=v11.1)&&decide (v9.2=v11.2))then some false else b (aa.wrap (a+1))else some true) 0
noncomputable def O2:(Int×Int×Int×List (Int×Int)×Int×Int)×(Int×Int×Int×List (Int×Int)×Int×Int)->Option (Bool):=fun x=>bif decide (x.1.1=x.2.1)then bif decide (x.1.2.1=x.2.2.1)then bif decide (x.1.2.2.1=x.2.2.2.1)then bif decide (x.1.2.2.2.2.1=x.2.2.2.2.2.1)then bif decide (x.1.2.2.2.2.2=x.2.2.2.2.2.2)then b8 (L9 (x.1.2.2.2.1,x.2.2.2.2.1)) fun v17=>some v17 else some false else some false else some false else some false else some false
noncomputable def H9:(List (Int×Int×Int)×List (Int×Int×Int×List (Int×Int)×Int×Int)×List (Int))×(List (Int×Int×Int)×List (Int×Int×Int×List (Int×Int)×Int×Int)×List (Int))->Option (Bool):=fun x=>bif !decide (((x.1.1).length:Int)=((x.2.1).length:Int))then some false else bif !decide (((x.1.2.1).length:Int)=((x.2.2.1).length:Int))then some false else bif !decide (((x.1.2.2).length:Int)=((x.2.2.2).length:Int))then some false else rounds (α:=Int) (β:=Bool) (fun g c=>bif decide (c<((x.1.1).length:Int))then b8 (nth x.1.1 c) fun f=>b8 (nth x.2.1 c) fun v22=>bif !((fun (a b:Int×Int×Int)=>(decide (a.1=b.1)&&(decide (a.2.1=b.2.1)&&decide (a.2.2=b.2.2)))) (f.1,f.2.1,f.2.2) (v22.1,v22.2.1,v22.2.2))then some false else g (aa.wrap (c+1))else rounds (α:=Int) (β:=Bool) (fun h d=>bif decide (d<((x.1.2.1).length:Int))then b8 (nth x.1.2.1 d) fun v23=>b8 (nth x.2.2.1 d) fun v29=>b8 (O2 ((v23.1,v23.2.1,v23.2.2.1,v23.2.2.2.1,v23.2.2.2.2.1,v23.2.2.2.2.2),(v29.1,v29.2.1,v29.2.2.1,v29.2.2.2.1,v29.2.2.2.2.1,v29.2.2.2.2.2))) fun v35=>bif !(v35)then some false else h (aa.wrap (d+1))else rounds (α:=Int) (β:=Bool) (fun i e=>bif decide (e<((x.1.2.2).length:Int))then b8 (nth x.1.2.2 e) fun v27=>b8 (nth x.2.2.2 e) fun v28=>bif !decide (v27=v28)then some false else i (aa.wrap (e+1))else some true) 0) 0) 0
noncomputable def D9:List (Int)×List (Int)->Option (Bool):=fun x=>bif !decide (((x.1).length:Int)=((x.2).length:Int))then some false else rounds (α:=Int) (β:=Bool) (fun b a=>bif decide (a<((x.1).length:Int))then b8 (nth x.1 a) fun v9=>b8 (nth x.2 a) fun v10=>bif !decide (v9=v10)then some false else b (aa.wrap (a+1))else some true) 0
noncomputable def C1:(Int×Int×Int×ByteArray×List (Int))×(Int×Int×Int×ByteArray×List (Int))->Option (Bool):=fun x=>bif decide (x.1.1=x.2.1)then bif decide (x.1.2.1=x.2.2.1)then bif decide (x.1.2.2.1=x.2.2.2.1)then bif ((x.1.2.2.2.1).toList==(x.2.2.2.2.1).toList)then b8 (D9 (x.1.2.2.2.2,x.2.2.2.2.2)) fun a=>some a else some false else some false else some false else some false
noncomputable def I1:(List (Int×Int×Int)×List (Int×Int×Int×List (Int×Int)×Int×Int)×List (Int)×List (Int×Int×Int×ByteArray×List (Int)))×(List (Int×Int×Int)×List (Int×Int×Int×List (Int×Int)×Int×Int)×List (Int)×List (Int×Int×Int×ByteArray×List (Int)))->Option (Bool):=fun x=>b8 (H9 ((x.1.1,x.1.2.1,x.1.2.2.1),(x.2.1,x.2.2.1,x.2.2.2.1))) fun c=>bif !(c)then some false else bif !decide (((x.1.2.2.2).length:Int)=((x.2.2.2.2).length:Int))then some false else rounds (α:=Int) (β:=Bool) (fun b a=>bif decide (a<((x.1.2.2.2).length:Int))then b8 (nth x.1.2.2.2 a) fun v17=>b8 (nth x.2.2.2.2 a) fun v22=>b8 (C1 ((v17.1,v17.2.1,v17.2.2.1,v17.2.2.2.1,v17.2.2.2.2),(v22.1,v22.2.1,v22.2.2.1,v22.2.2.2.1,v22.2.2.2.2))) fun v27=>bif !(v27)then some false else b (aa.wrap (a+1))else some true) 0
noncomputable def Z3:(List (Int×Int×Int)×List (Int×Int×Int×List (Int×Int)×Int×Int)×List (Int)×List (Int×Int×Int×ByteArray×List (Int)))×Int->Option (Int):=fun x=>b8 (P3 ((x.1.1,x.1.2.1,x.1.2.2.1,x.1.2.2.2),x.2)) fun v5=>bif !(v5.2)then some 0 else b8 (w6 v5.1.2.1) fun v12=>bif !decide (v12=3)then some 0 else b8 (aA0 (x.1.1,x.1.2.1,x.1.2.2.1)) fun d=>bif !decide (d=0)then some 0 else rounds (α:=Int×Int) (β:=Int) (fun c a=>bif decide (a.2<((x.1.2.1).length:Int))then b8 (nth x.1.2.1 a.2) fun v21=>b8 (l8 (v5.1.2.2.2.2,v21.2.2.2.2.1)) fun v27=>b8 (l8 (v5.1.2.2.2.2,v21.2.2.2.2.2)) fun v28=>bif (v27==v28)then c (a.1,(aa.wrap (a.2+1)))else b8 (M7 ((x.1.1,x.1.2.1,x.1.2.2.1),v21.1)) fun v30=>rounds (α:=Int×Int) (β:=Int) (fun e b=>bif decide (b.2<((v30.1).length:Int))then b8 (nth v30.1 (aa.wrap (b.2-1))) fun f=>b8 (nth v30.1 b.2) fun v40=>b8 (nth v30.1 b.2) fun g=>b8 (nth v30.1 (aa.wrap (b.2-1))) fun v46=>e ((aa.wrap (b.1+(aa.wrap ((aa.wrap (f.1*v40.2))-(aa.wrap (g.1*v46.2)))))),(aa.wrap (b.2+1)))else bif v28 then c ((aa.wrap (a.1+(aa.wrap (0-b.1)))),(aa.wrap (a.2+1)))else c ((aa.wrap (a.1+b.1)),(aa.wrap (a.2+1)))) (0,1)else some a.1) (0,0)
noncomputable def A7:(List (Int×Int×Int)×List (Int×Int×Int×List (Int×Int)×Int×Int)×List (Int)×List (Int×Int×Int×ByteArray×List (Int)))×(Int×Int×Int×Int×Int×Int)->Option (Bool):=fun x=>b8 (G7 (x.1.1,x.1.2.1,x.1.2.2.1,x.1.2.2.2)) fun v10=>bif !(v10)then b8 (C3 ()) fun v12=>some v12 else b8 (C9 ((x.1.1,x.1.2.1,x.1.2.2.1,x.1.2.2.2),(x.2.1,x.2.2.1,x.2.2.2.1,x.2.2.2.2.1,x.2.2.2.2.2.1,x.2.2.2.2.2.2))) fun v12=>bif !decide (v12.2=0)then b8 (C3 ()) fun d=>some d else bif !decide (((v12.1.2.2.2.1).length:Int)=((x.1.2.2.2).length:Int))then some false else bif !decide ((aa.wrap (((v12.1.2.2.1).length:Int)+((v12.1.2.2.2.2).length:Int)))=((x.1.2.2.1).length:Int))then some false else b8 (H2 v12.1.2.2.2.2) fun v27=>bif !(v27)then some false else rounds (α:=Int×Int) (β:=Bool) (fun c b=>bif decide (b.2<((x.1.2.2.2).length:Int))then b8 (nth x.1.2.2.2 b.2) fun a=>b8 (nth v12.1.2.2.2.1 b.2) fun v39=>b8 (J6 (v12.1.2.2.2.2,a.1)) fun v44=>bif !(v44)then b8 (some ()) fun v46=>b8 (I1 ((([]:List (Int×Int×Int)),([]:List (Int×Int×Int×List (Int×Int)×Int×Int)),([]:List (Int)),[(a.1,a.2.1,a.2.2.1,a.2.2.2.1,a.2.2.2.2)]),(([]:List (Int×Int×Int)),([]:List (Int×Int×Int×List (Int×Int)×Int×Int)),([]:List (Int)),[(v39.1,v39.2.1,v39.2.2.1,v39.2.2.2.1,v39.2.2.2.2)]))) fun v46=>bif !(v46)then some false else c (b.1,(aa.wrap (b.2+1)))else b8 (w6 a.2.1) fun e=>bif !decide (e=3)then some false else b8 (Z3 ((x.1.1,x.1.2.1,x.1.2.2.1,x.1.2.2.2),a.1)) fun v49=>
 bif decide (x.2.2.2.1<=v49)then some false else bif !decide (v39.1=a.1)then some false else bif !decide (v39.2.1=8)then some false else bif !decide (v39.2.2.1=a.2.2.1)then some false else bif !((v39.2.2.2.1).toList==(a.2.2.2.1).toList)then some false else c ((aa.wrap (b.1+1)),(aa.wrap (b.2+1)))else b8 (C3 ()) fun a=>bif a then some (decide (b.1=((v12.1.2.2.2.2).length:Int)))else some false) (0,0)
end Go.Ab
namespace Go.Ab
open Go
@[simp] theorem b9 {α β:Type} (a:α) (f:α->Option β):b8 (some a) f=f a:=rfl
@[simp] theorem obind_none {α β:Type} (f:α->Option β):b8 none f=none:=rfl
theorem dn0:2^100<=many:=Classical.choose_spec (⟨2^100,Nat.le_refl _⟩:∃ n:Nat,2^100<=n)
theorem kx0:1000000000<=many:=bo (by decide) dn0
theorem mi0{α β:Type}{F:(α->Option β)->α->Option β}(I:α->Prop)(a:α->Nat)(g:α->Option β)(h:∀ rec x,I x->(∀ y,I y->a y<a x->rec y=g y)->F rec x=g x):∀ (n:Nat) (x:α),I x->a x<n->iter F n x=g x
 | 0,x,_,hm=>Am hm (Nat.not_lt_zero _)
 | n+1,x,hi,hm=>by show F (iter F n) x=g x;exact h _ x hi fun y b c=>mi0 I a g h n y b (by omega)
theorem nm0{α β:Type}{F:(α->Option β)->α->Option β}(I:α->Prop)(a:α->Nat)(g:α->Option β)(h:∀ rec x,I x->(∀ y,I y->a y<a x->rec y=g y)->F rec x=g x){x:α}(b:I x)(hm:a x<2^100):rounds F x=g x :=mi0 I a g h many x b (db hm dn0)
theorem bS0{α β:Type}{F:(α->Option β)->α->Option β}{x:α}{v:Option β}(h:∀ rec,F rec x=v):rounds F x=v :=nm0 (fun y=>y=x) (fun _=>0) (fun _=>v) (fun rec y a _=>by rw[a];exact h rec) rfl (by omega)
theorem r8{S β α A:Type}(xs:List α){F:(S->Option β)->S->Option β}(st:Nat->A->S)(g:A->List α->Option β)(hl:xs.length<2^100)
  (c:∀ rec a,F rec (st xs.length a)=g a []) (b:∀ rec i a x rest,i<xs.length->xs.drop i=x::rest->(∀ e,rec (st (i+1) e)=g e rest)->F rec (st i a)=g a (x::rest)) (a:A):rounds F (st 0 a)=g a xs:=by
 have key:∀ (k i n:Nat) (a:A),i<=xs.length->k=xs.length-i->k<n->iter F n (st i a)=g a (xs.drop i):=by
  intro k
  induction k with
  | zero=>
   intro i n a hi hk h;have:i=xs.length:=by omega
   subst this;cases n with
   | zero=>omega
   | succ n=>rw[ig];exact c _ a
  | succ k j=>
   intro i n a hi hk h;cases n with
   | zero=>omega
   | succ n=>
    have d:i<xs.length:=by omega
    have f:xs.drop i=xs[i]::xs.drop (i+1):=bw d;rw[f];exact b _ i a xs[i] _ d f fun e=>j (i+1) n e (by omega) (by omega) (by omega)
 have:=key xs.length 0 many a (cP _) (by omega) (db hl dn0);rw[fe]at this;exact this
theorem p6{S β α A:Type}(xs:List α){F:(S->Option β)->S->Option β}(st:Nat->A->S)(g:A->List α->Option β)(I:Nat->A->Prop)(hl:xs.length<2^100)
  (c:∀ rec a,I xs.length a->F rec (st xs.length a)=g a []) (b:∀ rec i a x rest,i<xs.length->I i a->xs.drop i=x::rest->(∀ d,I (i+1) d->rec (st (i+1) d)=g d rest)->F rec (st i a)=g a (x::rest)) (a:A) (ha:I 0 a):rounds F (st 0 a)=g a xs:=by
 have key:∀ (k i n:Nat) (a:A),i<=xs.length->k=xs.length-i->k<n->I i a->iter F n (st i a)=g a (xs.drop i):=by
  intro k
  induction k with
  | zero=>
   intro i n a hi hk l f;have:i=xs.length:=by omega
   subst this;cases n with
   | zero=>omega
   | succ n=>rw[ig];exact c _ a f
  | succ k m=>
   intro i n a hi hk l f;cases n with
   | zero=>omega
   | succ n=>
    have e:i<xs.length:=by omega
    have j:xs.drop i=xs[i]::xs.drop (i+1):=bw e;rw[j];exact b _ i a xs[i] _ e f j fun d h=>m (i+1) n d (by omega) (by omega) (by omega) h
 have:=key xs.length 0 many a (cP _) (by omega) (db hl dn0) ha;rw[fe]at this;exact this
theorem r7{α:Type}(xs:List α)(i:Nat):nth xs (i:Int)=xs[i]?:=by unfold nth;simp
theorem l9{α:Type}{xs:List α}{i:Nat}{x:α}{rest:List α}(h:xs.drop i=x::rest):nth xs (i:Int)=some x:=by grind [r7,List.head?,List.head?_drop]
theorem ml0{α:Type}{xs:List α}{i:Int}(a:0<=i):nth xs i=xs[i.toNat]?:=by unfold nth;simp[a]
theorem w64{n:Int}(h1:-9223372036854775808<=n)(h2:n<=9223372036854775807):aa.wrap n=n:=IntWalk.i64_in n ⟨h1,h2⟩
theorem y7{α:Type}{b:Nat}{xs ys:List α}(a:b<=1000)(h:xs.length+ys.length<=1000000000):G5 b xs ys=some (xs++ys):=by
 unfold G5;have h1:(2*(xs.length+ys.length)+1000)*b<=2^48:=by have:(2*(xs.length+ys.length)+1000)*b<=(2*1000000000+1000)*1000:=iN (by omega) a;omega
 grind
theorem qf0{α:Type}{xs:List α}{i:Nat}(h:i<=xs.length):sK0 xs none (some (i:Int))=some (xs.take i):=by unfold sK0 vQ0;simp[h]
theorem mc0{α:Type}{xs:List α}{i:Int}(a:0<=i)(h:i<=xs.length):sK0 xs (some i) none=some (xs.drop i.toNat):=by unfold sK0 vQ0;simp[a,h]
open Go.Proofs Go.Shelf Go.Sort
theorem cO0{α:Type}{r:α}{l:List α}(i:Nat):atT r (r::l) i∈r::l:=by
 unfold atT
 grind
theorem fp0{α:Type}(cf:α->α->Int)(r:α)(l:List α):Z9 cf (r::l)=((pdq (ltOf (fun i j=>cf (atT r (r::l) i) (atT r (r::l) j))) (aW (r::l).length) 0 (r::l).length (dH (r::l).length) true true).toList).map (atT r (r::l)):=rfl
theorem lI0{α:Type}(cf:α->α->Int)(r:α)(l:List α):Ordered cf (r::l)=SWO (ltOf (fun i j=>cf (atT r (r::l) i) (atT r (r::l) j))):=rfl
theorem ts0{α:Type}{cf:α->α->Int}{r:α}{l:List α}(hO:Ordered cf (r::l)) :
  PermIn 0 (r::l).length (aW (r::l).length) (pdq (ltOf (fun i j=>cf (atT r (r::l) i) (atT r (r::l) j))) (aW (r::l).length) 0 (r::l).length (dH (r::l).length) true true)/\SortedIn (ltOf (fun i j=>cf (atT r (r::l) i) (atT r (r::l) j))) 0 (r::l).length (pdq (ltOf (fun i j=>cf (atT r (r::l) i) (atT r (r::l) j))) (aW (r::l).length) 0 (r::l).length (dH (r::l).length) true true) :=
 pdq_sorts _ hO (aW (r::l).length) 0 (r::l).length (dH (r::l).length) true true (cP _) (by simp) (Or.inl rfl)
theorem L1{α:Type}{cf:α->α->Int}:∀ {xs:List α},Ordered cf xs->(Z9 cf xs).Perm xs
 | [],_=>List.Perm.refl _
 | r::l,hO=>by
  obtain⟨⟨h1,_,b⟩,_⟩:=ts0 hO;rw[fp0];generalize hes:r::l=es at *;generalize pdq (α:=Nat) _ _ _ _ _ _ _=d at *;have e1:d.extract 0 es.length=d:=by grind
  have e2:(aW es.length).extract 0 es.length=aW es.length:=by grind
  rw[e1,e2]at b;refine(b.map (atT r es)).trans ?_;have:(aW es.length).toList.map (atT r es)=es:=by
   apply List.ext_getElem?;intro k;rw[aM];by_cases hk:k<es.length
   ·have a:(aW es.length).toList[k]?=some k:=by simp[hk]
    rw[a];simp[atT,hk]
   grind
  rw[this]
theorem ax0{α:Type}{cf:α->α->Int}:∀ {xs:List α},(∀ x∈xs,¬ cf x x<0)->(∀ x∈xs,∀ y∈xs,∀ z∈xs,cf x y<0->cf y z<0->cf x z<0)->(∀ x∈xs,∀ y∈xs,∀ z∈xs,¬ cf x y<0->¬ cf y z<0->¬ cf x z<0)->Ordered cf xs
 | [],_,_,_=>trivial
 | r::l,h1,h2,c=>by
  refine⟨fun i=>?_,fun i j k a b=>?_,fun i j k a b=>?_⟩
  ·grind [ltOf,decide_eq_false_iff_not,cO0]
  ·grind [ltOf,cO0]
  grind [ltOf,decide_eq_false_iff_not,cO0]
theorem dr0{α:Type}{cmp:α->α->Option Int}{cf:α->α->Int}{xs:List α}(hc:∀ x∈xs,∀ y∈xs,cmp x y=some (cf x y))(hO:Ordered cf xs)(hl:xs.length<4611686018427387904):aw0 cmp xs=some (Z9 cf xs):=by
 have f:∀ x∈xs,∀ y∈xs,(cmp x y).getD 0=cf x y:=fun x a y b=>by rw[hc x a y b];rfl
 have d:∀ (r:α) (l:List α),xs=r::l->(fun i j=>(cmp (atT r (r::l) i) (atT r (r::l) j)).getD 0)=(fun i j=>cf (atT r (r::l) i) (atT r (r::l) j)):=fun r l e=>by grind [cO0]
 have c:Ordered (fun x y=>(cmp x y).getD 0) xs:=by
  cases xs with
  | nil=>trivial
  | cons r l=>grind [lI0]
 rw[tx0 (fun x a y b=>by rw[hc x a y b];rfl) c hl];cases xs with
 | nil=>rfl
 | cons r l=>grind [fp0]
end Go.Ab
namespace Go.Ab
open Go Go.Sort Go.Proofs Go.Shelf
variable [B5]
theorem kp0{α:Type}{b:Nat}{xs r:List α}(h:G5 b [] xs=some r):r=xs/\(2*xs.length+1000)*b<=2^48/\xs.length<=2^62:=by
 unfold G5 at h;simp only[aU,Nat.zero_add,bG]at h;by_cases c1:(2*xs.length+1000)*b<=2^48
 ·by_cases c2:xs.length<=2^62
  ·simp[c1,c2]at h
   exact⟨h.symm,c1,c2⟩
  simp[c2]at h
 simp[c1]at h
theorem pI0 {P:Program} {j:dI} (L:Lays.n144 P j) {f:FuncId} (hf:j.f 144=f) {d:Func} (p:P.funcs[f]?=some d) (k:(d.name== "runtime.NumGoroutine")=false) (l:d.body.isNone=false)
  {b:Nat} (q:j.g 1=b) {m:Int} (hm:B5.cell b 0=some (.int .i64 m)) {x:ByteArray×ByteArray} {r:Bool} (h:strings_Contains x=some r):J1 P ⟨f,y3 (.cons .str (.one .str)) x,enc .bool r⟩:=by
 subst hf q;unfold strings_Contains at h;by_cases hs:x.1.size<4294967281
 ·simp only[hs,Ai,Ac,ai]at h
  subst h;intro σ;refine F3.of_calls p k l ?_;intro G vs w a c;obtain⟨u,s,rfl,n,a⟩:=a.cons_inv;obtain⟨v,t,rfl,o,a⟩:=a.cons_inv;obtain rfl:=a.nil_inv;cases n;cases o;have i:w.cell? ⟨j.g 1,0,none⟩=some (.int .i64 m):=c.cell (c.glob _ _ _ hm);refine(Any.strings_Contains L x.1 x.2 m w hs i).mono ?_;rintro e w' ⟨rfl,rfl⟩;exact⟨_,_,σ,G,rfl,.refl _ _ _ _,.sc _,c,rfl,rfl⟩
 simp[hs]at h
theorem bq0{P:Program}{T:Tab}(hT:B7 P T){t:TypeId}{z:Nat}(h:(T t).map (fun ti=>(ti.isAgg,ti.size))=some (true,z)):(∀ w,(isAgg t).run P w=.ok true w)/\∀ w,(Go.sizeOf t).run P w=.ok z w:=by
 cases a:T t with
 | none=>rw[a]at h;cases h
 | some ti=>rw[a]at h;simp only[aj,ai,Prod.mk.injEq]at h;exact⟨fun w=>by rw[cX0 hT a w,h.1],fun w=>by rw[D6 hT a w,h.2]⟩
theorem eg0{P:Program}{ts:List TF}{t:TF}(h:t.Ok (eR0 P ts))(hf:t.f<XT){x:t.dom.T}{r:t.cod.T}(a:t.fn x=some r):J1 P ⟨t.f,y3 t.dom x,enc t.cod r⟩:=by obtain⟨φ,h1,h2⟩:=h x r a;exact(jW0 P ts).memo t.f φ hf h1 _ _ h2
theorem cW0{α:Type}{a:α->List AV}{r:α}{l:List α}(i:Nat):E2 ((r::l).map a) i=a (atT r (r::l) i):=by unfold E2 atT;rw[aM];cases (r::l)[i]?<;>rfl
theorem fS0{α:Type}{a:α->List AV}{cf:List AV->List AV->Int}{b:α->α->Int}:∀ {xs:List α},(∀ x∈xs,∀ y∈xs,cf (a x) (a y)=b x y)->I6 cf (xs.map a)=(Z9 b xs).map a
 | [],_=>rfl
 | r::l,h=>by
  have e:(fun i j=>cf (E2 ((r::l).map a) i) (E2 ((r::l).map a) j))=fun i j=>b (atT r (r::l) i) (atT r (r::l) j):=by funext i j;rw[cW0,cW0];exact h _ (cO0 i) _ (cO0 j)
  rw[ef0 (by simp),e,fp0,List.map_map,aB];exact List.map_congr_left fun i _=>cW0 i
theorem rw0{α:Type}{a:α->List AV}{cf:List AV->List AV->Int}{b:α->α->Int}{xs:List α}(h:∀ x∈xs,∀ y∈xs,cf (a x) (a y)=b x y)(hO:Ordered b xs)(c:xs.map a≠[]):SWO (ltOf (fun i j=>cf (E2 (xs.map a) i) (E2 (xs.map a) j))):=by
 cases xs with
 | nil=>simp at c
 | cons r l=>
  have e:(fun i j=>cf (E2 ((r::l).map a) i) (E2 ((r::l).map a) j))=fun i j=>b (atT r (r::l) i) (atT r (r::l) j):=by funext i j;rw[cW0,cW0];exact h _ (cO0 i) _ (cO0 j)
  rw[e];exact hO
noncomputable def cfOf{α:Type}(c:α->List AV)(d:α->α->Int)(a b:List AV):Int :=open Classical in if h:∃ p:α×α,c p.1=a/\c p.2=b then d h.choose.1 h.choose.2 else 0
theorem qa0{α:Type}{a:α->List AV}(hi:∀ x y,a x=a y->x=y)(b:α->α->Int)(x y:α):cfOf a b (a x) (a y)=b x y:=by have hex:∃ p:α×α,a p.1=a x/\a p.2=a y:=⟨(x,y),rfl,rfl⟩;unfold cfOf;rw[dif_pos hex];obtain⟨h1,h2⟩:=hex.choose_spec;rw[hi _ _ h1,hi _ _ h2]
theorem lx0{α:Type}{cmp:α->α->Option Int}{xs r:List α}(h:aw0 cmp xs=some r):(∀ x∈xs,∀ y∈xs,cmp x y=some ((cmp x y).getD 0))/\Ordered (fun x y=>(cmp x y).getD 0) xs/\xs.length<4611686018427387904/\r=Z9 (fun x y=>(cmp x y).getD 0) xs:=by
 obtain⟨hc,rfl⟩:=pm0 h;refine⟨fun x a y b=>?_,hc.2.1,hc.2.2,rfl⟩;have:=hc.1 x a y b;cases he:cmp x y with
 | none=>rw[he]at this;cases this
 | some v=>rfl
theorem bJ0 {P:Program} {p:dI} (L:SlLaysF0.n6 P p) {f:FuncId} (hf:p.f 6=f) {k:Func} (J:P.funcs[f]?=some k) (q:(k.name== "runtime.NumGoroutine")=false) (s:k.body.isNone=false)
  {el:SpL} {z:Nat} (hz:0<z) (u:el.len=z) (B:el.cells=true) (K:∀ w,(isAgg (p.t 24)).run P w=.ok true w) (M:∀ w,(Go.sizeOf (p.t 24)).run P w=.ok z w)
  {g:FuncId} {l:Func} (N:P.funcs[g]?=some l) (C:(l.name== "runtime.NumGoroutine")=false) (D:l.body.isNone=false) {cl:SpL} (c:cl.T)
  {cmp:el.T->el.T->Option Int} {x r:List el.T} (n:∀ a∈x,∀ b∈x,∀ v,cmp a b=some v->J1 P ⟨g,[.agg (y3 el a),.agg (y3 el b)]++y3 cl c,I64 v⟩) (h:aw0 cmp x=some r) :
  eD0 P f [.rs (x.map (y3 el)),.sc (.int .i64 z),.fn (.func g) [] (y3 cl c)] (.rs (r.map (y3 el))):=by
 obtain⟨h1,hO,O,rfl⟩:=lx0 h;intro v Q rest i;simp only[b_,AV.sc.injEq,eZ,Aq]at i;obtain⟨rfl,o,rfl⟩:=i;have o:Q=z:=by omega
 subst o;have m:∀ a∈x,∀ b∈x,cfOf (y3 el) (fun a b=>(cmp a b).getD 0) (y3 el a) (y3 el b)=(cmp a b).getD 0:=fun a _ b _=>qa0 (Y8 el) _ a b;refine⟨_,_,rfl,rfl,?_,?_⟩
 ·simp only[aB]
  exact(L1 hO).length_eq
 intro σ id e restv R S;have hm:∀ j∈x.map (y3 el),∃ a∈x,j=y3 el a:=fun j h=>by obtain⟨a,ha,e⟩:=aY.1 h;exact⟨a,ha,e.symm⟩
 have:=uw0 L hf J q s hz K M N C D (e:=e) (es:=x.map (y3 el)) (caps:=y3 cl c) (cf:=cfOf (y3 el) (fun a b=>(cmp a b).getD 0))
  (fun j h=>by obtain⟨a,_,rfl⟩:=hm j h;rw[C4,u])
  (fun j h d E=>by obtain⟨a,_,rfl⟩:=hm j h;exact ak.1 (cells_one B a) d E)
  (fun j h d E=>by obtain⟨a,_,rfl⟩:=hm j h;exact ak.1 (ar0 el a) d E)
  (by simpa using O)
  (fun j h G h'=>by
   obtain⟨a,ha,rfl⟩:=hm j h;obtain⟨b,H,rfl⟩:=hm G h';rw[m a ha b H];exact n a ha b H _ (h1 a ha b H))
  (fun I=>rw0 m hO I) R (restv:=restv) S
 rw[fS0 m]at this;exact this
theorem po0 {P:Program} {E:dI} (L:SlLaysF.n6 P E) {f:FuncId} (hf:E.f 6=f) {k:Func} (G:P.funcs[f]?=some k) (q:(k.name== "runtime.NumGoroutine")=false) (t:k.body.isNone=false)
  {s:Sp} (u:s.cel1=true) {g:FuncId} {l:Func} (H:P.funcs[g]?=some l) (w:(l.name== "runtime.NumGoroutine")=false) (z:l.body.isNone=false) {cl:SpL} (c:cl.T)
  {cmp:s.T->s.T->Option Int} {x r:List s.T} (n:∀ a∈x,∀ b∈x,∀ v,cmp a b=some v->J1 P ⟨g,[enc s a,enc s b]++y3 cl c,I64 v⟩) (h:aw0 cmp x=some r) :
  eD0 P f [.rs (x.map (y3 (.one s))),.sc (.int .i64 1),.fn (.func g) [] (y3 cl c)] (.rs (r.map (y3 (.one s)))):=by
 obtain⟨h1,hO,I,rfl⟩:=lx0 h;intro v J rest i;simp only[b_,AV.sc.injEq,eZ,Aq]at i;obtain⟨rfl,o,rfl⟩:=i;have o:J=1:=by omega
 subst o;have m:∀ a∈x,∀ b∈x,cfOf (y3 (.one s)) (fun a b=>(cmp a b).getD 0) (y3 (.one s) a) (y3 (.one s) b)=(cmp a b).getD 0:=fun a _ b _=>qa0 (Y8 (.one s)) _ a b;refine⟨_,_,rfl,rfl,?_,?_⟩
 ·simp only[aB]
  exact(L1 hO).length_eq
 intro σ id e restv K M;have hm:∀ j∈x.map (y3 (.one s)),∃ a∈x,j=y3 (.one s) a:=fun j h=>by obtain⟨a,ha,e⟩:=aY.1 h;exact⟨a,ha,e.symm⟩
 have:=uc0 L hf G q t H w z (e:=e) (es:=x.map (y3 (.one s))) (caps:=y3 cl c) (cf:=cfOf (y3 (.one s)) (fun a b=>(cmp a b).getD 0))
  (fun j h=>by obtain⟨a,_,rfl⟩:=hm j h;rfl)
  (fun j h d p=>by
   obtain⟨a,_,rfl⟩:=hm j h;simp only[y3,aT]at p;rw[p];exact jN0 u a)
  (fun j h d p=>by obtain⟨a,_,rfl⟩:=hm j h;exact ak.1 (ar0 (.one s) a) d p)
  (by simpa using I)
  (fun j h B h'=>by
   obtain⟨a,ha,rfl⟩:=hm j h;obtain⟨b,C,rfl⟩:=hm B h';rw[m a ha b C];exact n a ha b C _ (h1 a ha b C))
  (fun D=>rw0 m hO D) K (restv:=restv) M
 rw[fS0 m]at this;exact this
theorem oQ0 {P:Program} {q:dI} (L:SlLaysM.n5 P q) {f:FuncId} (hf:q.f 5=f) {d:Func} (s:P.funcs[f]?=some d) (l:(d.name== "runtime.NumGoroutine")=false) (m:d.body.isNone=false)
  {x:List Int×Int} {r:List Int} (h:slices_Sort_int x=some r):eD0 P f (y3 (.cons (.sl (.one (.int .i64))) (.one (.int .i64))) x) (enc (.sl (.one (.int .i64))) r):=by
 unfold slices_Sort_int at h;cases hc:(decide (x.2=1)&&decide (x.1.length<4611686018427387904))with
 | false=>rw[hc]at h;cases h
 | true=>
  rw[hc,jD0]at h;simp only[Ac,ai]at h;subst h;simp only[ab,Ad]at hc;intro v t rest a;simp only[y3,enc,b_,AV.sc.injEq,eZ,Aq]at a;obtain⟨rfl,k,rfl⟩:=a;have k:t=1:=by omega
  subst k;refine⟨x.1.map cD0,_,rfl,rfl,?_,?_⟩
  ·simp only[aB]
   exact List.length_mergeSort ..
  intro σ id e restv u z;intro G vs w a c;obtain⟨C,g,rfl,B,b⟩:=a.cons_inv;have j:Rel G (σ.del id) w:=c.less rfl (fun i o h=>by
   rw[c8.objs_del]at h;split at h
   ·cases h
   exact h)
  have n:g=[]:=(z G g w b j).nil_inv;have p:restv=[]:=by have:g.length=restv.length:=b.1;rw[n]at this;exact List.length_eq_zero_iff.1 (show restv.length=0 from this.symm)
  subst p;exact up0 L hf s l m hc.2 u G _ w a c
theorem ma0 {P:Program} {T:Tab} (hT:B7 P T) {f:FuncId} {fn:Func} {t elem:TypeId} (hf:P.funcs[f]?=some fn) (a:(fn.name== "runtime.NumGoroutine")=false) (c:iW0 fn t=true) (b:fn.resultTypes.toList=[t])
  (h1:(T t).map TI.und=some (.slice elem)) (h2:(T elem).map TI.size=some 2) (i:(T elem).map TI.bytes=some 16) {x r:List (Int×Int)} (h:G5 16 [] x=some r) :
  fu0 P f (y3 (.one (.sl (.cons (.int .i64) (.one (.int .i64))))) x) (enc (.sl (.cons (.int .i64) (.one (.int .i64)))) r):=by
 obtain⟨e,j,k⟩:=kp0 h;exact ea0 hT hf a c b h1 h2 i (by decide) (l:=.cons (.int .i64) (.one (.int .i64))) (fun v=>⟨rfl,fun d g=>by
  simp only[y3,enc,aC,dM,or_false]at g;rcases g with rfl | rfl<;>rfl⟩) j k e
theorem lM0 {P:Program} {T:Tab} (hT:B7 P T) {f:FuncId} {fn:Func} {t elem:TypeId} (hf:P.funcs[f]?=some fn) (a:(fn.name== "runtime.NumGoroutine")=false) (c:iW0 fn t=true) (b:fn.resultTypes.toList=[t])
  (h1:(T t).map TI.und=some (.slice elem)) (h2:(T elem).map TI.size=some 3) (i:(T elem).map TI.bytes=some 24) {x r:List (Int×Int×Int)} (h:G5 24 [] x=some r) :
  fu0 P f (y3 (.one (.sl (.cons (.int .i64) (.cons (.int .i64) (.one (.int .i64)))))) x) (enc (.sl (.cons (.int .i64) (.cons (.int .i64) (.one (.int .i64))))) r):=by
 obtain⟨e,j,k⟩:=kp0 h;exact ea0 hT hf a c b h1 h2 i (by decide) (l:=.cons (.int .i64) (.cons (.int .i64) (.one (.int .i64)))) (fun v=>⟨rfl,fun d g=>by
  simp only[y3,enc,aC,dM,or_false]at g;rcases g with rfl | rfl | rfl<;>rfl⟩) j k e
theorem lw0 {P:Program} {T:Tab} (hT:B7 P T) {f:FuncId} {fn:Func} {t elem:TypeId} (hf:P.funcs[f]?=some fn) (a:(fn.name== "runtime.NumGoroutine")=false) (c:iW0 fn t=true) (b:fn.resultTypes.toList=[t])
  (h1:(T t).map TI.und=some (.slice elem)) (h2:(T elem).map TI.size=some 1) (i:(T elem).map TI.bytes=some 8) {x r:List Int} (h:G5 8 [] x=some r) :
  fu0 P f (y3 (.one (.sl (.one (.int .i64)))) x) (enc (.sl (.one (.int .i64))) r):=by
 obtain⟨e,j,k⟩:=kp0 h;exact ea0 hT hf a c b h1 h2 i (by decide) (l:=.one (.int .i64)) (fun v=>⟨rfl,fun d g=>by
  simp only[y3,enc,aT]at g;rw[g];rfl⟩) j k e
end Go.Ab
namespace Go.Ab
open Go
theorem T8(xs:List Int)(y:Int)(hl:xs.length<2^62):E3 (xs,y)=some (if y∈xs then ((xs.idxOf y:Nat):Int)else -1):=by
 unfold E3;simp only[b9];refine(r8 (A:=Unit) xs (fun i _=>(i:Int)) (fun _ rest=>some (if y∈rest then ((xs.length-rest.length+rest.idxOf y:Nat):Int)else -1)) (by omega) ?_ ?_ ()).trans ?_
 ·intro rec a
  simp
 ·intro rec i a x rest hi d e
  have hlen:rest.length=xs.length-(i+1):=by have:=Ap gB d;simp at this;omega
  have c:((i:Int)<(xs.length:Int)):=by omega
  simp only[c,Ai,Ac,l9 d,b9];by_cases b:y=x
  ·subst b
   simp[hlen];omega
  have e1:aa.wrap ((i:Int)+1)=((i+1:Nat):Int):=by grind [w64]
  simp only[b,Ag,Aa,e1];rw[e ()]
  grind
 simp
theorem B0(xs:List Int)(y:Int)(hl:xs.length<2^62):l8 (xs,y)=some (decide (y∈xs)):=by unfold l8;simp only[T8 xs y hl,b9];by_cases h:y∈xs<;>simp[h]
abbrev Pt:=Int×Int
abbrev Nd:=Int×Int×Int
abbrev Ar:=Int×Int×Int×List Pt×Int×Int
def S3(ns:List Nd)(id:Int):Option Nd:=ns.find? fun n=>decide (n.1=id)
def cH0(ars:List Ar)(id:Int):Option Ar:=ars.find? fun a=>decide (a.1=id)
theorem O6{α:Type}{xs rest:List α}{i:Nat}{x:α}(h:xs.drop i=x::rest):i<xs.length/\rest.length=xs.length-(i+1)/\x∈xs:=by
 have h1:=Ap gB h
 grind [aX]
theorem l6{i n:Nat}(h:i<n)(a:n<2^62):aa.wrap ((i:Int)+1)=((i+1:Nat):Int):=by grind [w64]
theorem o9{i n:Nat}(h:i<n):decide ((i:Int)<(n:Int))=true:=by simpa using h
theorem r9(n:Nat):decide ((n:Int)<(n:Int))=false:=by simp
theorem cR0(ns:List Nd)(ars:List Ar)(fs:List Int)(id:Int)(hl:ns.length<2^62):S5 ((ns,ars,fs),id)=some (match S3 ns id with | some n=>(n,true) | none=>((0,0,0),false)):=by
 unfold S5;simp only[b9];refine(r8 (A:=Unit) ns (fun i _=>(i:Int)) (fun _ rest=>some (match S3 rest id with | some n=>(n,true) | none=>((0,0,0),false))) (by omega) ?_ ?_ ()).trans rfl
 ·intro rec a
  simp[S3]
 intro rec i a x rest hi b c;simp only[o9 hi,Ac,l9 b,b9,l6 hi hl];by_cases h:x.1=id
 ·subst h;simp[S3]
 simp only[h,Ag,Aa,c ()];simp[S3,h]
theorem iw0(ns:List Nd)(ars:List Ar)(fs:List Int)(id:Int)(hl:ars.length<2^62)(hv:∀ a∈ars,a.2.2.2.1.length<=1000000000):bd0 ((ns,ars,fs),id)=some (match cH0 ars id with | some a=>(a,true) | none=>((0,0,0,[],0,0),false)):=by
 unfold bd0;simp only[b9];refine(r8 (A:=Unit) ars (fun i _=>(i:Int)) (fun _ rest=>some (match cH0 rest id with | some n=>(n,true) | none=>((0,0,0,[],0,0),false))) (by omega) ?_ ?_ ()).trans rfl
 ·intro rec a
  simp[cH0]
 intro rec i a x rest hi b c;have d:=hv x (O6 b).2.2;have hc:slices_Clone_api_Point x.2.2.2.1=some x.2.2.2.1:=by grind [slices_Clone_api_Point,y7]
 simp only[o9 hi,Ac,l9 b,b9,l6 hi hl,hc];by_cases h:x.1=id
 ·subst h;simp[cH0]
 simp only[h,Ag,Aa,c ()];simp[cH0,h]
theorem ep0(ns:List Nd)(ars:List Ar)(fs:List Int)(f:ns.length<=1000000)(ha:ars.length<=1000000):M8 (ns,ars,fs)=some (ns.map (·.1),ars.map (·.1)):=by
 unfold M8;simp only[b9];refine(p6 (A:=List Int) ns (fun i a=>(a,(i:Int))) (fun a rest=>some (a++rest.map (·.1),ars.map (·.1))) (fun i a=>a.length=i) (by omega) ?_ ?_ [] rfl).trans rfl
 ·intro rec a g
  simp only[r9,Aa,bA,dv];refine(p6 (A:=List Int) ars (fun i a=>(a,(i:Int))) (fun b rest=>some (a,b++rest.map (·.1))) (fun i a=>a.length=i) (by omega) ?_ ?_ [] rfl).trans rfl
  ·intro rec b h
   simp[r9]
  intro rec i b x rest hi c d e;simp only[o9 hi,Ac,l9 d,b9,l6 hi (show ars.length<2^62 by omega)]
  grind [y7,b9]
 intro rec i a x rest hi c d e;simp only[o9 hi,Ac,l9 d,b9,l6 hi (show ns.length<2^62 by omega)]
 grind [y7,b9]
def D2(p:Pt):Bool:=decide (-2097152<=p.1)&&decide (p.1<=2097152)&&decide (-2097152<=p.2)&&decide (p.2<=2097152)
theorem eZ0(p:Pt):D2 p=true↔-2097152<=p.1/\p.1<=2097152/\-2097152<=p.2/\p.2<=2097152:=by simp[D2,and_assoc]
def ee0(a b c:Pt):Int:=(b.1-a.1)*(c.2-a.2)-(b.2-a.2)*(c.1-a.1)
theorem jI0{a b m n:Int}(h1:-m<=a)(h2:a<=m)(g:-n<=b)(h:b<=n):-(m*n)<=a*b/\a*b<=m*n:=by
 have hm:0<=m:=by omega
 have c:0<=n:=by omega
 have d:a.natAbs<=m.natAbs:=by omega
 have e:b.natAbs<=n.natAbs:=by omega
 have f:=iN d e;rw[<- iO,<-iO]at f;have i:0<=m*n:=bH hm c;omega
theorem sq0{a b c:Pt}(ha:D2 a=true)(d:D2 b=true)(hc:D2 c=true):-35184372088832<=ee0 a b c/\ee0 a b c<=35184372088832:=by rw[eZ0]at ha d hc;have h1:=jI0 (a:=b.1-a.1) (b:=c.2-a.2) (m:=4194304) (n:=4194304) (by omega) (by omega) (by omega) (by omega);have h2:=jI0 (a:=b.2-a.2) (b:=c.1-a.1) (m:=4194304) (n:=4194304) (by omega) (by omega) (by omega) (by omega);unfold ee0;omega
theorem fY0(l:List Pt)(hl:l.length<2^62):S7 l=some (l.all D2):=by
 unfold S7;refine(r8 (A:=Unit) l (fun i _=>(i:Int)) (fun _ rest=>some (rest.all D2)) (by omega) ?_ ?_ ()).trans rfl
 ·intro rec a
  simp
 intro rec i a x rest hi d e;simp only[o9 hi,Ac,l9 d,b9,l6 hi hl];rw[e ()];by_cases h1:x.1 < -2097152
 ·have:D2 x=false:=by simp[D2];omega
  simp[h1,this]
 by_cases h2:2097152<x.1
 ·have:D2 x=false:=by simp[D2];omega
  simp[h1,h2,this]
 by_cases b:x.2 < -2097152
 ·have:D2 x=false:=by simp[D2];omega
  simp[h1,h2,b,this]
 by_cases c:2097152<x.2
 ·have:D2 x=false:=by simp[D2];omega
  simp[h1,h2,b,c,this]
 have:D2 x=true:=by rw[eZ0];omega
 simp[h1,h2,b,c,this]
theorem ck0(a b c:Pt)(ha:D2 a=true)(d:D2 b=true)(hc:D2 c=true):U2 (a,b,c)=some (ee0 a b c):=by have f:=sq0 ha d hc;rw[eZ0]at ha d hc;have h1:=jI0 (a:=b.1-a.1) (b:=c.2-a.2) (m:=4194304) (n:=4194304) (by omega) (by omega) (by omega) (by omega);have h2:=jI0 (a:=b.2-a.2) (b:=c.1-a.1) (m:=4194304) (n:=4194304) (by omega) (by omega) (by omega) (by omega);unfold U2;simp only[b9];rw[w64 (n:=b.1-a.1) (by omega) (by omega),w64 (n:=c.2-a.2) (by omega) (by omega),w64 (n:=b.2-a.2) (by omega) (by omega),w64 (n:=c.1-a.1) (by omega) (by omega),w64 (n:=(b.1-a.1)*(c.2-a.2)) (by omega) (by omega),w64 (n:=(b.2-a.2)*(c.1-a.1)) (by omega) (by omega)];have e:aa.wrap ((b.1-a.1)*(c.2-a.2)-(b.2-a.2)*(c.1-a.1))=ee0 a b c:=w64 (n:=ee0 a b c) (by omega) (by omega);exact Ap some e
def jr0(a b c:Pt):Int:=if D2 a&&D2 b&&D2 c then ee0 a b c else 0
theorem yk0(a b c:Pt):S7 [(a.1,a.2),(b.1,b.2),(c.1,c.2)]=some (D2 a&&D2 b&&D2 c):=by rw[fY0 _ (by simp)];simp[iH]
theorem near4(a b c d:Pt):S7 [(a.1,a.2),(b.1,b.2),(c.1,c.2),(d.1,d.2)]=some (D2 a&&D2 b&&D2 c&&D2 d):=by rw[fY0 _ (by simp)];simp[iH]
theorem ke0(a b c:Pt):bL0 (a,b,c)=some (jr0 a b c):=by
 unfold bL0 jr0;simp only[b9,yk0];cases h:(D2 a&&D2 b&&D2 c)with
 | false=>simp
 | true=>simp only[ab]at h;simp only[aw,Aa,ck0 a b c h.1.1 h.1.2 h.2,b9,Al]
def W1(a b c:Pt):Int:=if 0<jr0 a b c then 1 else if jr0 a b c<0 then -1 else 0
theorem fP0(a b c:Pt):B1 (a,b,c)=some (W1 a b c):=by
 unfold B1 W1;simp only[b9,ke0];by_cases h1:0<jr0 a b c
 ·simp[h1]
 by_cases h2:jr0 a b c<0<;>simp[h1,h2]
theorem eC0(a b:Int):a_ mxI a [b]=max a b:=by simp only[a_,mxI];split<;>omega
theorem rt0(a b:Int):a_ mnI a [b]=min a b:=by simp only[a_,mnI];split<;>omega
def inBox(a b p:Pt):Bool:=decide (min a.1 b.1<=p.1)&&(decide (p.1<=max a.1 b.1)&&(decide (min a.2 b.2<=p.2)&&decide (p.2<=max a.2 b.2)))
def onP(a b p:Pt):Bool:=(D2 a&&D2 b&&D2 p)&&(decide (ee0 a b p=0)&&inBox a b p)
theorem dp0(a b p:Pt):A3 (a,b,p)=some (onP a b p):=by
 unfold A3 onP;simp only[b9,yk0];cases h:(D2 a&&D2 b&&D2 p)with
 | false=>simp
 | true=>simp only[ab]at h;simp only[aw,Aa,ck0 a b p h.1.1 h.1.2 h.2,b9,eC0,rt0,inBox];cases decide (ee0 a b p=0)<;>cases decide (min a.1 b.1<=p.1)<;>cases decide (p.1<=max a.1 b.1)<;>cases decide (min a.2 b.2<=p.2)<;>simp
def B3(a b:Pt):Bool:=decide (a.1<b.1)||(decide (a.1=b.1)&&decide (a.2<b.2))
theorem iI0(a b:Pt):o8 (a,b)=some (B3 a b):=by unfold o8 B3;simp only[b9];cases decide (a.1<b.1)<;>cases decide (a.1=b.1)<;>rfl
def eqP(a b:Pt):Bool:=decide (a.1=b.1)&&decide (a.2=b.2)
theorem mW0(a b:Pt):eqP a b=true↔a=b:=by simp[eqP,Prod.ext_iff]
def kF0(a b c d:Pt):Int :=
 let e:=if B3 b a then b else a
 let g:=if B3 b a then a else b
 let c':=if B3 d c then d else c
 let h:=if B3 d c then c else d
 let f:=if B3 e c' then c' else e
 let l:=if B3 h g then h else g
 if eqP f l then 1 else if B3 f l then 2 else 0
theorem iP0(a b c d:Pt):Y7 (a,b,c,d)=some (kF0 a b c d):=by
 unfold Y7 kF0;have e:∀ p q:Pt,(decide (p.1=q.1)&&decide (p.2=q.2))=eqP p q:=fun _ _=>rfl;have e2:∀ p q:Pt,o8 ((p.1,p.2),(q.1,q.2))=some (B3 p q):=fun p q=>iI0 p q;simp only[e2,b9,e];cases h1:B3 b a<;>cases h2:B3 d c<;>simp only[Ac,Aa,Al,Ah,au]
 ·cases g:B3 a c<;>cases h:B3 d b<;>simp only[Ac,Aa,Al,Ah,au]
  ·cases eqP a b<;>cases f:B3 a b<;>simp_all
  ·cases eqP a d<;>cases f:B3 a d<;>simp_all
  ·cases eqP c b<;>cases f:B3 c b<;>simp_all
  cases eqP c d<;>cases f:B3 c d<;>simp_all
 ·cases g:B3 a d<;>cases h:B3 c b<;>simp only[Ac,Aa,Al,Ah,au]
  ·cases eqP a b<;>cases f:B3 a b<;>simp_all
  ·cases eqP a c<;>cases f:B3 a c<;>simp_all
  ·cases eqP d b<;>cases f:B3 d b<;>simp_all
  cases eqP d c<;>cases f:B3 d c<;>simp_all
 ·cases g:B3 b c<;>cases h:B3 d a<;>simp only[Ac,Aa,Al,Ah,au]
  ·cases eqP b a<;>cases f:B3 b a<;>simp_all
  ·cases eqP b d<;>cases f:B3 b d<;>simp_all
  ·cases eqP c a<;>cases f:B3 c a<;>simp_all
  cases eqP c d<;>cases f:B3 c d<;>simp_all
 cases g:B3 b d<;>cases h:B3 c a<;>simp only[Ac,Aa,Al,Ah,au]
 ·cases eqP b a<;>cases f:B3 b a<;>simp_all
 ·cases eqP b c<;>cases f:B3 b c<;>simp_all
 ·cases eqP d a<;>cases f:B3 d a<;>simp_all
 cases eqP d c<;>cases f:B3 d c<;>simp_all
theorem gI0(a b c:Pt):W1 a b c=1\/W1 a b c=-1\/W1 a b c=0:=by
 unfold W1;split
 ·exact .inl rfl
 split
 ·exact .inr (.inl rfl)
 exact .inr (.inr rfl)
theorem sP0(a b c d e f:Pt):aa.wrap (W1 a b c*W1 d e f)=W1 a b c*W1 d e f:=by rcases gI0 a b c with h | h | h<;>rcases gI0 d e f with h' | h' | h'<;>rw[h,h']<;>exact w64 (by decide) (by decide)
def rh0(a b c d:Pt):Int :=
 if D2 a&&D2 b&&D2 c&&D2 d then
  if eqP a b then (if onP c d a then 1 else 0)else if eqP c d then (if onP a b c then 1 else 0)else if W1 a b c=0/\W1 a b d=0 then kF0 a b c d else if W1 a b c*W1 a b d<=0/\W1 c d a*W1 c d b<=0 then 1 else 0 else 0
theorem lu0(a b c d:Pt):bY0 (a,b,c,d)=some (rh0 a b c d):=by
 unfold bY0 rh0;have e:∀ p q:Pt,(decide (p.1=q.1)&&decide (p.2=q.2))=eqP p q:=fun _ _=>rfl;have e1:∀ p q r:Pt,A3 ((p.1,p.2),(q.1,q.2),(r.1,r.2))=some (onP p q r):=fun p q r=>dp0 p q r;have e2:∀ p q r:Pt,B1 ((p.1,p.2),(q.1,q.2),(r.1,r.2))=some (W1 p q r):=fun p q r=>fP0 p q r;have e3:∀ p q r s:Pt,Y7 ((p.1,p.2),(q.1,q.2),(r.1,r.2),(s.1,s.2))=some (kF0 p q r s):=fun p q r s=>iP0 p q r s;simp only[b9,near4,e,e1,e2,e3,sP0];cases h:(D2 a&&D2 b&&D2 c&&D2 d)with
 | false=>simp
 | true=>
  simp only[aw,Aa,Al];cases eqP a b with
  | true=>cases onP c d a<;>simp
  | false=>
   simp only[Aa,au,Ah];cases eqP c d with
   | true=>cases onP a b c<;>simp
   | false=>
    simp only[Aa,au,Ah];by_cases h1:W1 a b c=0
    ·by_cases h2:W1 a b d=0
     ·simp[h1,h2]
     by_cases f:W1 c d a*W1 c d b<=0<;>simp[h1,h2,f]
    by_cases g:W1 a b c*W1 a b d<=0
    ·by_cases f:W1 c d a*W1 c d b<=0<;>simp[h1,g,f]
    simp[h1,g]
def S6(o p:Pt):Bool:=decide (p.2<o.2)||(decide (p.2=o.2)&&decide (p.1<o.1))
theorem jM0(o p:Pt):U3 (o,p)=some (S6 o p):=by unfold U3 S6;simp only[b9];cases decide (p.2<o.2)<;>cases decide (p.2=o.2)<;>rfl
def bH0(o a b:Pt):Bool:=(D2 o&&D2 a&&D2 b)&&(!eqP a o&&(!eqP b o&&(if S6 o a=S6 o b then decide (0<ee0 o a b)else S6 o b)))
theorem lU0(o a b:Pt):ab0 (o,a,b)=some (bH0 o a b):=by
 unfold ab0 bH0;have e:∀ p q:Pt,(decide (p.1=q.1)&&decide (p.2=q.2))=eqP p q:=fun _ _=>rfl;have e1:∀ p q:Pt,U3 ((p.1,p.2),(q.1,q.2))=some (S6 p q):=fun p q=>jM0 p q;simp only[b9,yk0,e,e1];cases h:(D2 o&&D2 a&&D2 b)with
 | false=>simp
 | true=>simp only[ab]at h;have e2:U2 ((o.1,o.2),(a.1,a.2),(b.1,b.2))=some (ee0 o a b):=ck0 o a b h.1.1 h.1.2 h.2;simp only[aw,Aa,e2,b9];cases eqP a o<;>cases eqP b o<;>cases S6 o a<;>cases S6 o b<;>simp
def db0(ars:List Ar)(id:Int):Nat:=(ars.map fun a=>(if a.2.1=id then 1 else 0)+(if a.2.2.1=id then 1 else 0)).sum
theorem dH0(ns:List Nd)(ars:List Ar)(fs:List Int)(id:Int)(ha:ars.length<=1000000):Y3 ((ns,ars,fs),id)=some ((db0 ars id:Nat):Int):=by
 unfold Y3;simp only[b9];refine(p6 (A:=Nat) ars (fun i a=>((i:Int),(a:Int))) (fun a rest=>some ((a+db0 rest id:Nat):Int)) (fun i a=>a<=2*i) (by omega) ?_ ?_ 0 (by omega)).trans (by simp)
 ·intro rec a c
  simp[db0]
 intro rec i a x rest hi c d b;have e0:=l6 hi (show ars.length<2^62 by omega);have e1:aa.wrap ((a:Int)+1)=((a+1:Nat):Int):=by rw[w64 (by omega) (by omega)];omega
 have e2:aa.wrap (((a+1:Nat):Int)+1)=((a+2:Nat):Int):=by rw[w64 (by omega) (by omega)];omega
 simp only[o9 hi,Ac,l9 d,b9,e0,e1,e2];by_cases h1:x.2.1=id<;>by_cases h2:x.2.2.1=id
 ·simp only[h1,h2,Ai,Ac]
  rw[b _ (by omega)];simp only[db0,ay,cA,h1,h2,Al];congr 2;omega
 ·simp only[h1,h2,Ai,Ag,Ac,Aa]
  rw[b _ (by omega)];simp only[db0,ay,cA,h1,h2,Al,Ah];congr 2;omega
 ·simp only[h1,h2,Ai,Ag,Ac,Aa]
  rw[b _ (by omega)];simp only[db0,ay,cA,h1,h2,Al,Ah];congr 2;omega
 simp only[h1,h2,Ai,Ag,Ac,Aa];rw[b _ (by omega)];simp only[db0,ay,cA,h1,h2,Al,Ah];congr 2;omega
def iG0:List Int->Bool
 | []=>true
 | [_]=>true
 | a::b::l=>decide (a<b)&&iG0 (b::l)
theorem X6(xs:List Int)(hl:xs.length<2^62):J8 xs=some (iG0 xs):=by
 unfold J8;cases xs with
 | nil=>exact bS0 fun rec=>by simp[iG0]
 | cons y ys=>
  simp only[ax]at hl;refine(p6 (A:=Int) ys (fun i a=>((i:Int)+1)) (fun a rest=>some (iG0 (a::rest))) (fun i a=>(y::ys)[i]?=some a) (by omega) ?_ ?_ y rfl).trans rfl
  ·intro rec a b
   simp[iG0]
  intro rec i a x rest hi b c d;have e1:decide ((i:Int)+1<(((y::ys).length:Nat):Int))=true:=by simp only[ax,Ad];omega
  have e2:aa.wrap ((i:Int)+1-1)=((i:Nat):Int):=by rw[w64 (by omega) (by omega)];omega
  have e3:aa.wrap ((i:Int)+1+1)=((i+1:Nat):Int)+1:=by rw[w64 (by omega) (by omega)];omega
  have e4:nth (y::ys) ((i:Int)+1)=some x:=by
   have:((i:Int)+1)=((i+1:Nat):Int):=by omega
   rw[this,r7,aI,<-r7,l9 c]
  simp only[b9,e1,Ac,e2,r7,b,e4,e3];have e5:(y::ys)[i+1]?=some x:=by rw[<- r7];rw[<- e4];congr 1
  rw[d x e5];by_cases h:x<=a
  ·have:¬ a<x:=by omega
   simp[h,iG0,this]
  have:a<x:=by omega
  simp[h,iG0,this]
def pathOf(ns:List Nd)(ars:List Ar)(id:Int):Option (List Pt):=match cH0 ars id with
 | none=>none
 | some a=>match S3 ns a.2.1,S3 ns a.2.2.1 with
  | some f,some t=>some ((f.2.1,f.2.2)::(a.2.2.2.1++[(t.2.1,t.2.2)]))
  | _,_=>none
theorem wA0{α:Type}{z:α}{n:Int}(a:0<n)(h1:n<=1000000):uZ0 16 z n=some (List.replicate n.toNat z):=by
 unfold uZ0;have e1:decide (aa.wrap n=n)=true:=by rw[w64 (by omega) (by omega)];simp
 have e2:decide (0<n)=true:=by simpa using a
 have e3:decide ((2*n.toNat+1000)*16<=2^48)=true:=by simp only[Ad];omega
 have e4:decide (n.toNat<=2^62)=true:=by simp only[Ad];omega
 rw[e1,e2,e3,e4];rfl
theorem lY0{ars:List Ar}{id:Int}{a:Ar}(h:cH0 ars id=some a):a∈ars:=bj h
theorem fZ0(ns:List Nd)(ars:List Ar)(fs:List Int)(id:Int)(d:ns.length<=1000000)(ha:ars.length<=1000000)(hv:∀ a∈ars,a.2.2.2.1.length<=900000) :
  M7 ((ns,ars,fs),id)=some (match pathOf ns ars id with | some l=>(l,0) | none=>([],7)):=by
 unfold M7;simp only[iw0 ns ars fs _ (show ars.length<2^62 by omega) (fun a h=>by have:=hv a h;omega),cR0 ns ars fs _ (show ns.length<2^62 by omega),b9];unfold pathOf;cases c:cH0 ars id with
 | none=>simp
 | some a=>
  have b:=hv a (lY0 c);simp only[aw,Aa];cases hF:S3 ns a.2.1 with
  | none=>simp
  | some f=>
   simp only[aw,Aa];cases hT:S3 ns a.2.2.1 with
   | none=>simp
   | some t=>
    simp only[aw,Aa];generalize e:a.2.2.2.1=via at b;have e1:aa.wrap (1+(via.length:Int))=1+via.length:=w64 (by omega) (by omega);have e2:aa.wrap (1+(via.length:Int)+1)=via.length+2:=by rw[w64 (by omega) (by omega)];omega
    have e3:decide (1+(via.length:Int)<0)=false:=by simp only[An];omega
    have e4:decide ((via.length:Int)+2<0)=false:=by simp only[An];omega
    have e5:aa.wrap ((via.length:Int)+2-0)=via.length+2:=by rw[w64 (by omega) (by omega)];omega
    have e6:decide (0<(via.length:Int)+2)=true:=by simp only[Ad];omega
    simp only[e1,e2,e3,e4,e5,e6,Aa,Ac];rw[wA0 (by omega) (by omega)];simp only[b9];rw[y7 (by omega) (by simp)];simp only[b9,bG];rw[y7 (by omega) (by simp;omega)];simp only[b9];rw[y7 (by omega) (by simp;omega)];simp
theorem pk0{ns:List Nd}{ars:List Ar}{id:Int}{l:List Pt}(h:pathOf ns ars id=some l):∃ a,cH0 ars id=some a/\l.length=a.2.2.2.1.length+2:=by
 unfold pathOf at h;split at h
 ·cases h
 rename_i a ha;split at h
 ·cases h;exact⟨a,ha,by simp⟩
 cases h
def jo0(n:Int):Bool:=decide (1<=n)&&decide (n<=1073741824)
theorem aj0(xs:List Int)(hl:xs.length<2^62):M3 xs=some (xs.all jo0):=by
 unfold M3;have h1:∀ n,O9 n=some (!(jo0 n)):=fun n=>by
  unfold O9 jo0;by_cases h1:n<1
  ·have:¬ 1<=n:=by omega
   simp[h1,this]
  have b:1<=n:=by omega
  by_cases h2:1073741824<n
  ·have:¬ n<=1073741824:=by omega
   simp[h1,h2,b,this]
  have:n<=1073741824:=by omega
  simp[h1,h2,b,this]
 have h2:w7 (xs,())=some (!(xs.all jo0)):=by
  unfold w7;simp only[b9];refine(r8 (A:=Unit) xs (fun i _=>(i:Int)) (fun _ rest=>some (!(rest.all jo0))) (by omega) ?_ ?_ ()).trans rfl
  ·intro rec a;simp
  intro rec i a x rest hi c d;simp only[o9 hi,Ac,l9 c,b9,l6 hi hl,h1];rw[d ()];cases h:jo0 x<;>simp[bZ,h]
 simp only[h2,b9,Bool.not_not]
def fx0(p:Pt):Bool:=decide (-1048576<=p.1)&&decide (p.1<=1048576)&&decide (-1048576<=p.2)&&decide (p.2<=1048576)
theorem if0{p:Pt}(h:fx0 p=true):D2 p=true:=by simp only[fx0,ab,Ad]at h;rw[eZ0];omega
theorem cC0(p:Pt):M0 p=some (!(fx0 p)):=by
 unfold M0 fx0;by_cases h1:p.1 < -1048576
 ·have:¬ -1048576<=p.1:=by omega
  simp[h1,this]
 by_cases h2:1048576<p.1
 ·have:¬ p.1<=1048576:=by omega
  simp[h1,h2,this]
 by_cases a:p.2 < -1048576
 ·have:¬ -1048576<=p.2:=by omega
  simp[h1,h2,a,this]
 have c:-1048576<=p.1:=by omega
 have a2:p.1<=1048576:=by omega
 have a3:-1048576<=p.2:=by omega
 by_cases b:1048576<p.2
 ·have:¬ p.2<=1048576:=by omega
  simp[h1,h2,a,b,this]
 have:p.2<=1048576:=by omega
 simp[h1,h2,a,b,c,a2,a3,this]
theorem iK0(l:List Pt)(hl:l.length<2^62):u5 (l,())=some (!(l.all fx0)):=by
 unfold u5;simp only[b9];refine(r8 (A:=Unit) l (fun i _=>(i:Int)) (fun _ rest=>some (!(rest.all fx0))) (by omega) ?_ ?_ ()).trans rfl
 ·intro rec a;simp
 intro rec i a x rest hi b c;have e:M0 (x.1,x.2)=some (!(fx0 x)):=cC0 x;simp only[o9 hi,Ac,l9 b,b9,l6 hi hl,e];rw[c ()];cases h:fx0 x<;>simp[bZ,h]
theorem iH0(ns:List Nd)(ars:List Ar)(fs:List Int)(d:ns.length<=1000000)(ha:ars.length<=1000000)(hv:∀ a∈ars,a.2.2.2.1.length<=900000) :
  aH0 (ns,ars,fs)=some ((ns.all fun n=>fx0 (n.2.1,n.2.2))&&(ars.all fun a=>a.2.2.2.1.all fx0)):=by
 unfold aH0;simp only[b9];refine(r8 (A:=Unit) ns (fun i _=>(i:Int)) (fun _ rest=>some ((rest.all fun n=>fx0 (n.2.1,n.2.2))&&(ars.all fun a=>a.2.2.2.1.all fx0))) (by omega) ?_ ?_ ()).trans rfl
 ·intro rec a
  simp only[r9,Aa,fU,dt];refine(r8 (A:=Unit) ars (fun i _=>(i:Int)) (fun _ rest=>some (rest.all fun a=>a.2.2.2.1.all fx0)) (by omega) ?_ ?_ ()).trans rfl
  ·intro rec a;simp
  intro rec i a x rest hi b c;have e:=hv x (O6 b).2.2;simp only[o9 hi,Ac,l9 b,b9,l6 hi (show ars.length<2^62 by omega),iK0 x.2.2.2.1 (by omega)];rw[c ()];cases h:x.2.2.2.1.all fx0<;>simp[h]
 intro rec i a x rest hi b c;simp only[o9 hi,Ac,l9 b,b9,l6 hi (show ns.length<2^62 by omega),cC0];rw[c ()];cases h:fx0 (x.2.1,x.2.2)<;>simp[h]
def rV0(n m:Nd):Bool:=eqP (n.2.1,n.2.2) (m.2.1,m.2.2)
def xa0:List Nd->List Nd->Bool
 | _,[]=>false
 | pre,n::rest=>pre.any (rV0 n)||xa0 (pre++[n]) rest
def as0(ns:List Nd)(ars:List Ar)(fs nodes:List Int):Int :=bif xa0 [] ns then 8 else bif ars.any (fun a=>!(decide (a.2.1∈nodes)&&decide (a.2.2.1∈nodes)))then 7 else bif ars.any (fun a=>!((decide (a.2.2.2.2.1=0)||decide (a.2.2.2.2.1∈fs))&&(decide (a.2.2.2.2.2=0)||decide (a.2.2.2.2.2∈fs))))then 12 else 0
theorem fo0(ns:List Nd)(ars:List Ar)(fs nodes:List Int)(p:ns.length<=1000000)(ha:ars.length<=1000000)(hf:fs.length<=1000000)(n:nodes.length<=1000000) :
  S8 ((ns,ars,fs),nodes)=some (as0 ns ars fs nodes):=by
 have d:∀ y,l8 (nodes,y)=some (decide (y∈nodes)):=fun y=>B0 nodes y (by omega);have e:∀ y,l8 (fs,y)=some (decide (y∈fs)):=fun y=>B0 fs y (by omega);unfold S8;simp only[b9,d,e];refine(r8 (A:=Unit) ns (fun i _=>(i:Int)) (fun _ rest=>some (bif xa0 (ns.take (ns.length-rest.length)) rest then 8 else bif ars.any (fun a=>!(decide (a.2.1∈nodes)&&decide (a.2.2.1∈nodes)))then 7 else bif ars.any (fun a=>!((decide (a.2.2.2.2.1=0)||decide (a.2.2.2.2.1∈fs))&&(decide (a.2.2.2.2.2=0)||decide (a.2.2.2.2.2∈fs))))then 12 else 0)) (by omega) ?_ ?_ ()).trans (by simp[as0])
 ·intro rec u
  simp only[r9,Aa,xa0,Aa];refine(r8 (A:=Unit) ars (fun i _=>(i:Int)) (fun _ rest=>some (bif rest.any (fun a=>!(decide (a.2.1∈nodes)&&decide (a.2.2.1∈nodes)))then 7 else bif ars.any (fun a=>!((decide (a.2.2.2.2.1=0)||decide (a.2.2.2.2.1∈fs))&&(decide (a.2.2.2.2.2=0)||decide (a.2.2.2.2.2∈fs))))then 12 else 0)) (by omega) ?_ ?_ ()).trans rfl
  ·intro rec u
   simp only[r9,Aa,List.any_nil,Aa];refine(r8 (A:=Unit) ars (fun i _=>(i:Int)) (fun _ rest=>some (bif rest.any (fun a=>!((decide (a.2.2.2.2.1=0)||decide (a.2.2.2.2.1∈fs))&&(decide (a.2.2.2.2.2=0)||decide (a.2.2.2.2.2∈fs))))then 12 else 0)) (by omega) ?_ ?_ ()).trans rfl
   ·intro rec u
    simp
   intro rec i u x rest hi b c;simp only[o9 hi,Ac,l9 b,b9,l6 hi (show ars.length<2^62 by omega)];rw[c ()]
   grind
  intro rec i u x rest hi b c;simp only[o9 hi,Ac,l9 b,b9,l6 hi (show ars.length<2^62 by omega)];rw[c ()]
  grind
 intro rec i u x rest hi b c;have o:=O6 b;have e1:ns.length-(x::rest).length=i:=by simp;omega
 have e2:ns.length-rest.length=i+1:=by omega
 have e3:ns.take (i+1)=ns.take i++[x]:=by grind
 simp only[o9 hi,Ac,l9 b,b9,l6 hi (show ns.length<2^62 by omega),qf0 (Nat.le_of_lt hi)];simp only[e1,xa0];have f:=c ();rw[e2,e3]at f;have g:(ns.take i).length<2^62:=by simp;omega
 refine(r8 (A:=Unit) (ns.take i) (fun i _=>(i:Int)) (fun _ l=>some (bif (l.any (rV0 x)||xa0 (ns.take i++[x]) rest)then 8 else bif ars.any (fun a=>!(decide (a.2.1∈nodes)&&decide (a.2.2.1∈nodes)))then 7 else bif ars.any (fun a=>!((decide (a.2.2.2.2.1=0)||decide (a.2.2.2.2.1∈fs))&&(decide (a.2.2.2.2.2=0)||decide (a.2.2.2.2.2∈fs))))then 12 else 0)) (by omega) ?_ ?_ ()).trans rfl
 ·grind
 intro m j u y l hj h k;have e4:(decide (x.2.1=y.2.1)&&decide (x.2.2=y.2.2))=rV0 x y:=rfl;simp only[o9 hj,Ac,l9 h,b9,l6 hj g,e4];rw[k ()]
 grind
abbrev Ln:=Int×Int×Int×List Pt×Int×Int×List Pt
abbrev Sg:=Ln×Int
def Ln.path(l:Ln):List Pt:=l.2.2.2.2.2.2
def mkLn(a:Ar)(l:List Pt):Ln:=(a.1,a.2.1,a.2.2.1,a.2.2.2.1,a.2.2.2.2.1,a.2.2.2.2.2,l)
def iA0(a:Ar)(l:List Pt):List Sg:=(bE (l.length-1)).map fun (i:Nat)=>(mkLn a l,(i:Int))
def ow0:List Pt->Bool
 | []=>true
 | [_]=>true
 | p::q::l=>!(eqP p q)&&ow0 (q::l)
def V6(ns:List Nd)(ars:List Ar):List Ar->Option (List Sg)
 | []=>some []
 | a::b=>match pathOf ns ars a.1 with
  | none=>none
  | some l=>bif (decide (a.2.1=a.2.2.1)&&decide (l.length<4))||!(ow0 l)then none else match V6 ns ars b with
   | some r=>some (iA0 a l++r)
   | none=>none
theorem wS0{β:Type}(a:Ar)(l:List Pt)(acc:List Sg)(K:List Sg×Int->Option β)(bad:β)(hl:l.length<=1000000)(f:2<=l.length)(n:acc.length<=300000000) :
  rounds (α:=List ((Int×Int×Int×List (Int×Int)×Int×Int×List (Int×Int))×Int)×Int) (β:=β) (fun k x=>
    b8 (some (decide (x.2<aa.wrap ((l.length:Int)-1)))) fun v25=>
    bif v25 then (
     b8 (nth l x.2) fun v26=>
     b8 (some (aa.wrap (x.2+(1:Int)))) fun v28=>
     b8 (nth l v28) fun v29=>
     b8 (some ((fun (a b:Int×Int)=>(decide (a.1=b.1)&&decide (a.2=b.2))) (v26.1,v26.2) (v29.1,v29.2))) fun v31=>
     bif v31 then (
     some bad)else (
     b8 (G5 16 x.1 [((a.1,a.2.1,a.2.2.1,a.2.2.2.1,a.2.2.2.2.1,a.2.2.2.2.2,l),x.2)]) fun v32=>
     b8 (some (aa.wrap (x.2+(1:Int)))) fun v33=>
     k (v32,v33)))else K x) (acc,(0:Int))=bif ow0 l then K (acc++iA0 a l,(l.length:Int)-1)else some bad:=by
 cases l with
 | nil=>simp at f
 | cons p c=>
  simp only[ax]at hl f;have e0:aa.wrap (((p::c).length:Nat)-1:Int)=(c.length:Int):=by rw[ax,w64 (by omega) (by omega)];omega
  simp only[b9,e0];refine(p6 (A:=List Sg) c (fun i s=>(s,(i:Int))) (fun s rest=>bif ow0 ((p::c).drop (c.length-rest.length))then K (acc++iA0 a (p::c),(c.length:Int))else some bad)
   (fun i s=>s=acc++(bE i).map fun (j:Nat)=>(mkLn a (p::c),(j:Int))) (by omega) ?_ ?_ acc (by simp)).trans (by
    have:(((p::c).length:Nat):Int)-1=c.length:=by rw[ax];omega
    rw[this];simp)
  ·intro rec s hs
   have e1:ow0 ((p::c).drop c.length)=true:=by
    have:((p::c).drop c.length).length=1:=by simp
    match h:(p::c).drop c.length,this with
    | [x],_=>rfl
   simp only[r9,Aa,aU,Nat.sub_zero,e1,Ac];subst hs;rfl
  intro rec i s x rest hi o g r;have t:=O6 g;have e:c.length-(x::rest).length=i:=by simp;omega
  have d:c.length-rest.length=i+1:=by omega
  have e1:nth (p::c) (i:Int)=some ((p::c)[i]'(by simp;omega)):=by rw[r7];exact ae _
  have e2:nth (p::c) ((i+1:Nat):Int)=some x:=by rw[r7,aI,<-r7];exact l9 g
  have e3:=l6 hi (show c.length<2^62 by omega);have q:(p::c).drop (i+1)=x::rest:=by simpa using g
  have m:(p::c).drop i=(p::c)[i]'(by simp;omega)::x::rest:=by rw[bw (by simp;omega),q]
  rw[e,m];have hlen:s.length<=300000000+i:=by rw[o];simp;omega
  simp only[o9 hi,Ac,e1,b9,e3,e2];rw[y7 (by omega) (by simp;omega)];have e5:(decide (((p::c)[i]'(by simp;omega)).1=x.1)&&decide (((p::c)[i]'(by simp;omega)).2=x.2))=eqP ((p::c)[i]'(by simp;omega)) x:=rfl;simp only[b9,e5];rw[r _ (by rw[o,List.range_succ,cF];simp[mkLn]),d,q];simp only[ow0];cases eqP ((p::c)[i]'(by simp;omega)) x<;>simp
structure pz0(s:Sg):Prop where
 lo:0<=s.2
 hi:s.2+1<s.1.path.length
 len:s.1.path.length<=1000000
def sgA(s:Sg):Pt:=(s.1.path[s.2.toNat]?).getD (0,0)
def sgB(s:Sg):Pt:=(s.1.path[s.2.toNat+1]?).getD (0,0)
theorem bw0{s:Sg}(h:pz0 s):u6 s=some (sgA s,sgB s):=by
 obtain⟨l,i⟩:=s;obtain⟨h1,h2,a⟩:=h;simp only at h1 h2 a;unfold u6 sgA sgB;have e1:aa.wrap (i+1)=i+1:=w64 (by omega) (by omega);have e2:nth l.path i=some (l.path[i.toNat]'(by omega)):=by rw[ml0 h1];exact ae _
 have e3:nth l.path (i+1)=some (l.path[i.toNat+1]'(by omega)):=by
  rw[ml0 (by omega)];have:(i+1).toNat=i.toNat+1:=by omega
  rw[this];exact ae _
 simp only[b9,e1];show b8 (nth l.path i) _=_;rw[e2];simp only[b9];show b8 (nth l.path (i+1)) _=_;rw[e3];simp only[b9];have e4:l.path[i.toNat]?=some (l.path[i.toNat]'(by omega)):=ae _;have e5:l.path[i.toNat+1]?=some (l.path[i.toNat+1]'(by omega)):=ae _;rw[e4,e5];rfl
def sgW(s:Sg):Int:=min (sgA s).1 (sgB s).1
def sgE(s:Sg):Int:=max (sgA s).1 (sgB s).1
theorem mJ0{s:Sg}(h:pz0 s):A8 s=some (sgW s):=by unfold A8;have:u6 (s.1,s.2)=some (sgA s,sgB s):=bw0 h;simp only[this,b9,rt0];rfl
theorem wF0{s:Sg}(h:pz0 s):H7 s=some (sgE s):=by unfold H7;have:u6 (s.1,s.2)=some (sgA s,sgB s):=bw0 h;simp only[this,b9,eC0];rfl
def bt0(s:Sg):Bool:=decide (s.2=0)
def cZ0(s:Sg):Bool:=decide (s.2=(s.1.path.length:Int)-2)
theorem oq0(s:Sg):y8 s=some (bt0 s):=by unfold y8 bt0;simp
theorem mI0{s:Sg}(h:pz0 s):w5 s=some (cZ0 s):=by unfold w5 cZ0;have hl:=h.len;have e:aa.wrap ((s.1.path.length:Int)-2)=(s.1.path.length:Int)-2:=w64 (by omega) (by omega);simp only[b9];show some (decide (s.2=aa.wrap ((s.1.path.length:Int)-2)))=_;rw[e]
theorem qF0{a:Ar}{l:List Pt}{s:Sg}(h:s∈iA0 a l):∃ i:Nat,i+1<l.length/\s=(mkLn a l,(i:Int)):=by unfold iA0 at h;obtain⟨i,hi,rfl⟩:=aY.1 h;rw[List.mem_range]at hi;exact⟨i,by omega,rfl⟩
theorem tQ0{a:Ar}{l:List Pt}(hl:l.length<=1000000){s:Sg}(h:s∈iA0 a l):pz0 s:=by obtain⟨i,hi,rfl⟩:=qF0 h;exact⟨by simp,by show ((i:Int)+1<(l.length:Int));omega,hl⟩
def mkMap(ns:List Nd)(m:List (Int×Pt)):List (Int×Pt):=ns.foldl (fun m n=>I9 (fun (a b:Int)=>decide (a=b)) n.1 (n.2.1,n.2.2) m) m
abbrev qI:Int->Int->Bool:=fun a b=>decide (a=b)
theorem pC0(a b:Int):qI a b=decide (a=b):=rfl
theorem W5{V:Type}(k c:Int)(v:V):∀ m:List (Int×V),lkp qI k (I9 qI c v m)=if k=c then some v else lkp qI k m
 | []=>by by_cases h:k=c<;>simp[I9,lkp,h,pC0]
 | p::m=>by
  have d:=W5 k c v m;simp only[I9,pC0];by_cases h1:c=p.1
  ·simp only[h1,Ai,Ac,lkp,pC0]
   by_cases h:k=p.1<;>simp[h]
  simp only[h1,Ag,Aa,lkp,pC0];by_cases h:k=p.1
  ·have:¬ k=c:=fun e=>h1 (by rw[<- e,h])
   simp[h];exact fun e=>Am e.symm h1
  have f:lkp (fun a b=>decide (a=b)) k (I9 qI c v m)=if k=c then some v else lkp qI k m:=d
  simp[h];exact d
def gh0(m:List (Int×Pt))(id:Int):Pt:=(lkp qI id m).getD (0,0)
def gN0(s t:Sg)(m:List (Int×Pt)):Bool :=
 let c:=rh0 (sgA s) (sgB s) (sgA t) (sgB t)
 bif decide (s.1.1=t.1.1)then
  (bif decide (t.2<s.2)then
   (bif decide (t.2+1=s.2)||(decide (t.1.2.1=t.1.2.2.1)&&(bt0 t&&cZ0 s))then decide (c=1)else decide (c=0))else (bif decide (s.2+1=t.2)||(decide (s.1.2.1=s.1.2.2.1)&&(bt0 s&&cZ0 t))then decide (c=1)else decide (c=0)))else bif decide (c=1)then
  ((decide (s.1.2.1=t.1.2.1)||decide (s.1.2.1=t.1.2.2.1))&&(onP (sgA s) (sgB s) (gh0 m s.1.2.1)&&onP (sgA t) (sgB t) (gh0 m s.1.2.1))) ||
  ((decide (s.1.2.2.1=t.1.2.1)||decide (s.1.2.2.1=t.1.2.2.1))&&(onP (sgA s) (sgB s) (gh0 m s.1.2.2.1)&&onP (sgA t) (sgB t) (gh0 m s.1.2.2.1)))else decide (c=0)
theorem pW0(m:List (Int×Pt))(id:Int):orO (lkp (fun (a b:Int)=>decide (a=b)) id m) (some ((0:Int),(0:Int)))=some (gh0 m id):=by unfold gh0;show orO (lkp qI id m) _=_;cases lkp qI id m<;>rfl
theorem kf0{s t:Sg}(hs:pz0 s)(e:pz0 t)(m:List (Int×Pt)):K5 (s,t,m)=some (gN0 s t m):=by
 have f:=hs.hi;have g:=e.hi;have h:=hs.len;have i:=e.len;have j:=hs.lo;have k:=e.lo;have e1:u6 (s.1,s.2)=some (sgA s,sgB s):=bw0 hs;have e2:u6 (t.1,t.2)=some (sgA t,sgB t):=bw0 e;have e3:∀ a b c d:Pt,bY0 ((a.1,a.2),(b.1,b.2),(c.1,c.2),(d.1,d.2))=some (rh0 a b c d):=fun a b c d=>lu0 a b c d;have e4:∀ a b c:Pt,A3 ((a.1,a.2),(b.1,b.2),(c.1,c.2))=some (onP a b c):=fun a b c=>dp0 a b c;have e5:∀ s:Sg,y8 (s.1,s.2)=some (bt0 s):=fun s=>oq0 s;have e6:w5 (s.1,s.2)=some (cZ0 s):=mI0 hs;have e7:w5 (t.1,t.2)=some (cZ0 t):=mI0 e;have e8:aa.wrap (t.2+1)=t.2+1:=w64 (by omega) (by omega);have e9:aa.wrap (s.2+1)=s.2+1:=w64 (by omega) (by omega);unfold K5 gN0;simp only[e1,e2,e3,e4,e5,e6,e7,e8,e9,b9,pW0];generalize rh0 (sgA s) (sgB s) (sgA t) (sgB t)=c;generalize onP (sgA s) (sgB s) (gh0 m s.1.2.1)=o1;generalize onP (sgA t) (sgB t) (gh0 m s.1.2.1)=o2;generalize onP (sgA s) (sgB s) (gh0 m s.1.2.2.1)=o3;generalize onP (sgA t) (sgB t) (gh0 m s.1.2.2.1)=o4;generalize bt0 s=f1;generalize bt0 t=f2;generalize cZ0 s=l1;generalize cZ0 t=l2;generalize decide (s.1.2.1=t.1.2.1)=d1;generalize decide (s.1.2.1=t.1.2.2.1)=d2;generalize decide (s.1.2.2.1=t.1.2.1)=d3;generalize decide (s.1.2.2.1=t.1.2.2.1)=d4;generalize decide (c=1)=c1;generalize decide (c=0)=l;generalize decide (t.2+1=s.2)=g1;generalize decide (s.2+1=t.2)=g2;generalize decide (s.1.2.1=s.1.2.2.1)=g3;generalize decide (t.1.2.1=t.1.2.2.1)=g4;generalize decide (t.2<s.2)=g5;cases decide (s.1.1=t.1.1)
 ·cases c1
  ·rfl
  cases d1<;>cases d2<;>cases d3<;>cases d4<;>cases o1<;>cases o2<;>cases o3<;>cases o4<;>rfl
 cases g5
 ·cases g2<;>cases g3<;>cases f1<;>cases l2<;>rfl
 cases g1<;>cases g4<;>cases f2<;>cases l1<;>rfl
open Go.Proofs Go.Shelf Go.Sort
def nz0(a b:Int):Int:=if a<b then -1 else if b<a then 1 else 0
theorem cmp_eq(a b:Int):p8 (a,b)=some (nz0 a b):=by
 have h:∀ n,y4 n=some false:=fun n=>by unfold y4;simp
 unfold p8 nz0;simp only[h,b9,Aa];by_cases h1:a<b
 ·simp[h1]
 by_cases h2:b<a<;>simp[h1,h2]
theorem O4{a b:Int}:nz0 a b<0↔a<b:=by
 unfold nz0;by_cases h1:a<b
 ·simp[h1]
 by_cases h2:b<a<;>simp[h1,h2]
def rN0(s t:Sg):Int:=nz0 (sgW s) (sgW t)
theorem ga0(l:List Sg):Ordered rN0 l :=ax0 (fun x _=>by unfold rN0;rw[O4];omega) (fun x _ y _ z _ a b=>by unfold rN0 at *;rw[O4]at *;omega) (fun x _ y _ z _ a b=>by unfold rN0 at *;rw[O4]at *;omega)
theorem mO0{l:List Sg}(hs:∀ s∈l,pz0 s)(hl:l.length<4611686018427387904):slices_SortFunc_plan_segment_plan_planar_1 (l,2,())=some (Z9 rN0 l):=by unfold slices_SortFunc_plan_segment_plan_planar_1;simp only[Ai,Ac];refine dr0 (fun x a y b=>?_) (ga0 l) hl;unfold U8;have e1:A8 (x.1,x.2)=some (sgW x):=mJ0 (hs x a);have e2:A8 (y.1,y.2)=some (sgW y):=mJ0 (hs y b);simp only[e1,e2,b9,cmp_eq];rfl
def dm0(s:Sg)(n:Nd):Bool:=!(onP (sgA s) (sgB s) (n.2.1,n.2.2))||((bt0 s&&decide (s.1.2.1=n.1))||(cZ0 s&&decide (s.1.2.2.1=n.1)))
def jy0(s:Sg)(m:List (Int×Pt)):List Sg->Bool
 | []=>true
 | t::r=>bif decide (sgE s<sgW t)then true else gN0 s t m&&jy0 s m r
def goB(ns:List Nd)(m:List (Int×Pt)):List Sg->Bool
 | []=>true
 | s::r=>jy0 s m r&&(ns.all (dm0 s)&&goB ns m r)
def es0(ns:List Nd)(ars:List Ar):Bool:=match V6 ns ars ars with
 | none=>false
 | some l=>goB ns (mkMap ns []) (Z9 rN0 l)
theorem sz0(ns:List Nd)(r:ns.length<=1000000){s:Sg}(hs:pz0 s)(K:Option Bool) :
  rounds (α:=Int) (β:=Bool) (fun k x=>
   b8 (some (decide (x<(ns.length:Int)))) fun h=>
   bif h then (
    b8 (nth ns x) fun v35=>
    b8 (u6 (s.1,s.2)) fun d=>
    b8 (A3 ((d.1.1,d.1.2),(d.2.1,d.2.2),(v35.2.1,v35.2.2))) fun j=>
    bif j then (
    b8 (y8 (s.1,s.2)) fun e=>
    bif e then (
     b8 (some ()) fun v44=>
     b8 (some s.1) fun v44=>
     b8 (some (decide (v44.2.1=v35.1))) fun v51=>
     b8 (some (!(v51))) fun g=>
     bif g then (
     b8 (w5 (s.1,s.2)) fun v53=>
     bif v53 then (
      b8 (some ()) fun v54=>
      b8 (some s.1) fun v54=>
      b8 (some (decide (v54.2.2.1=v35.1))) fun m=>
      b8 (some (!(m))) fun n=>
      bif n then (
      some false)else (
      b8 (some (aa.wrap (x+(1:Int)))) fun v63=>
      k v63))else (
      some false))else (
     b8 (some (aa.wrap (x+(1:Int)))) fun v53=>
     k v53))else (
     b8 (w5 (s.1,s.2)) fun v44=>
     bif v44 then (
     b8 (some ()) fun v45=>
     b8 (some s.1) fun v45=>
     b8 (some (decide (v45.2.2.1=v35.1))) fun g=>
     b8 (some (!(g))) fun v53=>
     bif v53 then (
      some false)else (
      b8 (some (aa.wrap (x+(1:Int)))) fun v54=>
      k v54))else (
     some false)))else (
    b8 (some (aa.wrap (x+(1:Int)))) fun e=>
    k e))else K) (0:Int)=bif ns.all (dm0 s)then K else some false:=by
 have e1:u6 (s.1,s.2)=some (sgA s,sgB s):=bw0 hs;have e4:∀ a b c:Pt,A3 ((a.1,a.2),(b.1,b.2),(c.1,c.2))=some (onP a b c):=fun a b c=>dp0 a b c;have e5:y8 (s.1,s.2)=some (bt0 s):=oq0 s;have e6:w5 (s.1,s.2)=some (cZ0 s):=mI0 hs;refine(r8 (A:=Unit) ns (fun i _=>(i:Int)) (fun _ rest=>bif rest.all (dm0 s)then K else some false) (by omega) ?_ ?_ ()).trans rfl
 ·intro rec u;simp
 intro rec i u x rest hi p q;have e7:A3 (((sgA s).1,(sgA s).2),((sgB s).1,(sgB s).2),(x.2.1,x.2.2))=some (onP (sgA s) (sgB s) (x.2.1,x.2.2)):=e4 _ _ (x.2.1,x.2.2);simp only[o9 hi,Ac,l9 p,b9,l6 hi (show ns.length<2^62 by omega),e1,e5,e6,e7];rw[q (),bZ];unfold dm0;generalize onP (sgA s) (sgB s) (x.2.1,x.2.2)=o;generalize bt0 s=f;generalize cZ0 s=l;generalize decide (s.1.2.1=x.1)=d1;generalize decide (s.1.2.2.1=x.1)=d2;cases o<;>cases f<;>cases l<;>cases d1<;>cases d2<;>rfl
theorem rP0(a:Ar)(l:List Pt):(iA0 a l).length=l.length-1:=by simp[iA0]
theorem pa0(ns:List Nd){β:Type}(j:ns.length<=1000000)(K:Int×List (Int×Pt)->Option β) :
  rounds (α:=Int×List (Int×(Int×Int))) (β:=β) (fun f d=>
   b8 (some (decide (d.1<(ns.length:Int)))) fun v12=>
   bif v12 then (
   b8 (nth ns d.1) fun c=>
   b8 (some (I9 (fun (a b:Int)=>decide (a=b)) c.1 (c.2.1,c.2.2) d.2)) fun e=>
   b8 (some (aa.wrap (d.1+(1:Int)))) fun v17=>
   f (v17,e))else K d) ((0:Int),([]:List (Int×(Int×Int))))=K ((ns.length:Int),mkMap ns []):=by
 refine(r8 (A:=List (Int×Pt)) ns (fun i m=>((i:Int),m)) (fun m rest=>K ((ns.length:Int),mkMap rest m)) (by omega) ?_ ?_ []).trans rfl
 ·intro rec m
  simp[mkMap]
 intro rec i m x rest hi g h;simp only[o9 hi,Ac,l9 g,b9,l6 hi (show ns.length<2^62 by omega)];rw[h];rfl
theorem iz0(ns:List Nd)(ars:List Ar)(fs:List Int)(R:ns.length<=1000)(ha:ars.length<=1000)(hv:∀ a∈ars,a.2.2.2.1.length<=1000):aD0 (ns,ars,fs)=some (es0 ns ars):=by
 have f:∀ id,M7 ((ns,ars,fs),id)=some (match pathOf ns ars id with | some l=>(l,0) | none=>([],7)):=fun id=>fZ0 ns ars fs id (by omega) (by omega) (fun a h=>by have:=hv a h;omega);have g:∀ id l,pathOf ns ars id=some l->2<=l.length/\l.length<=1002:=fun id l h=>by obtain⟨a,h1,h2⟩:=pk0 h;have:=hv a (lY0 h1);omega
 have n:=fun K=>pa0 ns (β:=Bool) (by omega) K;have alone:=fun (s:Sg) (hs:pz0 s) K=>sz0 ns (by omega) hs K;have b:=fun (a:Ar) (l:List Pt) (acc:List Sg) (h1:l.length<=1000000) (h2:2<=l.length) (P:acc.length<=300000000) K=>wS0 (β:=Bool) a l acc K false h1 h2 P;simp only[b9]at n alone b;unfold aD0 es0;simp only[b9,f];refine(p6 (A:=List Sg) ars (fun i s=>(s,(i:Int))) (fun s rest=>some (match V6 ns ars rest with | none=>false | some l=>goB ns (mkMap ns []) (Z9 rN0 (s++l)))) (fun i s=>s.length<=1002*i/\∀ x∈s,pz0 x) (by omega) ?_ ?_ [] ⟨by simp,by simp⟩).trans (by simp)
 ·intro rec s G
  simp only[r9,Aa,V6,dv];refine(n _).trans ?_;obtain⟨H,e⟩:=G;have hlen:s.length<=1002000:=by have:1002*ars.length<=1002*1000:=eT _ ha;omega
  simp only[b9,mO0 e (by omega)];have c:=L1 (ga0 s);have k:∀ x∈Z9 rN0 s,pz0 x:=fun x m=>e x (c.mem_iff.1 m);have o:(Z9 rN0 s).length<=1002000:=by rw[c.length_eq];exact hlen
  generalize Z9 rN0 s=l at k o;refine(r8 (A:=Unit) l (fun i _=>(i:Int)) (fun _ rest=>some (goB ns (mkMap ns []) rest)) (by omega) ?_ ?_ ()).trans rfl
  ·intro rec u;simp[goB]
  intro rec i u x rest hi p D;have I:=O6 p;have m:=k x I.2.2;have d:l.drop (i+1)=rest:=by have:=Ap List.tail p;simpa using this
  have J:sK0 l (some ((i+1:Nat):Int)) none=some rest:=by
   rw[mc0 (by omega) (by omega)];have:((i+1:Nat):Int).toNat=i+1:=by omega
   rw[this,d]
  simp only[o9 hi,Ac,l9 p,b9,l6 hi (show l.length<2^62 by omega),J];have q:∀ t∈rest,pz0 t:=fun t w=>k t (by rw[<- d]at w;exact aX w);have S:∀ v,rec v=rec v:=fun _=>rfl;refine(r8 (A:=Unit) rest (fun j _=>(j:Int)) (fun _ r=>bif jy0 x (mkMap ns []) r then (bif ns.all (dm0 x)then some (goB ns (mkMap ns []) rest)else some false)else some false) (by omega) ?_ ?_ ()).trans ?_
  ·intro z u
   simp only[r9,Aa,jy0,Ac];rw[alone x m,D ()]
  ·intro z j u t r hj B L
   have w:=q t (O6 B).2.2;have e1:A8 (t.1,t.2)=some (sgW t):=mJ0 w;have e2:H7 (x.1,x.2)=some (sgE x):=wF0 m;have e3:K5 ((x.1,x.2),(t.1,t.2),mkMap ns [])=some (gN0 x t (mkMap ns [])):=kf0 m w _;simp only[o9 hj,Ac,l9 B,b9,l6 hj (show rest.length<2^62 by omega),e1,e2,e3];rw[alone x m,D (),L ()];simp only[jy0];generalize decide (sgE x<sgW t)=p1;generalize gN0 x t (mkMap ns [])=p2;cases p1<;>cases p2<;>simp
  simp only[goB];generalize jy0 x (mkMap ns []) rest=p1;generalize ns.all (dm0 x)=p2;cases p1<;>cases p2<;>simp
 intro rec i s x rest hi G p D;obtain⟨H,e⟩:=G;have E:1002*i<=1002*1000:=eT _ (by omega);simp only[o9 hi,Ac,l9 p,b9,l6 hi (show ars.length<2^62 by omega),V6];cases hp:pathOf ns ars x.1 with
 | none=>simp
 | some l=>
  obtain⟨M,o⟩:=g _ _ hp;have fin:rec (s++iA0 x l,((i+1:Nat):Int))=some (match V6 ns ars rest with | none=>false | some Q=>goB ns (mkMap ns []) (Z9 rN0 ((s++iA0 x l)++Q))):=D _ ⟨by rw[aH,rP0];omega,fun y C=>by
   rcases aK.1 C with C | C
   ·exact e y C
   exact tQ0 (by omega) C⟩
  simp only[Ai,aw,Aa];have key:=b x l s (by omega) M (by omega) (fun s'=>rec (s'.1,((i+1:Nat):Int)));by_cases hc:x.2.1=x.2.2.1
  ·simp only[hc,Ai,Ac,dt]
   by_cases O:l.length<4
   ·have:decide ((l.length:Int)<4)=true:=by simp only[Ad];omega
    simp[this,O]
   have N:decide ((l.length:Int)<4)=false:=by simp only[An];omega
   simp only[N,Aa,O,Ag,dP];rw[hc]at key;refine key.trans ?_;cases ow0 l with
   | false=>simp
   | true=>simp only[Ac,aw,Aa,fin];cases V6 ns ars rest<;>simp
  simp only[hc,Ag,Aa,Bool.false_and,dP];refine key.trans ?_;cases ow0 l with
  | false=>simp
  | true=>simp only[Ac,aw,Aa,fin];cases V6 ns ars rest<;>simp
end Go.Ab
namespace Go.Ab
open Go
def dJ0(ns:List Nd)(ars:List Ar)(fs:List Int):Bool:=decide (ns.length<=256)&&(decide (ars.length<=256)&&(decide (fs.length<=64)&&ars.all fun a=>decide (a.2.2.2.1.length<=64)))
def H4(ns:List Nd)(ars:List Ar)(fs:List Int):Int :=bif !(dJ0 ns ars fs)then 3 else bif !(iG0 (ns.map (·.1))&&(iG0 (ars.map (·.1))&&iG0 fs))then 10 else bif !((ns.map (·.1)).all jo0&&((ars.map (·.1)).all jo0&&(fs.all jo0&&((ns.all fun n=>fx0 (n.2.1,n.2.2))&&(ars.all fun a=>a.2.2.2.1.all fx0)))))then 2 else bif !decide (as0 ns ars fs (ns.map (·.1))=0)then as0 ns ars fs (ns.map (·.1))else bif !(es0 ns ars)then 11 else 0
theorem cn0(ns:List Nd)(ars:List Ar)(fs:List Int):aA0 (ns,ars,fs)=some (H4 ns ars fs):=by
 unfold aA0 H4 dJ0;simp only[b9];by_cases h1:ns.length<=256;rotate_left
 ·grind
 by_cases h2:ars.length<=256;rotate_left
 ·grind
 by_cases c:fs.length<=64;rotate_left
 ·grind
 have d:decide ((256:Int)<(ns.length:Int))=false:=by grind
 have a2:decide ((256:Int)<(ars.length:Int))=false:=by grind
 have a3:decide ((64:Int)<(fs.length:Int))=false:=by grind
 simp only[d,a2,a3,Aa,h1,h2,c,Ai,dt];refine(p6 (A:=Unit) ars (fun i _=>(i:Int)) (fun _ rest=>some (bif !(rest.all fun a=>decide (a.2.2.2.1.length<=64))then 3 else bif !(iG0 (ns.map (·.1))&&(iG0 (ars.map (·.1))&&iG0 fs))then 10 else bif !((ns.map (·.1)).all jo0&&((ars.map (·.1)).all jo0&&(fs.all jo0&&((ns.all fun n=>fx0 (n.2.1,n.2.2))&&(ars.all fun a=>a.2.2.2.1.all fx0)))))then 2 else bif !decide (as0 ns ars fs (ns.map (·.1))=0)then as0 ns ars fs (ns.map (·.1))else bif !(es0 ns ars)then 11 else 0)) (fun i _=>∀ a∈ars.take i,a.2.2.2.1.length<=64) (by omega) ?_ ?_ () (by simp)).trans rfl
 ·intro rec u b
  rw[bM]at b;have hv:∀ a∈ars,a.2.2.2.1.length<=900000:=fun a ha=>by have:=b a ha;omega
  simp only[r9,Aa,fU,aw,ep0 ns ars fs (by omega) (by omega),b9,X6 _ (show (ns.map (·.1)).length<2^62 by simp;omega),X6 _ (show (ars.map (·.1)).length<2^62 by simp;omega),
   X6 fs (by omega),aj0 _ (show (ns.map (·.1)).length<2^62 by simp;omega),aj0 _ (show (ars.map (·.1)).length<2^62 by simp;omega),aj0 fs (by omega),iH0 ns ars fs (by omega) (by omega) hv,
   fo0 ns ars fs (ns.map (·.1)) (by omega) (by omega) (by omega) (by simp;omega),iz0 ns ars fs (by omega) (by omega) (fun a ha=>by have:=b a ha;omega)]
  grind
 intro rec i u x rest hi b f g;simp only[o9 hi,Ac,l9 f,b9,l6 hi (show ars.length<2^62 by omega),bZ];by_cases h:x.2.2.2.1.length<=64
 ·have e:decide ((64:Int)<(x.2.2.2.1.length:Int))=false:=by grind
  simp only[e,Aa,h,Ai,dt];refine g () ?_
  grind
 grind
def upV(u:Pt):Prop:=0<u.2\/u.2=0/\0<u.1
def cr(u v:Pt):Int:=u.1*v.2-u.2*v.1
theorem cr_id(u v w:Pt):v.2*cr u w=u.2*cr v w+w.2*cr u v:=by
 unfold cr
 grind
theorem mp0(u v:Pt):cr v u=- cr u v:=by
 unfold cr
 grind
theorem yy0(u:Pt):cr u u=0:=by have:=mp0 u u;omega
theorem nP0{u v w:Pt}(hu:upV u)(hv:upV v)(hw:upV w)(h1:0<cr u v)(h2:0<cr v w):0<cr u w:=by
 have hid:=cr_id u v w;have b:0<=u.2:=by unfold upV at hu;omega
 have c:0<=w.2:=by unfold upV at hw;omega
 rcases hv with hv | ⟨hv,d⟩
 ·by_cases e:0<u.2
  ·have p1:=eU e h2
   have p2:=bH c (fD h1);exact gf (a:=v.2) (by omega) hv |> fun h=>h
  by_cases f:0<w.2
  ·have p1:=bH b (fD h2)
   have p2:=eU f h1;exact gf (a:=v.2) (by omega) hv |> fun h=>h
  exfalso;have e1:w.2=0:=by omega
  have e2:0<w.1:=by unfold upV at hw;omega
  have:cr v w=- (v.2*w.1):=by unfold cr;rw[e1];omega
  have:=eU hv e2;omega
 exfalso;have:cr u v=- (u.2*v.1):=by unfold cr;rw[hv];omega
 have:=bH b (fD d);omega
theorem ld0{u v w:Pt}(hu:upV u)(hv:upV v)(hw:upV w)(h1:cr u v<=0)(h2:cr v w<=0):cr u w<=0:=by
 have hid:=cr_id u v w;have a:0<=u.2:=by unfold upV at hu;omega
 have b:0<=w.2:=by unfold upV at hw;omega
 rcases hv with hv | ⟨hv,c⟩
 ·have p1:=bH a (show 0<=- cr v w by omega)
  have p2:=bH b (show 0<=- cr u v by omega);rw[Int.mul_neg]at p1 p2;by_cases h:cr u w<=0
  ·exact h
  have:=eU hv (show 0<cr u w by omega);omega
 have e1:cr v w=v.1*w.2:=by unfold cr;rw[hv];omega
 have e2:w.2=0:=by
  by_cases h:0<w.2
  ·have:=eU c h;omega
  omega
 have:cr u w=- (u.2*w.1):=by unfold cr;rw[e2];omega
 have e3:0<w.1:=by unfold upV at hw;omega
 have:=bH a (fD e3);omega
def vec(o p:Pt):Pt:=(p.1-o.1,p.2-o.2)
def ngV(u:Pt):Pt:=(-u.1,-u.2)
theorem bU0(o p:Pt)(h:p≠o):S6 o p=false↔upV (vec o p):=by
 unfold S6 upV vec
 grind
theorem ay0(o p:Pt)(h:p≠o):S6 o p=true↔upV (ngV (vec o p)):=by
 unfold S6 upV vec ngV
 grind
theorem cr_ng(u v:Pt):cr (ngV u) (ngV v)=cr u v:=by unfold cr ngV;simp only[Int.neg_mul_neg]
def sF0(o p:Pt):Prop:=D2 p=true/\p≠o
theorem dR0{o a b:Pt}(d:D2 o=true)(ha:sF0 o a)(c:sF0 o b):bH0 o a b=if S6 o a=S6 o b then decide (0<cr (vec o a) (vec o b))else S6 o b:=by
 unfold bH0;have e1:eqP a o=false:=by
  cases h:eqP a o with
  | false=>rfl
  | true=>exact Am ((mW0 a o).1 h) ha.2
 have e2:eqP b o=false:=by
  cases h:eqP b o with
  | false=>rfl
  | true=>exact Am ((mW0 b o).1 h) c.2
 simp only[d,ha.1,c.1,e1,e2,Bool.and_self,aP,dt];rfl
theorem mQ0{o a:Pt}(b:D2 o=true)(ha:sF0 o a):bH0 o a a=false:=by grind [dR0,yy0]
theorem oV0{o a b c:Pt}(h:D2 o=true)(ha:sF0 o a)(g:sF0 o b)(hc:sF0 o c)(h1:bH0 o a b=true)(h2:bH0 o b c=true):bH0 o a c=true:=by
 rw[dR0 h ha g]at h1;rw[dR0 h g hc]at h2;rw[dR0 h ha hc];cases d:S6 o a<;>cases e:S6 o b<;>cases f:S6 o c<;>simp only[d,e,f,Al,Ah,au,gS]at h1 h2 ⊢
 ·exact Ao (nP0 ((bU0 o a ha.2).1 d) ((bU0 o b g.2).1 e) ((bU0 o c hc.2).1 f) (Aj h1) (Aj h2))
 refine Ao ?_;have g1:=Aj h1;have g2:=Aj h2;rw[<- cr_ng]at g1 g2 ⊢;exact nP0 ((ay0 o a ha.2).1 d) ((ay0 o b g.2).1 e) ((ay0 o c hc.2).1 f) g1 g2
theorem nu0{o a b c:Pt}(i:D2 o=true)(ha:sF0 o a)(g:sF0 o b)(hc:sF0 o c)(h1:bH0 o a b=false)(h2:bH0 o b c=false):bH0 o a c=false:=by
 rw[dR0 i ha g]at h1;rw[dR0 i g hc]at h2;rw[dR0 i ha hc];cases d:S6 o a<;>cases e:S6 o b<;>cases f:S6 o c<;>simp only[d,e,f,Al,Ah,au,gS]at h1 h2 ⊢
 ·refine Ak (fun h=>?_)
  have g1:=of_decide_eq_false h1;have g2:=of_decide_eq_false h2;have:=ld0 ((bU0 o a ha.2).1 d) ((bU0 o b g.2).1 e) ((bU0 o c hc.2).1 f) (by omega) (by omega);omega
 refine Ak (fun h=>?_);have g1:=of_decide_eq_false h1;have g2:=of_decide_eq_false h2;rw[<- cr_ng]at g1 g2 h;have:=ld0 ((ay0 o a ha.2).1 d) ((ay0 o b g.2).1 e) ((ay0 o c hc.2).1 f) (by omega) (by omega);omega
open Go.Proofs Go.Shelf Go.Sort
structure J0(ns:List Nd)(ars:List Ar)(fs:List Int):Prop where
 sml:dJ0 ns ars fs=true
 ascN:iG0 (ns.map (·.1))=true
 ascA:iG0 (ars.map (·.1))=true
 ascF:iG0 fs=true
 numN:(ns.map (·.1)).all jo0=true
 numA:(ars.map (·.1)).all jo0=true
 numF:fs.all jo0=true
 posN:(ns.all fun n=>fx0 (n.2.1,n.2.2))=true
 posA:(ars.all fun a=>a.2.2.2.1.all fx0)=true
 conn:as0 ns ars fs (ns.map (·.1))=0
 plan:es0 ns ars=true
theorem T6{ns:List Nd}{ars:List Ar}{fs:List Int}:H4 ns ars fs=0↔J0 ns ars fs:=by
 constructor
 ·intro h
  unfold H4 at h;cases h1:dJ0 ns ars fs with
  | false=>rw[h1]at h;simp at h
  | true=>
   rw[h1]at h;simp only[aw,Aa]at h;cases h2:(iG0 (ns.map (·.1))&&(iG0 (ars.map (·.1))&&iG0 fs))with
   | false=>rw[h2]at h;simp at h
   | true=>
    rw[h2]at h;simp only[aw,Aa]at h;cases b:((ns.map (·.1)).all jo0&&((ars.map (·.1)).all jo0&&(fs.all jo0&&((ns.all fun n=>fx0 (n.2.1,n.2.2))&&(ars.all fun a=>a.2.2.2.1.all fx0)))))with
    | false=>rw[b]at h;simp at h
    | true=>
     rw[b]at h;simp only[aw,Aa]at h;by_cases c:as0 ns ars fs (ns.map (·.1))=0
     ·simp only[c,Ai,aw,Aa]at h
      cases d:es0 ns ars with
      | false=>rw[d]at h;simp at h
      | true=>simp only[ab]at h2 b;exact⟨h1,h2.1,h2.2.1,h2.2.2,b.1,b.2.1,b.2.2.1,b.2.2.2.1,b.2.2.2.2,c,d⟩
     grind
 intro h;unfold H4;simp[h.sml,h.ascN,h.ascA,h.ascF,h.numN,h.numA,h.numF,h.posN,h.posA,h.conn,h.plan]
theorem F1:∀ {l:List Int},iG0 l=true->l.Pairwise (·<·)
 | [],_=>ec
 | [a],_=>by simp
 | a::b::l,h=>by
  simp only[iG0,ab,Ad]at h;have d:=F1 h.2;refine i_ (fun x c=>?_) d;rcases aC.1 c with rfl | c
  ·exact h.1
  have:=(cI.1 d).1 x c;omega
theorem ct0{α:Type}{f:α->Int}:∀ {l:List α},(l.map f).Pairwise (·<·)->∀ x∈l,l.find? (fun y=>decide (f y=f x))=some x
 | [],_,x,a=>by simp at a
 | y::l,h,x,a=>by
  simp only[ay,cI]at h;rw[List.find?_cons];rcases aC.1 a with rfl | a
  ·simp
  have h1:=h.1 (f x) (bm a);have:¬ f y=f x:=by omega
  simp only[this,Ag];exact ct0 h.2 x a
theorem jB0{ns:List Nd}{ars:List Ar}:∀ {l:List Ar} {r:List Sg},V6 ns ars l=some r->∀ a∈l,∃ p,pathOf ns ars a.1=some p/\ow0 p=true/\(a.2.1=a.2.2.1->4<=p.length)
 | [],r,h,a,ha=>by simp at ha
 | b::l,r,h,a,ha=>by
  unfold V6 at h;split at h
  ·cases h
  rename_i p hp;cases hc:((decide (b.2.1=b.2.2.1)&&decide (p.length<4))||!(ow0 p))with
  | true=>rw[hc]at h;cases h
  | false=>
   rw[hc]at h;simp only[Aa]at h;split at h
   ·rename_i d c
    rcases aC.1 ha with rfl | ha
    ·simp only[Bool.or_eq_false_iff,Bool.and_eq_false_iff,An,Bool.not_eq_false']at hc
     refine⟨p,hp,hc.2,fun e=>?_⟩;rcases hc.1 with h1 | h1
     ·exact Am e h1
     omega
    exact jB0 c a ha
   cases h
theorem nl0:∀ {l:List Pt} {i:Nat} {p q:Pt},ow0 l=true->l[i]?=some p->l[i+1]?=some q->p≠q
 | [],i,p,q,_,h,_=>by simp at h
 | [a],0,p,q,_,_,h=>by simp at h
 | [a],i+1,p,q,_,h,_=>by simp at h
 | a::b::l,0,p,q,h,h1,h2=>by simp only[ow0,ab,Bool.not_eq_true']at h;simp at h1 h2;subst h1;subst h2;intro e;rw[(mW0 a b).2 e]at h;cases h.1
 | a::b::l,i+1,p,q,h,h1,h2=>by simp only[ow0,ab]at h;exact nl0 h.2 (by simpa using h1) (by simpa using h2)
namespace J0
variable {ns:List Nd} {ars:List Ar} {fs:List Int} (h:J0 ns ars fs)
include h
theorem lenN:ns.length<=256:=by
 have:=h.sml
 grind [dJ0]
theorem lenA:ars.length<=256:=by
 have:=h.sml
 grind [dJ0]
theorem lenF:fs.length<=64:=by
 have:=h.sml
 grind [dJ0]
theorem lenV{a:Ar}(ha:a∈ars):a.2.2.2.1.length<=64:=by
 have:=h.sml
 grind [dJ0,ak]
theorem arcOf_self{a:Ar}(ha:a∈ars):cH0 ars a.1=some a:=ct0 (f:=fun a:Ar=>a.1) (F1 h.ascA) a ha
theorem nodeOf_self{n:Nd}(a:n∈ns):S3 ns n.1=some n:=ct0 (f:=fun n:Nd=>n.1) (F1 h.ascN) n a
theorem num{a:Ar}(ha:a∈ars):1<=a.1/\a.1<=1073741824:=by have:=ak.1 h.numA a.1 (bm ha);simpa[jo0]using this
theorem segs:∃ r,V6 ns ars ars=some r:=by
 have:=h.plan
 grind [es0]
theorem path{a:Ar}(ha:a∈ars):∃ f t,S3 ns a.2.1=some f/\S3 ns a.2.2.1=some t/\pathOf ns ars a.1=some ((f.2.1,f.2.2)::(a.2.2.2.1++[(t.2.1,t.2.2)]))/\ow0 ((f.2.1,f.2.2)::(a.2.2.2.1++[(t.2.1,t.2.2)]))=true/\(a.2.1=a.2.2.1->2<=a.2.2.2.1.length):=by
 obtain⟨r,b⟩:=h.segs;obtain⟨p,h1,h2,d⟩:=jB0 b a ha;have c:=h1;unfold pathOf at h1;rw[h.arcOf_self ha]at h1
 grind
theorem nodePos{n:Nd}(a:n∈ns):fx0 (n.2.1,n.2.2)=true:=ak.1 h.posN n a
theorem pathNear{a:Ar}(ha:a∈ars){l:List Pt}(hl:pathOf ns ars a.1=some l):∀ p∈l,fx0 p=true:=by
 obtain⟨f,t,h1,h2,b,_⟩:=h.path ha;rw[hl]at b;cases b;intro p hp;rcases aC.1 hp with rfl | hp
 ·exact h.nodePos (bj h1)
 rcases aK.1 hp with hp | hp
 ·exact ak.1 (ak.1 h.posA a ha) p hp
 simp at hp;subst hp;exact h.nodePos (bj h2)
theorem Path_eq(id:Int):M7 ((ns,ars,fs),id)=some (match pathOf ns ars id with | some l=>(l,0) | none=>([],7)) :=fZ0 ns ars fs id (by have:=h.lenN;omega) (by have:=h.lenA;omega) (fun a ha=>by have:=h.lenV ha;omega)
theorem Node_eq(id:Int):S5 ((ns,ars,fs),id)=some (match S3 ns id with | some n=>(n,true) | none=>((0,0,0),false)) :=cR0 ns ars fs id (by have:=h.lenN;omega)
theorem Arc_eq(id:Int):bd0 ((ns,ars,fs),id)=some (match cH0 ars id with | some a=>(a,true) | none=>((0,0,0,[],0,0),false)) :=iw0 ns ars fs id (by have:=h.lenA;omega) (fun a ha=>by have:=h.lenV ha;omega)
end J0
def gw0(ns:List Nd)(ars:List Ar)(node:Int)(a:Ar):List (Int×Pt):=match pathOf ns ars a.1 with
 | none=>[]
 | some l=>(if a.2.1=node then [(a.1,(l[1]?).getD (0,0))]else [])++(if a.2.2.1=node then [(-a.1,(l[l.length-2]?).getD (0,0))]else [])
def R5(ns:List Nd)(ars:List Ar)(node:Int)(l:List Ar):List (Int×Pt):=l.flatMap (gw0 ns ars node)
def cmpA(o:Pt)(m:List (Int×Pt))(d e:Int):Int:=if bH0 o (gh0 m d) (gh0 m e)then -1 else if bH0 o (gh0 m e) (gh0 m d)then 1 else 0
theorem xV0(n:Nd)(m:List (Int×Pt))(d e:Int):J4 (d,e,n,m)=some (cmpA (n.2.1,n.2.2) m d e):=by
 have h1:∀ o a b:Pt,ab0 ((o.1,o.2),(a.1,a.2),(b.1,b.2))=some (bH0 o a b):=fun o a b=>lU0 o a b;have h2:∀ a b:Pt,ab0 ((n.2.1,n.2.2),(a.1,a.2),(b.1,b.2))=some (bH0 (n.2.1,n.2.2) a b):=fun a b=>h1 (n.2.1,n.2.2) a b;unfold J4 cmpA;simp only[pW0,b9,h2];cases bH0 (n.2.1,n.2.2) (gh0 m d) (gh0 m e)
 ·cases bH0 (n.2.1,n.2.2) (gh0 m e) (gh0 m d)<;>simp
 simp
def bF0(m:List (Int×Pt))(l:List (Int×Pt)):List (Int×Pt):=l.foldl (fun m p=>I9 (fun (a b:Int)=>decide (a=b)) p.1 p.2 m) m
theorem jm0(k:Int):∀ (l:List (Int×Pt)) (m:List (Int×Pt)),(∀ p∈l,p.1≠k)->lkp qI k (bF0 m l)=lkp qI k m
 | [],m,_=>rfl
 | p::l,m,h=>by have:=jm0 k l (I9 qI p.1 p.2 m) (fun q a=>h q (by simp[a]));show lkp qI k (bF0 (I9 qI p.1 p.2 m) l)=_;rw[this,W5,Ae (fun e=>h p (by simp) e.symm)]
theorem dG0:∀ (l:List (Int×Pt)) (m:List (Int×Pt)),(l.map (·.1)).Nodup->∀ p∈l,lkp qI p.1 (bF0 m l)=some p.2
 | [],m,_,p,hp=>by simp at hp
 | q::l,m,a,p,hp=>by
  simp only[ay,List.nodup_cons]at a;show lkp qI p.1 (bF0 (I9 qI q.1 q.2 m) l)=_;rcases aC.1 hp with rfl | hp
  ·rw[jm0 p.1 l _ (fun x b e=>a.1 (by rw[<- e];exact bm b)),W5,Af rfl]
  exact dG0 l _ a.2 p hp
theorem neg64{n:Int}(h:1<=n/\n<=1073741824):aa.wrap (0-n)=-n:=by rw[w64 (by omega) (by omega)];omega
namespace J0
variable {ns:List Nd} {ars:List Ar} {fs:List Int} (h:J0 ns ars fs)
include h
theorem raw_nodup(node:Int):∀ {l:List Ar},(∀ a∈l,a∈ars)->(l.map (·.1)).Pairwise (·<·)->((R5 ns ars node l).map (·.1)).Nodup
 | [],_,_=>by simp[R5]
 | a::l,hm,hp=>by
  have k:=raw_nodup node (l:=l) (fun x d=>hm x (by simp[d])) (by simp only[ay,cI]at hp;exact hp.2);have ha:=h.num (hm a (by simp));have key:∀ (b:Ar),b∈ars->∀ p∈gw0 ns ars node b,p.1=b.1\/p.1=-b.1:=fun b f p hp=>by
   unfold gw0 at hp;split at hp
   ·simp at hp
   rcases aK.1 hp with hp | hp
   ·split at hp<;>simp at hp
    exact .inl (by rw[hp])
   split at hp<;>simp at hp;exact .inr (by rw[hp])
  have e:R5 ns ars node (a::l)=gw0 ns ars node a++R5 ns ars node l:=rfl;rw[e,cF,List.nodup_append];refine⟨?_,k,?_⟩
  ·unfold gw0
   split
   ·simp
   by_cases h1:a.2.1=node<;>by_cases h2:a.2.2.1=node<;>simp[h1,h2];omega
  intro x d y m n;obtain⟨p,g,rfl⟩:=aY.1 d;obtain⟨q,i,rfl⟩:=aY.1 m;obtain⟨b,f,j⟩:=eI.1 i;have c:=hm b (by simp[f]);have o:=h.num c;simp only[ay,cI]at hp;have r:=hp.1 b.1 (bm f);rcases key a (hm a (by simp)) p g with e1 | e1<;>rcases key b c q j with e2 | e2<;>omega
theorem raw_mem{node:Int}{l:List Ar}(hm:∀ a∈l,a∈ars){p:Int×Pt}(hp:p∈R5 ns ars node l):∃ a∈l,∃ q,pathOf ns ars a.1=some q/\((a.2.1=node/\p=(a.1,(q[1]?).getD (0,0)))\/(a.2.2.1=node/\p=(-a.1,(q[q.length-2]?).getD (0,0)))):=by
 obtain⟨a,ha,hp⟩:=eI.1 hp;unfold gw0 at hp;split at hp
 ·simp at hp
 rename_i q b;refine⟨a,ha,q,b,?_⟩;rcases aK.1 hp with hp | hp
 ·split at hp<;>simp at hp
  exact .inl ⟨by assumption,hp⟩
 split at hp<;>simp at hp;exact .inr ⟨by assumption,hp⟩
theorem raw_dir{n:Nd}(d:S3 ns n.1=some n){l:List Ar}(hm:∀ a∈l,a∈ars){p:Int×Pt}(hp:p∈R5 ns ars n.1 l):sF0 (n.2.1,n.2.2) p.2:=by
 obtain⟨a,ha,q,g,hc⟩:=h.raw_mem hm hp;obtain⟨f,t,h1,h2,i,j,_⟩:=h.path (hm a ha);have b:=h.pathNear (hm a ha) g;rw[g]at i;cases i;rcases hc with ⟨e,rfl⟩ | ⟨e,rfl⟩
 ·rw[e,d]at h1
  cases h1;have e1:((n.2.1,n.2.2)::(a.2.2.2.1++[(t.2.1,t.2.2)]))[0]?=some (n.2.1,n.2.2):=rfl;obtain⟨x,c⟩:∃ x,((n.2.1,n.2.2)::(a.2.2.2.1++[(t.2.1,t.2.2)]))[1]?=some x:=⟨_,ae (by simp)⟩;refine⟨?_,?_⟩
  ·show D2 (fE _ _)=true
   rw[c];exact if0 (b x (aD c))
  show fE _ _≠_;rw[c];exact fun e=>nl0 j e1 c e.symm
 rw[e,d]at h2;cases h2;generalize k:(f.2.1,f.2.2)::(a.2.2.2.1++[(n.2.1,n.2.2)])=L at *;have hlen:L.length=a.2.2.2.1.length+2:=by rw[<- k];simp
 have e1:L[L.length-2+1]?=some (n.2.1,n.2.2):=by
  have:L.length-2+1=a.2.2.2.1.length+1:=by omega
  rw[this,<-k];simp
 obtain⟨x,c⟩:∃ x,L[L.length-2]?=some x:=⟨_,ae (by omega)⟩;refine⟨?_,?_⟩
 ·show D2 (fE _ _)=true
  rw[c];exact if0 (b x (aD c))
 show fE _ _≠_;rw[c];exact nl0 j c e1
omit h in
theorem mH0(node:Int):∀ (l:List Ar),(R5 ns ars node l).length<=2*l.length
 | []=>by simp[R5]
 | a::l=>by
  have b:=mH0 node l;have e:R5 ns ars node (a::l)=gw0 ns ars node a++R5 ns ars node l:=rfl;have:(gw0 ns ars node a).length<=2:=by
   unfold gw0;split
   ·simp
   by_cases h1:a.2.1=node<;>by_cases h2:a.2.2.1=node<;>simp[h1,h2]
  rw[e,aH,ax];omega
theorem cmpA_ordered{n:Nd}(q:S3 ns n.1=some n)(i:n∈ns):Ordered (cmpA (n.2.1,n.2.2) (bF0 [] (R5 ns ars n.1 ars))) ((R5 ns ars n.1 ars).map (·.1)):=by
 have j:=h.raw_nodup n.1 (l:=ars) (fun _ ha=>ha) (F1 h.ascA);have c:∀ d∈(R5 ns ars n.1 ars).map (·.1),sF0 (n.2.1,n.2.2) (gh0 (bF0 [] (R5 ns ars n.1 ars)) d):=fun d r=>by obtain⟨p,hp,rfl⟩:=aY.1 r;unfold gh0;rw[dG0 _ [] j p hp];exact h.raw_dir q (fun _ ha=>ha) hp
 have k:D2 (n.2.1,n.2.2)=true:=if0 (h.nodePos i);generalize bF0 [] (R5 ns ars n.1 ars)=m at c;have f:∀ d e,cmpA (n.2.1,n.2.2) m d e<0↔bH0 (n.2.1,n.2.2) (gh0 m d) (gh0 m e)=true:=fun d e=>by
  unfold cmpA;cases bH0 (n.2.1,n.2.2) (gh0 m d) (gh0 m e)
  ·cases bH0 (n.2.1,n.2.2) (gh0 m e) (gh0 m d)<;>simp
  simp
 refine ax0 (fun x g=>?_) (fun x g y o z hz a b=>?_) (fun x g y o z hz a b=>?_)
 ·rw[f,mQ0 k (c x g)];simp
 ·rw[f]at a b ⊢
  exact oV0 k (c x g) (c y o) (c z hz) a b
 rw[f,Bool.not_eq_true]at a b ⊢;exact nu0 k (c x g) (c y o) (c z hz) a b
def D3(ns:List Nd)(ars:List Ar)(n:Nd):List Int:=Z9 (cmpA (n.2.1,n.2.2) (bF0 [] (R5 ns ars n.1 ars))) ((R5 ns ars n.1 ars).map (·.1))
theorem Around_eq(node:Int):Y2 ((ns,ars,fs),node)=some (match S3 ns node with | some n=>D3 ns ars n | none=>[]):=by
 have hlen:=h.lenA;unfold Y2;simp only[h.Node_eq,b9];cases o:S3 ns node with
 | none=>simp
 | some n=>
  have c:n.1=node:=by have:=dV o;simpa using this
  subst c;have q:n∈ns:=bj o;simp only[aw,Aa,h.Path_eq,b9];refine(p6 (A:=List Int×List (Int×Pt)) ars (fun i a=>((i:Int),a.1,a.2)) (fun a rest=>aw0 (fun d e=>J4 (d,e,n,bF0 a.2 (R5 ns ars n.1 rest))) (a.1++(R5 ns ars n.1 rest).map (·.1))) (fun i a=>a.1.length<=2*i) (by omega) ?_ ?_ ([],[]) (by simp)).trans ?_
  ·intro rec a z
   simp only[r9,Aa];unfold slices_SortFunc_int_walk_Around_2;simp only[Ai,Ac];have e:R5 ns ars n.1 []=[]:=rfl;rw[e];simp only[bA,dv];show b8 (aw0 _ a.1) _=aw0 _ a.1;have e2:bF0 a.2 []=a.2:=rfl;rw[e2];cases aw0 (fun d e=>J4 (d,e,n,a.2)) a.1<;>rfl
  ·intro rec i a x rest hi z r m
   have s:=(O6 r).2.2;obtain⟨f,t,h1,h2,u,B,I⟩:=h.path s;have g:=h.num s;have C:R5 ns ars n.1 (x::rest)=gw0 ns ars n.1 x++R5 ns ars n.1 rest:=rfl;have D:=(O6 r).1;generalize E:(f.2.1,f.2.2)::(x.2.2.2.1++[(t.2.1,t.2.2)])=L at u B;have G:L.length=x.2.2.2.1.length+2:=by rw[<- E];simp
   have hv:=h.lenV s;obtain⟨p1,j⟩:∃ p,L[1]?=some p:=⟨_,ae (by omega)⟩;obtain⟨p2,k⟩:∃ p,L[L.length-2]?=some p:=⟨_,ae (by omega)⟩;have v:nth L (1:Int)=some p1:=by have:=r7 L 1;rw[j]at this;exact this
   have H:aa.wrap ((L.length:Int)-2)=((L.length-2:Nat):Int):=by rw[w64 (by omega) (by omega)];omega
   have w:nth L ((L.length-2:Nat):Int)=some p2:=by rw[r7];exact k
   simp only[o9 hi,Ac,l9 r,b9,l6 hi (show ars.length<2^62 by omega),u,Ai,aw,Aa,v,H,w,neg64 g];have l:gw0 ns ars n.1 x=(if x.2.1=n.1 then [(x.1,p1)]else [])++(if x.2.2.1=n.1 then [(-x.1,p2)]else []):=by unfold gw0;rw[u];simp only[j,k,Option.getD_some]
   rw[C,l];by_cases c1:x.2.1=n.1<;>by_cases c2:x.2.2.1=n.1
   ·simp only[c1,c2,Ai,aw,Aa,Ac,Al]
    rw[y7 (by omega) (by simp;omega)];simp only[b9];rw[y7 (by omega) (by simp;omega)];simp only[b9];have:=m (a.1++[x.1]++[-x.1],I9 (fun (a b:Int)=>decide (a=b)) (-x.1) p2 (I9 (fun (a b:Int)=>decide (a=b)) x.1 p1 a.2)) (by simp;omega);refine this.trans ?_;simp[bF0]
   ·simp only[c1,c2,Ai,Ag,aw,aP,Aa,Ac,Al,Ah]
    rw[y7 (by omega) (by simp;omega)];simp only[b9];have:=m (a.1++[x.1],I9 (fun (a b:Int)=>decide (a=b)) x.1 p1 a.2) (by simp;omega);refine this.trans ?_;simp[bF0]
   ·simp only[c1,c2,Ai,Ag,aw,aP,Aa,Ac,Al,Ah]
    rw[y7 (by omega) (by simp;omega)];simp only[b9];have:=m (a.1++[-x.1],I9 (fun (a b:Int)=>decide (a=b)) (-x.1) p2 a.2) (by simp;omega);refine this.trans ?_;simp[bF0]
   simp only[c1,c2,Ag,aP,Aa,Ac,Ah];have:=m a (by omega);refine this.trans ?_;simp
  simp only[bG];have hl:=mH0 (ns:=ns) (ars:=ars) n.1 ars;exact dr0 (fun x _ y _=>xV0 n _ x y) (h.cmpA_ordered o q) (by simp;omega)
end J0
def bb0(l:List Int)(d:Int):Int:=if d∈l then (l[(l.idxOf d+l.length-1)%l.length]?).getD 0 else 0
theorem wq0(l:List Int)(d:Int)(hl:l.length<=1000000):N3 (l,d)=some (bb0 l d):=by
 unfold N3 bb0;simp only[T8 l d (by omega),b9];by_cases a:d∈l
 ·have hi:l.idxOf d<l.length:=gb.2 a
  have e0:decide (((l.idxOf d:Nat):Int)<0)=false:=by grind
  have e1:aa.wrap (((l.idxOf d:Nat):Int)+(l.length:Int))=((l.idxOf d+l.length:Nat):Int):=by grind [w64]
  have e2:aa.wrap (((l.idxOf d+l.length:Nat):Int)-1)=((l.idxOf d+l.length-1:Nat):Int):=by grind [w64]
  have e3:decide ((l.length:Int)=0)=false:=by grind
  have e4:Int.tmod ((l.idxOf d+l.length-1:Nat):Int) (l.length:Int)=(((l.idxOf d+l.length-1)%l.length:Nat):Int):=by grind
  have hm:(l.idxOf d+l.length-1)%l.length<l.length:=gN _ (by omega);simp only[a,Al,e0,Aa,e1,e2,e3,e4,r7,b9];rw[ae hm];rfl
 simp[a]
theorem ig0{l:List Int}{d:Int}(h:d∈l):bb0 l d∈l:=by grind [bb0,gb,gN,ae,List.getElem_mem]
def aX0(S:List Int):List (Int×Bool):=S.map fun d=>(d,true)
theorem ot0(d:Int):∀ S:List Int,lkp qI d (aX0 S)=if d∈S then some true else none
 | []=>rfl
 | x::S=>by have a:=ot0 d S;show (bif qI d x then some true else lkp qI d (aX0 S))=_;rw[a,pC0];by_cases h:d=x<;>simp[h]
theorem kH0(d:Int):∀ S:List Int,d∉S->I9 qI d true (aX0 S)=aX0 (S++[d])
 | [],_=>rfl
 | x::S,h=>by simp only[aC,not_or]at h;have a:=kH0 d S h.2;show (bif qI d x then (d,true)::aX0 S else (x,true)::I9 qI d true (aX0 S))=_;rw[a,pC0];simp[h.1,aX0]
theorem eY0(d:Int)(S:List Int):orO (lkp (fun (a b:Int)=>decide (a=b)) d (aX0 S)) (some false)=some (decide (d∈S)):=by grind [orO,lkp,aX0,ot0]
def M6(nx:Int->Int):Nat->List Int->Int->List Int->List Int×List Int
 | 0,S,_,c=>(c,S)
 | n+1,S,d,c=>if d∈S then (c,S)else M6 nx n (S++[d]) (nx d) (c++[d])
def P2(D S:List Int):Nat:=(D.filter fun d=>!decide (d∈S)).length
theorem gU0{D S:List Int}{d:Int}(a:d∈D)(hs:d∉S):P2 D (S++[d])<P2 D S:=by
 unfold P2
 induction D with
 | nil=>simp at a
 | cons x D b=>
  have mono:∀ D:List Int,(D.filter fun y=>!decide (y∈S++[d])).length<=(D.filter fun y=>!decide (y∈S)).length:=fun D=>by
   induction D with
   | nil=>simp
   | cons y D b=>grind
  grind
theorem pL0{β:Type}(mp:List (Int×Int))(D:List Int)(p:D.length<=100000)(i:∀ d∈D,(lkp qI d mp).getD 0∈D)(K:Int×List Int×List (Int×Bool)->Option β)(G:List Int×List Int->Option β)(q:∀ d c S,K (d,c,aX0 S)=G (c,S)) :
  ∀ (S:List Int) (d:Int) (c:List Int),d∈D->c.length+P2 D S<=100000->rounds (α:=Int×List Int×List (Int×Bool)) (β:=β) (fun f e=>
     b8 (orO (lkp (fun (a b:Int)=>decide (a=b)) e.1 e.2.2) (some false)) fun v25=>
     b8 (some (!(v25))) fun v26=>
     bif v26 then (
     b8 (some (I9 (fun (a b:Int)=>decide (a=b)) e.1 true e.2.2)) fun v27=>
     b8 (G5 8 e.2.1 [e.1]) fun v28=>
     b8 (orO (lkp (fun (a b:Int)=>decide (a=b)) e.1 mp) (some (0:Int))) fun v29=>
     f (v29,v28,v27))else K e) (d,c,aX0 S)=G (M6 (fun d=>(lkp qI d mp).getD 0) (P2 D S+1) S d c):=by
 have j:∀ d,orO (lkp (fun (a b:Int)=>decide (a=b)) d mp) (some (0:Int))=some ((lkp qI d mp).getD 0):=fun d=>by show orO (lkp qI d mp) _=_;cases lkp qI d mp<;>rfl
 generalize hF:(fun (f:Int×List Int×List (Int×Bool)->Option β) (e:Int×List Int×List (Int×Bool))=>
     b8 (orO (lkp (fun (a b:Int)=>decide (a=b)) e.1 e.2.2) (some false)) fun v25=>
     b8 (some (!(v25))) fun v26=>
     bif v26 then (
     b8 (some (I9 (fun (a b:Int)=>decide (a=b)) e.1 true e.2.2)) fun v27=>
     b8 (G5 8 e.2.1 [e.1]) fun v28=>
     b8 (orO (lkp (fun (a b:Int)=>decide (a=b)) e.1 mp) (some (0:Int))) fun v29=>
     f (v29,v28,v27))else K e)=F
 have r:∀ rec d c S,d∈S->F rec (d,c,aX0 S)=G (c,S):=fun rec d c S hs=>by grind [eY0,b9,decide_true,aw]
 have h1:∀ rec d c S,d∉S->c.length<=100000->F rec (d,c,aX0 S)=rec ((lkp qI d mp).getD 0,c++[d],aX0 (S++[d])):=fun rec d c S hs hc=>by grind [I9,aX0,kH0,G5,y7,eY0,b9,decide_false,aP]
 have key:∀ (n m:Nat) (S:List Int) (d:Int) (c:List Int),d∈D->c.length+P2 D S<=100000->P2 D S<n->n<=m->iter F m (d,c,aX0 S)=G (M6 (fun d=>(lkp qI d mp).getD 0) n S d c):=by
  intro n
  induction n with
  | zero=>intro m S d c _ _ h;omega
  | succ n s=>
   intro m S d c g hc t hm;cases m with
   | zero=>omega
   | succ m=>
    show F (iter F m) (d,c,aX0 S)=_;by_cases hs:d∈S
    ·grind [M6]
    have k:=gU0 g hs
    grind [M6]
 intro S d c g hc;have h2:P2 D S<=D.length:=ck _ _;have l:=kx0;have o:P2 D S+1<=many:=bo (by omega) l;exact key (P2 D S+1) many S d c g hc (Nat.lt_succ_self _) o
def dZ0(l:List Int)(m:List (Int×Int)):List (Int×Int):=l.foldl (fun m d=>I9 (fun (a b:Int)=>decide (a=b)) (-d) (bb0 l d) m) m
def V2(L:List (List Int))(m:List (Int×Int)):List (Int×Int):=L.foldl (fun m l=>dZ0 l m) m
theorem jg0(l:List Int)(D:List Int):∀ (r:List Int) (m:List (Int×Int)),(∀ d∈r,d∈l)->(∀ d∈l,d∈D)->(∀ k v,lkp qI k m=some v->v∈D) ->
  (∀ k v,lkp qI k (r.foldl (fun m d=>I9 (fun (a b:Int)=>decide (a=b)) (-d) (bb0 l d) m) m)=some v->v∈D)/\(∀ k,(lkp qI k m).isSome=true->(lkp qI k (r.foldl (fun m d=>I9 (fun (a b:Int)=>decide (a=b)) (-d) (bb0 l d) m) m)).isSome=true) /\
  ∀ d∈r,(lkp qI (-d) (r.foldl (fun m d=>I9 (fun (a b:Int)=>decide (a=b)) (-d) (bb0 l d) m) m)).isSome=true
 | [],m,_,_,hm=>⟨hm,fun _ h=>h,fun d c=>by simp at c⟩
 | x::r,m,e,hl,hm=>by
  have f:=e x (by simp);have hp:∀ k v,lkp qI k (I9 qI (-x) (bb0 l x) m)=some v->v∈D:=fun k v h=>by
   rw[W5]at h;split at h
   ·cases h;exact hl _ (ig0 f)
   exact hm k v h
  obtain⟨h1,h2,g⟩:=jg0 l D r (I9 qI (-x) (bb0 l x) m) (fun d c=>e d (by simp[c])) hl hp;refine⟨h1,fun k hk=>h2 k ?_,fun d c=>?_⟩
  ·rw[W5];split
   ·rfl
   exact hk
  rcases aC.1 c with rfl | c
  ·exact h2 _ (by rw[W5,Af rfl];rfl)
  exact g d c
theorem iT0(D:List Int):∀ (L:List (List Int)) (m:List (Int×Int)),(∀ l∈L,∀ d∈l,d∈D)->(∀ k v,lkp qI k m=some v->v∈D) ->
  (∀ k v,lkp qI k (V2 L m)=some v->v∈D)/\(∀ k,(lkp qI k m).isSome=true->(lkp qI k (V2 L m)).isSome=true)/\∀ l∈L,∀ d∈l,(lkp qI (-d) (V2 L m)).isSome=true
 | [],m,_,hm=>⟨hm,fun _ h=>h,fun l hl=>by simp at hl⟩
 | l::L,m,b,hm=>by
  obtain⟨f,a2,a3⟩:=jg0 l D l m (fun _ h=>h) (b l (by simp)) hm;obtain⟨g,c,i⟩:=iT0 D L (dZ0 l m) (fun x a=>b x (by simp[a])) f;refine⟨g,fun k hk=>c k (a2 k hk),fun x a d e=>?_⟩;rcases aC.1 a with rfl | a
  ·exact c _ (a3 d e)
  exact i x a d e
def R3(nx:Int->Int)(D:List Int):List Int->List Int->List (List Int)->List (List Int)
 | [],_,acc=>acc
 | d::a,S,acc=>if d∈S then R3 nx D a S acc else
   let r:=M6 nx (P2 D S+1) S d []
   R3 nx D a r.2 (acc++[r.1])
namespace J0
variable {ns:List Nd} {ars:List Ar} {fs:List Int} (h:J0 ns ars fs)
def jc0(ns:List Nd)(ars:List Ar):List (List Int):=ns.map (D3 ns ars)
def dartsL(ns:List Nd)(ars:List Ar):List Int:=(jc0 ns ars).flatten
include h
theorem around_perm{n:Nd}(a:n∈ns):(D3 ns ars n).Perm ((R5 ns ars n.1 ars).map (·.1)):=L1 (h.cmpA_ordered (h.nodeOf_self a) a)
theorem around_len{n:Nd}(a:n∈ns):(D3 ns ars n).length<=512:=by rw[(h.around_perm a).length_eq,aB];have:=mH0 (ns:=ns) (ars:=ars) n.1 ars;have:=h.lenA;omega
theorem mem_darts{d:Int}:d∈dartsL ns ars↔∃ a∈ars,d=a.1\/d=-a.1:=by
 unfold dartsL jc0;constructor
 ·intro b
  obtain⟨l,hl,b⟩:=bD.1 b;obtain⟨n,c,rfl⟩:=aY.1 hl;rw[(h.around_perm c).mem_iff]at b;obtain⟨p,hp,rfl⟩:=aY.1 b;obtain⟨a,ha,q,_,hc⟩:=h.raw_mem (fun _ ha=>ha) hp;rcases hc with ⟨_,rfl⟩ | ⟨_,rfl⟩
  ·exact⟨a,ha,.inl rfl⟩
  exact⟨a,ha,.inr rfl⟩
 rintro ⟨a,ha,b⟩;obtain⟨f,t,h1,h2,k,_⟩:=h.path ha;have mk:∀ (n:Nd),n∈ns->d∈(gw0 ns ars n.1 a).map (·.1)->d∈((ns.map (D3 ns ars)).flatten):=fun n c g=>by refine bD.2 ⟨_,bm c,?_⟩;rw[(h.around_perm c).mem_iff];obtain⟨p,hp,e⟩:=aY.1 g;exact e▸bm (eI.2 ⟨a,ha,hp⟩)
 have i:f.1=a.2.1:=by have:=dV h1;simpa using this
 have j:t.1=a.2.2.1:=by have:=dV h2;simpa using this
 rcases b with rfl | rfl
 ·refine mk f (bj h1) ?_
  unfold gw0;rw[k];simp[i]
 refine mk t (bj h2) ?_;unfold gw0;rw[k];simp[j]
theorem neg_darts{d:Int}(b:d∈dartsL ns ars):-d∈dartsL ns ars:=by
 rw[h.mem_darts]at b ⊢;obtain⟨a,ha,rfl | rfl⟩:=b
 ·exact⟨a,ha,.inr rfl⟩
 exact⟨a,ha,.inl (by omega)⟩
theorem darts_len:(dartsL ns ars).length<=512:=by
 have key:∀ l:List Nd,(∀ n∈l,n∈ns)->((l.map (D3 ns ars)).flatten).length<=(l.map fun n=>(R5 ns ars n.1 ars).length).sum:=by
  intro l
  induction l with
  | nil=>intro _;simp
  | cons n l c=>intro hl;have:=c (fun x f=>hl x (by simp[f]));have e:=(h.around_perm (hl n (by simp))).length_eq;rw[aB]at e;simp only[ay,List.flatten_cons,aH,cA,e];omega
 have p:=key ns (fun _ k=>k);have g:∀ l:List Nd,(l.map (·.1)).Pairwise (·<·)->∀ b:List Ar,(l.map fun n=>(R5 ns ars n.1 b).length).sum<=2*b.length:=by
  intro l hp b
  induction b with
  | nil=>
   have:(l.map fun n=>(R5 ns ars n.1 []).length).sum=0:=by
    clear hp
    induction l with
    | nil=>rfl
    | cons n l c=>simp only[ay,cA,c];rfl
   omega
  | cons a b c=>
   have e:∀ n:Nd,(R5 ns ars n.1 (a::b)).length=(gw0 ns ars n.1 a).length+(R5 ns ars n.1 b).length:=fun n=>by have e:R5 ns ars n.1 (a::b)=gw0 ns ars n.1 a++R5 ns ars n.1 b:=rfl;rw[e,aH]
   have e2:(l.map fun n=>(R5 ns ars n.1 (a::b)).length).sum=(l.map fun n=>(gw0 ns ars n.1 a).length).sum+(l.map fun n=>(R5 ns ars n.1 b).length).sum:=by
    simp only[e];clear c hp
    induction l with
    | nil=>rfl
    | cons n l c=>simp only[ay,cA,c];omega
   have e3:(l.map fun n=>(gw0 ns ars n.1 a).length).sum<=2:=by
    have hle:∀ n:Nd,(gw0 ns ars n.1 a).length<=(if a.2.1=n.1 then 1 else 0)+(if a.2.2.1=n.1 then 1 else 0):=fun n=>by
     unfold gw0;split
     ·simp
     by_cases h1:a.2.1=n.1<;>by_cases h2:a.2.2.1=n.1<;>simp[h1,h2]
    have i:∀ (x:Int) (l:List Nd),(l.map (·.1)).Pairwise (·<·)->(l.map fun n=>if x=n.1 then 1 else 0).sum<=1:=by
     intro x l
     induction l with
     | nil=>intro _;simp
     | cons n l c=>
      intro hp;simp only[ay,cI]at hp;simp only[ay,cA];by_cases f:x=n.1
      ·have:(l.map fun n=>if x=n.1 then 1 else 0).sum=0:=by
        have d:∀ m∈l,(if x=m.1 then 1 else 0)=0:=fun m hm=>by have:=hp.1 m.1 (bm hm);rw[Ae (by omega)]
        clear c hp
        induction l with
        | nil=>rfl
        | cons m l j=>simp only[ay,cA,d m (by simp),j (fun y o=>d y (by simp[o]))]
       simp[f];rw[<- f];omega
      have:=c hp.2;simp[f];exact this
    have c1:=i a.2.1 l hp;have c2:=i a.2.2.1 l hp;have:(l.map fun n=>(gw0 ns ars n.1 a).length).sum<=(l.map fun n=>if a.2.1=n.1 then 1 else 0).sum+(l.map fun n=>if a.2.2.1=n.1 then 1 else 0).sum:=by
     clear c c1 c2 e2 hp
     induction l with
     | nil=>simp
     | cons n l c=>simp only[ay,cA];have:=hle n;omega
    omega
   rw[e2,ax];omega
 have q:=g ns (F1 h.ascN) ars;have:=h.lenA;show ((ns.map (D3 ns ars)).flatten).length<=_;omega
def qe0(ns:List Nd)(ars:List Ar):List (Int×Int):=V2 (jc0 ns ars) []
def gn0(ns:List Nd)(ars:List Ar)(d:Int):Int:=(lkp qI d (qe0 ns ars)).getD 0
theorem next_mem{d:Int}(a:d∈dartsL ns ars):gn0 ns ars d∈dartsL ns ars:=by
 obtain⟨h1,_,e⟩:=iT0 (dartsL ns ars) (jc0 ns ars) [] (fun l hl d a=>bD.2 ⟨l,hl,a⟩) (fun k v hv=>by simp[lkp]at hv);obtain⟨l,hl,b⟩:=bD.1 (h.neg_darts a);have c:=e l hl _ b;rw[Int.neg_neg]at c;unfold gn0 qe0;cases hv:lkp qI d (V2 (jc0 ns ars) [])with
 | none=>rw[hv]at c;cases c
 | some v=>exact h1 d v hv
def cyclesOf(ns:List Nd)(ars:List Ar):List (List Int):=R3 (gn0 ns ars) (dartsL ns ars) ((dartsL ns ars).mergeSort fun a b=>decide (a<=b)) [] []
omit h in
theorem co0{α β:Type}{l rest:List α}{i:Nat}{x:α}(f:α->β)(a:l.drop i=x::rest):(l.take (i+1)).map f=(l.take i).map f++[f x]:=by
 rw[List.take_add_one];have:l[i]?=some x:=by rw[<- r7];exact l9 a
 rw[this];simp
theorem Cycles_eq:M4 (ns,ars,fs)=some (cyclesOf ns ars,0):=by
 have Q:=h.lenN;have k:H4 ns ars fs=0:=T6.2 h;have R:=h.darts_len;unfold M4;simp only[cn0,k,b9,Ai,aw,Aa];refine(p6 (A:=List Int×List (Int×Int)) ns (fun i a=>(a.1,(i:Int),a.2)) (fun _ _=>some (cyclesOf ns ars,0)) (fun i a=>a.1=((ns.take i).map (D3 ns ars)).flatten/\a.2=V2 ((ns.take i).map (D3 ns ars)) []/\a.1.length<=512*i) (by omega) ?_ ?_ ([],[]) ⟨by simp,by simp[V2],by simp⟩)
 ·intro rec a B
  obtain⟨h1,h2,J⟩:=B;rw[bM]at h1 h2;have e1:a.1=dartsL ns ars:=h1;have e2:a.2=qe0 ns ars:=h2;have es:slices_Sort_int (dartsL ns ars,1)=some ((dartsL ns ars).mergeSort fun a b=>decide (a<=b)):=by
   unfold slices_Sort_int;rw[<- jD0];have:decide ((dartsL ns ars).length<4611686018427387904)=true:=by simp only[Ad];omega
   simp[this]
  simp only[r9,Aa,e1,e2,es,b9];have f:=List.mergeSort_perm (dartsL ns ars) (fun a b=>decide (a<=b));unfold cyclesOf;generalize U:(dartsL ns ars).mergeSort (fun a b=>decide (a<=b))=L at f;have K:L.length<=100000-10:=by rw[f.length_eq];omega
  have C:∀ d∈L,d∈dartsL ns ars:=fun d g=>f.mem_iff.1 g;refine(p6 (A:=List (List Int)×List Int) L (fun i b=>((i:Int),b.1,aX0 b.2)) (fun b rest=>some (R3 (gn0 ns ars) (dartsL ns ars) rest b.2 b.1,0)) (fun i b=>b.1.length<=i) (by omega) ?_ ?_ ([],[]) (by simp)).trans rfl
  ·intro rec b n
   simp[R3]
  intro rec i b x rest hi n g w;have o:L[i]?=some x:=by rw[<- r7];exact l9 g
  have p:(bif decide ((0:Int)<=(i:Int))&&decide ((i:Int)<(L.length:Int))then some ()else none)=some ():=by
   have e1:decide ((0:Int)<=(i:Int))=true:=by simp only[Ad];omega
   rw[e1,o9 hi];rfl
  simp only[o9 hi,Ac,p,b9,Int.toNat_natCast,o,aj,eY0,l6 hi (show L.length<2^62 by omega)];by_cases hs:x∈b.2
  ·simp only[hs,Ai,aw,Aa]
   have:=w (b.1,b.2) (by show b.1.length<=i+1;omega);refine this.trans ?_;simp[R3,hs]
  simp only[hs,Ag,aP,Ac];have M:P2 (dartsL ns ars) b.2<=(dartsL ns ars).length:=ck _ _;have q:=pL0 (qe0 ns ars) (dartsL ns ars) (by omega) (fun d g=>h.next_mem g) (fun s=>b8 (G5 24 b.1 [s.2.1]) fun v27=>rec (((i+1:Nat):Int),v27,s.2.2)) (fun r=>some (R3 (gn0 ns ars) (dartsL ns ars) rest r.2 (b.1++[r.1]),0)) (fun d c S=>by
   have:G5 24 b.1 [c]=some (b.1++[c]):=y7 (by omega) (by simp;omega);show b8 (G5 24 b.1 [c]) _=_;rw[this];exact w (b.1++[c],S) (by show (b.1++[c]).length<=i+1;simp;omega)) b.2 x [] (C x (O6 g).2.2) (by simp;omega)
  simp only[b9]at q;refine q.trans ?_;simp only[R3,hs,Ah];rfl
 intro rec i a x rest hi B g w;obtain⟨h1,h2,J⟩:=B;have o:=(O6 g).2.2;have N:=h.around_len o;have D:Y2 ((ns,ars,fs),x.1)=some (D3 ns ars x):=by rw[h.Around_eq,h.nodeOf_self o]
 simp only[o9 hi,Ac,l9 g,b9,l6 hi (show ns.length<2^62 by omega),D];have hk:512*i<=512*256:=eT _ (by omega);refine(p6 (A:=List Int×List (Int×Int)) (D3 ns ars x) (fun j b=>(b.1,(j:Int),b.2)) (fun _ _=>some (cyclesOf ns ars,0)) (fun j b=>b.1=a.1++(D3 ns ars x).take j/\b.2=((D3 ns ars x).take j).foldl (fun m d=>I9 (fun (a b:Int)=>decide (a=b)) (-d) (bb0 (D3 ns ars x) d) m) a.2) (by omega) ?_ ?_ a ⟨by simp,by simp⟩)
 ·intro t b n
  obtain⟨g1,g2⟩:=n;rw[bM]at g1 g2;simp only[r9,Aa];refine w (b.1,b.2) ⟨?_,?_,?_⟩
  ·rw[co0 _ g,List.flatten_append,<-h1]
   simp[g1]
  ·rw[co0 _ g]
   show b.2=V2 ((ns.take i).map (D3 ns ars)++[D3 ns ars x]) [];unfold V2;rw[fN];show b.2=dZ0 (D3 ns ars x) (V2 ((ns.take i).map (D3 ns ars)) []);rw[<- h2,g2];rfl
  show b.1.length<=512*(i+1);rw[g1,aH];omega
 intro t j b y V hj n l E;obtain⟨g1,g2⟩:=n;have O:=(O6 l).2.2;have G:1<=y/\y<=1073741824\/-1073741824<=y/\y<=-1:=by have:y∈dartsL ns ars:=bD.2 ⟨_,bm o,O⟩;rw[h.mem_darts]at this;obtain⟨W,H,e | e⟩:=this<;>have:=h.num H<;>omega
 have u:aa.wrap (0-y)=-y:=by rw[w64 (by omega) (by omega)];omega
 have P:b.1.length<=512*i+j:=by rw[g1,aH,List.length_take];omega
 have I:N3 (D3 ns ars x,y)=some (bb0 (D3 ns ars x) y):=wq0 _ _ (by omega);simp only[o9 hj,Ac,l9 l,b9,l6 hj (show (D3 ns ars x).length<2^62 by omega),u,I];rw[y7 (by omega) (by simp;omega)];simp only[b9];have v:(D3 ns ars x).take (j+1)=(D3 ns ars x).take j++[y]:=by have:=co0 (fun z:Int=>z) l;simpa using this
 refine E (b.1++[y],_) ⟨?_,?_⟩
 ·rw[v,g1,List.append_assoc]
 rw[v,fN,<-g2];rfl
end J0
theorem aB0{ns:List Nd}{ars:List Ar}{fs:List Int}(h:H4 ns ars fs≠0):M4 (ns,ars,fs)=some ([],H4 ns ars fs):=by unfold M4;simp only[cn0,b9,h,Ag,aP,Ac]
abbrev Q2:=Int×List Int×List (List Int)×List Int
def by0(ns:List Nd)(ars:List Ar)(l:List Ar)(m:List (Int×List Pt)):List (Int×List Pt):=l.foldl (fun m a=>match pathOf ns ars a.1 with | some p=>I9 (fun (a b:Int)=>decide (a=b)) a.1 p m | none=>m) m
def B8(ns:List Nd)(ars:List Ar):List (Int×List Pt):=by0 ns ars ars []
def kw0(d:Int):Prop:=-9223372036854775808<d/\d<=9223372036854775807
def aZ0(d:Int):Int:=max d (-d)
def C8(ars:List Ar)(d:Int):Int:=if d=0 then 0 else match cH0 ars (aZ0 d)with
 | some a=>if 0<d then a.2.2.2.2.1 else a.2.2.2.2.2
 | none=>0
def N2(a:Q2):List (List Int):=a.2.1::a.2.2.1
def F5(ars:List Ar)(k:Nat):Bool->List Q2->List Int->List Int->List Int×Bool
 | _,[],seen,out=>(out,decide ((seen.length:Int)=(k:Int)))
 | true,a::r,seen,out=>bif (N2 a).all (fun c=>c.all fun d=>decide (C8 ars d=0))then F5 ars k false r seen (out++[0])else ([],false)
 | false,a::r,seen,out=>
  let f:=C8 ars (a.2.1.headD 0)
  bif decide (f=0)||decide (f∈seen)then ([],false)else bif (N2 a).all (fun c=>c.all fun d=>decide (C8 ars d=f))then F5 ars k false r (seen++[f]) (out++[f])else ([],false)
namespace J0
variable {ns:List Nd} {ars:List Ar} {fs:List Int} (h:J0 ns ars fs)
include h
theorem pathsOf_eq:K0 (ns,ars,fs)=some (B8 ns ars):=by
 have hlen:=h.lenA;unfold K0 B8;simp only[b9,h.Path_eq];refine(r8 (A:=List (Int×List Pt)) ars (fun i m=>((i:Int),m)) (fun m rest=>some (by0 ns ars rest m)) (by omega) ?_ ?_ []).trans rfl
 ·intro rec m
  simp[by0]
 intro rec i m x rest hi b a;simp only[o9 hi,Ac,l9 b,b9,l6 hi (show ars.length<2^62 by omega)];cases hp:pathOf ns ars x.1 with
 | none=>
  have:decide ((7:Int)=0)=false:=by decide
  simp only[this,Aa];rw[a];simp[by0,hp]
 | some p=>simp only[Ai,Ac];rw[a];simp[by0,hp]
theorem pathsGo_look:∀ (l:List Ar) (m:List (Int×List Pt)),(∀ a∈l,a∈ars)->(l.map (·.1)).Pairwise (·<·)->∀ a∈l,lkp qI a.1 (by0 ns ars l m)=pathOf ns ars a.1
 | [],m,_,_,a,ha=>by simp at ha
 | b::l,m,hm,hp,a,ha=>by
  simp only[ay,cI]at hp;obtain⟨f,t,_,_,d,_⟩:=h.path (hm b (by simp));have e:by0 ns ars (b::l) m=by0 ns ars l (I9 qI b.1 ((f.2.1,f.2.2)::(b.2.2.2.1++[(t.2.1,t.2.2)])) m):=by show a_ _ _ _=_;rw[List.foldl_cons,d];rfl
  have g:∀ (l:List Ar) (m:List (Int×List Pt)) (k:Int),(∀ a∈l,a.1≠k)->lkp qI k (by0 ns ars l m)=lkp qI k m:=by
   intro l
   induction l with
   | nil=>intro m k _;rfl
   | cons x l i=>
    intro m k hk;show lkp qI k (by0 ns ars l _)=_;rw[i _ k (fun a ha=>hk a (by simp[ha]))];cases c:pathOf ns ars x.1 with
    | none=>simp only[c]
    | some p=>simp only[c];have:=W5 k x.1 p m;rw[Ae (fun e=>hk x (by simp) e.symm)]at this;exact this
  rw[e];rcases aC.1 ha with rfl | ha
  ·rw[g l _ a.1 (fun x c=>by have:=hp.1 x.1 (bm c);omega),W5,Af rfl,d]
  exact pathsGo_look l _ (fun x c=>hm x (by simp[c])) hp.2 a ha
theorem pathsM_look{a:Ar}(ha:a∈ars):lkp qI a.1 (B8 ns ars)=pathOf ns ars a.1:=h.pathsGo_look ars [] (fun _ h=>h) (F1 h.ascA) a ha
theorem arcOfD_eq{d:Int}(c:kw0 d):Y0 ((ns,ars,fs),d)=some (if d=0 then ((0,0,0,[],0,0),false)else match cH0 ars (aZ0 d)with | some a=>(a,true) | none=>((0,0,0,[],0,0),false)):=by
 unfold Y0;obtain⟨h1,h2⟩:=c;simp only[b9];by_cases b:d=0
 ·simp[b]
 have e:decide (d=-9223372036854775808)=false:=by simp only[An];omega
 have e1:aa.wrap (0-d)=-d:=by rw[w64 (by omega) (by omega)];omega
 simp only[b,Ag,Aa,e,e1,eC0,h.Arc_eq,b9,Ah];have e2:aZ0 d=max d (-d):=rfl;rw[e2]
 all_goals cases cH0 ars (max d (-d))with
 | none=>rfl
 | some a=>rfl
theorem Side_eq{d:Int}(c:kw0 d):R8 ((ns,ars,fs),d)=some (C8 ars d):=by
 unfold R8 C8;simp only[h.arcOfD_eq c,b9];by_cases b:d=0
 ·simp[b]
 simp only[b,Ah];cases cH0 ars (aZ0 d)with
 | none=>simp
 | some a=>simp only[aw,Aa];by_cases h1:0<d<;>simp[h1]
theorem cycles_eq{a:Q2}(ha:a.2.2.1.length<=1000000):B2 a=some (N2 a):=by unfold B2 N2;have:G5 24 [a.2.1] a.2.2.1=some ([a.2.1]++a.2.2.1):=y7 (by omega) (by simp;omega);simp only[this,b9];rfl
theorem sidesLoop{β:Type}(f:Int)(cs:List (List Int))(k:∀ c∈cs,(∀ d∈c,kw0 d)/\c.length<2^62)(hl:cs.length<2^62)(K:Option β)(bad:Option β) :
  rounds (α:=Int) (β:=β) (fun l a=>
    b8 (some (decide (a<(cs.length:Int)))) fun v24=>
    bif v24 then (
     b8 (nth cs a) fun v25=>
     b8 (some ((v25).length:Int)) fun v26=>
     rounds (α:=Int) (β:=β) (fun m b=>
     b8 (some (decide (b<v26))) fun v29=>
     bif v29 then (
      b8 (nth v25 b) fun v30=>
      b8 (R8 ((ns,ars,fs),v30)) fun v31=>
      b8 (some (!decide (v31=f))) fun v32=>
      bif v32 then bad else (
      b8 (some (aa.wrap (b+(1:Int)))) fun v33=>
      m v33))else (
      b8 (some (aa.wrap (a+(1:Int)))) fun v30=>
      l v30)) (0:Int))else K) (0:Int)=bif cs.all (fun c=>c.all fun d=>decide (C8 ars d=f))then K else bad:=by
 simp only[b9];refine(r8 (A:=Unit) cs (fun i _=>(i:Int)) (fun _ rest=>bif rest.all (fun c=>c.all fun d=>decide (C8 ars d=f))then K else bad) (by omega) ?_ ?_ ()).trans rfl
 ·intro rec u;simp
 intro rec i u x rest hi q s;obtain⟨n,o⟩:=k x (O6 q).2.2;simp only[o9 hi,Ac,l9 q,b9,l6 hi hl];rw[s (),bZ];refine(r8 (A:=Unit) x (fun i _=>(i:Int)) (fun _ r=>bif r.all (fun d=>decide (C8 ars d=f))then (bif rest.all (fun c=>c.all fun d=>decide (C8 ars d=f))then K else bad)else bad) (by omega) ?_ ?_ ()).trans ?_
 ·intro e u;simp
 ·intro e j u y r hj g p
  have t:=n y (O6 g).2.2;simp only[o9 hj,Ac,l9 g,b9,l6 hj o,h.Side_eq t];rw[p (),bZ];cases decide (C8 ars y=f)<;>simp
 cases x.all (fun d=>decide (C8 ars d=f))<;>simp
structure AreaOk(a:Q2):Prop where
 outer:(∀ d∈a.2.1,kw0 d)/\a.2.1.length<=1000000
 inner:∀ c∈a.2.2.1,(∀ d∈c,kw0 d)/\c.length<=1000000
 few:a.2.2.1.length<=1000000
theorem faces_eq{l:List Q2}(hl:l.length<=1000000)(p:∀ a∈l,AreaOk a)(q:∀ a∈l.tail,a.2.1≠[]):P6 ((ns,ars,fs),l)=some (F5 ars fs.length true l [] []):=by
 have hF:=h.lenF;have sl:=fun (f:Int) (cs:List (List Int)) h1 h2 K bad=>h.sidesLoop (β:=List Int×Bool) f cs h1 h2 K bad;simp only[b9]at sl;unfold P6;simp only[b9];refine(p6 (A:=List Int×List Int) l (fun i a=>(a.2,(i:Int),aX0 a.1)) (fun a rest=>some (F5 ars fs.length (decide (rest.length=l.length)) rest a.1 a.2)) (fun i a=>a.2.length<=i) (by omega) ?_ ?_ ([],[]) (by simp)).trans (by simp)
 ·intro rec a D
  have e:((aX0 a.1).length:Int)=(a.1.length:Int):=by simp[aX0]
  simp only[r9,Aa,F5,e]
 intro rec i a x rest hi D r B;have s:=O6 r;have j:=p x s.2.2;have t:B2 (x.1,x.2.1,x.2.2.1,x.2.2.2)=some (N2 x):=h.cycles_eq j.few;have m:∀ c∈N2 x,(∀ d∈c,kw0 d)/\c.length<2^62:=fun c hc=>by
  rcases aC.1 hc with rfl | hc
  ·exact⟨j.outer.1,by have:=j.outer.2;omega⟩
  exact⟨(j.inner c hc).1,by have:=(j.inner c hc).2;omega⟩
 have n:(N2 x).length<2^62:=by have:=j.few;simp only[N2,ax];omega
 simp only[o9 hi,Ac,l9 r,b9,l6 hi (show l.length<2^62 by omega),t];have C:decide (rest.length=l.length)=false:=by simp only[An];omega
 have g:∀ f:Int,G5 8 a.2 [f]=some (a.2++[f]):=fun f=>y7 (by omega) (by simp;omega);by_cases E:i=0
 ·subst E
  have e0:decide ((x::rest).length=l.length)=true:=by simp only[ax,Ad];omega
  have e1:decide ((0:Int)<((0:Nat):Int))=false:=by decide
  simp only[e1,Aa,e0];refine(sl 0 (N2 x) m n _ _).trans ?_;simp only[g,b9,F5];have u:(a.2++[(0:Int)]).length<=0+1:=by rw[aH];simp only[List.length_singleton];omega
  have:=B (a.1,a.2++[0]) u;rw[C]at this;rw[this];cases (N2 x).all (fun c=>c.all fun d=>decide (C8 ars d=0))<;>simp
 have e0:decide ((x::rest).length=l.length)=false:=by simp only[ax,An];omega
 have e1:decide ((0:Int)<(i:Int))=true:=by simp only[Ad];omega
 have v:x∈l.tail:=by
  have:x∈l.drop 1:=by
   have hm:x∈l.drop i:=by rw[r];simp
   have:l.drop i=(l.drop 1).drop (i-1):=by rw[List.drop_drop,show 1+(i-1)=i by omega]
   rw[this]at hm;exact aX hm
  simpa using this
 obtain⟨d0,o,k⟩:∃ d0 o,x.2.1=d0::o:=by
  cases hc:x.2.1 with
  | nil=>exact Am hc (q x v)
  | cons d0 o=>exact⟨d0,o,rfl⟩
 have w:nth x.2.1 (0:Int)=some d0:=by have:=r7 x.2.1 0;rw[k]at this ⊢;exact this
 have z:kw0 d0:=j.outer.1 d0 (by rw[k];simp);have G:x.2.1.headD 0=d0:=by rw[k];rfl
 simp only[e1,Ac,e0,w,b9,h.Side_eq z,eY0,F5,G];by_cases hz:C8 ars d0=0
 ·simp[hz]
 simp only[hz,Ag,Aa,dP];by_cases hs:C8 ars d0∈a.1
 ·simp[hs]
 have e4:I9 (fun (a b:Int)=>decide (a=b)) (C8 ars d0) true (aX0 a.1)=aX0 (a.1++[C8 ars d0]):=kH0 _ _ hs;simp only[hs,Ag,Aa,e4];refine(sl (C8 ars d0) (N2 x) m n _ _).trans ?_;simp only[g,b9];have:=B (a.1++[C8 ars d0],a.2++[C8 ars d0]) (by simp;omega);rw[C]at this;rw[this];cases (N2 x).all (fun c=>c.all fun d=>decide (C8 ars d=C8 ars d0))<;>simp
end J0
def stepE(at':Pt)(st:Bool×Bool)(a b:Pt):Bool×Bool :=
 bif onP a b at' then (st.1,true)else
 bif (decide (a.2<=at'.2)&&(decide (at'.2<b.2)&&decide (0<W1 a b at')))||(decide (b.2<=at'.2)&&(decide (at'.2<a.2)&&decide (W1 a b at'<0)))then (!st.1,st.2)else st
def mB0(at':Pt):Pt->List Pt->Bool×Bool->Bool×Bool
 | _,[],st=>st
 | p,q::r,st=>mB0 at' q r (stepE at' st p q)
def pathE(at':Pt)(l:List Pt)(st:Bool×Bool):Bool×Bool:=match l with
 | []=>st
 | p::r=>mB0 at' p r st
def nb0(m:List (Int×List Pt))(at':Pt):List Int->Bool×Bool->Bool×Bool
 | [],st=>st
 | d::r,st=>nb0 m at' r (pathE at' ((lkp qI (aZ0 d) m).getD []) st)
def encl(m:List (Int×List Pt))(cyc:List Int)(at':Pt):Bool:=bif (nb0 m at' cyc (false,false)).1 then !(nb0 m at' cyc (false,false)).2 else false
theorem oU0{β:Type}(at':Pt)(p0:Pt)(l:List Pt)(hl:l.length<=1000000)(K:Bool×Bool->Option β)(st:Bool×Bool) :
  rounds (α:=Int×Bool×Bool) (β:=β) (fun f d=>
   bif (decide (d.1<((p0::l).length:Int)))then (
   b8 (nth (p0::l) (aa.wrap (d.1-(1:Int)))) fun v21=>
   b8 (nth (p0::l) d.1) fun v23=>
   b8 (A3 ((v21.1,v21.2),(v23.1,v23.2),(at'.1,at'.2))) fun v25=>
   bif v25 then (
    f (aa.wrap (d.1+(1:Int)),d.2.1,true))else (
    bif (decide (v21.2<=at'.2))then (
    bif (decide (at'.2<v23.2))then (
     b8 (B1 ((v21.1,v21.2),(v23.1,v23.2),(at'.1,at'.2))) fun v28=>
     bif (decide ((0:Int)<v28))then (
     f (aa.wrap (d.1+(1:Int)),!(d.2.1),d.2.2))else (
     bif (decide (v23.2<=at'.2))then (
      bif (decide (at'.2<v21.2))then (
      b8 (B1 ((v21.1,v21.2),(v23.1,v23.2),(at'.1,at'.2))) fun v32=>
      bif (decide (v32<(0:Int)))then (
       f (aa.wrap (d.1+(1:Int)),!(d.2.1),d.2.2))else (
       f (aa.wrap (d.1+(1:Int)),d.2.1,d.2.2)))else (
      f (aa.wrap (d.1+(1:Int)),d.2.1,d.2.2)))else (
      f (aa.wrap (d.1+(1:Int)),d.2.1,d.2.2))))else (
     bif (decide (v23.2<=at'.2))then (
     bif (decide (at'.2<v21.2))then (
      b8 (B1 ((v21.1,v21.2),(v23.1,v23.2),(at'.1,at'.2))) fun v30=>
      bif (decide (v30<(0:Int)))then (
      f (aa.wrap (d.1+(1:Int)),!(d.2.1),d.2.2))else (
      f (aa.wrap (d.1+(1:Int)),d.2.1,d.2.2)))else (
      f (aa.wrap (d.1+(1:Int)),d.2.1,d.2.2)))else (
     f (aa.wrap (d.1+(1:Int)),d.2.1,d.2.2))))else (
    bif (decide (v23.2<=at'.2))then (
     bif (decide (at'.2<v21.2))then (
     b8 (B1 ((v21.1,v21.2),(v23.1,v23.2),(at'.1,at'.2))) fun v29=>
     bif (decide (v29<(0:Int)))then (
      f (aa.wrap (d.1+(1:Int)),!(d.2.1),d.2.2))else (
      f (aa.wrap (d.1+(1:Int)),d.2.1,d.2.2)))else (
     f (aa.wrap (d.1+(1:Int)),d.2.1,d.2.2)))else (
     f (aa.wrap (d.1+(1:Int)),d.2.1,d.2.2)))))else (
   K d.2)) ((1:Int),st)=K (mB0 at' p0 l st):=by
 refine(p6 (A:=Pt×Bool×Bool) l (fun i a=>(((i+1:Nat):Int),a.2)) (fun a rest=>K (mB0 at' a.1 rest a.2)) (fun i a=>(p0::l)[i]?=some a.1) (by omega) ?_ ?_ (p0,st) rfl)
 ·grind [mB0]
 intro rec i a x rest hi j k m;have h:(p0::l)[i+1]?=some x:=by rw[aI,<-r7];exact l9 k
 have e:((p0::l).length:Int)=((l.length+1:Nat):Int):=by simp
 have e1:aa.wrap (((i+1:Nat):Int)-1)=(i:Int):=by grind [w64]
 have e2:aa.wrap (((i+1:Nat):Int)+1)=((i+1+1:Nat):Int):=l6 (n:=2000000) (by omega) (by omega);have f1:∀ a b c:Pt,A3 ((a.1,a.2),(b.1,b.2),(c.1,c.2))=some (onP a b c):=fun a b c=>dp0 a b c;have f2:∀ a b c:Pt,B1 ((a.1,a.2),(b.1,b.2),(c.1,c.2))=some (W1 a b c):=fun a b c=>fP0 a b c;simp only[e,o9 (show i+1<l.length+1 by omega),Ac,e1,r7,j,h,b9,f1,f2,e2];have o:=fun g=>m (x,g) h
 grind [mB0,stepE,onP,W1,decide_true,decide_false]
def gr0(m:List (Int×List Pt))(cyc:List Int):Prop:=cyc.length<=1000000/\∀ d∈cyc,kw0 d/\∃ p0 l,lkp qI (aZ0 d) m=some (p0::l)/\l.length<=1000000
theorem mx0{m:List (Int×List Pt)}{cyc:List Int}(h:gr0 m cyc)(at':Pt):y5 (m,cyc,(at'.1,at'.2))=some (encl m cyc at'):=by
 have sl:=fun (p0:Pt) (l:List Pt) hl K st=>oU0 (β:=Bool) at' p0 l hl K st;unfold y5;simp only[b9];refine(r8 (A:=Bool×Bool) cyc (fun i a=>((i:Int),a.2,a.1)) (fun a rest=>some (bif (nb0 m at' rest a).1 then !(nb0 m at' rest a).2 else false)) (by have:=h.1;omega) ?_ ?_ (false,false)).trans rfl
 ·grind [nb0]
 intro rec i a d rest hi f g;have hm:d∈cyc:=by grind [aX]
 obtain⟨⟨d1,d2⟩,p0,l,c,e⟩:=h.2 d hm;have e1:aa.wrap (0-d)=-d:=by grind [w64]
 have e2:lkp (fun (a b:Int)=>decide (a=b)) (max d (-d)) m=some (p0::l):=c;have e3:orO (some (p0::l)) (none:Option (List Pt))=some (p0::l):=rfl;simp only[o9 hi,Ac,l9 f,b9,e1,eC0,e2,e3,l6 hi (show cyc.length<2^62 by have:=h.1;omega)];refine(sl p0 l e (fun x=>rec (((i+1:Nat):Int),x.2,x.1)) (a.1,a.2)).trans ?_
 grind [mB0,nb0,pathE]
def cA0(p q:Pt):Int:=p.1*q.2-q.1*p.2
def L3:Pt->List Pt->Int
 | _,[]=>0
 | p,q::r=>cA0 p q+L3 q r
theorem bX0{a b A:Int}(h1:-A<=a)(h2:a<=A)(e:-A<=b)(f:b<=A):-(A*A)<=a*b/\a*b<=A*A:=by
 have d:0<=A:=by omega
 constructor
 ·have e1:a*b+A*A=(A+a)*b+A*(A-b):=by grind
  rcases ji 0 b with c | c
  ·have:=bH (show 0<=A+a by omega) c
   have:=bH d (show 0<=A-b by omega);omega
  have e2:a*b+A*A=(A-a)*(-b)+A*(A+b):=by grind
  have:=bH (show 0<=A-a by omega) (show 0<=-b by omega);have:=bH d (show 0<=A+b by omega);omega
 rcases ji 0 b with c | c
 ·have e2:A*A-a*b=(A-a)*b+A*(A-b):=by grind
  have:=bH (show 0<=A-a by omega) c;have:=bH d (show 0<=A-b by omega);omega
 have e2:A*A-a*b=(A+a)*(-b)+A*(A+b):=by grind
 have:=bH (show 0<=A+a by omega) (show 0<=-b by omega);have:=bH d (show 0<=A+b by omega);omega
def nx0(p:Pt):Prop:=-2097152<=p.1/\p.1<=2097152/\-2097152<=p.2/\p.2<=2097152
theorem cf0:∀ (l:List Pt) (p:Pt),nx0 p->(∀ q∈l,nx0 q)->-(8796093022208*(l.length:Int))<=L3 p l/\L3 p l<=8796093022208*(l.length:Int)
 | [],_,_,_=>by simp[L3]
 | q::r,p,hp,hl=>by have a:=hl q (by simp);have c:=cf0 r q a (fun x b=>hl x (by simp[b]));obtain⟨d,a2⟩:=bX0 (A:=2097152) hp.1 hp.2.1 a.2.2.1 a.2.2.2;obtain⟨e,f⟩:=bX0 (A:=2097152) a.1 a.2.1 hp.2.2.1 hp.2.2.2;simp only[L3,cA0,ax];omega
theorem oR0{β:Type}(p0:Pt)(l:List Pt)(hl:l.length<=1000)(k:nx0 p0)(hc:∀ q∈l,nx0 q)(K:Int->Option β) :
  rounds (α:=Int×Int) (β:=β) (fun d b=>
    bif (decide (b.2<(l.length:Int)))then (
     b8 (nth (p0::l) b.2) fun v31=>
     b8 (nth (p0::l) (aa.wrap (b.2+(1:Int)))) fun e=>
     b8 (nth (p0::l) (aa.wrap (b.2+(1:Int)))) fun f=>
     b8 (nth (p0::l) b.2) fun v40=>
     d (aa.wrap (b.1+aa.wrap (aa.wrap (v31.1*e.2)-aa.wrap (f.1*v40.2))),aa.wrap (b.2+(1:Int))))else (
     K b.1)) ((0:Int),(0:Int))=K (L3 p0 l):=by
 refine(p6 (A:=Pt×Int) l (fun i a=>(a.2,(i:Int))) (fun a rest=>K (a.2+L3 a.1 rest)) (fun i a=>(p0::l)[i]?=some a.1/\nx0 a.1/\-(8796093022208*(i:Int))<=a.2/\a.2<=8796093022208*(i:Int)) (by omega) ?_ ?_ (p0,0) ⟨rfl,k,by simp,by simp⟩).trans (by simp)
 ·grind [L3]
 intro rec i a x rest hi g m o;obtain⟨g,hp,g1,g2⟩:=g;have j:(p0::l)[i+1]?=some x:=by rw[aI,<-r7];exact l9 m
 have h:x∈l:=by grind
 have c:=hc x h;have e2:aa.wrap ((i:Int)+1)=((i+1:Nat):Int):=l6 (n:=2000000) (by omega) (by omega);simp only[o9 hi,Ac,e2,r7,g,j,b9];obtain⟨v,a2⟩:=bX0 (A:=2097152) hp.1 hp.2.1 c.2.2.1 c.2.2.2;obtain⟨w,z⟩:=bX0 (A:=2097152) c.1 c.2.1 hp.2.2.1 hp.2.2.2;have p:aa.wrap (a.1.1*x.2)=a.1.1*x.2:=w64 (by omega) (by omega);have r:aa.wrap (x.1*a.1.2)=x.1*a.1.2:=w64 (by omega) (by omega);have s:aa.wrap (a.1.1*x.2-x.1*a.1.2)=cA0 a.1 x:=w64 (by omega) (by omega);have t:cA0 a.1 x=a.1.1*x.2-x.1*a.1.2:=rfl;have u:aa.wrap (a.2+cA0 a.1 x)=a.2+cA0 a.1 x:=w64 (by omega) (by omega);rw[p,r,s,u];have:=o (x,a.2+cA0 a.1 x) ⟨j,c,by simp only;omega,by simp only;omega⟩
 grind [L3]
def ha0(ns:List Nd)(ars:List Ar)(d:Int):Int:=match pathOf ns ars (aZ0 d)with
 | some (p::l)=>if d<0 then -(L3 p l)else L3 p l
 | _=>0
def G8(ns:List Nd)(ars:List Ar):List Int->Int
 | []=>0
 | d::r=>ha0 ns ars d+G8 ns ars r
namespace J0
variable {ns:List Nd} {ars:List Ar} {fs:List Int} (h:J0 ns ars fs)
include h
theorem dart_path{d:Int}(c:∃ a∈ars,a.1=aZ0 d):∃ p0 l,pathOf ns ars (aZ0 d)=some (p0::l)/\l.length<=65/\nx0 p0/\∀ q∈l,nx0 q:=by
 obtain⟨a,ha,hid⟩:=c;obtain⟨f,t,_,_,hp,_⟩:=h.path ha;have hv:a.2.2.2.1.length<=64:=by
  have:=h.sml
  grind [dJ0,ak]
 have e:=h.pathNear ha hp;have b:∀ p:Pt,fx0 p=true->nx0 p:=fun p hp=>by simp only[fx0,ab,Ad]at hp;exact⟨by omega,by omega,by omega,by omega⟩
 grind
theorem Twice_eq{cyc:List Int}(hc:cyc.length<=512)(hm:∀ d∈cyc,kw0 d/\d≠0/\∃ a∈ars,a.1=aZ0 d):N8 ((ns,ars,fs),cyc)=some (G8 ns ars cyc):=by
 have sl:=fun (p0:Pt) (l:List Pt) hl e hc K=>oR0 (β:=Int) p0 l hl e hc K;unfold N8;have hlen:decide ((512:Int)<(cyc.length:Int))=false:=by grind
 simp only[b9,hlen,Aa];refine(p6 (A:=Int) cyc (fun i a=>(a,(i:Int))) (fun a rest=>some (a+G8 ns ars rest)) (fun i a=>-(571746046443520*(i:Int))<=a/\a<=571746046443520*(i:Int)) (by omega) ?_ ?_ 0 ⟨by simp,by simp⟩).trans (by simp)
 ·grind [G8]
 intro rec i a d rest hi o m p;have f:d∈cyc:=by grind [aX]
 obtain⟨n,e,j,b,hid⟩:=hm d f;obtain⟨d1,d2⟩:=n;have c:cH0 ars (aZ0 d)=some j:=by rw[<- hid];exact h.arcOf_self b
 obtain⟨p0,l,hp,hl,k,cl⟩:=h.dart_path ⟨j,b,hid⟩;have e1:aa.wrap (0-d)=-d:=by grind [w64]
 have g:pathOf ns ars (max d (-d))=some (p0::l):=hp;simp only[o9 hi,Ac,l9 m,b9,h.arcOfD_eq ⟨d1,d2⟩,e,Ah,c,aw,Aa,e1,eC0,h.Path_eq,g,Ai];have e3:aa.wrap (((p0::l).length:Int)-1)=(l.length:Int):=by grind [w64,ax]
 simp only[e3];refine(sl p0 l (by omega) k cl (fun A=>bif decide (d<0)then rec (aa.wrap (a+aa.wrap (0-A)),aa.wrap ((i:Int)+1))else rec (aa.wrap (a+A),aa.wrap ((i:Int)+1)))).trans ?_;obtain⟨q,r⟩:=cf0 l p0 k cl
 grind [L3,l6,w64,decide_true,G8,ha0,decide_false]
end J0
end Go.Ab
