/- A part of the proof; its readable source lies in wip of the prover's repo (squeezed here for the limit of bytes). -/
import Derived.Test.YtlnpfkdodfgdcaaGreatDoorMd
import Derived.Test.YtlnpfkdodfgdcaaGreatDoorMc
import Derived.Shelf.Strings.Search3
set_option linter.unusedVariables false
set_option linter.unusedSimpArgs false
set_option linter.unusedSectionVars false
namespace Go.Ab
open Go
noncomputable def E6:List (Int×Int)->Option ((Int×Int×Int×Int)):=fun x =>
 b8 (some ((x).length:Int)) fun v1 =>
 b8 (some (decide (v1=0))) fun v2 =>
 bif v2 then (
 some (0,0,(-1),(-1)))else (
 b8 (nth x 0) fun v3 =>
 b8 (nth x 0) fun v5 =>
 b8 (nth x 0) fun v7 =>
 b8 (nth x 0) fun v9 =>
 rounds (α:=Int×Int×Int×Int×Int) (β:=(Int×Int×Int×Int)) (fun k11 x11 =>
 b8 (some ((x).length:Int)) fun v17 =>
 b8 (some (decide (x11.1<v17))) fun v18 =>
 bif v18 then (
 b8 (nth x x11.1) fun v19 =>
 b8 (some (List.foldl mnI x11.2.1 [v19.1])) fun v21 =>
 b8 (nth x x11.1) fun v22 =>
 b8 (some (List.foldl mnI x11.2.2.1 [v22.2])) fun v24 =>
 b8 (nth x x11.1) fun v25 =>
 b8 (some (List.foldl mxI x11.2.2.2.1 [v25.1])) fun v27 =>
 b8 (nth x x11.1) fun v28 =>
 b8 (some (List.foldl mxI x11.2.2.2.2 [v28.2])) fun v30 =>
 b8 (some (IntKind.i64.wrap (x11.1+1))) fun v31 =>
 k11 (v31,v21,v24,v27,v30))else (
 some (x11.2.1,x11.2.2.1,x11.2.2.2.1,x11.2.2.2.2))) (1,v3.1,v5.2,v7.1,v9.2))
noncomputable def F5:(List (Int×Int×Int)×List (Int×Int×Int×List (Int×Int)×Int×Int)×List (Int))->Option (Bool):=fun x =>
 b8 (some ((x.1).length:Int)) fun v3 =>
 b8 (some (decide (30<v3))) fun v4 =>
 bif v4 then (
 some false)else (
 b8 (some ((x.2.1).length:Int)) fun v5 =>
 b8 (some (decide (30<v5))) fun v6 =>
 bif v6 then (
 some false)else (
 b8 (some ((x.2.2).length:Int)) fun v7 =>
 b8 (some (decide (30<v7))) fun v8 =>
 bif v8 then (
 some false)else (
 rounds (α:=List (Int×Int)×Int) (β:=Bool) (fun k9 x9 =>
 b8 (some ((x.1).length:Int)) fun v12 =>
 b8 (some (decide (x9.2<v12))) fun v13 =>
 bif v13 then (
 b8 (nth x.1 x9.2) fun v14 =>
 b8 (Q5 16 x9.1 [(v14.2.1,v14.2.2)]) fun v17 =>
 b8 (some (IntKind.i64.wrap (x9.2+1))) fun v18 =>
 k9 (v17,v18))else (
 rounds (α:=List (Int×Int)×Int) (β:=Bool) (fun k14 x14 =>
 b8 (some ((x.2.1).length:Int)) fun v17 =>
 b8 (some (decide (x14.2<v17))) fun v18 =>
 bif v18 then (
 b8 (some ((x14.1).length:Int)) fun v19 =>
 b8 (nth x.2.1 x14.2) fun v20 =>
 b8 (some ((v20.2.2.2.1).length:Int)) fun v26 =>
 b8 (some (IntKind.i64.wrap (v19+v26))) fun v27 =>
 b8 (some (decide (180<v27))) fun v28 =>
 bif v28 then (
 some false)else (
 b8 (nth x.2.1 x14.2) fun v29 =>
 b8 (Q5 16 x14.1 v29.2.2.2.1) fun v35 =>
 b8 (some (IntKind.i64.wrap (x14.2+1))) fun v36 =>
 k14 (v35,v36)))else (
 b8 (some ()) fun v19 =>
 b8 (E6 x14.1) fun v19 =>
 b8 (some (decide ((-1073741824)<=v19.1))) fun v23 =>
 bif v23 then (
 b8 (some (decide ((-1073741824)<=v19.2.1))) fun v24 =>
 bif v24 then (
 b8 (some (decide (v19.2.2.1<=1073741824))) fun v25 =>
 bif v25 then (
 b8 (some (decide (v19.2.2.2<=1073741824))) fun v26 =>
 bif v26 then (
 b8 (some (IntKind.i64.wrap (v19.2.2.1-v19.1))) fun v27 =>
 b8 (some (decide (v27<=3000))) fun v28 =>
 bif v28 then (
 b8 (some (IntKind.i64.wrap (v19.2.2.2-v19.2.1))) fun v29 =>
 b8 (some (decide (v29<=3000))) fun v30 =>
 some v30)else (
 some false))else (
 some false))else (
 some false))else (
 some false))else (
 some false))) (x9.1,0))) (([]:List (Int×Int)),0))))
noncomputable def C4:(List (Int×Int×Int)×List (Int×Int×Int×List (Int×Int)×Int×Int)×List (Int)×List (Int×Int×Int×ByteArray×List (Int)))->Option (Bool):=fun x =>
 b8 (F5 (x.1,x.2.1,x.2.2.1)) fun v4 =>
 b8 (some (!(v4))) fun v5 =>
 bif v5 then (
 some false)else (
 b8 (some ((x.2.2.2).length:Int)) fun v6 =>
 b8 (some (decide (20<v6))) fun v7 =>
 bif v7 then (
 some false)else (
 rounds (α:=Int) (β:=Bool) (fun k8 x8 =>
 b8 (some ((x.2.2.2).length:Int)) fun v10 =>
 b8 (some (decide (x8<v10))) fun v11 =>
 bif v11 then (
 b8 (nth x.2.2.2 x8) fun v12 =>
 b8 (some ((v12.2.2.2.2).length:Int)) fun v17 =>
 b8 (some (decide (40<v17))) fun v18 =>
 bif v18 then (
 some false)else (
 b8 (nth x.2.2.2 x8) fun v19 =>
 b8 (some ((v19.2.2.2.1).size:Int)) fun v24 =>
 b8 (some (decide (100<v24))) fun v25 =>
 bif v25 then (
 some false)else (
 b8 (some (IntKind.i64.wrap (x8+1))) fun v26 =>
 k8 v26)))else (
 some true)) 0))
noncomputable def P0:Unit->Option ((Int×Int×Int×Int×Int×Int)):=fun x =>
 some (1,9,0,0,0,128)
noncomputable def Z5:Unit->Option ((List (Int×Int×Int)×List (Int×Int×Int×List (Int×Int)×Int×Int)×List (Int)×List (Int×Int×Int×ByteArray×List (Int)))):=fun x =>
 some ([(1,0,0),(2,1,1)],([]:List (Int×Int×Int×List (Int×Int)×Int×Int)),([]:List (Int)),[(7,1,1,(ByteArray.mk #[]),[1]),(8,1,1,(ByteArray.mk #[]),[2])])
noncomputable def E5:Int×Int×Int->Option (Bool):=fun x =>
 b8 (some (decide (x.2.1<=x.1))) fun v3 =>
 bif v3 then (
 b8 (some (decide (x.1<=x.2.2))) fun v4 =>
 some v4)else (
 some false)
noncomputable def D6:(Int×Int×Int×Int×Int×Int)->Option (Int):=fun x =>
 b8 (E5 (x.1,1,1073741824)) fun v6 =>
 b8 (some (!(v6))) fun v7 =>
 bif v7 then (
 some 2)else (
 b8 (E5 (x.2.1,1,9)) fun v8 =>
 b8 (some (!(v8))) fun v9 =>
 bif v9 then (
 some 2)else (
 b8 (E5 (x.2.2.1,0,4398046511104)) fun v10 =>
 b8 (some (!(v10))) fun v11 =>
 bif v11 then (
 some 2)else (
 b8 (E5 (x.2.2.2.1,0,4398046511104)) fun v12 =>
 b8 (some (!(v12))) fun v13 =>
 bif v13 then (
 some 2)else (
 b8 (E5 (x.2.2.2.2.1,0,64)) fun v14 =>
 b8 (some (!(v14))) fun v15 =>
 bif v15 then (
 some 2)else (
 b8 (E5 (x.2.2.2.2.2,0,128)) fun v16 =>
 b8 (some (!(v16))) fun v17 =>
 bif v17 then (
 some 2)else (
 some 0))))))
noncomputable def L4:(List (Int×Int×Int)×List (Int×Int×Int×List (Int×Int)×Int×Int)×List (Int))->Option ((List (Int)×List (Int))):=fun x =>
 b8 (some ((x.1).length:Int)) fun v3 =>
 rounds (α:=List (Int)×Int) (β:=(List (Int)×List (Int))) (fun k4 x4 =>
 b8 (some (decide (x4.2<v3))) fun v7 =>
 bif v7 then (
 b8 (nth x.1 x4.2) fun v8 =>
 b8 (Q5 8 x4.1 [v8.1]) fun v11 =>
 b8 (some (IntKind.i64.wrap (x4.2+1))) fun v12 =>
 k4 (v11,v12))else (
 b8 (some ((x.2.1).length:Int)) fun v8 =>
 rounds (α:=List (Int)×Int) (β:=(List (Int)×List (Int))) (fun k9 x9 =>
 b8 (some (decide (x9.2<v8))) fun v12 =>
 bif v12 then (
 b8 (nth x.2.1 x9.2) fun v13 =>
 b8 (Q5 8 x9.1 [v13.1]) fun v19 =>
 b8 (some (IntKind.i64.wrap (x9.2+1))) fun v20 =>
 k9 (v19,v20))else (
 some (x4.1,x9.1))) (([]:List (Int)),0))) (([]:List (Int)),0)
noncomputable def I8:List (Int)->Option (Bool):=fun x =>
 rounds (α:=Int) (β:=Bool) (fun k1 x1 =>
 b8 (some ((x).length:Int)) fun v3 =>
 b8 (some (decide (x1<v3))) fun v4 =>
 bif v4 then (
 b8 (some (IntKind.i64.wrap (x1-1))) fun v5 =>
 b8 (nth x v5) fun v6 =>
 b8 (nth x x1) fun v7 =>
 b8 (some (decide (v7<=v6))) fun v8 =>
 bif v8 then (
 some false)else (
 b8 (some (IntKind.i64.wrap (x1+1))) fun v9 =>
 k1 v9))else (
 some true)) 1
noncomputable def N6:Int->Option (Bool):=fun x =>
 b8 (some (decide (x<1))) fun v1 =>
 bif v1 then (
 some true)else (
 b8 (some (decide (1073741824<x))) fun v2 =>
 some v2)
noncomputable def w8:List (Int)×(Unit)->Option (Bool):=fun x =>
 b8 (some ((x.1).length:Int)) fun v1 =>
 rounds (α:=Int) (β:=Bool) (fun k2 x2 =>
 b8 (some (decide (x2<v1))) fun v4 =>
 bif v4 then (
 b8 (nth x.1 x2) fun v5 =>
 b8 (N6 v5) fun v6 =>
 bif v6 then (
 b8 (some (decide (0<=x2))) fun v7 =>
 some v7)else (
 b8 (some (IntKind.i64.wrap (x2+1))) fun v7 =>
 k2 v7))else (
 some false)) 0
noncomputable def L1:List (Int)->Option (Bool):=fun x =>
 b8 (w8 (x,())) fun v1 =>
 b8 (some (!(v1))) fun v2 =>
 some v2
noncomputable def K5:(Int×Int)->Option (Bool):=fun x =>
 b8 (some (decide (x.1<(-1048576)))) fun v2 =>
 bif v2 then (
 some true)else (
 b8 (some (decide (1048576<x.1))) fun v3 =>
 bif v3 then (
 some true)else (
 b8 (some (decide (x.2<(-1048576)))) fun v4 =>
 bif v4 then (
 some true)else (
 b8 (some (decide (1048576<x.2))) fun v5 =>
 some v5)))
noncomputable def u4:List (Int×Int)×(Unit)->Option (Bool):=fun x =>
 b8 (some ((x.1).length:Int)) fun v1 =>
 rounds (α:=Int) (β:=Bool) (fun k2 x2 =>
 b8 (some (decide (x2<v1))) fun v4 =>
 bif v4 then (
 b8 (nth x.1 x2) fun v5 =>
 b8 (K5 (v5.1,v5.2)) fun v7 =>
 bif v7 then (
 b8 (some (decide (0<=x2))) fun v8 =>
 some v8)else (
 b8 (some (IntKind.i64.wrap (x2+1))) fun v8 =>
 k2 v8))else (
 some false)) 0
noncomputable def ax0:(List (Int×Int×Int)×List (Int×Int×Int×List (Int×Int)×Int×Int)×List (Int))->Option (Bool):=fun x =>
 b8 (some ((x.1).length:Int)) fun v3 =>
 rounds (α:=Int) (β:=Bool) (fun k4 x4 =>
 b8 (some (decide (x4<v3))) fun v6 =>
 bif v6 then (
 b8 (nth x.1 x4) fun v7 =>
 b8 (K5 (v7.2.1,v7.2.2)) fun v10 =>
 bif v10 then (
 some false)else (
 b8 (some (IntKind.i64.wrap (x4+1))) fun v11 =>
 k4 v11))else (
 b8 (some ((x.2.1).length:Int)) fun v7 =>
 rounds (α:=Int) (β:=Bool) (fun k8 x8 =>
 b8 (some (decide (x8<v7))) fun v10 =>
 bif v10 then (
 b8 (nth x.2.1 x8) fun v11 =>
 b8 (u4 (v11.2.2.2.1,())) fun v17 =>
 bif v17 then (
 some false)else (
 b8 (some (IntKind.i64.wrap (x8+1))) fun v18 =>
 k8 v18))else (
 some true)) 0)) 0
noncomputable def H8:List (Int)×Int->Option (Int):=fun x =>
 b8 (some ((x.1).length:Int)) fun v2 =>
 rounds (α:=Int) (β:=Int) (fun k3 x3 =>
 b8 (some (decide (x3<v2))) fun v5 =>
 bif v5 then (
 b8 (nth x.1 x3) fun v6 =>
 b8 (some (decide (x.2=v6))) fun v7 =>
 bif v7 then (
 some x3)else (
 b8 (some (IntKind.i64.wrap (x3+1))) fun v8 =>
 k3 v8))else (
 some (-1))) 0
noncomputable def l8:List (Int)×Int->Option (Bool):=fun x =>
 b8 (H8 (x.1,x.2)) fun v2 =>
 b8 (some (decide (0<=v2))) fun v3 =>
 some v3
noncomputable def P3:(List (Int×Int×Int)×List (Int×Int×Int×List (Int×Int)×Int×Int)×List (Int))×List (Int)->Option (Int):=fun x =>
 b8 (some ((x.1.1).length:Int)) fun v4 =>
 rounds (α:=Int) (β:=Int) (fun k5 x5 =>
 b8 (some (decide (x5<v4))) fun v7 =>
 bif v7 then (
 b8 (nth x.1.1 x5) fun v8 =>
 b8 (td0 x.1.1 none (some x5)) fun v11 =>
 b8 (some ((v11).length:Int)) fun v12 =>
 rounds (α:=Int) (β:=Int) (fun k13 x13 =>
 b8 (some (decide (x13<v12))) fun v15 =>
 bif v15 then (
 b8 (nth v11 x13) fun v16 =>
 b8 (some ((fun (a b:Int×Int)=>(decide (a.1=b.1)&&decide (a.2=b.2))) (v8.2.1,v8.2.2) (v16.2.1,v16.2.2))) fun v19 =>
 bif v19 then (
 some 8)else (
 b8 (some (IntKind.i64.wrap (x13+1))) fun v20 =>
 k13 v20))else (
 b8 (some (IntKind.i64.wrap (x5+1))) fun v16 =>
 k5 v16)) 0)else (
 b8 (some ((x.1.2.1).length:Int)) fun v8 =>
 rounds (α:=Int) (β:=Int) (fun k9 x9 =>
 b8 (some (decide (x9<v8))) fun v11 =>
 bif v11 then (
 b8 (nth x.1.2.1 x9) fun v12 =>
 b8 (l8 (x.2,v12.2.1)) fun v18 =>
 b8 (some (!(v18))) fun v19 =>
 bif v19 then (
 some 7)else (
 b8 (l8 (x.2,v12.2.2.1)) fun v20 =>
 b8 (some (!(v20))) fun v21 =>
 bif v21 then (
 some 7)else (
 b8 (some (IntKind.i64.wrap (x9+1))) fun v22 =>
 k9 v22)))else (
 b8 (some ((x.1.2.1).length:Int)) fun v12 =>
 rounds (α:=Int) (β:=Int) (fun k13 x13 =>
 b8 (some (decide (x13<v12))) fun v15 =>
 bif v15 then (
 b8 (nth x.1.2.1 x13) fun v16 =>
 b8 (some (!decide (v16.2.2.2.2.1=0))) fun v22 =>
 bif v22 then (
 b8 (l8 (x.1.2.2,v16.2.2.2.2.1)) fun v23 =>
 b8 (some (!(v23))) fun v24 =>
 bif v24 then (
 some 12)else (
 b8 (some (!decide (v16.2.2.2.2.2=0))) fun v25 =>
 bif v25 then (
 b8 (l8 (x.1.2.2,v16.2.2.2.2.2)) fun v26 =>
 b8 (some (!(v26))) fun v27 =>
 bif v27 then (
 some 12)else (
 b8 (some (IntKind.i64.wrap (x13+1))) fun v28 =>
 k13 v28))else (
 b8 (some (IntKind.i64.wrap (x13+1))) fun v26 =>
 k13 v26)))else (
 b8 (some (!decide (v16.2.2.2.2.2=0))) fun v23 =>
 bif v23 then (
 b8 (l8 (x.1.2.2,v16.2.2.2.2.2)) fun v24 =>
 b8 (some (!(v24))) fun v25 =>
 bif v25 then (
 some 12)else (
 b8 (some (IntKind.i64.wrap (x13+1))) fun v26 =>
 k13 v26))else (
 b8 (some (IntKind.i64.wrap (x13+1))) fun v24 =>
 k13 v24)))else (
 some 0)) 0)) 0)) 0
noncomputable def al0:(List (Int×Int×Int)×List (Int×Int×Int×List (Int×Int)×Int×Int)×List (Int))×Int->Option (((Int×Int×Int×List (Int×Int)×Int×Int)×Bool)):=fun x =>
 b8 (some ((x.1.2.1).length:Int)) fun v4 =>
 rounds (α:=Int) (β:=((Int×Int×Int×List (Int×Int)×Int×Int)×Bool)) (fun k5 x5 =>
 b8 (some (decide (x5<v4))) fun v7 =>
 bif v7 then (
 b8 (nth x.1.2.1 x5) fun v8 =>
 b8 (some (decide (v8.1=x.2))) fun v14 =>
 bif v14 then (
 b8 (slices_Clone_api_Point v8.2.2.2.1) fun v15 =>
 some ((v8.1,v8.2.1,v8.2.2.1,v15,v8.2.2.2.2.1,v8.2.2.2.2.2),true))else (
 b8 (some (IntKind.i64.wrap (x5+1))) fun v15 =>
 k5 v15))else (
 some ((0,0,0,([]:List (Int×Int)),0,0),false))) 0
noncomputable def N7:(List (Int×Int×Int)×List (Int×Int×Int×List (Int×Int)×Int×Int)×List (Int))×Int->Option (((Int×Int×Int)×Bool)):=fun x =>
 b8 (some ((x.1.1).length:Int)) fun v4 =>
 rounds (α:=Int) (β:=((Int×Int×Int)×Bool)) (fun k5 x5 =>
 b8 (some (decide (x5<v4))) fun v7 =>
 bif v7 then (
 b8 (nth x.1.1 x5) fun v8 =>
 b8 (some (decide (v8.1=x.2))) fun v11 =>
 bif v11 then (
 some ((v8.1,v8.2.1,v8.2.2),true))else (
 b8 (some (IntKind.i64.wrap (x5+1))) fun v12 =>
 k5 v12))else (
 some ((0,0,0),false))) 0
noncomputable def E9:(List (Int×Int×Int)×List (Int×Int×Int×List (Int×Int)×Int×Int)×List (Int))×Int->Option ((List (Int×Int)×Int)):=fun x =>
 b8 (al0 ((x.1.1,x.1.2.1,x.1.2.2),x.2)) fun v4 =>
 b8 (N7 ((x.1.1,x.1.2.1,x.1.2.2),v4.1.2.1)) fun v11 =>
 b8 (N7 ((x.1.1,x.1.2.1,x.1.2.2),v4.1.2.2.1)) fun v15 =>
 b8 (some (!(v4.2))) fun v19 =>
 bif v19 then (
 some (([]:List (Int×Int)),7))else (
 b8 (some (!(v11.2))) fun v20 =>
 bif v20 then (
 some (([]:List (Int×Int)),7))else (
 b8 (some (!(v15.2))) fun v21 =>
 bif v21 then (
 some (([]:List (Int×Int)),7))else (
 b8 (some ((v4.1.2.2.2.1).length:Int)) fun v22 =>
 b8 (some (IntKind.i64.wrap (1+v22))) fun v23 =>
 b8 (some (decide (v23<0))) fun v24 =>
 bif v24 then (
 none)else (
 b8 (some (IntKind.i64.wrap (v23+1))) fun v25 =>
 b8 (some (decide (v25<0))) fun v26 =>
 bif v26 then (
 none)else (
 b8 (some (decide (v25<0))) fun v27 =>
 bif v27 then (
 none)else (
 b8 (some (IntKind.i64.wrap (v25-0))) fun v28 =>
 b8 (some (decide (0<v28))) fun v29 =>
 bif v29 then (
 b8 (zerO 16 ((0,0):Int×Int) v28) fun v30 =>
 b8 (some ()) fun v31 =>
 b8 (Q5 16 ([]:List (Int×Int)) [(v11.1.2.1,v11.1.2.2)]) fun v31 =>
 b8 (Q5 16 v31 v4.1.2.2.2.1) fun v32 =>
 b8 (Q5 16 v32 [(v15.1.2.1,v15.1.2.2)]) fun v33 =>
 some (v33,0))else (
 b8 (Q5 16 [(v11.1.2.1,v11.1.2.2)] v4.1.2.2.2.1) fun v30 =>
 b8 (Q5 16 v30 [(v15.1.2.1,v15.1.2.2)]) fun v31 =>
 some (v31,0))))))))
noncomputable def u5:((Int×Int×Int×List (Int×Int)×Int×Int×List (Int×Int))×Int)->Option (((Int×Int)×(Int×Int))):=fun x =>
 b8 (some ()) fun v2 =>
 b8 (some x.1) fun v2 =>
 b8 (nth v2.2.2.2.2.2.2 x.2) fun v9 =>
 b8 (some ()) fun v11 =>
 b8 (some x.1) fun v11 =>
 b8 (some (IntKind.i64.wrap (x.2+1))) fun v18 =>
 b8 (nth v11.2.2.2.2.2.2 v18) fun v19 =>
 some ((v9.1,v9.2),(v19.1,v19.2))
noncomputable def B2:((Int×Int×Int×List (Int×Int)×Int×Int×List (Int×Int))×Int)->Option (Int):=fun x =>
 b8 (u5 (x.1,x.2)) fun v2 =>
 b8 (some (List.foldl mnI v2.1.1 [v2.2.1])) fun v6 =>
 some v6
noncomputable def C2:Int->Option (Bool):=fun x =>
 b8 (some (!decide (x=x))) fun v1 =>
 some v1
noncomputable def y0:Int×Int->Option (Int):=fun x =>
 b8 (C2 x.1) fun v2 =>
 b8 (C2 x.2) fun v3 =>
 bif v2 then (
 bif v3 then (
 some 0)else (
 some (-1)))else (
 bif v3 then (
 some 1)else (
 b8 (some (decide (x.1<x.2))) fun v4 =>
 bif v4 then (
 some (-1))else (
 b8 (some (decide (x.2<x.1))) fun v5 =>
 bif v5 then (
 some 1)else (
 some 0))))
noncomputable def T4:((Int×Int×Int×List (Int×Int)×Int×Int×List (Int×Int))×Int)×((Int×Int×Int×List (Int×Int)×Int×Int×List (Int×Int))×Int)->Option (Int):=fun x =>
 b8 (B2 (x.1.1,x.1.2)) fun v4 =>
 b8 (B2 (x.2.1,x.2.2)) fun v5 =>
 b8 (y0 (v4,v5)) fun v6 =>
 some v6
noncomputable def slices_SortFunc_plan_segment_plan_planar_1:List ((Int×Int×Int×List (Int×Int)×Int×Int×List (Int×Int))×Int)×Int×(Unit)->Option (List ((Int×Int×Int×List (Int×Int)×Int×Int×List (Int×Int))×Int)):=fun x=>bif decide (x.2.1=2)then du0 (fun a b=>T4 (a,b)) x.1 else none
noncomputable def F7:((Int×Int×Int×List (Int×Int)×Int×Int×List (Int×Int))×Int)->Option (Int):=fun x =>
 b8 (u5 (x.1,x.2)) fun v2 =>
 b8 (some (List.foldl mxI v2.1.1 [v2.2.1])) fun v6 =>
 some v6
noncomputable def L7:List (Int×Int)->Option (Bool):=fun x =>
 b8 (some ((x).length:Int)) fun v1 =>
 rounds (α:=Int) (β:=Bool) (fun k2 x2 =>
 b8 (some (decide (x2<v1))) fun v4 =>
 bif v4 then (
 b8 (nth x x2) fun v5 =>
 b8 (some (decide (v5.1<(-2097152)))) fun v7 =>
 bif v7 then (
 some false)else (
 b8 (some (decide (2097152<v5.1))) fun v8 =>
 bif v8 then (
 some false)else (
 b8 (some (decide (v5.2<(-2097152)))) fun v9 =>
 bif v9 then (
 some false)else (
 b8 (some (decide (2097152<v5.2))) fun v10 =>
 bif v10 then (
 some false)else (
 b8 (some (IntKind.i64.wrap (x2+1))) fun v11 =>
 k2 v11)))))else (
 some true)) 0
noncomputable def M3:(Int×Int)×(Int×Int)×(Int×Int)->Option (Int):=fun x =>
 b8 (some (IntKind.i64.wrap (x.2.1.1-x.1.1))) fun v6 =>
 b8 (some (IntKind.i64.wrap (x.2.2.2-x.1.2))) fun v7 =>
 b8 (some (IntKind.i64.wrap (v6*v7))) fun v8 =>
 b8 (some (IntKind.i64.wrap (x.2.1.2-x.1.2))) fun v9 =>
 b8 (some (IntKind.i64.wrap (x.2.2.1-x.1.1))) fun v10 =>
 b8 (some (IntKind.i64.wrap (v9*v10))) fun v11 =>
 b8 (some (IntKind.i64.wrap (v8-v11))) fun v12 =>
 some v12
noncomputable def y4:(Int×Int)×(Int×Int)×(Int×Int)->Option (Bool):=fun x =>
 b8 (some ()) fun v6 =>
 b8 (L7 [(x.1.1,x.1.2),(x.2.1.1,x.2.1.2),(x.2.2.1,x.2.2.2)]) fun v6 =>
 b8 (some (!(v6))) fun v7 =>
 bif v7 then (
 some false)else (
 b8 (M3 ((x.1.1,x.1.2),(x.2.1.1,x.2.1.2),(x.2.2.1,x.2.2.2))) fun v8 =>
 b8 (some (!decide (v8=0))) fun v9 =>
 bif v9 then (
 some false)else (
 b8 (some (List.foldl mnI x.1.1 [x.2.1.1])) fun v10 =>
 b8 (some (decide (v10<=x.2.2.1))) fun v11 =>
 bif v11 then (
 b8 (some (List.foldl mxI x.1.1 [x.2.1.1])) fun v12 =>
 b8 (some (decide (x.2.2.1<=v12))) fun v13 =>
 bif v13 then (
 b8 (some (List.foldl mnI x.1.2 [x.2.1.2])) fun v14 =>
 b8 (some (decide (v14<=x.2.2.2))) fun v15 =>
 bif v15 then (
 b8 (some (List.foldl mxI x.1.2 [x.2.1.2])) fun v16 =>
 b8 (some (decide (x.2.2.2<=v16))) fun v17 =>
 some v17)else (
 some false))else (
 some false))else (
 some false)))
noncomputable def A4:((Int×Int×Int×List (Int×Int)×Int×Int×List (Int×Int))×Int)->Option (Bool):=fun x =>
 b8 (some (decide (x.2=0))) fun v2 =>
 some v2
noncomputable def w6:((Int×Int×Int×List (Int×Int)×Int×Int×List (Int×Int))×Int)->Option (Bool):=fun x =>
 b8 (some ()) fun v2 =>
 b8 (some x.1) fun v2 =>
 b8 (some ((v2.2.2.2.2.2.2).length:Int)) fun v9 =>
 b8 (some (IntKind.i64.wrap (v9-2))) fun v10 =>
 b8 (some (decide (x.2=v10))) fun v11 =>
 some v11
noncomputable def V3:(Int×Int)×(Int×Int)×(Int×Int)->Option (Int):=fun x =>
 b8 (some ()) fun v6 =>
 b8 (L7 [(x.1.1,x.1.2),(x.2.1.1,x.2.1.2),(x.2.2.1,x.2.2.2)]) fun v6 =>
 b8 (some (!(v6))) fun v7 =>
 bif v7 then (
 some 0)else (
 b8 (M3 ((x.1.1,x.1.2),(x.2.1.1,x.2.1.2),(x.2.2.1,x.2.2.2))) fun v8 =>
 some v8)
noncomputable def u7:(Int×Int)×(Int×Int)×(Int×Int)->Option (Int):=fun x =>
 b8 (V3 ((x.1.1,x.1.2),(x.2.1.1,x.2.1.2),(x.2.2.1,x.2.2.2))) fun v6 =>
 b8 (some (decide (0<v6))) fun v7 =>
 bif v7 then (
 some 1)else (
 b8 (some (decide (v6<0))) fun v8 =>
 bif v8 then (
 some (-1))else (
 some 0))
noncomputable def l7:(Int×Int)×(Int×Int)->Option (Bool):=fun x =>
 b8 (some (decide (x.1.1<x.2.1))) fun v4 =>
 bif v4 then (
 some true)else (
 b8 (some (decide (x.1.1=x.2.1))) fun v5 =>
 bif v5 then (
 b8 (some (decide (x.1.2<x.2.2))) fun v6 =>
 some v6)else (
 some false))
noncomputable def V7:(Int×Int)×(Int×Int)×(Int×Int)×(Int×Int)->Option (Int):=fun x =>
 b8 (l7 ((x.2.1.1,x.2.1.2),(x.1.1,x.1.2))) fun v8 =>
 bif v8 then (
 b8 (l7 ((x.2.2.2.1,x.2.2.2.2),(x.2.2.1.1,x.2.2.1.2))) fun v9 =>
 bif v9 then (
 b8 (l7 ((x.2.1.1,x.2.1.2),(x.2.2.2.1,x.2.2.2.2))) fun v10 =>
 bif v10 then (
 b8 (l7 ((x.2.2.1.1,x.2.2.1.2),(x.1.1,x.1.2))) fun v11 =>
 bif v11 then (
 b8 (some ((fun (a b:Int×Int)=>(decide (a.1=b.1)&&decide (a.2=b.2))) (x.2.2.2.1,x.2.2.2.2) (x.2.2.1.1,x.2.2.1.2))) fun v12 =>
 bif v12 then (
 some 1)else (
 b8 (l7 ((x.2.2.2.1,x.2.2.2.2),(x.2.2.1.1,x.2.2.1.2))) fun v13 =>
 bif v13 then (
 some 2)else (
 some 0)))else (
 b8 (some ((fun (a b:Int×Int)=>(decide (a.1=b.1)&&decide (a.2=b.2))) (x.2.2.2.1,x.2.2.2.2) (x.1.1,x.1.2))) fun v12 =>
 bif v12 then (
 some 1)else (
 b8 (l7 ((x.2.2.2.1,x.2.2.2.2),(x.1.1,x.1.2))) fun v13 =>
 bif v13 then (
 some 2)else (
 some 0))))else (
 b8 (l7 ((x.2.2.1.1,x.2.2.1.2),(x.1.1,x.1.2))) fun v11 =>
 bif v11 then (
 b8 (some ((fun (a b:Int×Int)=>(decide (a.1=b.1)&&decide (a.2=b.2))) (x.2.1.1,x.2.1.2) (x.2.2.1.1,x.2.2.1.2))) fun v12 =>
 bif v12 then (
 some 1)else (
 b8 (l7 ((x.2.1.1,x.2.1.2),(x.2.2.1.1,x.2.2.1.2))) fun v13 =>
 bif v13 then (
 some 2)else (
 some 0)))else (
 b8 (some ((fun (a b:Int×Int)=>(decide (a.1=b.1)&&decide (a.2=b.2))) (x.2.1.1,x.2.1.2) (x.1.1,x.1.2))) fun v12 =>
 bif v12 then (
 some 1)else (
 b8 (l7 ((x.2.1.1,x.2.1.2),(x.1.1,x.1.2))) fun v13 =>
 bif v13 then (
 some 2)else (
 some 0)))))else (
 b8 (l7 ((x.2.1.1,x.2.1.2),(x.2.2.1.1,x.2.2.1.2))) fun v10 =>
 bif v10 then (
 b8 (l7 ((x.2.2.2.1,x.2.2.2.2),(x.1.1,x.1.2))) fun v11 =>
 bif v11 then (
 b8 (some ((fun (a b:Int×Int)=>(decide (a.1=b.1)&&decide (a.2=b.2))) (x.2.2.1.1,x.2.2.1.2) (x.2.2.2.1,x.2.2.2.2))) fun v12 =>
 bif v12 then (
 some 1)else (
 b8 (l7 ((x.2.2.1.1,x.2.2.1.2),(x.2.2.2.1,x.2.2.2.2))) fun v13 =>
 bif v13 then (
 some 2)else (
 some 0)))else (
 b8 (some ((fun (a b:Int×Int)=>(decide (a.1=b.1)&&decide (a.2=b.2))) (x.2.2.1.1,x.2.2.1.2) (x.1.1,x.1.2))) fun v12 =>
 bif v12 then (
 some 1)else (
 b8 (l7 ((x.2.2.1.1,x.2.2.1.2),(x.1.1,x.1.2))) fun v13 =>
 bif v13 then (
 some 2)else (
 some 0))))else (
 b8 (l7 ((x.2.2.2.1,x.2.2.2.2),(x.1.1,x.1.2))) fun v11 =>
 bif v11 then (
 b8 (some ((fun (a b:Int×Int)=>(decide (a.1=b.1)&&decide (a.2=b.2))) (x.2.1.1,x.2.1.2) (x.2.2.2.1,x.2.2.2.2))) fun v12 =>
 bif v12 then (
 some 1)else (
 b8 (l7 ((x.2.1.1,x.2.1.2),(x.2.2.2.1,x.2.2.2.2))) fun v13 =>
 bif v13 then (
 some 2)else (
 some 0)))else (
 b8 (some ((fun (a b:Int×Int)=>(decide (a.1=b.1)&&decide (a.2=b.2))) (x.2.1.1,x.2.1.2) (x.1.1,x.1.2))) fun v12 =>
 bif v12 then (
 some 1)else (
 b8 (l7 ((x.2.1.1,x.2.1.2),(x.1.1,x.1.2))) fun v13 =>
 bif v13 then (
 some 2)else (
 some 0))))))else (
 b8 (l7 ((x.2.2.2.1,x.2.2.2.2),(x.2.2.1.1,x.2.2.1.2))) fun v9 =>
 bif v9 then (
 b8 (l7 ((x.1.1,x.1.2),(x.2.2.2.1,x.2.2.2.2))) fun v10 =>
 bif v10 then (
 b8 (l7 ((x.2.2.1.1,x.2.2.1.2),(x.2.1.1,x.2.1.2))) fun v11 =>
 bif v11 then (
 b8 (some ((fun (a b:Int×Int)=>(decide (a.1=b.1)&&decide (a.2=b.2))) (x.2.2.2.1,x.2.2.2.2) (x.2.2.1.1,x.2.2.1.2))) fun v12 =>
 bif v12 then (
 some 1)else (
 b8 (l7 ((x.2.2.2.1,x.2.2.2.2),(x.2.2.1.1,x.2.2.1.2))) fun v13 =>
 bif v13 then (
 some 2)else (
 some 0)))else (
 b8 (some ((fun (a b:Int×Int)=>(decide (a.1=b.1)&&decide (a.2=b.2))) (x.2.2.2.1,x.2.2.2.2) (x.2.1.1,x.2.1.2))) fun v12 =>
 bif v12 then (
 some 1)else (
 b8 (l7 ((x.2.2.2.1,x.2.2.2.2),(x.2.1.1,x.2.1.2))) fun v13 =>
 bif v13 then (
 some 2)else (
 some 0))))else (
 b8 (l7 ((x.2.2.1.1,x.2.2.1.2),(x.2.1.1,x.2.1.2))) fun v11 =>
 bif v11 then (
 b8 (some ((fun (a b:Int×Int)=>(decide (a.1=b.1)&&decide (a.2=b.2))) (x.1.1,x.1.2) (x.2.2.1.1,x.2.2.1.2))) fun v12 =>
 bif v12 then (
 some 1)else (
 b8 (l7 ((x.1.1,x.1.2),(x.2.2.1.1,x.2.2.1.2))) fun v13 =>
 bif v13 then (
 some 2)else (
 some 0)))else (
 b8 (some ((fun (a b:Int×Int)=>(decide (a.1=b.1)&&decide (a.2=b.2))) (x.1.1,x.1.2) (x.2.1.1,x.2.1.2))) fun v12 =>
 bif v12 then (
 some 1)else (
 b8 (l7 ((x.1.1,x.1.2),(x.2.1.1,x.2.1.2))) fun v13 =>
 bif v13 then (
 some 2)else (
 some 0)))))else (
 b8 (l7 ((x.1.1,x.1.2),(x.2.2.1.1,x.2.2.1.2))) fun v10 =>
 bif v10 then (
 b8 (l7 ((x.2.2.2.1,x.2.2.2.2),(x.2.1.1,x.2.1.2))) fun v11 =>
 bif v11 then (
 b8 (some ((fun (a b:Int×Int)=>(decide (a.1=b.1)&&decide (a.2=b.2))) (x.2.2.1.1,x.2.2.1.2) (x.2.2.2.1,x.2.2.2.2))) fun v12 =>
 bif v12 then (
 some 1)else (
 b8 (l7 ((x.2.2.1.1,x.2.2.1.2),(x.2.2.2.1,x.2.2.2.2))) fun v13 =>
 bif v13 then (
 some 2)else (
 some 0)))else (
 b8 (some ((fun (a b:Int×Int)=>(decide (a.1=b.1)&&decide (a.2=b.2))) (x.2.2.1.1,x.2.2.1.2) (x.2.1.1,x.2.1.2))) fun v12 =>
 bif v12 then (
 some 1)else (
 b8 (l7 ((x.2.2.1.1,x.2.2.1.2),(x.2.1.1,x.2.1.2))) fun v13 =>
 bif v13 then (
 some 2)else (
 some 0))))else (
 b8 (l7 ((x.2.2.2.1,x.2.2.2.2),(x.2.1.1,x.2.1.2))) fun v11 =>
 bif v11 then (
 b8 (some ((fun (a b:Int×Int)=>(decide (a.1=b.1)&&decide (a.2=b.2))) (x.1.1,x.1.2) (x.2.2.2.1,x.2.2.2.2))) fun v12 =>
 bif v12 then (
 some 1)else (
 b8 (l7 ((x.1.1,x.1.2),(x.2.2.2.1,x.2.2.2.2))) fun v13 =>
 bif v13 then (
 some 2)else (
 some 0)))else (
 b8 (some ((fun (a b:Int×Int)=>(decide (a.1=b.1)&&decide (a.2=b.2))) (x.1.1,x.1.2) (x.2.1.1,x.2.1.2))) fun v12 =>
 bif v12 then (
 some 1)else (
 b8 (l7 ((x.1.1,x.1.2),(x.2.1.1,x.2.1.2))) fun v13 =>
 bif v13 then (
 some 2)else (
 some 0))))))
noncomputable def bp0:(Int×Int)×(Int×Int)×(Int×Int)×(Int×Int)->Option (Int):=fun x =>
 b8 (some ()) fun v8 =>
 b8 (L7 [(x.1.1,x.1.2),(x.2.1.1,x.2.1.2),(x.2.2.1.1,x.2.2.1.2),(x.2.2.2.1,x.2.2.2.2)]) fun v8 =>
 b8 (some (!(v8))) fun v9 =>
 bif v9 then (
 some 0)else (
 b8 (some ((fun (a b:Int×Int)=>(decide (a.1=b.1)&&decide (a.2=b.2))) (x.1.1,x.1.2) (x.2.1.1,x.2.1.2))) fun v10 =>
 bif v10 then (
 b8 (y4 ((x.2.2.1.1,x.2.2.1.2),(x.2.2.2.1,x.2.2.2.2),(x.1.1,x.1.2))) fun v11 =>
 bif v11 then (
 some 1)else (
 some 0))else (
 b8 (some ((fun (a b:Int×Int)=>(decide (a.1=b.1)&&decide (a.2=b.2))) (x.2.2.1.1,x.2.2.1.2) (x.2.2.2.1,x.2.2.2.2))) fun v11 =>
 bif v11 then (
 b8 (y4 ((x.1.1,x.1.2),(x.2.1.1,x.2.1.2),(x.2.2.1.1,x.2.2.1.2))) fun v12 =>
 bif v12 then (
 some 1)else (
 some 0))else (
 b8 (u7 ((x.1.1,x.1.2),(x.2.1.1,x.2.1.2),(x.2.2.1.1,x.2.2.1.2))) fun v12 =>
 b8 (some (decide (v12=0))) fun v13 =>
 bif v13 then (
 b8 (u7 ((x.1.1,x.1.2),(x.2.1.1,x.2.1.2),(x.2.2.2.1,x.2.2.2.2))) fun v14 =>
 b8 (some (decide (v14=0))) fun v15 =>
 bif v15 then (
 b8 (V7 ((x.1.1,x.1.2),(x.2.1.1,x.2.1.2),(x.2.2.1.1,x.2.2.1.2),(x.2.2.2.1,x.2.2.2.2))) fun v16 =>
 some v16)else (
 b8 (u7 ((x.1.1,x.1.2),(x.2.1.1,x.2.1.2),(x.2.2.1.1,x.2.2.1.2))) fun v16 =>
 b8 (u7 ((x.1.1,x.1.2),(x.2.1.1,x.2.1.2),(x.2.2.2.1,x.2.2.2.2))) fun v17 =>
 b8 (some (IntKind.i64.wrap (v16*v17))) fun v18 =>
 b8 (some (decide (v18<=0))) fun v19 =>
 bif v19 then (
 b8 (u7 ((x.2.2.1.1,x.2.2.1.2),(x.2.2.2.1,x.2.2.2.2),(x.1.1,x.1.2))) fun v20 =>
 b8 (u7 ((x.2.2.1.1,x.2.2.1.2),(x.2.2.2.1,x.2.2.2.2),(x.2.1.1,x.2.1.2))) fun v21 =>
 b8 (some (IntKind.i64.wrap (v20*v21))) fun v22 =>
 b8 (some (decide (v22<=0))) fun v23 =>
 bif v23 then (
 some 1)else (
 some 0))else (
 some 0)))else (
 b8 (u7 ((x.1.1,x.1.2),(x.2.1.1,x.2.1.2),(x.2.2.1.1,x.2.2.1.2))) fun v14 =>
 b8 (u7 ((x.1.1,x.1.2),(x.2.1.1,x.2.1.2),(x.2.2.2.1,x.2.2.2.2))) fun v15 =>
 b8 (some (IntKind.i64.wrap (v14*v15))) fun v16 =>
 b8 (some (decide (v16<=0))) fun v17 =>
 bif v17 then (
 b8 (u7 ((x.2.2.1.1,x.2.2.1.2),(x.2.2.2.1,x.2.2.2.2),(x.1.1,x.1.2))) fun v18 =>
 b8 (u7 ((x.2.2.1.1,x.2.2.1.2),(x.2.2.2.1,x.2.2.2.2),(x.2.1.1,x.2.1.2))) fun v19 =>
 b8 (some (IntKind.i64.wrap (v18*v19))) fun v20 =>
 b8 (some (decide (v20<=0))) fun v21 =>
 bif v21 then (
 some 1)else (
 some 0))else (
 some 0)))))
noncomputable def J8:((Int×Int×Int×List (Int×Int)×Int×Int×List (Int×Int))×Int)×((Int×Int×Int×List (Int×Int)×Int×Int×List (Int×Int))×Int)×List (Int×(Int×Int))->Option (Bool):=fun x =>
 b8 (u5 (x.1.1,x.1.2)) fun v5 =>
 b8 (u5 (x.2.1.1,x.2.1.2)) fun v9 =>
 b8 (bp0 ((v5.1.1,v5.1.2),(v5.2.1,v5.2.2),(v9.1.1,v9.1.2),(v9.2.1,v9.2.2))) fun v13 =>
 b8 (some ()) fun v14 =>
 b8 (some x.1.1) fun v14 =>
 b8 (some ()) fun v21 =>
 b8 (some x.2.1.1) fun v21 =>
 b8 (some (decide (v14.1=v21.1))) fun v28 =>
 bif v28 then (
 b8 (some (decide (x.2.1.2<x.1.2))) fun v29 =>
 bif v29 then (
 b8 (some (IntKind.i64.wrap (x.2.1.2+1))) fun v30 =>
 b8 (some (decide (v30=x.1.2))) fun v31 =>
 bif v31 then (
 b8 (some (decide (v13=1))) fun v32 =>
 some v32)else (
 b8 (some ()) fun v32 =>
 b8 (some x.2.1.1) fun v32 =>
 b8 (some ()) fun v39 =>
 b8 (some x.2.1.1) fun v39 =>
 b8 (some (decide (v32.2.1=v39.2.2.1))) fun v46 =>
 bif v46 then (
 b8 (A4 (x.2.1.1,x.2.1.2)) fun v47 =>
 bif v47 then (
 b8 (w6 (x.1.1,x.1.2)) fun v48 =>
 bif v48 then (
 b8 (some (decide (v13=1))) fun v49 =>
 some v49)else (
 b8 (some (decide (v13=0))) fun v49 =>
 some v49))else (
 b8 (some (decide (v13=0))) fun v48 =>
 some v48))else (
 b8 (some (decide (v13=0))) fun v47 =>
 some v47)))else (
 b8 (some (IntKind.i64.wrap (x.1.2+1))) fun v30 =>
 b8 (some (decide (v30=x.2.1.2))) fun v31 =>
 bif v31 then (
 b8 (some (decide (v13=1))) fun v32 =>
 some v32)else (
 b8 (some ()) fun v32 =>
 b8 (some x.1.1) fun v32 =>
 b8 (some ()) fun v39 =>
 b8 (some x.1.1) fun v39 =>
 b8 (some (decide (v32.2.1=v39.2.2.1))) fun v46 =>
 bif v46 then (
 b8 (A4 (x.1.1,x.1.2)) fun v47 =>
 bif v47 then (
 b8 (w6 (x.2.1.1,x.2.1.2)) fun v48 =>
 bif v48 then (
 b8 (some (decide (v13=1))) fun v49 =>
 some v49)else (
 b8 (some (decide (v13=0))) fun v49 =>
 some v49))else (
 b8 (some (decide (v13=0))) fun v48 =>
 some v48))else (
 b8 (some (decide (v13=0))) fun v47 =>
 some v47))))else (
 b8 (some (!decide (v13=1))) fun v29 =>
 bif v29 then (
 b8 (some (decide (v13=0))) fun v30 =>
 some v30)else (
 b8 (some ()) fun v30 =>
 b8 (some x.1.1) fun v30 =>
 b8 (some ()) fun v37 =>
 b8 (some x.1.1) fun v37 =>
 b8 (orO (lkp (fun (a b:Int)=>decide (a=b)) v30.2.1 x.2.2) (some (0,0))) fun v44 =>
 b8 (some ()) fun v46 =>
 b8 (some x.2.1.1) fun v46 =>
 b8 (some (decide (v30.2.1=v46.2.1))) fun v53 =>
 bif v53 then (
 b8 (y4 ((v5.1.1,v5.1.2),(v5.2.1,v5.2.2),(v44.1,v44.2))) fun v54 =>
 bif v54 then (
 b8 (y4 ((v9.1.1,v9.1.2),(v9.2.1,v9.2.2),(v44.1,v44.2))) fun v55 =>
 bif v55 then (
 some true)else (
 b8 (orO (lkp (fun (a b:Int)=>decide (a=b)) v37.2.2.1 x.2.2) (some (0,0))) fun v56 =>
 b8 (some ()) fun v58 =>
 b8 (some x.2.1.1) fun v58 =>
 b8 (some (decide (v37.2.2.1=v58.2.1))) fun v65 =>
 bif v65 then (
 b8 (y4 ((v5.1.1,v5.1.2),(v5.2.1,v5.2.2),(v56.1,v56.2))) fun v66 =>
 bif v66 then (
 b8 (y4 ((v9.1.1,v9.1.2),(v9.2.1,v9.2.2),(v56.1,v56.2))) fun v67 =>
 bif v67 then (
 some true)else (
 some false))else (
 some false))else (
 b8 (some ()) fun v66 =>
 b8 (some x.2.1.1) fun v66 =>
 b8 (some (decide (v37.2.2.1=v66.2.2.1))) fun v73 =>
 bif v73 then (
 b8 (y4 ((v5.1.1,v5.1.2),(v5.2.1,v5.2.2),(v56.1,v56.2))) fun v74 =>
 bif v74 then (
 b8 (y4 ((v9.1.1,v9.1.2),(v9.2.1,v9.2.2),(v56.1,v56.2))) fun v75 =>
 bif v75 then (
 some true)else (
 some false))else (
 some false))else (
 some false))))else (
 b8 (orO (lkp (fun (a b:Int)=>decide (a=b)) v37.2.2.1 x.2.2) (some (0,0))) fun v55 =>
 b8 (some ()) fun v57 =>
 b8 (some x.2.1.1) fun v57 =>
 b8 (some (decide (v37.2.2.1=v57.2.1))) fun v64 =>
 bif v64 then (
 b8 (y4 ((v5.1.1,v5.1.2),(v5.2.1,v5.2.2),(v55.1,v55.2))) fun v65 =>
 bif v65 then (
 b8 (y4 ((v9.1.1,v9.1.2),(v9.2.1,v9.2.2),(v55.1,v55.2))) fun v66 =>
 bif v66 then (
 some true)else (
 some false))else (
 some false))else (
 b8 (some ()) fun v65 =>
 b8 (some x.2.1.1) fun v65 =>
 b8 (some (decide (v37.2.2.1=v65.2.2.1))) fun v72 =>
 bif v72 then (
 b8 (y4 ((v5.1.1,v5.1.2),(v5.2.1,v5.2.2),(v55.1,v55.2))) fun v73 =>
 bif v73 then (
 b8 (y4 ((v9.1.1,v9.1.2),(v9.2.1,v9.2.2),(v55.1,v55.2))) fun v74 =>
 bif v74 then (
 some true)else (
 some false))else (
 some false))else (
 some false))))else (
 b8 (some ()) fun v54 =>
 b8 (some x.2.1.1) fun v54 =>
 b8 (some (decide (v30.2.1=v54.2.2.1))) fun v61 =>
 bif v61 then (
 b8 (y4 ((v5.1.1,v5.1.2),(v5.2.1,v5.2.2),(v44.1,v44.2))) fun v62 =>
 bif v62 then (
 b8 (y4 ((v9.1.1,v9.1.2),(v9.2.1,v9.2.2),(v44.1,v44.2))) fun v63 =>
 bif v63 then (
 some true)else (
 b8 (orO (lkp (fun (a b:Int)=>decide (a=b)) v37.2.2.1 x.2.2) (some (0,0))) fun v64 =>
 b8 (some ()) fun v66 =>
 b8 (some x.2.1.1) fun v66 =>
 b8 (some (decide (v37.2.2.1=v66.2.1))) fun v73 =>
 bif v73 then (
 b8 (y4 ((v5.1.1,v5.1.2),(v5.2.1,v5.2.2),(v64.1,v64.2))) fun v74 =>
 bif v74 then (
 b8 (y4 ((v9.1.1,v9.1.2),(v9.2.1,v9.2.2),(v64.1,v64.2))) fun v75 =>
 bif v75 then (
 some true)else (
 some false))else (
 some false))else (
 b8 (some ()) fun v74 =>
 b8 (some x.2.1.1) fun v74 =>
 b8 (some (decide (v37.2.2.1=v74.2.2.1))) fun v81 =>
 bif v81 then (
 b8 (y4 ((v5.1.1,v5.1.2),(v5.2.1,v5.2.2),(v64.1,v64.2))) fun v82 =>
 bif v82 then (
 b8 (y4 ((v9.1.1,v9.1.2),(v9.2.1,v9.2.2),(v64.1,v64.2))) fun v83 =>
 bif v83 then (
 some true)else (
 some false))else (
 some false))else (
 some false))))else (
 b8 (orO (lkp (fun (a b:Int)=>decide (a=b)) v37.2.2.1 x.2.2) (some (0,0))) fun v63 =>
 b8 (some ()) fun v65 =>
 b8 (some x.2.1.1) fun v65 =>
 b8 (some (decide (v37.2.2.1=v65.2.1))) fun v72 =>
 bif v72 then (
 b8 (y4 ((v5.1.1,v5.1.2),(v5.2.1,v5.2.2),(v63.1,v63.2))) fun v73 =>
 bif v73 then (
 b8 (y4 ((v9.1.1,v9.1.2),(v9.2.1,v9.2.2),(v63.1,v63.2))) fun v74 =>
 bif v74 then (
 some true)else (
 some false))else (
 some false))else (
 b8 (some ()) fun v73 =>
 b8 (some x.2.1.1) fun v73 =>
 b8 (some (decide (v37.2.2.1=v73.2.2.1))) fun v80 =>
 bif v80 then (
 b8 (y4 ((v5.1.1,v5.1.2),(v5.2.1,v5.2.2),(v63.1,v63.2))) fun v81 =>
 bif v81 then (
 b8 (y4 ((v9.1.1,v9.1.2),(v9.2.1,v9.2.2),(v63.1,v63.2))) fun v82 =>
 bif v82 then (
 some true)else (
 some false))else (
 some false))else (
 some false))))else (
 b8 (orO (lkp (fun (a b:Int)=>decide (a=b)) v37.2.2.1 x.2.2) (some (0,0))) fun v62 =>
 b8 (some ()) fun v64 =>
 b8 (some x.2.1.1) fun v64 =>
 b8 (some (decide (v37.2.2.1=v64.2.1))) fun v71 =>
 bif v71 then (
 b8 (y4 ((v5.1.1,v5.1.2),(v5.2.1,v5.2.2),(v62.1,v62.2))) fun v72 =>
 bif v72 then (
 b8 (y4 ((v9.1.1,v9.1.2),(v9.2.1,v9.2.2),(v62.1,v62.2))) fun v73 =>
 bif v73 then (
 some true)else (
 some false))else (
 some false))else (
 b8 (some ()) fun v72 =>
 b8 (some x.2.1.1) fun v72 =>
 b8 (some (decide (v37.2.2.1=v72.2.2.1))) fun v79 =>
 bif v79 then (
 b8 (y4 ((v5.1.1,v5.1.2),(v5.2.1,v5.2.2),(v62.1,v62.2))) fun v80 =>
 bif v80 then (
 b8 (y4 ((v9.1.1,v9.1.2),(v9.2.1,v9.2.2),(v62.1,v62.2))) fun v81 =>
 bif v81 then (
 some true)else (
 some false))else (
 some false))else (
 some false))))))
noncomputable def az0:(List (Int×Int×Int)×List (Int×Int×Int×List (Int×Int)×Int×Int)×List (Int))->Option (Bool):=fun x =>
 b8 (some ((x.2.1).length:Int)) fun v3 =>
 rounds (α:=List ((Int×Int×Int×List (Int×Int)×Int×Int×List (Int×Int))×Int)×Int) (β:=Bool) (fun k4 x4 =>
 b8 (some (decide (x4.2<v3))) fun v7 =>
 bif v7 then (
 b8 (nth x.2.1 x4.2) fun v8 =>
 b8 (E9 ((x.1,x.2.1,x.2.2),v8.1)) fun v14 =>
 b8 (some (!decide (v14.2=0))) fun v16 =>
 bif v16 then (
 some false)else (
 b8 (some (decide (v8.2.1=v8.2.2.1))) fun v17 =>
 bif v17 then (
 b8 (some ((v14.1).length:Int)) fun v18 =>
 b8 (some (decide (v18<4))) fun v19 =>
 bif v19 then (
 some false)else (
 b8 (some ((v14.1).length:Int)) fun v20 =>
 b8 (some (IntKind.i64.wrap (v20-1))) fun v21 =>
 b8 (some ()) fun v22 =>
 rounds (α:=List ((Int×Int×Int×List (Int×Int)×Int×Int×List (Int×Int))×Int)×Int) (β:=Bool) (fun k22 x22 =>
 b8 (some (decide (x22.2<v21))) fun v25 =>
 bif v25 then (
 b8 (nth v14.1 x22.2) fun v26 =>
 b8 (some (IntKind.i64.wrap (x22.2+1))) fun v28 =>
 b8 (nth v14.1 v28) fun v29 =>
 b8 (some ((fun (a b:Int×Int)=>(decide (a.1=b.1)&&decide (a.2=b.2))) (v26.1,v26.2) (v29.1,v29.2))) fun v31 =>
 bif v31 then (
 some false)else (
 b8 (Q5 16 x22.1 [((v8.1,v8.2.1,v8.2.2.1,v8.2.2.2.1,v8.2.2.2.2.1,v8.2.2.2.2.2,v14.1),x22.2)]) fun v32 =>
 b8 (some (IntKind.i64.wrap (x22.2+1))) fun v33 =>
 k22 (v32,v33)))else (
 b8 (some (IntKind.i64.wrap (x4.2+1))) fun v26 =>
 k4 (x22.1,v26))) (x4.1,0)))else (
 b8 (some ((v14.1).length:Int)) fun v18 =>
 b8 (some (IntKind.i64.wrap (v18-1))) fun v19 =>
 b8 (some ()) fun v20 =>
 rounds (α:=List ((Int×Int×Int×List (Int×Int)×Int×Int×List (Int×Int))×Int)×Int) (β:=Bool) (fun k20 x20 =>
 b8 (some (decide (x20.2<v19))) fun v23 =>
 bif v23 then (
 b8 (nth v14.1 x20.2) fun v24 =>
 b8 (some (IntKind.i64.wrap (x20.2+1))) fun v26 =>
 b8 (nth v14.1 v26) fun v27 =>
 b8 (some ((fun (a b:Int×Int)=>(decide (a.1=b.1)&&decide (a.2=b.2))) (v24.1,v24.2) (v27.1,v27.2))) fun v29 =>
 bif v29 then (
 some false)else (
 b8 (Q5 16 x20.1 [((v8.1,v8.2.1,v8.2.2.1,v8.2.2.2.1,v8.2.2.2.2.1,v8.2.2.2.2.2,v14.1),x20.2)]) fun v30 =>
 b8 (some (IntKind.i64.wrap (x20.2+1))) fun v31 =>
 k20 (v30,v31)))else (
 b8 (some (IntKind.i64.wrap (x4.2+1))) fun v24 =>
 k4 (x20.1,v24))) (x4.1,0))))else (
 b8 (some ((x.1).length:Int)) fun v8 =>
 rounds (α:=Int×List (Int×(Int×Int))) (β:=Bool) (fun k9 x9 =>
 b8 (some (decide (x9.1<v8))) fun v12 =>
 bif v12 then (
 b8 (nth x.1 x9.1) fun v13 =>
 b8 (some (V9 (fun (a b:Int)=>decide (a=b)) v13.1 (v13.2.1,v13.2.2) x9.2)) fun v16 =>
 b8 (some (IntKind.i64.wrap (x9.1+1))) fun v17 =>
 k9 (v17,v16))else (
 b8 (some ()) fun v13 =>
 b8 (slices_SortFunc_plan_segment_plan_planar_1 (x4.1,2,())) fun v13 =>
 b8 (some ((v13).length:Int)) fun v14 =>
 b8 (some ()) fun v15 =>
 rounds (α:=Int) (β:=Bool) (fun k15 x15 =>
 b8 (some (decide (x15<v14))) fun v17 =>
 bif v17 then (
 b8 (nth v13 x15) fun v18 =>
 b8 (some (IntKind.i64.wrap (x15+1))) fun v20 =>
 b8 (td0 v13 (some v20) none) fun v21 =>
 b8 (some ((v21).length:Int)) fun v22 =>
 rounds (α:=Int) (β:=Bool) (fun k23 x23 =>
 b8 (some (decide (x23<v22))) fun v25 =>
 bif v25 then (
 b8 (nth v21 x23) fun v26 =>
 b8 (B2 (v26.1,v26.2)) fun v28 =>
 b8 (F7 (v18.1,v18.2)) fun v29 =>
 b8 (some (decide (v29<v28))) fun v30 =>
 bif v30 then (
 b8 (some ((x.1).length:Int)) fun v31 =>
 rounds (α:=Int) (β:=Bool) (fun k32 x32 =>
 b8 (some (decide (x32<v31))) fun v34 =>
 bif v34 then (
 b8 (nth x.1 x32) fun v35 =>
 b8 (u5 (v18.1,v18.2)) fun v38 =>
 b8 (y4 ((v38.1.1,v38.1.2),(v38.2.1,v38.2.2),(v35.2.1,v35.2.2))) fun v42 =>
 bif v42 then (
 b8 (A4 (v18.1,v18.2)) fun v43 =>
 bif v43 then (
 b8 (some ()) fun v44 =>
 b8 (some v18.1) fun v44 =>
 b8 (some (decide (v44.2.1=v35.1))) fun v51 =>
 b8 (some (!(v51))) fun v52 =>
 bif v52 then (
 b8 (w6 (v18.1,v18.2)) fun v53 =>
 bif v53 then (
 b8 (some ()) fun v54 =>
 b8 (some v18.1) fun v54 =>
 b8 (some (decide (v54.2.2.1=v35.1))) fun v61 =>
 b8 (some (!(v61))) fun v62 =>
 bif v62 then (
 some false)else (
 b8 (some (IntKind.i64.wrap (x32+1))) fun v63 =>
 k32 v63))else (
 some false))else (
 b8 (some (IntKind.i64.wrap (x32+1))) fun v53 =>
 k32 v53))else (
 b8 (w6 (v18.1,v18.2)) fun v44 =>
 bif v44 then (
 b8 (some ()) fun v45 =>
 b8 (some v18.1) fun v45 =>
 b8 (some (decide (v45.2.2.1=v35.1))) fun v52 =>
 b8 (some (!(v52))) fun v53 =>
 bif v53 then (
 some false)else (
 b8 (some (IntKind.i64.wrap (x32+1))) fun v54 =>
 k32 v54))else (
 some false)))else (
 b8 (some (IntKind.i64.wrap (x32+1))) fun v43 =>
 k32 v43))else (
 b8 (some (IntKind.i64.wrap (x15+1))) fun v35 =>
 k15 v35)) 0)else (
 b8 (some ()) fun v31 =>
 b8 (J8 ((v18.1,v18.2),(v26.1,v26.2),x9.2)) fun v31 =>
 b8 (some (!(v31))) fun v32 =>
 bif v32 then (
 some false)else (
 b8 (some (IntKind.i64.wrap (x23+1))) fun v33 =>
 k23 v33)))else (
 b8 (some ((x.1).length:Int)) fun v26 =>
 rounds (α:=Int) (β:=Bool) (fun k27 x27 =>
 b8 (some (decide (x27<v26))) fun v29 =>
 bif v29 then (
 b8 (nth x.1 x27) fun v30 =>
 b8 (u5 (v18.1,v18.2)) fun v33 =>
 b8 (y4 ((v33.1.1,v33.1.2),(v33.2.1,v33.2.2),(v30.2.1,v30.2.2))) fun v37 =>
 bif v37 then (
 b8 (A4 (v18.1,v18.2)) fun v38 =>
 bif v38 then (
 b8 (some ()) fun v39 =>
 b8 (some v18.1) fun v39 =>
 b8 (some (decide (v39.2.1=v30.1))) fun v46 =>
 b8 (some (!(v46))) fun v47 =>
 bif v47 then (
 b8 (w6 (v18.1,v18.2)) fun v48 =>
 bif v48 then (
 b8 (some ()) fun v49 =>
 b8 (some v18.1) fun v49 =>
 b8 (some (decide (v49.2.2.1=v30.1))) fun v56 =>
 b8 (some (!(v56))) fun v57 =>
 bif v57 then (
 some false)else (
 b8 (some (IntKind.i64.wrap (x27+1))) fun v58 =>
 k27 v58))else (
 some false))else (
 b8 (some (IntKind.i64.wrap (x27+1))) fun v48 =>
 k27 v48))else (
 b8 (w6 (v18.1,v18.2)) fun v39 =>
 bif v39 then (
 b8 (some ()) fun v40 =>
 b8 (some v18.1) fun v40 =>
 b8 (some (decide (v40.2.2.1=v30.1))) fun v47 =>
 b8 (some (!(v47))) fun v48 =>
 bif v48 then (
 some false)else (
 b8 (some (IntKind.i64.wrap (x27+1))) fun v49 =>
 k27 v49))else (
 some false)))else (
 b8 (some (IntKind.i64.wrap (x27+1))) fun v38 =>
 k27 v38))else (
 b8 (some (IntKind.i64.wrap (x15+1))) fun v30 =>
 k15 v30)) 0)) 0)else (
 some true)) 0)) (0,([]:List (Int×(Int×Int)))))) (([]:List ((Int×Int×Int×List (Int×Int)×Int×Int×List (Int×Int))×Int)),0)
noncomputable def as0:(List (Int×Int×Int)×List (Int×Int×Int×List (Int×Int)×Int×Int)×List (Int))->Option (Int):=fun x =>
 b8 (some ((x.1).length:Int)) fun v3 =>
 b8 (some (decide (256<v3))) fun v4 =>
 bif v4 then (
 some 3)else (
 b8 (some ((x.2.1).length:Int)) fun v5 =>
 b8 (some (decide (256<v5))) fun v6 =>
 bif v6 then (
 some 3)else (
 b8 (some ((x.2.2).length:Int)) fun v7 =>
 b8 (some (decide (64<v7))) fun v8 =>
 bif v8 then (
 some 3)else (
 b8 (some ((x.2.1).length:Int)) fun v9 =>
 rounds (α:=Int) (β:=Int) (fun k10 x10 =>
 b8 (some (decide (x10<v9))) fun v12 =>
 bif v12 then (
 b8 (nth x.2.1 x10) fun v13 =>
 b8 (some ((v13.2.2.2.1).length:Int)) fun v19 =>
 b8 (some (decide (64<v19))) fun v20 =>
 bif v20 then (
 some 3)else (
 b8 (some (IntKind.i64.wrap (x10+1))) fun v21 =>
 k10 v21))else (
 b8 (L4 (x.1,x.2.1,x.2.2)) fun v13 =>
 b8 (I8 v13.1) fun v15 =>
 b8 (some (!(v15))) fun v16 =>
 bif v16 then (
 some 10)else (
 b8 (I8 v13.2) fun v17 =>
 b8 (some (!(v17))) fun v18 =>
 bif v18 then (
 some 10)else (
 b8 (I8 x.2.2) fun v19 =>
 b8 (some (!(v19))) fun v20 =>
 bif v20 then (
 some 10)else (
 b8 (L1 v13.1) fun v21 =>
 b8 (some (!(v21))) fun v22 =>
 bif v22 then (
 some 2)else (
 b8 (L1 v13.2) fun v23 =>
 b8 (some (!(v23))) fun v24 =>
 bif v24 then (
 some 2)else (
 b8 (L1 x.2.2) fun v25 =>
 b8 (some (!(v25))) fun v26 =>
 bif v26 then (
 some 2)else (
 b8 (ax0 (x.1,x.2.1,x.2.2)) fun v27 =>
 b8 (some (!(v27))) fun v28 =>
 bif v28 then (
 some 2)else (
 b8 (P3 ((x.1,x.2.1,x.2.2),v13.1)) fun v29 =>
 b8 (some (!decide (v29=0))) fun v30 =>
 bif v30 then (
 some v29)else (
 b8 (az0 (x.1,x.2.1,x.2.2)) fun v31 =>
 b8 (some (!(v31))) fun v32 =>
 bif v32 then (
 some 11)else (
 some 0))))))))))) 0)))
noncomputable def R4:(Int×Int)×(Int×Int)->Option (Bool):=fun x =>
 b8 (some (decide (x.2.2<x.1.2))) fun v4 =>
 bif v4 then (
 some true)else (
 b8 (some (decide (x.2.2=x.1.2))) fun v5 =>
 bif v5 then (
 b8 (some (decide (x.2.1<x.1.1))) fun v6 =>
 some v6)else (
 some false))
noncomputable def X6:(Int×Int)×(Int×Int)×(Int×Int)->Option (Bool):=fun x =>
 b8 (some ()) fun v6 =>
 b8 (L7 [(x.1.1,x.1.2),(x.2.1.1,x.2.1.2),(x.2.2.1,x.2.2.2)]) fun v6 =>
 b8 (some (!(v6))) fun v7 =>
 bif v7 then (
 some false)else (
 b8 (some ((fun (a b:Int×Int)=>(decide (a.1=b.1)&&decide (a.2=b.2))) (x.2.1.1,x.2.1.2) (x.1.1,x.1.2))) fun v8 =>
 bif v8 then (
 some false)else (
 b8 (some ((fun (a b:Int×Int)=>(decide (a.1=b.1)&&decide (a.2=b.2))) (x.2.2.1,x.2.2.2) (x.1.1,x.1.2))) fun v9 =>
 bif v9 then (
 some false)else (
 b8 (R4 ((x.1.1,x.1.2),(x.2.1.1,x.2.1.2))) fun v10 =>
 b8 (R4 ((x.1.1,x.1.2),(x.2.2.1,x.2.2.2))) fun v11 =>
 b8 (some (!(v10==v11))) fun v12 =>
 bif v12 then (
 b8 (R4 ((x.1.1,x.1.2),(x.2.2.1,x.2.2.2))) fun v13 =>
 some v13)else (
 b8 (M3 ((x.1.1,x.1.2),(x.2.1.1,x.2.1.2),(x.2.2.1,x.2.2.2))) fun v13 =>
 b8 (some (decide (0<v13))) fun v14 =>
 some v14))))
noncomputable def I4:Int×Int×(Int×Int×Int)×(List (Int×(Int×Int)))->Option (Int):=fun x =>
 b8 (orO (lkp (fun (a b:Int)=>decide (a=b)) x.1 x.2.2.2) (some (0,0))) fun v6 =>
 b8 (orO (lkp (fun (a b:Int)=>decide (a=b)) x.2.1 x.2.2.2) (some (0,0))) fun v8 =>
 b8 (X6 ((x.2.2.1.2.1,x.2.2.1.2.2),(v6.1,v6.2),(v8.1,v8.2))) fun v10 =>
 bif v10 then (
 some (-1))else (
 b8 (orO (lkp (fun (a b:Int)=>decide (a=b)) x.2.1 x.2.2.2) (some (0,0))) fun v11 =>
 b8 (orO (lkp (fun (a b:Int)=>decide (a=b)) x.1 x.2.2.2) (some (0,0))) fun v13 =>
 b8 (X6 ((x.2.2.1.2.1,x.2.2.1.2.2),(v11.1,v11.2),(v13.1,v13.2))) fun v15 =>
 bif v15 then (
 some 1)else (
 some 0))
noncomputable def slices_SortFunc_int_walk_Around_2:List (Int)×Int×((Int×Int×Int)×(List (Int×(Int×Int))))->Option (List (Int)):=fun x=>bif decide (x.2.1=1)then du0 (fun a b=>I4 (a,b,x.2.2.1,x.2.2.2)) x.1 else none
noncomputable def U9:(List (Int×Int×Int)×List (Int×Int×Int×List (Int×Int)×Int×Int)×List (Int))×Int->Option (List (Int)):=fun x =>
 b8 (N7 ((x.1.1,x.1.2.1,x.1.2.2),x.2)) fun v4 =>
 b8 (some (!(v4.2))) fun v8 =>
 bif v8 then (
 some ([]:List (Int)))else (
 b8 (some ((x.1.2.1).length:Int)) fun v9 =>
 rounds (α:=Int×List (Int)×List (Int×(Int×Int))) (β:=List (Int)) (fun k10 x10 =>
 b8 (some (decide (x10.1<v9))) fun v14 =>
 bif v14 then (
 b8 (nth x.1.2.1 x10.1) fun v15 =>
 b8 (some (!decide (v15.2.1=x.2))) fun v21 =>
 bif v21 then (
 b8 (some (!decide (v15.2.2.1=x.2))) fun v22 =>
 bif v22 then (
 b8 (some (IntKind.i64.wrap (x10.1+1))) fun v23 =>
 k10 (v23,x10.2.1,x10.2.2))else (
 b8 (E9 ((x.1.1,x.1.2.1,x.1.2.2),v15.1)) fun v23 =>
 b8 (some (!decide (v23.2=0))) fun v25 =>
 bif v25 then (
 b8 (some (IntKind.i64.wrap (x10.1+1))) fun v26 =>
 k10 (v26,x10.2.1,x10.2.2))else (
 b8 (some (decide (v15.2.1=x.2))) fun v26 =>
 bif v26 then (
 b8 (nth v23.1 1) fun v27 =>
 b8 (Q5 8 x10.2.1 [v15.1]) fun v29 =>
 b8 (some (V9 (fun (a b:Int)=>decide (a=b)) v15.1 (v27.1,v27.2) x10.2.2)) fun v30 =>
 b8 (some (decide (v15.2.2.1=x.2))) fun v31 =>
 bif v31 then (
 b8 (some (IntKind.i64.wrap (0-v15.1))) fun v32 =>
 b8 (some ((v23.1).length:Int)) fun v33 =>
 b8 (some (IntKind.i64.wrap (v33-2))) fun v34 =>
 b8 (nth v23.1 v34) fun v35 =>
 b8 (Q5 8 v29 [v32]) fun v37 =>
 b8 (some (V9 (fun (a b:Int)=>decide (a=b)) v32 (v35.1,v35.2) v30)) fun v38 =>
 b8 (some (IntKind.i64.wrap (x10.1+1))) fun v39 =>
 k10 (v39,v37,v38))else (
 b8 (some (IntKind.i64.wrap (x10.1+1))) fun v32 =>
 k10 (v32,v29,v30)))else (
 b8 (some (decide (v15.2.2.1=x.2))) fun v27 =>
 bif v27 then (
 b8 (some (IntKind.i64.wrap (0-v15.1))) fun v28 =>
 b8 (some ((v23.1).length:Int)) fun v29 =>
 b8 (some (IntKind.i64.wrap (v29-2))) fun v30 =>
 b8 (nth v23.1 v30) fun v31 =>
 b8 (Q5 8 x10.2.1 [v28]) fun v33 =>
 b8 (some (V9 (fun (a b:Int)=>decide (a=b)) v28 (v31.1,v31.2) x10.2.2)) fun v34 =>
 b8 (some (IntKind.i64.wrap (x10.1+1))) fun v35 =>
 k10 (v35,v33,v34))else (
 b8 (some (IntKind.i64.wrap (x10.1+1))) fun v28 =>
 k10 (v28,x10.2.1,x10.2.2))))))else (
 b8 (E9 ((x.1.1,x.1.2.1,x.1.2.2),v15.1)) fun v22 =>
 b8 (some (!decide (v22.2=0))) fun v24 =>
 bif v24 then (
 b8 (some (IntKind.i64.wrap (x10.1+1))) fun v25 =>
 k10 (v25,x10.2.1,x10.2.2))else (
 b8 (some (decide (v15.2.1=x.2))) fun v25 =>
 bif v25 then (
 b8 (nth v22.1 1) fun v26 =>
 b8 (Q5 8 x10.2.1 [v15.1]) fun v28 =>
 b8 (some (V9 (fun (a b:Int)=>decide (a=b)) v15.1 (v26.1,v26.2) x10.2.2)) fun v29 =>
 b8 (some (decide (v15.2.2.1=x.2))) fun v30 =>
 bif v30 then (
 b8 (some (IntKind.i64.wrap (0-v15.1))) fun v31 =>
 b8 (some ((v22.1).length:Int)) fun v32 =>
 b8 (some (IntKind.i64.wrap (v32-2))) fun v33 =>
 b8 (nth v22.1 v33) fun v34 =>
 b8 (Q5 8 v28 [v31]) fun v36 =>
 b8 (some (V9 (fun (a b:Int)=>decide (a=b)) v31 (v34.1,v34.2) v29)) fun v37 =>
 b8 (some (IntKind.i64.wrap (x10.1+1))) fun v38 =>
 k10 (v38,v36,v37))else (
 b8 (some (IntKind.i64.wrap (x10.1+1))) fun v31 =>
 k10 (v31,v28,v29)))else (
 b8 (some (decide (v15.2.2.1=x.2))) fun v26 =>
 bif v26 then (
 b8 (some (IntKind.i64.wrap (0-v15.1))) fun v27 =>
 b8 (some ((v22.1).length:Int)) fun v28 =>
 b8 (some (IntKind.i64.wrap (v28-2))) fun v29 =>
 b8 (nth v22.1 v29) fun v30 =>
 b8 (Q5 8 x10.2.1 [v27]) fun v32 =>
 b8 (some (V9 (fun (a b:Int)=>decide (a=b)) v27 (v30.1,v30.2) x10.2.2)) fun v33 =>
 b8 (some (IntKind.i64.wrap (x10.1+1))) fun v34 =>
 k10 (v34,v32,v33))else (
 b8 (some (IntKind.i64.wrap (x10.1+1))) fun v27 =>
 k10 (v27,x10.2.1,x10.2.2))))))else (
 b8 (some ()) fun v15 =>
 b8 (slices_SortFunc_int_walk_Around_2 (x10.2.1,1,((v4.1.1,v4.1.2.1,v4.1.2.2),x10.2.2))) fun v15 =>
 some v15)) (0,([]:List (Int)),([]:List (Int×(Int×Int)))))
noncomputable def M6:List (Int)×Int->Option (Int):=fun x =>
 b8 (H8 (x.1,x.2)) fun v2 =>
 b8 (some (decide (v2<0))) fun v3 =>
 bif v3 then (
 some 0)else (
 b8 (some ((x.1).length:Int)) fun v4 =>
 b8 (some (IntKind.i64.wrap (v2+v4))) fun v5 =>
 b8 (some (IntKind.i64.wrap (v5-1))) fun v6 =>
 b8 (some ((x.1).length:Int)) fun v7 =>
 b8 ((bif decide (v7=0)then none else some (v6.tmod v7))) fun v8 =>
 b8 (nth x.1 v8) fun v9 =>
 some v9)
noncomputable def Q8:(List (Int×Int×Int)×List (Int×Int×Int×List (Int×Int)×Int×Int)×List (Int))->Option ((List (List (Int))×Int)):=fun x =>
 b8 (as0 (x.1,x.2.1,x.2.2)) fun v3 =>
 b8 (some (!decide (v3=0))) fun v4 =>
 bif v4 then (
 some (([]:List (List (Int))),v3))else (
 b8 (some ((x.1).length:Int)) fun v5 =>
 rounds (α:=List (Int)×Int×List (Int×Int)) (β:=(List (List (Int))×Int)) (fun k6 x6 =>
 b8 (some (decide (x6.2.1<v5))) fun v10 =>
 bif v10 then (
 b8 (nth x.1 x6.2.1) fun v11 =>
 b8 (U9 ((x.1,x.2.1,x.2.2),v11.1)) fun v14 =>
 b8 (some ((v14).length:Int)) fun v15 =>
 rounds (α:=List (Int)×Int×List (Int×Int)) (β:=(List (List (Int))×Int)) (fun k16 x16 =>
 b8 (some (decide (x16.2.1<v15))) fun v20 =>
 bif v20 then (
 b8 (nth v14 x16.2.1) fun v21 =>
 b8 (Q5 8 x16.1 [v21]) fun v22 =>
 b8 (some (IntKind.i64.wrap (0-v21))) fun v23 =>
 b8 (M6 (v14,v21)) fun v24 =>
 b8 (some (V9 (fun (a b:Int)=>decide (a=b)) v23 v24 x16.2.2)) fun v25 =>
 b8 (some (IntKind.i64.wrap (x16.2.1+1))) fun v26 =>
 k16 (v22,v26,v25))else (
 b8 (some (IntKind.i64.wrap (x6.2.1+1))) fun v21 =>
 k6 (x16.1,v21,x16.2.2))) (x6.1,0,x6.2.2))else (
 b8 (some ()) fun v11 =>
 b8 (slices_Sort_int (x6.1,1)) fun v11 =>
 b8 (some ((v11).length:Int)) fun v12 =>
 rounds (α:=Int×List (List (Int))×List (Int×Bool)) (β:=(List (List (Int))×Int)) (fun k13 x13 =>
 b8 (some (decide (x13.1<v12))) fun v17 =>
 bif v17 then (
 b8 ((bif decide (0<=x13.1)&&decide (x13.1<(v11).length)then some ()else none)) fun v18 =>
 b8 (((v11)[(x13.1).toNat]?).map (fun x=>x)) fun v18 =>
 b8 (orO (lkp (fun (a b:Int)=>decide (a=b)) v18 x13.2.2) (some false)) fun v19 =>
 b8 (some (!(v19))) fun v20 =>
 bif v20 then (
 rounds (α:=Int×List (Int)×List (Int×Bool)) (β:=(List (List (Int))×Int)) (fun k21 x21 =>
 b8 (orO (lkp (fun (a b:Int)=>decide (a=b)) x21.1 x21.2.2) (some false)) fun v25 =>
 b8 (some (!(v25))) fun v26 =>
 bif v26 then (
 b8 (some (V9 (fun (a b:Int)=>decide (a=b)) x21.1 true x21.2.2)) fun v27 =>
 b8 (Q5 8 x21.2.1 [x21.1]) fun v28 =>
 b8 (orO (lkp (fun (a b:Int)=>decide (a=b)) x21.1 x6.2.2) (some 0)) fun v29 =>
 k21 (v29,v28,v27))else (
 b8 (some ()) fun v27 =>
 b8 (Q5 24 x13.2.1 [x21.2.1]) fun v27 =>
 b8 (some (IntKind.i64.wrap (x13.1+1))) fun v28 =>
 k13 (v28,v27,x21.2.2))) (v18,([]:List (Int)),x13.2.2))else (
 b8 (some (IntKind.i64.wrap (x13.1+1))) fun v21 =>
 k13 (v21,x13.2.1,x13.2.2)))else (
 some (x13.2.1,0))) (0,([]:List (List (Int))),([]:List (Int×Bool))))) (([]:List (Int)),0,([]:List (Int×Int))))
noncomputable def P9:(List (Int×Int×Int)×List (Int×Int×Int×List (Int×Int)×Int×Int)×List (Int))->Option (List (Int×List (Int×Int))):=fun x =>
 b8 (some ((x.2.1).length:Int)) fun v3 =>
 rounds (α:=Int×List (Int×List (Int×Int))) (β:=List (Int×List (Int×Int))) (fun k4 x4 =>
 b8 (some (decide (x4.1<v3))) fun v7 =>
 bif v7 then (
 b8 (nth x.2.1 x4.1) fun v8 =>
 b8 (E9 ((x.1,x.2.1,x.2.2),v8.1)) fun v14 =>
 b8 (some (decide (v14.2=0))) fun v16 =>
 bif v16 then (
 b8 (some (V9 (fun (a b:Int)=>decide (a=b)) v8.1 v14.1 x4.2)) fun v17 =>
 b8 (some (IntKind.i64.wrap (x4.1+1))) fun v18 =>
 k4 (v18,v17))else (
 b8 (some (IntKind.i64.wrap (x4.1+1))) fun v17 =>
 k4 (v17,x4.2)))else (
 some x4.2)) (0,([]:List (Int×List (Int×Int))))
noncomputable def an0:(List (Int×Int×Int)×List (Int×Int×Int×List (Int×Int)×Int×Int)×List (Int))×Int->Option (((Int×Int×Int×List (Int×Int)×Int×Int)×Bool)):=fun x =>
 b8 (some (decide (x.2=0))) fun v4 =>
 bif v4 then (
 some ((0,0,0,([]:List (Int×Int)),0,0),false))else (
 b8 (some (decide (x.2=(-9223372036854775808)))) fun v5 =>
 bif v5 then (
 some ((0,0,0,([]:List (Int×Int)),0,0),false))else (
 b8 (some (IntKind.i64.wrap (0-x.2))) fun v6 =>
 b8 (some (List.foldl mxI x.2 [v6])) fun v7 =>
 b8 (al0 ((x.1.1,x.1.2.1,x.1.2.2),v7)) fun v8 =>
 some ((v8.1.1,v8.1.2.1,v8.1.2.2.1,v8.1.2.2.2.1,v8.1.2.2.2.2.1,v8.1.2.2.2.2.2),v8.2)))
noncomputable def ar0:(List (Int×Int×Int)×List (Int×Int×Int×List (Int×Int)×Int×Int)×List (Int))×List (Int)->Option (Int):=fun x =>
 b8 (some ((x.2).length:Int)) fun v4 =>
 b8 (some (decide (512<v4))) fun v5 =>
 bif v5 then (
 some 0)else (
 b8 (some ((x.2).length:Int)) fun v6 =>
 rounds (α:=Int×Int) (β:=Int) (fun k7 x7 =>
 b8 (some (decide (x7.2<v6))) fun v10 =>
 bif v10 then (
 b8 (nth x.2 x7.2) fun v11 =>
 b8 (an0 ((x.1.1,x.1.2.1,x.1.2.2),v11)) fun v12 =>
 b8 (some (!(v12.2))) fun v19 =>
 bif v19 then (
 some 0)else (
 b8 (some (IntKind.i64.wrap (0-v11))) fun v20 =>
 b8 (some (List.foldl mxI v11 [v20])) fun v21 =>
 b8 (E9 ((x.1.1,x.1.2.1,x.1.2.2),v21)) fun v22 =>
 b8 (some (!decide (v22.2=0))) fun v24 =>
 bif v24 then (
 some 0)else (
 b8 (some ((v22.1).length:Int)) fun v25 =>
 b8 (some (IntKind.i64.wrap (v25-1))) fun v26 =>
 rounds (α:=Int×Int) (β:=Int) (fun k27 x27 =>
 b8 (some (decide (x27.2<v26))) fun v30 =>
 bif v30 then (
 b8 (nth v22.1 x27.2) fun v31 =>
 b8 (some (IntKind.i64.wrap (x27.2+1))) fun v33 =>
 b8 (nth v22.1 v33) fun v34 =>
 b8 (some (IntKind.i64.wrap (v31.1*v34.2))) fun v36 =>
 b8 (some (IntKind.i64.wrap (x27.2+1))) fun v37 =>
 b8 (nth v22.1 v37) fun v38 =>
 b8 (nth v22.1 x27.2) fun v40 =>
 b8 (some (IntKind.i64.wrap (v38.1*v40.2))) fun v42 =>
 b8 (some (IntKind.i64.wrap (v36-v42))) fun v43 =>
 b8 (some (IntKind.i64.wrap (x27.1+v43))) fun v44 =>
 b8 (some (IntKind.i64.wrap (x27.2+1))) fun v45 =>
 k27 (v44,v45))else (
 b8 (some (decide (v11<0))) fun v31 =>
 bif v31 then (
 b8 (some (IntKind.i64.wrap (0-x27.1))) fun v32 =>
 b8 (some (IntKind.i64.wrap (x7.1+v32))) fun v33 =>
 b8 (some (IntKind.i64.wrap (x7.2+1))) fun v34 =>
 k7 (v33,v34))else (
 b8 (some (IntKind.i64.wrap (x7.1+x27.1))) fun v32 =>
 b8 (some (IntKind.i64.wrap (x7.2+1))) fun v33 =>
 k7 (v32,v33)))) (0,0))))else (
 some x7.1)) (0,0))
noncomputable def y6:List (Int×List (Int×Int))×List (Int)×(Int×Int)->Option (Bool):=fun x =>
 b8 (some ((x.2.1).length:Int)) fun v4 =>
 rounds (α:=Int×Bool×Bool) (β:=Bool) (fun k5 x5 =>
 b8 (some (decide (x5.1<v4))) fun v9 =>
 bif v9 then (
 b8 (nth x.2.1 x5.1) fun v10 =>
 b8 (some (IntKind.i64.wrap (0-v10))) fun v11 =>
 b8 (some (List.foldl mxI v10 [v11])) fun v12 =>
 b8 (orO (lkp (fun (a b:Int)=>decide (a=b)) v12 x.1) none) fun v13 =>
 rounds (α:=Int×Bool×Bool) (β:=Bool) (fun k14 x14 =>
 b8 (some ((v13).length:Int)) fun v18 =>
 b8 (some (decide (x14.1<v18))) fun v19 =>
 bif v19 then (
 b8 (some (IntKind.i64.wrap (x14.1-1))) fun v20 =>
 b8 (nth v13 v20) fun v21 =>
 b8 (nth v13 x14.1) fun v23 =>
 b8 (y4 ((v21.1,v21.2),(v23.1,v23.2),(x.2.2.1,x.2.2.2))) fun v25 =>
 bif v25 then (
 b8 (some (IntKind.i64.wrap (x14.1+1))) fun v26 =>
 k14 (v26,x14.2.1,true))else (
 b8 (some (decide (v21.2<=x.2.2.2))) fun v26 =>
 bif v26 then (
 b8 (some (decide (x.2.2.2<v23.2))) fun v27 =>
 bif v27 then (
 b8 (u7 ((v21.1,v21.2),(v23.1,v23.2),(x.2.2.1,x.2.2.2))) fun v28 =>
 b8 (some (decide (0<v28))) fun v29 =>
 bif v29 then (
 b8 (some (!(x14.2.1))) fun v30 =>
 b8 (some (IntKind.i64.wrap (x14.1+1))) fun v31 =>
 k14 (v31,v30,x14.2.2))else (
 b8 (some (decide (v23.2<=x.2.2.2))) fun v30 =>
 bif v30 then (
 b8 (some (decide (x.2.2.2<v21.2))) fun v31 =>
 bif v31 then (
 b8 (u7 ((v21.1,v21.2),(v23.1,v23.2),(x.2.2.1,x.2.2.2))) fun v32 =>
 b8 (some (decide (v32<0))) fun v33 =>
 bif v33 then (
 b8 (some (!(x14.2.1))) fun v34 =>
 b8 (some (IntKind.i64.wrap (x14.1+1))) fun v35 =>
 k14 (v35,v34,x14.2.2))else (
 b8 (some (IntKind.i64.wrap (x14.1+1))) fun v34 =>
 k14 (v34,x14.2.1,x14.2.2)))else (
 b8 (some (IntKind.i64.wrap (x14.1+1))) fun v32 =>
 k14 (v32,x14.2.1,x14.2.2)))else (
 b8 (some (IntKind.i64.wrap (x14.1+1))) fun v31 =>
 k14 (v31,x14.2.1,x14.2.2))))else (
 b8 (some (decide (v23.2<=x.2.2.2))) fun v28 =>
 bif v28 then (
 b8 (some (decide (x.2.2.2<v21.2))) fun v29 =>
 bif v29 then (
 b8 (u7 ((v21.1,v21.2),(v23.1,v23.2),(x.2.2.1,x.2.2.2))) fun v30 =>
 b8 (some (decide (v30<0))) fun v31 =>
 bif v31 then (
 b8 (some (!(x14.2.1))) fun v32 =>
 b8 (some (IntKind.i64.wrap (x14.1+1))) fun v33 =>
 k14 (v33,v32,x14.2.2))else (
 b8 (some (IntKind.i64.wrap (x14.1+1))) fun v32 =>
 k14 (v32,x14.2.1,x14.2.2)))else (
 b8 (some (IntKind.i64.wrap (x14.1+1))) fun v30 =>
 k14 (v30,x14.2.1,x14.2.2)))else (
 b8 (some (IntKind.i64.wrap (x14.1+1))) fun v29 =>
 k14 (v29,x14.2.1,x14.2.2))))else (
 b8 (some (decide (v23.2<=x.2.2.2))) fun v27 =>
 bif v27 then (
 b8 (some (decide (x.2.2.2<v21.2))) fun v28 =>
 bif v28 then (
 b8 (u7 ((v21.1,v21.2),(v23.1,v23.2),(x.2.2.1,x.2.2.2))) fun v29 =>
 b8 (some (decide (v29<0))) fun v30 =>
 bif v30 then (
 b8 (some (!(x14.2.1))) fun v31 =>
 b8 (some (IntKind.i64.wrap (x14.1+1))) fun v32 =>
 k14 (v32,v31,x14.2.2))else (
 b8 (some (IntKind.i64.wrap (x14.1+1))) fun v31 =>
 k14 (v31,x14.2.1,x14.2.2)))else (
 b8 (some (IntKind.i64.wrap (x14.1+1))) fun v29 =>
 k14 (v29,x14.2.1,x14.2.2)))else (
 b8 (some (IntKind.i64.wrap (x14.1+1))) fun v28 =>
 k14 (v28,x14.2.1,x14.2.2)))))else (
 b8 (some (IntKind.i64.wrap (x5.1+1))) fun v20 =>
 k5 (v20,x14.2.2,x14.2.1))) (1,x5.2.2,x5.2.1))else (
 bif x5.2.2 then (
 b8 (some (!(x5.2.1))) fun v10 =>
 some v10)else (
 some false))) (0,false,false)
noncomputable def R1:(List (Int×Int×Int)×List (Int×Int×Int×List (Int×Int)×Int×Int)×List (Int))×Int->Option (Int):=fun x =>
 b8 (some ((x.1.2.1).length:Int)) fun v4 =>
 rounds (α:=Int×Int) (β:=Int) (fun k5 x5 =>
 b8 (some (decide (x5.1<v4))) fun v8 =>
 bif v8 then (
 b8 (nth x.1.2.1 x5.1) fun v9 =>
 b8 (some (decide (v9.2.1=x.2))) fun v15 =>
 bif v15 then (
 b8 (some (IntKind.i64.wrap (x5.2+1))) fun v16 =>
 b8 (some (decide (v9.2.2.1=x.2))) fun v17 =>
 bif v17 then (
 b8 (some (IntKind.i64.wrap (v16+1))) fun v18 =>
 b8 (some (IntKind.i64.wrap (x5.1+1))) fun v19 =>
 k5 (v19,v18))else (
 b8 (some (IntKind.i64.wrap (x5.1+1))) fun v18 =>
 k5 (v18,v16)))else (
 b8 (some (decide (v9.2.2.1=x.2))) fun v16 =>
 bif v16 then (
 b8 (some (IntKind.i64.wrap (x5.2+1))) fun v17 =>
 b8 (some (IntKind.i64.wrap (x5.1+1))) fun v18 =>
 k5 (v18,v17))else (
 b8 (some (IntKind.i64.wrap (x5.1+1))) fun v17 =>
 k5 (v17,x5.2))))else (
 some x5.2)) (0,0)
noncomputable def T2:(List (Int×Int×Int)×List (Int×Int×Int×List (Int×Int)×Int×Int)×List (Int))×List (List (Int))×List (Int×List (Int×Int))->Option (List (Int×List (Int)×List (List (Int))×List (Int))):=fun x =>
 b8 (some ((x.2.1).length:Int)) fun v5 =>
 rounds (α:=List (List (Int))×Int×Bool×List (Int×List (Int)×Unit×Unit)) (β:=List (Int×List (Int)×List (List (Int))×List (Int))) (fun k6 x6 =>
 b8 (some (decide (x6.2.1<v5))) fun v11 =>
 bif v11 then (
 b8 (nth x.2.1 x6.2.1) fun v12 =>
 b8 (ar0 ((x.1.1,x.1.2.1,x.1.2.2),v12)) fun v13 =>
 b8 (some (decide (0<v13))) fun v14 =>
 bif v14 then (
 b8 (Q5 80 x6.2.2.2 [(v13,v12,(),())]) fun v15 =>
 b8 (some (IntKind.i64.wrap (x6.2.1+1))) fun v16 =>
 k6 (x6.1,v16,false,v15))else (
 b8 (Q5 24 x6.1 [v12]) fun v15 =>
 b8 (some (IntKind.i64.wrap (x6.2.1+1))) fun v16 =>
 k6 (v15,v16,false,x6.2.2.2)))else (
 b8 (ownO (fun x=>(x.1,x.2.1,([]:List (List (Int))),([]:List (Int)))) x6.2.2.2) fun v12 =>
 b8 (some ((x6.1).length:Int)) fun v13 =>
 rounds (α:=Int×List (Int×List (Int)×List (List (Int))×List (Int))) (β:=List (Int×List (Int)×List (List (Int))×List (Int))) (fun k14 x14 =>
 b8 (some (decide (x14.1<v13))) fun v17 =>
 bif v17 then (
 b8 ((bif decide (0<=x14.1)&&decide (x14.1<(x6.1).length)then some ()else none)) fun v18 =>
 b8 (((x6.1)[(x14.1).toNat]?).map (fun x=>x)) fun v18 =>
 b8 (nth v18 0) fun v19 =>
 b8 (nth v18 0) fun v20 =>
 b8 (some (IntKind.i64.wrap (0-v20))) fun v21 =>
 b8 (some (List.foldl mxI v19 [v21])) fun v22 =>
 b8 (orO (lkp (fun (a b:Int)=>decide (a=b)) v22 x.2.2) none) fun v23 =>
 b8 (nth v23 0) fun v24 =>
 rounds (α:=Int×Int) (β:=List (Int×List (Int)×List (List (Int))×List (Int))) (fun k26 x26 =>
 b8 (some ((x14.2).length:Int)) fun v29 =>
 b8 (some (decide (x26.1<v29))) fun v30 =>
 bif v30 then (
 b8 (some (decide (x26.2=0))) fun v31 =>
 bif v31 then (
 b8 ((bif decide (0<=x26.1)&&decide (x26.1<(x14.2).length)then some ()else none)) fun v32 =>
 b8 (some ()) fun v32 =>
 b8 (((x14.2)[(x26.1).toNat]?).map (fun x=>x.2.1)) fun v32 =>
 b8 (y6 (x.2.2,v32,(v24.1,v24.2))) fun v33 =>
 bif v33 then (
 b8 (some (IntKind.i64.wrap (x26.1+1))) fun v34 =>
 k26 (v34,x26.1))else (
 b8 (some (IntKind.i64.wrap (x26.1+1))) fun v34 =>
 k26 (v34,x26.2)))else (
 b8 ((bif decide (0<=x26.1)&&decide (x26.1<(x14.2).length)then some ()else none)) fun v32 =>
 b8 (some ()) fun v32 =>
 b8 (((x14.2)[(x26.1).toNat]?).map (fun x=>x.1)) fun v32 =>
 b8 ((bif decide (0<=x26.2)&&decide (x26.2<(x14.2).length)then some ()else none)) fun v33 =>
 b8 (some ()) fun v33 =>
 b8 (((x14.2)[(x26.2).toNat]?).map (fun x=>x.1)) fun v33 =>
 b8 (some (decide (v32<v33))) fun v34 =>
 bif v34 then (
 b8 ((bif decide (0<=x26.1)&&decide (x26.1<(x14.2).length)then some ()else none)) fun v35 =>
 b8 (some ()) fun v35 =>
 b8 (((x14.2)[(x26.1).toNat]?).map (fun x=>x.2.1)) fun v35 =>
 b8 (y6 (x.2.2,v35,(v24.1,v24.2))) fun v36 =>
 bif v36 then (
 b8 (some (IntKind.i64.wrap (x26.1+1))) fun v37 =>
 k26 (v37,x26.1))else (
 b8 (some (IntKind.i64.wrap (x26.1+1))) fun v37 =>
 k26 (v37,x26.2)))else (
 b8 (some (IntKind.i64.wrap (x26.1+1))) fun v35 =>
 k26 (v35,x26.2))))else (
 b8 (((x14.2)[(x26.2).toNat]?).map (fun x=>x.2.2.1)) fun v31 =>
 b8 ((bif decide (0<=x26.2)&&decide (x26.2<(x14.2).length)then some ()else none)) fun v32 =>
 b8 (some ()) fun v32 =>
 b8 (inO x14.2 x26.2) fun v32 =>
 b8 (Q5 24 v31 [v18]) fun v32 =>
 b8 ((bif decide (0<=x26.2)&&decide (x26.2<(x14.2).length)then some ()else none)) fun v33 =>
 b8 (some ()) fun v33 =>
 b8 (inO x14.2 x26.2) fun v33 =>
 b8 (some ()) fun v33 =>
 b8 (setO x14.2 (x26.2).toNat (fun x y=>(x.1,x.2.1,y,x.2.2.2)) v32) fun v33 =>
 b8 (some (IntKind.i64.wrap (x14.1+1))) fun v34 =>
 k14 (v34,v33))) (1,0))else (
 b8 (some ((x.1.1).length:Int)) fun v18 =>
 rounds (α:=Int×List (Int×List (Int)×List (List (Int))×List (Int))) (β:=List (Int×List (Int)×List (List (Int))×List (Int))) (fun k19 x19 =>
 b8 (some (decide (x19.1<v18))) fun v22 =>
 bif v22 then (
 b8 (nth x.1.1 x19.1) fun v23 =>
 b8 (R1 ((x.1.1,x.1.2.1,x.1.2.2),v23.1)) fun v26 =>
 b8 (some (decide (v26=0))) fun v27 =>
 bif v27 then (
 rounds (α:=Int×Int) (β:=List (Int×List (Int)×List (List (Int))×List (Int))) (fun k28 x28 =>
 b8 (some ((x19.2).length:Int)) fun v31 =>
 b8 (some (decide (x28.1<v31))) fun v32 =>
 bif v32 then (
 b8 (some (decide (x28.2=0))) fun v33 =>
 bif v33 then (
 b8 ((bif decide (0<=x28.1)&&decide (x28.1<(x19.2).length)then some ()else none)) fun v34 =>
 b8 (some ()) fun v34 =>
 b8 (((x19.2)[(x28.1).toNat]?).map (fun x=>x.2.1)) fun v34 =>
 b8 (y6 (x.2.2,v34,(v23.2.1,v23.2.2))) fun v35 =>
 bif v35 then (
 b8 (some (IntKind.i64.wrap (x28.1+1))) fun v36 =>
 k28 (v36,x28.1))else (
 b8 (some (IntKind.i64.wrap (x28.1+1))) fun v36 =>
 k28 (v36,x28.2)))else (
 b8 ((bif decide (0<=x28.1)&&decide (x28.1<(x19.2).length)then some ()else none)) fun v34 =>
 b8 (some ()) fun v34 =>
 b8 (((x19.2)[(x28.1).toNat]?).map (fun x=>x.1)) fun v34 =>
 b8 ((bif decide (0<=x28.2)&&decide (x28.2<(x19.2).length)then some ()else none)) fun v35 =>
 b8 (some ()) fun v35 =>
 b8 (((x19.2)[(x28.2).toNat]?).map (fun x=>x.1)) fun v35 =>
 b8 (some (decide (v34<v35))) fun v36 =>
 bif v36 then (
 b8 ((bif decide (0<=x28.1)&&decide (x28.1<(x19.2).length)then some ()else none)) fun v37 =>
 b8 (some ()) fun v37 =>
 b8 (((x19.2)[(x28.1).toNat]?).map (fun x=>x.2.1)) fun v37 =>
 b8 (y6 (x.2.2,v37,(v23.2.1,v23.2.2))) fun v38 =>
 bif v38 then (
 b8 (some (IntKind.i64.wrap (x28.1+1))) fun v39 =>
 k28 (v39,x28.1))else (
 b8 (some (IntKind.i64.wrap (x28.1+1))) fun v39 =>
 k28 (v39,x28.2)))else (
 b8 (some (IntKind.i64.wrap (x28.1+1))) fun v37 =>
 k28 (v37,x28.2))))else (
 b8 (((x19.2)[(x28.2).toNat]?).map (fun x=>x.2.2.2)) fun v33 =>
 b8 ((bif decide (0<=x28.2)&&decide (x28.2<(x19.2).length)then some ()else none)) fun v34 =>
 b8 (some ()) fun v34 =>
 b8 (inO x19.2 x28.2) fun v34 =>
 b8 (Q5 8 v33 [v23.1]) fun v34 =>
 b8 ((bif decide (0<=x28.2)&&decide (x28.2<(x19.2).length)then some ()else none)) fun v35 =>
 b8 (some ()) fun v35 =>
 b8 (inO x19.2 x28.2) fun v35 =>
 b8 (some ()) fun v35 =>
 b8 (setO x19.2 (x28.2).toNat (fun x y=>(x.1,x.2.1,x.2.2.1,y)) v34) fun v35 =>
 b8 (some (IntKind.i64.wrap (x19.1+1))) fun v36 =>
 k19 (v36,v35))) (1,0))else (
 b8 (some (IntKind.i64.wrap (x19.1+1))) fun v28 =>
 k19 (v28,x19.2)))else (
 some x19.2)) (0,x14.2))) (0,v12))) (([]:List (List (Int))),0,false,[(0,([]:List (Int)),(),())])
noncomputable def X7:(List (Int×Int×Int)×List (Int×Int×Int×List (Int×Int)×Int×Int)×List (Int))×Int->Option (Int):=fun x =>
 b8 (an0 ((x.1.1,x.1.2.1,x.1.2.2),x.2)) fun v4 =>
 b8 (some (!(v4.2))) fun v11 =>
 bif v11 then (
 some 0)else (
 b8 (some (decide (0<x.2))) fun v12 =>
 bif v12 then (
 some v4.1.2.2.2.2.1)else (
 some v4.1.2.2.2.2.2))
noncomputable def D8:(Int×List (Int)×List (List (Int))×List (Int))->Option (List (List (Int))):=fun x =>
 b8 (Q5 24 [x.2.1] x.2.2.1) fun v4 =>
 some v4
noncomputable def Y7:(List (Int×Int×Int)×List (Int×Int×Int×List (Int×Int)×Int×Int)×List (Int))×List (Int×List (Int)×List (List (Int))×List (Int))->Option ((List (Int)×Bool)):=fun x =>
 b8 (some ((x.2).length:Int)) fun v4 =>
 rounds (α:=List (Int)×Int×List (Int×Bool)) (β:=(List (Int)×Bool)) (fun k5 x5 =>
 b8 (some (decide (x5.2.1<v4))) fun v9 =>
 bif v9 then (
 b8 (nth x.2 x5.2.1) fun v10 =>
 b8 (some (decide (0<x5.2.1))) fun v14 =>
 bif v14 then (
 b8 (nth v10.2.1 0) fun v15 =>
 b8 (X7 ((x.1.1,x.1.2.1,x.1.2.2),v15)) fun v16 =>
 b8 (some (decide (v16=0))) fun v17 =>
 bif v17 then (
 some (([]:List (Int)),false))else (
 b8 (orO (lkp (fun (a b:Int)=>decide (a=b)) v16 x5.2.2) (some false)) fun v18 =>
 bif v18 then (
 some (([]:List (Int)),false))else (
 b8 (some (V9 (fun (a b:Int)=>decide (a=b)) v16 true x5.2.2)) fun v19 =>
 b8 (D8 (v10.1,v10.2.1,v10.2.2.1,v10.2.2.2)) fun v20 =>
 b8 (some ((v20).length:Int)) fun v21 =>
 rounds (α:=Int) (β:=(List (Int)×Bool)) (fun k22 x22 =>
 b8 (some (decide (x22<v21))) fun v24 =>
 bif v24 then (
 b8 (nth v20 x22) fun v25 =>
 b8 (some ((v25).length:Int)) fun v26 =>
 rounds (α:=Int) (β:=(List (Int)×Bool)) (fun k27 x27 =>
 b8 (some (decide (x27<v26))) fun v29 =>
 bif v29 then (
 b8 (nth v25 x27) fun v30 =>
 b8 (X7 ((x.1.1,x.1.2.1,x.1.2.2),v30)) fun v31 =>
 b8 (some (!decide (v31=v16))) fun v32 =>
 bif v32 then (
 some (([]:List (Int)),false))else (
 b8 (some (IntKind.i64.wrap (x27+1))) fun v33 =>
 k27 v33))else (
 b8 (some (IntKind.i64.wrap (x22+1))) fun v30 =>
 k22 v30)) 0)else (
 b8 (Q5 8 x5.1 [v16]) fun v25 =>
 b8 (some (IntKind.i64.wrap (x5.2.1+1))) fun v26 =>
 k5 (v25,v26,v19))) 0)))else (
 b8 (D8 (v10.1,v10.2.1,v10.2.2.1,v10.2.2.2)) fun v15 =>
 b8 (some ((v15).length:Int)) fun v16 =>
 rounds (α:=Int) (β:=(List (Int)×Bool)) (fun k17 x17 =>
 b8 (some (decide (x17<v16))) fun v19 =>
 bif v19 then (
 b8 (nth v15 x17) fun v20 =>
 b8 (some ((v20).length:Int)) fun v21 =>
 rounds (α:=Int) (β:=(List (Int)×Bool)) (fun k22 x22 =>
 b8 (some (decide (x22<v21))) fun v24 =>
 bif v24 then (
 b8 (nth v20 x22) fun v25 =>
 b8 (X7 ((x.1.1,x.1.2.1,x.1.2.2),v25)) fun v26 =>
 b8 (some (!decide (v26=0))) fun v27 =>
 bif v27 then (
 some (([]:List (Int)),false))else (
 b8 (some (IntKind.i64.wrap (x22+1))) fun v28 =>
 k22 v28))else (
 b8 (some (IntKind.i64.wrap (x17+1))) fun v25 =>
 k17 v25)) 0)else (
 b8 (Q5 8 x5.1 [0]) fun v20 =>
 b8 (some (IntKind.i64.wrap (x5.2.1+1))) fun v21 =>
 k5 (v20,v21,x5.2.2))) 0))else (
 b8 (some ((x5.2.2).length:Int)) fun v10 =>
 b8 (some ((x.1.2.2).length:Int)) fun v11 =>
 b8 (some (decide (v10=v11))) fun v12 =>
 some (x5.1,v12))) (([]:List (Int)),0,([]:List (Int×Bool)))
noncomputable def Y1:(List (Int×Int×Int)×List (Int×Int×Int×List (Int×Int)×Int×Int)×List (Int))->Option (Int):=fun x =>
 b8 (Q8 (x.1,x.2.1,x.2.2)) fun v3 =>
 b8 (some (!decide (v3.2=0))) fun v5 =>
 bif v5 then (
 some v3.2)else (
 b8 (P9 (x.1,x.2.1,x.2.2)) fun v6 =>
 b8 (T2 ((x.1,x.2.1,x.2.2),v3.1,v6)) fun v7 =>
 b8 (Y7 ((x.1,x.2.1,x.2.2),v7)) fun v8 =>
 b8 (some (!(v8.2))) fun v10 =>
 bif v10 then (
 some 12)else (
 some 0))
noncomputable def aP0:(Int×Int×Int×ByteArray×List (Int))->Option (Bool):=fun x =>
 b8 (some ((x.2.2.2.2).length:Int)) fun v5 =>
 b8 (some (decide (64<v5))) fun v6 =>
 some v6
noncomputable def o9:List (Int×Int×Int×ByteArray×List (Int))×(Unit)->Option (Bool):=fun x =>
 b8 (some ((x.1).length:Int)) fun v1 =>
 rounds (α:=Int) (β:=Bool) (fun k2 x2 =>
 b8 (some (decide (x2<v1))) fun v4 =>
 bif v4 then (
 b8 (nth x.1 x2) fun v5 =>
 b8 (aP0 (v5.1,v5.2.1,v5.2.2.1,v5.2.2.2.1,v5.2.2.2.2)) fun v10 =>
 bif v10 then (
 b8 (some (decide (0<=x2))) fun v11 =>
 some v11)else (
 b8 (some (IntKind.i64.wrap (x2+1))) fun v11 =>
 k2 v11))else (
 some false)) 0
noncomputable def T8:(Int×Int×Int×ByteArray×List (Int))->Option (Bool):=fun x =>
 b8 (some (decide (x.1<1))) fun v5 =>
 bif v5 then (
 some true)else (
 b8 (some (decide (1073741824<x.1))) fun v6 =>
 bif v6 then (
 some true)else (
 b8 (some (decide (x.2.2.1<1))) fun v7 =>
 bif v7 then (
 some true)else (
 b8 (some (decide (9<x.2.2.1))) fun v8 =>
 some v8)))
noncomputable def j7:List (Int×Int×Int×ByteArray×List (Int))×(Unit)->Option (Bool):=fun x =>
 b8 (some ((x.1).length:Int)) fun v1 =>
 rounds (α:=Int) (β:=Bool) (fun k2 x2 =>
 b8 (some (decide (x2<v1))) fun v4 =>
 bif v4 then (
 b8 (nth x.1 x2) fun v5 =>
 b8 (T8 (v5.1,v5.2.1,v5.2.2.1,v5.2.2.2.1,v5.2.2.2.2)) fun v10 =>
 bif v10 then (
 b8 (some (decide (0<=x2))) fun v11 =>
 some v11)else (
 b8 (some (IntKind.i64.wrap (x2+1))) fun v11 =>
 k2 v11))else (
 some false)) 0
noncomputable def A3:Int->Option (Int):=fun x =>
 b8 (some (decide (x=1))) fun v1 =>
 bif v1 then (
 some 1)else (
 b8 (some (decide (x=2))) fun v2 =>
 bif v2 then (
 some 1)else (
 b8 (some (decide (x=8))) fun v3 =>
 bif v3 then (
 some 1)else (
 b8 (some (decide (x=3))) fun v4 =>
 bif v4 then (
 some 2)else (
 b8 (some (decide (x=4))) fun v5 =>
 bif v5 then (
 some 2)else (
 b8 (some (decide (x=5))) fun v6 =>
 bif v6 then (
 some 3)else (
 b8 (some (decide (x=6))) fun v7 =>
 bif v7 then (
 some 3)else (
 b8 (some (decide (x=7))) fun v8 =>
 bif v8 then (
 some 3)else (
 some 0))))))))
noncomputable def U1:(Int×Int×Int×ByteArray×List (Int))->Option (Bool):=fun x =>
 b8 (A3 x.2.1) fun v5 =>
 b8 (some (decide (v5=0))) fun v6 =>
 some v6
noncomputable def l5:List (Int×Int×Int×ByteArray×List (Int))×(Unit)->Option (Bool):=fun x =>
 b8 (some ((x.1).length:Int)) fun v1 =>
 rounds (α:=Int) (β:=Bool) (fun k2 x2 =>
 b8 (some (decide (x2<v1))) fun v4 =>
 bif v4 then (
 b8 (nth x.1 x2) fun v5 =>
 b8 (U1 (v5.1,v5.2.1,v5.2.2.1,v5.2.2.2.1,v5.2.2.2.2)) fun v10 =>
 bif v10 then (
 b8 (some (decide (0<=x2))) fun v11 =>
 some v11)else (
 b8 (some (IntKind.i64.wrap (x2+1))) fun v11 =>
 k2 v11))else (
 some false)) 0
noncomputable def R6:Int->Option (Int):=fun x =>
 b8 (some (decide (x<0))) fun v1 =>
 bif v1 then (
 some (-1))else (
 b8 (some (decide (1114111<x))) fun v2 =>
 bif v2 then (
 some (-1))else (
 b8 (some (IntKind.i32.wrap x)) fun v3 =>
 b8 (gl_0) fun v4 =>
 rounds (α:=Int) (β:=Int) (fun k43 x43 =>
 b8 (some (decide (x43<13))) fun v45 =>
 bif v45 then (
 b8 (nth [(v4.1,v4.2.1,v4.2.2.1),(v4.2.2.2.1,v4.2.2.2.2.1,v4.2.2.2.2.2.1),(v4.2.2.2.2.2.2.1,v4.2.2.2.2.2.2.2.1,v4.2.2.2.2.2.2.2.2.1),(v4.2.2.2.2.2.2.2.2.2.1,v4.2.2.2.2.2.2.2.2.2.2.1,v4.2.2.2.2.2.2.2.2.2.2.2.1),(v4.2.2.2.2.2.2.2.2.2.2.2.2.1,v4.2.2.2.2.2.2.2.2.2.2.2.2.2.1,v4.2.2.2.2.2.2.2.2.2.2.2.2.2.2.1),(v4.2.2.2.2.2.2.2.2.2.2.2.2.2.2.2.1,v4.2.2.2.2.2.2.2.2.2.2.2.2.2.2.2.2.1,v4.2.2.2.2.2.2.2.2.2.2.2.2.2.2.2.2.2.1),(v4.2.2.2.2.2.2.2.2.2.2.2.2.2.2.2.2.2.2.1,v4.2.2.2.2.2.2.2.2.2.2.2.2.2.2.2.2.2.2.2.1,v4.2.2.2.2.2.2.2.2.2.2.2.2.2.2.2.2.2.2.2.2.1),(v4.2.2.2.2.2.2.2.2.2.2.2.2.2.2.2.2.2.2.2.2.2.1,v4.2.2.2.2.2.2.2.2.2.2.2.2.2.2.2.2.2.2.2.2.2.2.1,v4.2.2.2.2.2.2.2.2.2.2.2.2.2.2.2.2.2.2.2.2.2.2.2.1),(v4.2.2.2.2.2.2.2.2.2.2.2.2.2.2.2.2.2.2.2.2.2.2.2.2.1,v4.2.2.2.2.2.2.2.2.2.2.2.2.2.2.2.2.2.2.2.2.2.2.2.2.2.1,v4.2.2.2.2.2.2.2.2.2.2.2.2.2.2.2.2.2.2.2.2.2.2.2.2.2.2.1),(v4.2.2.2.2.2.2.2.2.2.2.2.2.2.2.2.2.2.2.2.2.2.2.2.2.2.2.2.1,v4.2.2.2.2.2.2.2.2.2.2.2.2.2.2.2.2.2.2.2.2.2.2.2.2.2.2.2.2.1,v4.2.2.2.2.2.2.2.2.2.2.2.2.2.2.2.2.2.2.2.2.2.2.2.2.2.2.2.2.2.1),(v4.2.2.2.2.2.2.2.2.2.2.2.2.2.2.2.2.2.2.2.2.2.2.2.2.2.2.2.2.2.2.1,v4.2.2.2.2.2.2.2.2.2.2.2.2.2.2.2.2.2.2.2.2.2.2.2.2.2.2.2.2.2.2.2.1,v4.2.2.2.2.2.2.2.2.2.2.2.2.2.2.2.2.2.2.2.2.2.2.2.2.2.2.2.2.2.2.2.2.1),(v4.2.2.2.2.2.2.2.2.2.2.2.2.2.2.2.2.2.2.2.2.2.2.2.2.2.2.2.2.2.2.2.2.2.1,v4.2.2.2.2.2.2.2.2.2.2.2.2.2.2.2.2.2.2.2.2.2.2.2.2.2.2.2.2.2.2.2.2.2.2.1,v4.2.2.2.2.2.2.2.2.2.2.2.2.2.2.2.2.2.2.2.2.2.2.2.2.2.2.2.2.2.2.2.2.2.2.2.1),(v4.2.2.2.2.2.2.2.2.2.2.2.2.2.2.2.2.2.2.2.2.2.2.2.2.2.2.2.2.2.2.2.2.2.2.2.2.1,v4.2.2.2.2.2.2.2.2.2.2.2.2.2.2.2.2.2.2.2.2.2.2.2.2.2.2.2.2.2.2.2.2.2.2.2.2.2.1,v4.2.2.2.2.2.2.2.2.2.2.2.2.2.2.2.2.2.2.2.2.2.2.2.2.2.2.2.2.2.2.2.2.2.2.2.2.2.2)] x43) fun v46 =>
 b8 (some (decide (v46.1<=v3))) fun v49 =>
 bif v49 then (
 b8 (some (decide (v3<=v46.2.1))) fun v50 =>
 bif v50 then (
 some v46.2.2)else (
 b8 (some (IntKind.i64.wrap (x43+1))) fun v51 =>
 k43 v51))else (
 b8 (some (IntKind.i64.wrap (x43+1))) fun v50 =>
 k43 v50))else (
 some (-1))) 0))
noncomputable def Y0:ByteArray->Option ((List (Int)×Int)):=fun x =>
 b8 (some ()) fun v1 =>
 rounds (α:=List (Int)×Int) (β:=(List (Int)×Int)) (fun k1 x1 =>
 b8 (some (decide ((x1.2).toNat<(x).size))) fun v4 =>
 bif v4 then (
 b8 (rw0 x x1.2) fun v5 =>
 b8 (some (IntKind.i64.wrap v5.2.1)) fun v8 =>
 b8 (R6 v8) fun v9 =>
 b8 (some (decide (v9<0))) fun v10 =>
 bif v10 then (
 some (([]:List (Int)),4))else (
 b8 (some (IntKind.i64.wrap v5.2.1)) fun v11 =>
 b8 (Q5 8 x1.1 [v11]) fun v12 =>
 k1 (v12,v5.2.2)))else (
 some (x1.1,0))) (([]:List (Int)),0)
noncomputable def cy0:ByteArray->Option ((List (Int)×Int)):=fun x =>
 b8 (some ((x).toList==((ByteArray.mk #[])).toList)) fun v1 =>
 bif v1 then (
 some (([]:List (Int)),14))else (
 b8 (some ((x).size:Int)) fun v2 =>
 b8 (some (decide (40<v2))) fun v3 =>
 bif v3 then (
 some (([]:List (Int)),3))else (
 b8 (Y0 x) fun v4 =>
 b8 (some (!decide (v4.2=0))) fun v6 =>
 bif v6 then (
 some (([]:List (Int)),v4.2))else (
 b8 (kT0 x 0) fun v7 =>
 b8 (some (decide (v7=32))) fun v8 =>
 bif v8 then (
 some (([]:List (Int)),14))else (
 b8 (some ((x).size:Int)) fun v9 =>
 b8 (some (IntKind.i64.wrap (v9-1))) fun v10 =>
 b8 (kT0 x v10) fun v11 =>
 b8 (some (decide (v11=32))) fun v12 =>
 bif v12 then (
 some (([]:List (Int)),14))else (
 b8 (strings_Contains (x,(ByteArray.mk #[32,32]))) fun v13 =>
 bif v13 then (
 some (([]:List (Int)),14))else (
 b8 (some ((v4.1).length:Int)) fun v14 =>
 rounds (α:=Int) (β:=(List (Int)×Int)) (fun k15 x15 =>
 b8 (some (decide (x15<v14))) fun v17 =>
 bif v17 then (
 b8 (nth v4.1 x15) fun v18 =>
 b8 (R6 v18) fun v19 =>
 b8 (some (!decide (v19=0))) fun v20 =>
 bif v20 then (
 some (v4.1,0))else (
 b8 (some (IntKind.i64.wrap (x15+1))) fun v21 =>
 k15 v21))else (
 some (([]:List (Int)),14))) 0))))))
noncomputable def W1:ByteArray->Option (Int):=fun x =>
 b8 (cy0 x) fun v1 =>
 some v1.2
noncomputable def T3:(Int×Int×Int×ByteArray×List (Int))->Option (Bool):=fun x =>
 b8 (some (!((x.2.2.2.1).toList==((ByteArray.mk #[])).toList))) fun v5 =>
 bif v5 then (
 b8 (W1 x.2.2.2.1) fun v6 =>
 b8 (some (!decide (v6=0))) fun v7 =>
 some v7)else (
 some false)
noncomputable def j5:List (Int×Int×Int×ByteArray×List (Int))×(Unit)->Option (Bool):=fun x =>
 b8 (some ((x.1).length:Int)) fun v1 =>
 rounds (α:=Int) (β:=Bool) (fun k2 x2 =>
 b8 (some (decide (x2<v1))) fun v4 =>
 bif v4 then (
 b8 (nth x.1 x2) fun v5 =>
 b8 (T3 (v5.1,v5.2.1,v5.2.2.1,v5.2.2.2.1,v5.2.2.2.2)) fun v10 =>
 bif v10 then (
 b8 (some (decide (0<=x2))) fun v11 =>
 some v11)else (
 b8 (some (IntKind.i64.wrap (x2+1))) fun v11 =>
 k2 v11))else (
 some false)) 0
noncomputable def T7:(Int×Int×Int×ByteArray×List (Int))->Option (Bool):=fun x =>
 b8 (some ((x.2.2.2.2).length:Int)) fun v5 =>
 b8 (some (decide (v5=0))) fun v6 =>
 bif v6 then (
 some true)else (
 b8 (A3 x.2.1) fun v7 =>
 b8 (some (decide (v7=1))) fun v8 =>
 bif v8 then (
 b8 (some ((x.2.2.2.2).length:Int)) fun v9 =>
 b8 (some (decide (1<v9))) fun v10 =>
 some v10)else (
 some false))
noncomputable def j6:List (Int×Int×Int×ByteArray×List (Int))×(Unit)->Option (Bool):=fun x =>
 b8 (some ((x.1).length:Int)) fun v1 =>
 rounds (α:=Int) (β:=Bool) (fun k2 x2 =>
 b8 (some (decide (x2<v1))) fun v4 =>
 bif v4 then (
 b8 (nth x.1 x2) fun v5 =>
 b8 (T7 (v5.1,v5.2.1,v5.2.2.1,v5.2.2.2.1,v5.2.2.2.2)) fun v10 =>
 bif v10 then (
 b8 (some (decide (0<=x2))) fun v11 =>
 some v11)else (
 b8 (some (IntKind.i64.wrap (x2+1))) fun v11 =>
 k2 v11))else (
 some false)) 0
noncomputable def et0:List (Int)×Int->Option (Bool):=fun x =>
 b8 (l8 (x.1,x.2)) fun v2 =>
 some v2
noncomputable def J9:Int×(Int×Int×Int×ByteArray×List (Int))×(List (Int×Int×Int)×List (Int×Int×Int×List (Int×Int)×Int×Int)×List (Int))->Option (Bool):=fun x =>
 b8 (A3 x.2.1.2.1) fun v9 =>
 b8 (some (decide (v9=1))) fun v10 =>
 bif v10 then (
 b8 (N7 ((x.2.2.1,x.2.2.2.1,x.2.2.2.2),x.1)) fun v11 =>
 b8 (some (!(v11.2))) fun v15 =>
 some v15)else (
 b8 (some (decide (v9=2))) fun v11 =>
 bif v11 then (
 b8 (al0 ((x.2.2.1,x.2.2.2.1,x.2.2.2.2),x.1)) fun v12 =>
 b8 (some (!(v12.2))) fun v19 =>
 some v19)else (
 b8 (some (decide (v9=3))) fun v12 =>
 bif v12 then (
 b8 (et0 (x.2.2.2.2,x.1)) fun v13 =>
 b8 (some (!(v13))) fun v14 =>
 some v14)else (
 some true)))
noncomputable def y8:List (Int)×((Int×Int×Int×ByteArray×List (Int))×(List (Int×Int×Int)×List (Int×Int×Int×List (Int×Int)×Int×Int)×List (Int)))->Option (Bool):=fun x =>
 b8 (some ((x.1).length:Int)) fun v9 =>
 rounds (α:=Int) (β:=Bool) (fun k10 x10 =>
 b8 (some (decide (x10<v9))) fun v12 =>
 bif v12 then (
 b8 (nth x.1 x10) fun v13 =>
 b8 (J9 (v13,(x.2.1.1,x.2.1.2.1,x.2.1.2.2.1,x.2.1.2.2.2.1,x.2.1.2.2.2.2),(x.2.2.1,x.2.2.2.1,x.2.2.2.2))) fun v14 =>
 bif v14 then (
 b8 (some (decide (0<=x10))) fun v15 =>
 some v15)else (
 b8 (some (IntKind.i64.wrap (x10+1))) fun v15 =>
 k10 v15))else (
 some false)) 0
noncomputable def N9:(List (Int×Int×Int)×List (Int×Int×Int×List (Int×Int)×Int×Int)×List (Int))×(Int×Int×Int×ByteArray×List (Int))->Option (Bool):=fun x =>
 b8 (some ()) fun v8 =>
 b8 (y8 (x.2.2.2.2.2,((x.2.1,x.2.2.1,x.2.2.2.1,x.2.2.2.2.1,x.2.2.2.2.2),(x.1.1,x.1.2.1,x.1.2.2)))) fun v8 =>
 some v8
noncomputable def T9:(Int×Int×Int×ByteArray×List (Int))×(List (Int×Int×Int)×List (Int×Int×Int×List (Int×Int)×Int×Int)×List (Int)×List (Int×Int×Int×ByteArray×List (Int)))->Option (Bool):=fun x =>
 b8 (N9 ((x.2.1,x.2.2.1,x.2.2.2.1),(x.1.1,x.1.2.1,x.1.2.2.1,x.1.2.2.2.1,x.1.2.2.2.2))) fun v9 =>
 some v9
noncomputable def j8:List (Int×Int×Int×ByteArray×List (Int))×((List (Int×Int×Int)×List (Int×Int×Int×List (Int×Int)×Int×Int)×List (Int)×List (Int×Int×Int×ByteArray×List (Int))))->Option (Bool):=fun x =>
 b8 (some ((x.1).length:Int)) fun v5 =>
 rounds (α:=Int) (β:=Bool) (fun k6 x6 =>
 b8 (some (decide (x6<v5))) fun v8 =>
 bif v8 then (
 b8 (nth x.1 x6) fun v9 =>
 b8 (T9 ((v9.1,v9.2.1,v9.2.2.1,v9.2.2.2.1,v9.2.2.2.2),(x.2.1,x.2.2.1,x.2.2.2.1,x.2.2.2.2))) fun v14 =>
 bif v14 then (
 b8 (some (decide (0<=x6))) fun v15 =>
 some v15)else (
 b8 (some (IntKind.i64.wrap (x6+1))) fun v15 =>
 k6 v15))else (
 some false)) 0
noncomputable def V2:List (Int)->Option (Bool):=fun x =>
 rounds (α:=Int) (β:=Bool) (fun k1 x1 =>
 b8 (some ((x).length:Int)) fun v3 =>
 b8 (some (decide (x1<v3))) fun v4 =>
 bif v4 then (
 b8 (some (IntKind.i64.wrap (x1-1))) fun v5 =>
 b8 (nth x v5) fun v6 =>
 b8 (nth x x1) fun v7 =>
 b8 (some (decide (v7<=v6))) fun v8 =>
 bif v8 then (
 some false)else (
 b8 (some (IntKind.i64.wrap (x1+1))) fun v9 =>
 k1 v9))else (
 some true)) 1
noncomputable def H9:(List (Int×Int×Int)×List (Int×Int×Int×List (Int×Int)×Int×Int)×List (Int)×List (Int×Int×Int×ByteArray×List (Int)))->Option (Int):=fun x =>
 b8 (Y1 (x.1,x.2.1,x.2.2.1)) fun v4 =>
 b8 (some (!decide (v4=0))) fun v5 =>
 bif v5 then (
 some v4)else (
 b8 (some ((x.2.2.2).length:Int)) fun v6 =>
 b8 (some (decide (128<v6))) fun v7 =>
 bif v7 then (
 some 3)else (
 b8 (o9 (x.2.2.2,())) fun v8 =>
 bif v8 then (
 some 3)else (
 b8 (some ((x.2.2.2).length:Int)) fun v9 =>
 rounds (α:=Int×Int) (β:=Int) (fun k10 x10 =>
 b8 (some (decide (x10.1<v9))) fun v13 =>
 bif v13 then (
 b8 (nth x.2.2.2 x10.1) fun v14 =>
 b8 (some (IntKind.i64.wrap (x10.2+1))) fun v19 =>
 b8 (some (decide (1<v19))) fun v20 =>
 bif v20 then (
 b8 (some (IntKind.i64.wrap (v19-2))) fun v21 =>
 b8 (nth x.2.2.2 v21) fun v22 =>
 b8 (some (decide (v14.1<=v22.1))) fun v27 =>
 bif v27 then (
 b8 (some (decide (0<=x10.1))) fun v28 =>
 bif v28 then (
 some 10)else (
 b8 (j7 (x.2.2.2,())) fun v29 =>
 bif v29 then (
 some 2)else (
 b8 (l5 (x.2.2.2,())) fun v30 =>
 bif v30 then (
 some 9)else (
 b8 (j5 (x.2.2.2,())) fun v31 =>
 bif v31 then (
 some 14)else (
 b8 (j6 (x.2.2.2,())) fun v32 =>
 bif v32 then (
 some 1)else (
 b8 (some ()) fun v33 =>
 b8 (j8 (x.2.2.2,(x.1,x.2.1,x.2.2.1,x.2.2.2))) fun v33 =>
 bif v33 then (
 some 7)else (
 b8 (some ((x.2.2.2).length:Int)) fun v34 =>
 rounds (α:=Int×List ((Int×Int)×Bool)) (β:=Int) (fun k35 x35 =>
 b8 (some (decide (x35.1<v34))) fun v38 =>
 bif v38 then (
 b8 (nth x.2.2.2 x35.1) fun v39 =>
 b8 (A3 v39.2.1) fun v44 =>
 b8 (some (decide (v44=2))) fun v45 =>
 bif v45 then (
 b8 (some (IntKind.i64.wrap (x35.1+1))) fun v46 =>
 k35 (v46,x35.2))else (
 b8 (some (decide (v44=3))) fun v46 =>
 bif v46 then (
 b8 (some ((v39.2.2.2.2).length:Int)) fun v47 =>
 rounds (α:=Int×List ((Int×Int)×Bool)) (β:=Int) (fun k48 x48 =>
 b8 (some (decide (x48.1<v47))) fun v51 =>
 bif v51 then (
 b8 (nth v39.2.2.2.2 x48.1) fun v52 =>
 b8 (orO (lkp (fun (a b:Int×Int)=>(decide (a.1=b.1)&&decide (a.2=b.2))) (v39.2.1,v52) x48.2) (some false)) fun v53 =>
 bif v53 then (
 b8 (some (decide (0<=x35.1))) fun v54 =>
 bif v54 then (
 some 13)else (
 some 0))else (
 b8 (some (V9 (fun (a b:Int×Int)=>(decide (a.1=b.1)&&decide (a.2=b.2))) (v39.2.1,v52) true x48.2)) fun v54 =>
 b8 (some (IntKind.i64.wrap (x48.1+1))) fun v55 =>
 k48 (v55,v54)))else (
 b8 (some (IntKind.i64.wrap (x35.1+1))) fun v52 =>
 k35 (v52,x48.2))) (0,x35.2))else (
 b8 (some ((v39.2.2.2.2).length:Int)) fun v47 =>
 rounds (α:=Int×List ((Int×Int)×Bool)) (β:=Int) (fun k48 x48 =>
 b8 (some (decide (x48.1<v47))) fun v51 =>
 bif v51 then (
 b8 (nth v39.2.2.2.2 x48.1) fun v52 =>
 b8 (orO (lkp (fun (a b:Int×Int)=>(decide (a.1=b.1)&&decide (a.2=b.2))) (0,v52) x48.2) (some false)) fun v53 =>
 bif v53 then (
 b8 (some (decide (0<=x35.1))) fun v54 =>
 bif v54 then (
 some 13)else (
 some 0))else (
 b8 (some (V9 (fun (a b:Int×Int)=>(decide (a.1=b.1)&&decide (a.2=b.2))) (0,v52) true x48.2)) fun v54 =>
 b8 (some (IntKind.i64.wrap (x48.1+1))) fun v55 =>
 k48 (v55,v54)))else (
 b8 (some (IntKind.i64.wrap (x35.1+1))) fun v52 =>
 k35 (v52,x48.2))) (0,x35.2))))else (
 some 0)) (0,([]:List ((Int×Int)×Bool))))))))))else (
 b8 (V2 v14.2.2.2.2) fun v28 =>
 b8 (some (!(v28))) fun v29 =>
 bif v29 then (
 b8 (some (decide (0<=x10.1))) fun v30 =>
 bif v30 then (
 some 10)else (
 b8 (j7 (x.2.2.2,())) fun v31 =>
 bif v31 then (
 some 2)else (
 b8 (l5 (x.2.2.2,())) fun v32 =>
 bif v32 then (
 some 9)else (
 b8 (j5 (x.2.2.2,())) fun v33 =>
 bif v33 then (
 some 14)else (
 b8 (j6 (x.2.2.2,())) fun v34 =>
 bif v34 then (
 some 1)else (
 b8 (some ()) fun v35 =>
 b8 (j8 (x.2.2.2,(x.1,x.2.1,x.2.2.1,x.2.2.2))) fun v35 =>
 bif v35 then (
 some 7)else (
 b8 (some ((x.2.2.2).length:Int)) fun v36 =>
 rounds (α:=Int×List ((Int×Int)×Bool)) (β:=Int) (fun k37 x37 =>
 b8 (some (decide (x37.1<v36))) fun v40 =>
 bif v40 then (
 b8 (nth x.2.2.2 x37.1) fun v41 =>
 b8 (A3 v41.2.1) fun v46 =>
 b8 (some (decide (v46=2))) fun v47 =>
 bif v47 then (
 b8 (some (IntKind.i64.wrap (x37.1+1))) fun v48 =>
 k37 (v48,x37.2))else (
 b8 (some (decide (v46=3))) fun v48 =>
 bif v48 then (
 b8 (some ((v41.2.2.2.2).length:Int)) fun v49 =>
 rounds (α:=Int×List ((Int×Int)×Bool)) (β:=Int) (fun k50 x50 =>
 b8 (some (decide (x50.1<v49))) fun v53 =>
 bif v53 then (
 b8 (nth v41.2.2.2.2 x50.1) fun v54 =>
 b8 (orO (lkp (fun (a b:Int×Int)=>(decide (a.1=b.1)&&decide (a.2=b.2))) (v41.2.1,v54) x50.2) (some false)) fun v55 =>
 bif v55 then (
 b8 (some (decide (0<=x37.1))) fun v56 =>
 bif v56 then (
 some 13)else (
 some 0))else (
 b8 (some (V9 (fun (a b:Int×Int)=>(decide (a.1=b.1)&&decide (a.2=b.2))) (v41.2.1,v54) true x50.2)) fun v56 =>
 b8 (some (IntKind.i64.wrap (x50.1+1))) fun v57 =>
 k50 (v57,v56)))else (
 b8 (some (IntKind.i64.wrap (x37.1+1))) fun v54 =>
 k37 (v54,x50.2))) (0,x37.2))else (
 b8 (some ((v41.2.2.2.2).length:Int)) fun v49 =>
 rounds (α:=Int×List ((Int×Int)×Bool)) (β:=Int) (fun k50 x50 =>
 b8 (some (decide (x50.1<v49))) fun v53 =>
 bif v53 then (
 b8 (nth v41.2.2.2.2 x50.1) fun v54 =>
 b8 (orO (lkp (fun (a b:Int×Int)=>(decide (a.1=b.1)&&decide (a.2=b.2))) (0,v54) x50.2) (some false)) fun v55 =>
 bif v55 then (
 b8 (some (decide (0<=x37.1))) fun v56 =>
 bif v56 then (
 some 13)else (
 some 0))else (
 b8 (some (V9 (fun (a b:Int×Int)=>(decide (a.1=b.1)&&decide (a.2=b.2))) (0,v54) true x50.2)) fun v56 =>
 b8 (some (IntKind.i64.wrap (x50.1+1))) fun v57 =>
 k50 (v57,v56)))else (
 b8 (some (IntKind.i64.wrap (x37.1+1))) fun v54 =>
 k37 (v54,x50.2))) (0,x37.2))))else (
 some 0)) (0,([]:List ((Int×Int)×Bool))))))))))else (
 b8 (some (IntKind.i64.wrap (x10.1+1))) fun v30 =>
 k10 (v30,v19))))else (
 b8 (V2 v14.2.2.2.2) fun v21 =>
 b8 (some (!(v21))) fun v22 =>
 bif v22 then (
 b8 (some (decide (0<=x10.1))) fun v23 =>
 bif v23 then (
 some 10)else (
 b8 (j7 (x.2.2.2,())) fun v24 =>
 bif v24 then (
 some 2)else (
 b8 (l5 (x.2.2.2,())) fun v25 =>
 bif v25 then (
 some 9)else (
 b8 (j5 (x.2.2.2,())) fun v26 =>
 bif v26 then (
 some 14)else (
 b8 (j6 (x.2.2.2,())) fun v27 =>
 bif v27 then (
 some 1)else (
 b8 (some ()) fun v28 =>
 b8 (j8 (x.2.2.2,(x.1,x.2.1,x.2.2.1,x.2.2.2))) fun v28 =>
 bif v28 then (
 some 7)else (
 b8 (some ((x.2.2.2).length:Int)) fun v29 =>
 rounds (α:=Int×List ((Int×Int)×Bool)) (β:=Int) (fun k30 x30 =>
 b8 (some (decide (x30.1<v29))) fun v33 =>
 bif v33 then (
 b8 (nth x.2.2.2 x30.1) fun v34 =>
 b8 (A3 v34.2.1) fun v39 =>
 b8 (some (decide (v39=2))) fun v40 =>
 bif v40 then (
 b8 (some (IntKind.i64.wrap (x30.1+1))) fun v41 =>
 k30 (v41,x30.2))else (
 b8 (some (decide (v39=3))) fun v41 =>
 bif v41 then (
 b8 (some ((v34.2.2.2.2).length:Int)) fun v42 =>
 rounds (α:=Int×List ((Int×Int)×Bool)) (β:=Int) (fun k43 x43 =>
 b8 (some (decide (x43.1<v42))) fun v46 =>
 bif v46 then (
 b8 (nth v34.2.2.2.2 x43.1) fun v47 =>
 b8 (orO (lkp (fun (a b:Int×Int)=>(decide (a.1=b.1)&&decide (a.2=b.2))) (v34.2.1,v47) x43.2) (some false)) fun v48 =>
 bif v48 then (
 b8 (some (decide (0<=x30.1))) fun v49 =>
 bif v49 then (
 some 13)else (
 some 0))else (
 b8 (some (V9 (fun (a b:Int×Int)=>(decide (a.1=b.1)&&decide (a.2=b.2))) (v34.2.1,v47) true x43.2)) fun v49 =>
 b8 (some (IntKind.i64.wrap (x43.1+1))) fun v50 =>
 k43 (v50,v49)))else (
 b8 (some (IntKind.i64.wrap (x30.1+1))) fun v47 =>
 k30 (v47,x43.2))) (0,x30.2))else (
 b8 (some ((v34.2.2.2.2).length:Int)) fun v42 =>
 rounds (α:=Int×List ((Int×Int)×Bool)) (β:=Int) (fun k43 x43 =>
 b8 (some (decide (x43.1<v42))) fun v46 =>
 bif v46 then (
 b8 (nth v34.2.2.2.2 x43.1) fun v47 =>
 b8 (orO (lkp (fun (a b:Int×Int)=>(decide (a.1=b.1)&&decide (a.2=b.2))) (0,v47) x43.2) (some false)) fun v48 =>
 bif v48 then (
 b8 (some (decide (0<=x30.1))) fun v49 =>
 bif v49 then (
 some 13)else (
 some 0))else (
 b8 (some (V9 (fun (a b:Int×Int)=>(decide (a.1=b.1)&&decide (a.2=b.2))) (0,v47) true x43.2)) fun v49 =>
 b8 (some (IntKind.i64.wrap (x43.1+1))) fun v50 =>
 k43 (v50,v49)))else (
 b8 (some (IntKind.i64.wrap (x30.1+1))) fun v47 =>
 k30 (v47,x43.2))) (0,x30.2))))else (
 some 0)) (0,([]:List ((Int×Int)×Bool))))))))))else (
 b8 (some (IntKind.i64.wrap (x10.1+1))) fun v23 =>
 k10 (v23,v19))))else (
 b8 (j7 (x.2.2.2,())) fun v14 =>
 bif v14 then (
 some 2)else (
 b8 (l5 (x.2.2.2,())) fun v15 =>
 bif v15 then (
 some 9)else (
 b8 (j5 (x.2.2.2,())) fun v16 =>
 bif v16 then (
 some 14)else (
 b8 (j6 (x.2.2.2,())) fun v17 =>
 bif v17 then (
 some 1)else (
 b8 (some ()) fun v18 =>
 b8 (j8 (x.2.2.2,(x.1,x.2.1,x.2.2.1,x.2.2.2))) fun v18 =>
 bif v18 then (
 some 7)else (
 b8 (some ((x.2.2.2).length:Int)) fun v19 =>
 rounds (α:=Int×List ((Int×Int)×Bool)) (β:=Int) (fun k20 x20 =>
 b8 (some (decide (x20.1<v19))) fun v23 =>
 bif v23 then (
 b8 (nth x.2.2.2 x20.1) fun v24 =>
 b8 (A3 v24.2.1) fun v29 =>
 b8 (some (decide (v29=2))) fun v30 =>
 bif v30 then (
 b8 (some (IntKind.i64.wrap (x20.1+1))) fun v31 =>
 k20 (v31,x20.2))else (
 b8 (some (decide (v29=3))) fun v31 =>
 bif v31 then (
 b8 (some ((v24.2.2.2.2).length:Int)) fun v32 =>
 rounds (α:=Int×List ((Int×Int)×Bool)) (β:=Int) (fun k33 x33 =>
 b8 (some (decide (x33.1<v32))) fun v36 =>
 bif v36 then (
 b8 (nth v24.2.2.2.2 x33.1) fun v37 =>
 b8 (orO (lkp (fun (a b:Int×Int)=>(decide (a.1=b.1)&&decide (a.2=b.2))) (v24.2.1,v37) x33.2) (some false)) fun v38 =>
 bif v38 then (
 b8 (some (decide (0<=x20.1))) fun v39 =>
 bif v39 then (
 some 13)else (
 some 0))else (
 b8 (some (V9 (fun (a b:Int×Int)=>(decide (a.1=b.1)&&decide (a.2=b.2))) (v24.2.1,v37) true x33.2)) fun v39 =>
 b8 (some (IntKind.i64.wrap (x33.1+1))) fun v40 =>
 k33 (v40,v39)))else (
 b8 (some (IntKind.i64.wrap (x20.1+1))) fun v37 =>
 k20 (v37,x33.2))) (0,x20.2))else (
 b8 (some ((v24.2.2.2.2).length:Int)) fun v32 =>
 rounds (α:=Int×List ((Int×Int)×Bool)) (β:=Int) (fun k33 x33 =>
 b8 (some (decide (x33.1<v32))) fun v36 =>
 bif v36 then (
 b8 (nth v24.2.2.2.2 x33.1) fun v37 =>
 b8 (orO (lkp (fun (a b:Int×Int)=>(decide (a.1=b.1)&&decide (a.2=b.2))) (0,v37) x33.2) (some false)) fun v38 =>
 bif v38 then (
 b8 (some (decide (0<=x20.1))) fun v39 =>
 bif v39 then (
 some 13)else (
 some 0))else (
 b8 (some (V9 (fun (a b:Int×Int)=>(decide (a.1=b.1)&&decide (a.2=b.2))) (0,v37) true x33.2)) fun v39 =>
 b8 (some (IntKind.i64.wrap (x33.1+1))) fun v40 =>
 k33 (v40,v39)))else (
 b8 (some (IntKind.i64.wrap (x20.1+1))) fun v37 =>
 k20 (v37,x33.2))) (0,x20.2))))else (
 some 0)) (0,([]:List ((Int×Int)×Bool)))))))))) (0,0))))
noncomputable def Y5:(List (Int×Int×Int)×List (Int×Int×Int×List (Int×Int)×Int×Int)×List (Int)×List (Int×Int×Int×ByteArray×List (Int)))×Int->Option (((Int×Int×Int×ByteArray×List (Int))×Bool)):=fun x =>
 b8 (some ((x.1.2.2.2).length:Int)) fun v5 =>
 rounds (α:=Int) (β:=((Int×Int×Int×ByteArray×List (Int))×Bool)) (fun k6 x6 =>
 b8 (some (decide (x6<v5))) fun v8 =>
 bif v8 then (
 b8 (nth x.1.2.2.2 x6) fun v9 =>
 b8 (some (decide (v9.1=x.2))) fun v14 =>
 bif v14 then (
 b8 (slices_Clone_int v9.2.2.2.2) fun v15 =>
 some ((v9.1,v9.2.1,v9.2.2.1,v9.2.2.2.1,v15),true))else (
 b8 (some (IntKind.i64.wrap (x6+1))) fun v15 =>
 k6 v15))else (
 some ((0,0,0,(ByteArray.mk #[]),([]:List (Int))),false))) 0
noncomputable def R5:(List (Int×Int×Int)×List (Int×Int×Int×List (Int×Int)×Int×Int)×List (Int)×List (Int×Int×Int×ByteArray×List (Int)))×Int->Option (Int):=fun x =>
 b8 (Y5 ((x.1.1,x.1.2.1,x.1.2.2.1,x.1.2.2.2),x.2)) fun v5 =>
 b8 (some (!(v5.2))) fun v11 =>
 bif v11 then (
 some 0)else (
 b8 (A3 v5.1.2.1) fun v12 =>
 b8 (some (!decide (v12=3))) fun v13 =>
 bif v13 then (
 some 0)else (
 b8 (as0 (x.1.1,x.1.2.1,x.1.2.2.1)) fun v14 =>
 b8 (some (!decide (v14=0))) fun v15 =>
 bif v15 then (
 some 0)else (
 b8 (some ((x.1.2.1).length:Int)) fun v16 =>
 rounds (α:=Int×Int) (β:=Int) (fun k17 x17 =>
 b8 (some (decide (x17.2<v16))) fun v20 =>
 bif v20 then (
 b8 (nth x.1.2.1 x17.2) fun v21 =>
 b8 (l8 (v5.1.2.2.2.2,v21.2.2.2.2.1)) fun v27 =>
 b8 (l8 (v5.1.2.2.2.2,v21.2.2.2.2.2)) fun v28 =>
 b8 (some (v27==v28)) fun v29 =>
 bif v29 then (
 b8 (some (IntKind.i64.wrap (x17.2+1))) fun v30 =>
 k17 (x17.1,v30))else (
 b8 (E9 ((x.1.1,x.1.2.1,x.1.2.2.1),v21.1)) fun v30 =>
 rounds (α:=Int×Int) (β:=Int) (fun k32 x32 =>
 b8 (some ((v30.1).length:Int)) fun v35 =>
 b8 (some (decide (x32.2<v35))) fun v36 =>
 bif v36 then (
 b8 (some (IntKind.i64.wrap (x32.2-1))) fun v37 =>
 b8 (nth v30.1 v37) fun v38 =>
 b8 (nth v30.1 x32.2) fun v40 =>
 b8 (some (IntKind.i64.wrap (v38.1*v40.2))) fun v42 =>
 b8 (nth v30.1 x32.2) fun v43 =>
 b8 (some (IntKind.i64.wrap (x32.2-1))) fun v45 =>
 b8 (nth v30.1 v45) fun v46 =>
 b8 (some (IntKind.i64.wrap (v43.1*v46.2))) fun v48 =>
 b8 (some (IntKind.i64.wrap (v42-v48))) fun v49 =>
 b8 (some (IntKind.i64.wrap (x32.1+v49))) fun v50 =>
 b8 (some (IntKind.i64.wrap (x32.2+1))) fun v51 =>
 k32 (v50,v51))else (
 bif v28 then (
 b8 (some (IntKind.i64.wrap (0-x32.1))) fun v37 =>
 b8 (some (IntKind.i64.wrap (x17.1+v37))) fun v38 =>
 b8 (some (IntKind.i64.wrap (x17.2+1))) fun v39 =>
 k17 (v38,v39))else (
 b8 (some (IntKind.i64.wrap (x17.1+x32.1))) fun v37 =>
 b8 (some (IntKind.i64.wrap (x17.2+1))) fun v38 =>
 k17 (v37,v38)))) (0,1)))else (
 some x17.1)) (0,0))))
noncomputable def dQ0:(Int×Int×Int×Int)×(Int×Int)->Option (Bool):=fun x =>
 b8 (some (decide (x.1.1<=x.2.1))) fun v6 =>
 bif v6 then (
 b8 (some (decide (x.2.1<=x.1.2.2.1))) fun v7 =>
 bif v7 then (
 b8 (some (decide (x.1.2.1<=x.2.2))) fun v8 =>
 bif v8 then (
 b8 (some (decide (x.2.2<=x.1.2.2.2))) fun v9 =>
 some v9)else (
 some false))else (
 some false))else (
 some false)
noncomputable def I9:(Int×Int)->Option (Bool):=fun x =>
 b8 (dQ0 (((-1048576),(-1048576),1048576,1048576),(x.1,x.2))) fun v2 =>
 some v2
noncomputable def D2:(Int×Int×Int×List (Int×Int)×Int×Int)×(Int×Int×Int×List (Int×Int)×Int×Int)->Option (Bool):=fun x =>
 b8 (some (decide (x.1.2.1=x.2.2.1))) fun v12 =>
 bif v12 then (
 b8 (some (decide (x.1.2.2.1=x.2.2.2.1))) fun v13 =>
 bif v13 then (
 b8 (some (!decide (x.1.1=x.2.1))) fun v14 =>
 bif v14 then (
 b8 (some ((x.1.2.2.2.1).length:Int)) fun v15 =>
 b8 (some (decide (v15=0))) fun v16 =>
 bif v16 then (
 some true)else (
 some false))else (
 some false))else (
 b8 (some (decide (x.1.2.1=x.2.2.2.1))) fun v14 =>
 bif v14 then (
 b8 (some (decide (x.1.2.2.1=x.2.2.1))) fun v15 =>
 b8 (some (!decide (x.1.1=x.2.1))) fun v16 =>
 bif v16 then (
 b8 (some ((x.1.2.2.2.1).length:Int)) fun v17 =>
 b8 (some (decide (v17=0))) fun v18 =>
 bif v18 then (
 some v15)else (
 some false))else (
 some false))else (
 b8 (some (!decide (x.1.1=x.2.1))) fun v15 =>
 bif v15 then (
 b8 (some ((x.1.2.2.2.1).length:Int)) fun v16 =>
 b8 (some (decide (v16=0))) fun v17 =>
 bif v17 then (
 some false)else (
 some false))else (
 some false))))else (
 b8 (some (decide (x.1.2.1=x.2.2.2.1))) fun v13 =>
 bif v13 then (
 b8 (some (decide (x.1.2.2.1=x.2.2.1))) fun v14 =>
 b8 (some (!decide (x.1.1=x.2.1))) fun v15 =>
 bif v15 then (
 b8 (some ((x.1.2.2.2.1).length:Int)) fun v16 =>
 b8 (some (decide (v16=0))) fun v17 =>
 bif v17 then (
 some v14)else (
 some false))else (
 some false))else (
 b8 (some (!decide (x.1.1=x.2.1))) fun v14 =>
 bif v14 then (
 b8 (some ((x.1.2.2.2.1).length:Int)) fun v15 =>
 b8 (some (decide (v15=0))) fun v16 =>
 bif v16 then (
 some false)else (
 some false))else (
 some false)))
noncomputable def w7:List (Int×Int×Int×List (Int×Int)×Int×Int)×((Int×Int×Int×List (Int×Int)×Int×Int))->Option (Bool):=fun x =>
 b8 (some ((x.1).length:Int)) fun v7 =>
 rounds (α:=Int) (β:=Bool) (fun k8 x8 =>
 b8 (some (decide (x8<v7))) fun v10 =>
 bif v10 then (
 b8 (nth x.1 x8) fun v11 =>
 b8 (D2 ((v11.1,v11.2.1,v11.2.2.1,v11.2.2.2.1,v11.2.2.2.2.1,v11.2.2.2.2.2),(x.2.1,x.2.2.1,x.2.2.2.1,x.2.2.2.2.1,x.2.2.2.2.2.1,x.2.2.2.2.2.2))) fun v17 =>
 bif v17 then (
 b8 (some (decide (0<=x8))) fun v18 =>
 some v18)else (
 b8 (some (IntKind.i64.wrap (x8+1))) fun v18 =>
 k8 v18))else (
 some false)) 0
noncomputable def F8:(List (Int×Int×Int)×List (Int×Int×Int×List (Int×Int)×Int×Int)×List (Int))×(Int×Int×Int×List (Int×Int)×Int×Int)->Option (Bool):=fun x =>
 b8 (some ()) fun v9 =>
 b8 (w7 (x.1.2.1,(x.2.1,x.2.2.1,x.2.2.2.1,x.2.2.2.2.1,x.2.2.2.2.2.1,x.2.2.2.2.2.2))) fun v9 =>
 some v9
noncomputable def oT0(ns:List (Int×Int×Int))(ars:List (Int×Int×Int×List (Int×Int)×Int×Int))(v11 v14 v17:Int×Int):Option Bool :=
 b8 (some (List.foldl mnI v11.1 [v14.1,v17.1])) fun v31 =>
 b8 (some (List.foldl mnI v11.2 [v14.2,v17.2])) fun v32 =>
 b8 (some (List.foldl mxI v11.1 [v14.1,v17.1])) fun v33 =>
 b8 (some (List.foldl mxI v11.2 [v14.2,v17.2])) fun v34 =>
 b8 (u7 ((v11.1,v11.2),(v14.1,v14.2),(v17.1,v17.2))) fun v35 =>
 b8 (some ((ns).length:Int)) fun v36 =>
 rounds (α:=Int) (β:=Bool) (fun k37 x37 =>
 b8 (some (decide (x37<v36))) fun v39 =>
 bif v39 then (
 b8 (nth ns x37) fun v40 =>
 b8 (some (!((fun (a b:Int×Int)=>(decide (a.1=b.1)&&decide (a.2=b.2))) (v40.2.1,v40.2.2) (v11.1,v11.2)))) fun v43 =>
 bif v43 then (
 b8 (some (!((fun (a b:Int×Int)=>(decide (a.1=b.1)&&decide (a.2=b.2))) (v40.2.1,v40.2.2) (v14.1,v14.2)))) fun v44 =>
 bif v44 then (
 b8 (some (!((fun (a b:Int×Int)=>(decide (a.1=b.1)&&decide (a.2=b.2))) (v40.2.1,v40.2.2) (v17.1,v17.2)))) fun v45 =>
 bif v45 then (
 b8 (dQ0 ((v31,v32,v33,v34),(v40.2.1,v40.2.2))) fun v46 =>
 b8 (some (!(v46))) fun v47 =>
 bif v47 then (
 b8 (some (IntKind.i64.wrap (x37+1))) fun v48 =>
 k37 v48)else (
 b8 (some (decide (v35=0))) fun v48 =>
 bif v48 then (
 b8 (y4 ((v11.1,v11.2),(v14.1,v14.2),(v40.2.1,v40.2.2))) fun v49 =>
 bif v49 then (
 some false)else (
 b8 (y4 ((v14.1,v14.2),(v17.1,v17.2),(v40.2.1,v40.2.2))) fun v50 =>
 bif v50 then (
 some false)else (
 b8 (y4 ((v17.1,v17.2),(v11.1,v11.2),(v40.2.1,v40.2.2))) fun v51 =>
 bif v51 then (
 some false)else (
 b8 (some (IntKind.i64.wrap (x37+1))) fun v52 =>
 k37 v52))))else (
 b8 (u7 ((v11.1,v11.2),(v14.1,v14.2),(v40.2.1,v40.2.2))) fun v49 =>
 b8 (some (IntKind.i64.wrap (v35*v49))) fun v50 =>
 b8 (some (decide (0<=v50))) fun v51 =>
 bif v51 then (
 b8 (u7 ((v14.1,v14.2),(v17.1,v17.2),(v40.2.1,v40.2.2))) fun v52 =>
 b8 (some (IntKind.i64.wrap (v35*v52))) fun v53 =>
 b8 (some (decide (0<=v53))) fun v54 =>
 bif v54 then (
 b8 (u7 ((v17.1,v17.2),(v11.1,v11.2),(v40.2.1,v40.2.2))) fun v55 =>
 b8 (some (IntKind.i64.wrap (v35*v55))) fun v56 =>
 b8 (some (decide (0<=v56))) fun v57 =>
 bif v57 then (
 some false)else (
 b8 (some (IntKind.i64.wrap (x37+1))) fun v58 =>
 k37 v58))else (
 b8 (some (IntKind.i64.wrap (x37+1))) fun v55 =>
 k37 v55))else (
 b8 (some (IntKind.i64.wrap (x37+1))) fun v52 =>
 k37 v52))))else (
 b8 (some (IntKind.i64.wrap (x37+1))) fun v46 =>
 k37 v46))else (
 b8 (some (IntKind.i64.wrap (x37+1))) fun v45 =>
 k37 v45))else (
 b8 (some (IntKind.i64.wrap (x37+1))) fun v44 =>
 k37 v44))else (
 b8 (some ((ars).length:Int)) fun v40 =>
 rounds (α:=Int) (β:=Bool) (fun k41 x41 =>
 b8 (some (decide (x41<v40))) fun v43 =>
 bif v43 then (
 b8 (nth ars x41) fun v44 =>
 b8 (some ((v44.2.2.2.1).length:Int)) fun v50 =>
 rounds (α:=Int) (β:=Bool) (fun k51 x51 =>
 b8 (some (decide (x51<v50))) fun v53 =>
 bif v53 then (
 b8 (nth v44.2.2.2.1 x51) fun v54 =>
 b8 (some (!((fun (a b:Int×Int)=>(decide (a.1=b.1)&&decide (a.2=b.2))) (v54.1,v54.2) (v11.1,v11.2)))) fun v56 =>
 bif v56 then (
 b8 (some (!((fun (a b:Int×Int)=>(decide (a.1=b.1)&&decide (a.2=b.2))) (v54.1,v54.2) (v14.1,v14.2)))) fun v57 =>
 bif v57 then (
 b8 (some (!((fun (a b:Int×Int)=>(decide (a.1=b.1)&&decide (a.2=b.2))) (v54.1,v54.2) (v17.1,v17.2)))) fun v58 =>
 bif v58 then (
 b8 (dQ0 ((v31,v32,v33,v34),(v54.1,v54.2))) fun v59 =>
 b8 (some (!(v59))) fun v60 =>
 bif v60 then (
 b8 (some (IntKind.i64.wrap (x51+1))) fun v61 =>
 k51 v61)else (
 b8 (some (decide (v35=0))) fun v61 =>
 bif v61 then (
 b8 (y4 ((v11.1,v11.2),(v14.1,v14.2),(v54.1,v54.2))) fun v62 =>
 bif v62 then (
 some false)else (
 b8 (y4 ((v14.1,v14.2),(v17.1,v17.2),(v54.1,v54.2))) fun v63 =>
 bif v63 then (
 some false)else (
 b8 (y4 ((v17.1,v17.2),(v11.1,v11.2),(v54.1,v54.2))) fun v64 =>
 bif v64 then (
 some false)else (
 b8 (some (IntKind.i64.wrap (x51+1))) fun v65 =>
 k51 v65))))else (
 b8 (u7 ((v11.1,v11.2),(v14.1,v14.2),(v54.1,v54.2))) fun v62 =>
 b8 (some (IntKind.i64.wrap (v35*v62))) fun v63 =>
 b8 (some (decide (0<=v63))) fun v64 =>
 bif v64 then (
 b8 (u7 ((v14.1,v14.2),(v17.1,v17.2),(v54.1,v54.2))) fun v65 =>
 b8 (some (IntKind.i64.wrap (v35*v65))) fun v66 =>
 b8 (some (decide (0<=v66))) fun v67 =>
 bif v67 then (
 b8 (u7 ((v17.1,v17.2),(v11.1,v11.2),(v54.1,v54.2))) fun v68 =>
 b8 (some (IntKind.i64.wrap (v35*v68))) fun v69 =>
 b8 (some (decide (0<=v69))) fun v70 =>
 bif v70 then (
 some false)else (
 b8 (some (IntKind.i64.wrap (x51+1))) fun v71 =>
 k51 v71))else (
 b8 (some (IntKind.i64.wrap (x51+1))) fun v68 =>
 k51 v68))else (
 b8 (some (IntKind.i64.wrap (x51+1))) fun v65 =>
 k51 v65))))else (
 b8 (some (IntKind.i64.wrap (x51+1))) fun v59 =>
 k51 v59))else (
 b8 (some (IntKind.i64.wrap (x51+1))) fun v58 =>
 k51 v58))else (
 b8 (some (IntKind.i64.wrap (x51+1))) fun v57 =>
 k51 v57))else (
 b8 (some (IntKind.i64.wrap (x41+1))) fun v54 =>
 k41 v54)) 0)else (
 some true)) 0)) 0
noncomputable def U2:(List (Int×Int×Int)×List (Int×Int×Int×List (Int×Int)×Int×Int)×List (Int))×(Int×Int×Int×List (Int×Int)×Int×Int)×List (Int×Int)×Int->Option (Bool):=fun x =>
 b8 (nth x.2.2.1 x.2.2.2) fun v11 =>
 b8 (some (IntKind.i64.wrap (x.2.2.2+1))) fun v13 =>
 b8 (nth x.2.2.1 v13) fun v14 =>
 b8 (some (IntKind.i64.wrap (x.2.2.2+2))) fun v16 =>
 b8 (nth x.2.2.1 v16) fun v17 =>
 b8 (I9 (v11.1,v11.2)) fun v19 =>
 b8 (some (!(v19))) fun v20 =>
 bif v20 then (
 some false)else (
 b8 (I9 (v14.1,v14.2)) fun v21 =>
 b8 (some (!(v21))) fun v22 =>
 bif v22 then (
 some false)else (
 b8 (I9 (v17.1,v17.2)) fun v23 =>
 b8 (some (!(v23))) fun v24 =>
 bif v24 then (
 some false)else (
 b8 (some (decide (x.2.1.2.1=x.2.1.2.2.1))) fun v25 =>
 bif v25 then (
 b8 (some ((x.2.1.2.2.2.1).length:Int)) fun v26 =>
 b8 (some (decide (v26<3))) fun v27 =>
 bif v27 then (
 some false)else (
 b8 (some ((x.2.1.2.2.2.1).length:Int)) fun v28 =>
 b8 (some (decide (v28=1))) fun v29 =>
 bif v29 then (
 b8 (F8 ((x.1.1,x.1.2.1,x.1.2.2),(x.2.1.1,x.2.1.2.1,x.2.1.2.2.1,x.2.1.2.2.2.1,x.2.1.2.2.2.2.1,x.2.1.2.2.2.2.2))) fun v30 =>
 bif v30 then (
 some false)else (
 oT0 x.1.1 x.1.2.1 v11 v14 v17))else (
 oT0 x.1.1 x.1.2.1 v11 v14 v17)))else (
 b8 (some ((x.2.1.2.2.2.1).length:Int)) fun v26 =>
 b8 (some (decide (v26=1))) fun v27 =>
 bif v27 then (
 b8 (F8 ((x.1.1,x.1.2.1,x.1.2.2),(x.2.1.1,x.2.1.2.1,x.2.1.2.2.1,x.2.1.2.2.2.1,x.2.1.2.2.2.2.1,x.2.1.2.2.2.2.2))) fun v28 =>
 bif v28 then (
 some false)else (
 oT0 x.1.1 x.1.2.1 v11 v14 v17))else (
 oT0 x.1.1 x.1.2.1 v11 v14 v17)))))
noncomputable def I3:(List (Int×Int×Int)×List (Int×Int×Int×List (Int×Int)×Int×Int)×List (Int))×Int×Int->Option (Bool):=fun x =>
 b8 (al0 ((x.1.1,x.1.2.1,x.1.2.2),x.2.1)) fun v5 =>
 b8 (some (!(v5.2))) fun v12 =>
 bif v12 then (
 some false)else (
 b8 (some (decide (x.2.2<0))) fun v13 =>
 bif v13 then (
 some false)else (
 b8 (some ((v5.1.2.2.2.1).length:Int)) fun v14 =>
 b8 (some (decide (v14<=x.2.2))) fun v15 =>
 bif v15 then (
 some false)else (
 b8 (E9 ((x.1.1,x.1.2.1,x.1.2.2),x.2.1)) fun v16 =>
 b8 (some (decide (v16.2=0))) fun v18 =>
 bif v18 then (
 b8 (U2 ((x.1.1,x.1.2.1,x.1.2.2),(v5.1.1,v5.1.2.1,v5.1.2.2.1,v5.1.2.2.2.1,v5.1.2.2.2.2.1,v5.1.2.2.2.2.2),v16.1,x.2.2)) fun v19 =>
 some v19)else (
 some false))))
noncomputable def J0:(Int×Int)×(Int×Int)->Option (Int):=fun x =>
 b8 (some (IntKind.i64.wrap (x.2.1-x.1.1))) fun v4 =>
 b8 (some (IntKind.i64.wrap (x.2.1-x.1.1))) fun v5 =>
 b8 (some (IntKind.i64.wrap (v4*v5))) fun v6 =>
 b8 (some (IntKind.i64.wrap (x.2.2-x.1.2))) fun v7 =>
 b8 (some (IntKind.i64.wrap (x.2.2-x.1.2))) fun v8 =>
 b8 (some (IntKind.i64.wrap (v7*v8))) fun v9 =>
 b8 (some (IntKind.i64.wrap (v6+v9))) fun v10 =>
 some v10
noncomputable def W5:Int->Option (Int):=fun x =>
 b8 (some (decide (x<0))) fun v1 =>
 bif v1 then (
 b8 (some (IntKind.u64.wrap x)) fun v2 =>
 b8 (some (IntKind.u64.wrap (0-v2))) fun v3 =>
 some v3)else (
 b8 (some (IntKind.u64.wrap x)) fun v2 =>
 some v2)
noncomputable def ap0:Int×Int->Option ((Int×Int)):=fun x =>
 b8 (some (IntKind.u64.wrap (BitVec.ofInt IntKind.u64.bits x.1 &&& BitVec.ofInt IntKind.u64.bits 4294967295).toNat)) fun v2 =>
 b8 ((bif decide ((32:Int)<0)then none else some (x.1.fdiv (2^(min (32:Int).toNat IntKind.u64.bits))))) fun v3 =>
 b8 (some (IntKind.u64.wrap (BitVec.ofInt IntKind.u64.bits x.2 &&& BitVec.ofInt IntKind.u64.bits 4294967295).toNat)) fun v4 =>
 b8 ((bif decide ((32:Int)<0)then none else some (x.2.fdiv (2^(min (32:Int).toNat IntKind.u64.bits))))) fun v5 =>
 b8 (some (IntKind.u64.wrap (v2*v4))) fun v6 =>
 b8 (some (IntKind.u64.wrap (v3*v4))) fun v7 =>
 b8 ((bif decide ((32:Int)<0)then none else some (v6.fdiv (2^(min (32:Int).toNat IntKind.u64.bits))))) fun v8 =>
 b8 (some (IntKind.u64.wrap (v7+v8))) fun v9 =>
 b8 (some (IntKind.u64.wrap (BitVec.ofInt IntKind.u64.bits v9 &&& BitVec.ofInt IntKind.u64.bits 4294967295).toNat)) fun v10 =>
 b8 ((bif decide ((32:Int)<0)then none else some (v9.fdiv (2^(min (32:Int).toNat IntKind.u64.bits))))) fun v11 =>
 b8 (some (IntKind.u64.wrap (v2*v5))) fun v12 =>
 b8 (some (IntKind.u64.wrap (v10+v12))) fun v13 =>
 b8 (some (IntKind.u64.wrap (v3*v5))) fun v14 =>
 b8 (some (IntKind.u64.wrap (v14+v11))) fun v15 =>
 b8 ((bif decide ((32:Int)<0)then none else some (v13.fdiv (2^(min (32:Int).toNat IntKind.u64.bits))))) fun v16 =>
 b8 (some (IntKind.u64.wrap (v15+v16))) fun v17 =>
 b8 (some (IntKind.u64.wrap (x.1*x.2))) fun v18 =>
 some (v17,v18)
noncomputable def bits_Len64:Int->Option (Int):=fun x =>
 b8 (some (decide (4294967296<=x))) fun v1 =>
 bif v1 then (
 b8 ((bif decide ((32:Int)<0)then none else some (x.fdiv (2^(min (32:Int).toNat IntKind.u64.bits))))) fun v2 =>
 b8 (some (decide (65536<=v2))) fun v3 =>
 bif v3 then (
 b8 ((bif decide ((16:Int)<0)then none else some (v2.fdiv (2^(min (16:Int).toNat IntKind.u64.bits))))) fun v4 =>
 b8 (some (decide (256<=v4))) fun v5 =>
 bif v5 then (
 b8 ((bif decide ((8:Int)<0)then none else some (v4.fdiv (2^(min (8:Int).toNat IntKind.u64.bits))))) fun v6 =>
 b8 (some (IntKind.u8.wrap v6)) fun v7 =>
 b8 (kT0 qB0 v7) fun v8 =>
 b8 (some (IntKind.i64.wrap v8)) fun v9 =>
 b8 (some (IntKind.i64.wrap (56+v9))) fun v10 =>
 some v10)else (
 b8 (some (IntKind.u8.wrap v4)) fun v6 =>
 b8 (kT0 qB0 v6) fun v7 =>
 b8 (some (IntKind.i64.wrap v7)) fun v8 =>
 b8 (some (IntKind.i64.wrap (48+v8))) fun v9 =>
 some v9))else (
 b8 (some (decide (256<=v2))) fun v4 =>
 bif v4 then (
 b8 ((bif decide ((8:Int)<0)then none else some (v2.fdiv (2^(min (8:Int).toNat IntKind.u64.bits))))) fun v5 =>
 b8 (some (IntKind.u8.wrap v5)) fun v6 =>
 b8 (kT0 qB0 v6) fun v7 =>
 b8 (some (IntKind.i64.wrap v7)) fun v8 =>
 b8 (some (IntKind.i64.wrap (40+v8))) fun v9 =>
 some v9)else (
 b8 (some (IntKind.u8.wrap v2)) fun v5 =>
 b8 (kT0 qB0 v5) fun v6 =>
 b8 (some (IntKind.i64.wrap v6)) fun v7 =>
 b8 (some (IntKind.i64.wrap (32+v7))) fun v8 =>
 some v8)))else (
 b8 (some (decide (65536<=x))) fun v2 =>
 bif v2 then (
 b8 ((bif decide ((16:Int)<0)then none else some (x.fdiv (2^(min (16:Int).toNat IntKind.u64.bits))))) fun v3 =>
 b8 (some (decide (256<=v3))) fun v4 =>
 bif v4 then (
 b8 ((bif decide ((8:Int)<0)then none else some (v3.fdiv (2^(min (8:Int).toNat IntKind.u64.bits))))) fun v5 =>
 b8 (some (IntKind.u8.wrap v5)) fun v6 =>
 b8 (kT0 qB0 v6) fun v7 =>
 b8 (some (IntKind.i64.wrap v7)) fun v8 =>
 b8 (some (IntKind.i64.wrap (24+v8))) fun v9 =>
 some v9)else (
 b8 (some (IntKind.u8.wrap v3)) fun v5 =>
 b8 (kT0 qB0 v5) fun v6 =>
 b8 (some (IntKind.i64.wrap v6)) fun v7 =>
 b8 (some (IntKind.i64.wrap (16+v7))) fun v8 =>
 some v8))else (
 b8 (some (decide (256<=x))) fun v3 =>
 bif v3 then (
 b8 ((bif decide ((8:Int)<0)then none else some (x.fdiv (2^(min (8:Int).toNat IntKind.u64.bits))))) fun v4 =>
 b8 (some (IntKind.u8.wrap v4)) fun v5 =>
 b8 (kT0 qB0 v5) fun v6 =>
 b8 (some (IntKind.i64.wrap v6)) fun v7 =>
 b8 (some (IntKind.i64.wrap (8+v7))) fun v8 =>
 some v8)else (
 b8 (some (IntKind.u8.wrap x)) fun v4 =>
 b8 (kT0 qB0 v4) fun v5 =>
 b8 (some (IntKind.i64.wrap v5)) fun v6 =>
 b8 (some (IntKind.i64.wrap (0+v6))) fun v7 =>
 some v7)))
noncomputable def bits_LeadingZeros64:Int->Option (Int):=fun x =>
 b8 (bits_Len64 x) fun v1 =>
 b8 (some (IntKind.i64.wrap (64-v1))) fun v2 =>
 some v2
noncomputable def bB0:Int×Int×Int->Option ((Int×Int)):=fun x =>
 b8 (some (decide (x.2.2=0))) fun v3 =>
 bif v3 then (
 none)else (
 b8 (some (decide (x.2.2<=x.1))) fun v4 =>
 bif v4 then (
 none)else (
 b8 (some (decide (x.1=0))) fun v5 =>
 bif v5 then (
 b8 ((bif decide (x.2.2=0)then none else some (IntKind.u64.wrap (x.2.1.tdiv x.2.2)))) fun v6 =>
 b8 ((bif decide (x.2.2=0)then none else some (x.2.1.tmod x.2.2))) fun v7 =>
 some (v6,v7))else (
 b8 (bits_LeadingZeros64 x.2.2) fun v6 =>
 b8 (some (IntKind.u64.wrap v6)) fun v7 =>
 b8 ((bif decide (v7<0)then none else some (IntKind.u64.wrap (x.2.2*2^(min v7.toNat IntKind.u64.bits))))) fun v8 =>
 b8 ((bif decide ((32:Int)<0)then none else some (v8.fdiv (2^(min (32:Int).toNat IntKind.u64.bits))))) fun v9 =>
 b8 (some (IntKind.u64.wrap (BitVec.ofInt IntKind.u64.bits v8 &&& BitVec.ofInt IntKind.u64.bits 4294967295).toNat)) fun v10 =>
 b8 ((bif decide (v7<0)then none else some (IntKind.u64.wrap (x.1*2^(min v7.toNat IntKind.u64.bits))))) fun v11 =>
 b8 (some (IntKind.u64.wrap (64-v7))) fun v12 =>
 b8 ((bif decide (v12<0)then none else some (x.2.1.fdiv (2^(min v12.toNat IntKind.u64.bits))))) fun v13 =>
 b8 (some (IntKind.u64.wrap (BitVec.ofInt IntKind.u64.bits v11 ||| BitVec.ofInt IntKind.u64.bits v13).toNat)) fun v14 =>
 b8 ((bif decide (v7<0)then none else some (IntKind.u64.wrap (x.2.1*2^(min v7.toNat IntKind.u64.bits))))) fun v15 =>
 b8 ((bif decide ((32:Int)<0)then none else some (v15.fdiv (2^(min (32:Int).toNat IntKind.u64.bits))))) fun v16 =>
 b8 (some (IntKind.u64.wrap (BitVec.ofInt IntKind.u64.bits v15 &&& BitVec.ofInt IntKind.u64.bits 4294967295).toNat)) fun v17 =>
 b8 ((bif decide (v9=0)then none else some (IntKind.u64.wrap (v14.tdiv v9)))) fun v18 =>
 b8 (some (IntKind.u64.wrap (v18*v9))) fun v19 =>
 b8 (some (IntKind.u64.wrap (v14-v19))) fun v20 =>
 rounds (α:=Int×Int) (β:=(Int×Int)) (fun k21 x21 =>
 b8 (some (decide (4294967296<=x21.1))) fun v24 =>
 bif v24 then (
 b8 (some (IntKind.u64.wrap (x21.1-1))) fun v25 =>
 b8 (some (IntKind.u64.wrap (x21.2+v9))) fun v26 =>
 b8 (some (decide (4294967296<=v26))) fun v27 =>
 bif v27 then (
 b8 (some (IntKind.u64.wrap (v14*4294967296))) fun v28 =>
 b8 (some (IntKind.u64.wrap (v28+v16))) fun v29 =>
 b8 (some (IntKind.u64.wrap (v25*v8))) fun v30 =>
 b8 (some (IntKind.u64.wrap (v29-v30))) fun v31 =>
 b8 ((bif decide (v9=0)then none else some (IntKind.u64.wrap (v31.tdiv v9)))) fun v32 =>
 b8 (some (IntKind.u64.wrap (v32*v9))) fun v33 =>
 b8 (some (IntKind.u64.wrap (v31-v33))) fun v34 =>
 rounds (α:=Int×Int) (β:=(Int×Int)) (fun k35 x35 =>
 b8 (some (decide (4294967296<=x35.2))) fun v38 =>
 bif v38 then (
 b8 (some (IntKind.u64.wrap (x35.2-1))) fun v39 =>
 b8 (some (IntKind.u64.wrap (x35.1+v9))) fun v40 =>
 b8 (some (decide (4294967296<=v40))) fun v41 =>
 bif v41 then (
 b8 (some (IntKind.u64.wrap (v25*4294967296))) fun v42 =>
 b8 (some (IntKind.u64.wrap (v42+v39))) fun v43 =>
 b8 (some (IntKind.u64.wrap (v31*4294967296))) fun v44 =>
 b8 (some (IntKind.u64.wrap (v44+v17))) fun v45 =>
 b8 (some (IntKind.u64.wrap (v39*v8))) fun v46 =>
 b8 (some (IntKind.u64.wrap (v45-v46))) fun v47 =>
 b8 ((bif decide (v7<0)then none else some (v47.fdiv (2^(min v7.toNat IntKind.u64.bits))))) fun v48 =>
 some (v43,v48))else (
 k35 (v40,v39)))else (
 b8 (some (IntKind.u64.wrap (x35.2*v10))) fun v39 =>
 b8 (some (IntKind.u64.wrap (4294967296*x35.1))) fun v40 =>
 b8 (some (IntKind.u64.wrap (v40+v17))) fun v41 =>
 b8 (some (decide (v41<v39))) fun v42 =>
 bif v42 then (
 b8 (some (IntKind.u64.wrap (x35.2-1))) fun v43 =>
 b8 (some (IntKind.u64.wrap (x35.1+v9))) fun v44 =>
 b8 (some (decide (4294967296<=v44))) fun v45 =>
 bif v45 then (
 b8 (some (IntKind.u64.wrap (v25*4294967296))) fun v46 =>
 b8 (some (IntKind.u64.wrap (v46+v43))) fun v47 =>
 b8 (some (IntKind.u64.wrap (v31*4294967296))) fun v48 =>
 b8 (some (IntKind.u64.wrap (v48+v17))) fun v49 =>
 b8 (some (IntKind.u64.wrap (v43*v8))) fun v50 =>
 b8 (some (IntKind.u64.wrap (v49-v50))) fun v51 =>
 b8 ((bif decide (v7<0)then none else some (v51.fdiv (2^(min v7.toNat IntKind.u64.bits))))) fun v52 =>
 some (v47,v52))else (
 k35 (v44,v43)))else (
 b8 (some (IntKind.u64.wrap (v25*4294967296))) fun v43 =>
 b8 (some (IntKind.u64.wrap (v43+x35.2))) fun v44 =>
 b8 (some (IntKind.u64.wrap (v31*4294967296))) fun v45 =>
 b8 (some (IntKind.u64.wrap (v45+v17))) fun v46 =>
 b8 (some (IntKind.u64.wrap (x35.2*v8))) fun v47 =>
 b8 (some (IntKind.u64.wrap (v46-v47))) fun v48 =>
 b8 ((bif decide (v7<0)then none else some (v48.fdiv (2^(min v7.toNat IntKind.u64.bits))))) fun v49 =>
 some (v44,v49)))) (v34,v32))else (
 k21 (v25,v26)))else (
 b8 (some (IntKind.u64.wrap (x21.1*v10))) fun v25 =>
 b8 (some (IntKind.u64.wrap (4294967296*x21.2))) fun v26 =>
 b8 (some (IntKind.u64.wrap (v26+v16))) fun v27 =>
 b8 (some (decide (v27<v25))) fun v28 =>
 bif v28 then (
 b8 (some (IntKind.u64.wrap (x21.1-1))) fun v29 =>
 b8 (some (IntKind.u64.wrap (x21.2+v9))) fun v30 =>
 b8 (some (decide (4294967296<=v30))) fun v31 =>
 bif v31 then (
 b8 (some (IntKind.u64.wrap (v14*4294967296))) fun v32 =>
 b8 (some (IntKind.u64.wrap (v32+v16))) fun v33 =>
 b8 (some (IntKind.u64.wrap (v29*v8))) fun v34 =>
 b8 (some (IntKind.u64.wrap (v33-v34))) fun v35 =>
 b8 ((bif decide (v9=0)then none else some (IntKind.u64.wrap (v35.tdiv v9)))) fun v36 =>
 b8 (some (IntKind.u64.wrap (v36*v9))) fun v37 =>
 b8 (some (IntKind.u64.wrap (v35-v37))) fun v38 =>
 rounds (α:=Int×Int) (β:=(Int×Int)) (fun k39 x39 =>
 b8 (some (decide (4294967296<=x39.2))) fun v42 =>
 bif v42 then (
 b8 (some (IntKind.u64.wrap (x39.2-1))) fun v43 =>
 b8 (some (IntKind.u64.wrap (x39.1+v9))) fun v44 =>
 b8 (some (decide (4294967296<=v44))) fun v45 =>
 bif v45 then (
 b8 (some (IntKind.u64.wrap (v29*4294967296))) fun v46 =>
 b8 (some (IntKind.u64.wrap (v46+v43))) fun v47 =>
 b8 (some (IntKind.u64.wrap (v35*4294967296))) fun v48 =>
 b8 (some (IntKind.u64.wrap (v48+v17))) fun v49 =>
 b8 (some (IntKind.u64.wrap (v43*v8))) fun v50 =>
 b8 (some (IntKind.u64.wrap (v49-v50))) fun v51 =>
 b8 ((bif decide (v7<0)then none else some (v51.fdiv (2^(min v7.toNat IntKind.u64.bits))))) fun v52 =>
 some (v47,v52))else (
 k39 (v44,v43)))else (
 b8 (some (IntKind.u64.wrap (x39.2*v10))) fun v43 =>
 b8 (some (IntKind.u64.wrap (4294967296*x39.1))) fun v44 =>
 b8 (some (IntKind.u64.wrap (v44+v17))) fun v45 =>
 b8 (some (decide (v45<v43))) fun v46 =>
 bif v46 then (
 b8 (some (IntKind.u64.wrap (x39.2-1))) fun v47 =>
 b8 (some (IntKind.u64.wrap (x39.1+v9))) fun v48 =>
 b8 (some (decide (4294967296<=v48))) fun v49 =>
 bif v49 then (
 b8 (some (IntKind.u64.wrap (v29*4294967296))) fun v50 =>
 b8 (some (IntKind.u64.wrap (v50+v47))) fun v51 =>
 b8 (some (IntKind.u64.wrap (v35*4294967296))) fun v52 =>
 b8 (some (IntKind.u64.wrap (v52+v17))) fun v53 =>
 b8 (some (IntKind.u64.wrap (v47*v8))) fun v54 =>
 b8 (some (IntKind.u64.wrap (v53-v54))) fun v55 =>
 b8 ((bif decide (v7<0)then none else some (v55.fdiv (2^(min v7.toNat IntKind.u64.bits))))) fun v56 =>
 some (v51,v56))else (
 k39 (v48,v47)))else (
 b8 (some (IntKind.u64.wrap (v29*4294967296))) fun v47 =>
 b8 (some (IntKind.u64.wrap (v47+x39.2))) fun v48 =>
 b8 (some (IntKind.u64.wrap (v35*4294967296))) fun v49 =>
 b8 (some (IntKind.u64.wrap (v49+v17))) fun v50 =>
 b8 (some (IntKind.u64.wrap (x39.2*v8))) fun v51 =>
 b8 (some (IntKind.u64.wrap (v50-v51))) fun v52 =>
 b8 ((bif decide (v7<0)then none else some (v52.fdiv (2^(min v7.toNat IntKind.u64.bits))))) fun v53 =>
 some (v48,v53)))) (v38,v36))else (
 k21 (v29,v30)))else (
 b8 (some (IntKind.u64.wrap (v14*4294967296))) fun v29 =>
 b8 (some (IntKind.u64.wrap (v29+v16))) fun v30 =>
 b8 (some (IntKind.u64.wrap (x21.1*v8))) fun v31 =>
 b8 (some (IntKind.u64.wrap (v30-v31))) fun v32 =>
 b8 ((bif decide (v9=0)then none else some (IntKind.u64.wrap (v32.tdiv v9)))) fun v33 =>
 b8 (some (IntKind.u64.wrap (v33*v9))) fun v34 =>
 b8 (some (IntKind.u64.wrap (v32-v34))) fun v35 =>
 rounds (α:=Int×Int) (β:=(Int×Int)) (fun k36 x36 =>
 b8 (some (decide (4294967296<=x36.2))) fun v39 =>
 bif v39 then (
 b8 (some (IntKind.u64.wrap (x36.2-1))) fun v40 =>
 b8 (some (IntKind.u64.wrap (x36.1+v9))) fun v41 =>
 b8 (some (decide (4294967296<=v41))) fun v42 =>
 bif v42 then (
 b8 (some (IntKind.u64.wrap (x21.1*4294967296))) fun v43 =>
 b8 (some (IntKind.u64.wrap (v43+v40))) fun v44 =>
 b8 (some (IntKind.u64.wrap (v32*4294967296))) fun v45 =>
 b8 (some (IntKind.u64.wrap (v45+v17))) fun v46 =>
 b8 (some (IntKind.u64.wrap (v40*v8))) fun v47 =>
 b8 (some (IntKind.u64.wrap (v46-v47))) fun v48 =>
 b8 ((bif decide (v7<0)then none else some (v48.fdiv (2^(min v7.toNat IntKind.u64.bits))))) fun v49 =>
 some (v44,v49))else (
 k36 (v41,v40)))else (
 b8 (some (IntKind.u64.wrap (x36.2*v10))) fun v40 =>
 b8 (some (IntKind.u64.wrap (4294967296*x36.1))) fun v41 =>
 b8 (some (IntKind.u64.wrap (v41+v17))) fun v42 =>
 b8 (some (decide (v42<v40))) fun v43 =>
 bif v43 then (
 b8 (some (IntKind.u64.wrap (x36.2-1))) fun v44 =>
 b8 (some (IntKind.u64.wrap (x36.1+v9))) fun v45 =>
 b8 (some (decide (4294967296<=v45))) fun v46 =>
 bif v46 then (
 b8 (some (IntKind.u64.wrap (x21.1*4294967296))) fun v47 =>
 b8 (some (IntKind.u64.wrap (v47+v44))) fun v48 =>
 b8 (some (IntKind.u64.wrap (v32*4294967296))) fun v49 =>
 b8 (some (IntKind.u64.wrap (v49+v17))) fun v50 =>
 b8 (some (IntKind.u64.wrap (v44*v8))) fun v51 =>
 b8 (some (IntKind.u64.wrap (v50-v51))) fun v52 =>
 b8 ((bif decide (v7<0)then none else some (v52.fdiv (2^(min v7.toNat IntKind.u64.bits))))) fun v53 =>
 some (v48,v53))else (
 k36 (v45,v44)))else (
 b8 (some (IntKind.u64.wrap (x21.1*4294967296))) fun v44 =>
 b8 (some (IntKind.u64.wrap (v44+x36.2))) fun v45 =>
 b8 (some (IntKind.u64.wrap (v32*4294967296))) fun v46 =>
 b8 (some (IntKind.u64.wrap (v46+v17))) fun v47 =>
 b8 (some (IntKind.u64.wrap (x36.2*v8))) fun v48 =>
 b8 (some (IntKind.u64.wrap (v47-v48))) fun v49 =>
 b8 ((bif decide (v7<0)then none else some (v49.fdiv (2^(min v7.toNat IntKind.u64.bits))))) fun v50 =>
 some (v45,v50)))) (v35,v33)))) (v18,v20))))
noncomputable def M5:Int×Bool->Option ((Int×Bool)):=fun x =>
 bif x.2 then (
 b8 (some (decide (9223372036854775808<x.1))) fun v2 =>
 bif v2 then (
 some (0,false))else (
 b8 (some (IntKind.u64.wrap (0-x.1))) fun v3 =>
 b8 (some (IntKind.i64.wrap v3)) fun v4 =>
 some (v4,true)))else (
 b8 (some (decide (9223372036854775807<x.1))) fun v2 =>
 bif v2 then (
 some (0,false))else (
 b8 (some (IntKind.i64.wrap x.1)) fun v3 =>
 some (v3,true)))
noncomputable def bN0:Int×Int×Int->Option ((Int×Int)):=fun x =>
 b8 (some (decide (x.2.2=0))) fun v3 =>
 bif v3 then (
 some (0,21))else (
 b8 (some (decide (x.1<0))) fun v4 =>
 b8 (some (decide (x.2.1<0))) fun v5 =>
 b8 (some (!(v4==v5))) fun v6 =>
 b8 (some (decide (x.2.2<0))) fun v7 =>
 b8 (some (!(v6==v7))) fun v8 =>
 b8 (W5 x.1) fun v9 =>
 b8 (W5 x.2.1) fun v10 =>
 b8 (ap0 (v9,v10)) fun v11 =>
 b8 (W5 x.2.2) fun v13 =>
 b8 (some (decide (v13<=v11.1))) fun v14 =>
 bif v14 then (
 some (0,15))else (
 b8 (W5 x.2.2) fun v15 =>
 b8 (bB0 (v11.1,v11.2,v15)) fun v16 =>
 bif v8 then (
 b8 (some (!decide (v16.2=0))) fun v18 =>
 bif v18 then (
 b8 (some (decide (v16.1=18446744073709551615))) fun v19 =>
 bif v19 then (
 some (0,15))else (
 b8 (some (IntKind.u64.wrap (v16.1+1))) fun v20 =>
 b8 (M5 (v20,true)) fun v21 =>
 b8 (some (!(v21.2))) fun v23 =>
 bif v23 then (
 some (0,15))else (
 some (v21.1,0))))else (
 b8 (M5 (v16.1,true)) fun v19 =>
 b8 (some (!(v19.2))) fun v21 =>
 bif v21 then (
 some (0,15))else (
 some (v19.1,0))))else (
 b8 (M5 (v16.1,false)) fun v18 =>
 b8 (some (!(v18.2))) fun v20 =>
 bif v20 then (
 some (0,15))else (
 some (v18.1,0)))))
noncomputable def aE0:Int×Int->Option (Int):=fun x =>
 rounds (α:=Int×Int) (β:=Int) (fun k2 x2 =>
 b8 (some (!decide (x2.2=0))) fun v5 =>
 bif v5 then (
 b8 ((bif decide (x2.2=0)then none else some (x2.1.tmod x2.2))) fun v6 =>
 k2 (x2.2,v6))else (
 some x2.1)) (x.1,x.2)
noncomputable def hB0:Int×Int->Option (Int):=fun x =>
 b8 (W5 x.1) fun v2 =>
 b8 (W5 x.2) fun v3 =>
 b8 (aE0 (v2,v3)) fun v4 =>
 b8 (M5 (v4,false)) fun v5 =>
 some v5.1
noncomputable def Y2:(Int×Int)×(Int×Int)×(Int×Int)->Option ((Int×Int)):=fun x =>
 b8 (some ()) fun v6 =>
 b8 (L7 [(x.1.1,x.1.2),(x.2.1.1,x.2.1.2),(x.2.2.1,x.2.2.2)]) fun v6 =>
 b8 (some (!(v6))) fun v7 =>
 bif v7 then (
 some (0,0))else (
 b8 (J0 ((x.1.1,x.1.2),(x.2.1.1,x.2.1.2))) fun v8 =>
 b8 (some (IntKind.i64.wrap (x.2.1.1-x.1.1))) fun v9 =>
 b8 (some (IntKind.i64.wrap (x.2.2.1-x.1.1))) fun v10 =>
 b8 (some (IntKind.i64.wrap (v9*v10))) fun v11 =>
 b8 (some (IntKind.i64.wrap (x.2.1.2-x.1.2))) fun v12 =>
 b8 (some (IntKind.i64.wrap (x.2.2.2-x.1.2))) fun v13 =>
 b8 (some (IntKind.i64.wrap (v12*v13))) fun v14 =>
 b8 (some (IntKind.i64.wrap (v11+v14))) fun v15 =>
 b8 (some (decide (v15<=0))) fun v16 =>
 bif v16 then (
 b8 (J0 ((x.1.1,x.1.2),(x.2.2.1,x.2.2.2))) fun v17 =>
 some (v17,1))else (
 b8 (some (decide (v8<=v15))) fun v17 =>
 bif v17 then (
 b8 (J0 ((x.2.1.1,x.2.1.2),(x.2.2.1,x.2.2.2))) fun v18 =>
 some (v18,1))else (
 b8 (M3 ((x.1.1,x.1.2),(x.2.1.1,x.2.1.2),(x.2.2.1,x.2.2.2))) fun v18 =>
 b8 (bN0 (v18,v18,v8)) fun v19 =>
 b8 (some (IntKind.i64.wrap (v18*v18))) fun v21 =>
 b8 (some (IntKind.i64.wrap (v19.1*v8))) fun v22 =>
 b8 (some (IntKind.i64.wrap (v21-v22))) fun v23 =>
 b8 (hB0 (v23,v8)) fun v24 =>
 b8 (some (IntKind.u64.wrap v19.1)) fun v25 =>
 b8 ((bif decide (v24=0)then none else some (IntKind.i64.wrap (v8.tdiv v24)))) fun v26 =>
 b8 (some (IntKind.u64.wrap v26)) fun v27 =>
 b8 (ap0 (v25,v27)) fun v28 =>
 b8 ((bif decide (v24=0)then none else some (IntKind.i64.wrap (v23.tdiv v24)))) fun v30 =>
 b8 (some (IntKind.u64.wrap v30)) fun v31 =>
 b8 (bits_Add64 (v28.2,v31,0)) fun v32 =>
 b8 (some (IntKind.u64.wrap (v28.1+v32.2))) fun v34 =>
 b8 (some (decide (0<v34))) fun v35 =>
 bif v35 then (
 some (v19.1,1))else (
 b8 (some (decide (9223372036854775807<v32.1))) fun v36 =>
 bif v36 then (
 some (v19.1,1))else (
 b8 (some (IntKind.i64.wrap v32.1)) fun v37 =>
 b8 ((bif decide (v24=0)then none else some (IntKind.i64.wrap (v8.tdiv v24)))) fun v38 =>
 some (v37,v38))))))
noncomputable def cN0:Int×Int->Option (Int):=fun x =>
 b8 (some (decide (x.2=0))) fun v2 =>
 bif v2 then (
 some 21)else (
 b8 (some (decide (x.1=(-9223372036854775808)))) fun v3 =>
 bif v3 then (
 b8 (some (decide (x.2=(-1)))) fun v4 =>
 bif v4 then (
 some 15)else (
 some 0))else (
 some 0))
noncomputable def bL0:Int×Int->Option ((Int×Int)):=fun x =>
 b8 (cN0 (x.1,x.2)) fun v2 =>
 b8 (some (!decide (v2=0))) fun v3 =>
 bif v3 then (
 some (0,v2))else (
 b8 ((bif decide (x.2=0)then none else some (IntKind.i64.wrap (x.1.tdiv x.2)))) fun v4 =>
 b8 ((bif decide (x.2=0)then none else some (x.1.tmod x.2))) fun v5 =>
 b8 (some (!decide (v5=0))) fun v6 =>
 bif v6 then (
 b8 (some (decide (v5<0))) fun v7 =>
 b8 (some (decide (x.2<0))) fun v8 =>
 b8 (some (!(v7==v8))) fun v9 =>
 bif v9 then (
 b8 (some (IntKind.i64.wrap (v4-1))) fun v10 =>
 some (v10,0))else (
 some (v4,0)))else (
 some (v4,0)))
noncomputable def Q0:(List (Int×Int×Int)×List (Int×Int×Int×List (Int×Int)×Int×Int)×List (Int))×Int×(Int×Int)×Int->Option (Int):=fun x =>
 b8 (E9 ((x.1.1,x.1.2.1,x.1.2.2),x.2.1)) fun v7 =>
 rounds (α:=Int×Int) (β:=Int) (fun k9 x9 =>
 b8 (some ((v7.1).length:Int)) fun v12 =>
 b8 (some (decide (x9.1<v12))) fun v13 =>
 bif v13 then (
 b8 (some (IntKind.i64.wrap (x9.1-1))) fun v14 =>
 b8 (nth v7.1 v14) fun v15 =>
 b8 (nth v7.1 x9.1) fun v17 =>
 b8 (Y2 ((v15.1,v15.2),(v17.1,v17.2),(x.2.2.1.1,x.2.2.1.2))) fun v19 =>
 b8 (bL0 (v19.1,v19.2)) fun v21 =>
 b8 (some (decide (v21.2=0))) fun v23 =>
 bif v23 then (
 b8 (some (List.foldl mnI x9.2 [v21.1])) fun v24 =>
 b8 (some (IntKind.i64.wrap (x9.1+1))) fun v25 =>
 k9 (v25,v24))else (
 b8 (some (IntKind.i64.wrap (x9.1+1))) fun v24 =>
 k9 (v24,x9.2)))else (
 some x9.2)) (1,x.2.2.2)
noncomputable def O5:(Int×Int×Int×ByteArray×List (Int))×(Int×Int×Int×List (Int×Int)×Int×Int)->Option (Bool):=fun x =>
 b8 (A3 x.1.2.1) fun v11 =>
 b8 (some (decide (v11=2))) fun v12 =>
 bif v12 then (
 b8 (l8 (x.1.2.2.2.2,x.2.1)) fun v13 =>
 some v13)else (
 b8 (some (decide (v11=3))) fun v13 =>
 bif v13 then (
 b8 (l8 (x.1.2.2.2.2,x.2.2.2.2.2.1)) fun v14 =>
 b8 (l8 (x.1.2.2.2.2,x.2.2.2.2.2.2)) fun v15 =>
 b8 (some (!(v14==v15))) fun v16 =>
 some v16)else (
 some false))
noncomputable def o8:List (Int×Int×Int×ByteArray×List (Int))×((Int×Int×Int×List (Int×Int)×Int×Int))->Option (Bool):=fun x =>
 b8 (some ((x.1).length:Int)) fun v7 =>
 rounds (α:=Int) (β:=Bool) (fun k8 x8 =>
 b8 (some (decide (x8<v7))) fun v10 =>
 bif v10 then (
 b8 (nth x.1 x8) fun v11 =>
 b8 (O5 ((v11.1,v11.2.1,v11.2.2.1,v11.2.2.2.1,v11.2.2.2.2),(x.2.1,x.2.2.1,x.2.2.2.1,x.2.2.2.2.1,x.2.2.2.2.2.1,x.2.2.2.2.2.2))) fun v16 =>
 bif v16 then (
 b8 (some (decide (0<=x8))) fun v17 =>
 some v17)else (
 b8 (some (IntKind.i64.wrap (x8+1))) fun v17 =>
 k8 v17))else (
 some false)) 0
noncomputable def N3:(List (Int×Int×Int)×List (Int×Int×Int×List (Int×Int)×Int×Int)×List (Int)×List (Int×Int×Int×ByteArray×List (Int)))->Option (List (Int)):=fun x =>
 b8 (some ((x.2.1).length:Int)) fun v4 =>
 rounds (α:=Int×List (Int)) (β:=List (Int)) (fun k5 x5 =>
 b8 (some (decide (x5.1<v4))) fun v8 =>
 bif v8 then (
 b8 (nth x.2.1 x5.1) fun v9 =>
 b8 (some ()) fun v15 =>
 b8 (o8 (x.2.2.2,(v9.1,v9.2.1,v9.2.2.1,v9.2.2.2.1,v9.2.2.2.2.1,v9.2.2.2.2.2))) fun v15 =>
 b8 (some (!(v15))) fun v16 =>
 bif v16 then (
 b8 (Q5 8 x5.2 [v9.1]) fun v17 =>
 b8 (some (IntKind.i64.wrap (x5.1+1))) fun v18 =>
 k5 (v18,v17))else (
 b8 (some (IntKind.i64.wrap (x5.1+1))) fun v17 =>
 k5 (v17,x5.2)))else (
 some x5.2)) (0,([]:List (Int)))
noncomputable def G8:(List (Int×Int×Int)×List (Int×Int×Int×List (Int×Int)×Int×Int)×List (Int)×List (Int×Int×Int×ByteArray×List (Int)))->Option (List (Int)):=fun x =>
 b8 (H9 (x.1,x.2.1,x.2.2.1,x.2.2.2)) fun v4 =>
 b8 (some (!decide (v4=0))) fun v5 =>
 bif v5 then (
 some ([]:List (Int)))else (
 b8 (N3 (x.1,x.2.1,x.2.2.1,x.2.2.2)) fun v6 =>
 some v6)
noncomputable def J6:List (Int)->Option (Int):=fun x =>
 b8 (some ((x).length:Int)) fun v1 =>
 rounds (α:=Int) (β:=Int) (fun k2 x2 =>
 b8 (some (decide (x2<v1))) fun v4 =>
 bif v4 then (
 b8 (nth x x2) fun v5 =>
 b8 (some (!decide (v5=0))) fun v6 =>
 bif v6 then (
 some v5)else (
 b8 (some (IntKind.i64.wrap (x2+1))) fun v7 =>
 k2 v7))else (
 some 0)) 0
noncomputable def F1:(Int×Int×Int×Int)×(Int×Int×Int×Int)->Option (Int):=fun x =>
 b8 (y0 (x.1.1,x.2.1)) fun v8 =>
 b8 (y0 (x.1.2.1,x.2.2.1)) fun v9 =>
 b8 (y0 (x.1.2.2.1,x.2.2.2.1)) fun v10 =>
 b8 (some ()) fun v11 =>
 b8 (J6 [v8,v9,v10]) fun v11 =>
 some v11
noncomputable def slices_SortFunc_api_Violation_rules_Violations_2:List (Int×Int×Int×Int)×Int×(Unit)->Option (List (Int×Int×Int×Int)):=fun x=>bif decide (x.2.1=4)then du0 (fun a b=>F1 (a,b)) x.1 else none
noncomputable def A7:(List (Int×Int×Int)×List (Int×Int×Int×List (Int×Int)×Int×Int)×List (Int)×List (Int×Int×Int×ByteArray×List (Int)))×(Int×Int×Int×Int×Int×Int)->Option ((List (Int×Int×Int×Int)×Int)):=fun x =>
 b8 (D6 (x.2.1,x.2.2.1,x.2.2.2.1,x.2.2.2.2.1,x.2.2.2.2.2.1,x.2.2.2.2.2.2)) fun v10 =>
 b8 (some (!decide (v10=0))) fun v11 =>
 bif v11 then (
 some (([]:List (Int×Int×Int×Int)),v10))else (
 b8 (H9 (x.1.1,x.1.2.1,x.1.2.2.1,x.1.2.2.2)) fun v12 =>
 b8 (some (!decide (v12=0))) fun v13 =>
 bif v13 then (
 some (([]:List (Int×Int×Int×Int)),v12))else (
 b8 (some ((x.1.2.2.2).length:Int)) fun v14 =>
 rounds (α:=Int×List (Int×Int×Int×Int)) (β:=(List (Int×Int×Int×Int)×Int)) (fun k15 x15 =>
 b8 (some (decide (x15.1<v14))) fun v18 =>
 bif v18 then (
 b8 (nth x.1.2.2.2 x15.1) fun v19 =>
 b8 (A3 v19.2.1) fun v24 =>
 b8 (some (!decide (v24=3))) fun v25 =>
 bif v25 then (
 b8 (some (IntKind.i64.wrap (x15.1+1))) fun v26 =>
 k15 (v26,x15.2))else (
 b8 (R5 ((x.1.1,x.1.2.1,x.1.2.2.1,x.1.2.2.2),v19.1)) fun v26 =>
 b8 (some (decide (v26<x.2.2.2.1))) fun v27 =>
 bif v27 then (
 b8 (some (IntKind.i64.wrap (x.2.2.2.1-v26))) fun v28 =>
 b8 (Q5 32 x15.2 [(1,v19.1,0,v28)]) fun v29 =>
 b8 (some (IntKind.i64.wrap (x15.1+1))) fun v30 =>
 k15 (v30,v29))else (
 b8 (some (IntKind.i64.wrap (x15.1+1))) fun v28 =>
 k15 (v28,x15.2))))else (
 b8 (some ((x.1.2.1).length:Int)) fun v19 =>
 rounds (α:=Int×List (Int×Int×Int×Int)) (β:=(List (Int×Int×Int×Int)×Int)) (fun k20 x20 =>
 b8 (some (decide (x20.1<v19))) fun v23 =>
 bif v23 then (
 b8 (nth x.1.2.1 x20.1) fun v24 =>
 b8 (E9 ((x.1.1,x.1.2.1,x.1.2.2.1),v24.1)) fun v30 =>
 b8 (some (!decide (v30.2=0))) fun v32 =>
 bif v32 then (
 b8 (some (IntKind.i64.wrap (x20.1+1))) fun v33 =>
 k20 (v33,x20.2))else (
 b8 (some ((v24.2.2.2.1).length:Int)) fun v33 =>
 rounds (α:=Int×Int) (β:=(List (Int×Int×Int×Int)×Int)) (fun k34 x34 =>
 b8 (some (decide (x34.1<v33))) fun v37 =>
 bif v37 then (
 b8 (nth v30.1 x34.1) fun v38 =>
 b8 (some (IntKind.i64.wrap (x34.1+1))) fun v40 =>
 b8 (nth v30.1 v40) fun v41 =>
 b8 (some (IntKind.i64.wrap (x34.1+2))) fun v43 =>
 b8 (nth v30.1 v43) fun v44 =>
 b8 (V3 ((v38.1,v38.2),(v41.1,v41.2),(v44.1,v44.2))) fun v46 =>
 b8 (some (IntKind.i64.wrap (0-v46))) fun v47 =>
 b8 (some (List.foldl mxI v46 [v47])) fun v48 =>
 b8 (some (decide (v48<x34.2))) fun v49 =>
 bif v49 then (
 b8 (I3 ((x.1.1,x.1.2.1,x.1.2.2.1),v24.1,x34.1)) fun v50 =>
 bif v50 then (
 b8 (some (IntKind.i64.wrap (x34.1+1))) fun v51 =>
 k34 (v51,v48))else (
 b8 (some (IntKind.i64.wrap (x34.1+1))) fun v51 =>
 k34 (v51,x34.2)))else (
 b8 (some (IntKind.i64.wrap (x34.1+1))) fun v50 =>
 k34 (v50,x34.2)))else (
 b8 (some (decide (x34.2<x.2.2.2.2.1))) fun v38 =>
 bif v38 then (
 b8 (some (IntKind.i64.wrap (x.2.2.2.2.1-x34.2))) fun v39 =>
 b8 (Q5 32 x20.2 [(2,v24.1,0,v39)]) fun v40 =>
 b8 (some (IntKind.i64.wrap (x20.1+1))) fun v41 =>
 k20 (v41,v40))else (
 b8 (some (IntKind.i64.wrap (x20.1+1))) fun v39 =>
 k20 (v39,x20.2)))) (0,x.2.2.2.2.1)))else (
 b8 (some (IntKind.i64.wrap (x.2.2.2.2.2.1*x.2.2.2.2.2.1))) fun v24 =>
 b8 (some ((x.1.1).length:Int)) fun v25 =>
 rounds (α:=Int×List (Int×Int×Int)) (β:=(List (Int×Int×Int×Int)×Int)) (fun k26 x26 =>
 b8 (some (decide (x26.1<v25))) fun v29 =>
 bif v29 then (
 b8 (nth x.1.1 x26.1) fun v30 =>
 b8 (R1 ((x.1.1,x.1.2.1,x.1.2.2.1),v30.1)) fun v33 =>
 b8 (some (decide (v33=0))) fun v34 =>
 bif v34 then (
 b8 (Q5 24 x26.2 [(v30.1,v30.2.1,v30.2.2)]) fun v35 =>
 b8 (some (IntKind.i64.wrap (x26.1+1))) fun v36 =>
 k26 (v36,v35))else (
 b8 (some (IntKind.i64.wrap (x26.1+1))) fun v35 =>
 k26 (v35,x26.2)))else (
 b8 (some ((x.1.2.2.2).length:Int)) fun v30 =>
 rounds (α:=Int×List (Int×Int×Int×Int)) (β:=(List (Int×Int×Int×Int)×Int)) (fun k31 x31 =>
 b8 (some (decide (x31.1<v30))) fun v34 =>
 bif v34 then (
 b8 (nth x.1.2.2.2 x31.1) fun v35 =>
 b8 (A3 v35.2.1) fun v40 =>
 b8 (some (!decide (v40=1))) fun v41 =>
 bif v41 then (
 b8 (some (IntKind.i64.wrap (x31.1+1))) fun v42 =>
 k31 (v42,x31.2))else (
 b8 (nth v35.2.2.2.2 0) fun v42 =>
 b8 (R1 ((x.1.1,x.1.2.1,x.1.2.2.1),v42)) fun v43 =>
 b8 (some (decide (0<v43))) fun v44 =>
 bif v44 then (
 b8 (some (IntKind.i64.wrap (x31.1+1))) fun v45 =>
 k31 (v45,x31.2))else (
 b8 (nth v35.2.2.2.2 0) fun v45 =>
 b8 (N7 ((x.1.1,x.1.2.1,x.1.2.2.1),v45)) fun v46 =>
 b8 (some ((x.1.2.1).length:Int)) fun v50 =>
 rounds (α:=Int×List (Int×Int×Int×Int)) (β:=(List (Int×Int×Int×Int)×Int)) (fun k51 x51 =>
 b8 (some (decide (x51.1<v50))) fun v54 =>
 bif v54 then (
 b8 (nth x.1.2.1 x51.1) fun v55 =>
 b8 (Q0 ((x.1.1,x.1.2.1,x.1.2.2.1),v55.1,(v46.1.2.1,v46.1.2.2),v24)) fun v61 =>
 b8 (some (decide (v61<v24))) fun v62 =>
 bif v62 then (
 b8 (some (IntKind.i64.wrap (v24-v61))) fun v63 =>
 b8 (Q5 32 x51.2 [(3,v35.1,v55.1,v63)]) fun v64 =>
 b8 (some (IntKind.i64.wrap (x51.1+1))) fun v65 =>
 k51 (v65,v64))else (
 b8 (some (IntKind.i64.wrap (x51.1+1))) fun v63 =>
 k51 (v63,x51.2)))else (
 b8 (some ((x26.2).length:Int)) fun v55 =>
 rounds (α:=Int×List (Int×Int×Int×Int)) (β:=(List (Int×Int×Int×Int)×Int)) (fun k56 x56 =>
 b8 (some (decide (x56.1<v55))) fun v59 =>
 bif v59 then (
 b8 ((bif decide (0<=x56.1)&&decide (x56.1<(x26.2).length)then some ()else none)) fun v60 =>
 b8 (((x26.2)[(x56.1).toNat]?).map (fun x=>(x.1,x.2.1,x.2.2))) fun v60 =>
 b8 (some (IntKind.i64.wrap (v60.2.1-v46.1.2.1))) fun v63 =>
 b8 (some (IntKind.i64.wrap (v60.2.2-v46.1.2.2))) fun v64 =>
 b8 (some (IntKind.i64.wrap (v63*v63))) fun v65 =>
 b8 (some (IntKind.i64.wrap (v64*v64))) fun v66 =>
 b8 (some (IntKind.i64.wrap (v65+v66))) fun v67 =>
 b8 (some (!decide (v60.1=v46.1.1))) fun v68 =>
 bif v68 then (
 b8 (some (decide (v67<v24))) fun v69 =>
 bif v69 then (
 b8 (some (IntKind.i64.wrap (0-v60.1))) fun v70 =>
 b8 (some (IntKind.i64.wrap (v24-v67))) fun v71 =>
 b8 (Q5 32 x56.2 [(3,v35.1,v70,v71)]) fun v72 =>
 b8 (some (IntKind.i64.wrap (x56.1+1))) fun v73 =>
 k56 (v73,v72))else (
 b8 (some (IntKind.i64.wrap (x56.1+1))) fun v70 =>
 k56 (v70,x56.2)))else (
 b8 (some (IntKind.i64.wrap (x56.1+1))) fun v69 =>
 k56 (v69,x56.2)))else (
 b8 (some (IntKind.i64.wrap (x31.1+1))) fun v60 =>
 k31 (v60,x56.2))) (0,x51.2))) (0,x31.2))))else (
 b8 (some ((x.1.2.2.2).length:Int)) fun v35 =>
 rounds (α:=Int×Int) (β:=(List (Int×Int×Int×Int)×Int)) (fun k36 x36 =>
 b8 (some (decide (x36.1<v35))) fun v39 =>
 bif v39 then (
 b8 (nth x.1.2.2.2 x36.1) fun v40 =>
 b8 (some (decide (x.2.2.1<v40.2.2.1))) fun v45 =>
 bif v45 then (
 b8 (some (IntKind.i64.wrap (x36.2+1))) fun v46 =>
 b8 (some (IntKind.i64.wrap (x36.1+1))) fun v47 =>
 k36 (v47,v46))else (
 b8 (some (IntKind.i64.wrap (x36.1+1))) fun v46 =>
 k36 (v46,x36.2)))else (
 b8 (some ((x.1.2.2.2).length:Int)) fun v40 =>
 b8 (some (IntKind.i64.wrap (v40-x36.2))) fun v41 =>
 b8 (some (IntKind.i64.wrap (v41-x.2.2.2.2.2.2))) fun v42 =>
 b8 (some (List.foldl mxI v42 [0])) fun v43 =>
 b8 (some (IntKind.i64.wrap (x36.2+v43))) fun v44 =>
 b8 (some (decide (0<v44))) fun v45 =>
 bif v45 then (
 b8 (some (IntKind.i64.wrap (v44*257))) fun v46 =>
 b8 (Q5 32 x31.2 [(4,0,0,v46)]) fun v47 =>
 b8 (G8 (x.1.1,x.1.2.1,x.1.2.2.1,x.1.2.2.2)) fun v48 =>
 b8 (some ((v48).length:Int)) fun v49 =>
 rounds (α:=Int×List (Int×Int×Int×Int)) (β:=(List (Int×Int×Int×Int)×Int)) (fun k50 x50 =>
 b8 (some (decide (x50.1<v49))) fun v53 =>
 bif v53 then (
 b8 (nth v48 x50.1) fun v54 =>
 b8 (Q5 32 x50.2 [(5,v54,0,1)]) fun v55 =>
 b8 (some (IntKind.i64.wrap (x50.1+1))) fun v56 =>
 k50 (v56,v55))else (
 b8 (some ()) fun v54 =>
 b8 (slices_SortFunc_api_Violation_rules_Violations_2 (x50.2,4,())) fun v54 =>
 some (v54,0))) (0,v47))else (
 b8 (G8 (x.1.1,x.1.2.1,x.1.2.2.1,x.1.2.2.2)) fun v46 =>
 b8 (some ((v46).length:Int)) fun v47 =>
 rounds (α:=Int×List (Int×Int×Int×Int)) (β:=(List (Int×Int×Int×Int)×Int)) (fun k48 x48 =>
 b8 (some (decide (x48.1<v47))) fun v51 =>
 bif v51 then (
 b8 (nth v46 x48.1) fun v52 =>
 b8 (Q5 32 x48.2 [(5,v52,0,1)]) fun v53 =>
 b8 (some (IntKind.i64.wrap (x48.1+1))) fun v54 =>
 k48 (v54,v53))else (
 b8 (some ()) fun v52 =>
 b8 (slices_SortFunc_api_Violation_rules_Violations_2 (x48.2,4,())) fun v52 =>
 some (v52,0))) (0,x31.2)))) (0,0))) (0,x20.2))) (0,([]:List (Int×Int×Int))))) (0,x15.2))) (0,([]:List (Int×Int×Int×Int)))))
noncomputable def aM0:List (Int×Int×Int×Int)×List (Int×Int×Int×Int)->Option (Bool):=fun x =>
 b8 (some ((x.1).length:Int)) fun v2 =>
 b8 (some ((x.2).length:Int)) fun v3 =>
 b8 (some (!decide (v2=v3))) fun v4 =>
 bif v4 then (
 some false)else (
 rounds (α:=Int) (β:=Bool) (fun k5 x5 =>
 b8 (some ((x.1).length:Int)) fun v7 =>
 b8 (some (decide (x5<v7))) fun v8 =>
 bif v8 then (
 b8 (nth x.1 x5) fun v9 =>
 b8 (nth x.2 x5) fun v13 =>
 b8 (some (!((fun (a b:Int×Int×Int×Int)=>(decide (a.1=b.1)&&(decide (a.2.1=b.2.1)&&(decide (a.2.2.1=b.2.2.1)&&decide (a.2.2.2=b.2.2.2))))) (v9.1,v9.2.1,v9.2.2.1,v9.2.2.2) (v13.1,v13.2.1,v13.2.2.1,v13.2.2.2)))) fun v17 =>
 bif v17 then (
 some false)else (
 b8 (some (IntKind.i64.wrap (x5+1))) fun v18 =>
 k5 v18))else (
 some true)) 0)
noncomputable def K9:List (Int×Int×Int×Int)->Option (Int):=fun x =>
 b8 (some ((x).length:Int)) fun v1 =>
 rounds (α:=Int×Int) (β:=Int) (fun k2 x2 =>
 b8 (some (decide (x2.2<v1))) fun v5 =>
 bif v5 then (
 b8 (nth x x2.2) fun v6 =>
 b8 (some (List.foldl mxI v6.2.2.2 [0])) fun v10 =>
 b8 (some (IntKind.i64.wrap (4611686018427387904-x2.1))) fun v11 =>
 b8 (some (decide (v11<v10))) fun v12 =>
 bif v12 then (
 some 4611686018427387904)else (
 b8 (some (IntKind.i64.wrap (x2.1+v10))) fun v13 =>
 b8 (some (IntKind.i64.wrap (x2.2+1))) fun v14 =>
 k2 (v13,v14)))else (
 some x2.1)) (0,0)
noncomputable def hV0:List (Int×Int×Int×Int)×List (Int×Int×Int×Int)->Option (Bool):=fun x =>
 b8 (K9 x.2) fun v2 =>
 b8 (K9 x.1) fun v3 =>
 b8 (some (decide (v3<v2))) fun v4 =>
 some v4
noncomputable def C6:(List (Int×Int×Int)×List (Int×Int×Int×List (Int×Int)×Int×Int)×List (Int)×List (Int×Int×Int×ByteArray×List (Int)))×(Int×Int×Int×Int×Int×Int)->Option (Bool):=fun x =>
 b8 (C4 (x.1.1,x.1.2.1,x.1.2.2.1,x.1.2.2.2)) fun v10 =>
 b8 (some (!(v10))) fun v11 =>
 bif v11 then (
 b8 (mapsheetslaw36_awake ()) fun v12 =>
 some v12)else (
 b8 (A7 ((x.1.1,x.1.2.1,x.1.2.2.1,x.1.2.2.2),(x.2.1,x.2.2.1,x.2.2.2.1,x.2.2.2.2.1,x.2.2.2.2.2.1,x.2.2.2.2.2.2))) fun v12 =>
 b8 (some (!decide (v12.2=0))) fun v14 =>
 bif v14 then (
 b8 (mapsheetslaw36_awake ()) fun v15 =>
 bif v15 then (
 b8 (some ((v12.1).length:Int)) fun v16 =>
 b8 (some (decide (v16=0))) fun v17 =>
 bif v17 then (
 b8 (D6 (x.2.1,x.2.2.1,x.2.2.2.1,x.2.2.2.2.1,x.2.2.2.2.2.1,x.2.2.2.2.2.2)) fun v18 =>
 b8 (some (decide (v12.2=v18))) fun v19 =>
 bif v19 then (
 some true)else (
 b8 (H9 (x.1.1,x.1.2.1,x.1.2.2.1,x.1.2.2.2)) fun v20 =>
 b8 (some (decide (v12.2=v20))) fun v21 =>
 some v21))else (
 some false))else (
 some false))else (
 rounds (α:=Int) (β:=Bool) (fun k15 x15 =>
 b8 (some ((v12.1).length:Int)) fun v17 =>
 b8 (some (decide (x15<v17))) fun v18 =>
 bif v18 then (
 b8 (nth v12.1 x15) fun v19 =>
 b8 (some (decide (v19.2.2.2<1))) fun v23 =>
 bif v23 then (
 some false)else (
 b8 (nth v12.1 x15) fun v24 =>
 b8 (some (decide (v24.1<1))) fun v28 =>
 bif v28 then (
 some false)else (
 b8 (nth v12.1 x15) fun v29 =>
 b8 (some (decide (5<v29.1))) fun v33 =>
 bif v33 then (
 some false)else (
 b8 (some (decide (x15=0))) fun v34 =>
 bif v34 then (
 b8 (some (IntKind.i64.wrap (x15+1))) fun v35 =>
 k15 v35)else (
 b8 (some (IntKind.i64.wrap (x15-1))) fun v35 =>
 b8 (nth v12.1 v35) fun v36 =>
 b8 (nth v12.1 x15) fun v40 =>
 b8 (some (decide (v40.1<v36.1))) fun v44 =>
 bif v44 then (
 some false)else (
 b8 (some (decide (v36.1=v40.1))) fun v45 =>
 bif v45 then (
 b8 (some (decide (v40.2.1<v36.2.1))) fun v46 =>
 bif v46 then (
 some false)else (
 b8 (some (decide (v36.2.1=v40.2.1))) fun v47 =>
 bif v47 then (
 b8 (some (decide (v40.2.2.1<=v36.2.2.1))) fun v48 =>
 bif v48 then (
 some false)else (
 b8 (some (IntKind.i64.wrap (x15+1))) fun v49 =>
 k15 v49))else (
 b8 (some (IntKind.i64.wrap (x15+1))) fun v48 =>
 k15 v48)))else (
 b8 (some (IntKind.i64.wrap (x15+1))) fun v46 =>
 k15 v46)))))))else (
 b8 (mapsheetslaw36_awake ()) fun v19 =>
 some v19)) 0))
noncomputable def D3:(List (Int×Int×Int)×List (Int×Int×Int×List (Int×Int)×Int×Int)×List (Int)×List (Int×Int×Int×ByteArray×List (Int)))×(Int×Int×Int×Int×Int×Int)×Int×Int×Int×Int->Option (Bool):=fun x =>
 b8 (C4 (x.1.1,x.1.2.1,x.1.2.2.1,x.1.2.2.2)) fun v14 =>
 b8 (some (!(v14))) fun v15 =>
 bif v15 then (
 b8 (mapsheetslaw36_awake ()) fun v16 =>
 some v16)else (
 b8 (some (IntKind.i64.wrap x.2.2.1)) fun v16 =>
 b8 (some (IntKind.i64.wrap (x.2.1.2.2.1+v16))) fun v17 =>
 b8 (some (IntKind.i64.wrap x.2.2.2.1)) fun v18 =>
 b8 (some (IntKind.i64.wrap (x.2.1.2.2.2.1+v18))) fun v19 =>
 b8 (some (IntKind.i64.wrap x.2.2.2.2.1)) fun v20 =>
 b8 ((bif decide ((8:Int)=0)then none else some (v20.tmod 8))) fun v21 =>
 b8 (some (IntKind.i64.wrap (x.2.1.2.2.2.2.1+v21))) fun v22 =>
 b8 (some (IntKind.i64.wrap x.2.2.2.2.2)) fun v23 =>
 b8 ((bif decide ((8:Int)=0)then none else some (v23.tmod 8))) fun v24 =>
 b8 (some (IntKind.i64.wrap (x.2.1.2.2.2.2.2-v24))) fun v25 =>
 b8 (some (IntKind.i64.wrap x.2.2.2.2.2)) fun v26 =>
 b8 ((bif decide ((8:Int)=0)then none else some (IntKind.i64.wrap (v26.tdiv 8)))) fun v27 =>
 b8 ((bif decide ((3:Int)=0)then none else some (v27.tmod 3))) fun v28 =>
 b8 (some (IntKind.i64.wrap (x.2.1.2.1-v28))) fun v29 =>
 b8 (D6 (x.2.1.1,x.2.1.2.1,x.2.1.2.2.1,x.2.1.2.2.2.1,x.2.1.2.2.2.2.1,x.2.1.2.2.2.2.2)) fun v30 =>
 b8 (some (!decide (v30=0))) fun v31 =>
 bif v31 then (
 b8 (mapsheetslaw36_awake ()) fun v32 =>
 some v32)else (
 b8 (D6 (x.2.1.1,v29,v17,v19,v22,v25)) fun v32 =>
 b8 (some (!decide (v32=0))) fun v33 =>
 bif v33 then (
 b8 (mapsheetslaw36_awake ()) fun v34 =>
 some v34)else (
 b8 (A7 ((x.1.1,x.1.2.1,x.1.2.2.1,x.1.2.2.2),(x.2.1.1,x.2.1.2.1,x.2.1.2.2.1,x.2.1.2.2.2.1,x.2.1.2.2.2.2.1,x.2.1.2.2.2.2.2))) fun v34 =>
 b8 (A7 ((x.1.1,x.1.2.1,x.1.2.2.1,x.1.2.2.2),(x.2.1.1,v29,v17,v19,v22,v25))) fun v36 =>
 b8 (some (!decide (v34.2=v36.2))) fun v38 =>
 bif v38 then (
 some false)else (
 rounds (α:=Int) (β:=Bool) (fun k39 x39 =>
 b8 (some ((v34.1).length:Int)) fun v41 =>
 b8 (some (decide (x39<v41))) fun v42 =>
 bif v42 then (
 rounds (α:=Int×Bool) (β:=Bool) (fun k43 x43 =>
 b8 (some ((v36.1).length:Int)) fun v46 =>
 b8 (some (decide (x43.1<v46))) fun v47 =>
 bif v47 then (
 bif x43.2 then (
 b8 (some (IntKind.i64.wrap (x43.1+1))) fun v48 =>
 k43 (v48,true))else (
 b8 (nth v36.1 x43.1) fun v48 =>
 b8 (nth v34.1 x39) fun v52 =>
 b8 (some (decide (v48.1=v52.1))) fun v56 =>
 bif v56 then (
 b8 (nth v36.1 x43.1) fun v57 =>
 b8 (nth v34.1 x39) fun v61 =>
 b8 (some (decide (v57.2.1=v61.2.1))) fun v65 =>
 bif v65 then (
 b8 (nth v36.1 x43.1) fun v66 =>
 b8 (nth v34.1 x39) fun v70 =>
 b8 (some (decide (v66.2.2.1=v70.2.2.1))) fun v74 =>
 bif v74 then (
 b8 (nth v36.1 x43.1) fun v75 =>
 b8 (nth v34.1 x39) fun v79 =>
 b8 (some (decide (v79.2.2.2<=v75.2.2.2))) fun v83 =>
 b8 (some (IntKind.i64.wrap (x43.1+1))) fun v84 =>
 k43 (v84,v83))else (
 b8 (some (IntKind.i64.wrap (x43.1+1))) fun v75 =>
 k43 (v75,false)))else (
 b8 (some (IntKind.i64.wrap (x43.1+1))) fun v66 =>
 k43 (v66,false)))else (
 b8 (some (IntKind.i64.wrap (x43.1+1))) fun v57 =>
 k43 (v57,false))))else (
 b8 (some (!(x43.2))) fun v48 =>
 bif v48 then (
 some false)else (
 b8 (some (IntKind.i64.wrap (x39+1))) fun v49 =>
 k39 v49))) (0,false))else (
 b8 (mapsheetslaw36_awake ()) fun v43 =>
 bif v43 then (
 b8 (K9 v36.1) fun v44 =>
 b8 (K9 v34.1) fun v45 =>
 b8 (some (decide (v45<=v44))) fun v46 =>
 some v46)else (
 some false))) 0))))
noncomputable def Q9:List (Int)×List (Int)->Option (Bool):=fun x =>
 b8 (some ((x.1).length:Int)) fun v2 =>
 b8 (some ((x.2).length:Int)) fun v3 =>
 b8 (some (!decide (v2=v3))) fun v4 =>
 bif v4 then (
 some false)else (
 rounds (α:=Int) (β:=Bool) (fun k5 x5 =>
 b8 (some ((x.1).length:Int)) fun v7 =>
 b8 (some (decide (x5<v7))) fun v8 =>
 bif v8 then (
 b8 (nth x.1 x5) fun v9 =>
 b8 (nth x.2 x5) fun v10 =>
 b8 (some (!decide (v9=v10))) fun v11 =>
 bif v11 then (
 some false)else (
 b8 (some (IntKind.i64.wrap (x5+1))) fun v12 =>
 k5 v12))else (
 some true)) 0)
noncomputable def P7:(List (Int×Int×Int)×List (Int×Int×Int×List (Int×Int)×Int×Int)×List (Int)×List (Int×Int×Int×ByteArray×List (Int)))->Option (Bool):=fun x =>
 b8 (C4 (x.1,x.2.1,x.2.2.1,x.2.2.2)) fun v4 =>
 b8 (some (!(v4))) fun v5 =>
 bif v5 then (
 b8 (mapsheetslaw36_awake ()) fun v6 =>
 some v6)else (
 b8 (H9 (x.1,x.2.1,x.2.2.1,x.2.2.2)) fun v6 =>
 b8 (some (!decide (v6=0))) fun v7 =>
 bif v7 then (
 b8 (mapsheetslaw36_awake ()) fun v8 =>
 some v8)else (
 b8 (P0 ()) fun v8 =>
 b8 (A7 ((x.1,x.2.1,x.2.2.1,x.2.2.2),(v8.1,v8.2.1,v8.2.2.1,v8.2.2.2.1,v8.2.2.2.2.1,v8.2.2.2.2.2))) fun v14 =>
 rounds (α:=List (Int)×Int) (β:=Bool) (fun k16 x16 =>
 b8 (some ((v14.1).length:Int)) fun v19 =>
 b8 (some (decide (x16.2<v19))) fun v20 =>
 bif v20 then (
 b8 (nth v14.1 x16.2) fun v21 =>
 b8 (some (!decide (v21.1=5))) fun v25 =>
 bif v25 then (
 some false)else (
 b8 (nth v14.1 x16.2) fun v26 =>
 b8 (some (!decide (v26.2.2.1=0))) fun v30 =>
 bif v30 then (
 some false)else (
 b8 (nth v14.1 x16.2) fun v31 =>
 b8 (some (!decide (v31.2.2.2=1))) fun v35 =>
 bif v35 then (
 some false)else (
 b8 (nth v14.1 x16.2) fun v36 =>
 b8 (Q5 8 x16.1 [v36.2.1]) fun v40 =>
 b8 (some (IntKind.i64.wrap (x16.2+1))) fun v41 =>
 k16 (v40,v41)))))else (
 b8 (mapsheetslaw36_awake ()) fun v21 =>
 bif v21 then (
 b8 (some (decide (v14.2=0))) fun v22 =>
 bif v22 then (
 b8 (G8 (x.1,x.2.1,x.2.2.1,x.2.2.2)) fun v23 =>
 b8 (some ()) fun v24 =>
 b8 (Q9 (x16.1,v23)) fun v24 =>
 some v24)else (
 some false))else (
 some false))) (([]:List (Int)),0)))
end Go.Ab
namespace Go.Ab
open Go
@[simp] theorem b9 {α β:Type} (a:α) (f:α->Option β):b8 (some a) f=f a:=rfl
@[simp] theorem obind_none {α β:Type} (f:α->Option β):b8 none f=none:=rfl
theorem ey0:2^100<=many:=Classical.choose_spec (⟨2^100,Nat.le_refl _⟩:∃ n:Nat,2^100<=n)
theorem sZ0:1000000000<=many:=Nat.le_trans (by decide) ey0
theorem ll0{α β:Type}{F:(α->Option β)->α->Option β}(I:α->Prop)(μ:α->Nat)(g:α->Option β)(h:∀ rec x,I x->(∀ y,I y->μ y<μ x->rec y=g y)->F rec x=g x):∀ (n:Nat) (x:α),I x->μ x<n->iter F n x=g x
 | 0,x,_,hm=>absurd hm (Nat.not_lt_zero _)
 | n+1,x,hi,hm=>by
  show F (iter F n) x=g x
  exact h _ x hi fun y hy hlt=>ll0 I μ g h n y hy (by omega)
theorem hS0{α β:Type}{F:(α->Option β)->α->Option β}(I:α->Prop)(μ:α->Nat)(g:α->Option β)(h:∀ rec x,I x->(∀ y,I y->μ y<μ x->rec y=g y)->F rec x=g x){x:α}(hx:I x)(hm:μ x<2^100):rounds F x=g x :=
 ll0 I μ g h many x hx (Nat.lt_of_lt_of_le hm ey0)
theorem ff0{α β:Type}{F:(α->Option β)->α->Option β}{x:α}{v:Option β}(h:∀ rec,F rec x=v):rounds F x=v :=
 hS0 (fun y=>y=x) (fun _=>0) (fun _=>v) (fun rec y hy _=>by rw[hy];exact h rec) rfl (by omega)
theorem r9{S β α A:Type}(xs:List α){F:(S->Option β)->S->Option β}(st:Nat->A->S)(g:A->List α->Option β)(hl:xs.length<2^100)
  (hnil:∀ rec a,F rec (st xs.length a)=g a []) (hcons:∀ rec i a x rest,i<xs.length->xs.drop i=x::rest->(∀ a',rec (st (i+1) a')=g a' rest)->F rec (st i a)=g a (x::rest)) (a:A):rounds F (st 0 a)=g a xs:=by
 have key:∀ (k i n:Nat) (a:A),i<=xs.length->k=xs.length-i->k<n->iter F n (st i a)=g a (xs.drop i):=by
  intro k
  induction k with
  | zero =>
   intro i n a hi hk hn
   have:i=xs.length:=by omega
   subst this
   cases n with
   | zero=>omega
   | succ n=>rw[List.drop_length];exact hnil _ a
  | succ k ih =>
   intro i n a hi hk hn
   cases n with
   | zero=>omega
   | succ n =>
    have hlt:i<xs.length:=by omega
    have hd:xs.drop i=xs[i]::xs.drop (i+1):=List.drop_eq_getElem_cons hlt
    rw[hd]
    exact hcons _ i a xs[i] _ hlt hd fun a'=>ih (i+1) n a' (by omega) (by omega) (by omega)
 have:=key xs.length 0 many a (Nat.zero_le _) (by omega) (Nat.lt_of_lt_of_le hl ey0)
 rw[List.drop_zero]at this
 exact this
theorem p8{S β α A:Type}(xs:List α){F:(S->Option β)->S->Option β}(st:Nat->A->S)(g:A->List α->Option β)(I:Nat->A->Prop)(hl:xs.length<2^100)
  (hnil:∀ rec a,I xs.length a->F rec (st xs.length a)=g a []) (hcons:∀ rec i a x rest,i<xs.length->I i a->xs.drop i=x::rest->(∀ a',I (i+1) a'->rec (st (i+1) a')=g a' rest)->F rec (st i a)=g a (x::rest)) (a:A) (ha:I 0 a):rounds F (st 0 a)=g a xs:=by
 have key:∀ (k i n:Nat) (a:A),i<=xs.length->k=xs.length-i->k<n->I i a->iter F n (st i a)=g a (xs.drop i):=by
  intro k
  induction k with
  | zero =>
   intro i n a hi hk hn hI
   have:i=xs.length:=by omega
   subst this
   cases n with
   | zero=>omega
   | succ n=>rw[List.drop_length];exact hnil _ a hI
  | succ k ih =>
   intro i n a hi hk hn hI
   cases n with
   | zero=>omega
   | succ n =>
    have hlt:i<xs.length:=by omega
    have hd:xs.drop i=xs[i]::xs.drop (i+1):=List.drop_eq_getElem_cons hlt
    rw[hd]
    exact hcons _ i a xs[i] _ hlt hI hd fun a' ha'=>ih (i+1) n a' (by omega) (by omega) (by omega) ha'
 have:=key xs.length 0 many a (Nat.zero_le _) (by omega) (Nat.lt_of_lt_of_le hl ey0) ha
 rw[List.drop_zero]at this
 exact this
theorem C3{α:Type}(xs:List α)(i:Nat):nth xs (i:Int)=xs[i]?:=by
 unfold nth
 simp
theorem l9{α:Type}{xs:List α}{i:Nat}{x:α}{rest:List α}(h:xs.drop i=x::rest):nth xs (i:Int)=some x:=by
 rw[C3]
 have:=congrArg List.head? h
 simpa[List.head?_drop]using this
theorem mP0{α:Type}{xs:List α}{i:Int}(h0:0<=i):nth xs i=xs[i.toNat]?:=by
 unfold nth
 simp[h0]
theorem w64{n:Int}(h1:-9223372036854775808<=n)(h2:n<=9223372036854775807):IntKind.i64.wrap n=n:=IntWalk.i64_in n ⟨h1,h2⟩
theorem C7{α:Type}{b:Nat}{xs ys:List α}(hb:b<=1000)(h:xs.length+ys.length<=1000000000):Q5 b xs ys=some (xs++ys):=by
 unfold Q5
 have h1:(2*(xs.length+ys.length)+1000)*b<=2^48:=by
  have:(2*(xs.length+ys.length)+1000)*b<=(2*1000000000+1000)*1000:=Nat.mul_le_mul (by omega) hb
  omega
 have h2:xs.length+ys.length<=2^62:=by omega
 simp[h1,h2]
theorem ra0{α:Type}{xs:List α}{i:Nat}(h:i<=xs.length):td0 xs none (some (i:Int))=some (xs.take i):=by
 unfold td0 bndI
 simp[h]
theorem rl0{α:Type}{xs:List α}{i:Int}(h0:0<=i)(h:i<=xs.length):td0 xs (some i) none=some (xs.drop i.toNat):=by
 unfold td0 bndI
 simp[h0,h]
end Go.Ab
namespace Go.Ab
open Go Go.Sort Go.Proofs Go.Shelf
theorem W0{α:Type}{r:α}{l:List α}(i:Nat):atT r (r::l) i∈r::l:=by
 unfold atT
 cases hi:(r::l)[i]? with
 | some x=>exact List.mem_of_getElem? hi
 | none=>simp
theorem bw0{α:Type}(cf:α->α->Int)(r:α)(l:List α):Z0 cf (r::l)=((pdq (ltOf (fun i j=>cf (atT r (r::l) i) (atT r (r::l) j))) (Array.range (r::l).length) 0 (r::l).length (Lib.bitLen (r::l).length) true true).toList).map (atT r (r::l)):=rfl
theorem ld0{α:Type}(cf:α->α->Int)(r:α)(l:List α):Ordered cf (r::l)=SWO (ltOf (fun i j=>cf (atT r (r::l) i) (atT r (r::l) j))):=rfl
theorem om0{α:Type}{cf:α->α->Int}{r:α}{l:List α}(hO:Ordered cf (r::l)) :
  PermIn 0 (r::l).length (Array.range (r::l).length) (pdq (ltOf (fun i j=>cf (atT r (r::l) i) (atT r (r::l) j))) (Array.range (r::l).length) 0 (r::l).length (Lib.bitLen (r::l).length) true true)/\SortedIn (ltOf (fun i j=>cf (atT r (r::l) i) (atT r (r::l) j))) 0 (r::l).length (pdq (ltOf (fun i j=>cf (atT r (r::l) i) (atT r (r::l) j))) (Array.range (r::l).length) 0 (r::l).length (Lib.bitLen (r::l).length) true true) :=
 pdq_sorts _ hO (Array.range (r::l).length) 0 (r::l).length (Lib.bitLen (r::l).length) true true (Nat.zero_le _) (by simp) (Or.inl rfl)
theorem S5{α:Type}{cf:α->α->Int}:∀ {xs:List α},Ordered cf xs->(Z0 cf xs).Perm xs
 | [],_=>List.Perm.refl _
 | r::l,hO=>by
  obtain⟨⟨h1,_,h3⟩,_⟩:=om0 hO
  rw[bw0]
  generalize hes:r::l=es at *
  generalize pdq (α:=Nat) _ _ _ _ _ _ _=d at *
  have e1:d.extract 0 es.length=d:=by
   have:d.size=es.length:=by simpa using h1
   rw[<- this];simp
  have e2:(Array.range es.length).extract 0 es.length=Array.range es.length:=by
   have:(Array.range es.length).size=es.length:=by simp
   conv=>lhs;rw[<- this]
   simp
  rw[e1,e2]at h3
  refine(h3.map (atT r es)).trans ?_
  have:(Array.range es.length).toList.map (atT r es)=es:=by
   apply List.ext_getElem?
   intro k
   rw[List.getElem?_map]
   by_cases hk:k<es.length
   ·have hk2:(Array.range es.length).toList[k]?=some k:=by simp[hk]
    rw[hk2]
    simp[atT,hk]
   ·have hk2:(Array.range es.length).toList[k]?=none:=by simp;omega
    rw[hk2,List.getElem?_eq_none (by omega)];rfl
  rw[this]
theorem kD0{α:Type}{cf:α->α->Int}:∀ {xs:List α},Ordered cf xs->(Z0 cf xs).Pairwise (fun a b=>¬ cf b a<0)
 | [],_=>List.Pairwise.nil
 | r::l,hO=>by
  obtain⟨⟨h1,_,_⟩,hs⟩:=om0 hO
  rw[bw0]
  generalize hes:r::l=es at *
  generalize pdq (α:=Nat) _ _ _ _ _ _ _=d at *
  rw[List.pairwise_map]
  rw[List.pairwise_iff_getElem]
  intro i j hi hj hij
  have hsz:d.size=es.length:=by simpa using h1
  have hi':i<d.size:=by simpa using hi
  have hj':j<d.size:=by simpa using hj
  have:=hs i j (Nat.zero_le _) hij (by omega)
  simp only[ltOf,decide_eq_false_iff_not]at this
  simpa[hi',hj']using this
theorem fh0{α:Type}{cf:α->α->Int}:∀ {xs:List α},(∀ x∈xs,¬ cf x x<0)->(∀ x∈xs,∀ y∈xs,∀ z∈xs,cf x y<0->cf y z<0->cf x z<0)->(∀ x∈xs,∀ y∈xs,∀ z∈xs,¬ cf x y<0->¬ cf y z<0->¬ cf x z<0)->Ordered cf xs
 | [],_,_,_=>trivial
 | r::l,h1,h2,h3=>by
  refine⟨fun i=>?_,fun i j k a b=>?_,fun i j k a b=>?_⟩
  ·simp only[ltOf,decide_eq_false_iff_not];exact h1 _ (W0 i)
  ·simp only[ltOf,decide_eq_true_eq]at a b ⊢;exact h2 _ (W0 i) _ (W0 j) _ (W0 k) a b
  ·simp only[ltOf,decide_eq_false_iff_not]at a b ⊢;exact h3 _ (W0 i) _ (W0 j) _ (W0 k) a b
theorem kk0{α:Type}{cmp:α->α->Option Int}{cf:α->α->Int}{xs:List α}(hc:∀ x∈xs,∀ y∈xs,cmp x y=some (cf x y))(hO:Ordered cf xs)(hl:xs.length<4611686018427387904):du0 cmp xs=some (Z0 cf xs):=by
 have hcf:∀ x∈xs,∀ y∈xs,(cmp x y).getD 0=cf x y:=fun x hx y hy=>by rw[hc x hx y hy];rfl
 have hfun:∀ (r:α) (l:List α),xs=r::l->(fun i j=>(cmp (atT r (r::l) i) (atT r (r::l) j)).getD 0)=(fun i j=>cf (atT r (r::l) i) (atT r (r::l) j)):=fun r l e=>by
  funext i j
  exact hcf _ (by rw[e];exact W0 i) _ (by rw[e];exact W0 j)
 have hO2:Ordered (fun x y=>(cmp x y).getD 0) xs:=by
  cases xs with
  | nil=>trivial
  | cons r l =>
   have:=hfun r l rfl
   rw[ld0]at hO ⊢
   simp only[this];exact hO
 unfold du0
 rw[if_pos ⟨fun x hx y hy=>by rw[hc x hx y hy];rfl,hO2,hl⟩]
 cases xs with
 | nil=>rfl
 | cons r l =>
  have:=hfun r l rfl
  rw[bw0,bw0]
  simp only[this]
end Go.Ab
namespace Go.Ab
open Go Go.Sort Go.Proofs Go.Shelf
variable [B6]
theorem nS0{α:Type}{b:Nat}{xs r:List α}(h:Q5 b [] xs=some r):r=xs/\(2*xs.length+1000)*b<=2^48/\xs.length<=2^62:=by
 unfold Q5 at h
 simp only[List.length_nil,Nat.zero_add,List.nil_append]at h
 by_cases c1:(2*xs.length+1000)*b<=2^48
 ·by_cases c2:xs.length<=2^62
  ·simp[c1,c2]at h
   exact⟨h.symm,c1,c2⟩
  ·simp[c2]at h
 ·simp[c1]at h
theorem rW0(k:Nat)(v:Value):AV.pure (k+1) (.sc v)=true:=rfl
theorem nk0 {P:Program} {T:Tab} (hT:C0 P T) {f:FuncId} {fn:Func} {t elem:TypeId} (hf:P.funcs[f]?=some fn) (hname:(fn.name== "runtime.NumGoroutine")=false) (hfn:la0 fn t=true)
  (h1:(T t).map TI.und=some (.slice elem)) (h2:(T elem).map TI.size=some 1) (h3:(T elem).map TI.bytes=some 8) {x r:List Int} (h:Q5 8 [] x=some r) :
  E0 P ⟨f,y9 (.one (.sl (.one (.int .i64)))) x,enc (.sl (.one (.int .i64))) r⟩:=by
 obtain⟨rfl,b1,b2⟩:=nS0 h
 refine jj0 hT hf hname hfn h1 h2 h3 (es:=r.map (y9 (.one (.int .i64)))) ?_ ?_ (by simpa using b1) (by simpa using b2) (by decide)
 ·intro c hc d hd
  obtain⟨v,_,rfl⟩:=List.mem_map.1 hc
  simp only[y9,enc,List.mem_singleton]at hd
  rw[hd]
  exact rW0 98 _
 ·rw[List.all_eq_true]
  intro c hc
  obtain⟨v,_,rfl⟩:=List.mem_map.1 hc
  rfl
theorem mz0 {P:Program} {T:Tab} (hT:C0 P T) {f:FuncId} {fn:Func} {t elem:TypeId} (hf:P.funcs[f]?=some fn) (hname:(fn.name== "runtime.NumGoroutine")=false) (hfn:la0 fn t=true)
  (h1:(T t).map TI.und=some (.slice elem)) (h2:(T elem).map TI.size=some 2) (h3:(T elem).map TI.bytes=some 16) {x r:List (Int×Int)} (h:Q5 16 [] x=some r) :
  E0 P ⟨f,y9 (.one (.sl (.cons (.int .i64) (.one (.int .i64))))) x,enc (.sl (.cons (.int .i64) (.one (.int .i64)))) r⟩:=by
 obtain⟨rfl,b1,b2⟩:=nS0 h
 refine jj0 hT hf hname hfn h1 h2 h3 (es:=r.map (y9 (.cons (.int .i64) (.one (.int .i64))))) ?_ ?_ (by simpa using b1) (by simpa using b2) (by decide)
 ·intro c hc d hd
  obtain⟨v,_,rfl⟩:=List.mem_map.1 hc
  simp only[y9,enc,List.mem_cons,List.not_mem_nil,or_false]at hd
  rcases hd with rfl | rfl<;>exact rW0 98 _
 ·rw[List.all_eq_true]
  intro c hc
  obtain⟨v,_,rfl⟩:=List.mem_map.1 hc
  rfl
theorem pr0{P:Program}{f:FuncId}(hrun:∀ args w,(callFunc f args).run P w=((add64Entry args).run P w).andThen fun v w'=>.ok (.value v) w'){x:Int×Int×Int}{r:Int×Int}(h:bits_Add64 x=some r) :
  E0 P ⟨f,y9 (.cons (.int .u64) (.cons (.int .u64) (.one (.int .u64)))) x,enc (.tup (.cons (.int .u64) (.one (.int .u64)))) r⟩:=by
 intro σ
 unfold bits_Add64 at h
 cases hc:(decide (0<=x.1)&&decide (0<=x.2.1)&&(decide (x.2.2=0)||decide (x.2.2=1)))with
 | false=>rw[hc]at h;cases h
 | true =>
  rw[hc]at h
  simp only[cond_true,Option.some.injEq]at h
  subst h
  simp only[Bool.and_eq_true,Bool.or_eq_true,decide_eq_true_eq]at hc
  refine(rC0 hrun (σ:=σ) (σ':=σ) (v:=enc (.tup (.cons (.int .u64) (.one (.int .u64)))) ((x.1+x.2.1+x.2.2)%18446744073709551616,(x.1+x.2.1+x.2.2) / 18446744073709551616)) ?_).1
  show oc0 [.sc (.int .u64 x.1),.sc (.int .u64 x.2.1),.sc (.int .u64 x.2.2)] σ=_
  unfold oc0
  dsimp only
  rw[if_pos ⟨hc.1.1,hc.1.2,hc.2⟩]
  rfl
theorem pB0 {P:Program} {ρ:Go.Shelf.Ren} (L:Lays.n144 P ρ) {f:FuncId} (hf:ρ.f 144=f) {fnS:Func} (hS:P.funcs[f]?=some fnS) (hSn:(fnS.name== "runtime.NumGoroutine")=false) (hSb:fnS.body.isNone=false)
  {b:Nat} (hb:ρ.g 1=b) {m:Int} (hm:B6.cell b 0=some (.int .i64 m)) {x:ByteArray×ByteArray} {r:Bool} (h:strings_Contains x=some r):E0 P ⟨f,y9 (.cons .str (.one .str)) x,enc .bool r⟩:=by
 subst hf hb
 unfold strings_Contains at h
 by_cases hs:x.1.size<4294967281
 ·simp only[hs,decide_true,cond_true,Option.some.injEq]at h
  subst h
  intro σ
  refine B4.of_calls hS hSn hSb ?_
  intro G vs w hargs hrel
  obtain⟨u1,vs1,rfl,hu1,hargs⟩:=hargs.cons_inv
  obtain⟨u2,vs2,rfl,hu2,hargs⟩:=hargs.cons_inv
  obtain rfl:=hargs.nil_inv
  cases hu1
  cases hu2
  have hcell:w.cell? ⟨ρ.g 1,0,none⟩=some (.int .i64 m):=hrel.cell (hrel.glob _ _ _ hm)
  refine(Any.strings_Contains L x.1 x.2 m w hs hcell).mono ?_
  rintro e w' ⟨rfl,rfl⟩
  exact⟨_,_,σ,G,rfl,.refl _ _ _ _,.sc _,hrel,rfl,rfl⟩
 ·simp[hs]at h
theorem kg0{P:Program}{T:Tab}(hT:C0 P T){t:TypeId}{z:Nat}(h:(T t).map (fun ti=>(ti.isAgg,ti.size))=some (true,z)):(∀ w,(isAgg t).run P w=.ok true w)/\∀ w,(Go.sizeOf t).run P w=.ok z w:=by
 cases ht:T t with
 | none=>rw[ht]at h;cases h
 | some ti =>
  rw[ht]at h
  simp only[Option.map_some,Option.some.injEq,Prod.mk.injEq]at h
  exact⟨fun w=>by rw[cS0 hT ht w,h.1],fun w=>by rw[F4 hT ht w,h.2]⟩
theorem gN0{P:Program}{ts:List TF}{t:TF}(h:t.Ok (fz0 P ts))(hf:t.f<XT){x:t.dom.T}{r:t.cod.T}(hx:t.fn x=some r):E0 P ⟨t.f,y9 t.dom x,enc t.cod r⟩:=by
 obtain⟨φ,h1,h2⟩:=h x r hx
 exact(jR0 P ts).memo t.f φ hf h1 _ _ h2
theorem cJ0{α:Type}{en:α->List AV}{r:α}{l:List α}(i:Nat):D9 ((r::l).map en) i=en (atT r (r::l) i):=by
 unfold D9 atT
 rw[List.getElem?_map]
 cases (r::l)[i]?<;>rfl
theorem fC0{α:Type}{en:α->List AV}{cf:List AV->List AV->Int}{ct:α->α->Int}:∀ {xs:List α},(∀ x∈xs,∀ y∈xs,cf (en x) (en y)=ct x y)->H2 cf (xs.map en)=(Z0 ct xs).map en
 | [],_=>rfl
 | r::l,h=>by
  have e:(fun i j=>cf (D9 ((r::l).map en) i) (D9 ((r::l).map en) j))=fun i j=>ct (atT r (r::l) i) (atT r (r::l) j):=by
   funext i j
   rw[cJ0,cJ0]
   exact h _ (W0 i) _ (W0 j)
  rw[dW0 (by simp),e,bw0,List.map_map,List.length_map]
  exact List.map_congr_left fun i _=>cJ0 i
theorem rI0{α:Type}{en:α->List AV}{cf:List AV->List AV->Int}{ct:α->α->Int}{xs:List α}(h:∀ x∈xs,∀ y∈xs,cf (en x) (en y)=ct x y)(hO:Ordered ct xs)(hne:xs.map en≠[]):SWO (ltOf (fun i j=>cf (D9 (xs.map en) i) (D9 (xs.map en) j))):=by
 cases xs with
 | nil=>simp at hne
 | cons r l =>
  have e:(fun i j=>cf (D9 ((r::l).map en) i) (D9 ((r::l).map en) j))=fun i j=>ct (atT r (r::l) i) (atT r (r::l) j):=by
   funext i j
   rw[cJ0,cJ0]
   exact h _ (W0 i) _ (W0 j)
  rw[e]
  exact hO
noncomputable def cfOf{α:Type}(en:α->List AV)(ct:α->α->Int)(a b:List AV):Int :=
 open Classical in if h:∃ p:α×α,en p.1=a/\en p.2=b then ct h.choose.1 h.choose.2 else 0
theorem qv0{α:Type}{en:α->List AV}(hi:∀ x y,en x=en y->x=y)(ct:α->α->Int)(x y:α):cfOf en ct (en x) (en y)=ct x y:=by
 have hex:∃ p:α×α,en p.1=en x/\en p.2=en y:=⟨(x,y),rfl,rfl⟩
 unfold cfOf
 rw[dif_pos hex]
 obtain⟨h1,h2⟩:=hex.choose_spec
 rw[hi _ _ h1,hi _ _ h2]
theorem kG0{α:Type}{cmp:α->α->Option Int}{xs r:List α}(h:du0 cmp xs=some r):(∀ x∈xs,∀ y∈xs,cmp x y=some ((cmp x y).getD 0))/\Ordered (fun x y=>(cmp x y).getD 0) xs/\xs.length<4611686018427387904/\r=Z0 (fun x y=>(cmp x y).getD 0) xs:=by
 unfold du0 at h
 split at h
 ·rename_i hc
  cases h
  refine⟨fun x hx y hy=>?_,hc.2.1,hc.2.2,rfl⟩
  have:=hc.1 x hx y hy
  cases he:cmp x y with
  | none=>rw[he]at this;cases this
  | some v=>rfl
 ·cases h
theorem ji0 {P:Program} {ρ:Go.Shelf.Ren} (L:SlLaysF0.n6 P ρ) {f:FuncId} (hf:ρ.f 6=f) {fnS:Func} (hS:P.funcs[f]?=some fnS) (hSn:(fnS.name== "runtime.NumGoroutine")=false) (hSb:fnS.body.isNone=false)
  {el:SpL} {z:Nat} (hz:0<z) (hel:el.len=z) (hcl:el.cells=true) (aE:∀ w,(isAgg (ρ.t 24)).run P w=.ok true w) (zE:∀ w,(Go.sizeOf (ρ.t 24)).run P w=.ok z w)
  {g:FuncId} {fnG:Func} (hG:P.funcs[g]?=some fnG) (hGn:(fnG.name== "runtime.NumGoroutine")=false) (hGb:fnG.body.isNone=false) {cl:SpL} (c:cl.T)
  {cmp:el.T->el.T->Option Int} {x r:List el.T} (hcmp:∀ a∈x,∀ b∈x,∀ v,cmp a b=some v->E0 P ⟨g,[.agg (y9 el a),.agg (y9 el b)]++y9 cl c,I64 v⟩) (h:du0 cmp x=some r) :
  er0 P f [.rs (x.map (y9 el)),.sc (.int .i64 z),.fn (.func g) [] (y9 cl c)] (.rs (r.map (y9 el))):=by
 obtain⟨h1,hO,hn,rfl⟩:=kG0 h
 intro v z' rest hargs
 simp only[List.cons.injEq,AV.sc.injEq,Value.int.injEq,true_and]at hargs
 obtain⟨rfl,hz',rfl⟩:=hargs
 have hz':z'=z:=by omega
 subst hz'
 have hcf:∀ a∈x,∀ b∈x,cfOf (y9 el) (fun a b=>(cmp a b).getD 0) (y9 el a) (y9 el b)=(cmp a b).getD 0:=fun a _ b _=>qv0 (X0 el) _ a b
 refine⟨_,_,rfl,rfl,?_,?_⟩
 ·simp only[List.length_map]
  exact(S5 hO).length_eq
 ·intro σ id e restv ho hr
  have hm:∀ rr∈x.map (y9 el),∃ a∈x,rr=y9 el a:=fun rr h=>by obtain⟨a,ha,e⟩:=List.mem_map.1 h;exact⟨a,ha,e.symm⟩
  have:=tU0 L hf hS hSn hSb hz aE zE hG hGn hGb (e:=e) (es:=x.map (y9 el)) (caps:=y9 cl c) (cf:=cfOf (y9 el) (fun a b=>(cmp a b).getD 0))
   (fun rr h=>by obtain⟨a,_,rfl⟩:=hm rr h;rw[D1,hel])
   (fun rr h d hd=>by obtain⟨a,_,rfl⟩:=hm rr h;exact List.all_eq_true.1 (cells_one hcl a) d hd)
   (fun rr h d hd=>by obtain⟨a,_,rfl⟩:=hm rr h;exact List.all_eq_true.1 (ac0 el a) d hd)
   (by simpa using hn)
   (fun rr h rr' h'=>by
    obtain⟨a,ha,rfl⟩:=hm rr h
    obtain⟨b,hb,rfl⟩:=hm rr' h'
    rw[hcf a ha b hb]
    exact hcmp a ha b hb _ (h1 a ha b hb))
   (fun hne=>rI0 hcf hO hne) ho (restv:=restv) hr
  rw[fC0 hcf]at this
  exact this
theorem pT0 {P:Program} {ρ:Go.Shelf.Ren} (L:SlLaysF.n6 P ρ) {f:FuncId} (hf:ρ.f 6=f) {fnS:Func} (hS:P.funcs[f]?=some fnS) (hSn:(fnS.name== "runtime.NumGoroutine")=false) (hSb:fnS.body.isNone=false)
  {s:Sp} (hcl:s.cel1=true) {g:FuncId} {fnG:Func} (hG:P.funcs[g]?=some fnG) (hGn:(fnG.name== "runtime.NumGoroutine")=false) (hGb:fnG.body.isNone=false) {cl:SpL} (c:cl.T)
  {cmp:s.T->s.T->Option Int} {x r:List s.T} (hcmp:∀ a∈x,∀ b∈x,∀ v,cmp a b=some v->E0 P ⟨g,[enc s a,enc s b]++y9 cl c,I64 v⟩) (h:du0 cmp x=some r) :
  er0 P f [.rs (x.map (y9 (.one s))),.sc (.int .i64 1),.fn (.func g) [] (y9 cl c)] (.rs (r.map (y9 (.one s)))):=by
 obtain⟨h1,hO,hn,rfl⟩:=kG0 h
 intro v z' rest hargs
 simp only[List.cons.injEq,AV.sc.injEq,Value.int.injEq,true_and]at hargs
 obtain⟨rfl,hz',rfl⟩:=hargs
 have hz':z'=1:=by omega
 subst hz'
 have hcf:∀ a∈x,∀ b∈x,cfOf (y9 (.one s)) (fun a b=>(cmp a b).getD 0) (y9 (.one s) a) (y9 (.one s) b)=(cmp a b).getD 0:=fun a _ b _=>qv0 (X0 (.one s)) _ a b
 refine⟨_,_,rfl,rfl,?_,?_⟩
 ·simp only[List.length_map]
  exact(S5 hO).length_eq
 ·intro σ id e restv ho hr
  have hm:∀ rr∈x.map (y9 (.one s)),∃ a∈x,rr=y9 (.one s) a:=fun rr h=>by obtain⟨a,ha,e⟩:=List.mem_map.1 h;exact⟨a,ha,e.symm⟩
  have:=tg0 L hf hS hSn hSb hG hGn hGb (e:=e) (es:=x.map (y9 (.one s))) (caps:=y9 cl c) (cf:=cfOf (y9 (.one s)) (fun a b=>(cmp a b).getD 0))
   (fun rr h=>by obtain⟨a,_,rfl⟩:=hm rr h;rfl)
   (fun rr h d hd=>by
    obtain⟨a,_,rfl⟩:=hm rr h
    simp only[y9,List.mem_singleton]at hd
    rw[hd]
    exact jY0 hcl a)
   (fun rr h d hd=>by obtain⟨a,_,rfl⟩:=hm rr h;exact List.all_eq_true.1 (ac0 (.one s) a) d hd)
   (by simpa using hn)
   (fun rr h rr' h'=>by
    obtain⟨a,ha,rfl⟩:=hm rr h
    obtain⟨b,hb,rfl⟩:=hm rr' h'
    rw[hcf a ha b hb]
    exact hcmp a ha b hb _ (h1 a ha b hb))
   (fun hne=>rI0 hcf hO hne) ho (restv:=restv) hr
  rw[fC0 hcf]at this
  exact this
theorem pu0 {P:Program} {ρ:Go.Shelf.Ren} (L:SlLaysM.n5 P ρ) {f:FuncId} (hf:ρ.f 5=f) {fnS:Func} (hS:P.funcs[f]?=some fnS) (hSn:(fnS.name== "runtime.NumGoroutine")=false) (hSb:fnS.body.isNone=false)
  {x:List Int×Int} {r:List Int} (h:slices_Sort_int x=some r):er0 P f (y9 (.cons (.sl (.one (.int .i64))) (.one (.int .i64))) x) (enc (.sl (.one (.int .i64))) r):=by
 unfold slices_Sort_int at h
 cases hc:(decide (x.2=1)&&decide (x.1.length<4611686018427387904))with
 | false=>rw[hc]at h;cases h
 | true =>
  rw[hc]at h
  simp only[cond_true,Option.some.injEq]at h
  subst h
  simp only[Bool.and_eq_true,decide_eq_true_eq]at hc
  intro v z' rest hargs
  simp only[y9,enc,List.cons.injEq,AV.sc.injEq,Value.int.injEq,true_and]at hargs
  obtain⟨rfl,hz',rfl⟩:=hargs
  have hz':z'=1:=by omega
  subst hz'
  refine⟨x.1.map cj0,_,rfl,rfl,?_,?_⟩
  ·simp only[List.length_map]
   exact List.length_mergeSort ..
  ·intro σ id e restv ho hr
   intro G vs w hargs hrel
   obtain⟨u1,vs1,rfl,hu1,hargs1⟩:=hargs.cons_inv
   have hrel0:Rel G (σ.del id) w:=hrel.less rfl (fun i o h=>by
    rw[j3.objs_del]at h
    split at h
    ·cases h
    ·exact h)
   have hv1:vs1=[]:=(hr G vs1 w hargs1 hrel0).nil_inv
   have hrv:restv=[]:=by
    have:vs1.length=restv.length:=hargs1.1
    rw[hv1]at this
    exact List.length_eq_zero_iff.1 (show restv.length=0 from this.symm)
   subst hrv
   exact sO0 L hf hS hSn hSb hc.2 ho G _ w hargs hrel
end Go.Ab
namespace Go.Ab
open Go
theorem aT0(xs:List Int)(y:Int)(hl:xs.length<2^62):H8 (xs,y)=some (if y∈xs then ((xs.idxOf y:Nat):Int)else -1):=by
 unfold H8
 simp only[b9]
 refine(r9 (A:=Unit) xs (fun i _=>(i:Int)) (fun _ rest=>some (if y∈rest then ((xs.length-rest.length+rest.idxOf y:Nat):Int)else -1)) (by omega) ?_ ?_ ()).trans ?_
 ·intro rec a
  simp
 ·intro rec i a x rest hi hd hr
  have hlen:rest.length=xs.length-(i+1):=by
   have:=congrArg List.length hd
   simp at this
   omega
  have hi':((i:Int)<(xs.length:Int)):=by omega
  simp only[hi',decide_true,cond_true,l9 hd,b9]
  by_cases hxy:y=x
  ·subst hxy
   simp[hlen]
   omega
  ·have e1:IntKind.i64.wrap ((i:Int)+1)=((i+1:Nat):Int):=by rw[w64 (by omega) (by omega)];omega
   simp only[hxy,decide_false,cond_false,e1]
   rw[hr ()]
   have e2:(x==y)=false:=by simpa using fun e=>hxy e.symm
   simp only[List.mem_cons,hxy,false_or,List.length_cons,List.idxOf_cons,e2,cond_false,hlen]
   congr 1
   split
   ·omega
   ·rfl
 ·simp
theorem E1(xs:List Int)(y:Int)(hl:xs.length<2^62):l8 (xs,y)=some (decide (y∈xs)):=by
 unfold l8
 simp only[aT0 xs y hl,b9]
 by_cases h:y∈xs<;>simp[h]
abbrev Pt:=Int×Int
abbrev Nd:=Int×Int×Int
abbrev Ar:=Int×Int×Int×List Pt×Int×Int
def O7(ns:List Nd)(id:Int):Option Nd:=ns.find? fun n=>decide (n.1=id)
def ct0(ars:List Ar)(id:Int):Option Ar:=ars.find? fun a=>decide (a.1=id)
theorem N0{α:Type}{xs rest:List α}{i:Nat}{x:α}(h:xs.drop i=x::rest):i<xs.length/\rest.length=xs.length-(i+1)/\x∈xs:=by
 have h1:=congrArg List.length h
 simp at h1
 refine⟨by omega,by omega,?_⟩
 have:x∈xs.drop i:=by rw[h];simp
 exact List.mem_of_mem_drop this
theorem w9{i n:Nat}(h:i<n)(hn:n<2^62):IntKind.i64.wrap ((i:Int)+1)=((i+1:Nat):Int):=by rw[w64 (by omega) (by omega)];omega
theorem A5{i n:Nat}(h:i<n):decide ((i:Int)<(n:Int))=true:=by simpa using h
theorem A9(n:Nat):decide ((n:Int)<(n:Int))=false:=by simp
theorem cZ0(ns:List Nd)(ars:List Ar)(fs:List Int)(id:Int)(hl:ns.length<2^62):N7 ((ns,ars,fs),id)=some (match O7 ns id with | some n=>(n,true) | none=>((0,0,0),false)):=by
 unfold N7
 simp only[b9]
 refine(r9 (A:=Unit) ns (fun i _=>(i:Int)) (fun _ rest=>some (match O7 rest id with | some n=>(n,true) | none=>((0,0,0),false))) (by omega) ?_ ?_ ()).trans rfl
 ·intro rec a
  simp[O7]
 ·intro rec i a x rest hi hd hr
  simp only[A5 hi,cond_true,l9 hd,b9,w9 hi hl]
  by_cases h:x.1=id
  ·subst h;simp[O7]
  ·simp only[h,decide_false,cond_false,hr ()]
   simp[O7,h]
theorem hC0(ns:List Nd)(ars:List Ar)(fs:List Int)(id:Int)(hl:ars.length<2^62)(hv:∀ a∈ars,a.2.2.2.1.length<=1000000000):al0 ((ns,ars,fs),id)=some (match ct0 ars id with | some a=>(a,true) | none=>((0,0,0,[],0,0),false)):=by
 unfold al0
 simp only[b9]
 refine(r9 (A:=Unit) ars (fun i _=>(i:Int)) (fun _ rest=>some (match ct0 rest id with | some n=>(n,true) | none=>((0,0,0,[],0,0),false))) (by omega) ?_ ?_ ()).trans rfl
 ·intro rec a
  simp[ct0]
 ·intro rec i a x rest hi hd hr
  have hx:=hv x (N0 hd).2.2
  have hc:slices_Clone_api_Point x.2.2.2.1=some x.2.2.2.1:=by
   unfold slices_Clone_api_Point
   rw[C7 (by omega) (by simpa using hx),List.nil_append]
  simp only[A5 hi,cond_true,l9 hd,b9,w9 hi hl,hc]
  by_cases h:x.1=id
  ·subst h;simp[ct0]
  ·simp only[h,decide_false,cond_false,hr ()]
   simp[ct0,h]
theorem dV0(ns:List Nd)(ars:List Ar)(fs:List Int)(hn:ns.length<=1000000)(ha:ars.length<=1000000):L4 (ns,ars,fs)=some (ns.map (·.1),ars.map (·.1)):=by
 unfold L4
 simp only[b9]
 refine(p8 (A:=List Int) ns (fun i a=>(a,(i:Int))) (fun a rest=>some (a++rest.map (·.1),ars.map (·.1))) (fun i a=>a.length=i) (by omega) ?_ ?_ [] rfl).trans rfl
 ·intro rec a hI
  simp only[A9,cond_false,List.map_nil,List.append_nil]
  refine(p8 (A:=List Int) ars (fun i a=>(a,(i:Int))) (fun b rest=>some (a,b++rest.map (·.1))) (fun i a=>a.length=i) (by omega) ?_ ?_ [] rfl).trans rfl
  ·intro rec b hb
   simp[A9]
  ·intro rec i b x rest hi hI2 hd hr
   simp only[A5 hi,cond_true,l9 hd,b9,w9 hi (show ars.length<2^62 by omega)]
   rw[C7 (by omega) (by simp;omega)]
   simp only[b9]
   rw[hr _ (by simp;omega)]
   simp
 ·intro rec i a x rest hi hI2 hd hr
  simp only[A5 hi,cond_true,l9 hd,b9,w9 hi (show ns.length<2^62 by omega)]
  rw[C7 (by omega) (by simp;omega)]
  simp only[b9]
  rw[hr _ (by simp;omega)]
  simp
end Go.Ab
namespace Go.Ab
open Go
def B7(p:Pt):Bool:=decide (-2097152<=p.1)&&decide (p.1<=2097152)&&decide (-2097152<=p.2)&&decide (p.2<=2097152)
theorem cT0(p:Pt):B7 p=true↔-2097152<=p.1/\p.1<=2097152/\-2097152<=p.2/\p.2<=2097152:=by simp[B7,and_assoc]
def cx0(a b c:Pt):Int:=(b.1-a.1)*(c.2-a.2)-(b.2-a.2)*(c.1-a.1)
theorem cY0{a b m n:Int}(h1:-m<=a)(h2:a<=m)(h3:-n<=b)(h4:b<=n):-(m*n)<=a*b/\a*b<=m*n:=by
 have hm:0<=m:=by omega
 have hn:0<=n:=by omega
 have h5:a.natAbs<=m.natAbs:=by omega
 have h6:b.natAbs<=n.natAbs:=by omega
 have h7:=Nat.mul_le_mul h5 h6
 rw[<- Int.natAbs_mul,<-Int.natAbs_mul]at h7
 have h8:0<=m*n:=Int.mul_nonneg hm hn
 omega
theorem lN0{a b c:Pt}(ha:B7 a=true)(hb:B7 b=true)(hc:B7 c=true):-35184372088832<=cx0 a b c/\cx0 a b c<=35184372088832:=by
 rw[cT0]at ha hb hc
 have h1:=cY0 (a:=b.1-a.1) (b:=c.2-a.2) (m:=4194304) (n:=4194304) (by omega) (by omega) (by omega) (by omega)
 have h2:=cY0 (a:=b.2-a.2) (b:=c.1-a.1) (m:=4194304) (n:=4194304) (by omega) (by omega) (by omega) (by omega)
 unfold cx0
 omega
theorem fO0(l:List Pt)(hl:l.length<2^62):L7 l=some (l.all B7):=by
 unfold L7
 simp only[b9]
 refine(r9 (A:=Unit) l (fun i _=>(i:Int)) (fun _ rest=>some (rest.all B7)) (by omega) ?_ ?_ ()).trans rfl
 ·intro rec a
  simp
 ·intro rec i a x rest hi hd hr
  simp only[A5 hi,cond_true,l9 hd,b9,w9 hi hl]
  rw[hr ()]
  by_cases h1:x.1 < -2097152
  ·have:B7 x=false:=by simp[B7];omega
   simp[h1,this]
  by_cases h2:2097152<x.1
  ·have:B7 x=false:=by simp[B7];omega
   simp[h1,h2,this]
  by_cases h3:x.2 < -2097152
  ·have:B7 x=false:=by simp[B7];omega
   simp[h1,h2,h3,this]
  by_cases h4:2097152<x.2
  ·have:B7 x=false:=by simp[B7];omega
   simp[h1,h2,h3,h4,this]
  have:B7 x=true:=by rw[cT0];omega
  simp[h1,h2,h3,h4,this]
theorem aj0(a b c:Pt)(ha:B7 a=true)(hb:B7 b=true)(hc:B7 c=true):M3 (a,b,c)=some (cx0 a b c):=by
 have hbd:=lN0 ha hb hc
 rw[cT0]at ha hb hc
 have h1:=cY0 (a:=b.1-a.1) (b:=c.2-a.2) (m:=4194304) (n:=4194304) (by omega) (by omega) (by omega) (by omega)
 have h2:=cY0 (a:=b.2-a.2) (b:=c.1-a.1) (m:=4194304) (n:=4194304) (by omega) (by omega) (by omega) (by omega)
 unfold M3
 simp only[b9]
 rw[w64 (n:=b.1-a.1) (by omega) (by omega),w64 (n:=c.2-a.2) (by omega) (by omega),w64 (n:=b.2-a.2) (by omega) (by omega),w64 (n:=c.1-a.1) (by omega) (by omega),w64 (n:=(b.1-a.1)*(c.2-a.2)) (by omega) (by omega),w64 (n:=(b.2-a.2)*(c.1-a.1)) (by omega) (by omega)]
 have e:IntKind.i64.wrap ((b.1-a.1)*(c.2-a.2)-(b.2-a.2)*(c.1-a.1))=cx0 a b c:=w64 (n:=cx0 a b c) (by omega) (by omega)
 exact congrArg some e
def cU0(a b c:Pt):Int:=if B7 a&&B7 b&&B7 c then cx0 a b c else 0
theorem tO0(a b c:Pt):L7 [(a.1,a.2),(b.1,b.2),(c.1,c.2)]=some (B7 a&&B7 b&&B7 c):=by
 rw[fO0 _ (by simp)]
 simp[Bool.and_assoc]
theorem near4(a b c d:Pt):L7 [(a.1,a.2),(b.1,b.2),(c.1,c.2),(d.1,d.2)]=some (B7 a&&B7 b&&B7 c&&B7 d):=by
 rw[fO0 _ (by simp)]
 simp[Bool.and_assoc]
theorem eh0(a b c:Pt):V3 (a,b,c)=some (cU0 a b c):=by
 unfold V3 cU0
 simp only[b9,tO0]
 cases h:(B7 a&&B7 b&&B7 c)with
 | false=>simp
 | true =>
  simp only[Bool.and_eq_true]at h
  simp only[Bool.not_true,cond_false,aj0 a b c h.1.1 h.1.2 h.2,b9,if_true]
def S9(a b c:Pt):Int:=if 0<cU0 a b c then 1 else if cU0 a b c<0 then -1 else 0
theorem I5(a b c:Pt):u7 (a,b,c)=some (S9 a b c):=by
 unfold u7 S9
 simp only[b9,eh0]
 by_cases h1:0<cU0 a b c
 ·simp[h1]
 ·by_cases h2:cU0 a b c<0<;>simp[h1,h2]
theorem eP0(a b:Int):List.foldl mxI a [b]=max a b:=by simp only[List.foldl,mxI];split<;>omega
theorem qO0(a b:Int):List.foldl mnI a [b]=min a b:=by simp only[List.foldl,mnI];split<;>omega
def inBox(a b p:Pt):Bool:=decide (min a.1 b.1<=p.1)&&(decide (p.1<=max a.1 b.1)&&(decide (min a.2 b.2<=p.2)&&decide (p.2<=max a.2 b.2)))
def onP(a b p:Pt):Bool:=(B7 a&&B7 b&&B7 p)&&(decide (cx0 a b p=0)&&inBox a b p)
theorem M0(a b p:Pt):y4 (a,b,p)=some (onP a b p):=by
 unfold y4 onP
 simp only[b9,tO0]
 cases h:(B7 a&&B7 b&&B7 p)with
 | false=>simp
 | true =>
  simp only[Bool.and_eq_true]at h
  simp only[Bool.not_true,cond_false,aj0 a b p h.1.1 h.1.2 h.2,b9,eP0,qO0,inBox]
  cases decide (cx0 a b p=0)<;>cases decide (min a.1 b.1<=p.1)<;>cases decide (p.1<=max a.1 b.1)<;>cases decide (min a.2 b.2<=p.2)<;>simp
def B9(a b:Pt):Bool:=decide (a.1<b.1)||(decide (a.1=b.1)&&decide (a.2<b.2))
theorem ix0(a b:Pt):l7 (a,b)=some (B9 a b):=by
 unfold l7 B9
 simp only[b9]
 cases decide (a.1<b.1)<;>cases decide (a.1=b.1)<;>rfl
def eqP(a b:Pt):Bool:=decide (a.1=b.1)&&decide (a.2=b.2)
theorem mh0(a b:Pt):eqP a b=true↔a=b:=by simp[eqP,Prod.ext_iff]
def ky0(a b c d:Pt):Int :=
 let a':=if B9 b a then b else a
 let b':=if B9 b a then a else b
 let c':=if B9 d c then d else c
 let d':=if B9 d c then c else d
 let f:=if B9 a' c' then c' else a'
 let l:=if B9 d' b' then d' else b'
 if eqP f l then 1 else if B9 f l then 2 else 0
theorem iL0(a b c d:Pt):V7 (a,b,c,d)=some (ky0 a b c d):=by
 unfold V7 ky0
 have e:∀ p q:Pt,(decide (p.1=q.1)&&decide (p.2=q.2))=eqP p q:=fun _ _=>rfl
 have e2:∀ p q:Pt,l7 ((p.1,p.2),(q.1,q.2))=some (B9 p q):=fun p q=>ix0 p q
 simp only[e2,b9,e]
 cases h1:B9 b a<;>cases h2:B9 d c<;>simp only[cond_true,cond_false,if_true,if_false,Bool.false_eq_true]
 ·cases h3:B9 a c<;>cases h4:B9 d b<;>simp only[cond_true,cond_false,if_true,if_false,Bool.false_eq_true]
  ·cases eqP a b<;>cases h5:B9 a b<;>simp_all
  ·cases eqP a d<;>cases h5:B9 a d<;>simp_all
  ·cases eqP c b<;>cases h5:B9 c b<;>simp_all
  ·cases eqP c d<;>cases h5:B9 c d<;>simp_all
 ·cases h3:B9 a d<;>cases h4:B9 c b<;>simp only[cond_true,cond_false,if_true,if_false,Bool.false_eq_true]
  ·cases eqP a b<;>cases h5:B9 a b<;>simp_all
  ·cases eqP a c<;>cases h5:B9 a c<;>simp_all
  ·cases eqP d b<;>cases h5:B9 d b<;>simp_all
  ·cases eqP d c<;>cases h5:B9 d c<;>simp_all
 ·cases h3:B9 b c<;>cases h4:B9 d a<;>simp only[cond_true,cond_false,if_true,if_false,Bool.false_eq_true]
  ·cases eqP b a<;>cases h5:B9 b a<;>simp_all
  ·cases eqP b d<;>cases h5:B9 b d<;>simp_all
  ·cases eqP c a<;>cases h5:B9 c a<;>simp_all
  ·cases eqP c d<;>cases h5:B9 c d<;>simp_all
 ·cases h3:B9 b d<;>cases h4:B9 c a<;>simp only[cond_true,cond_false,if_true,if_false,Bool.false_eq_true]
  ·cases eqP b a<;>cases h5:B9 b a<;>simp_all
  ·cases eqP b c<;>cases h5:B9 b c<;>simp_all
  ·cases eqP d a<;>cases h5:B9 d a<;>simp_all
  ·cases eqP d c<;>cases h5:B9 d c<;>simp_all
theorem hF0(a b c:Pt):S9 a b c=1\/S9 a b c=-1\/S9 a b c=0:=by
 unfold S9
 split
 ·exact .inl rfl
 ·split
  ·exact .inr (.inl rfl)
  ·exact .inr (.inr rfl)
theorem tQ0(a b c d e f:Pt):IntKind.i64.wrap (S9 a b c*S9 d e f)=S9 a b c*S9 d e f:=by
 rcases hF0 a b c with h | h | h<;>rcases hF0 d e f with h' | h' | h'<;>rw[h,h']<;>exact w64 (by decide) (by decide)
def rp0(a b c d:Pt):Int :=
 if B7 a&&B7 b&&B7 c&&B7 d then
  if eqP a b then (if onP c d a then 1 else 0)
  else if eqP c d then (if onP a b c then 1 else 0)
  else if S9 a b c=0/\S9 a b d=0 then ky0 a b c d
  else if S9 a b c*S9 a b d<=0/\S9 c d a*S9 c d b<=0 then 1 else 0
 else 0
theorem mc0(a b c d:Pt):bp0 (a,b,c,d)=some (rp0 a b c d):=by
 unfold bp0 rp0
 have e:∀ p q:Pt,(decide (p.1=q.1)&&decide (p.2=q.2))=eqP p q:=fun _ _=>rfl
 have e1:∀ p q r:Pt,y4 ((p.1,p.2),(q.1,q.2),(r.1,r.2))=some (onP p q r):=fun p q r=>M0 p q r
 have e2:∀ p q r:Pt,u7 ((p.1,p.2),(q.1,q.2),(r.1,r.2))=some (S9 p q r):=fun p q r=>I5 p q r
 have e3:∀ p q r s:Pt,V7 ((p.1,p.2),(q.1,q.2),(r.1,r.2),(s.1,s.2))=some (ky0 p q r s):=fun p q r s=>iL0 p q r s
 simp only[b9,near4,e,e1,e2,e3,tQ0]
 cases h:(B7 a&&B7 b&&B7 c&&B7 d)with
 | false=>simp
 | true =>
  simp only[Bool.not_true,cond_false,if_true]
  cases eqP a b with
  | true=>cases onP c d a<;>simp
  | false =>
   simp only[cond_false,Bool.false_eq_true,if_false]
   cases eqP c d with
   | true=>cases onP a b c<;>simp
   | false =>
    simp only[cond_false,Bool.false_eq_true,if_false]
    by_cases h1:S9 a b c=0
    ·by_cases h2:S9 a b d=0
     ·simp[h1,h2]
     ·by_cases h4:S9 c d a*S9 c d b<=0<;>simp[h1,h2,h4]
    ·by_cases h3:S9 a b c*S9 a b d<=0
     ·by_cases h4:S9 c d a*S9 c d b<=0<;>simp[h1,h3,h4]
     ·simp[h1,h3]
def Q1(o p:Pt):Bool:=decide (p.2<o.2)||(decide (p.2=o.2)&&decide (p.1<o.1))
theorem kj0(o p:Pt):R4 (o,p)=some (Q1 o p):=by
 unfold R4 Q1
 simp only[b9]
 cases decide (p.2<o.2)<;>cases decide (p.2=o.2)<;>rfl
def bv0(o a b:Pt):Bool:=(B7 o&&B7 a&&B7 b)&&(!eqP a o&&(!eqP b o&&(if Q1 o a=Q1 o b then decide (0<cx0 o a b)else Q1 o b)))
theorem lT0(o a b:Pt):X6 (o,a,b)=some (bv0 o a b):=by
 unfold X6 bv0
 have e:∀ p q:Pt,(decide (p.1=q.1)&&decide (p.2=q.2))=eqP p q:=fun _ _=>rfl
 have e1:∀ p q:Pt,R4 ((p.1,p.2),(q.1,q.2))=some (Q1 p q):=fun p q=>kj0 p q
 simp only[b9,tO0,e,e1]
 cases h:(B7 o&&B7 a&&B7 b)with
 | false=>simp
 | true =>
  simp only[Bool.and_eq_true]at h
  have e2:M3 ((o.1,o.2),(a.1,a.2),(b.1,b.2))=some (cx0 o a b):=aj0 o a b h.1.1 h.1.2 h.2
  simp only[Bool.not_true,cond_false,e2,b9]
  cases eqP a o<;>cases eqP b o<;>cases Q1 o a<;>cases Q1 o b<;>simp
end Go.Ab
namespace Go.Ab
open Go
def Z3(ars:List Ar)(id:Int):Nat:=(ars.map fun a=>(if a.2.1=id then 1 else 0)+(if a.2.2.1=id then 1 else 0)).sum
theorem bn0(ns:List Nd)(ars:List Ar)(fs:List Int)(id:Int)(ha:ars.length<=1000000):R1 ((ns,ars,fs),id)=some ((Z3 ars id:Nat):Int):=by
 unfold R1
 simp only[b9]
 refine(p8 (A:=Nat) ars (fun i a=>((i:Int),(a:Int))) (fun a rest=>some ((a+Z3 rest id:Nat):Int)) (fun i a=>a<=2*i) (by omega) ?_ ?_ 0 (by omega)).trans (by simp)
 ·intro rec a hI
  simp[Z3]
 ·intro rec i a x rest hi hI hd hr
  have e0:=w9 hi (show ars.length<2^62 by omega)
  have e1:IntKind.i64.wrap ((a:Int)+1)=((a+1:Nat):Int):=by rw[w64 (by omega) (by omega)];omega
  have e2:IntKind.i64.wrap (((a+1:Nat):Int)+1)=((a+2:Nat):Int):=by rw[w64 (by omega) (by omega)];omega
  simp only[A5 hi,cond_true,l9 hd,b9,e0,e1,e2]
  by_cases h1:x.2.1=id<;>by_cases h2:x.2.2.1=id
  ·simp only[h1,h2,decide_true,cond_true]
   rw[hr _ (by omega)]
   simp only[Z3,List.map_cons,List.sum_cons,h1,h2,if_true]
   congr 2;omega
  ·simp only[h1,h2,decide_true,decide_false,cond_true,cond_false]
   rw[hr _ (by omega)]
   simp only[Z3,List.map_cons,List.sum_cons,h1,h2,if_true,if_false]
   congr 2;omega
  ·simp only[h1,h2,decide_true,decide_false,cond_true,cond_false]
   rw[hr _ (by omega)]
   simp only[Z3,List.map_cons,List.sum_cons,h1,h2,if_true,if_false]
   congr 2;omega
  ·simp only[h1,h2,decide_true,decide_false,cond_true,cond_false]
   rw[hr _ (by omega)]
   simp only[Z3,List.map_cons,List.sum_cons,h1,h2,if_true,if_false]
   congr 2;omega
def gv0:List Int->Bool
 | []=>true
 | [_]=>true
 | a::b::l=>decide (a<b)&&gv0 (b::l)
theorem V0(xs:List Int)(hl:xs.length<2^62):I8 xs=some (gv0 xs):=by
 unfold I8
 cases xs with
 | nil=>exact ff0 fun rec=>by simp[gv0]
 | cons y ys =>
  simp only[List.length_cons]at hl
  refine(p8 (A:=Int) ys (fun i a=>((i:Int)+1)) (fun a rest=>some (gv0 (a::rest))) (fun i a=>(y::ys)[i]?=some a) (by omega) ?_ ?_ y rfl).trans rfl
  ·intro rec a hI
   simp[gv0]
  ·intro rec i a x rest hi hI hd hr
   have e1:decide ((i:Int)+1<(((y::ys).length:Nat):Int))=true:=by simp only[List.length_cons,decide_eq_true_eq];omega
   have e2:IntKind.i64.wrap ((i:Int)+1-1)=((i:Nat):Int):=by rw[w64 (by omega) (by omega)];omega
   have e3:IntKind.i64.wrap ((i:Int)+1+1)=((i+1:Nat):Int)+1:=by rw[w64 (by omega) (by omega)];omega
   have e4:nth (y::ys) ((i:Int)+1)=some x:=by
    have:((i:Int)+1)=((i+1:Nat):Int):=by omega
    rw[this,C3,List.getElem?_cons_succ,<-C3,l9 hd]
   simp only[b9,e1,cond_true,e2,C3,hI,e4,e3]
   have e5:(y::ys)[i+1]?=some x:=by rw[<- C3];rw[<- e4];congr 1
   rw[hr x e5]
   by_cases h:x<=a
   ·have:¬ a<x:=by omega
    simp[h,gv0,this]
   ·have:a<x:=by omega
    simp[h,gv0,this]
def pathOf(ns:List Nd)(ars:List Ar)(id:Int):Option (List Pt):=match ct0 ars id with
 | none=>none
 | some a=>match O7 ns a.2.1,O7 ns a.2.2.1 with
  | some f,some t=>some ((f.2.1,f.2.2)::(a.2.2.2.1++[(t.2.1,t.2.2)]))
  | _,_=>none
theorem vv0{α:Type}{z:α}{n:Int}(h0:0<n)(h1:n<=1000000):zerO 16 z n=some (List.replicate n.toNat z):=by
 unfold zerO
 have e1:decide (IntKind.i64.wrap n=n)=true:=by rw[w64 (by omega) (by omega)];simp
 have e2:decide (0<n)=true:=by simpa using h0
 have e3:decide ((2*n.toNat+1000)*16<=2^48)=true:=by simp only[decide_eq_true_eq];omega
 have e4:decide (n.toNat<=2^62)=true:=by simp only[decide_eq_true_eq];omega
 rw[e1,e2,e3,e4];rfl
theorem lF0{ars:List Ar}{id:Int}{a:Ar}(h:ct0 ars id=some a):a∈ars:=List.mem_of_find?_eq_some h
theorem fR0(ns:List Nd)(ars:List Ar)(fs:List Int)(id:Int)(hn:ns.length<=1000000)(ha:ars.length<=1000000)(hv:∀ a∈ars,a.2.2.2.1.length<=900000) :
  E9 ((ns,ars,fs),id)=some (match pathOf ns ars id with | some l=>(l,0) | none=>([],7)):=by
 unfold E9
 simp only[hC0 ns ars fs _ (show ars.length<2^62 by omega) (fun a h=>by have:=hv a h;omega),cZ0 ns ars fs _ (show ns.length<2^62 by omega),b9]
 unfold pathOf
 cases hA:ct0 ars id with
 | none=>simp
 | some a =>
  have hva:=hv a (lF0 hA)
  simp only[Bool.not_true,cond_false]
  cases hF:O7 ns a.2.1 with
  | none=>simp
  | some f =>
   simp only[Bool.not_true,cond_false]
   cases hT:O7 ns a.2.2.1 with
   | none=>simp
   | some t =>
    simp only[Bool.not_true,cond_false]
    generalize hL:a.2.2.2.1=via at hva
    have e1:IntKind.i64.wrap (1+(via.length:Int))=1+via.length:=w64 (by omega) (by omega)
    have e2:IntKind.i64.wrap (1+(via.length:Int)+1)=via.length+2:=by rw[w64 (by omega) (by omega)];omega
    have e3:decide (1+(via.length:Int)<0)=false:=by simp only[decide_eq_false_iff_not];omega
    have e4:decide ((via.length:Int)+2<0)=false:=by simp only[decide_eq_false_iff_not];omega
    have e5:IntKind.i64.wrap ((via.length:Int)+2-0)=via.length+2:=by rw[w64 (by omega) (by omega)];omega
    have e6:decide (0<(via.length:Int)+2)=true:=by simp only[decide_eq_true_eq];omega
    simp only[e1,e2,e3,e4,e5,e6,cond_false,cond_true]
    rw[vv0 (by omega) (by omega)]
    simp only[b9]
    rw[C7 (by omega) (by simp)]
    simp only[b9,List.nil_append]
    rw[C7 (by omega) (by simp;omega)]
    simp only[b9]
    rw[C7 (by omega) (by simp;omega)]
    simp
theorem pp0{ns:List Nd}{ars:List Ar}{id:Int}{l:List Pt}(h:pathOf ns ars id=some l):∃ a,ct0 ars id=some a/\l.length=a.2.2.2.1.length+2:=by
 unfold pathOf at h
 split at h
 ·cases h
 ·rename_i a ha
  split at h
  ·cases h;exact⟨a,ha,by simp⟩
  ·cases h
def hD0(n:Int):Bool:=decide (1<=n)&&decide (n<=1073741824)
theorem Z2(xs:List Int)(hl:xs.length<2^62):L1 xs=some (xs.all hD0):=by
 unfold L1
 have h1:∀ n,N6 n=some (!(hD0 n)):=fun n=>by
  unfold N6 hD0
  simp only[b9]
  by_cases h1:n<1
  ·have:¬ 1<=n:=by omega
   simp[h1,this]
  ·have h3:1<=n:=by omega
   by_cases h2:1073741824<n
   ·have:¬ n<=1073741824:=by omega
    simp[h1,h2,h3,this]
   ·have:n<=1073741824:=by omega
    simp[h1,h2,h3,this]
 have h2:w8 (xs,())=some (!(xs.all hD0)):=by
  unfold w8
  simp only[b9]
  refine(r9 (A:=Unit) xs (fun i _=>(i:Int)) (fun _ rest=>some (!(rest.all hD0))) (by omega) ?_ ?_ ()).trans rfl
  ·intro rec a;simp
  ·intro rec i a x rest hi hd hr
   simp only[A5 hi,cond_true,l9 hd,b9,w9 hi hl,h1]
   rw[hr ()]
   cases h:hD0 x<;>simp[List.all_cons,h]
 simp only[h2,b9,Bool.not_not]
def dF0(p:Pt):Bool:=decide (-1048576<=p.1)&&decide (p.1<=1048576)&&decide (-1048576<=p.2)&&decide (p.2<=1048576)
theorem cA0{p:Pt}(h:dF0 p=true):B7 p=true:=by
 simp only[dF0,Bool.and_eq_true,decide_eq_true_eq]at h
 rw[cT0];omega
theorem cr0(p:Pt):K5 p=some (!(dF0 p)):=by
 unfold K5 dF0
 simp only[b9]
 by_cases h1:p.1 < -1048576
 ·have:¬ -1048576<=p.1:=by omega
  simp[h1,this]
 by_cases h2:1048576<p.1
 ·have:¬ p.1<=1048576:=by omega
  simp[h1,h2,this]
 by_cases h3:p.2 < -1048576
 ·have:¬ -1048576<=p.2:=by omega
  simp[h1,h2,h3,this]
 have a1:-1048576<=p.1:=by omega
 have a2:p.1<=1048576:=by omega
 have a3:-1048576<=p.2:=by omega
 by_cases h4:1048576<p.2
 ·have:¬ p.2<=1048576:=by omega
  simp[h1,h2,h3,h4,this]
 ·have:p.2<=1048576:=by omega
  simp[h1,h2,h3,h4,a1,a2,a3,this]
theorem ir0(l:List Pt)(hl:l.length<2^62):u4 (l,())=some (!(l.all dF0)):=by
 unfold u4
 simp only[b9]
 refine(r9 (A:=Unit) l (fun i _=>(i:Int)) (fun _ rest=>some (!(rest.all dF0))) (by omega) ?_ ?_ ()).trans rfl
 ·intro rec a;simp
 ·intro rec i a x rest hi hd hr
  have e:K5 (x.1,x.2)=some (!(dF0 x)):=cr0 x
  simp only[A5 hi,cond_true,l9 hd,b9,w9 hi hl,e]
  rw[hr ()]
  cases h:dF0 x<;>simp[List.all_cons,h]
theorem iE0(ns:List Nd)(ars:List Ar)(fs:List Int)(hn:ns.length<=1000000)(ha:ars.length<=1000000)(hv:∀ a∈ars,a.2.2.2.1.length<=900000) :
  ax0 (ns,ars,fs)=some ((ns.all fun n=>dF0 (n.2.1,n.2.2))&&(ars.all fun a=>a.2.2.2.1.all dF0)):=by
 unfold ax0
 simp only[b9]
 refine(r9 (A:=Unit) ns (fun i _=>(i:Int)) (fun _ rest=>some ((rest.all fun n=>dF0 (n.2.1,n.2.2))&&(ars.all fun a=>a.2.2.2.1.all dF0))) (by omega) ?_ ?_ ()).trans rfl
 ·intro rec a
  simp only[A9,cond_false,List.all_nil,Bool.true_and]
  refine(r9 (A:=Unit) ars (fun i _=>(i:Int)) (fun _ rest=>some (rest.all fun a=>a.2.2.2.1.all dF0)) (by omega) ?_ ?_ ()).trans rfl
  ·intro rec a;simp
  ·intro rec i a x rest hi hd hr
   have hx:=hv x (N0 hd).2.2
   simp only[A5 hi,cond_true,l9 hd,b9,w9 hi (show ars.length<2^62 by omega),ir0 x.2.2.2.1 (by omega)]
   rw[hr ()]
   cases h:x.2.2.2.1.all dF0<;>simp[h]
 ·intro rec i a x rest hi hd hr
  simp only[A5 hi,cond_true,l9 hd,b9,w9 hi (show ns.length<2^62 by omega),cr0]
  rw[hr ()]
  cases h:dF0 (x.2.1,x.2.2)<;>simp[h]
end Go.Ab
namespace Go.Ab
open Go
def ob0(n m:Nd):Bool:=eqP (n.2.1,n.2.2) (m.2.1,m.2.2)
def dupB:List Nd->List Nd->Bool
 | _,[]=>false
 | pre,n::rest=>pre.any (ob0 n)||dupB (pre++[n]) rest
def ag0(ns:List Nd)(ars:List Ar)(fs nodes:List Int):Int :=
 bif dupB [] ns then 8
 else bif ars.any (fun a=>!(decide (a.2.1∈nodes)&&decide (a.2.2.1∈nodes)))then 7
 else bif ars.any (fun a=>!((decide (a.2.2.2.2.1=0)||decide (a.2.2.2.2.1∈fs))&&(decide (a.2.2.2.2.2=0)||decide (a.2.2.2.2.2∈fs))))then 12
 else 0
theorem fc0(ns:List Nd)(ars:List Ar)(fs nodes:List Int)(hn:ns.length<=1000000)(ha:ars.length<=1000000)(hf:fs.length<=1000000)(hno:nodes.length<=1000000) :
  P3 ((ns,ars,fs),nodes)=some (ag0 ns ars fs nodes):=by
 have hc1:∀ y,l8 (nodes,y)=some (decide (y∈nodes)):=fun y=>E1 nodes y (by omega)
 have hc2:∀ y,l8 (fs,y)=some (decide (y∈fs)):=fun y=>E1 fs y (by omega)
 unfold P3
 simp only[b9,hc1,hc2]
 refine(r9 (A:=Unit) ns (fun i _=>(i:Int)) (fun _ rest=>some (bif dupB (ns.take (ns.length-rest.length)) rest then 8 else bif ars.any (fun a=>!(decide (a.2.1∈nodes)&&decide (a.2.2.1∈nodes)))then 7
 else bif ars.any (fun a=>!((decide (a.2.2.2.2.1=0)||decide (a.2.2.2.2.1∈fs))&&(decide (a.2.2.2.2.2=0)||decide (a.2.2.2.2.2∈fs))))then 12
 else 0)) (by omega) ?_ ?_ ()).trans (by simp[ag0])
 ·intro rec u
  simp only[A9,cond_false,dupB,cond_false]
  refine(r9 (A:=Unit) ars (fun i _=>(i:Int)) (fun _ rest=>some (bif rest.any (fun a=>!(decide (a.2.1∈nodes)&&decide (a.2.2.1∈nodes)))then 7
 else bif ars.any (fun a=>!((decide (a.2.2.2.2.1=0)||decide (a.2.2.2.2.1∈fs))&&(decide (a.2.2.2.2.2=0)||decide (a.2.2.2.2.2∈fs))))then 12
 else 0)) (by omega) ?_ ?_ ()).trans rfl
  ·intro rec u
   simp only[A9,cond_false,List.any_nil,cond_false]
   refine(r9 (A:=Unit) ars (fun i _=>(i:Int)) (fun _ rest=>some (bif rest.any (fun a=>!((decide (a.2.2.2.2.1=0)||decide (a.2.2.2.2.1∈fs))&&(decide (a.2.2.2.2.2=0)||decide (a.2.2.2.2.2∈fs))))then 12
 else 0)) (by omega) ?_ ?_ ()).trans rfl
   ·intro rec u
    simp
   ·intro rec i u x rest hi hd hr
    simp only[A5 hi,cond_true,l9 hd,b9,w9 hi (show ars.length<2^62 by omega)]
    rw[hr ()]
    simp only[List.any_cons]
    generalize decide (x.2.2.2.2.1=0)=p1
    generalize decide (x.2.2.2.2.2=0)=p2
    generalize decide (x.2.2.2.2.1∈fs)=p3
    generalize decide (x.2.2.2.2.2∈fs)=p4
    cases p1<;>cases p2<;>cases p3<;>cases p4<;>simp
  ·intro rec i u x rest hi hd hr
   simp only[A5 hi,cond_true,l9 hd,b9,w9 hi (show ars.length<2^62 by omega)]
   rw[hr ()]
   simp only[List.any_cons]
   generalize decide (x.2.1∈nodes)=p3
   generalize decide (x.2.2.1∈nodes)=p4
   cases p3<;>cases p4<;>simp
 ·intro rec i u x rest hi hd hr
  have hdl:=N0 hd
  have e1:ns.length-(x::rest).length=i:=by simp;omega
  have e2:ns.length-rest.length=i+1:=by omega
  have e3:ns.take (i+1)=ns.take i++[x]:=by
   rw[List.take_add_one]
   have:ns[i]?=some x:=by rw[<- C3];exact l9 hd
   rw[this];rfl
  simp only[A5 hi,cond_true,l9 hd,b9,w9 hi (show ns.length<2^62 by omega),ra0 (Nat.le_of_lt hi)]
  simp only[e1,dupB]
  have hr':=hr ()
  rw[e2,e3]at hr'
  have hlt:(ns.take i).length<2^62:=by simp;omega
  refine(r9 (A:=Unit) (ns.take i) (fun i _=>(i:Int)) (fun _ r2=>some (bif (r2.any (ob0 x)||dupB (ns.take i++[x]) rest)then 8 else bif ars.any (fun a=>!(decide (a.2.1∈nodes)&&decide (a.2.2.1∈nodes)))then 7
 else bif ars.any (fun a=>!((decide (a.2.2.2.2.1=0)||decide (a.2.2.2.2.1∈fs))&&(decide (a.2.2.2.2.2=0)||decide (a.2.2.2.2.2∈fs))))then 12
 else 0)) (by omega) ?_ ?_ ()).trans rfl
  ·intro rec2 u
   simp only[A9,cond_false,hr',List.any_nil,Bool.false_or]
  ·intro rec2 j u y r2 hj hdj hrj
   have e4:(decide (x.2.1=y.2.1)&&decide (x.2.2=y.2.2))=ob0 x y:=rfl
   simp only[A5 hj,cond_true,l9 hdj,b9,w9 hj hlt,e4]
   rw[hrj ()]
   cases h:ob0 x y<;>simp[List.any_cons,h]
end Go.Ab
namespace Go.Ab
open Go
abbrev Ln:=Int×Int×Int×List Pt×Int×Int×List Pt
abbrev Sg:=Ln×Int
def Ln.path(l:Ln):List Pt:=l.2.2.2.2.2.2
def mkLn(a:Ar)(l:List Pt):Ln:=(a.1,a.2.1,a.2.2.1,a.2.2.2.1,a.2.2.2.2.1,a.2.2.2.2.2,l)
def iq0(a:Ar)(l:List Pt):List Sg:=(List.range (l.length-1)).map fun (i:Nat)=>(mkLn a l,(i:Int))
def ny0:List Pt->Bool
 | []=>true
 | [_]=>true
 | p::q::l=>!(eqP p q)&&ny0 (q::l)
def cF0(ns:List Nd)(ars:List Ar):List Ar->Option (List Sg)
 | []=>some []
 | a::as'=>match pathOf ns ars a.1 with
  | none=>none
  | some l=>bif (decide (a.2.1=a.2.2.1)&&decide (l.length<4))||!(ny0 l)then none else match cF0 ns ars as' with
   | some r=>some (iq0 a l++r)
   | none=>none
theorem wG0{β:Type}(a:Ar)(l:List Pt)(acc:List Sg)(K:List Sg×Int->Option β)(bad:β)(hl:l.length<=1000000)(hl2:2<=l.length)(hacc:acc.length<=300000000) :
  rounds (α:=List ((Int×Int×Int×List (Int×Int)×Int×Int×List (Int×Int))×Int)×Int) (β:=β) (fun k x =>
    b8 (some (decide (x.2<IntKind.i64.wrap ((l.length:Int)-1)))) fun v25 =>
    bif v25 then (
     b8 (nth l x.2) fun v26 =>
     b8 (some (IntKind.i64.wrap (x.2+(1:Int)))) fun v28 =>
     b8 (nth l v28) fun v29 =>
     b8 (some ((fun (a b:Int×Int)=>(decide (a.1=b.1)&&decide (a.2=b.2))) (v26.1,v26.2) (v29.1,v29.2))) fun v31 =>
     bif v31 then (
     some bad)else (
     b8 (Q5 16 x.1 [((a.1,a.2.1,a.2.2.1,a.2.2.2.1,a.2.2.2.2.1,a.2.2.2.2.2,l),x.2)]) fun v32 =>
     b8 (some (IntKind.i64.wrap (x.2+(1:Int)))) fun v33 =>
     k (v32,v33)))else K x) (acc,(0:Int))=bif ny0 l then K (acc++iq0 a l,(l.length:Int)-1)else some bad:=by
 cases l with
 | nil=>simp at hl2
 | cons p tl =>
  simp only[List.length_cons]at hl hl2
  have e0:IntKind.i64.wrap (((p::tl).length:Nat)-1:Int)=(tl.length:Int):=by rw[List.length_cons,w64 (by omega) (by omega)];omega
  simp only[b9,e0]
  refine(p8 (A:=List Sg) tl (fun i s=>(s,(i:Int))) (fun s rest=>bif ny0 ((p::tl).drop (tl.length-rest.length))then K (acc++iq0 a (p::tl),(tl.length:Int))else some bad)
   (fun i s=>s=acc++(List.range i).map fun (j:Nat)=>(mkLn a (p::tl),(j:Int))) (by omega) ?_ ?_ acc (by simp)).trans (by
    have:(((p::tl).length:Nat):Int)-1=tl.length:=by rw[List.length_cons];omega
    rw[this];simp)
  ·intro rec s hs
   have e1:ny0 ((p::tl).drop tl.length)=true:=by
    have:((p::tl).drop tl.length).length=1:=by simp
    match h:(p::tl).drop tl.length,this with
    | [x],_=>rfl
   simp only[A9,cond_false,List.length_nil,Nat.sub_zero,e1,cond_true]
   subst hs
   rfl
  ·intro rec i s x rest hi hI hd hr
   have hdl:=N0 hd
   have hrest:tl.length-(x::rest).length=i:=by simp;omega
   have hrest2:tl.length-rest.length=i+1:=by omega
   have e1:nth (p::tl) (i:Int)=some ((p::tl)[i]'(by simp;omega)):=by rw[C3];exact List.getElem?_eq_getElem _
   have e2:nth (p::tl) ((i+1:Nat):Int)=some x:=by rw[C3,List.getElem?_cons_succ,<-C3];exact l9 hd
   have e3:=w9 hi (show tl.length<2^62 by omega)
   have hx:(p::tl).drop (i+1)=x::rest:=by simpa using hd
   have hdr:(p::tl).drop i=(p::tl)[i]'(by simp;omega)::x::rest:=by rw[List.drop_eq_getElem_cons (by simp;omega),hx]
   rw[hrest,hdr]
   have hlen:s.length<=300000000+i:=by rw[hI];simp;omega
   simp only[A5 hi,cond_true,e1,b9,e3,e2]
   rw[C7 (by omega) (by simp;omega)]
   have e5:(decide (((p::tl)[i]'(by simp;omega)).1=x.1)&&decide (((p::tl)[i]'(by simp;omega)).2=x.2))=eqP ((p::tl)[i]'(by simp;omega)) x:=rfl
   simp only[b9,e5]
   rw[hr _ (by rw[hI,List.range_succ,List.map_append];simp[mkLn]),hrest2,hx]
   simp only[ny0]
   cases eqP ((p::tl)[i]'(by simp;omega)) x<;>simp
structure pt0(s:Sg):Prop where
 lo:0<=s.2
 hi:s.2+1<s.1.path.length
 len:s.1.path.length<=1000000
def sgA(s:Sg):Pt:=(s.1.path[s.2.toNat]?).getD (0,0)
def sgB(s:Sg):Pt:=(s.1.path[s.2.toNat+1]?).getD (0,0)
theorem hf0{s:Sg}(h:pt0 s):u5 s=some (sgA s,sgB s):=by
 obtain⟨l,i⟩:=s
 obtain⟨h1,h2,h3⟩:=h
 simp only at h1 h2 h3
 unfold u5 sgA sgB
 have e1:IntKind.i64.wrap (i+1)=i+1:=w64 (by omega) (by omega)
 have e2:nth l.path i=some (l.path[i.toNat]'(by omega)):=by rw[mP0 h1];exact List.getElem?_eq_getElem _
 have e3:nth l.path (i+1)=some (l.path[i.toNat+1]'(by omega)):=by
  rw[mP0 (by omega)]
  have:(i+1).toNat=i.toNat+1:=by omega
  rw[this];exact List.getElem?_eq_getElem _
 simp only[b9,e1]
 show b8 (nth l.path i) _=_
 rw[e2]
 simp only[b9]
 show b8 (nth l.path (i+1)) _=_
 rw[e3]
 simp only[b9]
 have e4:l.path[i.toNat]?=some (l.path[i.toNat]'(by omega)):=List.getElem?_eq_getElem _
 have e5:l.path[i.toNat+1]?=some (l.path[i.toNat+1]'(by omega)):=List.getElem?_eq_getElem _
 rw[e4,e5]
 rfl
def sgW(s:Sg):Int:=min (sgA s).1 (sgB s).1
def sgE(s:Sg):Int:=max (sgA s).1 (sgB s).1
theorem mQ0{s:Sg}(h:pt0 s):B2 s=some (sgW s):=by
 unfold B2
 have:u5 (s.1,s.2)=some (sgA s,sgB s):=hf0 h
 simp only[this,b9,qO0]
 rfl
theorem vb0{s:Sg}(h:pt0 s):F7 s=some (sgE s):=by
 unfold F7
 have:u5 (s.1,s.2)=some (sgA s,sgB s):=hf0 h
 simp only[this,b9,eP0]
 rfl
def bj0(s:Sg):Bool:=decide (s.2=0)
def cO0(s:Sg):Bool:=decide (s.2=(s.1.path.length:Int)-2)
theorem ns0(s:Sg):A4 s=some (bj0 s):=by
 unfold A4 bj0;simp
theorem nh0{s:Sg}(h:pt0 s):w6 s=some (cO0 s):=by
 unfold w6 cO0
 have hl:=h.len
 have e:IntKind.i64.wrap ((s.1.path.length:Int)-2)=(s.1.path.length:Int)-2:=w64 (by omega) (by omega)
 simp only[b9]
 show some (decide (s.2=IntKind.i64.wrap ((s.1.path.length:Int)-2)))=_
 rw[e]
theorem qr0{a:Ar}{l:List Pt}{s:Sg}(h:s∈iq0 a l):∃ i:Nat,i+1<l.length/\s=(mkLn a l,(i:Int)):=by
 unfold iq0 at h
 obtain⟨i,hi,rfl⟩:=List.mem_map.1 h
 rw[List.mem_range]at hi
 exact⟨i,by omega,rfl⟩
theorem tR0{a:Ar}{l:List Pt}(hl:l.length<=1000000){s:Sg}(h:s∈iq0 a l):pt0 s:=by
 obtain⟨i,hi,rfl⟩:=qr0 h
 exact⟨by simp,by show ((i:Int)+1<(l.length:Int));omega,hl⟩
def mkMap(ns:List Nd)(m:List (Int×Pt)):List (Int×Pt):=ns.foldl (fun m n=>V9 (fun (a b:Int)=>decide (a=b)) n.1 (n.2.1,n.2.2) m) m
abbrev qI:Int->Int->Bool:=fun a b=>decide (a=b)
theorem oY0(a b:Int):qI a b=decide (a=b):=rfl
theorem ba0{V:Type}(k k':Int)(v:V):∀ m:List (Int×V),lkp qI k (V9 qI k' v m)=if k=k' then some v else lkp qI k m
 | []=>by
  by_cases h:k=k'<;>simp[V9,lkp,h,oY0]
 | p::m=>by
  have ih:=ba0 k k' v m
  simp only[V9,oY0]
  by_cases h1:k'=p.1
  ·simp only[h1,decide_true,cond_true,lkp,oY0]
   by_cases h:k=p.1<;>simp[h]
  ·simp only[h1,decide_false,cond_false,lkp,oY0]
   by_cases h:k=p.1
   ·have:¬ k=k':=fun e=>h1 (by rw[<- e,h])
    simp[h]
    exact fun e=>absurd e.symm h1
   ·have ih':lkp (fun a b=>decide (a=b)) k (V9 qI k' v m)=if k=k' then some v else lkp qI k m:=ih
    simp[h]
    exact ih
def fK0(m:List (Int×Pt))(id:Int):Pt:=(lkp qI id m).getD (0,0)
def hM0(s t:Sg)(m:List (Int×Pt)):Bool :=
 let c:=rp0 (sgA s) (sgB s) (sgA t) (sgB t)
 bif decide (s.1.1=t.1.1)then
  (bif decide (t.2<s.2)then
   (bif decide (t.2+1=s.2)||(decide (t.1.2.1=t.1.2.2.1)&&(bj0 t&&cO0 s))then decide (c=1)else decide (c=0))
  else (bif decide (s.2+1=t.2)||(decide (s.1.2.1=s.1.2.2.1)&&(bj0 s&&cO0 t))then decide (c=1)else decide (c=0)))
 else bif decide (c=1)then
  ((decide (s.1.2.1=t.1.2.1)||decide (s.1.2.1=t.1.2.2.1))&&(onP (sgA s) (sgB s) (fK0 m s.1.2.1)&&onP (sgA t) (sgB t) (fK0 m s.1.2.1))) ||
  ((decide (s.1.2.2.1=t.1.2.1)||decide (s.1.2.2.1=t.1.2.2.1))&&(onP (sgA s) (sgB s) (fK0 m s.1.2.2.1)&&onP (sgA t) (sgB t) (fK0 m s.1.2.2.1)))
 else decide (c=0)
theorem rJ0(m:List (Int×Pt))(id:Int):orO (lkp (fun (a b:Int)=>decide (a=b)) id m) (some ((0:Int),(0:Int)))=some (fK0 m id):=by
 unfold fK0
 show orO (lkp qI id m) _=_
 cases lkp qI id m<;>rfl
theorem kl0{s t:Sg}(hs:pt0 s)(ht:pt0 t)(m:List (Int×Pt)):J8 (s,t,m)=some (hM0 s t m):=by
 have hsl:=hs.hi
 have htl:=ht.hi
 have hs1:=hs.len
 have ht1:=ht.len
 have hs0:=hs.lo
 have ht0:=ht.lo
 have e1:u5 (s.1,s.2)=some (sgA s,sgB s):=hf0 hs
 have e2:u5 (t.1,t.2)=some (sgA t,sgB t):=hf0 ht
 have e3:∀ a b c d:Pt,bp0 ((a.1,a.2),(b.1,b.2),(c.1,c.2),(d.1,d.2))=some (rp0 a b c d):=fun a b c d=>mc0 a b c d
 have e4:∀ a b c:Pt,y4 ((a.1,a.2),(b.1,b.2),(c.1,c.2))=some (onP a b c):=fun a b c=>M0 a b c
 have e5:∀ s:Sg,A4 (s.1,s.2)=some (bj0 s):=fun s=>ns0 s
 have e6:w6 (s.1,s.2)=some (cO0 s):=nh0 hs
 have e7:w6 (t.1,t.2)=some (cO0 t):=nh0 ht
 have e8:IntKind.i64.wrap (t.2+1)=t.2+1:=w64 (by omega) (by omega)
 have e9:IntKind.i64.wrap (s.2+1)=s.2+1:=w64 (by omega) (by omega)
 unfold J8 hM0
 simp only[e1,e2,e3,e4,e5,e6,e7,e8,e9,b9,rJ0]
 generalize rp0 (sgA s) (sgB s) (sgA t) (sgB t)=c
 generalize onP (sgA s) (sgB s) (fK0 m s.1.2.1)=o1
 generalize onP (sgA t) (sgB t) (fK0 m s.1.2.1)=o2
 generalize onP (sgA s) (sgB s) (fK0 m s.1.2.2.1)=o3
 generalize onP (sgA t) (sgB t) (fK0 m s.1.2.2.1)=o4
 generalize bj0 s=f1
 generalize bj0 t=f2
 generalize cO0 s=l1
 generalize cO0 t=l2
 generalize decide (s.1.2.1=t.1.2.1)=d1
 generalize decide (s.1.2.1=t.1.2.2.1)=d2
 generalize decide (s.1.2.2.1=t.1.2.1)=d3
 generalize decide (s.1.2.2.1=t.1.2.2.1)=d4
 generalize decide (c=1)=c1
 generalize decide (c=0)=c0
 generalize decide (t.2+1=s.2)=g1
 generalize decide (s.2+1=t.2)=g2
 generalize decide (s.1.2.1=s.1.2.2.1)=g3
 generalize decide (t.1.2.1=t.1.2.2.1)=g4
 generalize decide (t.2<s.2)=g5
 cases decide (s.1.1=t.1.1)
 ·cases c1
  ·rfl
  ·cases d1<;>cases d2<;>cases d3<;>cases d4<;>cases o1<;>cases o2<;>cases o3<;>cases o4<;>rfl
 ·cases g5
  ·cases g2<;>cases g3<;>cases f1<;>cases l2<;>rfl
  ·cases g1<;>cases g4<;>cases f2<;>cases l1<;>rfl
end Go.Ab
namespace Go.Ab
open Go Go.Sort Go.Proofs Go.Shelf
def pV0(a b:Int):Int:=if a<b then -1 else if b<a then 1 else 0
theorem cmp_eq(a b:Int):y0 (a,b)=some (pV0 a b):=by
 have h:∀ n,C2 n=some false:=fun n=>by unfold C2;simp
 unfold y0 pV0
 simp only[h,b9,cond_false]
 by_cases h1:a<b
 ·simp[h1]
 ·by_cases h2:b<a<;>simp[h1,h2]
theorem df0{a b:Int}:pV0 a b<0↔a<b:=by
 unfold pV0
 by_cases h1:a<b
 ·simp[h1]
 ·by_cases h2:b<a<;>simp[h1,h2]
def qI0(s t:Sg):Int:=pV0 (sgW s) (sgW t)
theorem fT0(l:List Sg):Ordered qI0 l :=
 fh0 (fun x _=>by unfold qI0;rw[df0];omega) (fun x _ y _ z _ a b=>by unfold qI0 at *;rw[df0]at *;omega) (fun x _ y _ z _ a b=>by unfold qI0 at *;rw[df0]at *;omega)
theorem ne0{l:List Sg}(hs:∀ s∈l,pt0 s)(hl:l.length<4611686018427387904):slices_SortFunc_plan_segment_plan_planar_1 (l,2,())=some (Z0 qI0 l):=by
 unfold slices_SortFunc_plan_segment_plan_planar_1
 simp only[decide_true,cond_true]
 refine kk0 (fun x hx y hy=>?_) (fT0 l) hl
 unfold T4
 have e1:B2 (x.1,x.2)=some (sgW x):=mQ0 (hs x hx)
 have e2:B2 (y.1,y.2)=some (sgW y):=mQ0 (hs y hy)
 simp only[e1,e2,b9,cmp_eq]
 rfl
def dm0(s:Sg)(n:Nd):Bool:=!(onP (sgA s) (sgB s) (n.2.1,n.2.2))||((bj0 s&&decide (s.1.2.1=n.1))||(cO0 s&&decide (s.1.2.2.1=n.1)))
def iU0(s:Sg)(m:List (Int×Pt)):List Sg->Bool
 | []=>true
 | t::r=>bif decide (sgE s<sgW t)then true else hM0 s t m&&iU0 s m r
def goB(ns:List Nd)(m:List (Int×Pt)):List Sg->Bool
 | []=>true
 | s::r=>iU0 s m r&&(ns.all (dm0 s)&&goB ns m r)
def cB0(ns:List Nd)(ars:List Ar):Bool:=match cF0 ns ars ars with
 | none=>false
 | some l=>goB ns (mkMap ns []) (Z0 qI0 l)
theorem qJ0(ns:List Nd)(hn:ns.length<=1000000){s:Sg}(hs:pt0 s)(K:Option Bool) :
  rounds (α:=Int) (β:=Bool) (fun k x =>
   b8 (some (decide (x<(ns.length:Int)))) fun v34 =>
   bif v34 then (
    b8 (nth ns x) fun v35 =>
    b8 (u5 (s.1,s.2)) fun v38 =>
    b8 (y4 ((v38.1.1,v38.1.2),(v38.2.1,v38.2.2),(v35.2.1,v35.2.2))) fun v42 =>
    bif v42 then (
    b8 (A4 (s.1,s.2)) fun v43 =>
    bif v43 then (
     b8 (some ()) fun v44 =>
     b8 (some s.1) fun v44 =>
     b8 (some (decide (v44.2.1=v35.1))) fun v51 =>
     b8 (some (!(v51))) fun v52 =>
     bif v52 then (
     b8 (w6 (s.1,s.2)) fun v53 =>
     bif v53 then (
      b8 (some ()) fun v54 =>
      b8 (some s.1) fun v54 =>
      b8 (some (decide (v54.2.2.1=v35.1))) fun v61 =>
      b8 (some (!(v61))) fun v62 =>
      bif v62 then (
      some false)else (
      b8 (some (IntKind.i64.wrap (x+(1:Int)))) fun v63 =>
      k v63))else (
      some false))else (
     b8 (some (IntKind.i64.wrap (x+(1:Int)))) fun v53 =>
     k v53))else (
     b8 (w6 (s.1,s.2)) fun v44 =>
     bif v44 then (
     b8 (some ()) fun v45 =>
     b8 (some s.1) fun v45 =>
     b8 (some (decide (v45.2.2.1=v35.1))) fun v52 =>
     b8 (some (!(v52))) fun v53 =>
     bif v53 then (
      some false)else (
      b8 (some (IntKind.i64.wrap (x+(1:Int)))) fun v54 =>
      k v54))else (
     some false)))else (
    b8 (some (IntKind.i64.wrap (x+(1:Int)))) fun v43 =>
    k v43))else K) (0:Int)=bif ns.all (dm0 s)then K else some false:=by
 have e1:u5 (s.1,s.2)=some (sgA s,sgB s):=hf0 hs
 have e4:∀ a b c:Pt,y4 ((a.1,a.2),(b.1,b.2),(c.1,c.2))=some (onP a b c):=fun a b c=>M0 a b c
 have e5:A4 (s.1,s.2)=some (bj0 s):=ns0 s
 have e6:w6 (s.1,s.2)=some (cO0 s):=nh0 hs
 refine(r9 (A:=Unit) ns (fun i _=>(i:Int)) (fun _ rest=>bif rest.all (dm0 s)then K else some false) (by omega) ?_ ?_ ()).trans rfl
 ·intro rec u;simp
 ·intro rec i u x rest hi hd hr
  have e7:y4 (((sgA s).1,(sgA s).2),((sgB s).1,(sgB s).2),(x.2.1,x.2.2))=some (onP (sgA s) (sgB s) (x.2.1,x.2.2)):=e4 _ _ (x.2.1,x.2.2)
  simp only[A5 hi,cond_true,l9 hd,b9,w9 hi (show ns.length<2^62 by omega),e1,e5,e6,e7]
  rw[hr (),List.all_cons]
  unfold dm0
  generalize onP (sgA s) (sgB s) (x.2.1,x.2.2)=o
  generalize bj0 s=f
  generalize cO0 s=l
  generalize decide (s.1.2.1=x.1)=d1
  generalize decide (s.1.2.2.1=x.1)=d2
  cases o<;>cases f<;>cases l<;>cases d1<;>cases d2<;>rfl
theorem rq0(a:Ar)(l:List Pt):(iq0 a l).length=l.length-1:=by simp[iq0]
theorem pz0(ns:List Nd){β:Type}(hn:ns.length<=1000000)(K:Int×List (Int×Pt)->Option β) :
  rounds (α:=Int×List (Int×(Int×Int))) (β:=β) (fun k9 x9 =>
   b8 (some (decide (x9.1<(ns.length:Int)))) fun v12 =>
   bif v12 then (
   b8 (nth ns x9.1) fun v13 =>
   b8 (some (V9 (fun (a b:Int)=>decide (a=b)) v13.1 (v13.2.1,v13.2.2) x9.2)) fun v16 =>
   b8 (some (IntKind.i64.wrap (x9.1+(1:Int)))) fun v17 =>
   k9 (v17,v16))else K x9) ((0:Int),([]:List (Int×(Int×Int))))=K ((ns.length:Int),mkMap ns []):=by
 refine(r9 (A:=List (Int×Pt)) ns (fun i m=>((i:Int),m)) (fun m rest=>K ((ns.length:Int),mkMap rest m)) (by omega) ?_ ?_ []).trans rfl
 ·intro rec m
  simp[mkMap]
 ·intro rec i m x rest hi hd hr
  simp only[A5 hi,cond_true,l9 hd,b9,w9 hi (show ns.length<2^62 by omega)]
  rw[hr]
  rfl
theorem iG0(ns:List Nd)(ars:List Ar)(fs:List Int)(hn:ns.length<=1000)(ha:ars.length<=1000)(hv:∀ a∈ars,a.2.2.2.1.length<=1000):az0 (ns,ars,fs)=some (cB0 ns ars):=by
 have hpath:∀ id,E9 ((ns,ars,fs),id)=some (match pathOf ns ars id with | some l=>(l,0) | none=>([],7)):=fun id=>fR0 ns ars fs id (by omega) (by omega) (fun a h=>by have:=hv a h;omega)
 have hplen:∀ id l,pathOf ns ars id=some l->2<=l.length/\l.length<=1002:=fun id l h=>by
  obtain⟨a,h1,h2⟩:=pp0 h
  have:=hv a (lF0 h1)
  omega
 have mkM:=fun K=>pz0 ns (β:=Bool) (by omega) K
 have alone:=fun (s:Sg) (hs:pt0 s) K=>qJ0 ns (by omega) hs K
 have sLoop:=fun (a:Ar) (l:List Pt) (acc:List Sg) (h1:l.length<=1000000) (h2:2<=l.length) (h3:acc.length<=300000000) K=>wG0 (β:=Bool) a l acc K false h1 h2 h3
 simp only[b9]at mkM alone sLoop
 unfold az0 cB0
 simp only[b9,hpath]
 refine(p8 (A:=List Sg) ars (fun i s=>(s,(i:Int))) (fun s rest=>some (match cF0 ns ars rest with | none=>false | some l=>goB ns (mkMap ns []) (Z0 qI0 (s++l)))) (fun i s=>s.length<=1002*i/\∀ x∈s,pt0 x) (by omega) ?_ ?_ [] ⟨by simp,by simp⟩).trans (by simp)
 ·intro rec s hI
  simp only[A9,cond_false,cF0,List.append_nil]
  refine(mkM _).trans ?_
  obtain⟨hI1,hI2⟩:=hI
  have hlen:s.length<=1002000:=by
   have:1002*ars.length<=1002*1000:=Nat.mul_le_mul_left _ ha
   omega
  simp only[b9,ne0 hI2 (by omega)]
  have hperm:=S5 (fT0 s)
  have hok:∀ x∈Z0 qI0 s,pt0 x:=fun x hx=>hI2 x (hperm.mem_iff.1 hx)
  have hl2:(Z0 qI0 s).length<=1002000:=by rw[hperm.length_eq];exact hlen
  generalize Z0 qI0 s=l at hok hl2
  refine(r9 (A:=Unit) l (fun i _=>(i:Int)) (fun _ rest=>some (goB ns (mkMap ns []) rest)) (by omega) ?_ ?_ ()).trans rfl
  ·intro rec u;simp[goB]
  ·intro rec i u x rest hi hd hr
   have hdl:=N0 hd
   have hx:=hok x hdl.2.2
   have hrest:l.drop (i+1)=rest:=by
    have:=congrArg List.tail hd
    simpa using this
   have hsl:td0 l (some ((i+1:Nat):Int)) none=some rest:=by
    rw[rl0 (by omega) (by omega)]
    have:((i+1:Nat):Int).toNat=i+1:=by omega
    rw[this,hrest]
   simp only[A5 hi,cond_true,l9 hd,b9,w9 hi (show l.length<2^62 by omega),hsl]
   have hrok:∀ t∈rest,pt0 t:=fun t ht=>hok t (by rw[<- hrest]at ht;exact List.mem_of_mem_drop ht)
   have hK:∀ v,rec v=rec v:=fun _=>rfl
   refine(r9 (A:=Unit) rest (fun j _=>(j:Int)) (fun _ r=>bif iU0 x (mkMap ns []) r then (bif ns.all (dm0 x)then some (goB ns (mkMap ns []) rest)else some false)else some false) (by omega) ?_ ?_ ()).trans ?_
   ·intro rec2 u
    simp only[A9,cond_false,iU0,cond_true]
    rw[alone x hx,hr ()]
   ·intro rec2 j u t r hj hdj hrj
    have ht:=hrok t (N0 hdj).2.2
    have e1:B2 (t.1,t.2)=some (sgW t):=mQ0 ht
    have e2:F7 (x.1,x.2)=some (sgE x):=vb0 hx
    have e3:J8 ((x.1,x.2),(t.1,t.2),mkMap ns [])=some (hM0 x t (mkMap ns [])):=kl0 hx ht _
    simp only[A5 hj,cond_true,l9 hdj,b9,w9 hj (show rest.length<2^62 by omega),e1,e2,e3]
    rw[alone x hx,hr (),hrj ()]
    simp only[iU0]
    generalize decide (sgE x<sgW t)=p1
    generalize hM0 x t (mkMap ns [])=p2
    cases p1<;>cases p2<;>simp
   ·simp only[goB]
    generalize iU0 x (mkMap ns []) rest=p1
    generalize ns.all (dm0 x)=p2
    cases p1<;>cases p2<;>simp
 ·intro rec i s x rest hi hI hd hr
  obtain⟨hI1,hI2⟩:=hI
  have hi1000:1002*i<=1002*1000:=Nat.mul_le_mul_left _ (by omega)
  simp only[A5 hi,cond_true,l9 hd,b9,w9 hi (show ars.length<2^62 by omega),cF0]
  cases hp:pathOf ns ars x.1 with
  | none=>simp
  | some l =>
   obtain⟨hl1,hl2⟩:=hplen _ _ hp
   have fin:rec (s++iq0 x l,((i+1:Nat):Int))=some (match cF0 ns ars rest with | none=>false | some l'=>goB ns (mkMap ns []) (Z0 qI0 ((s++iq0 x l)++l'))):=hr _ ⟨by rw[List.length_append,rq0];omega,fun y hy=>by
    rcases List.mem_append.1 hy with hy | hy
    ·exact hI2 y hy
    ·exact tR0 (by omega) hy⟩
   simp only[decide_true,Bool.not_true,cond_false]
   have key:=sLoop x l s (by omega) hl1 (by omega) (fun s'=>rec (s'.1,((i+1:Nat):Int)))
   by_cases hc:x.2.1=x.2.2.1
   ·simp only[hc,decide_true,cond_true,Bool.true_and]
    by_cases h4:l.length<4
    ·have:decide ((l.length:Int)<4)=true:=by simp only[decide_eq_true_eq];omega
     simp[this,h4]
    ·have h4':decide ((l.length:Int)<4)=false:=by simp only[decide_eq_false_iff_not];omega
     simp only[h4',cond_false,h4,decide_false,Bool.false_or]
     rw[hc]at key
     refine key.trans ?_
     cases ny0 l with
     | false=>simp
     | true =>
      simp only[cond_true,Bool.not_true,cond_false,fin]
      cases cF0 ns ars rest<;>simp
   ·simp only[hc,decide_false,cond_false,Bool.false_and,Bool.false_or]
    refine key.trans ?_
    cases ny0 l with
    | false=>simp
    | true =>
     simp only[cond_true,Bool.not_true,cond_false,fin]
     cases cF0 ns ars rest<;>simp
end Go.Ab
namespace Go.Ab
open Go
def dK0(ns:List Nd)(ars:List Ar)(fs:List Int):Bool:=decide (ns.length<=256)&&(decide (ars.length<=256)&&(decide (fs.length<=64)&&ars.all fun a=>decide (a.2.2.2.1.length<=64)))
def M8(ns:List Nd)(ars:List Ar)(fs:List Int):Int :=
 bif !(dK0 ns ars fs)then 3
 else bif !(gv0 (ns.map (·.1))&&(gv0 (ars.map (·.1))&&gv0 fs))then 10
 else bif !((ns.map (·.1)).all hD0&&((ars.map (·.1)).all hD0&&(fs.all hD0&&((ns.all fun n=>dF0 (n.2.1,n.2.2))&&(ars.all fun a=>a.2.2.2.1.all dF0)))))then 2
 else bif !decide (ag0 ns ars fs (ns.map (·.1))=0)then ag0 ns ars fs (ns.map (·.1))
 else bif !(cB0 ns ars)then 11 else 0
theorem cc0(ns:List Nd)(ars:List Ar)(fs:List Int):as0 (ns,ars,fs)=some (M8 ns ars fs):=by
 unfold as0 M8 dK0
 simp only[b9]
 by_cases h1:ns.length<=256
 rotate_left
 ·have:(256:Int)<(ns.length:Int):=by omega
  simp[h1,this]
 by_cases h2:ars.length<=256
 rotate_left
 ·have a1:¬ (256:Int)<(ns.length:Int):=by omega
  have:(256:Int)<(ars.length:Int):=by omega
  simp[h2,a1,this]
 by_cases h3:fs.length<=64
 rotate_left
 ·have a1:¬ (256:Int)<(ns.length:Int):=by omega
  have a2:¬ (256:Int)<(ars.length:Int):=by omega
  have:(64:Int)<(fs.length:Int):=by omega
  simp[h3,a1,a2,this]
 have a1:decide ((256:Int)<(ns.length:Int))=false:=by simp only[decide_eq_false_iff_not];omega
 have a2:decide ((256:Int)<(ars.length:Int))=false:=by simp only[decide_eq_false_iff_not];omega
 have a3:decide ((64:Int)<(fs.length:Int))=false:=by simp only[decide_eq_false_iff_not];omega
 simp only[a1,a2,a3,cond_false,h1,h2,h3,decide_true,Bool.true_and]
 refine(p8 (A:=Unit) ars (fun i _=>(i:Int)) (fun _ rest=>some (bif !(rest.all fun a=>decide (a.2.2.2.1.length<=64))then 3
 else bif !(gv0 (ns.map (·.1))&&(gv0 (ars.map (·.1))&&gv0 fs))then 10
 else bif !((ns.map (·.1)).all hD0&&((ars.map (·.1)).all hD0&&(fs.all hD0&&((ns.all fun n=>dF0 (n.2.1,n.2.2))&&(ars.all fun a=>a.2.2.2.1.all dF0)))))then 2
 else bif !decide (ag0 ns ars fs (ns.map (·.1))=0)then ag0 ns ars fs (ns.map (·.1))
 else bif !(cB0 ns ars)then 11 else 0)) (fun i _=>∀ a∈ars.take i,a.2.2.2.1.length<=64) (by omega) ?_ ?_ () (by simp)).trans rfl
 ·intro rec u hI
  rw[List.take_length]at hI
  have hv:∀ a∈ars,a.2.2.2.1.length<=900000:=fun a ha=>by have:=hI a ha;omega
  simp only[A9,cond_false,List.all_nil,Bool.not_true,dV0 ns ars fs (by omega) (by omega),b9,V0 _ (show (ns.map (·.1)).length<2^62 by simp;omega),V0 _ (show (ars.map (·.1)).length<2^62 by simp;omega),
   V0 fs (by omega),Z2 _ (show (ns.map (·.1)).length<2^62 by simp;omega),Z2 _ (show (ars.map (·.1)).length<2^62 by simp;omega),Z2 fs (by omega),iE0 ns ars fs (by omega) (by omega) hv,
   fc0 ns ars fs (ns.map (·.1)) (by omega) (by omega) (by omega) (by simp;omega),iG0 ns ars fs (by omega) (by omega) (fun a ha=>by have:=hI a ha;omega)]
  generalize gv0 (ns.map (·.1))=p1
  generalize gv0 (ars.map (·.1))=p2
  generalize gv0 fs=p3
  generalize (ns.map (·.1)).all hD0=p4
  generalize (ars.map (·.1)).all hD0=p5
  generalize fs.all hD0=p6
  generalize ag0 ns ars fs (ns.map (·.1))=c
  generalize cB0 ns ars=p9
  generalize ((ns.all fun n=>dF0 (n.2.1,n.2.2))&&(ars.all fun a=>a.2.2.2.1.all dF0))=p7
  cases p1
  ·rfl
  cases p2
  ·rfl
  cases p3
  ·rfl
  cases p4
  ·rfl
  cases p5
  ·rfl
  cases p6
  ·rfl
  cases p7
  ·rfl
  simp only[Bool.not_true,cond_false,Bool.and_self]
  cases decide (c=0)
  ·rfl
  cases p9<;>rfl
 ·intro rec i u x rest hi hI hd hr
  simp only[A5 hi,cond_true,l9 hd,b9,w9 hi (show ars.length<2^62 by omega),List.all_cons]
  by_cases h:x.2.2.2.1.length<=64
  ·have e:decide ((64:Int)<(x.2.2.2.1.length:Int))=false:=by simp only[decide_eq_false_iff_not];omega
   simp only[e,cond_false,h,decide_true,Bool.true_and]
   refine hr () ?_
   have:ars[i]?=some x:=by rw[<- C3];exact l9 hd
   intro a ha
   rw[List.take_add_one,this]at ha
   rcases List.mem_append.1 ha with ha | ha
   ·exact hI a ha
   ·simp at ha;subst ha;exact h
  ·have e:decide ((64:Int)<(x.2.2.2.1.length:Int))=true:=by simp only[decide_eq_true_eq];omega
   simp[e,h]
end Go.Ab
namespace Go.Ab
open Go
def upV(u:Pt):Prop:=0<u.2\/u.2=0/\0<u.1
def cr(u v:Pt):Int:=u.1*v.2-u.2*v.1
theorem cr_id(u v w:Pt):v.2*cr u w=u.2*cr v w+w.2*cr u v:=by
 unfold cr
 simp only[Int.mul_sub,<-Int.mul_assoc]
 have a1:v.2*u.1*w.2=w.2*u.1*v.2:=by rw[Int.mul_comm v.2,Int.mul_comm (w.2*u.1),Int.mul_comm w.2,<-Int.mul_assoc,Int.mul_comm v.2]
 have a2:v.2*u.2*w.1=u.2*v.2*w.1:=by rw[Int.mul_comm v.2]
 have a3:w.2*u.2*v.1=u.2*v.1*w.2:=by rw[Int.mul_comm w.2,Int.mul_assoc,Int.mul_assoc,Int.mul_comm w.2]
 omega
theorem mB0(u v:Pt):cr v u=- cr u v:=by
 unfold cr
 have a1:v.1*u.2=u.2*v.1:=Int.mul_comm _ _
 have a2:v.2*u.1=u.1*v.2:=Int.mul_comm _ _
 omega
theorem wX0(u:Pt):cr u u=0:=by
 have:=mB0 u u
 omega
theorem ov0{u v w:Pt}(hu:upV u)(hv:upV v)(hw:upV w)(h1:0<cr u v)(h2:0<cr v w):0<cr u w:=by
 have hid:=cr_id u v w
 have hu0:0<=u.2:=by unfold upV at hu;omega
 have hw0:0<=w.2:=by unfold upV at hw;omega
 rcases hv with hv | ⟨hv,hv2⟩
 ·by_cases hu1:0<u.2
  ·have p1:=Int.mul_pos hu1 h2
   have p2:=Int.mul_nonneg hw0 (Int.le_of_lt h1)
   exact Int.pos_of_mul_pos_right (a:=v.2) (by omega) hv |> fun h=>h
  ·by_cases hw1:0<w.2
   ·have p1:=Int.mul_nonneg hu0 (Int.le_of_lt h2)
    have p2:=Int.mul_pos hw1 h1
    exact Int.pos_of_mul_pos_right (a:=v.2) (by omega) hv |> fun h=>h
   ·exfalso
    have e1:w.2=0:=by omega
    have e2:0<w.1:=by unfold upV at hw;omega
    have:cr v w=- (v.2*w.1):=by unfold cr;rw[e1];omega
    have:=Int.mul_pos hv e2
    omega
 ·exfalso
  have:cr u v=- (u.2*v.1):=by unfold cr;rw[hv];omega
  have:=Int.mul_nonneg hu0 (Int.le_of_lt hv2)
  omega
theorem lS0{u v w:Pt}(hu:upV u)(hv:upV v)(hw:upV w)(h1:cr u v<=0)(h2:cr v w<=0):cr u w<=0:=by
 have hid:=cr_id u v w
 have hu0:0<=u.2:=by unfold upV at hu;omega
 have hw0:0<=w.2:=by unfold upV at hw;omega
 rcases hv with hv | ⟨hv,hv2⟩
 ·have p1:=Int.mul_nonneg hu0 (show 0<=- cr v w by omega)
  have p2:=Int.mul_nonneg hw0 (show 0<=- cr u v by omega)
  rw[Int.mul_neg]at p1 p2
  by_cases h:cr u w<=0
  ·exact h
  ·have:=Int.mul_pos hv (show 0<cr u w by omega)
   omega
 ·have e1:cr v w=v.1*w.2:=by unfold cr;rw[hv];omega
  have e2:w.2=0:=by
   by_cases h:0<w.2
   ·have:=Int.mul_pos hv2 h;omega
   ·omega
  have:cr u w=- (u.2*w.1):=by unfold cr;rw[e2];omega
  have e3:0<w.1:=by unfold upV at hw;omega
  have:=Int.mul_nonneg hu0 (Int.le_of_lt e3)
  omega
def vec(o p:Pt):Pt:=(p.1-o.1,p.2-o.2)
def ngV(u:Pt):Pt:=(-u.1,-u.2)
theorem bJ0(o p:Pt)(h:p≠o):Q1 o p=false↔upV (vec o p):=by
 unfold Q1 upV vec
 have:¬ (p.1=o.1/\p.2=o.2):=fun e=>h (Prod.ext e.1 e.2)
 simp only[Bool.or_eq_false_iff,Bool.and_eq_false_iff,decide_eq_false_iff_not]
 omega
theorem aq0(o p:Pt)(h:p≠o):Q1 o p=true↔upV (ngV (vec o p)):=by
 unfold Q1 upV vec ngV
 have:¬ (p.1=o.1/\p.2=o.2):=fun e=>h (Prod.ext e.1 e.2)
 simp only[Bool.or_eq_true,Bool.and_eq_true,decide_eq_true_eq]
 omega
theorem cr_ng(u v:Pt):cr (ngV u) (ngV v)=cr u v:=by
 unfold cr ngV
 simp only[Int.neg_mul_neg]
def qy0(o p:Pt):Prop:=B7 p=true/\p≠o
theorem dR0{o a b:Pt}(ho:B7 o=true)(ha:qy0 o a)(hb:qy0 o b):bv0 o a b=if Q1 o a=Q1 o b then decide (0<cr (vec o a) (vec o b))else Q1 o b:=by
 unfold bv0
 have e1:eqP a o=false:=by
  cases h:eqP a o with
  | false=>rfl
  | true=>exact absurd ((mh0 a o).1 h) ha.2
 have e2:eqP b o=false:=by
  cases h:eqP b o with
  | false=>rfl
  | true=>exact absurd ((mh0 b o).1 h) hb.2
 simp only[ho,ha.1,hb.1,e1,e2,Bool.and_self,Bool.not_false,Bool.true_and]
 rfl
theorem mA0{o a:Pt}(ho:B7 o=true)(ha:qy0 o a):bv0 o a a=false:=by
 rw[dR0 ho ha ha,if_pos rfl];simp[wX0]
theorem pq0{o a b c:Pt}(ho:B7 o=true)(ha:qy0 o a)(hb:qy0 o b)(hc:qy0 o c)(h1:bv0 o a b=true)(h2:bv0 o b c=true):bv0 o a c=true:=by
 rw[dR0 ho ha hb]at h1
 rw[dR0 ho hb hc]at h2
 rw[dR0 ho ha hc]
 cases hla:Q1 o a<;>cases hlb:Q1 o b<;>cases hlc:Q1 o c<;>simp only[hla,hlb,hlc,if_true,if_false,Bool.false_eq_true,Bool.true_eq_false]at h1 h2 ⊢
 ·exact decide_eq_true (ov0 ((bJ0 o a ha.2).1 hla) ((bJ0 o b hb.2).1 hlb) ((bJ0 o c hc.2).1 hlc) (of_decide_eq_true h1) (of_decide_eq_true h2))
 ·refine decide_eq_true ?_
  have g1:=of_decide_eq_true h1
  have g2:=of_decide_eq_true h2
  rw[<- cr_ng]at g1 g2 ⊢
  exact ov0 ((aq0 o a ha.2).1 hla) ((aq0 o b hb.2).1 hlb) ((aq0 o c hc.2).1 hlc) g1 g2
theorem na0{o a b c:Pt}(ho:B7 o=true)(ha:qy0 o a)(hb:qy0 o b)(hc:qy0 o c)(h1:bv0 o a b=false)(h2:bv0 o b c=false):bv0 o a c=false:=by
 rw[dR0 ho ha hb]at h1
 rw[dR0 ho hb hc]at h2
 rw[dR0 ho ha hc]
 cases hla:Q1 o a<;>cases hlb:Q1 o b<;>cases hlc:Q1 o c<;>simp only[hla,hlb,hlc,if_true,if_false,Bool.false_eq_true,Bool.true_eq_false]at h1 h2 ⊢
 ·refine decide_eq_false (fun h=>?_)
  have g1:=of_decide_eq_false h1
  have g2:=of_decide_eq_false h2
  have:=lS0 ((bJ0 o a ha.2).1 hla) ((bJ0 o b hb.2).1 hlb) ((bJ0 o c hc.2).1 hlc) (by omega) (by omega)
  omega
 ·refine decide_eq_false (fun h=>?_)
  have g1:=of_decide_eq_false h1
  have g2:=of_decide_eq_false h2
  rw[<- cr_ng]at g1 g2 h
  have:=lS0 ((aq0 o a ha.2).1 hla) ((aq0 o b hb.2).1 hlb) ((aq0 o c hc.2).1 hlc) (by omega) (by omega)
  omega
end Go.Ab
namespace Go.Ab
open Go Go.Sort Go.Proofs Go.Shelf
structure cw0(ns:List Nd)(ars:List Ar)(fs:List Int):Prop where
 sml:dK0 ns ars fs=true
 ascN:gv0 (ns.map (·.1))=true
 ascA:gv0 (ars.map (·.1))=true
 ascF:gv0 fs=true
 numN:(ns.map (·.1)).all hD0=true
 numA:(ars.map (·.1)).all hD0=true
 numF:fs.all hD0=true
 posN:(ns.all fun n=>dF0 (n.2.1,n.2.2))=true
 posA:(ars.all fun a=>a.2.2.2.1.all dF0)=true
 conn:ag0 ns ars fs (ns.map (·.1))=0
 plan:cB0 ns ars=true
theorem aI0{ns:List Nd}{ars:List Ar}{fs:List Int}:M8 ns ars fs=0↔cw0 ns ars fs:=by
 constructor
 ·intro h
  unfold M8 at h
  cases h1:dK0 ns ars fs with
  | false=>rw[h1]at h;simp at h
  | true =>
   rw[h1]at h
   simp only[Bool.not_true,cond_false]at h
   cases h2:(gv0 (ns.map (·.1))&&(gv0 (ars.map (·.1))&&gv0 fs))with
   | false=>rw[h2]at h;simp at h
   | true =>
    rw[h2]at h
    simp only[Bool.not_true,cond_false]at h
    cases h3:((ns.map (·.1)).all hD0&&((ars.map (·.1)).all hD0&&(fs.all hD0&&((ns.all fun n=>dF0 (n.2.1,n.2.2))&&(ars.all fun a=>a.2.2.2.1.all dF0)))))with
    | false=>rw[h3]at h;simp at h
    | true =>
     rw[h3]at h
     simp only[Bool.not_true,cond_false]at h
     by_cases h4:ag0 ns ars fs (ns.map (·.1))=0
     ·simp only[h4,decide_true,Bool.not_true,cond_false]at h
      cases h5:cB0 ns ars with
      | false=>rw[h5]at h;simp at h
      | true =>
       simp only[Bool.and_eq_true]at h2 h3
       exact⟨h1,h2.1,h2.2.1,h2.2.2,h3.1,h3.2.1,h3.2.2.1,h3.2.2.2.1,h3.2.2.2.2,h4,h5⟩
     ·simp only[h4,decide_false,Bool.not_false,cond_true]at h
 ·intro h
  unfold M8
  simp[h.sml,h.ascN,h.ascA,h.ascF,h.numN,h.numA,h.numF,h.posN,h.posA,h.conn,h.plan]
theorem I2:∀ {l:List Int},gv0 l=true->l.Pairwise (·<·)
 | [],_=>List.Pairwise.nil
 | [a],_=>by simp
 | a::b::l,h=>by
  simp only[gv0,Bool.and_eq_true,decide_eq_true_eq]at h
  have ih:=I2 h.2
  refine List.Pairwise.cons (fun x hx=>?_) ih
  rcases List.mem_cons.1 hx with rfl | hx
  ·exact h.1
  ·have:=(List.pairwise_cons.1 ih).1 x hx
   omega
theorem bU0{α:Type}{f:α->Int}:∀ {l:List α},(l.map f).Pairwise (·<·)->∀ x∈l,l.find? (fun y=>decide (f y=f x))=some x
 | [],_,x,hx=>by simp at hx
 | y::l,h,x,hx=>by
  simp only[List.map_cons,List.pairwise_cons]at h
  rw[List.find?_cons]
  rcases List.mem_cons.1 hx with rfl | hx
  ·simp
  ·have h1:=h.1 (f x) (List.mem_map_of_mem hx)
   have:¬ f y=f x:=by omega
   simp only[this,decide_false]
   exact bU0 h.2 x hx
theorem iY0{ns:List Nd}{ars:List Ar}:∀ {l:List Ar} {r:List Sg},cF0 ns ars l=some r->∀ a∈l,∃ p,pathOf ns ars a.1=some p/\ny0 p=true/\(a.2.1=a.2.2.1->4<=p.length)
 | [],r,h,a,ha=>by simp at ha
 | b::l,r,h,a,ha=>by
  unfold cF0 at h
  split at h
  ·cases h
  ·rename_i p hp
   cases hc:((decide (b.2.1=b.2.2.1)&&decide (p.length<4))||!(ny0 p))with
   | true=>rw[hc]at h;cases h
   | false =>
    rw[hc]at h
    simp only[cond_false]at h
    split at h
    ·rename_i r' hr
     rcases List.mem_cons.1 ha with rfl | ha
     ·simp only[Bool.or_eq_false_iff,Bool.and_eq_false_iff,decide_eq_false_iff_not,Bool.not_eq_false']at hc
      refine⟨p,hp,hc.2,fun e=>?_⟩
      rcases hc.1 with h1 | h1
      ·exact absurd e h1
      ·omega
     ·exact iY0 hr a ha
    ·cases h
theorem nc0:∀ {l:List Pt} {i:Nat} {p q:Pt},ny0 l=true->l[i]?=some p->l[i+1]?=some q->p≠q
 | [],i,p,q,_,h,_=>by simp at h
 | [a],0,p,q,_,_,h=>by simp at h
 | [a],i+1,p,q,_,h,_=>by simp at h
 | a::b::l,0,p,q,h,h1,h2=>by
  simp only[ny0,Bool.and_eq_true,Bool.not_eq_true']at h
  simp at h1 h2
  subst h1;subst h2
  intro e
  rw[(mh0 a b).2 e]at h
  cases h.1
 | a::b::l,i+1,p,q,h,h1,h2=>by
  simp only[ny0,Bool.and_eq_true]at h
  exact nc0 h.2 (by simpa using h1) (by simpa using h2)
namespace cw0
variable {ns:List Nd} {ars:List Ar} {fs:List Int} (h:cw0 ns ars fs)
include h
theorem lenN:ns.length<=256:=by
 have:=h.sml
 simp only[dK0,Bool.and_eq_true,decide_eq_true_eq]at this;exact this.1
theorem lenA:ars.length<=256:=by
 have:=h.sml
 simp only[dK0,Bool.and_eq_true,decide_eq_true_eq]at this;exact this.2.1
theorem lenF:fs.length<=64:=by
 have:=h.sml
 simp only[dK0,Bool.and_eq_true,decide_eq_true_eq]at this;exact this.2.2.1
theorem lenV{a:Ar}(ha:a∈ars):a.2.2.2.1.length<=64:=by
 have:=h.sml
 simp only[dK0,Bool.and_eq_true,decide_eq_true_eq,List.all_eq_true]at this;exact this.2.2.2 a ha
theorem arcOf_self{a:Ar}(ha:a∈ars):ct0 ars a.1=some a:=bU0 (f:=fun a:Ar=>a.1) (I2 h.ascA) a ha
theorem nodeOf_self{n:Nd}(hn:n∈ns):O7 ns n.1=some n:=bU0 (f:=fun n:Nd=>n.1) (I2 h.ascN) n hn
theorem num{a:Ar}(ha:a∈ars):1<=a.1/\a.1<=1073741824:=by
 have:=List.all_eq_true.1 h.numA a.1 (List.mem_map_of_mem ha)
 simpa[hD0]using this
theorem segs:∃ r,cF0 ns ars ars=some r:=by
 have:=h.plan
 unfold cB0 at this
 split at this
 ·cases this
 ·rename_i r hr;exact⟨r,hr⟩
theorem path{a:Ar}(ha:a∈ars):∃ f t,O7 ns a.2.1=some f/\O7 ns a.2.2.1=some t/\pathOf ns ars a.1=some ((f.2.1,f.2.2)::(a.2.2.2.1++[(t.2.1,t.2.2)]))/\ny0 ((f.2.1,f.2.2)::(a.2.2.2.1++[(t.2.1,t.2.2)]))=true/\(a.2.1=a.2.2.1->2<=a.2.2.2.1.length):=by
 obtain⟨r,hr⟩:=h.segs
 obtain⟨p,h1,h2,h3⟩:=iY0 hr a ha
 have h1':=h1
 unfold pathOf at h1
 rw[h.arcOf_self ha]at h1
 simp only at h1
 split at h1
 ·rename_i f t hf ht
  cases h1
  refine⟨f,t,hf,ht,h1',h2,fun e=>?_⟩
  have:=h3 e
  simp at this
  omega
 ·cases h1
theorem nodePos{n:Nd}(hn:n∈ns):dF0 (n.2.1,n.2.2)=true:=List.all_eq_true.1 h.posN n hn
theorem pathNear{a:Ar}(ha:a∈ars){l:List Pt}(hl:pathOf ns ars a.1=some l):∀ p∈l,dF0 p=true:=by
 obtain⟨f,t,h1,h2,h3,_⟩:=h.path ha
 rw[hl]at h3
 cases h3
 intro p hp
 rcases List.mem_cons.1 hp with rfl | hp
 ·exact h.nodePos (List.mem_of_find?_eq_some h1)
 ·rcases List.mem_append.1 hp with hp | hp
  ·exact List.all_eq_true.1 (List.all_eq_true.1 h.posA a ha) p hp
  ·simp at hp;subst hp;exact h.nodePos (List.mem_of_find?_eq_some h2)
theorem Path_eq(id:Int):E9 ((ns,ars,fs),id)=some (match pathOf ns ars id with | some l=>(l,0) | none=>([],7)) :=
 fR0 ns ars fs id (by have:=h.lenN;omega) (by have:=h.lenA;omega) (fun a ha=>by have:=h.lenV ha;omega)
theorem Node_eq(id:Int):N7 ((ns,ars,fs),id)=some (match O7 ns id with | some n=>(n,true) | none=>((0,0,0),false)) :=
 cZ0 ns ars fs id (by have:=h.lenN;omega)
theorem Arc_eq(id:Int):al0 ((ns,ars,fs),id)=some (match ct0 ars id with | some a=>(a,true) | none=>((0,0,0,[],0,0),false)) :=
 hC0 ns ars fs id (by have:=h.lenA;omega) (fun a ha=>by have:=h.lenV ha;omega)
end cw0
end Go.Ab
namespace Go.Ab
open Go Go.Sort Go.Proofs Go.Shelf
def ip0(ns:List Nd)(ars:List Ar)(node:Int)(a:Ar):List (Int×Pt):=match pathOf ns ars a.1 with
 | none=>[]
 | some l=>(if a.2.1=node then [(a.1,(l[1]?).getD (0,0))]else [])++(if a.2.2.1=node then [(-a.1,(l[l.length-2]?).getD (0,0))]else [])
def P8(ns:List Nd)(ars:List Ar)(node:Int)(l:List Ar):List (Int×Pt):=l.flatMap (ip0 ns ars node)
def cmpA(o:Pt)(m:List (Int×Pt))(d e:Int):Int:=if bv0 o (fK0 m d) (fK0 m e)then -1 else if bv0 o (fK0 m e) (fK0 m d)then 1 else 0
theorem vS0(n:Nd)(m:List (Int×Pt))(d e:Int):I4 (d,e,n,m)=some (cmpA (n.2.1,n.2.2) m d e):=by
 have h1:∀ o a b:Pt,X6 ((o.1,o.2),(a.1,a.2),(b.1,b.2))=some (bv0 o a b):=fun o a b=>lT0 o a b
 have h2:∀ a b:Pt,X6 ((n.2.1,n.2.2),(a.1,a.2),(b.1,b.2))=some (bv0 (n.2.1,n.2.2) a b):=fun a b=>h1 (n.2.1,n.2.2) a b
 unfold I4 cmpA
 simp only[rJ0,b9,h2]
 cases bv0 (n.2.1,n.2.2) (fK0 m d) (fK0 m e)
 ·cases bv0 (n.2.1,n.2.2) (fK0 m e) (fK0 m d)<;>simp
 ·simp
def bM0(m:List (Int×Pt))(l:List (Int×Pt)):List (Int×Pt):=l.foldl (fun m p=>V9 (fun (a b:Int)=>decide (a=b)) p.1 p.2 m) m
theorem iP0(k:Int):∀ (l:List (Int×Pt)) (m:List (Int×Pt)),(∀ p∈l,p.1≠k)->lkp qI k (bM0 m l)=lkp qI k m
 | [],m,_=>rfl
 | p::l,m,h=>by
  have:=iP0 k l (V9 qI p.1 p.2 m) (fun q hq=>h q (by simp[hq]))
  show lkp qI k (bM0 (V9 qI p.1 p.2 m) l)=_
  rw[this,ba0,if_neg (fun e=>h p (by simp) e.symm)]
theorem dD0:∀ (l:List (Int×Pt)) (m:List (Int×Pt)),(l.map (·.1)).Nodup->∀ p∈l,lkp qI p.1 (bM0 m l)=some p.2
 | [],m,_,p,hp=>by simp at hp
 | q::l,m,hn,p,hp=>by
  simp only[List.map_cons,List.nodup_cons]at hn
  show lkp qI p.1 (bM0 (V9 qI q.1 q.2 m) l)=_
  rcases List.mem_cons.1 hp with rfl | hp
  ·rw[iP0 p.1 l _ (fun x hx e=>hn.1 (by rw[<- e];exact List.mem_map_of_mem hx)),ba0,if_pos rfl]
  ·exact dD0 l _ hn.2 p hp
theorem neg64{n:Int}(h:1<=n/\n<=1073741824):IntKind.i64.wrap (0-n)=-n:=by rw[w64 (by omega) (by omega)];omega
namespace cw0
variable {ns:List Nd} {ars:List Ar} {fs:List Int} (h:cw0 ns ars fs)
include h
theorem raw_nodup(node:Int):∀ {l:List Ar},(∀ a∈l,a∈ars)->(l.map (·.1)).Pairwise (·<·)->((P8 ns ars node l).map (·.1)).Nodup
 | [],_,_=>by simp[P8]
 | a::l,hm,hp=>by
  have ih:=raw_nodup node (l:=l) (fun x hx=>hm x (by simp[hx])) (by simp only[List.map_cons,List.pairwise_cons]at hp;exact hp.2)
  have ha:=h.num (hm a (by simp))
  have key:∀ (b:Ar),b∈ars->∀ p∈ip0 ns ars node b,p.1=b.1\/p.1=-b.1:=fun b hb p hp=>by
   unfold ip0 at hp
   split at hp
   ·simp at hp
   ·rcases List.mem_append.1 hp with hp | hp
    ·split at hp<;>simp at hp
     exact .inl (by rw[hp])
    ·split at hp<;>simp at hp
     exact .inr (by rw[hp])
  have e:P8 ns ars node (a::l)=ip0 ns ars node a++P8 ns ars node l:=rfl
  rw[e,List.map_append,List.nodup_append]
  refine⟨?_,ih,?_⟩
  ·unfold ip0
   split
   ·simp
   ·by_cases h1:a.2.1=node<;>by_cases h2:a.2.2.1=node<;>simp[h1,h2]
    omega
  ·intro x hx y hy hxy
   obtain⟨p,hp1,rfl⟩:=List.mem_map.1 hx
   obtain⟨q,hq1,rfl⟩:=List.mem_map.1 hy
   obtain⟨b,hb,hq2⟩:=List.mem_flatMap.1 hq1
   have hbm:=hm b (by simp[hb])
   have hbn:=h.num hbm
   simp only[List.map_cons,List.pairwise_cons]at hp
   have hlt:=hp.1 b.1 (List.mem_map_of_mem hb)
   rcases key a (hm a (by simp)) p hp1 with e1 | e1<;>rcases key b hbm q hq2 with e2 | e2<;>omega
theorem raw_mem{node:Int}{l:List Ar}(hm:∀ a∈l,a∈ars){p:Int×Pt}(hp:p∈P8 ns ars node l):∃ a∈l,∃ q,pathOf ns ars a.1=some q/\((a.2.1=node/\p=(a.1,(q[1]?).getD (0,0)))\/(a.2.2.1=node/\p=(-a.1,(q[q.length-2]?).getD (0,0)))):=by
 obtain⟨a,ha,hp⟩:=List.mem_flatMap.1 hp
 unfold ip0 at hp
 split at hp
 ·simp at hp
 ·rename_i q hq
  refine⟨a,ha,q,hq,?_⟩
  rcases List.mem_append.1 hp with hp | hp
  ·split at hp<;>simp at hp
   exact .inl ⟨by assumption,hp⟩
  ·split at hp<;>simp at hp
   exact .inr ⟨by assumption,hp⟩
theorem raw_dir{n:Nd}(hn:O7 ns n.1=some n){l:List Ar}(hm:∀ a∈l,a∈ars){p:Int×Pt}(hp:p∈P8 ns ars n.1 l):qy0 (n.2.1,n.2.2) p.2:=by
 obtain⟨a,ha,q,hq,hc⟩:=h.raw_mem hm hp
 obtain⟨f,t,h1,h2,h3,h4,_⟩:=h.path (hm a ha)
 have hnear:=h.pathNear (hm a ha) hq
 rw[hq]at h3
 cases h3
 rcases hc with ⟨e,rfl⟩ | ⟨e,rfl⟩
 ·rw[e,hn]at h1
  cases h1
  have e1:((n.2.1,n.2.2)::(a.2.2.2.1++[(t.2.1,t.2.2)]))[0]?=some (n.2.1,n.2.2):=rfl
  obtain⟨x,hx⟩:∃ x,((n.2.1,n.2.2)::(a.2.2.2.1++[(t.2.1,t.2.2)]))[1]?=some x:=⟨_,List.getElem?_eq_getElem (by simp)⟩
  refine⟨?_,?_⟩
  ·show B7 (Option.getD _ _)=true
   rw[hx]
   exact cA0 (hnear x (List.mem_of_getElem? hx))
  ·show Option.getD _ _≠_
   rw[hx]
   exact fun e=>nc0 h4 e1 hx e.symm
 ·rw[e,hn]at h2
  cases h2
  generalize hL:(f.2.1,f.2.2)::(a.2.2.2.1++[(n.2.1,n.2.2)])=L at *
  have hlen:L.length=a.2.2.2.1.length+2:=by rw[<- hL];simp
  have e1:L[L.length-2+1]?=some (n.2.1,n.2.2):=by
   have:L.length-2+1=a.2.2.2.1.length+1:=by omega
   rw[this,<-hL];simp
  obtain⟨x,hx⟩:∃ x,L[L.length-2]?=some x:=⟨_,List.getElem?_eq_getElem (by omega)⟩
  refine⟨?_,?_⟩
  ·show B7 (Option.getD _ _)=true
   rw[hx]
   exact cA0 (hnear x (List.mem_of_getElem? hx))
  ·show Option.getD _ _≠_
   rw[hx]
   exact nc0 h4 hx e1
omit h in
theorem nq0(node:Int):∀ (l:List Ar),(P8 ns ars node l).length<=2*l.length
 | []=>by simp[P8]
 | a::l=>by
  have ih:=nq0 node l
  have e:P8 ns ars node (a::l)=ip0 ns ars node a++P8 ns ars node l:=rfl
  have:(ip0 ns ars node a).length<=2:=by
   unfold ip0
   split
   ·simp
   ·by_cases h1:a.2.1=node<;>by_cases h2:a.2.2.1=node<;>simp[h1,h2]
  rw[e,List.length_append,List.length_cons]
  omega
theorem cmpA_ordered{n:Nd}(hn:O7 ns n.1=some n)(hnm:n∈ns):Ordered (cmpA (n.2.1,n.2.2) (bM0 [] (P8 ns ars n.1 ars))) ((P8 ns ars n.1 ars).map (·.1)):=by
 have hnd:=h.raw_nodup n.1 (l:=ars) (fun _ ha=>ha) (I2 h.ascA)
 have hat:∀ d∈(P8 ns ars n.1 ars).map (·.1),qy0 (n.2.1,n.2.2) (fK0 (bM0 [] (P8 ns ars n.1 ars)) d):=fun d hd=>by
  obtain⟨p,hp,rfl⟩:=List.mem_map.1 hd
  unfold fK0
  rw[dD0 _ [] hnd p hp]
  exact h.raw_dir hn (fun _ ha=>ha) hp
 have ho:B7 (n.2.1,n.2.2)=true:=cA0 (h.nodePos hnm)
 generalize bM0 [] (P8 ns ars n.1 ars)=m at hat
 have hneg:∀ d e,cmpA (n.2.1,n.2.2) m d e<0↔bv0 (n.2.1,n.2.2) (fK0 m d) (fK0 m e)=true:=fun d e=>by
  unfold cmpA
  cases bv0 (n.2.1,n.2.2) (fK0 m d) (fK0 m e)
  ·cases bv0 (n.2.1,n.2.2) (fK0 m e) (fK0 m d)<;>simp
  ·simp
 refine fh0 (fun x hx=>?_) (fun x hx y hy z hz a b=>?_) (fun x hx y hy z hz a b=>?_)
 ·rw[hneg,mA0 ho (hat x hx)];simp
 ·rw[hneg]at a b ⊢
  exact pq0 ho (hat x hx) (hat y hy) (hat z hz) a b
 ·rw[hneg,Bool.not_eq_true]at a b ⊢
  exact na0 ho (hat x hx) (hat y hy) (hat z hz) a b
def G5(ns:List Nd)(ars:List Ar)(n:Nd):List Int:=Z0 (cmpA (n.2.1,n.2.2) (bM0 [] (P8 ns ars n.1 ars))) ((P8 ns ars n.1 ars).map (·.1))
theorem Around_eq(node:Int):U9 ((ns,ars,fs),node)=some (match O7 ns node with | some n=>G5 ns ars n | none=>[]):=by
 have hlen:=h.lenA
 unfold U9
 simp only[h.Node_eq,b9]
 cases hn:O7 ns node with
 | none=>simp
 | some n =>
  have hnid:n.1=node:=by
   have:=List.find?_some hn
   simpa using this
  subst hnid
  have hnm:n∈ns:=List.mem_of_find?_eq_some hn
  simp only[Bool.not_true,cond_false,h.Path_eq,b9]
  refine(p8 (A:=List Int×List (Int×Pt)) ars (fun i a=>((i:Int),a.1,a.2)) (fun a rest=>du0 (fun d e=>I4 (d,e,n,bM0 a.2 (P8 ns ars n.1 rest))) (a.1++(P8 ns ars n.1 rest).map (·.1))) (fun i a=>a.1.length<=2*i) (by omega) ?_ ?_ ([],[]) (by simp)).trans ?_
  ·intro rec a hI
   simp only[A9,cond_false]
   unfold slices_SortFunc_int_walk_Around_2
   simp only[decide_true,cond_true]
   have e:P8 ns ars n.1 []=[]:=rfl
   rw[e]
   simp only[List.map_nil,List.append_nil]
   show b8 (du0 _ a.1) _=du0 _ a.1
   have e2:bM0 a.2 []=a.2:=rfl
   rw[e2]
   cases du0 (fun d e=>I4 (d,e,n,a.2)) a.1<;>rfl
  ·intro rec i a x rest hi hI hd hr
   have hx:=(N0 hd).2.2
   obtain⟨f,t,h1,h2,h3,h4,h5⟩:=h.path hx
   have hnum:=h.num hx
   have er:P8 ns ars n.1 (x::rest)=ip0 ns ars n.1 x++P8 ns ars n.1 rest:=rfl
   have hlt:=(N0 hd).1
   generalize hL:(f.2.1,f.2.2)::(x.2.2.2.1++[(t.2.1,t.2.2)])=L at h3 h4
   have hLl:L.length=x.2.2.2.1.length+2:=by rw[<- hL];simp
   have hv:=h.lenV hx
   obtain⟨p1,hp1⟩:∃ p,L[1]?=some p:=⟨_,List.getElem?_eq_getElem (by omega)⟩
   obtain⟨p2,hp2⟩:∃ p,L[L.length-2]?=some p:=⟨_,List.getElem?_eq_getElem (by omega)⟩
   have en1:nth L (1:Int)=some p1:=by have:=C3 L 1;rw[hp1]at this;exact this
   have ew:IntKind.i64.wrap ((L.length:Int)-2)=((L.length-2:Nat):Int):=by rw[w64 (by omega) (by omega)];omega
   have en2:nth L ((L.length-2:Nat):Int)=some p2:=by rw[C3];exact hp2
   simp only[A5 hi,cond_true,l9 hd,b9,w9 hi (show ars.length<2^62 by omega),h3,decide_true,Bool.not_true,cond_false,en1,ew,en2,neg64 hnum]
   have eraw:ip0 ns ars n.1 x=(if x.2.1=n.1 then [(x.1,p1)]else [])++(if x.2.2.1=n.1 then [(-x.1,p2)]else []):=by
    unfold ip0
    rw[h3]
    simp only[hp1,hp2,Option.getD_some]
   rw[er,eraw]
   by_cases c1:x.2.1=n.1<;>by_cases c2:x.2.2.1=n.1
   ·simp only[c1,c2,decide_true,Bool.not_true,cond_false,cond_true,if_true]
    rw[C7 (by omega) (by simp;omega)]
    simp only[b9]
    rw[C7 (by omega) (by simp;omega)]
    simp only[b9]
    have:=hr (a.1++[x.1]++[-x.1],V9 (fun (a b:Int)=>decide (a=b)) (-x.1) p2 (V9 (fun (a b:Int)=>decide (a=b)) x.1 p1 a.2)) (by simp;omega)
    refine this.trans ?_
    simp[bM0]
   ·simp only[c1,c2,decide_true,decide_false,Bool.not_true,Bool.not_false,cond_false,cond_true,if_true,if_false]
    rw[C7 (by omega) (by simp;omega)]
    simp only[b9]
    have:=hr (a.1++[x.1],V9 (fun (a b:Int)=>decide (a=b)) x.1 p1 a.2) (by simp;omega)
    refine this.trans ?_
    simp[bM0]
   ·simp only[c1,c2,decide_true,decide_false,Bool.not_true,Bool.not_false,cond_false,cond_true,if_true,if_false]
    rw[C7 (by omega) (by simp;omega)]
    simp only[b9]
    have:=hr (a.1++[-x.1],V9 (fun (a b:Int)=>decide (a=b)) (-x.1) p2 a.2) (by simp;omega)
    refine this.trans ?_
    simp[bM0]
   ·simp only[c1,c2,decide_false,Bool.not_false,cond_false,cond_true,if_false]
    have:=hr a (by omega)
    refine this.trans ?_
    simp
  ·simp only[List.nil_append]
   have hl:=nq0 (ns:=ns) (ars:=ars) n.1 ars
   exact kk0 (fun x _ y _=>vS0 n _ x y) (h.cmpA_ordered hn hnm) (by simp;omega)
end cw0
end Go.Ab
namespace Go.Ab
open Go Go.Sort Go.Proofs Go.Shelf
def gi0(l:List Int)(d:Int):Int:=if d∈l then (l[(l.idxOf d+l.length-1)%l.length]?).getD 0 else 0
theorem wt0(l:List Int)(d:Int)(hl:l.length<=1000000):M6 (l,d)=some (gi0 l d):=by
 unfold M6 gi0
 simp only[aT0 l d (by omega),b9]
 by_cases hd:d∈l
 ·have hi:l.idxOf d<l.length:=List.idxOf_lt_length_iff.2 hd
  have e0:decide (((l.idxOf d:Nat):Int)<0)=false:=by simp only[decide_eq_false_iff_not];omega
  have e1:IntKind.i64.wrap (((l.idxOf d:Nat):Int)+(l.length:Int))=((l.idxOf d+l.length:Nat):Int):=by rw[w64 (by omega) (by omega)];omega
  have e2:IntKind.i64.wrap (((l.idxOf d+l.length:Nat):Int)-1)=((l.idxOf d+l.length-1:Nat):Int):=by rw[w64 (by omega) (by omega)];omega
  have e3:decide ((l.length:Int)=0)=false:=by simp only[decide_eq_false_iff_not];omega
  have e4:Int.tmod ((l.idxOf d+l.length-1:Nat):Int) (l.length:Int)=(((l.idxOf d+l.length-1)%l.length:Nat):Int):=by simp[Int.tmod_eq_emod_of_nonneg]
  have hm:(l.idxOf d+l.length-1)%l.length<l.length:=Nat.mod_lt _ (by omega)
  simp only[hd,if_true,e0,cond_false,e1,e2,e3,e4,C3,b9]
  rw[List.getElem?_eq_getElem hm]
  rfl
 ·simp[hd]
theorem qu0{l:List Int}{d:Int}(h:d∈l):gi0 l d∈l:=by
 unfold gi0
 have hi:l.idxOf d<l.length:=List.idxOf_lt_length_iff.2 h
 have hm:(l.idxOf d+l.length-1)%l.length<l.length:=Nat.mod_lt _ (by omega)
 rw[if_pos h,List.getElem?_eq_getElem hm]
 exact List.getElem_mem _
def ad0(S:List Int):List (Int×Bool):=S.map fun d=>(d,true)
theorem nT0(d:Int):∀ S:List Int,lkp qI d (ad0 S)=if d∈S then some true else none
 | []=>rfl
 | x::S=>by
  have ih:=nT0 d S
  show (bif qI d x then some true else lkp qI d (ad0 S))=_
  rw[ih,oY0]
  by_cases h:d=x<;>simp[h]
theorem jZ0(d:Int):∀ S:List Int,d∉S->V9 qI d true (ad0 S)=ad0 (S++[d])
 | [],_=>rfl
 | x::S,h=>by
  simp only[List.mem_cons,not_or]at h
  have ih:=jZ0 d S h.2
  show (bif qI d x then (d,true)::ad0 S else (x,true)::V9 qI d true (ad0 S))=_
  rw[ih,oY0]
  simp[h.1,ad0]
theorem eR0(d:Int)(S:List Int):orO (lkp (fun (a b:Int)=>decide (a=b)) d (ad0 S)) (some false)=some (decide (d∈S)):=by
 show orO (lkp qI d (ad0 S)) _=_
 rw[nT0]
 by_cases h:d∈S<;>simp[h,orO]
def O9(nx:Int->Int):Nat->List Int->Int->List Int->List Int×List Int
 | 0,S,_,c=>(c,S)
 | n+1,S,d,c=>if d∈S then (c,S)else O9 nx n (S++[d]) (nx d) (c++[d])
def S6(D S:List Int):Nat:=(D.filter fun d=>!decide (d∈S)).length
theorem lE0{D S:List Int}{d:Int}(hd:d∈D)(hs:d∉S):S6 D (S++[d])<S6 D S:=by
 unfold S6
 induction D with
 | nil=>simp at hd
 | cons x D ih =>
  have mono:∀ D:List Int,(D.filter fun y=>!decide (y∈S++[d])).length<=(D.filter fun y=>!decide (y∈S)).length:=fun D=>by
   induction D with
   | nil=>simp
   | cons y D ih =>
    simp only[List.filter_cons]
    by_cases h1:y∈S
    ·have:y∈S++[d]:=by simp[h1]
     simp only[h1,this,decide_true,Bool.not_true,Bool.false_eq_true,if_false];exact ih
    ·by_cases h2:y∈S++[d]
     ·simp only[h1,h2,decide_true,decide_false,Bool.not_true,Bool.not_false,Bool.false_eq_true,if_false,if_true,List.length_cons];omega
     ·simp only[h1,h2,decide_false,Bool.not_false,if_true,List.length_cons];omega
  simp only[List.filter_cons]
  have hm:=mono D
  by_cases hxd:x=d
  ·subst hxd
   have:x∈S++[x]:=by simp
   simp only[this,hs,decide_true,decide_false,Bool.not_true,Bool.not_false,Bool.false_eq_true,if_false,if_true,List.length_cons]
   omega
  ·have ih':=ih (by rcases List.mem_cons.1 hd with h | h;exact absurd h.symm hxd;exact h)
   by_cases h1:x∈S
   ·have:x∈S++[d]:=by simp[h1]
    simp only[h1,this,decide_true,Bool.not_true,Bool.false_eq_true,if_false];exact ih'
   ·have:¬ x∈S++[d]:=by simp[h1,hxd]
    simp only[h1,this,decide_false,Bool.not_false,if_true,List.length_cons];omega
theorem oZ0{β:Type}(mp:List (Int×Int))(D:List Int)(hD:D.length<=100000)(hnx:∀ d∈D,(lkp qI d mp).getD 0∈D)(K:Int×List Int×List (Int×Bool)->Option β)(G:List Int×List Int->Option β)(hK:∀ d c S,K (d,c,ad0 S)=G (c,S)) :
  ∀ (S:List Int) (d:Int) (c:List Int),d∈D->c.length+S6 D S<=100000->rounds (α:=Int×List Int×List (Int×Bool)) (β:=β) (fun k21 x21 =>
     b8 (orO (lkp (fun (a b:Int)=>decide (a=b)) x21.1 x21.2.2) (some false)) fun v25 =>
     b8 (some (!(v25))) fun v26 =>
     bif v26 then (
     b8 (some (V9 (fun (a b:Int)=>decide (a=b)) x21.1 true x21.2.2)) fun v27 =>
     b8 (Q5 8 x21.2.1 [x21.1]) fun v28 =>
     b8 (orO (lkp (fun (a b:Int)=>decide (a=b)) x21.1 mp) (some (0:Int))) fun v29 =>
     k21 (v29,v28,v27))else K x21) (d,c,ad0 S)=G (O9 (fun d=>(lkp qI d mp).getD 0) (S6 D S+1) S d c):=by
 have hor:∀ d,orO (lkp (fun (a b:Int)=>decide (a=b)) d mp) (some (0:Int))=some ((lkp qI d mp).getD 0):=fun d=>by
  show orO (lkp qI d mp) _=_
  cases lkp qI d mp<;>rfl
 generalize hF:(fun (k21:Int×List Int×List (Int×Bool)->Option β) (x21:Int×List Int×List (Int×Bool)) =>
     b8 (orO (lkp (fun (a b:Int)=>decide (a=b)) x21.1 x21.2.2) (some false)) fun v25 =>
     b8 (some (!(v25))) fun v26 =>
     bif v26 then (
     b8 (some (V9 (fun (a b:Int)=>decide (a=b)) x21.1 true x21.2.2)) fun v27 =>
     b8 (Q5 8 x21.2.1 [x21.1]) fun v28 =>
     b8 (orO (lkp (fun (a b:Int)=>decide (a=b)) x21.1 mp) (some (0:Int))) fun v29 =>
     k21 (v29,v28,v27))else K x21)=F
 have h0:∀ rec d c S,d∈S->F rec (d,c,ad0 S)=G (c,S):=fun rec d c S hs=>by
  rw[<- hF]
  simp only[eR0,b9,hs,decide_true,Bool.not_true,cond_false]
  exact hK d c S
 have h1:∀ rec d c S,d∉S->c.length<=100000->F rec (d,c,ad0 S)=rec ((lkp qI d mp).getD 0,c++[d],ad0 (S++[d])):=fun rec d c S hs hc=>by
  rw[<- hF]
  have e:V9 (fun (a b:Int)=>decide (a=b)) d true (ad0 S)=ad0 (S++[d]):=jZ0 d S hs
  have e2:Q5 8 c [d]=some (c++[d]):=C7 (by omega) (by simp;omega)
  simp only[eR0,b9,hs,decide_false,Bool.not_false,cond_true,hor,e2,e]
 have key:∀ (n m:Nat) (S:List Int) (d:Int) (c:List Int),d∈D->c.length+S6 D S<=100000->S6 D S<n->n<=m->iter F m (d,c,ad0 S)=G (O9 (fun d=>(lkp qI d mp).getD 0) n S d c):=by
  intro n
  induction n with
  | zero=>intro m S d c _ _ h;omega
  | succ n ih =>
   intro m S d c hd hc hn hm
   cases m with
   | zero=>omega
   | succ m =>
    show F (iter F m) (d,c,ad0 S)=_
    by_cases hs:d∈S
    ·rw[h0 _ d c S hs]
     simp only[O9,hs,if_true]
    ·have hlt:=lE0 hd hs
     rw[h1 _ d c S hs (by omega)]
     simp only[O9,hs,if_false]
     exact ih m (S++[d]) _ (c++[d]) (hnx d hd) (by simp;omega) (by omega) (by omega)
 intro S d c hd hc
 have h2:S6 D S<=D.length:=List.length_filter_le _ _
 have h3:=sZ0
 have h4:S6 D S+1<=many:=Nat.le_trans (by omega) h3
 exact key (S6 D S+1) many S d c hd hc (Nat.lt_succ_self _) h4
end Go.Ab
namespace Go.Ab
open Go Go.Sort Go.Proofs Go.Shelf
def mV0(l:List Int)(m:List (Int×Int)):List (Int×Int):=l.foldl (fun m d=>V9 (fun (a b:Int)=>decide (a=b)) (-d) (gi0 l d) m) m
def bk0(L:List (List Int))(m:List (Int×Int)):List (Int×Int):=L.foldl (fun m l=>mV0 l m) m
theorem iM0(l:List Int)(D:List Int):∀ (r:List Int) (m:List (Int×Int)),(∀ d∈r,d∈l)->(∀ d∈l,d∈D)->(∀ k v,lkp qI k m=some v->v∈D) ->
  (∀ k v,lkp qI k (r.foldl (fun m d=>V9 (fun (a b:Int)=>decide (a=b)) (-d) (gi0 l d) m) m)=some v->v∈D)/\(∀ k,(lkp qI k m).isSome=true->(lkp qI k (r.foldl (fun m d=>V9 (fun (a b:Int)=>decide (a=b)) (-d) (gi0 l d) m) m)).isSome=true) /\
  ∀ d∈r,(lkp qI (-d) (r.foldl (fun m d=>V9 (fun (a b:Int)=>decide (a=b)) (-d) (gi0 l d) m) m)).isSome=true
 | [],m,_,_,hm=>⟨hm,fun _ h=>h,fun d hd=>by simp at hd⟩
 | x::r,m,hr,hl,hm=>by
  have hx:=hr x (by simp)
  have hp:∀ k v,lkp qI k (V9 qI (-x) (gi0 l x) m)=some v->v∈D:=fun k v h=>by
   rw[ba0]at h
   split at h
   ·cases h;exact hl _ (qu0 hx)
   ·exact hm k v h
  obtain⟨h1,h2,h3⟩:=iM0 l D r (V9 qI (-x) (gi0 l x) m) (fun d hd=>hr d (by simp[hd])) hl hp
  refine⟨h1,fun k hk=>h2 k ?_,fun d hd=>?_⟩
  ·rw[ba0];split
   ·rfl
   ·exact hk
  ·rcases List.mem_cons.1 hd with rfl | hd
   ·exact h2 _ (by rw[ba0,if_pos rfl];rfl)
   ·exact h3 d hd
theorem iT0(D:List Int):∀ (L:List (List Int)) (m:List (Int×Int)),(∀ l∈L,∀ d∈l,d∈D)->(∀ k v,lkp qI k m=some v->v∈D) ->
  (∀ k v,lkp qI k (bk0 L m)=some v->v∈D)/\(∀ k,(lkp qI k m).isSome=true->(lkp qI k (bk0 L m)).isSome=true)/\∀ l∈L,∀ d∈l,(lkp qI (-d) (bk0 L m)).isSome=true
 | [],m,_,hm=>⟨hm,fun _ h=>h,fun l hl=>by simp at hl⟩
 | l::L,m,hL,hm=>by
  obtain⟨a1,a2,a3⟩:=iM0 l D l m (fun _ h=>h) (hL l (by simp)) hm
  obtain⟨b1,b2,b3⟩:=iT0 D L (mV0 l m) (fun x hx=>hL x (by simp[hx])) a1
  refine⟨b1,fun k hk=>b2 k (a2 k hk),fun x hx d hd=>?_⟩
  rcases List.mem_cons.1 hx with rfl | hx
  ·exact b2 _ (a3 d hd)
  ·exact b3 x hx d hd
def V5(nx:Int->Int)(D:List Int):List Int->List Int->List (List Int)->List (List Int)
 | [],_,acc=>acc
 | d::ds,S,acc=>if d∈S then V5 nx D ds S acc else
   let r:=O9 nx (S6 D S+1) S d []
   V5 nx D ds r.2 (acc++[r.1])
namespace cw0
variable {ns:List Nd} {ars:List Ar} {fs:List Int} (h:cw0 ns ars fs)
def lK0(ns:List Nd)(ars:List Ar):List (List Int):=ns.map (G5 ns ars)
def K0(ns:List Nd)(ars:List Ar):List Int:=(lK0 ns ars).flatten
include h
theorem around_perm{n:Nd}(hn:n∈ns):(G5 ns ars n).Perm ((P8 ns ars n.1 ars).map (·.1)):=S5 (h.cmpA_ordered (h.nodeOf_self hn) hn)
theorem around_len{n:Nd}(hn:n∈ns):(G5 ns ars n).length<=512:=by
 rw[(h.around_perm hn).length_eq,List.length_map]
 have:=nq0 (ns:=ns) (ars:=ars) n.1 ars
 have:=h.lenA
 omega
theorem mem_darts{d:Int}:d∈K0 ns ars↔∃ a∈ars,d=a.1\/d=-a.1:=by
 unfold K0 lK0
 constructor
 ·intro hd
  obtain⟨l,hl,hd⟩:=List.mem_flatten.1 hd
  obtain⟨n,hn,rfl⟩:=List.mem_map.1 hl
  rw[(h.around_perm hn).mem_iff]at hd
  obtain⟨p,hp,rfl⟩:=List.mem_map.1 hd
  obtain⟨a,ha,q,_,hc⟩:=h.raw_mem (fun _ ha=>ha) hp
  rcases hc with ⟨_,rfl⟩ | ⟨_,rfl⟩
  ·exact⟨a,ha,.inl rfl⟩
  ·exact⟨a,ha,.inr rfl⟩
 ·rintro ⟨a,ha,hd⟩
  obtain⟨f,t,h1,h2,h3,_⟩:=h.path ha
  have mk:∀ (n:Nd),n∈ns->d∈(ip0 ns ars n.1 a).map (·.1)->d∈((ns.map (G5 ns ars)).flatten):=fun n hn hdd=>by
   refine List.mem_flatten.2 ⟨_,List.mem_map_of_mem hn,?_⟩
   rw[(h.around_perm hn).mem_iff]
   obtain⟨p,hp,e⟩:=List.mem_map.1 hdd
   exact e▸List.mem_map_of_mem (List.mem_flatMap.2 ⟨a,ha,hp⟩)
  have hf1:f.1=a.2.1:=by have:=List.find?_some h1;simpa using this
  have ht1:t.1=a.2.2.1:=by have:=List.find?_some h2;simpa using this
  rcases hd with rfl | rfl
  ·refine mk f (List.mem_of_find?_eq_some h1) ?_
   unfold ip0
   rw[h3]
   simp[hf1]
  ·refine mk t (List.mem_of_find?_eq_some h2) ?_
   unfold ip0
   rw[h3]
   simp[ht1]
theorem neg_darts{d:Int}(hd:d∈K0 ns ars):-d∈K0 ns ars:=by
 rw[h.mem_darts]at hd ⊢
 obtain⟨a,ha,rfl | rfl⟩:=hd
 ·exact⟨a,ha,.inr rfl⟩
 ·exact⟨a,ha,.inl (by omega)⟩
theorem darts_len:(K0 ns ars).length<=512:=by
 have key:∀ l:List Nd,(∀ n∈l,n∈ns)->((l.map (G5 ns ars)).flatten).length<=(l.map fun n=>(P8 ns ars n.1 ars).length).sum:=by
  intro l
  induction l with
  | nil=>intro _;simp
  | cons n l ih =>
   intro hl
   have:=ih (fun x hx=>hl x (by simp[hx]))
   have e:=(h.around_perm (hl n (by simp))).length_eq
   rw[List.length_map]at e
   simp only[List.map_cons,List.flatten_cons,List.length_append,List.sum_cons,e]
   omega
 have k1:=key ns (fun _ hn=>hn)

 have key2:∀ l:List Nd,(l.map (·.1)).Pairwise (·<·)->∀ as':List Ar,(l.map fun n=>(P8 ns ars n.1 as').length).sum<=2*as'.length:=by
  intro l hp as'
  induction as' with
  | nil =>
   have:(l.map fun n=>(P8 ns ars n.1 []).length).sum=0:=by
    clear hp
    induction l with
    | nil=>rfl
    | cons n l ih=>simp only[List.map_cons,List.sum_cons,ih];rfl
   omega
  | cons a as' ih =>
   have e:∀ n:Nd,(P8 ns ars n.1 (a::as')).length=(ip0 ns ars n.1 a).length+(P8 ns ars n.1 as').length:=fun n=>by
    have e:P8 ns ars n.1 (a::as')=ip0 ns ars n.1 a++P8 ns ars n.1 as':=rfl
    rw[e,List.length_append]
   have e2:(l.map fun n=>(P8 ns ars n.1 (a::as')).length).sum=(l.map fun n=>(ip0 ns ars n.1 a).length).sum+(l.map fun n=>(P8 ns ars n.1 as').length).sum:=by
    simp only[e]
    clear ih hp
    induction l with
    | nil=>rfl
    | cons n l ih=>simp only[List.map_cons,List.sum_cons,ih];omega
   have e3:(l.map fun n=>(ip0 ns ars n.1 a).length).sum<=2:=by
    have hle:∀ n:Nd,(ip0 ns ars n.1 a).length<=(if a.2.1=n.1 then 1 else 0)+(if a.2.2.1=n.1 then 1 else 0):=fun n=>by
     unfold ip0
     split
     ·simp
     ·by_cases h1:a.2.1=n.1<;>by_cases h2:a.2.2.1=n.1<;>simp[h1,h2]
    have cnt:∀ (x:Int) (l:List Nd),(l.map (·.1)).Pairwise (·<·)->(l.map fun n=>if x=n.1 then 1 else 0).sum<=1:=by
     intro x l
     induction l with
     | nil=>intro _;simp
     | cons n l ih =>
      intro hp
      simp only[List.map_cons,List.pairwise_cons]at hp
      simp only[List.map_cons,List.sum_cons]
      by_cases hx:x=n.1
      ·have:(l.map fun n=>if x=n.1 then 1 else 0).sum=0:=by
        have hall:∀ m∈l,(if x=m.1 then 1 else 0)=0:=fun m hm=>by
         have:=hp.1 m.1 (List.mem_map_of_mem hm)
         rw[if_neg (by omega)]
        clear ih hp
        induction l with
        | nil=>rfl
        | cons m l ih2=>simp only[List.map_cons,List.sum_cons,hall m (by simp),ih2 (fun y hy=>hall y (by simp[hy]))]
       simp[hx];rw[<- hx];omega
      ·have:=ih hp.2
       simp[hx];exact this
    have c1:=cnt a.2.1 l hp
    have c2:=cnt a.2.2.1 l hp
    have:(l.map fun n=>(ip0 ns ars n.1 a).length).sum<=(l.map fun n=>if a.2.1=n.1 then 1 else 0).sum+(l.map fun n=>if a.2.2.1=n.1 then 1 else 0).sum:=by
     clear ih c1 c2 e2 hp
     induction l with
     | nil=>simp
     | cons n l ih=>simp only[List.map_cons,List.sum_cons];have:=hle n;omega
    omega
   rw[e2,List.length_cons]
   omega
 have k2:=key2 ns (I2 h.ascN) ars
 have:=h.lenA
 show ((ns.map (G5 ns ars)).flatten).length<=_
 omega
def sU0(ns:List Nd)(ars:List Ar):List (Int×Int):=bk0 (lK0 ns ars) []
def pP0(ns:List Nd)(ars:List Ar)(d:Int):Int:=(lkp qI d (sU0 ns ars)).getD 0
theorem next_mem{d:Int}(hd:d∈K0 ns ars):pP0 ns ars d∈K0 ns ars:=by
 obtain⟨h1,_,h3⟩:=iT0 (K0 ns ars) (lK0 ns ars) [] (fun l hl d hd=>List.mem_flatten.2 ⟨l,hl,hd⟩) (fun k v hv=>by simp[lkp]at hv)
 obtain⟨l,hl,hdl⟩:=List.mem_flatten.1 (h.neg_darts hd)
 have h4:=h3 l hl _ hdl
 rw[Int.neg_neg]at h4
 unfold pP0 sU0
 cases hv:lkp qI d (bk0 (lK0 ns ars) [])with
 | none=>rw[hv]at h4;cases h4
 | some v=>exact h1 d v hv
def J3(ns:List Nd)(ars:List Ar):List (List Int):=V5 (pP0 ns ars) (K0 ns ars) ((K0 ns ars).mergeSort fun a b=>decide (a<=b)) [] []
omit h in
theorem bR0{α β:Type}{l rest:List α}{i:Nat}{x:α}(f:α->β)(hd:l.drop i=x::rest):(l.take (i+1)).map f=(l.take i).map f++[f x]:=by
 rw[List.take_add_one]
 have:l[i]?=some x:=by rw[<- C3];exact l9 hd
 rw[this]
 simp
theorem Cycles_eq:Q8 (ns,ars,fs)=some (J3 ns ars,0):=by
 have hN:=h.lenN
 have hcode:M8 ns ars fs=0:=aI0.2 h
 have hD:=h.darts_len
 unfold Q8
 simp only[cc0,hcode,b9,decide_true,Bool.not_true,cond_false]
 refine(p8 (A:=List Int×List (Int×Int)) ns (fun i a=>(a.1,(i:Int),a.2)) (fun _ _=>some (J3 ns ars,0)) (fun i a=>a.1=((ns.take i).map (G5 ns ars)).flatten/\a.2=bk0 ((ns.take i).map (G5 ns ars)) []/\a.1.length<=512*i) (by omega) ?_ ?_ ([],[]) ⟨by simp,by simp[bk0],by simp⟩)
 ·intro rec a hI
  obtain⟨h1,h2,h3⟩:=hI
  rw[List.take_length]at h1 h2
  have e1:a.1=K0 ns ars:=h1
  have e2:a.2=sU0 ns ars:=h2
  have es:slices_Sort_int (K0 ns ars,1)=some ((K0 ns ars).mergeSort fun a b=>decide (a<=b)):=by
   unfold slices_Sort_int
   have:decide ((K0 ns ars).length<4611686018427387904)=true:=by simp only[decide_eq_true_eq];omega
   simp[this]
  simp only[A9,cond_false,e1,e2,es,b9]
  have hperm:=List.mergeSort_perm (K0 ns ars) (fun a b=>decide (a<=b))
  unfold J3
  generalize hL:(K0 ns ars).mergeSort (fun a b=>decide (a<=b))=L at hperm
  have hll:L.length<=100000-10:=by rw[hperm.length_eq];omega
  have hLm:∀ d∈L,d∈K0 ns ars:=fun d hd=>hperm.mem_iff.1 hd
  refine(p8 (A:=List (List Int)×List Int) L (fun i b=>((i:Int),b.1,ad0 b.2)) (fun b rest=>some (V5 (pP0 ns ars) (K0 ns ars) rest b.2 b.1,0)) (fun i b=>b.1.length<=i) (by omega) ?_ ?_ ([],[]) (by simp)).trans rfl
  ·intro rec b hb
   simp[V5]
  ·intro rec i b x rest hi hb hd hr
   have hx:L[i]?=some x:=by rw[<- C3];exact l9 hd
   have hinb:(bif decide ((0:Int)<=(i:Int))&&decide ((i:Int)<(L.length:Int))then some ()else none)=some ():=by
    have e1:decide ((0:Int)<=(i:Int))=true:=by simp only[decide_eq_true_eq];omega
    rw[e1,A5 hi];rfl
   simp only[A5 hi,cond_true,hinb,b9,Int.toNat_natCast,hx,Option.map_some,eR0,w9 hi (show L.length<2^62 by omega)]
   by_cases hs:x∈b.2
   ·simp only[hs,decide_true,Bool.not_true,cond_false]
    have:=hr (b.1,b.2) (by show b.1.length<=i+1;omega)
    refine this.trans ?_
    simp[V5,hs]
   ·simp only[hs,decide_false,Bool.not_false,cond_true]
    have hun:S6 (K0 ns ars) b.2<=(K0 ns ars).length:=List.length_filter_le _ _
    have hfl:=oZ0 (sU0 ns ars) (K0 ns ars) (by omega) (fun d hd=>h.next_mem hd) (fun x21=>b8 (Q5 24 b.1 [x21.2.1]) fun v27=>rec (((i+1:Nat):Int),v27,x21.2.2)) (fun r=>some (V5 (pP0 ns ars) (K0 ns ars) rest r.2 (b.1++[r.1]),0)) (fun d c S=>by
     have:Q5 24 b.1 [c]=some (b.1++[c]):=C7 (by omega) (by simp;omega)
     show b8 (Q5 24 b.1 [c]) _=_
     rw[this]
     exact hr (b.1++[c],S) (by show (b.1++[c]).length<=i+1;simp;omega)) b.2 x [] (hLm x (N0 hd).2.2) (by simp;omega)
    simp only[b9]at hfl
    refine hfl.trans ?_
    simp only[V5,hs,if_false]
    rfl
 ·intro rec i a x rest hi hI hd hr
  obtain⟨h1,h2,h3⟩:=hI
  have hx:=(N0 hd).2.2
  have hal:=h.around_len hx
  have hAr:U9 ((ns,ars,fs),x.1)=some (G5 ns ars x):=by rw[h.Around_eq,h.nodeOf_self hx]
  simp only[A5 hi,cond_true,l9 hd,b9,w9 hi (show ns.length<2^62 by omega),hAr]
  have hk:512*i<=512*256:=Nat.mul_le_mul_left _ (by omega)
  refine(p8 (A:=List Int×List (Int×Int)) (G5 ns ars x) (fun j b=>(b.1,(j:Int),b.2)) (fun _ _=>some (J3 ns ars,0)) (fun j b=>b.1=a.1++(G5 ns ars x).take j/\b.2=((G5 ns ars x).take j).foldl (fun m d=>V9 (fun (a b:Int)=>decide (a=b)) (-d) (gi0 (G5 ns ars x) d) m) a.2) (by omega) ?_ ?_ a ⟨by simp,by simp⟩)
  ·intro rec2 b hb
   obtain⟨g1,g2⟩:=hb
   rw[List.take_length]at g1 g2
   simp only[A9,cond_false]
   refine hr (b.1,b.2) ⟨?_,?_,?_⟩
   ·rw[bR0 _ hd,List.flatten_append,<-h1]
    simp[g1]
   ·rw[bR0 _ hd]
    show b.2=bk0 ((ns.take i).map (G5 ns ars)++[G5 ns ars x]) []
    unfold bk0
    rw[List.foldl_append]
    show b.2=mV0 (G5 ns ars x) (bk0 ((ns.take i).map (G5 ns ars)) [])
    rw[<- h2,g2]
    rfl
   ·show b.1.length<=512*(i+1)
    rw[g1,List.length_append];omega
  ·intro rec2 j b y r2 hj hb hdj hrj
   obtain⟨g1,g2⟩:=hb
   have hy:=(N0 hdj).2.2
   have hynum:1<=y/\y<=1073741824\/-1073741824<=y/\y<=-1:=by
    have:y∈K0 ns ars:=List.mem_flatten.2 ⟨_,List.mem_map_of_mem hx,hy⟩
    rw[h.mem_darts]at this
    obtain⟨a',ha',e | e⟩:=this<;>have:=h.num ha'<;>omega
   have hneg:IntKind.i64.wrap (0-y)=-y:=by rw[w64 (by omega) (by omega)];omega
   have hbl:b.1.length<=512*i+j:=by rw[g1,List.length_append,List.length_take];omega
   have hpr:M6 (G5 ns ars x,y)=some (gi0 (G5 ns ars x) y):=wt0 _ _ (by omega)
   simp only[A5 hj,cond_true,l9 hdj,b9,w9 hj (show (G5 ns ars x).length<2^62 by omega),hneg,hpr]
   rw[C7 (by omega) (by simp;omega)]
   simp only[b9]
   have htk:(G5 ns ars x).take (j+1)=(G5 ns ars x).take j++[y]:=by
    have:=bR0 (fun z:Int=>z) hdj
    simpa using this
   refine hrj (b.1++[y],_) ⟨?_,?_⟩
   ·rw[htk,g1,List.append_assoc]
   ·rw[htk,List.foldl_append,<-g2];rfl
end cw0
theorem hN0{ns:List Nd}{ars:List Ar}{fs:List Int}(h:M8 ns ars fs≠0):Q8 (ns,ars,fs)=some ([],M8 ns ars fs):=by
 unfold Q8
 simp only[cc0,b9,h,decide_false,Bool.not_false,cond_true]
end Go.Ab
namespace Go.Ab
open Go Go.Sort Go.Proofs Go.Shelf
abbrev aX0:=Int×List Int×List (List Int)×List Int
def bi0(ns:List Nd)(ars:List Ar)(l:List Ar)(m:List (Int×List Pt)):List (Int×List Pt):=l.foldl (fun m a=>match pathOf ns ars a.1 with | some p=>V9 (fun (a b:Int)=>decide (a=b)) a.1 p m | none=>m) m
def H5(ns:List Nd)(ars:List Ar):List (Int×List Pt):=bi0 ns ars ars []
def md0(d:Int):Prop:=-9223372036854775808<d/\d<=9223372036854775807
def jo0(d:Int):Int:=max d (-d)
def bo0(ars:List Ar)(d:Int):Int:=if d=0 then 0 else match ct0 ars (jo0 d)with
 | some a=>if 0<d then a.2.2.2.2.1 else a.2.2.2.2.2
 | none=>0
def gh0(a:aX0):List (List Int):=a.2.1::a.2.2.1
def ek0(ars:List Ar)(k:Nat):Bool->List aX0->List Int->List Int->List Int×Bool
 | _,[],seen,out=>(out,decide ((seen.length:Int)=(k:Int)))
 | true,a::r,seen,out=>bif (gh0 a).all (fun c=>c.all fun d=>decide (bo0 ars d=0))then ek0 ars k false r seen (out++[0])else ([],false)
 | false,a::r,seen,out =>
  let f:=bo0 ars (a.2.1.headD 0)
  bif decide (f=0)||decide (f∈seen)then ([],false)else bif (gh0 a).all (fun c=>c.all fun d=>decide (bo0 ars d=f))then ek0 ars k false r (seen++[f]) (out++[f])else ([],false)
namespace cw0
variable {ns:List Nd} {ars:List Ar} {fs:List Int} (h:cw0 ns ars fs)
include h
theorem pathsOf_eq:P9 (ns,ars,fs)=some (H5 ns ars):=by
 have hlen:=h.lenA
 unfold P9 H5
 simp only[b9,h.Path_eq]
 refine(r9 (A:=List (Int×List Pt)) ars (fun i m=>((i:Int),m)) (fun m rest=>some (bi0 ns ars rest m)) (by omega) ?_ ?_ []).trans rfl
 ·intro rec m
  simp[bi0]
 ·intro rec i m x rest hi hd hr
  simp only[A5 hi,cond_true,l9 hd,b9,w9 hi (show ars.length<2^62 by omega)]
  cases hp:pathOf ns ars x.1 with
  | none =>
   have:decide ((7:Int)=0)=false:=by decide
   simp only[this,cond_false]
   rw[hr]
   simp[bi0,hp]
  | some p =>
   simp only[decide_true,cond_true]
   rw[hr]
   simp[bi0,hp]
theorem pathsGo_look:∀ (l:List Ar) (m:List (Int×List Pt)),(∀ a∈l,a∈ars)->(l.map (·.1)).Pairwise (·<·)->∀ a∈l,lkp qI a.1 (bi0 ns ars l m)=pathOf ns ars a.1
 | [],m,_,_,a,ha=>by simp at ha
 | b::l,m,hm,hp,a,ha=>by
  simp only[List.map_cons,List.pairwise_cons]at hp
  obtain⟨f,t,_,_,hpb,_⟩:=h.path (hm b (by simp))
  have e:bi0 ns ars (b::l) m=bi0 ns ars l (V9 qI b.1 ((f.2.1,f.2.2)::(b.2.2.2.1++[(t.2.1,t.2.2)])) m):=by
   show List.foldl _ _ _=_
   rw[List.foldl_cons,hpb]
   rfl
  have keep:∀ (l:List Ar) (m:List (Int×List Pt)) (k:Int),(∀ a∈l,a.1≠k)->lkp qI k (bi0 ns ars l m)=lkp qI k m:=by
   intro l
   induction l with
   | nil=>intro m k _;rfl
   | cons x l ih =>
    intro m k hk
    show lkp qI k (bi0 ns ars l _)=_
    rw[ih _ k (fun a ha=>hk a (by simp[ha]))]
    cases hx:pathOf ns ars x.1 with
    | none=>simp only[hx]
    | some p =>
     simp only[hx]
     have:=ba0 k x.1 p m
     rw[if_neg (fun e=>hk x (by simp) e.symm)]at this
     exact this
  rw[e]
  rcases List.mem_cons.1 ha with rfl | ha
  ·rw[keep l _ a.1 (fun x hx=>by have:=hp.1 x.1 (List.mem_map_of_mem hx);omega),ba0,if_pos rfl,hpb]
  ·exact pathsGo_look l _ (fun x hx=>hm x (by simp[hx])) hp.2 a ha
theorem pathsM_look{a:Ar}(ha:a∈ars):lkp qI a.1 (H5 ns ars)=pathOf ns ars a.1:=h.pathsGo_look ars [] (fun _ h=>h) (I2 h.ascA) a ha
theorem arcOfD_eq{d:Int}(hd:md0 d):an0 ((ns,ars,fs),d)=some (if d=0 then ((0,0,0,[],0,0),false)else match ct0 ars (jo0 d)with | some a=>(a,true) | none=>((0,0,0,[],0,0),false)):=by
 unfold an0
 obtain⟨h1,h2⟩:=hd
 simp only[b9]
 by_cases h0:d=0
 ·simp[h0]
 ·have h3:decide (d=-9223372036854775808)=false:=by simp only[decide_eq_false_iff_not];omega
  have e1:IntKind.i64.wrap (0-d)=-d:=by rw[w64 (by omega) (by omega)];omega
  simp only[h0,decide_false,cond_false,h3,e1,eP0,h.Arc_eq,b9,if_false]
  have e2:jo0 d=max d (-d):=rfl
  rw[e2]
  all_goals cases ct0 ars (max d (-d))with
  | none=>rfl
  | some a=>rfl
theorem Side_eq{d:Int}(hd:md0 d):X7 ((ns,ars,fs),d)=some (bo0 ars d):=by
 unfold X7 bo0
 simp only[h.arcOfD_eq hd,b9]
 by_cases h0:d=0
 ·simp[h0]
 ·simp only[h0,if_false]
  cases ct0 ars (jo0 d)with
  | none=>simp
  | some a =>
   simp only[Bool.not_true,cond_false]
   by_cases h1:0<d<;>simp[h1]
theorem cycles_eq{a:aX0}(ha:a.2.2.1.length<=1000000):D8 a=some (gh0 a):=by
 unfold D8 gh0
 have:Q5 24 [a.2.1] a.2.2.1=some ([a.2.1]++a.2.2.1):=C7 (by omega) (by simp;omega)
 simp only[this,b9]
 rfl
theorem sidesLoop{β:Type}(f:Int)(cs:List (List Int))(hcs:∀ c∈cs,(∀ d∈c,md0 d)/\c.length<2^62)(hl:cs.length<2^62)(K:Option β)(bad:Option β) :
  rounds (α:=Int) (β:=β) (fun k22 x22 =>
    b8 (some (decide (x22<(cs.length:Int)))) fun v24 =>
    bif v24 then (
     b8 (nth cs x22) fun v25 =>
     b8 (some ((v25).length:Int)) fun v26 =>
     rounds (α:=Int) (β:=β) (fun k27 x27 =>
     b8 (some (decide (x27<v26))) fun v29 =>
     bif v29 then (
      b8 (nth v25 x27) fun v30 =>
      b8 (X7 ((ns,ars,fs),v30)) fun v31 =>
      b8 (some (!decide (v31=f))) fun v32 =>
      bif v32 then bad else (
      b8 (some (IntKind.i64.wrap (x27+(1:Int)))) fun v33 =>
      k27 v33))else (
      b8 (some (IntKind.i64.wrap (x22+(1:Int)))) fun v30 =>
      k22 v30)) (0:Int))else K) (0:Int)=bif cs.all (fun c=>c.all fun d=>decide (bo0 ars d=f))then K else bad:=by
 simp only[b9]
 refine(r9 (A:=Unit) cs (fun i _=>(i:Int)) (fun _ rest=>bif rest.all (fun c=>c.all fun d=>decide (bo0 ars d=f))then K else bad) (by omega) ?_ ?_ ()).trans rfl
 ·intro rec u;simp
 ·intro rec i u x rest hi hd hr
  obtain⟨hx1,hx2⟩:=hcs x (N0 hd).2.2
  simp only[A5 hi,cond_true,l9 hd,b9,w9 hi hl]
  rw[hr (),List.all_cons]
  refine(r9 (A:=Unit) x (fun i _=>(i:Int)) (fun _ r2=>bif r2.all (fun d=>decide (bo0 ars d=f))then (bif rest.all (fun c=>c.all fun d=>decide (bo0 ars d=f))then K else bad)else bad) (by omega) ?_ ?_ ()).trans ?_
  ·intro rec2 u;simp
  ·intro rec2 j u y r2 hj hdj hrj
   have hy:=hx1 y (N0 hdj).2.2
   simp only[A5 hj,cond_true,l9 hdj,b9,w9 hj hx2,h.Side_eq hy]
   rw[hrj (),List.all_cons]
   cases decide (bo0 ars y=f)<;>simp
  ·cases x.all (fun d=>decide (bo0 ars d=f))<;>simp
structure AreaOk(a:aX0):Prop where
 outer:(∀ d∈a.2.1,md0 d)/\a.2.1.length<=1000000
 inner:∀ c∈a.2.2.1,(∀ d∈c,md0 d)/\c.length<=1000000
 few:a.2.2.1.length<=1000000
theorem faces_eq{l:List aX0}(hl:l.length<=1000000)(hok:∀ a∈l,AreaOk a)(hne:∀ a∈l.tail,a.2.1≠[]):Y7 ((ns,ars,fs),l)=some (ek0 ars fs.length true l [] []):=by
 have hF:=h.lenF
 have sl:=fun (f:Int) (cs:List (List Int)) h1 h2 K bad=>h.sidesLoop (β:=List Int×Bool) f cs h1 h2 K bad
 simp only[b9]at sl
 unfold Y7
 simp only[b9]
 refine(p8 (A:=List Int×List Int) l (fun i a=>(a.2,(i:Int),ad0 a.1)) (fun a rest=>some (ek0 ars fs.length (decide (rest.length=l.length)) rest a.1 a.2)) (fun i a=>a.2.length<=i) (by omega) ?_ ?_ ([],[]) (by simp)).trans (by simp)
 ·intro rec a hI
  have e:((ad0 a.1).length:Int)=(a.1.length:Int):=by simp[ad0]
  simp only[A9,cond_false,ek0,e]
 ·intro rec i a x rest hi hI hd hr
  have hdl:=N0 hd
  have hx:=hok x hdl.2.2
  have hcy:D8 (x.1,x.2.1,x.2.2.1,x.2.2.2)=some (gh0 x):=h.cycles_eq hx.few
  have hcs:∀ c∈gh0 x,(∀ d∈c,md0 d)/\c.length<2^62:=fun c hc=>by
   rcases List.mem_cons.1 hc with rfl | hc
   ·exact⟨hx.outer.1,by have:=hx.outer.2;omega⟩
   ·exact⟨(hx.inner c hc).1,by have:=(hx.inner c hc).2;omega⟩
  have hcl:(gh0 x).length<2^62:=by have:=hx.few;simp only[gh0,List.length_cons];omega
  simp only[A5 hi,cond_true,l9 hd,b9,w9 hi (show l.length<2^62 by omega),hcy]
  have er:decide (rest.length=l.length)=false:=by simp only[decide_eq_false_iff_not];omega
  have hcat:∀ f:Int,Q5 8 a.2 [f]=some (a.2++[f]):=fun f=>C7 (by omega) (by simp;omega)
  by_cases h0:i=0
  ·subst h0
   have e0:decide ((x::rest).length=l.length)=true:=by simp only[List.length_cons,decide_eq_true_eq];omega
   have e1:decide ((0:Int)<((0:Nat):Int))=false:=by decide
   simp only[e1,cond_false,e0]
   refine(sl 0 (gh0 x) hcs hcl _ _).trans ?_
   simp only[hcat,b9,ek0]
   have hI0:(a.2++[(0:Int)]).length<=0+1:=by rw[List.length_append];simp only[List.length_singleton];omega
   have:=hr (a.1,a.2++[0]) hI0
   rw[er]at this
   rw[this]
   cases (gh0 x).all (fun c=>c.all fun d=>decide (bo0 ars d=0))<;>simp
  ·have e0:decide ((x::rest).length=l.length)=false:=by simp only[List.length_cons,decide_eq_false_iff_not];omega
   have e1:decide ((0:Int)<(i:Int))=true:=by simp only[decide_eq_true_eq];omega
   have hxt:x∈l.tail:=by
    have:x∈l.drop 1:=by
     have hm:x∈l.drop i:=by rw[hd];simp
     have:l.drop i=(l.drop 1).drop (i-1):=by rw[List.drop_drop,show 1+(i-1)=i by omega]
     rw[this]at hm
     exact List.mem_of_mem_drop hm
    simpa using this
   obtain⟨d0,r0,hx0⟩:∃ d0 r0,x.2.1=d0::r0:=by
    cases hc:x.2.1 with
    | nil=>exact absurd hc (hne x hxt)
    | cons d0 r0=>exact⟨d0,r0,rfl⟩
   have hn0:nth x.2.1 (0:Int)=some d0:=by have:=C3 x.2.1 0;rw[hx0]at this ⊢;exact this
   have hd0:md0 d0:=hx.outer.1 d0 (by rw[hx0];simp)
   have hh:x.2.1.headD 0=d0:=by rw[hx0];rfl
   simp only[e1,cond_true,e0,hn0,b9,h.Side_eq hd0,eR0,ek0,hh]
   by_cases hz:bo0 ars d0=0
   ·simp[hz]
   ·simp only[hz,decide_false,cond_false,Bool.false_or]
    by_cases hs:bo0 ars d0∈a.1
    ·simp[hs]
    ·have e4:V9 (fun (a b:Int)=>decide (a=b)) (bo0 ars d0) true (ad0 a.1)=ad0 (a.1++[bo0 ars d0]):=jZ0 _ _ hs
     simp only[hs,decide_false,cond_false,e4]
     refine(sl (bo0 ars d0) (gh0 x) hcs hcl _ _).trans ?_
     simp only[hcat,b9]
     have:=hr (a.1++[bo0 ars d0],a.2++[bo0 ars d0]) (by simp;omega)
     rw[er]at this
     rw[this]
     cases (gh0 x).all (fun c=>c.all fun d=>decide (bo0 ars d=bo0 ars d0))<;>simp
end cw0
end Go.Ab
