/- A part of the proof; its readable source lies in wip of the prover's repo (squeezed here for the limit of bytes). -/
import Derived.Test.YtlnpfkdodfgdcaaGreatDoorMd
import Derived.Test.YtlnpfkdodfgdcaaGreatDoorProg
import Derived.KernelRfl
set_option linter.unusedVariables false
set_option linter.unusedSimpArgs false
set_option linter.unusedSectionVars false
open ByteArray renaming mk->cD
open List renaming mem_of_getElem?->aN
open Nat renaming beq->aB
namespace Go.Proofs.YtlnpfkdodfgdcaaGreatDoor
open Go Go.Ab Go.Proofs
set_option maxRecDepth 100000
class Mx where
  n:Int
def fe0:List Value:=[.int .i32 32,.int .i32 32,.int .i64 0,.int .i32 39,.int .i32 41,.int .i64 0,.int .i32 45,.int .i32 46,.int .i64 0,.int .i32 48,.int .i32 57,.int .i64 0,.int .i32 65,.int .i32 90,.int .i64 1,.int .i32 97,.int .i32 122,.int .i64 1,.int .i32 192,.int .i32 214,.int .i64 1,.int .i32 216,.int .i32 246,.int .i64 1,.int .i32 248,.int .i32 591,.int .i64 1,.int .i32 880,.int .i32 1023,.int .i64 2,.int .i32 1024,.int .i32 1279,.int .i64 3,.int .i32 1488,.int .i32 1514,.int .i64 4,.int .i32 19968,.int .i32 40959,.int .i64 5]
instance [Mx]:B6:=⟨fun b o=>match aB b 0 with
  | true=>fe0[o]?
  | false=>match aB b 3&&aB o 0 with
    | true=>some (.int .i64 Mx.n)
    | false=>none⟩
variable [Mx]
noncomputable def tT:Tr TI:=tTr Tryz.prog
noncomputable def fT:Tr Func:=fTr Tryz.prog
noncomputable def T:Tab:=fun t=>tT.get t
noncomputable def F:FuncId->Option Func:=fun f=>fT.get f
theorem hT:C0 Tryz.prog T:=tTr_ok Tryz.prog
theorem hF:∀ f fn,F f=some fn->Tryz.prog.funcs[f]?=some fn:=fTr_ok Tryz.prog
theorem hmix:Tryz.prog.follows .mixedOrders=true:=by kernel_rfl
def A:AV:=.any
def bF:AV:=.sc (.bool false)
def bT:AV:=.sc (.bool true)
def y(n:Nat):AV:=.sy n
def iV(n:Int):AV:=.sc (.int .i64 n)
def get1{α:Type}:Nat->List (Nat×α)->Option α
  | _,[]=>none
  | n,(k,v)::l=>match aB n k with
    | true=>some v
    | false=>get1 n l
def at1{α:Type}:Nat->List α->Option α
  | _,[]=>none
  | 0,a::_=>some a
  | n+1,_::l=>at1 n l
def up(l:List AV)(n:Nat)(m:List (Nat×AV)):List AV:=(List.range n).map fun i=>match get1 i m with
  | some v=>v
  | none=>match at1 i l with
    | some v=>v
    | none=>.any
def ur(l:List (Nat×l6))(ks:List Nat)(m:List (Nat×l6)):List (Nat×l6):=ks.map fun k=>(k,match get1 k m with
  | some v=>v
  | none=>match get1 k l with
    | some v=>v
    | none=>.row 0 0 [])
abbrev z0:Sp:=.sl (.one sI)
abbrev z1:SpL:=.cons sI (.one sI)
abbrev z2:SpL:=.one z0
abbrev z3:Sp:=.sl z1
abbrev z4:Sp:=.agg z1
abbrev z5:SpL:=.cons sI z1
abbrev z6:SpL:=.cons .str z2
abbrev z7:Sp:=.sl z5
abbrev z8:SpL:=.cons sI z5
abbrev z9:SpL:=.cons sI (.one z3)
abbrev z10:SpL:=.cons sI z6
abbrev z11:SpL:=.cons z3 z1
abbrev z12:SpL:=.cons sI z10
abbrev z13:SpL:=.cons sI z11
abbrev z14:SpL:=.cons sI z12
abbrev z15:SpL:=.cons z4 (.one z4)
abbrev z16:Sp:=.sl z14
abbrev z17:SpL:=.cons sI z13
abbrev z18:SpL:=.one z16
abbrev z19:SpL:=.cons sI z17
abbrev z20:SpL:=.cons z3 (.cons sI z9)
abbrev z21:Sp:=.sl z19
abbrev z22:SpL:=.cons sI z20
abbrev z23:SpL:=.cons z0 z18
abbrev z24:SpL:=.cons z4 z15
abbrev z25:SpL:=.cons sI z22
abbrev z26:SpL:=.cons sI z25
abbrev z27:SpL:=.cons z21 z2
abbrev z28:Sp:=.ptr z26
abbrev z29:SpL:=.cons z28 (.one sI)
abbrev z30:Sp:=.agg z29
abbrev z31:SpL:=.one z30
abbrev z32:SpL:=.cons z7 z27
abbrev z33:Sp:=.agg z32
abbrev z34:SpL:=.one z33
abbrev z35:SpL:=.cons z33 (.one sI)
abbrev z36:SpL:=.cons z21 z23
abbrev z37:SpL:=.cons z7 z36
abbrev z38:Sp:=.agg z37
abbrev z39:SpL:=.one z38
noncomputable abbrev q0:TF:=⟨43,(.one z3),(.agg z8),E6⟩
noncomputable abbrev q1:TF:=⟨15,z34,.bool,F5⟩
noncomputable abbrev q2:TF:=⟨6,z39,.bool,C4⟩
noncomputable abbrev q3:TF:=⟨12,.nil,(.agg (.cons sI (.cons sI z8))),P0⟩
noncomputable abbrev q4:TF:=⟨16,.nil,z38,Z5⟩
noncomputable abbrev q5:TF:=⟨28,z5,.bool,E5⟩
noncomputable abbrev q6:TF:=⟨9,(.one (.agg (.cons sI (.cons sI z8)))),sI,D6⟩
noncomputable abbrev q7:TF:=⟨95,z34,(.tup (.cons z0 z2)),L4⟩
noncomputable abbrev q8:TF:=⟨96,z2,.bool,I8⟩
noncomputable abbrev q9:TF:=⟨126,(.one sI),.bool,N6⟩
noncomputable abbrev q10:TF:=⟨58,(.cons z0 (.one (.fn 126 .nil))),.bool,w8⟩
noncomputable abbrev q11:TF:=⟨97,z2,.bool,L1⟩
noncomputable abbrev q12:TF:=⟨127,(.one z4),.bool,K5⟩
noncomputable abbrev q13:TF:=⟨128,(.cons z3 (.one (.fn 127 .nil))),.bool,u4⟩
noncomputable abbrev q14:TF:=⟨98,z34,.bool,ax0⟩
noncomputable abbrev q15:TF:=⟨93,(.cons z0 (.one sI)),sI,H8⟩
noncomputable abbrev q16:TF:=⟨65,(.cons z0 (.one sI)),.bool,l8⟩
noncomputable abbrev q17:TF:=⟨99,(.cons z33 z2),sI,P3⟩
noncomputable abbrev q18:TF:=⟨92,(.one z3),z3,slices_Clone_api_Point⟩
noncomputable abbrev q19:TF:=⟨60,z35,(.tup (.cons (.agg z19) (.one .bool))),al0⟩
noncomputable abbrev q20:TF:=⟨49,z35,(.tup (.cons (.agg z5) (.one .bool))),N7⟩
noncomputable abbrev q21:TF:=⟨45,z35,(.tup (.cons z3 (.one sI))),E9⟩
noncomputable abbrev q22:TF:=⟨135,z31,(.tup z15),u5⟩
noncomputable abbrev q23:TF:=⟨132,z31,sI,B2⟩
noncomputable abbrev q24:TF:=⟨53,(.one sI),.bool,C2⟩
noncomputable abbrev q25:TF:=⟨27,z1,sI,y0⟩
noncomputable abbrev q26:TF:=⟨131,(.cons z30 z31),sI,T4⟩
noncomputable abbrev q27:TF:=⟨1000130,(.cons (.sl z29) (.cons sI (.one (.fn 131 .nil)))),(.sl z29),slices_SortFunc_plan_segment_plan_planar_1⟩
noncomputable abbrev q28:TF:=⟨133,z31,sI,F7⟩
noncomputable abbrev q29:TF:=⟨69,(.one z3),.bool,L7⟩
noncomputable abbrev q30:TF:=⟨70,z24,sI,M3⟩
noncomputable abbrev q31:TF:=⟨136,z24,.bool,y4⟩
noncomputable abbrev q32:TF:=⟨137,z31,.bool,A4⟩
noncomputable abbrev q33:TF:=⟨138,z31,.bool,w6⟩
noncomputable abbrev q34:TF:=⟨46,z24,sI,V3⟩
noncomputable abbrev q35:TF:=⟨142,z24,sI,u7⟩
noncomputable abbrev q36:TF:=⟨204,z15,.bool,l7⟩
noncomputable abbrev q37:TF:=⟨187,(.cons z4 z24),sI,V7⟩
noncomputable abbrev q38:TF:=⟨159,(.cons z4 z24),sI,bp0⟩
noncomputable abbrev q39:TF:=⟨134,(.cons z30 (.cons z30 (.one (.fmap (.cons sI (.one z4)))))),.bool,J8⟩
noncomputable abbrev q40:TF:=⟨100,z34,.bool,az0⟩
noncomputable abbrev q41:TF:=⟨67,z34,sI,as0⟩
noncomputable abbrev q42:TF:=⟨163,z15,.bool,R4⟩
noncomputable abbrev q43:TF:=⟨152,z24,.bool,X6⟩
noncomputable abbrev q44:TF:=⟨151,(.cons sI (.cons sI (.cons (.ptr z5) (.one (.ptr (.one (.fmap (.cons sI (.one z4))))))))),sI,I4⟩
noncomputable abbrev q45:TF:=⟨1000150,(.cons z0 (.cons sI (.one (.fn 151 (.cons (.ptr z5) (.one (.ptr (.one (.fmap (.cons sI (.one z4))))))))))),z0,slices_SortFunc_int_walk_Around_2⟩
noncomputable abbrev q46:TF:=⟨117,z35,z0,U9⟩
noncomputable abbrev q47:TF:=⟨118,(.cons z0 (.one sI)),sI,M6⟩
noncomputable abbrev q48:TF:=⟨1000119,(.cons z0 (.one sI)),z0,slices_Sort_int⟩
noncomputable abbrev q49:TF:=⟨84,z34,(.tup (.cons (.sl z2) (.one sI))),Q8⟩
noncomputable abbrev q50:TF:=⟨85,z34,(.fmap z9),P9⟩
noncomputable abbrev q51:TF:=⟨154,z35,(.tup (.cons (.agg z19) (.one .bool))),an0⟩
noncomputable abbrev q52:TF:=⟨121,(.cons z33 z2),sI,ar0⟩
noncomputable abbrev q53:TF:=⟨155,(.cons (.fmap z9) (.cons z0 (.one z4))),.bool,y6⟩
noncomputable abbrev q54:TF:=⟨48,z35,sI,R1⟩
noncomputable abbrev q55:TF:=⟨86,(.cons z33 (.cons (.sl z2) (.one (.fmap z9)))),(.sl (.cons sI (.cons z0 (.cons (.sl z2) z2)))),T2⟩
noncomputable abbrev q56:TF:=⟨123,z35,sI,X7⟩
noncomputable abbrev q57:TF:=⟨124,(.one (.agg (.cons sI (.cons z0 (.cons (.sl z2) z2))))),(.sl z2),D8⟩
noncomputable abbrev q58:TF:=⟨87,(.cons z33 (.one (.sl (.cons sI (.cons z0 (.cons (.sl z2) z2)))))),(.tup (.cons z0 (.one .bool))),Y7⟩
noncomputable abbrev q59:TF:=⟨29,z34,sI,Y1⟩
noncomputable abbrev q60:TF:=⟨30,(.one (.agg z14)),.bool,aP0⟩
noncomputable abbrev q61:TF:=⟨41,(.cons z16 (.one (.fn 30 .nil))),.bool,o9⟩
noncomputable abbrev q62:TF:=⟨32,(.one (.agg z14)),.bool,T8⟩
noncomputable abbrev q63:TF:=⟨41,(.cons z16 (.one (.fn 32 .nil))),.bool,j7⟩
noncomputable abbrev q64:TF:=⟨34,(.one sI),sI,A3⟩
noncomputable abbrev q65:TF:=⟨33,(.one (.agg z14)),.bool,U1⟩
noncomputable abbrev q66:TF:=⟨41,(.cons z16 (.one (.fn 33 .nil))),.bool,l5⟩
noncomputable abbrev q67:TF:=⟨90,(.one sI),sI,R6⟩
noncomputable abbrev q68:TF:=⟨88,(.one .str),(.tup (.cons z0 (.one sI))),Y0⟩
noncomputable abbrev q69:TF:=⟨89,(.cons .str (.one .str)),.bool,strings_Contains⟩
noncomputable abbrev q70:TF:=⟨57,(.one .str),(.tup (.cons z0 (.one sI))),cy0⟩
noncomputable abbrev q71:TF:=⟨36,(.one .str),sI,W1⟩
noncomputable abbrev q72:TF:=⟨35,(.one (.agg z14)),.bool,T3⟩
noncomputable abbrev q73:TF:=⟨41,(.cons z16 (.one (.fn 35 .nil))),.bool,j5⟩
noncomputable abbrev q74:TF:=⟨37,(.one (.agg z14)),.bool,T7⟩
noncomputable abbrev q75:TF:=⟨41,(.cons z16 (.one (.fn 37 .nil))),.bool,j6⟩
noncomputable abbrev q76:TF:=⟨61,(.cons z0 (.one sI)),.bool,et0⟩
noncomputable abbrev q77:TF:=⟨59,(.cons sI (.cons (.ptr z14) (.one (.ptr z32)))),.bool,J9⟩
noncomputable abbrev q78:TF:=⟨58,(.cons z0 (.one (.fn 59 (.cons (.ptr z14) (.one (.ptr z32)))))),.bool,y8⟩
noncomputable abbrev q79:TF:=⟨39,(.cons z33 (.one (.agg z14))),.bool,N9⟩
noncomputable abbrev q80:TF:=⟨38,(.cons (.agg z14) (.one (.ptr z37))),.bool,T9⟩
noncomputable abbrev q81:TF:=⟨41,(.cons z16 (.one (.fn 38 (.one (.ptr z37))))),.bool,j8⟩
noncomputable abbrev q82:TF:=⟨56,z2,.bool,V2⟩
noncomputable abbrev q83:TF:=⟨10,z39,sI,H9⟩
noncomputable abbrev q84:TF:=⟨94,z2,z0,slices_Clone_int⟩
noncomputable abbrev q85:TF:=⟨66,(.cons z38 (.one sI)),(.tup (.cons (.agg z14) (.one .bool))),Y5⟩
noncomputable abbrev q86:TF:=⟨44,(.cons z38 (.one sI)),sI,R5⟩
noncomputable abbrev q87:TF:=⟨139,(.cons (.agg z8) (.one z4)),.bool,dQ0⟩
noncomputable abbrev q88:TF:=⟨102,(.one z4),.bool,I9⟩
noncomputable abbrev q89:TF:=⟨141,(.cons (.agg z19) (.one (.ptr z19))),.bool,D2⟩
noncomputable abbrev q90:TF:=⟨140,(.cons z21 (.one (.fn 141 (.one (.ptr z19))))),.bool,w7⟩
noncomputable abbrev q91:TF:=⟨103,(.cons z33 (.one (.agg z19))),.bool,F8⟩
noncomputable abbrev q92:TF:=⟨71,(.cons z33 (.cons (.agg z19) (.cons z3 (.one sI)))),.bool,U2⟩
noncomputable abbrev q93:TF:=⟨47,(.cons z33 z1),.bool,I3⟩
noncomputable abbrev q94:TF:=⟨106,z15,sI,J0⟩
noncomputable abbrev q95:TF:=⟨144,(.one sI),(.int .u64),W5⟩
noncomputable abbrev q96:TF:=⟨109,(.cons (.int .u64) (.one (.int .u64))),(.tup (.cons (.int .u64) (.one (.int .u64)))),ap0⟩
noncomputable abbrev q97:TF:=⟨83,(.one (.int .u64)),sI,JR0⟩
noncomputable abbrev q98:TF:=⟨161,(.one (.int .u64)),sI,Ju0⟩
noncomputable abbrev q99:TF:=⟨145,(.cons (.int .u64) (.cons (.int .u64) (.one (.int .u64)))),(.tup (.cons (.int .u64) (.one (.int .u64)))),bB0⟩
noncomputable abbrev q100:TF:=⟨146,(.cons (.int .u64) (.one .bool)),(.tup (.cons sI (.one .bool))),M5⟩
noncomputable abbrev q101:TF:=⟨107,z5,(.tup z1),bN0⟩
noncomputable abbrev q102:TF:=⟨147,(.cons (.int .u64) (.one (.int .u64))),(.int .u64),aE0⟩
noncomputable abbrev q103:TF:=⟨108,z1,sI,hB0⟩
noncomputable abbrev q104:TF:=⟨110,(.cons (.int .u64) (.cons (.int .u64) (.one (.int .u64)))),(.tup (.cons (.int .u64) (.one (.int .u64)))),bits_Add64⟩
noncomputable abbrev q105:TF:=⟨72,z24,z4,Y2⟩
noncomputable abbrev q106:TF:=⟨111,z1,sI,cN0⟩
noncomputable abbrev q107:TF:=⟨73,z1,(.tup z1),bL0⟩
noncomputable abbrev q108:TF:=⟨50,(.cons z33 (.cons sI (.cons z4 (.one sI)))),sI,Q0⟩
noncomputable abbrev q109:TF:=⟨64,(.cons (.agg z14) (.one (.ptr z19))),.bool,O5⟩
noncomputable abbrev q110:TF:=⟨41,(.cons z16 (.one (.fn 64 (.one (.ptr z19))))),.bool,o8⟩
noncomputable abbrev q111:TF:=⟨42,z39,z0,N3⟩
noncomputable abbrev q112:TF:=⟨14,z39,z0,G8⟩
noncomputable abbrev q113:TF:=⟨26,z2,sI,J6⟩
noncomputable abbrev q114:TF:=⟨25,(.cons (.agg z8) (.one (.agg z8))),sI,F1⟩
noncomputable abbrev q115:TF:=⟨1000024,(.cons (.sl z8) (.cons sI (.one (.fn 25 .nil)))),(.sl z8),slices_SortFunc_api_Violation_rules_Violations_2⟩
noncomputable abbrev q116:TF:=⟨8,(.cons z38 (.one (.agg (.cons sI (.cons sI z8))))),(.tup (.cons (.sl z8) (.one sI))),A7⟩
noncomputable abbrev q117:TF:=⟨17,(.cons (.sl z8) (.one (.sl z8))),.bool,aM0⟩
noncomputable abbrev q118:TF:=⟨11,(.one (.sl z8)),sI,K9⟩
noncomputable abbrev q119:TF:=⟨18,(.cons (.sl z8) (.one (.sl z8))),.bool,hV0⟩
noncomputable abbrev q120:TF:=⟨7,.nil,.bool,mapsheetslaw36_awake⟩
noncomputable abbrev q121:TF:=⟨13,(.cons z0 z2),.bool,Q9⟩
noncomputable abbrev q122:TF:=⟨5,z39,.bool,P7⟩
noncomputable def tfs:List TF:=[q0,q1,q2,q3,q4,q5,q6,q7,q8,q9,q10,q11,q12,q13,q14,q15,q16,q17,q18,q19,q20,q21,q22,q23,q24,q25,q26,q27,q28,q29,q30,q31,q32,q33,q34,q35,q36,q37,q38,q39,q40,q41,q42,q43,q44,q45,q46,q47,q48,q49,q50,q51,q52,q53,q54,q55,q56,q57,q58,q59,q60,q61,q62,q63,q64,q65,q66,q67,q68,q69,q70,q71,q72,q73,q74,q75,q76,q77,q78,q79,q80,q81,q82,q83,q84,q85,q86,q87,q88,q89,q90,q91,q92,q93,q94,q95,q96,q97,q98,q99,q100,q101,q102,q103,q104,q105,q106,q107,q108,q109,q110,q111,q112,q113,q114,q115,q116,q117,q118,q119,q120,q121,q122]
noncomputable def Φ:H7:=fz0 Tryz.prog tfs
noncomputable def tre(Ψ:List TF)(S:List (Nat×SpL))(q:TF)(H:List (Nat×Hint))(p:List AV)(fr:Nat):q.dom.T->Option q.cod.T:=ul0 T Ψ (shL S) q.dom q.cod p (ia0 T Φ F H 100000 q.f p fr)
theorem rN0:uW0 tfs=true:=by kernel_rfl
def a0_0:List AV:=up [] 66 [(0,y 0),(2,.mp 0 0 0),(3,.mp 21 0 0),(4,y 11),(5,y 0),(6,y 1),(7,bF),(9,y 0),(10,.rp [y 3,y 4]),(11,.rp [y 3,y 4]),(12,y 3),(13,y 0),(14,.rp [y 5,y 6]),(15,.rp [y 6]),(16,y 6),(17,y 0),(18,.rp [y 7,y 8]),(19,.rp [y 7,y 8]),(20,y 7),(21,y 0),(22,.rp [y 9,y 10]),(23,.rp [y 10]),(24,y 10),(25,.agg [y 3,y 6,y 7,y 10])]
def r0_0:List (Nat×l6):=ur [] [0,21] [(0,.row 81 4 [[iV 0,iV 0,iV 0,iV 0]]),(21,.row 81 4 [[y 12,y 13,y 14,y 15]])]
noncomputable def e0:=tre [] [(11,(.cons sI z8))] q0 [(2953117776,⟨5,a0_0,r0_0,24⟩)] [y 0] 1
theorem d0:e0=E6:=by kernel_rfl
def a1_0:List AV:=up [] 101 [(0,.agg [y 0,y 1,y 2]),(1,.mp 0 0 0),(2,bF),(3,.ss 20 2 9),(4,y 10),(7,.mp 0 0 0),(8,y 0),(9,y 3),(10,bF),(11,bF),(12,.mp 0 0 1),(13,y 1),(14,y 5),(15,bF),(16,bF),(17,bF),(18,.mp 0 0 2),(19,y 2),(20,y 7),(21,bF),(22,bF)]
def r1_0:List (Nat×l6):=ur [] [0,20] [(0,.row 26 3 [[y 0,y 1,y 2]]),(20,.xrow 75 2 9)]
def a1_1:List AV:=up a1_0 101 [(3,.ss 20 2 14),(5,y 15),(23,y 10),(24,.mp 0 0 0),(25,y 0),(26,y 12),(27,bF)]
def r1_1:List (Nat×l6):=ur r1_0 [0,20] [(20,.xrow 75 2 14)]
noncomputable def e1:=tre [q0] [(9,(.cons z3 (.one sI))),(14,(.cons z3 (.one sI)))] q1 [(2416247429,⟨2,a1_0,r1_0,21⟩),(3758687000,⟨2,a1_1,r1_1,27⟩)] [.agg [y 0,y 1,y 2]] 3
theorem d1:e1=F5:=by kernel_rfl
def a2_0:List AV:=up [] 39 [(0,.agg [y 0,y 1,y 2,y 3]),(1,.mp 0 0 0),(2,bF),(3,y 8),(4,.mp 0 0 0),(5,.agg [y 0,y 1,y 2]),(6,y 4),(7,bF),(8,bF),(9,.mp 0 0 3),(10,y 3),(11,y 6),(12,bF),(13,bF)]
def r2_0:List (Nat×l6):=ur [] [0] [(0,.row 29 4 [[y 0,y 1,y 2,y 3]])]
noncomputable def e2:=tre [q1] [(8,(.one sI))] q2 [(2147746055,⟨1,a2_0,r2_0,13⟩)] [.agg [y 0,y 1,y 2,y 3]] 4
theorem d2:e2=C4:=by kernel_rfl
noncomputable def e3:=tre [] [] q3 [] [] 0
theorem d3:e3=P0:=by kernel_rfl
noncomputable def e4:=tre [] [] q4 [] [] 0
theorem d4:e4=Z5:=by kernel_rfl
noncomputable def e5:=tre [] [] q5 [] [y 0,y 1,y 2] 3
theorem d5:e5=E5:=by kernel_rfl
noncomputable def e6:=tre [q5] [] q6 [] [.agg [y 0,y 1,y 2,y 3,y 4,y 5]] 6
theorem d6:e6=D6:=by kernel_rfl
def a7_0:List AV:=up [] 36 [(0,.agg [y 0,y 1,y 2]),(1,.mp 0 0 0),(2,.ss 7 1 4),(3,.sc (.slice none 0 0)),(8,.mp 0 0 0),(9,y 0),(10,y 3),(11,y 5)]
def r7_0:List (Nat×l6):=ur [] [0,7] [(0,.row 26 3 [[y 0,y 1,y 2]]),(7,.xrow 3 1 4)]
def a7_1:List AV:=up a7_0 36 [(3,.ss 13 1 9),(12,bF),(21,.mp 0 0 1),(22,y 1),(23,y 8),(24,y 10)]
def r7_1:List (Nat×l6):=ur r7_0 [0,7,13] [(13,.xrow 3 1 9)]
noncomputable def e7:=tre [] [(4,(.cons z0 (.one sI))),(9,(.cons z0 (.one sI)))] q7 [(1073872980,⟨2,a7_0,r7_0,8⟩),(2416378096,⟨2,a7_1,r7_1,14⟩)] [.agg [y 0,y 1,y 2]] 3
theorem d7:e7=L4:=by kernel_rfl
def a8_0:List AV:=up [] 20 [(0,y 0),(2,bF),(3,y 1)]
noncomputable def e8:=tre [] [(1,(.one sI))] q8 [(268566575,⟨1,a8_0,[],2⟩)] [y 0] 1
theorem d8:e8=I8:=by kernel_rfl
noncomputable def e9:=tre [] [] q9 [] [y 0] 1
theorem d9:e9=N6:=by kernel_rfl
def a10_0:List AV:=up [] 19 [(0,y 0),(1,.fn (.func 126) [] []),(4,iV 0),(6,y 0),(7,y 1),(8,y 2)]
noncomputable def e10:=tre [q9] [(2,(.one sI))] q10 [(537002336,⟨1,a10_0,[],10⟩)] [y 0,.fn (.func 126) [] []] 1
theorem d10:e10=w8:=by kernel_rfl
noncomputable def e11:=tre [q10] [] q11 [] [y 0] 1
theorem d11:e11=L1:=by kernel_rfl
noncomputable def e12:=tre [] [] q12 [] [.agg [y 0,y 1]] 2
theorem d12:e12=K5:=by kernel_rfl
def a13_0:List AV:=up [] 19 [(0,y 0),(1,.fn (.func 127) [] []),(4,iV 0),(6,y 0),(7,y 1),(8,y 2)]
noncomputable def e13:=tre [q12] [(2,(.one sI))] q13 [(537002338,⟨1,a13_0,[],10⟩)] [y 0,.fn (.func 127) [] []] 1
theorem d13:e13=u4:=by kernel_rfl
def a14_0:List AV:=up [] 32 [(0,.agg [y 0,y 1,y 2]),(1,.mp 0 0 0),(2,bF),(3,.fn (.func 127) [] []),(8,.mp 0 0 0),(9,y 0),(10,y 3),(11,y 4)]
def r14_0:List (Nat×l6):=ur [] [0] [(0,.row 26 3 [[y 0,y 1,y 2]])]
def a14_1:List AV:=up a14_0 32 [(12,bF),(20,.mp 0 0 1),(21,y 1),(22,y 7),(23,y 8)]
def r14_1:List (Nat×l6):=ur r14_0 [0] []
noncomputable def e14:=tre [q12,q13] [(4,(.one sI)),(8,(.one sI))] q14 [(1073939043,⟨1,a14_0,r14_0,7⟩),(2148074232,⟨1,a14_1,r14_1,12⟩)] [.agg [y 0,y 1,y 2]] 3
theorem d14:e14=ax0:=by kernel_rfl
def a15_0:List AV:=up [] 19 [(0,y 0),(1,y 1),(4,iV 0),(6,y 0),(7,y 2),(8,y 3)]
noncomputable def e15:=tre [] [(3,(.one sI))] q15 [(805437538,⟨1,a15_0,[],4⟩)] [y 0,y 1] 2
theorem d15:e15=H8:=by kernel_rfl
noncomputable def e16:=tre [q15] [] q16 [] [y 0,y 1] 2
theorem d16:e16=l8:=by kernel_rfl
def a17_0:List AV:=up [] 85 [(0,.agg [y 0,y 1,y 2]),(1,y 3),(2,.mp 0 0 0),(4,iV 0),(15,.mp 0 0 0),(16,y 0),(17,y 4),(18,y 5)]
def r17_0:List (Nat×l6):=ur [] [0] [(0,.row 26 3 [[y 0,y 1,y 2]])]
def a17_1:List AV:=up a17_0 85 [(5,y 5),(6,.mp 10 0 0),(19,bT),(20,y 5),(21,.rp [y 8,y 9,y 10]),(22,.agg [y 8,y 9,y 10]),(23,.mp 0 0 0),(24,y 0),(25,y 5),(26,y 11),(27,y 12),(28,y 13)]
def r17_1:List (Nat×l6):=ur r17_0 [0,10] [(10,.row 77 3 [[y 8,y 9,y 10]])]
def a17_2:List AV:=up a17_1 85 [(5,A),(6,A),(19,bF),(20,A),(21,A),(22,A),(23,A),(24,A),(25,A),(26,A),(27,A),(28,A),(39,.mp 0 0 1),(40,y 1),(41,y 8),(42,y 9)]
def r17_2:List (Nat×l6):=ur r17_1 [0] []
def a17_3:List AV:=up a17_2 85 [(43,bF),(59,.mp 0 0 1),(60,y 1),(61,y 12),(62,y 13)]
def r17_3:List (Nat×l6):=ur r17_2 [0] []
noncomputable def e17:=tre [q16] [(5,(.one sI)),(9,(.one sI)),(13,(.one sI))] q17 [(1342308520,⟨1,a17_0,r17_0,6⟩),(3489988906,⟨1,a17_1,r17_1,19⟩),(2416705972,⟨1,a17_2,r17_2,11⟩),(3490841372,⟨1,a17_3,r17_3,16⟩)] [.agg [y 0,y 1,y 2],y 3] 4
theorem d17:e17=P3:=by kernel_rfl
def a19_0:List AV:=up [] 26 [(0,.agg [y 0,y 1,y 2]),(1,y 3),(2,.mp 0 0 0),(4,.mp 1 0 0),(5,bF),(8,.mp 0 0 1),(9,y 1),(10,y 4),(11,y 5)]
def r19_0:List (Nat×l6):=ur [] [0,1] [(0,.row 26 3 [[y 0,y 1,y 2]]),(1,.row 79 6 [[iV 0,iV 0,iV 0,.sc (.slice none 0 0),iV 0,iV 0]])]
noncomputable def e19:=tre [q18] [(5,(.one sI))] q19 [(1342308466,⟨1,a19_0,r19_0,7⟩)] [.agg [y 0,y 1,y 2],y 3] 4
theorem d19:e19=al0:=by kernel_rfl
def a20_0:List AV:=up [] 22 [(0,.agg [y 0,y 1,y 2]),(1,y 3),(2,.mp 0 0 0),(4,.mp 1 0 0),(5,bF),(8,.mp 0 0 0),(9,y 0),(10,y 4),(11,y 5)]
def r20_0:List (Nat×l6):=ur [] [0,1] [(0,.row 26 3 [[y 0,y 1,y 2]]),(1,.row 77 3 [[iV 0,iV 0,iV 0]])]
noncomputable def e20:=tre [] [(5,(.one sI))] q20 [(1342308466,⟨1,a20_0,r20_0,7⟩)] [.agg [y 0,y 1,y 2],y 3] 4
theorem d20:e20=N7:=by kernel_rfl
noncomputable def e21:=tre [q19,q20] [] q21 [] [.agg [y 0,y 1,y 2],y 3] 4
theorem d21:e21=E9:=by kernel_rfl
noncomputable def e22:=tre [] [] q22 [] [.agg [y 0,y 1]] 2
theorem d22:e22=u5:=by kernel_rfl
noncomputable def e23:=tre [q22] [] q23 [] [.agg [y 0,y 1]] 2
theorem d23:e23=B2:=by kernel_rfl
noncomputable def e24:=tre [] [] q24 [] [y 0] 1
theorem d24:e24=C2:=by kernel_rfl
noncomputable def e25:=tre [q24] [] q25 [] [y 0,y 1] 2
theorem d25:e25=y0:=by kernel_rfl
noncomputable def e26:=tre [q23,q25] [] q26 [] [.agg [y 0,y 1],.agg [y 2,y 3]] 4
theorem d26:e26=T4:=by kernel_rfl
noncomputable def e28:=tre [q22] [] q28 [] [.agg [y 0,y 1]] 2
theorem d28:e28=F7:=by kernel_rfl
def a29_0:List AV:=up [] 30 [(0,y 0),(2,bF),(5,y 0),(6,y 1),(7,y 2)]
noncomputable def e29:=tre [] [(2,(.one sI))] q29 [(537002055,⟨1,a29_0,[],4⟩)] [y 0] 1
theorem d29:e29=L7:=by kernel_rfl
noncomputable def e30:=tre [] [] q30 [] [.agg [y 0,y 1],.agg [y 2,y 3],.agg [y 4,y 5]] 6
theorem d30:e30=M3:=by kernel_rfl
noncomputable def e31:=tre [q29,q30] [] q31 [] [.agg [y 0,y 1],.agg [y 2,y 3],.agg [y 4,y 5]] 6
theorem d31:e31=y4:=by kernel_rfl
noncomputable def e32:=tre [] [] q32 [] [.agg [y 0,y 1]] 2
theorem d32:e32=A4:=by kernel_rfl
noncomputable def e33:=tre [] [] q33 [] [.agg [y 0,y 1]] 2
theorem d33:e33=w6:=by kernel_rfl
noncomputable def e34:=tre [q29,q30] [] q34 [] [.agg [y 0,y 1],.agg [y 2,y 3],.agg [y 4,y 5]] 6
theorem d34:e34=V3:=by kernel_rfl
noncomputable def e35:=tre [q34] [] q35 [] [.agg [y 0,y 1],.agg [y 2,y 3],.agg [y 4,y 5]] 6
theorem d35:e35=u7:=by kernel_rfl
noncomputable def e36:=tre [] [] q36 [] [.agg [y 0,y 1],.agg [y 2,y 3]] 4
theorem d36:e36=l7:=by kernel_rfl
noncomputable def e37:=tre [q36] [] q37 [] [.agg [y 0,y 1],.agg [y 2,y 3],.agg [y 4,y 5],.agg [y 6,y 7]] 8
theorem d37:e37=V7:=by kernel_rfl
noncomputable def e38:=tre [q29,q31,q35,q37] [] q38 [] [.agg [y 0,y 1],.agg [y 2,y 3],.agg [y 4,y 5],.agg [y 6,y 7]] 8
theorem d38:e38=bp0:=by kernel_rfl
noncomputable def e39:=tre [q22,q38,q32,q33,q31] [] q39 [] [.agg [y 0,y 1],.agg [y 2,y 3],y 4] 5
theorem d39:e39=J8:=by kernel_rfl
def a40_0:List AV:=up [] 67 [(0,.agg [y 0,y 1,y 2]),(1,.mp 9 0 0),(2,.ss 16 2 4),(3,bF),(10,.mp 9 0 1),(11,y 1),(12,y 3),(13,y 5)]
def r40_0:List (Nat×l6):=ur [] [0,9,16] [(0,.row 26 3 [[y 0,y 1,y 2]]),(9,.row 26 3 [[y 0,y 1,y 2]]),(16,.xrow 186 2 4)]
def a40_1:List AV:=up a40_0 67 [(2,.ss 16 2 22),(5,.mp 20 0 0),(6,y 14),(7,y 15),(8,.rp [y 8,y 9,y 10,y 11,y 12,y 13,y 14]),(14,bT),(15,.rp [y 8,y 9,y 10,y 11,y 12,y 13]),(16,.agg [y 8,y 9,y 10,y 11,y 12,y 13]),(17,.tup [y 14,y 15]),(18,.agg [y 0,y 1,y 2]),(19,.mp 20 0 0),(20,y 8),(21,.tup [y 14,y 15]),(22,y 14),(23,y 15),(24,y 15),(25,bF),(26,bF),(27,.mp 20 0 1),(28,y 9),(29,.mp 20 0 2),(30,y 10),(31,bT),(32,bT),(33,y 14),(34,y 18),(35,bF),(36,bF),(37,bF),(38,.agg [y 8,y 9,y 10,y 11,y 12,y 13]),(39,y 14),(40,.agg [y 8,y 9,y 10,y 11,y 12,y 13,y 14]),(41,.rp [y 8,y 9,y 10,y 11,y 12,y 13,y 14]),(42,y 14),(43,y 20),(44,y 21),(45,y 23)]
def r40_1:List (Nat×l6):=ur r40_0 [0,9,16,20] [(16,.xrow 186 2 22),(20,.row 79 6 [[y 8,y 9,y 10,y 11,y 12,y 13]])]
def a40_2:List AV:=up a40_1 67 [(2,.ss 16 2 20),(31,bF),(32,bF),(33,A),(34,A),(35,A),(43,y 18),(44,y 19),(45,y 21)]
def r40_2:List (Nat×l6):=ur r40_1 [0,9,16,20] [(16,.xrow 186 2 20)]
def a40_3:List AV:=up a40_2 117 [(1,.mp 0 0 0),(2,bF),(3,.ss 16 2 4),(4,bT),(5,.mm 23),(6,A),(7,A),(8,A),(10,A),(11,A),(12,A),(13,A),(14,A),(15,A),(16,.tup [.ss 16 2 4,bT]),(17,.agg [y 0,y 1,y 2]),(18,.tup [.ss 16 2 4,bT]),(19,.ss 16 2 4),(20,bT),(21,bT),(22,bF),(23,.mm 23),(24,.mp 0 0 0),(25,y 0),(26,y 8),(27,y 9),(28,A),(29,A),(30,A),(31,A),(32,A),(36,A),(37,A),(38,A),(39,A),(40,A),(41,A),(42,A),(43,A),(44,A),(45,A)]
def r40_3:List (Nat×l6):=ur r40_2 [0,16,23] [(16,.xrow 186 2 4),(23,.xmap (y 10))]
def a40_4:List AV:=up a40_3 117 [(3,y 13),(16,.tup [y 13,bT]),(18,.tup [y 13,bT]),(19,y 13),(28,bF),(37,y 13),(38,.tup []),(39,y 13),(40,y 14),(41,y 15)]
def r40_4:List (Nat×l6):=ur r40_3 [0,23] []
def a40_5:List AV:=up a40_4 117 [(8,y 15),(9,.mp 39 0 0),(42,bT),(43,y 15),(44,.rp [y 18,y 19]),(45,.agg [y 18,y 19]),(46,y 13),(47,y 15),(48,y 20),(49,y 21),(50,y 22),(51,y 23)]
def r40_5:List (Nat×l6):=ur r40_4 [0,23,39] [(39,.row 186 2 [[y 18,y 19]])]
def a40_6:List AV:=up a40_5 117 [(11,.mp 51 0 0),(52,bT),(53,.rp [y 26,y 27]),(54,.agg [y 26,y 27]),(55,.agg [y 26,y 27]),(56,y 28),(57,.agg [y 18,y 19]),(58,y 29),(59,bT),(66,.mp 0 0 0),(67,y 0),(68,y 31),(69,y 32)]
def r40_6:List (Nat×l6):=ur r40_5 [0,23,39,51] [(51,.row 186 2 [[y 26,y 27]])]
def a40_7:List AV:=up a40_6 117 [(11,A),(52,bF),(53,A),(54,A),(55,A),(56,A),(57,A),(58,A),(59,A),(68,y 26),(69,y 27)]
def r40_7:List (Nat×l6):=ur r40_6 [0,23,39] []
noncomputable def e40:=tre [q21,q27,q23,q28,q22,q31,q32,q33,q39] [(4,(.cons (.sl z29) (.one sI))),(22,(.cons (.sl z29) (.one sI))),(20,(.cons (.sl z29) (.one sI))),(9,(.cons sI (.one (.sl (.cons sI (.one z4)))))),(15,(.one sI)),(23,(.one sI)),(32,(.one sI)),(27,(.one sI))] q40 [(1073873014,⟨2,a40_0,r40_0,17⟩),(5906171258,⟨2,a40_1,r40_1,54⟩),(5369300296,⟨2,a40_2,r40_2,54⟩),(2416312790,⟨2,a40_3,r40_3,29⟩),(4027318985,⟨1,a40_4,r40_4,35⟩),(6174999440,⟨1,a40_5,r40_5,48⟩),(8591377761,⟨1,a40_6,r40_6,65⟩),(7249200407,⟨1,a40_7,r40_7,53⟩)] [.agg [y 0,y 1,y 2]] 3
theorem d40:e40=az0:=by kernel_rfl
def a41_0:List AV:=up [] 82 [(0,.agg [y 0,y 1,y 2]),(1,.mp 0 0 0),(2,iV 0),(7,.mp 0 0 0),(8,y 0),(9,y 3),(10,bF),(11,bF),(12,.mp 0 0 1),(13,y 1),(14,y 5),(15,bF),(16,bF),(17,bF),(18,.mp 0 0 2),(19,y 2),(20,y 7),(21,bF),(22,bF),(23,.mp 0 0 1),(24,y 1),(25,y 9),(26,y 10)]
def r41_0:List (Nat×l6):=ur [] [0] [(0,.row 26 3 [[y 0,y 1,y 2]])]
noncomputable def e41:=tre [q7,q8,q11,q14,q17,q40] [(10,(.one sI))] q41 [(2684617509,⟨1,a41_0,r41_0,22⟩)] [.agg [y 0,y 1,y 2]] 3
theorem d41:e41=as0:=by kernel_rfl
noncomputable def e42:=tre [] [] q42 [] [.agg [y 0,y 1],.agg [y 2,y 3]] 4
theorem d42:e42=R4:=by kernel_rfl
noncomputable def e43:=tre [q29,q42,q30] [] q43 [] [.agg [y 0,y 1],.agg [y 2,y 3],.agg [y 4,y 5]] 6
theorem d43:e43=X6:=by kernel_rfl
noncomputable def e44:=tre [q43] [] q44 [] [y 0,y 1,.rp [y 2,y 3,y 4],.rp [y 5]] 6
theorem d44:e44=I4:=by kernel_rfl
def a46_0:List AV:=up [] 80 [(0,.agg [y 0,y 1,y 2]),(1,y 3),(2,.mp 0 0 0),(4,.mp 1 0 0),(5,.mp 8 0 0),(6,y 7),(7,.mp 14 0 0),(8,.fn (.func 149) [] [.mp 1 0 0,.mp 14 0 0]),(13,.tup [.agg [y 4,y 5,y 6],y 7]),(14,.agg [y 0,y 1,y 2]),(15,y 3),(16,.tup [.agg [y 4,y 5,y 6],y 7]),(17,.agg [y 4,y 5,y 6]),(18,y 7),(19,y 7),(20,bF),(21,.mm 13),(22,.fn (.func 149) [] [.mp 1 0 0,.mp 14 0 0]),(23,.mp 0 0 1),(24,y 1),(25,y 9),(26,y 10)]
def r46_0:List (Nat×l6):=ur [] [0,1,8,13,14,22] [(0,.row 26 3 [[y 0,y 1,y 2]]),(1,.row 24 1 [[.ss 22 1 11]]),(8,.row 77 3 [[y 4,y 5,y 6]]),(13,.xmap (y 12)),(14,.row 182 1 [[.mm 13]]),(22,.xrow 3 1 11)]
noncomputable def e46:=tre [q20,q21,q45] [(10,(.cons sI (.cons z0 (.one (.sl (.cons sI (.one z4)))))))] q46 [(2684818406,⟨3,a46_0,r46_0,23⟩)] [.agg [y 0,y 1,y 2],y 3] 4
theorem d46:e46=U9:=by kernel_rfl
noncomputable def e47:=tre [q15] [] q47 [] [y 0,y 1] 2
theorem d47:e47=M6:=by kernel_rfl
def a49_0:List AV:=up [] 72 [(0,.agg [y 0,y 1,y 2]),(1,.mp 0 0 0),(2,.sc (.slice none 0 0)),(3,y 3),(4,.ss 16 1 6),(5,.mp 10 0 0),(15,.agg [y 0,y 1,y 2]),(16,y 3),(17,y 3),(18,bF),(20,.mm 9),(21,.mp 0 0 0),(22,y 0),(23,y 5),(24,y 7)]
def r49_0:List (Nat×l6):=ur [] [0,9,10,16] [(0,.row 26 3 [[y 0,y 1,y 2]]),(9,.xmap (y 8)),(10,.row 165 1 [[.mm 9]]),(16,.xrow 3 1 6)]
def a49_1:List AV:=up a49_0 72 [(4,.ss 16 1 16),(7,.mp 20 0 0),(8,y 14),(25,bT),(26,.rp [y 11,y 12,y 13]),(27,.agg [y 11,y 12,y 13]),(28,.agg [y 0,y 1,y 2]),(29,.mp 20 0 0),(30,y 11),(31,y 14),(32,y 14),(33,y 15),(34,y 17)]
def r49_1:List (Nat×l6):=ur r49_0 [0,9,10,16,20] [(9,.xmap (y 18)),(16,.xrow 3 1 16),(20,.row 77 3 [[y 11,y 12,y 13]])]
def a49_2:List AV:=up a49_1 72 [(2,.ss 28 1 14),(4,.ss 16 1 11),(7,A),(8,A),(11,.mp 21 0 0),(12,.fn (.func 120) [] [.mp 21 0 0,.mp 10 0 0]),(25,bF),(26,A),(27,A),(28,A),(29,A),(30,A),(31,A),(32,A),(33,A),(34,A),(50,.ss 16 1 11),(51,.tup []),(52,.mm 20),(53,.fn (.func 120) [] [.mp 21 0 0,.mp 10 0 0]),(54,.ss 16 1 11),(55,y 12),(56,y 13)]
def r49_2:List (Nat×l6):=ur r49_1 [0,9,10,16,20,21,28] [(9,.xmap (y 8)),(16,.xrow 3 1 11),(20,.xmap (y 15)),(21,.row 168 1 [[.mm 20]]),(28,.xrow 24 1 14)]
def a49_3:List AV:=up a49_2 19 [(0,y 21),(1,.mp 21 0 0),(2,.mp 10 0 0),(3,A),(4,.ss 45 1 22),(5,A),(11,A),(12,A),(15,A),(16,A),(17,A),(18,A)]
def r49_3:List (Nat×l6):=ur r49_2 [0,9,10,16,20,21,28,45] [(20,.xmap (y 23)),(45,.xrow 3 1 22)]
noncomputable def e49:=tre [q41,q46,q47,q48] [(6,(.cons z0 z9)),(16,(.cons z0 z9)),(13,(.cons sI (.cons (.sl z2) (.one (.sl (.cons sI (.one .bool))))))),(21,(.cons sI (.cons z0 (.one (.sl (.cons sI (.one .bool)))))))] q49 [(1611071758,⟨3,a49_0,r49_0,17⟩),(4295688610,⟨3,a49_1,r49_1,30⟩),(3491045915,⟨3,a49_2,r49_2,29⟩),(5637210112,⟨3,a49_3,r49_3,46⟩)] [.agg [y 0,y 1,y 2]] 3
theorem d49:e49=Q8:=by kernel_rfl
def a50_0:List AV:=up [] 31 [(0,.agg [y 0,y 1,y 2]),(1,.mp 0 0 0),(3,.mm 2),(8,.mm 2),(9,.mp 0 0 1),(10,y 1),(11,y 3),(12,y 4)]
def r50_0:List (Nat×l6):=ur [] [0,2] [(0,.row 26 3 [[y 0,y 1,y 2]]),(2,.xmap (y 5))]
noncomputable def e50:=tre [q21] [(4,(.cons sI (.one (.sl z9))))] q50 [(1073938523,⟨2,a50_0,r50_0,8⟩)] [.agg [y 0,y 1,y 2]] 3
theorem d50:e50=P9:=by kernel_rfl
noncomputable def e51:=tre [q19] [] q51 [] [.agg [y 0,y 1,y 2],y 3] 4
theorem d51:e51=an0:=by kernel_rfl
def a52_0:List AV:=up [] 84 [(0,.agg [y 0,y 1,y 2]),(1,y 3),(2,.mp 0 0 0),(4,y 7),(13,y 3),(14,y 4),(15,bF),(16,y 3),(17,y 6),(18,y 8)]
def r52_0:List (Nat×l6):=ur [] [0] [(0,.row 26 3 [[y 0,y 1,y 2]])]
def a52_1:List AV:=up a52_0 84 [(6,y 11),(7,.mp 18 0 0),(8,y 18),(9,y 22),(10,y 23),(11,y 27),(19,bT),(20,.rp [y 11]),(21,y 11),(22,.tup [.agg [y 12,y 13,y 14,y 15,y 16,y 17],y 18]),(23,.agg [y 0,y 1,y 2]),(24,y 11),(25,.tup [.agg [y 12,y 13,y 14,y 15,y 16,y 17],y 18]),(26,.agg [y 12,y 13,y 14,y 15,y 16,y 17]),(27,y 18),(28,y 18),(29,bF),(30,.tup [y 22,y 23]),(31,.agg [y 0,y 1,y 2]),(32,y 11),(33,y 11),(34,y 20),(35,y 21),(36,.tup [y 22,y 23]),(37,y 22),(38,y 23),(39,y 23),(40,bF),(41,y 22),(42,y 25),(43,y 26),(44,y 28)]
def r52_1:List (Nat×l6):=ur r52_0 [0,18] [(18,.row 79 6 [[y 12,y 13,y 14,y 15,y 16,y 17]])]
noncomputable def e52:=tre [q51,q21] [(7,z1),(27,z1)] q52 [(1879310584,⟨2,a52_0,r52_0,8⟩),(7248675710,⟨2,a52_1,r52_1,41⟩)] [.agg [y 0,y 1,y 2],y 3] 4
theorem d52:e52=ar0:=by kernel_rfl
def a53_0:List AV:=up [] 40 [(0,y 0),(1,y 1),(2,.fn (.func 174) [] [.mp 0 0 0,.mp 2 0 0,.mp 3 0 0]),(10,y 1),(11,y 4),(12,y 5)]
def r53_0:List (Nat×l6):=ur [] [0,2,3] [(0,.row 75 2 [[y 2,y 3]]),(2,.row 4 1 [[y 6]]),(3,.row 4 1 [[y 7]])]
def a53_1:List AV:=up a53_0 40 [(7,y 10),(8,y 13),(9,y 14),(13,bT),(14,.rp [y 10]),(15,y 10),(16,y 0),(17,y 10),(18,y 10),(19,y 11),(20,y 12),(21,y 13)]
def r53_1:List (Nat×l6):=ur r53_0 [0,2,3] [(2,.row 4 1 [[y 16]]),(3,.row 4 1 [[y 15]])]
noncomputable def e53:=tre [q31,q35] [(5,(.cons sI (.cons .bool (.one .bool)))),(14,(.cons sI (.cons .bool (.one .bool))))] q53 [(1342243432,⟨3,a53_0,r53_0,13⟩),(3758424711,⟨3,a53_1,r53_1,25⟩)] [y 0,y 1,.agg [y 2,y 3]] 4
theorem d53:e53=y6:=by kernel_rfl
def a54_0:List AV:=up [] 28 [(0,.agg [y 0,y 1,y 2]),(1,y 3),(2,.mp 0 0 0),(4,y 6),(7,.mp 0 0 1),(8,y 1),(9,y 4),(10,y 5)]
def r54_0:List (Nat×l6):=ur [] [0] [(0,.row 26 3 [[y 0,y 1,y 2]])]
noncomputable def e54:=tre [] [(5,z1)] q54 [(1342308464,⟨2,a54_0,r54_0,6⟩)] [.agg [y 0,y 1,y 2],y 3] 4
theorem d54:e54=R1:=by kernel_rfl
def a55_0:List AV:=up [] 110 [(0,.agg [y 0,y 1,y 2]),(1,y 3),(2,y 4),(3,.mp 1048576 0 0),(6,.sc (.slice none 0 0)),(7,.ss 1048579 4 9),(8,.ss 1048585 1 6),(19,.agg [iV 0,.sc (.slice none 0 0),.sc (.slice none 0 0),.sc (.slice none 0 0)]),(21,y 3),(22,y 5),(23,y 7)]
def r55_0:List (Nat×l6):=ur [] [1048576,1048579,1048585] [(1048576,.row 26 3 [[y 0,y 1,y 2]]),(1048579,.xrow 171 4 9),(1048585,.xrow 24 1 6)]
def a55_1:List AV:=up a55_0 110 [(7,.ss 1048579 4 15),(24,bF),(43,.ss 1048585 1 6),(44,y 13),(45,y 14)]
def r55_1:List (Nat×l6):=ur r55_0 [1048576,1048579,1048585] [(1048579,.frow 171 4 (y 15) [(2,24,1),(3,3,1)] (y 12) 1048576 none)]
def a55_2:List AV:=up a55_1 42 [(0,y 4),(1,.ss 1048579 4 15),(2,.agg [y 24,y 25]),(3,A),(5,.mp 1048612 0 0),(6,iV 0),(7,y 27),(8,y 26),(19,A),(21,A),(22,A),(23,A),(24,A)]
def r55_2:List (Nat×l6):=ur r55_1 [1048576,1048579,1048585,1048612] [(1048612,.row 75 2 [[y 24,y 25]])]
def a55_3:List AV:=up a55_2 110 [(0,.agg [y 0,y 1,y 2]),(1,y 3),(2,y 4),(3,.mp 1048576 0 0),(5,A),(6,.sc (.slice none 0 0)),(7,.ss 1048579 4 20),(8,.ss 1048585 1 6),(19,.agg [iV 0,.sc (.slice none 0 0),.sc (.slice none 0 0),.sc (.slice none 0 0)]),(21,y 3),(22,y 5),(23,y 7),(24,bF),(43,.ss 1048585 1 6),(44,y 13),(45,y 14),(46,bF),(78,.mp 1048576 0 0),(79,y 0),(80,y 18),(81,y 19)]
def r55_3:List (Nat×l6):=ur r55_2 [1048576,1048579,1048585] [(1048579,.frow 171 4 (y 20) [(2,24,1),(3,3,1)] (y 12) 1048576 none)]
def a55_4:List AV:=up a55_3 42 [(0,y 4),(1,.ss 1048579 4 20),(2,.agg [y 24,y 25]),(3,A),(5,.mp 1048611 0 0),(6,iV 0),(7,y 29),(8,y 28),(19,A),(21,A),(22,A),(23,A),(24,A)]
def r55_4:List (Nat×l6):=ur r55_3 [1048576,1048579,1048585,1048598,1048611] [(1048598,.row 77 3 [[y 23,y 24,y 25]]),(1048611,.row 75 2 [[y 24,y 25]])]
noncomputable def e55:=ul0 T [q52,q53,q54] (shL [(6,(.cons (.sl z2) (.cons sI (.cons .bool (.one (.sl (.cons sI (.cons z0 (.cons .nl (.one .nl)))))))))),(14,(.cons sI (.one (.sl (.cons sI (.cons z0 (.cons (.sl z2) z2))))))),(26,z1),(19,(.cons sI (.one (.sl (.cons sI (.cons z0 (.cons (.sl z2) z2))))))),(28,z1)]) q55.dom q55.cod [.agg [y 0,y 1,y 2],y 3,y 4] (gw0 T Φ F [(1610875048,⟨4,a55_0,r55_0,1048586⟩),(3758883263,⟨2,a55_1,r55_1,1048590⟩),(6979518641,⟨2,a55_2,r55_2,1048616⟩),(5101519782,⟨2,a55_3,r55_3,1048595⟩),(7516389553,⟨2,a55_4,r55_4,1048615⟩)] [(3,.nlz 7 [1]),(11,.own 7 [(2,24,1),(3,3,1)]),(16,.foc 15 133 2),(23,.foc 18 24 3)] 100000 86 [.agg [y 0,y 1,y 2],y 3,y 4] 5)
theorem d55:e55=T2:=by kernel_rfl
noncomputable def e56:=tre [q51] [] q56 [] [.agg [y 0,y 1,y 2],y 3] 4
theorem d56:e56=X7:=by kernel_rfl
noncomputable def e57:=tre [] [] q57 [] [.agg [y 0,y 1,y 2,y 3]] 4
theorem d57:e57=D8:=by kernel_rfl
def a58_0:List AV:=up [] 71 [(0,.agg [y 0,y 1,y 2]),(1,y 3),(2,.mp 0 0 0),(4,.ss 8 1 5),(5,bF),(6,.mm 3),(14,.mm 3),(15,y 3),(16,y 4),(17,y 6)]
def r58_0:List (Nat×l6):=ur [] [0,3,8] [(0,.row 26 3 [[y 0,y 1,y 2]]),(3,.xmap (y 7)),(8,.xrow 3 1 5)]
def a58_1:List AV:=up a58_0 71 [(7,y 6),(8,.mp 13 0 0),(9,y 16),(18,bT),(19,y 6),(20,.rp [y 10,y 11,y 12,y 13]),(21,.agg [y 10,y 11,y 12,y 13]),(22,y 6),(23,bT),(24,.agg [y 0,y 1,y 2]),(25,.mp 13 0 1),(26,y 11),(27,.rp [y 15]),(28,y 15),(29,y 16),(30,y 16),(31,bF),(32,bF),(33,.mm 3),(34,y 16),(35,bF),(36,bF),(37,.mm 3),(38,y 16),(39,.agg [y 10,y 11,y 12,y 13]),(40,y 20),(41,y 21),(42,y 22)]
def r58_1:List (Nat×l6):=ur r58_0 [0,3,8,13] [(3,.xmap (y 19)),(13,.row 171 4 [[y 10,y 11,y 12,y 13]])]
def a58_2:List AV:=up a58_1 71 [(11,y 25),(43,bT),(44,.rp [y 25]),(45,y 25),(46,y 25),(47,y 26),(48,y 27)]
def r58_2:List (Nat×l6):=ur r58_1 [0,3,8,13] []
def a58_3:List AV:=up a58_2 71 [(9,iV 0),(11,A),(23,bF),(24,A),(25,A),(26,A),(27,A),(28,A),(29,A),(30,A),(31,A),(32,A),(33,A),(34,A),(35,A),(36,A),(37,A),(38,A),(40,y 15),(41,y 16),(42,y 17),(43,A),(44,A),(45,A),(46,A),(47,A),(48,A)]
def r58_3:List (Nat×l6):=ur r58_2 [0,3,8,13] [(3,.xmap (y 7))]
def a58_4:List AV:=up a58_3 71 [(11,y 20),(43,bT),(44,.rp [y 20]),(45,y 20),(46,y 20),(47,y 21),(48,y 22)]
def r58_4:List (Nat×l6):=ur r58_3 [0,3,8,13] []
noncomputable def e58:=tre [q56,q57] [(5,(.cons z0 (.cons sI (.one (.sl (.cons sI (.one .bool))))))),(27,(.one sI)),(17,(.one sI)),(22,(.one sI))] q58 [(1342374044,⟨3,a58_0,r58_0,9⟩),(5906367614,⟨1,a58_1,r58_1,45⟩),(7248741676,⟨1,a58_2,r58_2,52⟩),(4564189762,⟨1,a58_3,r58_3,23⟩),(5906563824,⟨1,a58_4,r58_4,30⟩)] [.agg [y 0,y 1,y 2],y 3] 4
theorem d58:e58=Y7:=by kernel_rfl
noncomputable def e59:=tre [q49,q50,q55,q58] [] q59 [] [.agg [y 0,y 1,y 2]] 3
theorem d59:e59=Y1:=by kernel_rfl
noncomputable def e60:=tre [] [] q60 [] [.agg [y 0,y 1,y 2,y 3,y 4]] 5
theorem d60:e60=aP0:=by kernel_rfl
def a61_0:List AV:=up [] 19 [(0,y 0),(1,.fn (.func 30) [] []),(4,iV 0),(6,y 0),(7,y 1),(8,y 2)]
noncomputable def e61:=tre [q60] [(2,(.one sI))] q61 [(537002144,⟨1,a61_0,[],10⟩)] [y 0,.fn (.func 30) [] []] 1
theorem d61:e61=o9:=by kernel_rfl
noncomputable def e62:=tre [] [] q62 [] [.agg [y 0,y 1,y 2,y 3,y 4]] 5
theorem d62:e62=T8:=by kernel_rfl
def a63_0:List AV:=up [] 19 [(0,y 0),(1,.fn (.func 32) [] []),(4,iV 0),(6,y 0),(7,y 1),(8,y 2)]
noncomputable def e63:=tre [q62] [(2,(.one sI))] q63 [(537002148,⟨1,a63_0,[],10⟩)] [y 0,.fn (.func 32) [] []] 1
theorem d63:e63=j7:=by kernel_rfl
noncomputable def e64:=tre [] [] q64 [] [y 0] 1
theorem d64:e64=A3:=by kernel_rfl
noncomputable def e65:=tre [q64] [] q65 [] [.agg [y 0,y 1,y 2,y 3,y 4]] 5
theorem d65:e65=U1:=by kernel_rfl
def a66_0:List AV:=up [] 19 [(0,y 0),(1,.fn (.func 33) [] []),(4,iV 0),(6,y 0),(7,y 1),(8,y 2)]
noncomputable def e66:=tre [q65] [(2,(.one sI))] q66 [(537002150,⟨1,a66_0,[],10⟩)] [y 0,.fn (.func 33) [] []] 1
theorem d66:e66=l5:=by kernel_rfl
def a67_0:List AV:=up [] 31 [(0,y 0),(2,iV 0),(3,y 3),(6,y 0),(7,bF),(8,bF),(9,y 0),(10,bF),(11,bF),(12,y 0),(13,y 3),(14,.agg [y 4,y 5,y 6,y 7,y 8,y 9,y 10,y 11,y 12,y 13,y 14,y 15,y 16,y 17,y 18,y 19,y 20,y 21,y 22,y 23,y 24,y 25,y 26,y 27,y 28,y 29,y 30,y 31,y 32,y 33,y 34,y 35,y 36,y 37,y 38,y 39,y 40,y 41,y 42]),(15,y 43)]
noncomputable def e67:=tre [] [(43,(.one sI))] q67 [(11543052621,⟨1,a67_0,[],12⟩)] [y 0] 1
theorem d67:e67=R6:=by kernel_rfl
def a68_0:List AV:=up [] 21 [(0,y 0),(2,.ss 4 1 1),(3,iV 0),(6,y 0),(7,.it 3)]
def r68_0:List (Nat×l6):=ur [] [3,4] [(3,.xiter (y 0) (y 2)),(4,.xrow 3 1 1)]
noncomputable def e68:=tre [q67] [(1,(.cons z0 (.one sI)))] q68 [(268566556,⟨2,a68_0,r68_0,5⟩)] [y 0] 1
theorem d68:e68=Y0:=by kernel_rfl
def a70_0:List AV:=up [] 45 [(0,y 0),(2,y 4),(3,y 5),(6,y 0),(7,bF),(8,y 0),(9,y 2),(10,bF),(11,.tup [y 4,y 5]),(12,y 0),(13,.tup [y 4,y 5]),(14,y 4),(15,y 5),(16,y 5),(17,bF),(19,y 0),(20,y 7),(21,bF),(22,bF),(23,y 0),(24,y 0),(25,y 9),(26,y 10),(27,y 11),(28,bF),(29,bF),(30,bF),(31,y 0),(32,bF),(33,bF),(34,y 4),(35,y 14),(36,y 15)]
noncomputable def e70:=tre [q68,q69,q67] [(15,(.one sI))] q70 [(4027254190,⟨1,a70_0,[],34⟩)] [y 0] 1
theorem d70:e70=cy0:=by kernel_rfl
noncomputable def e71:=tre [q70] [] q71 [] [y 0] 1
theorem d71:e71=W1:=by kernel_rfl
noncomputable def e72:=tre [q71] [] q72 [] [.agg [y 0,y 1,y 2,y 3,y 4]] 5
theorem d72:e72=T3:=by kernel_rfl
def a73_0:List AV:=up [] 19 [(0,y 0),(1,.fn (.func 35) [] []),(4,iV 0),(6,y 0),(7,y 1),(8,y 2)]
noncomputable def e73:=tre [q72] [(2,(.one sI))] q73 [(537002154,⟨1,a73_0,[],10⟩)] [y 0,.fn (.func 35) [] []] 1
theorem d73:e73=j5:=by kernel_rfl
noncomputable def e74:=tre [q64] [] q74 [] [.agg [y 0,y 1,y 2,y 3,y 4]] 5
theorem d74:e74=T7:=by kernel_rfl
def a75_0:List AV:=up [] 19 [(0,y 0),(1,.fn (.func 37) [] []),(4,iV 0),(6,y 0),(7,y 1),(8,y 2)]
noncomputable def e75:=tre [q74] [(2,(.one sI))] q75 [(537002158,⟨1,a75_0,[],10⟩)] [y 0,.fn (.func 37) [] []] 1
theorem d75:e75=j6:=by kernel_rfl
noncomputable def e76:=tre [q16] [] q76 [] [y 0,y 1] 2
theorem d76:e76=et0:=by kernel_rfl
noncomputable def e77:=tre [q64,q20,q19,q76] [] q77 [] [y 0,.rp [y 1,y 2,y 3,y 4,y 5],.rp [y 6,y 7,y 8]] 9
theorem d77:e77=J9:=by kernel_rfl
def a78_0:List AV:=up [] 19 [(0,y 0),(1,.fn (.func 59) [] [.rp [y 1,y 2,y 3,y 4,y 5],.rp [y 6,y 7,y 8]]),(4,iV 0),(6,y 0),(7,y 9),(8,y 10)]
noncomputable def e78:=tre [q77] [(10,(.one sI))] q78 [(2684485850,⟨1,a78_0,[],10⟩)] [y 0,.fn (.func 59) [] [.rp [y 1,y 2,y 3,y 4,y 5],.rp [y 6,y 7,y 8]]] 9
theorem d78:e78=y8:=by kernel_rfl
noncomputable def e79:=tre [q78] [] q79 [] [.agg [y 0,y 1,y 2],.agg [y 3,y 4,y 5,y 6,y 7]] 8
theorem d79:e79=N9:=by kernel_rfl
noncomputable def e80:=tre [q79] [] q80 [] [.agg [y 0,y 1,y 2,y 3,y 4],.rp [y 5,y 6,y 7,y 8]] 9
theorem d80:e80=T9:=by kernel_rfl
def a81_0:List AV:=up [] 19 [(0,y 0),(1,.fn (.func 38) [] [.rp [y 1,y 2,y 3,y 4]]),(4,iV 0),(6,y 0),(7,y 5),(8,y 6)]
noncomputable def e81:=tre [q80] [(6,(.one sI))] q81 [(1610743984,⟨1,a81_0,[],10⟩)] [y 0,.fn (.func 38) [] [.rp [y 1,y 2,y 3,y 4]]] 5
theorem d81:e81=j8:=by kernel_rfl
def a82_0:List AV:=up [] 20 [(0,y 0),(2,bF),(3,y 1)]
noncomputable def e82:=tre [] [(1,(.one sI))] q82 [(268566575,⟨1,a82_0,[],2⟩)] [y 0] 1
theorem d82:e82=V2:=by kernel_rfl
def a83_0:List AV:=up [] 19 [(0,y 3),(1,.fn (.func 55) [] [.mp 28 0 0,.mp 26 0 0]),(4,iV 0),(6,y 3),(7,y 9),(8,y 10)]
def r83_0:List (Nat×l6):=ur [] [0,24,26,28,33,34,44,56] [(0,.row 29 4 [[y 0,y 1,y 2,y 3]]),(24,.row 65 2 [[.fn (.func 30) [] [],iV 3],[.fn (.func 55) [] [.mp 28 0 0,.mp 26 0 0],iV 10],[.fn (.func 32) [] [],iV 2],[.fn (.func 33) [] [],iV 9],[.fn (.func 35) [] [],iV 14],[.fn (.func 37) [] [],iV 1],[.fn (.func 38) [] [.mp 0 0 0],iV 7],[.fn (.func 62) [] [.mp 34 0 0],iV 13]]),(26,.row 29 4 [[y 0,y 1,y 2,y 3]]),(28,.row 3 1 [[y 11]]),(33,.map false [] 0),(34,.row 108 1 [[.mm 33]]),(44,.row 65 2 [[.fn (.func 30) [] [],iV 3]]),(56,.row 65 2 [[.fn (.func 55) [] [.mp 28 0 0,.mp 26 0 0],iV 10]])]
def a83_1:List AV:=up a83_0 19 [(1,.fn (.func 62) [] [.mp 34 0 0]),(7,y 34),(8,y 35)]
def r83_1:List (Nat×l6):=ur r83_0 [0,24,26,28,33,34,44,56,82,132,144,156,168,180,192] [(28,.row 3 1 [[y 19]]),(33,.xmap (y 36)),(82,.row 51 5 [[y 14,y 15,y 16,y 17,y 18]]),(132,.row 65 2 [[.fn (.func 32) [] [],iV 2]]),(144,.row 65 2 [[.fn (.func 33) [] [],iV 9]]),(156,.row 65 2 [[.fn (.func 35) [] [],iV 14]]),(168,.row 65 2 [[.fn (.func 37) [] [],iV 1]]),(180,.row 65 2 [[.fn (.func 38) [] [.mp 0 0 0],iV 7]]),(192,.row 65 2 [[.fn (.func 62) [] [.mp 34 0 0],iV 13]])]
def a83_2:List AV:=up a83_1 33 [(0,.agg [y 39,y 40,y 41,y 42,y 43]),(1,.mp 34 0 0),(2,.mp 218 0 0),(3,bF),(4,y 40),(6,A),(7,A),(8,.mp 218 0 1),(9,y 40),(10,y 44),(11,bF),(12,bF),(13,bT),(14,bT),(15,.mp 218 0 1),(16,y 40),(17,.mp 218 0 4),(18,y 43),(19,y 47),(20,y 48)]
def r83_2:List (Nat×l6):=ur r83_1 [0,24,26,28,33,34,44,56,82,132,144,156,168,180,192,218] [(33,.xmap (y 49)),(218,.row 51 5 [[y 39,y 40,y 41,y 42,y 43]])]
def a83_3:List AV:=up a83_2 33 [(4,iV 0),(13,bF),(14,bF),(15,A),(16,A)]
def r83_3:List (Nat×l6):=ur r83_2 [0,24,26,28,33,34,44,56,82,132,144,156,168,180,192,218] []
def a83_4:List AV:=up a83_3 19 [(0,y 3),(1,.fn (.func 62) [] [.mp 34 0 0]),(2,A),(3,A),(6,y 3),(7,y 36),(8,y 37),(9,A),(10,A),(11,A),(12,A),(13,A),(14,A),(17,A),(18,A)]
def r83_4:List (Nat×l6):=ur r83_3 [0,24,26,28,33,34,44,56,82,132,144,156,168,180,192] [(33,.xmap (y 38))]
def a83_5:List AV:=up a83_4 33 [(0,.agg [y 41,y 42,y 43,y 44,y 45]),(1,.mp 34 0 0),(2,.mp 218 0 0),(3,bF),(4,y 42),(6,A),(7,A),(8,.mp 218 0 1),(9,y 42),(10,y 46),(11,bF),(12,bF),(13,bT),(14,bT),(15,.mp 218 0 1),(16,y 42),(17,.mp 218 0 4),(18,y 45),(19,y 49),(20,y 50)]
def r83_5:List (Nat×l6):=ur r83_4 [0,24,26,28,33,34,44,56,82,132,144,156,168,180,192,218] [(33,.xmap (y 51)),(218,.row 51 5 [[y 41,y 42,y 43,y 44,y 45]])]
def a83_6:List AV:=up a83_5 33 [(4,iV 0),(13,bF),(14,bF),(15,A),(16,A)]
def r83_6:List (Nat×l6):=ur r83_5 [0,24,26,28,33,34,44,56,82,132,144,156,168,180,192,218] []
def a83_7:List AV:=up a83_6 19 [(0,y 3),(1,.fn (.func 62) [] [.mp 34 0 0]),(2,A),(3,A),(6,y 3),(7,y 29),(8,y 30),(9,A),(10,A),(11,A),(12,A),(13,A),(14,A),(17,A),(18,A)]
def r83_7:List (Nat×l6):=ur r83_6 [0,24,26,28,33,34,44,56,82,132,144,156,168,180,192] [(33,.xmap (y 31))]
def a83_8:List AV:=up a83_7 33 [(0,.agg [y 34,y 35,y 36,y 37,y 38]),(1,.mp 34 0 0),(2,.mp 218 0 0),(3,bF),(4,y 35),(6,A),(7,A),(8,.mp 218 0 1),(9,y 35),(10,y 39),(11,bF),(12,bF),(13,bT),(14,bT),(15,.mp 218 0 1),(16,y 35),(17,.mp 218 0 4),(18,y 38),(19,y 42),(20,y 43)]
def r83_8:List (Nat×l6):=ur r83_7 [0,24,26,28,33,34,44,56,82,132,144,156,168,180,192,218] [(33,.xmap (y 44)),(218,.row 51 5 [[y 34,y 35,y 36,y 37,y 38]])]
def a83_9:List AV:=up a83_8 33 [(4,iV 0),(13,bF),(14,bF),(15,A),(16,A)]
def r83_9:List (Nat×l6):=ur r83_8 [0,24,26,28,33,34,44,56,82,132,144,156,168,180,192,218] []
def uS0:List AV:=up a83_9 19 [(0,y 3),(1,.fn (.func 62) [] [.mp 34 0 0]),(2,A),(3,A),(6,y 3),(7,y 19),(8,y 20),(9,A),(10,A),(11,A),(12,A),(13,A),(14,A),(17,A),(18,A)]
def ur0:List (Nat×l6):=ur r83_9 [0,24,26,28,33,34,44,56,80,92,104,116,128,140] [(28,.row 3 1 [[y 11]]),(33,.xmap (y 21)),(80,.row 65 2 [[.fn (.func 32) [] [],iV 2]]),(92,.row 65 2 [[.fn (.func 33) [] [],iV 9]]),(104,.row 65 2 [[.fn (.func 35) [] [],iV 14]]),(116,.row 65 2 [[.fn (.func 37) [] [],iV 1]]),(128,.row 65 2 [[.fn (.func 38) [] [.mp 0 0 0],iV 7]]),(140,.row 65 2 [[.fn (.func 62) [] [.mp 34 0 0],iV 13]])]
def uA0:List AV:=up uS0 33 [(0,.agg [y 24,y 25,y 26,y 27,y 28]),(1,.mp 34 0 0),(2,.mp 166 0 0),(3,bF),(4,y 25),(6,A),(7,A),(8,.mp 166 0 1),(9,y 25),(10,y 29),(11,bF),(12,bF),(13,bT),(14,bT),(15,.mp 166 0 1),(16,y 25),(17,.mp 166 0 4),(18,y 28),(19,y 32),(20,y 33)]
def uH0:List (Nat×l6):=ur ur0 [0,24,26,28,33,34,44,56,80,92,104,116,128,140,166] [(33,.xmap (y 34)),(166,.row 51 5 [[y 24,y 25,y 26,y 27,y 28]])]
def a83_12:List AV:=up uA0 33 [(4,iV 0),(13,bF),(14,bF),(15,A),(16,A)]
def r83_12:List (Nat×l6):=ur uH0 [0,24,26,28,33,34,44,56,80,92,104,116,128,140,166] []
noncomputable def e83:=tre [q59,q61,q63,q66,q73,q75,q81,q64,q82] [(10,z1),(35,(.cons sI (.one (.sl (.cons z4 (.one .bool)))))),(48,(.cons sI (.one (.sl (.cons z4 (.one .bool)))))),(37,(.cons sI (.one (.sl (.cons z4 (.one .bool)))))),(50,(.cons sI (.one (.sl (.cons z4 (.one .bool)))))),(30,(.cons sI (.one (.sl (.cons z4 (.one .bool)))))),(43,(.cons sI (.one (.sl (.cons z4 (.one .bool)))))),(20,(.cons sI (.one (.sl (.cons z4 (.one .bool)))))),(33,(.cons sI (.one (.sl (.cons z4 (.one .bool))))))] q83 [(2684485842,⟨2,a83_0,r83_0,73⟩),(9395372256,⟨2,a83_1,r83_1,209⟩),(12885426555,⟨2,a83_2,r83_2,235⟩),(12885426648,⟨2,a83_3,r83_3,232⟩),(9932243168,⟨2,a83_4,r83_4,209⟩),(13422297467,⟨2,a83_5,r83_5,235⟩),(13422297560,⟨2,a83_6,r83_6,232⟩),(8053194976,⟨2,a83_7,r83_7,209⟩),(11543249275,⟨2,a83_8,r83_8,235⟩),(11543249368,⟨2,a83_9,r83_9,232⟩),(5368840416,⟨2,uS0,ur0,157⟩),(8858894715,⟨2,uA0,uH0,183⟩),(8858894808,⟨2,a83_12,r83_12,180⟩)] [.agg [y 0,y 1,y 2,y 3]] 4
theorem d83:e83=H9:=by kernel_rfl
def a85_0:List AV:=up [] 26 [(0,.agg [y 0,y 1,y 2,y 3]),(1,y 4),(2,.mp 0 0 0),(4,.mp 1 0 0),(5,bF),(8,.mp 0 0 3),(9,y 3),(10,y 5),(11,y 6)]
def r85_0:List (Nat×l6):=ur [] [0,1] [(0,.row 29 4 [[y 0,y 1,y 2,y 3]]),(1,.row 51 5 [[iV 0,iV 0,iV 0,.sc (.string (cD #[])),.sc (.slice none 0 0)]])]
noncomputable def e85:=tre [q84] [(6,(.one sI))] q85 [(1610743922,⟨1,a85_0,r85_0,7⟩)] [.agg [y 0,y 1,y 2,y 3],y 4] 5
theorem d85:e85=Y5:=by kernel_rfl
def a86_0:List AV:=up [] 105 [(0,.agg [y 0,y 1,y 2,y 3]),(1,y 4),(2,.mp 0 0 0),(4,y 17),(5,.mp 8 0 0),(6,y 10),(15,.tup [.agg [y 5,y 6,y 7,y 8,y 9],y 10]),(16,.agg [y 0,y 1,y 2,y 3]),(17,y 4),(18,.tup [.agg [y 5,y 6,y 7,y 8,y 9],y 10]),(19,.agg [y 5,y 6,y 7,y 8,y 9]),(20,y 10),(21,y 10),(22,bF),(23,bF),(24,.mp 8 0 1),(25,y 6),(26,y 12),(27,bF),(28,bF),(29,bF),(30,.mp 0 0 0),(31,.agg [y 0,y 1,y 2]),(32,y 14),(33,bF),(34,bF),(35,.mp 0 0 0),(36,.mp 0 0 1),(37,y 1),(38,y 16),(39,y 18)]
def r86_0:List (Nat×l6):=ur [] [0,8] [(0,.row 29 4 [[y 0,y 1,y 2,y 3]]),(8,.row 51 5 [[y 5,y 6,y 7,y 8,y 9]])]
def a86_1:List AV:=up a86_0 105 [(8,.mp 33 0 0),(9,y 27),(10,y 28),(11,y 32),(12,y 30),(13,y 31),(14,y 33),(40,bT),(41,.rp [y 21,y 22,y 23,y 24,y 25,y 26]),(42,.agg [y 21,y 22,y 23,y 24,y 25,y 26]),(43,.mp 8 0 4),(44,y 9),(45,.mp 33 0 4),(46,y 25),(47,y 27),(48,.mp 8 0 4),(49,y 9),(50,.mp 33 0 5),(51,y 26),(52,y 28),(53,y 27),(54,y 28),(55,bF),(56,.tup [y 30,y 31]),(57,.mp 0 0 0),(58,.agg [y 0,y 1,y 2]),(59,.mp 33 0 0),(60,y 21),(61,.tup [y 30,y 31]),(62,y 30),(63,y 31)]
def r86_1:List (Nat×l6):=ur r86_0 [0,8,33] [(33,.row 79 6 [[y 21,y 22,y 23,y 24,y 25,y 26]])]
noncomputable def e86:=tre [q85,q64,q41,q16,q21] [(17,z1),(32,z1)] q86 [(4563731762,⟨2,a86_0,r86_0,30⟩),(8590722646,⟨2,a86_1,r86_1,71⟩)] [.agg [y 0,y 1,y 2,y 3],y 4] 5
theorem d86:e86=R5:=by kernel_rfl
noncomputable def e87:=tre [] [] q87 [] [.agg [y 0,y 1,y 2,y 3],.agg [y 4,y 5]] 6
theorem d87:e87=dQ0:=by kernel_rfl
noncomputable def e88:=tre [q87] [] q88 [] [.agg [y 0,y 1]] 2
theorem d88:e88=I9:=by kernel_rfl
noncomputable def e89:=tre [] [] q89 [] [.agg [y 0,y 1,y 2,y 3,y 4,y 5],.rp [y 6,y 7,y 8,y 9,y 10,y 11]] 12
theorem d89:e89=D2:=by kernel_rfl
def a90_0:List AV:=up [] 19 [(0,y 0),(1,.fn (.func 141) [] [.rp [y 1,y 2,y 3,y 4,y 5,y 6]]),(4,iV 0),(6,y 0),(7,y 7),(8,y 8)]
noncomputable def e90:=tre [q89] [(8,(.one sI))] q90 [(2147615102,⟨1,a90_0,[],10⟩)] [y 0,.fn (.func 141) [] [.rp [y 1,y 2,y 3,y 4,y 5,y 6]]] 7
theorem d90:e90=w7:=by kernel_rfl
noncomputable def e91:=tre [q90] [] q91 [] [.agg [y 0,y 1,y 2],.agg [y 3,y 4,y 5,y 6,y 7,y 8]] 9
theorem d91:e91=F8:=by kernel_rfl
def a92_0:List AV:=up [] 105 [(0,.agg [y 0,y 1,y 2]),(1,.agg [y 3,y 4,y 5,y 6,y 7,y 8]),(2,y 9),(3,y 10),(4,.mp 0 0 0),(5,.mp 1 0 0),(8,bF),(9,.mp 17 0 0),(10,.mp 18 0 0),(11,.mp 19 0 0),(12,.mp 60 0 0),(13,.fn (.func 105) [] [.mp 17 0 0,.mp 18 0 0,.mp 19 0 0,.mp 60 0 0]),(21,y 9),(22,y 10),(23,.rp [y 11,y 12]),(24,.agg [y 11,y 12]),(25,y 9),(26,y 10),(27,y 13),(28,.rp [y 14,y 15]),(29,.agg [y 14,y 15]),(30,y 9),(31,y 10),(32,y 16),(33,.rp [y 17,y 18]),(34,.agg [y 17,y 18]),(35,.agg [y 11,y 12]),(36,y 19),(37,bF),(38,bF),(39,.agg [y 14,y 15]),(40,y 21),(41,bF),(42,bF),(43,bF),(44,.agg [y 17,y 18]),(45,y 23),(46,bF),(47,bF),(48,.mp 1 0 1),(49,y 4),(50,.mp 1 0 2),(51,y 5),(52,bT),(53,bT),(54,.mp 1 0 3),(55,y 6),(56,y 26),(57,bF),(58,bF),(59,.mp 1 0 3),(60,y 6),(61,y 28),(62,bT),(63,bT),(64,.agg [y 0,y 1,y 2]),(65,.agg [y 3,y 4,y 5,y 6,y 7,y 8]),(66,bF),(67,bF),(68,.agg [y 11,y 12]),(69,.agg [y 14,y 15]),(70,.agg [y 17,y 18]),(71,.fn (.func 143) [] [.mp 95 0 0,.mp 101 0 0,.mp 62 0 0,.mp 63 0 0,.mp 64 0 0]),(72,.fn (.func 105) [] [.mp 17 0 0,.mp 18 0 0,.mp 19 0 0,.mp 60 0 0]),(73,.mp 0 0 0),(74,y 0),(75,y 36),(76,y 37)]
def r92_0:List (Nat×l6):=ur [] [0,1,17,18,19,60,62,63,64,95,101] [(0,.row 26 3 [[y 0,y 1,y 2]]),(1,.row 79 6 [[y 3,y 4,y 5,y 6,y 7,y 8]]),(17,.row 75 2 [[y 11,y 12]]),(18,.row 75 2 [[y 14,y 15]]),(19,.row 75 2 [[y 17,y 18]]),(60,.row 150 1 [[.fn (.func 143) [] [.mp 95 0 0,.mp 101 0 0,.mp 62 0 0,.mp 63 0 0,.mp 64 0 0]]]),(62,.row 75 2 [[y 11,y 12]]),(63,.row 75 2 [[y 14,y 15]]),(64,.row 75 2 [[y 17,y 18]]),(95,.row 81 4 [[y 31,y 32,y 33,y 34]]),(101,.row 3 1 [[y 35]])]
def a92_1:List AV:=up a92_0 105 [(16,bT),(77,bF),(85,.mp 0 0 1),(86,y 1),(87,y 40),(88,y 41)]
def r92_1:List (Nat×l6):=ur r92_0 [0,1,17,18,19,60,62,63,64,95,101] []
def a92_2:List AV:=up a92_1 105 [(18,.mp 120 0 0),(89,bT),(90,.rp [y 44,y 45,y 46,y 47,y 48,y 49]),(91,.agg [y 44,y 45,y 46,y 47,y 48,y 49]),(92,.mp 120 0 3),(93,y 47),(94,y 50),(95,y 51)]
def r92_2:List (Nat×l6):=ur r92_1 [0,1,17,18,19,60,62,63,64,95,101,120] [(120,.row 79 6 [[y 44,y 45,y 46,y 47,y 48,y 49]])]
def a92_3:List AV:=up a92_2 105 [(16,A),(18,A),(62,bF),(63,bF),(64,A),(65,A),(66,A),(75,y 35),(76,y 36),(77,A),(85,A),(86,A),(87,A),(88,A),(89,A),(90,A),(91,A),(92,A),(93,A),(94,A),(95,A)]
def r92_3:List (Nat×l6):=ur r92_2 [0,1,17,18,19,60,62,63,64,95,101] [(95,.row 81 4 [[y 30,y 31,y 32,y 33]]),(101,.row 3 1 [[y 34]])]
def a92_4:List AV:=up a92_3 105 [(16,bT),(77,bF),(85,.mp 0 0 1),(86,y 1),(87,y 39),(88,y 40)]
def r92_4:List (Nat×l6):=ur r92_3 [0,1,17,18,19,60,62,63,64,95,101] []
def a92_5:List AV:=up a92_4 105 [(18,.mp 120 0 0),(89,bT),(90,.rp [y 43,y 44,y 45,y 46,y 47,y 48]),(91,.agg [y 43,y 44,y 45,y 46,y 47,y 48]),(92,.mp 120 0 3),(93,y 46),(94,y 49),(95,y 50)]
def r92_5:List (Nat×l6):=ur r92_4 [0,1,17,18,19,60,62,63,64,95,101,120] [(120,.row 79 6 [[y 43,y 44,y 45,y 46,y 47,y 48]])]
def a92_6:List AV:=up a92_5 105 [(16,A),(18,A),(52,bF),(53,bF),(54,A),(55,A),(56,A),(57,A),(61,y 26),(62,bT),(63,bT),(64,.agg [y 0,y 1,y 2]),(65,.agg [y 3,y 4,y 5,y 6,y 7,y 8]),(66,bF),(75,y 34),(76,y 35),(77,A),(85,A),(86,A),(87,A),(88,A),(89,A),(90,A),(91,A),(92,A),(93,A),(94,A),(95,A)]
def r92_6:List (Nat×l6):=ur r92_5 [0,1,17,18,19,60,62,63,64,95,101] [(95,.row 81 4 [[y 29,y 30,y 31,y 32]]),(101,.row 3 1 [[y 33]])]
def a92_7:List AV:=up a92_6 105 [(16,bT),(77,bF),(85,.mp 0 0 1),(86,y 1),(87,y 38),(88,y 39)]
def r92_7:List (Nat×l6):=ur r92_6 [0,1,17,18,19,60,62,63,64,95,101] []
def a92_8:List AV:=up a92_7 105 [(18,.mp 120 0 0),(89,bT),(90,.rp [y 42,y 43,y 44,y 45,y 46,y 47]),(91,.agg [y 42,y 43,y 44,y 45,y 46,y 47]),(92,.mp 120 0 3),(93,y 45),(94,y 48),(95,y 49)]
def r92_8:List (Nat×l6):=ur r92_7 [0,1,17,18,19,60,62,63,64,95,101,120] [(120,.row 79 6 [[y 42,y 43,y 44,y 45,y 46,y 47]])]
def a92_9:List AV:=up a92_8 105 [(16,A),(18,A),(62,bF),(63,bF),(64,A),(65,A),(66,A),(75,y 33),(76,y 34),(77,A),(85,A),(86,A),(87,A),(88,A),(89,A),(90,A),(91,A),(92,A),(93,A),(94,A),(95,A)]
def r92_9:List (Nat×l6):=ur r92_8 [0,1,17,18,19,60,62,63,64,95,101] [(95,.row 81 4 [[y 28,y 29,y 30,y 31]]),(101,.row 3 1 [[y 32]])]
def ug0:List AV:=up a92_9 105 [(16,bT),(77,bF),(85,.mp 0 0 1),(86,y 1),(87,y 37),(88,y 38)]
def uu0:List (Nat×l6):=ur r92_9 [0,1,17,18,19,60,62,63,64,95,101] []
def a92_11:List AV:=up ug0 105 [(18,.mp 120 0 0),(89,bT),(90,.rp [y 41,y 42,y 43,y 44,y 45,y 46]),(91,.agg [y 41,y 42,y 43,y 44,y 45,y 46]),(92,.mp 120 0 3),(93,y 44),(94,y 47),(95,y 48)]
def r92_11:List (Nat×l6):=ur uu0 [0,1,17,18,19,60,62,63,64,95,101,120] [(120,.row 79 6 [[y 41,y 42,y 43,y 44,y 45,y 46]])]
noncomputable def e92:=tre [q88,q91,q35,q87,q31] [(37,(.one sI)),(41,(.one sI)),(51,(.one sI)),(36,(.one sI)),(40,(.one sI)),(50,(.one sI)),(35,(.one sI)),(39,(.one sI)),(49,(.one sI)),(34,(.one sI)),(38,(.one sI)),(48,(.one sI))] q92 [(9932856409,⟨1,a92_0,r92_0,111⟩),(11007057510,⟨1,a92_1,r92_1,117⟩),(13691608997,⟨1,a92_2,r92_2,126⟩),(9664420872,⟨1,a92_3,r92_3,111⟩),(10738621973,⟨1,a92_4,r92_4,117⟩),(13423173460,⟨1,a92_5,r92_5,126⟩),(9395985421,⟨1,a92_6,r92_6,111⟩),(10470186522,⟨1,a92_7,r92_7,117⟩),(13154738009,⟨1,a92_8,r92_8,126⟩),(9127549884,⟨1,a92_9,r92_9,111⟩),(10201750985,⟨1,ug0,uu0,117⟩),(12886302472,⟨1,a92_11,r92_11,126⟩)] [.agg [y 0,y 1,y 2],.agg [y 3,y 4,y 5,y 6,y 7,y 8],y 9,y 10] 11
theorem d92:e92=U2:=by kernel_rfl
noncomputable def e93:=tre [q19,q21,q92] [] q93 [] [.agg [y 0,y 1,y 2],y 3,y 4] 5
theorem d93:e93=I3:=by kernel_rfl
noncomputable def e94:=tre [] [] q94 [] [.agg [y 0,y 1],.agg [y 2,y 3]] 4
theorem d94:e94=J0:=by kernel_rfl
noncomputable def e95:=tre [] [] q95 [] [y 0] 1
theorem d95:e95=W5:=by kernel_rfl
noncomputable def e96:=tre [] [] q96 [] [y 0,y 1] 2
theorem d96:e96=ap0:=by kernel_rfl
noncomputable def e97:=tre [] [] q97 [] [y 0] 1
theorem d97:e97=JR0:=by kernel_rfl
noncomputable def e98:=tre [q97] [] q98 [] [y 0] 1
theorem d98:e98=Ju0:=by kernel_rfl
def a99_0:List AV:=up [] 135 [(0,y 0),(1,y 1),(2,y 8),(6,.sc (.int .u64 0)),(7,.sc (.int .u64 0)),(8,y 7),(9,y 9),(10,y 10),(11,y 14),(12,y 15),(13,y 16),(14,y 17),(15,y 21),(16,y 22),(19,y 2),(20,bF),(22,y 2),(23,y 0),(24,bF),(26,y 0),(27,bF),(34,y 2),(35,y 6),(36,y 7),(37,y 2),(38,y 7),(39,y 8),(40,y 8),(41,y 9),(42,y 8),(43,y 10),(44,y 0),(45,y 7),(46,y 11),(47,y 1),(48,y 7),(49,y 12),(50,y 13),(51,y 14),(52,y 1),(53,y 7),(54,y 15),(55,y 15),(56,y 16),(57,y 15),(58,y 17),(59,y 14),(60,y 9),(61,y 18),(62,y 14),(63,y 18),(64,y 9),(65,y 19),(66,y 20)]
def a99_1:List AV:=up a99_0 135 [(15,y 25),(16,y 35),(17,y 31),(18,y 36),(67,y 21),(68,bT),(69,bT),(78,bT),(79,y 21),(80,y 25),(81,y 22),(82,y 9),(83,y 26),(84,y 26),(85,bT),(86,y 14),(87,y 28),(88,y 16),(89,y 29),(90,y 25),(91,y 8),(92,y 30),(93,y 31),(94,y 31),(95,y 9),(96,y 32),(97,y 31),(98,y 32),(99,y 9),(100,y 33),(101,y 34)]
def a99_2:List AV:=up a99_1 135 [(15,y 29),(16,y 39),(17,y 35),(18,y 40),(68,bF),(69,bF),(70,y 21),(71,y 10),(72,y 25),(73,y 22),(74,y 26),(75,y 16),(76,y 27),(77,bT),(80,y 29),(83,y 30),(84,y 30),(87,y 32),(89,y 33),(90,y 29),(92,y 34),(93,y 35),(94,y 35),(96,y 36),(97,y 35),(98,y 36),(100,y 37),(101,y 38)]
def a99_3:List AV:=up a99_2 135 [(15,y 21),(16,y 36),(17,y 32),(18,y 37),(77,bF),(78,bF),(79,A),(80,A),(81,A),(82,A),(83,A),(84,A),(85,A),(87,y 29),(89,y 30),(90,y 21),(92,y 31),(93,y 32),(94,y 32),(96,y 33),(97,y 32),(98,y 33),(100,y 34),(101,y 35)]
noncomputable def e99:=tre [q98] [(21,(.cons (.int .u64) (.one (.int .u64)))),(35,(.cons (.int .u64) (.one (.int .u64)))),(39,(.cons (.int .u64) (.one (.int .u64)))),(36,(.cons (.int .u64) (.one (.int .u64))))] q99 [(5638259163,⟨2,a99_0,[],52⟩),(9396815211,⟨2,a99_1,[],92⟩),(10470557547,⟨2,a99_2,[],92⟩),(9665251235,⟨2,a99_3,[],83⟩)] [y 0,y 1,y 2] 3
theorem d99:e99=bB0:=by kernel_rfl
noncomputable def e100:=tre [] [] q100 [] [y 0,y 1] 2
theorem d100:e100=M5:=by kernel_rfl
noncomputable def e101:=tre [q95,q96,q99,q100] [] q101 [] [y 0,y 1,y 2] 3
theorem d101:e101=bN0:=by kernel_rfl
def a102_0:List AV:=up [] 12 [(0,y 2),(1,y 3),(4,.sc (.int .u64 0))]
noncomputable def e102:=tre [] [(2,(.cons (.int .u64) (.one (.int .u64))))] q102 [(536936483,⟨2,a102_0,[],1⟩)] [y 0,y 1] 2
theorem d102:e102=aE0:=by kernel_rfl
noncomputable def e103:=tre [q95,q102,q100] [] q103 [] [y 0,y 1] 2
theorem d103:e103=hB0:=by kernel_rfl
noncomputable def e105:=tre [q29,q94,q30,q101,q103,q96,q104] [] q105 [] [.agg [y 0,y 1],.agg [y 2,y 3],.agg [y 4,y 5]] 6
theorem d105:e105=Y2:=by kernel_rfl
noncomputable def e106:=tre [] [] q106 [] [y 0,y 1] 2
theorem d106:e106=cN0:=by kernel_rfl
noncomputable def e107:=tre [q106] [] q107 [] [y 0,y 1] 2
theorem d107:e107=bL0:=by kernel_rfl
def a108_0:List AV:=up [] 52 [(0,.agg [y 0,y 1,y 2]),(1,y 3),(2,.agg [y 4,y 5]),(3,y 10),(4,.mp 0 0 0),(6,.mp 1 0 0),(8,iV 0),(9,y 7),(10,y 8),(11,y 9),(15,.tup [y 7,y 8]),(16,.agg [y 0,y 1,y 2]),(17,y 3),(18,.tup [y 7,y 8]),(19,y 7),(20,y 8)]
def r108_0:List (Nat×l6):=ur [] [0,1] [(0,.row 26 3 [[y 0,y 1,y 2]]),(1,.row 75 2 [[y 4,y 5]])]
noncomputable def e108:=tre [q21,q105,q107] [(9,z1)] q108 [(2416115871,⟨2,a108_0,r108_0,12⟩)] [.agg [y 0,y 1,y 2],y 3,.agg [y 4,y 5],y 6] 7
theorem d108:e108=Q0:=by kernel_rfl
noncomputable def e109:=tre [q64,q16] [] q109 [] [.agg [y 0,y 1,y 2,y 3,y 4],.rp [y 5,y 6,y 7,y 8,y 9,y 10]] 11
theorem d109:e109=O5:=by kernel_rfl
def a110_0:List AV:=up [] 19 [(0,y 0),(1,.fn (.func 64) [] [.rp [y 1,y 2,y 3,y 4,y 5,y 6]]),(4,iV 0),(6,y 0),(7,y 7),(8,y 8)]
noncomputable def e110:=tre [q109] [(8,(.one sI))] q110 [(2147614948,⟨1,a110_0,[],10⟩)] [y 0,.fn (.func 64) [] [.rp [y 1,y 2,y 3,y 4,y 5,y 6]]] 7
theorem d110:e110=o8:=by kernel_rfl
def a111_0:List AV:=up [] 27 [(0,.agg [y 0,y 1,y 2,y 3]),(1,.mp 0 0 0),(2,.ss 7 1 6),(6,.mp 0 0 0),(7,.mp 0 0 1),(8,y 1),(9,y 4),(10,y 5)]
def r111_0:List (Nat×l6):=ur [] [0,7] [(0,.row 29 4 [[y 0,y 1,y 2,y 3]]),(7,.xrow 3 1 6)]
noncomputable def e111:=tre [q110] [(5,(.cons sI z2))] q111 [(1342308429,⟨2,a111_0,r111_0,8⟩)] [.agg [y 0,y 1,y 2,y 3]] 4
theorem d111:e111=N3:=by kernel_rfl
noncomputable def e112:=tre [q83,q111] [] q112 [] [.agg [y 0,y 1,y 2,y 3]] 4
theorem d112:e112=G8:=by kernel_rfl
def a113_0:List AV:=up [] 18 [(0,y 0),(2,iV 0),(3,iV 0),(6,y 0),(7,y 1),(8,y 2)]
noncomputable def e113:=tre [] [(2,(.one sI))] q113 [(537067632,⟨1,a113_0,[],5⟩)] [y 0] 1
theorem d113:e113=J6:=by kernel_rfl
noncomputable def e114:=tre [q25,q113] [] q114 [] [.agg [y 0,y 1,y 2,y 3],.agg [y 4,y 5,y 6,y 7]] 8
theorem d114:e114=F1:=by kernel_rfl
def uJ0:List AV:=up [] 35 [(0,.agg [y 0,y 1,y 2,y 3]),(1,y 6),(2,.fn (.func 19) [] [.mp 2 0 0]),(3,.mp 28 0 0),(9,.mp 28 0 3),(10,y 3),(11,y 14),(12,y 15)]
def uO0:List (Nat×l6):=ur [] [0,1,2,28,33] [(0,.row 29 4 [[y 0,y 1,y 2,y 3]]),(1,.row 31 6 [[y 4,y 5,y 6,y 7,y 8,y 9]]),(2,.row 34 1 [[.ss 33 4 16]]),(28,.row 29 4 [[y 0,y 1,y 2,y 3]]),(33,.xrow 41 4 16)]
def uz0:List AV:=up uJ0 78 [(0,.agg [y 0,y 1,y 2]),(1,y 7),(3,.mp 51 0 0),(9,A),(10,A),(11,A),(12,A),(13,.mp 51 0 1),(14,y 1),(15,y 19),(16,y 20)]
def uD0:List (Nat×l6):=ur uO0 [0,1,2,28,51,56] [(2,.row 34 1 [[.ss 56 4 21]]),(51,.row 26 3 [[y 0,y 1,y 2]]),(56,.xrow 41 4 21)]
def uT0:List AV:=up uz0 78 [(7,.mp 60 0 0),(8,y 30),(9,y 31),(10,y 35),(17,bT),(18,.rp [y 24,y 25,y 26,y 27,y 28,y 29]),(19,.agg [y 24,y 25,y 26,y 27,y 28,y 29]),(20,.tup [y 30,y 31]),(21,.agg [y 0,y 1,y 2]),(22,.mp 60 0 0),(23,y 24),(24,.tup [y 30,y 31]),(25,y 30),(26,y 31),(27,y 31),(28,bF),(29,y 7),(30,.mp 60 0 3),(31,y 27),(32,y 33),(33,y 34)]
def ub0:List (Nat×l6):=ur uD0 [0,1,2,28,51,56,60] [(60,.row 79 6 [[y 24,y 25,y 26,y 27,y 28,y 29]])]
def uE0:List AV:=up uT0 149 [(0,.agg [y 0,y 1,y 2,y 3]),(1,y 24),(3,.mp 78 0 0),(6,.ss 85 3 27),(7,A),(8,A),(9,A),(10,A),(13,A),(14,A),(15,A),(16,A),(17,A),(18,A),(19,A),(20,A),(21,.mp 78 0 0),(22,.mp 78 0 0),(23,y 0),(24,y 25),(25,y 26),(26,A),(27,A),(28,A),(29,A),(30,A),(31,A),(32,A),(33,A)]
def uj0:List (Nat×l6):=ur ub0 [0,1,2,28,51,56,78,85] [(78,.row 29 4 [[y 0,y 1,y 2,y 3]]),(85,.xrow 77 3 27)]
def uK0:List AV:=up uE0 149 [(26,bF),(40,.mp 78 0 3),(41,y 3),(42,y 30),(43,y 31)]
def uL0:List (Nat×l6):=ur uj0 [0,1,2,28,51,78,85,91] [(2,.row 34 1 [[.ss 91 4 32]]),(91,.xrow 41 4 32)]
def ue0:List AV:=up uK0 149 [(10,.mp 95 0 0),(11,.mp 132 0 0),(12,y 49),(44,bT),(45,.rp [y 35,y 36,y 37,y 38,y 39]),(46,.agg [y 35,y 36,y 37,y 38,y 39]),(47,.mp 95 0 1),(48,y 36),(49,y 40),(50,bF),(51,bF),(52,.mp 78 0 0),(53,.agg [y 0,y 1,y 2]),(54,.mp 95 0 4),(55,y 39),(56,.rp [y 42]),(57,y 42),(58,y 43),(59,bF),(60,bF),(61,.tup [.agg [y 46,y 47,y 48],y 49]),(62,.mp 78 0 0),(63,.agg [y 0,y 1,y 2]),(64,.mp 95 0 4),(65,y 39),(66,.rp [y 45]),(67,y 45),(68,.tup [.agg [y 46,y 47,y 48],y 49]),(69,.agg [y 46,y 47,y 48]),(70,y 49),(71,.mp 78 0 0),(72,.mp 78 0 1),(73,y 1),(74,y 50),(75,y 51)]
def um0:List (Nat×l6):=ur uL0 [0,1,2,28,51,78,85,91,95,132] [(2,.row 34 1 [[.ss 91 4 52]]),(91,.xrow 41 4 52),(95,.row 51 5 [[y 35,y 36,y 37,y 38,y 39]]),(132,.row 77 3 [[y 46,y 47,y 48]])]
def uo0:List AV:=up ue0 149 [(76,bF),(100,.ss 85 3 27),(101,y 55),(102,y 56)]
def uv0:List (Nat×l6):=ur um0 [0,1,2,28,51,78,85,91,95,132] [(2,.row 34 1 [[.ss 91 4 57]]),(91,.xrow 41 4 57)]
def ua0:List AV:=up uo0 41 [(1,.agg [y 4,y 5,y 6,y 7,y 8,y 9]),(3,.mp 111 0 0),(4,.mp 112 0 0),(6,y 37),(9,.mp 111 0 3),(10,y 3),(11,y 35),(12,y 36),(21,A),(22,A),(23,A),(24,A),(25,A),(26,A),(40,A)]
def uc0:List (Nat×l6):=ur uv0 [0,1,2,28,51,78,85,91,111,112] [(2,.row 34 1 [[.ss 91 4 32]]),(91,.xrow 41 4 32),(111,.row 29 4 [[y 0,y 1,y 2,y 3]]),(112,.row 31 6 [[y 4,y 5,y 6,y 7,y 8,y 9]])]
def uB0:List AV:=up ua0 73 [(2,.mp 0 0 0),(3,.mp 1 0 0),(4,.mp 2 0 0),(5,y 12),(6,.fn (.func 19) [] [.mp 2 0 0]),(7,iV 4),(9,A),(10,.agg [y 4,y 5,y 6,y 7,y 8,y 9]),(11,y 10),(12,y 10),(13,bF),(15,.agg [y 0,y 1,y 2,y 3]),(16,y 12),(17,y 12),(18,bF),(20,.fn (.func 19) [] [.mp 2 0 0]),(21,iV 4),(22,bT),(23,iV 4),(24,iV 4),(25,bF),(26,bF),(27,.agg [y 0,y 1,y 2,y 3]),(28,.mp 1 0 2),(29,y 6),(30,.fn (.func 19) [] [.mp 2 0 0]),(31,.tup []),(32,bF),(33,bF),(34,.mp 0 0 0),(35,.agg [y 0,y 1,y 2]),(36,.mp 1 0 3),(37,y 7),(38,.fn (.func 19) [] [.mp 2 0 0]),(39,.tup []),(40,bF),(41,bF),(42,.agg [y 0,y 1,y 2,y 3]),(43,.mp 1 0 4),(44,y 8),(45,.mp 1 0 4),(46,y 8),(47,y 24),(48,.fn (.func 19) [] [.mp 2 0 0]),(49,.tup []),(50,bF),(51,bF),(52,.agg [y 0,y 1,y 2,y 3]),(53,.agg [y 4,y 5,y 6,y 7,y 8,y 9]),(54,.fn (.func 19) [] [.mp 2 0 0]),(55,.tup []),(56,bT),(57,bT),(58,.agg [y 0,y 1,y 2,y 3]),(59,y 48),(60,y 49),(61,y 50),(69,iV 4)]
def uM0:List (Nat×l6):=ur uc0 [0,1,2,144] [(2,.row 34 1 [[.ss 144 4 51]]),(144,.xrow 41 4 51)]
def a116_9:List AV:=up uB0 73 [(59,y 46),(60,y 47),(61,y 48)]
def r116_9:List (Nat×l6):=ur uM0 [0,1,2,91] [(2,.row 34 1 [[.ss 91 4 49]]),(91,.xrow 41 4 49)]
noncomputable def e116:=tre [q6,q83,q64,q86,q21,q34,q93,q54,q20,q108,q112,q115] [(15,(.cons sI (.one (.sl z8)))),(20,(.cons sI (.one (.sl z8)))),(34,z1),(26,(.cons sI (.one z7))),(31,(.cons sI (.one (.sl z8)))),(51,(.cons sI (.one (.sl z8)))),(56,(.cons sI (.one (.sl z8)))),(36,z1),(50,(.cons sI (.one (.sl z8)))),(48,(.cons sI (.one (.sl z8))))] q116 [(4026663063,⟨2,uJ0,uO0,34⟩),(5368840371,⟨2,uz0,uD0,57⟩),(9127330289,⟨2,uT0,ub0,79⟩),(6979518706,⟨2,uE0,uj0,86⟩),(8322089463,⟨2,uK0,uL0,92⟩),(13691127742,⟨2,ue0,um0,140⟩),(15033764348,⟨2,uo0,uv0,144⟩),(9663873224,⟨2,ua0,uc0,118⟩),(13423222814,⟨2,uB0,uM0,166⟩),(12886351902,⟨2,a116_9,r116_9,153⟩)] [.agg [y 0,y 1,y 2,y 3],.agg [y 4,y 5,y 6,y 7,y 8,y 9]] 10
theorem d116:e116=A7:=by kernel_rfl
def a117_0:List AV:=up [] 26 [(0,y 0),(1,y 1),(4,bF),(5,y 5),(6,y 0),(7,y 2),(8,y 1),(9,y 3),(10,bF)]
noncomputable def e117:=tre [] [(5,(.one sI))] q117 [(1342439546,⟨1,a117_0,[],7⟩)] [y 0,y 1] 2
theorem d117:e117=aM0:=by kernel_rfl
def a118_0:List AV:=up [] 24 [(0,y 0),(2,y 2),(6,y 0),(7,y 1),(8,y 3)]
noncomputable def e118:=tre [] [(2,z1)] q118 [(537002068,⟨2,a118_0,[],4⟩)] [y 0] 1
theorem d118:e118=K9:=by kernel_rfl
noncomputable def e119:=tre [q118] [] q119 [] [y 0,y 1] 2
theorem d119:e119=hV0:=by kernel_rfl
def a121_0:List AV:=up [] 26 [(0,y 0),(1,y 1),(4,bF),(5,y 5),(6,y 0),(7,y 2),(8,y 1),(9,y 3),(10,bF)]
noncomputable def e121:=tre [] [(5,(.one sI))] q121 [(1342439546,⟨1,a121_0,[],7⟩)] [y 0,y 1] 2
theorem d121:e121=Q9:=by kernel_rfl
def uq0:List AV:=up [] 69 [(0,.agg [y 0,y 1,y 2,y 3]),(1,.mp 0 0 0),(2,bF),(3,y 14),(4,y 15),(5,.ss 20 1 16),(6,y 17),(7,.agg [y 0,y 1,y 2,y 3]),(8,y 4),(9,bF),(10,bF),(11,.agg [y 0,y 1,y 2,y 3]),(12,y 6),(13,bF),(14,bF),(16,.tup [y 14,y 15]),(17,.agg [y 0,y 1,y 2,y 3]),(18,.agg [y 8,y 9,y 10,y 11,y 12,y 13]),(19,.tup [y 14,y 15]),(20,y 14),(21,y 15)]
def uC0:List (Nat×l6):=ur [] [0,20] [(0,.row 29 4 [[y 0,y 1,y 2,y 3]]),(20,.xrow 3 1 16)]
noncomputable def e122:=tre [q2,q120,q83,q3,q116,q112,q121] [(16,(.cons z0 (.one sI)))] q122 [(4295360826,⟨2,uq0,uC0,21⟩)] [.agg [y 0,y 1,y 2,y 3]] 4
theorem d122:e122=P7:=by kernel_rfl
theorem C9:∀ t∈([]:List TF),t.Ok Φ:=fun t ht=>by cases ht
theorem y7{q:TF}{l:List TF}(h:q.Ok Φ)(hl:∀ t∈l,t.Ok Φ):∀ t∈q::l,t.Ok Φ:=fun t ht=>by rcases List.mem_cons.1 ht with rfl | ht;exact h;exact hl t ht
theorem okt(i:Nat){Ψ:List TF}{S:List (Nat×SpL)}{q:TF}{H:List (Nat×Hint)}{p:List AV}{fr:Nat}(hΨ:∀ t∈Ψ,t.Ok Φ)(hi:tfs[i]?=some q)(hf:Nat.blt q.f XT=true)(h:tre Ψ S q H p fr=q.fn):q.Ok Φ :=tf_ok hT hF hmix rN0 hΨ (aN hi) hf h
structure Hand:Prop where
  slices_Clone_api_Point:q18.Ok Φ
  slices_SortFunc_plan_segment_plan_planar_1:q27.Ok Φ
  slices_SortFunc_int_walk_Around_2:q45.Ok Φ
  slices_Sort_int:q48.Ok Φ
  strings_Contains:q69.Ok Φ
  slices_Clone_int:q84.Ok Φ
  bits_Add64:q104.Ok Φ
  slices_SortFunc_api_Violation_rules_Violations_2:q115.Ok Φ
  mapsheetslaw36_awake:q120.Ok Φ
theorem ok0(h:Hand):q0.Ok Φ:=okt 0 C9 rfl rfl d0
theorem ok1(h:Hand):q1.Ok Φ:=okt 1 (y7 (ok0 h) C9) rfl rfl d1
theorem ok2(h:Hand):q2.Ok Φ:=okt 2 (y7 (ok1 h) C9) rfl rfl d2
theorem ok3(h:Hand):q3.Ok Φ:=okt 3 C9 rfl rfl d3
theorem ok4(h:Hand):q4.Ok Φ:=okt 4 C9 rfl rfl d4
theorem ok5(h:Hand):q5.Ok Φ:=okt 5 C9 rfl rfl d5
theorem ok6(h:Hand):q6.Ok Φ:=okt 6 (y7 (ok5 h) C9) rfl rfl d6
theorem ok7(h:Hand):q7.Ok Φ:=okt 7 C9 rfl rfl d7
theorem ok8(h:Hand):q8.Ok Φ:=okt 8 C9 rfl rfl d8
theorem ok9(h:Hand):q9.Ok Φ:=okt 9 C9 rfl rfl d9
theorem ok10(h:Hand):q10.Ok Φ:=okt 10 (y7 (ok9 h) C9) rfl rfl d10
theorem ok11(h:Hand):q11.Ok Φ:=okt 11 (y7 (ok10 h) C9) rfl rfl d11
theorem ok12(h:Hand):q12.Ok Φ:=okt 12 C9 rfl rfl d12
theorem ok13(h:Hand):q13.Ok Φ:=okt 13 (y7 (ok12 h) C9) rfl rfl d13
theorem ok14(h:Hand):q14.Ok Φ:=okt 14 (y7 (ok12 h) (y7 (ok13 h) C9)) rfl rfl d14
theorem ok15(h:Hand):q15.Ok Φ:=okt 15 C9 rfl rfl d15
theorem ok16(h:Hand):q16.Ok Φ:=okt 16 (y7 (ok15 h) C9) rfl rfl d16
theorem ok17(h:Hand):q17.Ok Φ:=okt 17 (y7 (ok16 h) C9) rfl rfl d17
theorem ok19(h:Hand):q19.Ok Φ:=okt 19 (y7 h.slices_Clone_api_Point C9) rfl rfl d19
theorem ok20(h:Hand):q20.Ok Φ:=okt 20 C9 rfl rfl d20
theorem uP0(h:Hand):q21.Ok Φ:=okt 21 (y7 (ok19 h) (y7 (ok20 h) C9)) rfl rfl d21
theorem ok22(h:Hand):q22.Ok Φ:=okt 22 C9 rfl rfl d22
theorem ok23(h:Hand):q23.Ok Φ:=okt 23 (y7 (ok22 h) C9) rfl rfl d23
theorem ok24(h:Hand):q24.Ok Φ:=okt 24 C9 rfl rfl d24
theorem ok25(h:Hand):q25.Ok Φ:=okt 25 (y7 (ok24 h) C9) rfl rfl d25
theorem ok26(h:Hand):q26.Ok Φ:=okt 26 (y7 (ok23 h) (y7 (ok25 h) C9)) rfl rfl d26
theorem ok28(h:Hand):q28.Ok Φ:=okt 28 (y7 (ok22 h) C9) rfl rfl d28
theorem ok29(h:Hand):q29.Ok Φ:=okt 29 C9 rfl rfl d29
theorem ok30(h:Hand):q30.Ok Φ:=okt 30 C9 rfl rfl d30
theorem ok31(h:Hand):q31.Ok Φ:=okt 31 (y7 (ok29 h) (y7 (ok30 h) C9)) rfl rfl d31
theorem ok32(h:Hand):q32.Ok Φ:=okt 32 C9 rfl rfl d32
theorem ok33(h:Hand):q33.Ok Φ:=okt 33 C9 rfl rfl d33
theorem ok34(h:Hand):q34.Ok Φ:=okt 34 (y7 (ok29 h) (y7 (ok30 h) C9)) rfl rfl d34
theorem ok35(h:Hand):q35.Ok Φ:=okt 35 (y7 (ok34 h) C9) rfl rfl d35
theorem ok36(h:Hand):q36.Ok Φ:=okt 36 C9 rfl rfl d36
theorem ok37(h:Hand):q37.Ok Φ:=okt 37 (y7 (ok36 h) C9) rfl rfl d37
theorem ok38(h:Hand):q38.Ok Φ:=okt 38 (y7 (ok29 h) (y7 (ok31 h) (y7 (ok35 h) (y7 (ok37 h) C9)))) rfl rfl d38
theorem ok39(h:Hand):q39.Ok Φ:=okt 39 (y7 (ok22 h) (y7 (ok38 h) (y7 (ok32 h) (y7 (ok33 h) (y7 (ok31 h) C9))))) rfl rfl d39
theorem ok40(h:Hand):q40.Ok Φ:=okt 40 (y7 (uP0 h) (y7 h.slices_SortFunc_plan_segment_plan_planar_1 (y7 (ok23 h) (y7 (ok28 h) (y7 (ok22 h) (y7 (ok31 h) (y7 (ok32 h) (y7 (ok33 h) (y7 (ok39 h) C9))))))))) rfl rfl d40
theorem ok41(h:Hand):q41.Ok Φ:=okt 41 (y7 (ok7 h) (y7 (ok8 h) (y7 (ok11 h) (y7 (ok14 h) (y7 (ok17 h) (y7 (ok40 h) C9)))))) rfl rfl d41
theorem ok42(h:Hand):q42.Ok Φ:=okt 42 C9 rfl rfl d42
theorem ok43(h:Hand):q43.Ok Φ:=okt 43 (y7 (ok29 h) (y7 (ok42 h) (y7 (ok30 h) C9))) rfl rfl d43
theorem ok44(h:Hand):q44.Ok Φ:=okt 44 (y7 (ok43 h) C9) rfl rfl d44
theorem ok46(h:Hand):q46.Ok Φ:=okt 46 (y7 (ok20 h) (y7 (uP0 h) (y7 h.slices_SortFunc_int_walk_Around_2 C9))) rfl rfl d46
theorem ok47(h:Hand):q47.Ok Φ:=okt 47 (y7 (ok15 h) C9) rfl rfl d47
theorem ok49(h:Hand):q49.Ok Φ:=okt 49 (y7 (ok41 h) (y7 (ok46 h) (y7 (ok47 h) (y7 h.slices_Sort_int C9)))) rfl rfl d49
theorem ok50(h:Hand):q50.Ok Φ:=okt 50 (y7 (uP0 h) C9) rfl rfl d50
theorem ok51(h:Hand):q51.Ok Φ:=okt 51 (y7 (ok19 h) C9) rfl rfl d51
theorem ok52(h:Hand):q52.Ok Φ:=okt 52 (y7 (ok51 h) (y7 (uP0 h) C9)) rfl rfl d52
theorem ok53(h:Hand):q53.Ok Φ:=okt 53 (y7 (ok31 h) (y7 (ok35 h) C9)) rfl rfl d53
theorem ok54(h:Hand):q54.Ok Φ:=okt 54 C9 rfl rfl d54
theorem ok55(h:Hand):q55.Ok Φ:=tf_okF hT hF hmix rN0 (y7 (ok52 h) (y7 (ok53 h) (y7 (ok54 h) C9))) (aN (i:=55) rfl) rfl d55
theorem ok56(h:Hand):q56.Ok Φ:=okt 56 (y7 (ok51 h) C9) rfl rfl d56
theorem ok57(h:Hand):q57.Ok Φ:=okt 57 C9 rfl rfl d57
theorem ok58(h:Hand):q58.Ok Φ:=okt 58 (y7 (ok56 h) (y7 (ok57 h) C9)) rfl rfl d58
theorem ok59(h:Hand):q59.Ok Φ:=okt 59 (y7 (ok49 h) (y7 (ok50 h) (y7 (ok55 h) (y7 (ok58 h) C9)))) rfl rfl d59
theorem ok60(h:Hand):q60.Ok Φ:=okt 60 C9 rfl rfl d60
theorem ok61(h:Hand):q61.Ok Φ:=okt 61 (y7 (ok60 h) C9) rfl rfl d61
theorem ok62(h:Hand):q62.Ok Φ:=okt 62 C9 rfl rfl d62
theorem ok63(h:Hand):q63.Ok Φ:=okt 63 (y7 (ok62 h) C9) rfl rfl d63
theorem wC0(h:Hand):q64.Ok Φ:=okt 64 C9 rfl rfl d64
theorem ok65(h:Hand):q65.Ok Φ:=okt 65 (y7 (wC0 h) C9) rfl rfl d65
theorem ok66(h:Hand):q66.Ok Φ:=okt 66 (y7 (ok65 h) C9) rfl rfl d66
theorem ok67(h:Hand):q67.Ok Φ:=okt 67 C9 rfl rfl d67
theorem ok68(h:Hand):q68.Ok Φ:=okt 68 (y7 (ok67 h) C9) rfl rfl d68
theorem ok70(h:Hand):q70.Ok Φ:=okt 70 (y7 (ok68 h) (y7 h.strings_Contains (y7 (ok67 h) C9))) rfl rfl d70
theorem ok71(h:Hand):q71.Ok Φ:=okt 71 (y7 (ok70 h) C9) rfl rfl d71
theorem ok72(h:Hand):q72.Ok Φ:=okt 72 (y7 (ok71 h) C9) rfl rfl d72
theorem ok73(h:Hand):q73.Ok Φ:=okt 73 (y7 (ok72 h) C9) rfl rfl d73
theorem ok74(h:Hand):q74.Ok Φ:=okt 74 (y7 (wC0 h) C9) rfl rfl d74
theorem ok75(h:Hand):q75.Ok Φ:=okt 75 (y7 (ok74 h) C9) rfl rfl d75
theorem ok76(h:Hand):q76.Ok Φ:=okt 76 (y7 (ok16 h) C9) rfl rfl d76
theorem ok77(h:Hand):q77.Ok Φ:=okt 77 (y7 (wC0 h) (y7 (ok20 h) (y7 (ok19 h) (y7 (ok76 h) C9)))) rfl rfl d77
theorem ok78(h:Hand):q78.Ok Φ:=okt 78 (y7 (ok77 h) C9) rfl rfl d78
theorem ok79(h:Hand):q79.Ok Φ:=okt 79 (y7 (ok78 h) C9) rfl rfl d79
theorem ok80(h:Hand):q80.Ok Φ:=okt 80 (y7 (ok79 h) C9) rfl rfl d80
theorem ok81(h:Hand):q81.Ok Φ:=okt 81 (y7 (ok80 h) C9) rfl rfl d81
theorem ok82(h:Hand):q82.Ok Φ:=okt 82 C9 rfl rfl d82
theorem ok83(h:Hand):q83.Ok Φ:=okt 83 (y7 (ok59 h) (y7 (ok61 h) (y7 (ok63 h) (y7 (ok66 h) (y7 (ok73 h) (y7 (ok75 h) (y7 (ok81 h) (y7 (wC0 h) (y7 (ok82 h) C9))))))))) rfl rfl d83
theorem ok85(h:Hand):q85.Ok Φ:=okt 85 (y7 h.slices_Clone_int C9) rfl rfl d85
theorem ok86(h:Hand):q86.Ok Φ:=okt 86 (y7 (ok85 h) (y7 (wC0 h) (y7 (ok41 h) (y7 (ok16 h) (y7 (uP0 h) C9))))) rfl rfl d86
theorem ok87(h:Hand):q87.Ok Φ:=okt 87 C9 rfl rfl d87
theorem ok88(h:Hand):q88.Ok Φ:=okt 88 (y7 (ok87 h) C9) rfl rfl d88
theorem ok89(h:Hand):q89.Ok Φ:=okt 89 C9 rfl rfl d89
theorem ok90(h:Hand):q90.Ok Φ:=okt 90 (y7 (ok89 h) C9) rfl rfl d90
theorem ok91(h:Hand):q91.Ok Φ:=okt 91 (y7 (ok90 h) C9) rfl rfl d91
theorem ok92(h:Hand):q92.Ok Φ:=okt 92 (y7 (ok88 h) (y7 (ok91 h) (y7 (ok35 h) (y7 (ok87 h) (y7 (ok31 h) C9))))) rfl rfl d92
theorem ok93(h:Hand):q93.Ok Φ:=okt 93 (y7 (ok19 h) (y7 (uP0 h) (y7 (ok92 h) C9))) rfl rfl d93
theorem ok94(h:Hand):q94.Ok Φ:=okt 94 C9 rfl rfl d94
theorem ok95(h:Hand):q95.Ok Φ:=okt 95 C9 rfl rfl d95
theorem ok96(h:Hand):q96.Ok Φ:=okt 96 C9 rfl rfl d96
theorem ok97(h:Hand):q97.Ok Φ:=okt 97 C9 rfl rfl d97
theorem ok98(h:Hand):q98.Ok Φ:=okt 98 (y7 (ok97 h) C9) rfl rfl d98
theorem ok99(h:Hand):q99.Ok Φ:=okt 99 (y7 (ok98 h) C9) rfl rfl d99
theorem ok100(h:Hand):q100.Ok Φ:=okt 100 C9 rfl rfl d100
theorem ok101(h:Hand):q101.Ok Φ:=okt 101 (y7 (ok95 h) (y7 (ok96 h) (y7 (ok99 h) (y7 (ok100 h) C9)))) rfl rfl d101
theorem ok102(h:Hand):q102.Ok Φ:=okt 102 C9 rfl rfl d102
theorem ok103(h:Hand):q103.Ok Φ:=okt 103 (y7 (ok95 h) (y7 (ok102 h) (y7 (ok100 h) C9))) rfl rfl d103
theorem ok105(h:Hand):q105.Ok Φ:=okt 105 (y7 (ok29 h) (y7 (ok94 h) (y7 (ok30 h) (y7 (ok101 h) (y7 (ok103 h) (y7 (ok96 h) (y7 h.bits_Add64 C9))))))) rfl rfl d105
theorem ok106(h:Hand):q106.Ok Φ:=okt 106 C9 rfl rfl d106
theorem ok107(h:Hand):q107.Ok Φ:=okt 107 (y7 (ok106 h) C9) rfl rfl d107
theorem ok108(h:Hand):q108.Ok Φ:=okt 108 (y7 (uP0 h) (y7 (ok105 h) (y7 (ok107 h) C9))) rfl rfl d108
theorem ok109(h:Hand):q109.Ok Φ:=okt 109 (y7 (wC0 h) (y7 (ok16 h) C9)) rfl rfl d109
theorem ok110(h:Hand):q110.Ok Φ:=okt 110 (y7 (ok109 h) C9) rfl rfl d110
theorem ok111(h:Hand):q111.Ok Φ:=okt 111 (y7 (ok110 h) C9) rfl rfl d111
theorem ok112(h:Hand):q112.Ok Φ:=okt 112 (y7 (ok83 h) (y7 (ok111 h) C9)) rfl rfl d112
theorem ok113(h:Hand):q113.Ok Φ:=okt 113 C9 rfl rfl d113
theorem ok114(h:Hand):q114.Ok Φ:=okt 114 (y7 (ok25 h) (y7 (ok113 h) C9)) rfl rfl d114
theorem va0(h:Hand):q116.Ok Φ:=okt 116 (y7 (ok6 h) (y7 (ok83 h) (y7 (wC0 h) (y7 (ok86 h) (y7 (uP0 h) (y7 (ok34 h) (y7 (ok93 h) (y7 (ok54 h) (y7 (ok20 h) (y7 (ok108 h) (y7 (ok112 h) (y7 h.slices_SortFunc_api_Violation_rules_Violations_2 C9)))))))))))) rfl rfl d116
theorem ok117(h:Hand):q117.Ok Φ:=okt 117 C9 rfl rfl d117
theorem ok118(h:Hand):q118.Ok Φ:=okt 118 C9 rfl rfl d118
theorem ok119(h:Hand):q119.Ok Φ:=okt 119 (y7 (ok118 h) C9) rfl rfl d119
theorem ok121(h:Hand):q121.Ok Φ:=okt 121 C9 rfl rfl d121
theorem ok122(h:Hand):q122.Ok Φ:=okt 122 (y7 (ok2 h) (y7 h.mapsheetslaw36_awake (y7 (ok83 h) (y7 (ok3 h) (y7 (va0 h) (y7 (ok112 h) (y7 (ok121 h) C9))))))) rfl rfl d122
end Go.Proofs.YtlnpfkdodfgdcaaGreatDoor
