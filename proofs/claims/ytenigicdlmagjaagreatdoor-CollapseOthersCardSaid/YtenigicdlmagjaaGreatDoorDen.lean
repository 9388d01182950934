/- A part of the proof; its readable source lies in wip of the prover's repo (squeezed here for the limit of bytes). -/
import Derived.Test.YtenigicdlmagjaaGreatDoorMd
import Derived.Test.YtenigicdlmagjaaGreatDoorMe
import Derived.Test.YtenigicdlmagjaaGreatDoorProg
import Derived.KernelRfl
set_option linter.unusedVariables false
set_option linter.unusedSimpArgs false
set_option linter.unusedSectionVars false
open ByteArray renaming mk->cG
open Go.Proofs.Tryz renaming prog->dW
open List renaming mem_of_getElem?->aD
open Nat renaming beq->aA
namespace Go.Proofs.YtenigicdlmagjaaGreatDoor
open Go Go.Ab Go.Proofs
set_option maxRecDepth 100000
class Mx where
  n:Int
def fg0:List Value:=[.int .i32 32,.int .i32 32,.int .i64 0,.int .i32 39,.int .i32 41,.int .i64 0,.int .i32 45,.int .i32 46,.int .i64 0,.int .i32 48,.int .i32 57,.int .i64 0,.int .i32 65,.int .i32 90,.int .i64 1,.int .i32 97,.int .i32 122,.int .i64 1,.int .i32 192,.int .i32 214,.int .i64 1,.int .i32 216,.int .i32 246,.int .i64 1,.int .i32 248,.int .i32 591,.int .i64 1,.int .i32 880,.int .i32 1023,.int .i64 2,.int .i32 1024,.int .i32 1279,.int .i64 3,.int .i32 1488,.int .i32 1514,.int .i64 4,.int .i32 19968,.int .i32 40959,.int .i64 5]
instance [Mx]:B5:=⟨fun b o=>match aA b 0 with
  | true=>fg0[o]?
  | false=>match aA b 1&&aA o 0 with
    | true=>some (.int .i64 Mx.n)
    | false=>none⟩
variable [Mx]
noncomputable def tT:Tr TI:=tTr dW
noncomputable def fT:Tr Func:=fTr dW
noncomputable def T:Tab:=fun t=>tT.get t
noncomputable def F:FuncId->Option Func:=fun f=>fT.get f
theorem hT:B7 dW T:=tTr_ok dW
theorem hF:∀ f fn,F f=some fn->dW.funcs[f]?=some fn:=fTr_ok dW
theorem hmix:dW.follows .mixedOrders=true:=by kernel_rfl
def A:AV:=.any
def bF:AV:=.sc (.bool false)
def bT:AV:=.sc (.bool true)
def y(n:Nat):AV:=.sy n
def iV(n:Int):AV:=.sc (.int .i64 n)
def get1{α:Type}:Nat->List (Nat×α)->Option α
  | _,[]=>none
  | n,(k,v)::l=>match aA n k with
    | true=>some v
    | false=>get1 n l
def at1{α:Type}:Nat->List α->Option α
  | _,[]=>none
  | 0,a::_=>some a
  | n+1,_::l=>at1 n l
def up(l:List AV)(n:Nat)(m:List (Nat×AV)):List AV:=(List.range n).map fun i=>match get1 i m with
  | some v=>v
  | none=>match at1 i l with
    | some v=>v
    | none=>.any
def ur(l:List (Nat×j5))(ks:List Nat)(m:List (Nat×j5)):List (Nat×j5):=ks.map fun k=>(k,match get1 k m with
  | some v=>v
  | none=>match get1 k l with
    | some v=>v
    | none=>.row 0 0 [])
abbrev z0:Sp:=.sl (.one sI)
abbrev z1:SpL:=.cons sI (.one sI)
abbrev z2:SpL:=.one z0
abbrev z3:Sp:=.sl z1
abbrev z4:Sp:=.agg z1
abbrev z5:SpL:=.cons sI z1
abbrev z6:SpL:=.one z3
abbrev z7:SpL:=.cons .str z2
abbrev z8:Sp:=.sl z5
abbrev z9:SpL:=.cons sI z6
abbrev z10:SpL:=.cons sI z7
abbrev z11:SpL:=.cons z3 z1
abbrev z12:SpL:=.cons sI z10
abbrev z13:SpL:=.cons (.sl z2) z2
abbrev z14:SpL:=.cons sI z11
abbrev z15:SpL:=.cons sI z12
abbrev z16:Sp:=.sl z15
abbrev z17:SpL:=.cons sI z14
abbrev z18:SpL:=.one z16
abbrev z19:SpL:=.cons z0 z13
abbrev z20:SpL:=.cons sI z17
abbrev z21:SpL:=.cons z3 (.cons sI z9)
abbrev z22:Sp:=.sl z20
abbrev z23:SpL:=.cons sI z19
abbrev z24:SpL:=.cons sI z21
abbrev z25:SpL:=.cons z0 z18
abbrev z26:SpL:=.cons sI z24
abbrev z27:SpL:=.cons sI z26
abbrev z28:SpL:=.cons z22 z2
abbrev z29:Sp:=.ptr z27
abbrev z30:SpL:=.cons z29 (.one sI)
abbrev z31:Sp:=.agg z30
abbrev z32:SpL:=.cons z8 z28
abbrev z33:Sp:=.agg z32
abbrev z34:SpL:=.one z33
abbrev z35:SpL:=.cons z33 (.one sI)
abbrev z36:SpL:=.cons z22 z25
abbrev z37:SpL:=.cons z8 z36
abbrev z38:Sp:=.agg z37
abbrev z39:SpL:=.cons z38 (.one sI)
noncomputable abbrev q0:TF:=⟨30,z6,(.agg (.cons sI z5)),F2⟩
noncomputable abbrev q1:TF:=⟨12,z34,.bool,G9⟩
noncomputable abbrev q2:TF:=⟨4,(.one z38),.bool,G7⟩
noncomputable abbrev q3:TF:=⟨31,z1,z3,J7⟩
noncomputable abbrev q4:TF:=⟨13,.nil,z38,T2⟩
noncomputable abbrev q5:TF:=⟨72,z34,(.tup (.cons z0 z2)),M8⟩
noncomputable abbrev q6:TF:=⟨73,z2,.bool,J8⟩
noncomputable abbrev q7:TF:=⟨120,(.one sI),.bool,O9⟩
noncomputable abbrev q8:TF:=⟨91,(.cons z0 (.one (.fn 120 .nil))),.bool,w7⟩
noncomputable abbrev q9:TF:=⟨74,z2,.bool,M3⟩
noncomputable abbrev q10:TF:=⟨121,(.one z4),.bool,M0⟩
noncomputable abbrev q11:TF:=⟨122,(.cons z3 (.one (.fn 121 .nil))),.bool,u5⟩
noncomputable abbrev q12:TF:=⟨75,z34,.bool,aH0⟩
noncomputable abbrev q13:TF:=⟨55,(.cons z0 (.one sI)),sI,E3⟩
noncomputable abbrev q14:TF:=⟨28,(.cons z0 (.one sI)),.bool,l8⟩
noncomputable abbrev q15:TF:=⟨76,(.cons z33 z2),sI,S8⟩
noncomputable abbrev q16:TF:=⟨2000047,z6,z3,slices_Clone_api_Point⟩
noncomputable abbrev q17:TF:=⟨78,z35,(.tup (.cons (.agg z20) (.one .bool))),bd0⟩
noncomputable abbrev q18:TF:=⟨79,z35,(.tup (.cons (.agg z5) (.one .bool))),S5⟩
noncomputable abbrev q19:TF:=⟨29,z35,(.tup (.cons z3 (.one sI))),M7⟩
noncomputable abbrev q20:TF:=⟨129,(.one z31),(.tup (.cons z4 (.one z4))),u6⟩
noncomputable abbrev q21:TF:=⟨126,(.one z31),sI,A8⟩
noncomputable abbrev q22:TF:=⟨98,(.one sI),.bool,y4⟩
noncomputable abbrev q23:TF:=⟨53,z1,sI,p8⟩
noncomputable abbrev q24:TF:=⟨125,(.cons z31 (.one z31)),sI,U8⟩
noncomputable abbrev q25:TF:=⟨1000124,(.cons (.sl z30) (.cons sI (.one (.fn 125 .nil)))),(.sl z30),slices_SortFunc_plan_segment_plan_planar_1⟩
noncomputable abbrev q26:TF:=⟨127,(.one z31),sI,H7⟩
noncomputable abbrev q27:TF:=⟨173,z6,.bool,S7⟩
noncomputable abbrev q28:TF:=⟨174,(.cons z4 (.cons z4 (.one z4))),sI,U2⟩
noncomputable abbrev q29:TF:=⟨130,(.cons z4 (.cons z4 (.one z4))),.bool,A3⟩
noncomputable abbrev q30:TF:=⟨131,(.one z31),.bool,y8⟩
noncomputable abbrev q31:TF:=⟨132,(.one z31),.bool,w5⟩
noncomputable abbrev q32:TF:=⟨228,(.cons z4 (.cons z4 (.one z4))),sI,bL0⟩
noncomputable abbrev q33:TF:=⟨204,(.cons z4 (.cons z4 (.one z4))),sI,B1⟩
noncomputable abbrev q34:TF:=⟨229,(.cons z4 (.one z4)),.bool,o8⟩
noncomputable abbrev q35:TF:=⟨205,(.cons z4 (.cons z4 (.cons z4 (.one z4)))),sI,Y7⟩
noncomputable abbrev q36:TF:=⟨172,(.cons z4 (.cons z4 (.cons z4 (.one z4)))),sI,bY0⟩
noncomputable abbrev q37:TF:=⟨128,(.cons z31 (.cons z31 (.one (.fmap (.cons sI (.one z4)))))),.bool,K5⟩
noncomputable abbrev q38:TF:=⟨77,z34,.bool,aD0⟩
noncomputable abbrev q39:TF:=⟨27,z34,sI,aA0⟩
noncomputable abbrev q40:TF:=⟨220,(.cons z4 (.one z4)),.bool,U3⟩
noncomputable abbrev q41:TF:=⟨187,(.cons z4 (.cons z4 (.one z4))),.bool,ab0⟩
noncomputable abbrev q42:TF:=⟨186,(.cons sI (.cons sI (.cons (.ptr z5) (.one (.ptr (.one (.fmap (.cons sI (.one z4))))))))),sI,J4⟩
noncomputable abbrev q43:TF:=⟨1000185,(.cons z0 (.cons sI (.one (.fn 186 (.cons (.ptr z5) (.one (.ptr (.one (.fmap (.cons sI (.one z4))))))))))),z0,slices_SortFunc_int_walk_Around_2⟩
noncomputable abbrev q44:TF:=⟨149,z35,z0,Y2⟩
noncomputable abbrev q45:TF:=⟨150,(.cons z0 (.one sI)),sI,N3⟩
noncomputable abbrev q46:TF:=⟨1000023,(.cons z0 (.one sI)),z0,slices_Sort_int⟩
noncomputable abbrev q47:TF:=⟨99,z34,(.tup (.cons (.sl z2) (.one sI))),M4⟩
noncomputable abbrev q48:TF:=⟨100,z34,(.fmap z9),K0⟩
noncomputable abbrev q49:TF:=⟨134,z35,(.tup (.cons (.agg z20) (.one .bool))),Y0⟩
noncomputable abbrev q50:TF:=⟨96,(.cons z33 z2),sI,N8⟩
noncomputable abbrev q51:TF:=⟨188,(.cons (.fmap z9) (.cons z0 (.one z4))),.bool,y5⟩
noncomputable abbrev q52:TF:=⟨85,z35,sI,Y3⟩
noncomputable abbrev q53:TF:=⟨101,(.cons z33 (.cons (.sl z2) (.one (.fmap z9)))),(.sl z23),D5⟩
noncomputable abbrev q54:TF:=⟨83,z35,sI,R8⟩
noncomputable abbrev q55:TF:=⟨153,(.one (.agg z23)),(.sl z2),B2⟩
noncomputable abbrev q56:TF:=⟨102,(.cons z33 (.one (.sl z23))),(.tup (.cons z0 (.one .bool))),P6⟩
noncomputable abbrev q57:TF:=⟨34,z34,sI,Z8⟩
noncomputable abbrev q58:TF:=⟨35,(.one (.agg z15)),.bool,aJ0⟩
noncomputable abbrev q59:TF:=⟨45,(.cons z16 (.one (.fn 35 .nil))),.bool,p9⟩
noncomputable abbrev q60:TF:=⟨37,(.one (.agg z15)),.bool,V1⟩
noncomputable abbrev q61:TF:=⟨45,(.cons z16 (.one (.fn 37 .nil))),.bool,j7⟩
noncomputable abbrev q62:TF:=⟨10,(.one sI),sI,w6⟩
noncomputable abbrev q63:TF:=⟨38,(.one (.agg z15)),.bool,W4⟩
noncomputable abbrev q64:TF:=⟨45,(.cons z16 (.one (.fn 38 .nil))),.bool,l5⟩
noncomputable abbrev q65:TF:=⟨140,(.one sI),sI,U1⟩
noncomputable abbrev q66:TF:=⟨138,(.one .str),(.tup (.cons z0 (.one sI))),Z7⟩
noncomputable abbrev q67:TF:=⟨139,(.cons .str (.one .str)),.bool,strings_Contains⟩
noncomputable abbrev q68:TF:=⟨90,(.one .str),(.tup (.cons z0 (.one sI))),cL0⟩
noncomputable abbrev q69:TF:=⟨40,(.one .str),sI,X9⟩
noncomputable abbrev q70:TF:=⟨39,(.one (.agg z15)),.bool,U9⟩
noncomputable abbrev q71:TF:=⟨45,(.cons z16 (.one (.fn 39 .nil))),.bool,j6⟩
noncomputable abbrev q72:TF:=⟨41,(.one (.agg z15)),.bool,W6⟩
noncomputable abbrev q73:TF:=⟨45,(.cons z16 (.one (.fn 41 .nil))),.bool,j8⟩
noncomputable abbrev q74:TF:=⟨93,(.cons z0 (.one sI)),.bool,eV0⟩
noncomputable abbrev q75:TF:=⟨92,(.cons sI (.cons (.ptr z15) (.one (.ptr z32)))),.bool,K8⟩
noncomputable abbrev q76:TF:=⟨91,(.cons z0 (.one (.fn 92 (.cons (.ptr z15) (.one (.ptr z32)))))),.bool,y6⟩
noncomputable abbrev q77:TF:=⟨43,(.cons z33 (.one (.agg z15))),.bool,O8⟩
noncomputable abbrev q78:TF:=⟨42,(.cons (.agg z15) (.one (.ptr z37))),.bool,W0⟩
noncomputable abbrev q79:TF:=⟨45,(.cons z16 (.one (.fn 42 (.one (.ptr z37))))),.bool,j9⟩
noncomputable abbrev q80:TF:=⟨89,z2,.bool,Y5⟩
noncomputable abbrev q81:TF:=⟨18,(.one z38),sI,J3⟩
noncomputable abbrev q82:TF:=⟨2000048,z2,z0,slices_Clone_int⟩
noncomputable abbrev q83:TF:=⟨26,z39,(.tup (.cons (.agg z15) (.one .bool))),P3⟩
noncomputable abbrev q84:TF:=⟨118,(.one (.int .u64)),sI,bits_Len64⟩
noncomputable abbrev q85:TF:=⟨69,(.one (.int .u64)),sI,bits_Len⟩
noncomputable abbrev q86:TF:=⟨137,(.cons (.agg z23) (.one (.agg z23))),sI,M9⟩
noncomputable abbrev q87:TF:=⟨1000136,(.cons (.sl z23) (.cons sI (.one (.fn 137 .nil)))),(.sl z23),slices_SortFunc_api_Region_region_Regions_1⟩
noncomputable abbrev q88:TF:=⟨87,z34,(.tup (.cons (.sl z23) (.one sI))),H5⟩
noncomputable abbrev q89:TF:=⟨33,z34,(.fmap (.cons sI (.one (.agg z23)))),G4⟩
noncomputable abbrev q90:TF:=⟨82,(.cons z38 z1),z0,M5⟩
noncomputable abbrev q91:TF:=⟨81,(.cons z0 z2),.bool,N0⟩
noncomputable abbrev q92:TF:=⟨84,z35,sI,bP0⟩
noncomputable abbrev q93:TF:=⟨175,(.one (.sl z2)),z0,Q9⟩
noncomputable abbrev q94:TF:=⟨114,z1,.bool,F4⟩
noncomputable abbrev q95:TF:=⟨135,(.cons z0 z2),z0,aR0⟩
noncomputable abbrev q96:TF:=⟨86,(.cons z38 (.cons sI (.cons sI (.one (.fmap (.cons sI (.one .bool))))))),.bool,P4⟩
noncomputable abbrev q97:TF:=⟨32,(.cons z38 (.cons (.fmap (.cons sI (.one (.agg z23)))) (.one (.agg z15)))),(.tup (.cons sI (.one .bool))),D7⟩
noncomputable abbrev q98:TF:=⟨58,z6,(.agg (.cons sI z5)),aT0⟩
noncomputable abbrev q99:TF:=⟨189,z1,sI,ew0⟩
noncomputable abbrev q100:TF:=⟨155,z1,(.tup z1),ci0⟩
noncomputable abbrev q101:TF:=⟨223,(.cons z4 (.one z4)),sI,V8⟩
noncomputable abbrev q102:TF:=⟨1000222,(.cons z3 (.cons sI (.one (.fn 223 .nil)))),z3,slices_SortFunc_api_Range_span_Normal_1⟩
noncomputable abbrev q103:TF:=⟨191,z6,z3,Y4⟩
noncomputable abbrev q104:TF:=⟨156,(.cons z3 z6),z3,bZ0⟩
noncomputable abbrev q105:TF:=⟨103,(.cons (.fmap z9) (.cons z33 (.cons (.agg z23) (.one sI)))),z3,K6⟩
noncomputable abbrev q106:TF:=⟨59,(.cons (.fmap z9) (.cons z33 (.cons (.agg z23) (.one sI)))),(.tup (.cons z4 (.one .bool))),w9⟩
noncomputable abbrev xy0:TF:=⟨21,z35,(.tup (.cons z4 (.one .bool))),E0⟩
noncomputable abbrev q108:TF:=⟨14,z39,(.tup (.cons sI (.one .bool))),Q6⟩
noncomputable abbrev q109:TF:=⟨49,z35,sI,S9⟩
noncomputable abbrev q110:TF:=⟨52,z2,sI,K9⟩
noncomputable abbrev q111:TF:=⟨51,(.cons (.agg z5) (.one (.agg z5))),sI,F6⟩
noncomputable abbrev q112:TF:=⟨1000050,(.cons z8 (.cons sI (.one (.fn 51 .nil)))),z8,slices_SortFunc_collapse_candidate_collapse_candidates_1⟩
noncomputable abbrev q113:TF:=⟨20,z39,z8,E7⟩
noncomputable abbrev q114:TF:=⟨15,(.cons z38 (.one (.agg (.cons sI (.cons sI (.cons sI z5)))))),(.tup (.cons z0 (.one sI))),bx0⟩
noncomputable abbrev q115:TF:=⟨2000046,(.one z8),z8,slices_Clone_api_Node⟩
noncomputable abbrev q116:TF:=⟨67,(.cons (.agg z5) (.one (.agg z5))),sI,K3⟩
noncomputable abbrev q117:TF:=⟨1000066,(.cons z8 (.cons sI (.one (.fn 67 .nil)))),z8,slices_SortFunc_api_Node_collapse_shrink_4⟩
noncomputable abbrev q118:TF:=⟨22,(.cons z38 (.cons sI (.cons sI (.one z4)))),z38,K2⟩
noncomputable abbrev q119:TF:=⟨6,(.cons z38 (.one (.agg (.cons sI (.cons sI (.cons sI z5)))))),(.tup (.cons (.agg (.cons z8 (.cons z22 (.cons z0 (.cons z16 z2))))) (.one sI))),C9⟩
noncomputable abbrev q120:TF:=⟨16,z39,(.tup z39),cY0⟩
noncomputable abbrev q121:TF:=⟨17,(.cons z0 z2),.bool,M1⟩
noncomputable abbrev q122:TF:=⟨5,.nil,.bool,C3⟩
noncomputable abbrev q123:TF:=⟨7,z2,.bool,H2⟩
noncomputable abbrev q124:TF:=⟨8,(.cons z0 (.one sI)),.bool,J6⟩
noncomputable abbrev q125:TF:=⟨119,(.cons z3 z6),.bool,L9⟩
noncomputable abbrev q126:TF:=⟨70,(.cons (.agg z20) (.one (.agg z20))),.bool,O2⟩
noncomputable abbrev q127:TF:=⟨24,(.cons z33 z34),.bool,H9⟩
noncomputable abbrev q128:TF:=⟨71,(.cons z0 z2),.bool,D9⟩
noncomputable abbrev q129:TF:=⟨25,(.cons (.agg z15) (.one (.agg z15))),.bool,C1⟩
noncomputable abbrev q130:TF:=⟨9,(.cons z38 (.one z38)),.bool,I1⟩
noncomputable abbrev q131:TF:=⟨11,z39,sI,Z3⟩
noncomputable abbrev q132:TF:=⟨3,(.cons z38 (.one (.agg (.cons sI (.cons sI (.cons sI z5)))))),.bool,A7⟩
noncomputable def tfs:List TF:=[q0,q1,q2,q3,q4,q5,q6,q7,q8,q9,q10,q11,q12,q13,q14,q15,q16,q17,q18,q19,q20,q21,q22,q23,q24,q25,q26,q27,q28,q29,q30,q31,q32,q33,q34,q35,q36,q37,q38,q39,q40,q41,q42,q43,q44,q45,q46,q47,q48,q49,q50,q51,q52,q53,q54,q55,q56,q57,q58,q59,q60,q61,q62,q63,q64,q65,q66,q67,q68,q69,q70,q71,q72,q73,q74,q75,q76,q77,q78,q79,q80,q81,q82,q83,q84,q85,q86,q87,q88,q89,q90,q91,q92,q93,q94,q95,q96,q97,q98,q99,q100,q101,q102,q103,q104,q105,q106,xy0,q108,q109,q110,q111,q112,q113,q114,q115,q116,q117,q118,q119,q120,q121,q122,q123,q124,q125,q126,q127,q128,q129,q130,q131,q132]
noncomputable def Φ:G6:=eR0 dW tfs
noncomputable def tre(Ψ:List TF)(S:List (Nat×SpL))(q:TF)(H:List (Nat×Hint))(p:List AV)(fr:Nat):q.dom.T->Option q.cod.T:=uF0 T Ψ (shL S) q.dom q.cod p (hO0 T Φ F H 100000 q.f p fr)
theorem pd0:wD0 tfs=true:=by kernel_rfl
def a0_0:List AV:=up [] 66 [(0,y 0),(2,.mp 0 0 0),(3,.mp 21 0 0),(4,y 11),(5,y 0),(6,y 1),(7,bF),(9,y 0),(10,.rp [y 3,y 4]),(11,.rp [y 3,y 4]),(12,y 3),(13,y 0),(14,.rp [y 5,y 6]),(15,.rp [y 6]),(16,y 6),(17,y 0),(18,.rp [y 7,y 8]),(19,.rp [y 7,y 8]),(20,y 7),(21,y 0),(22,.rp [y 9,y 10]),(23,.rp [y 10]),(24,y 10),(25,.agg [y 3,y 6,y 7,y 10])]
def r0_0:List (Nat×j5):=ur [] [0,21] [(0,.row 81 4 [[iV 0,iV 0,iV 0,iV 0]]),(21,.row 81 4 [[y 12,y 13,y 14,y 15]])]
noncomputable def e0:=tre [] [(11,(.cons sI (.cons sI z5)))] q0 [(2953117776,⟨5,a0_0,r0_0,42⟩)] [y 0] 1
theorem d0:e0=F2:=by kernel_rfl
def a1_0:List AV:=up [] 101 [(0,.agg [y 0,y 1,y 2]),(1,.mp 0 0 0),(2,bF),(3,.ss 20 2 9),(4,y 10),(7,.mp 0 0 0),(8,y 0),(9,y 3),(10,bF),(11,bF),(12,.mp 0 0 1),(13,y 1),(14,y 5),(15,bF),(16,bF),(17,bF),(18,.mp 0 0 2),(19,y 2),(20,y 7),(21,bF),(22,bF)]
def r1_0:List (Nat×j5):=ur [] [0,20] [(0,.row 26 3 [[y 0,y 1,y 2]]),(20,.xrow 57 2 9)]
def a1_1:List AV:=up a1_0 101 [(3,.ss 20 2 14),(5,y 15),(23,y 10),(24,.mp 0 0 0),(25,y 0),(26,y 12),(27,bF)]
def r1_1:List (Nat×j5):=ur r1_0 [0,20] [(20,.xrow 57 2 14)]
noncomputable def e1:=tre [q0] [(9,(.cons z3 (.one sI))),(14,(.cons z3 (.one sI)))] q1 [(2416247429,⟨2,a1_0,r1_0,21⟩),(3758687000,⟨2,a1_1,r1_1,27⟩)] [.agg [y 0,y 1,y 2]] 3
theorem d1:e1=G9:=by kernel_rfl
def a2_0:List AV:=up [] 39 [(0,.agg [y 0,y 1,y 2,y 3]),(1,.mp 0 0 0),(2,bF),(3,y 8),(4,.mp 0 0 0),(5,.agg [y 0,y 1,y 2]),(6,y 4),(7,bF),(8,bF),(9,.mp 0 0 3),(10,y 3),(11,y 6),(12,bF),(13,bF)]
def r2_0:List (Nat×j5):=ur [] [0] [(0,.row 29 4 [[y 0,y 1,y 2,y 3]])]
noncomputable def e2:=tre [q1] [(8,(.one sI))] q2 [(2147746055,⟨1,a2_0,r2_0,13⟩)] [.agg [y 0,y 1,y 2,y 3]] 4
theorem d2:e2=G7:=by kernel_rfl
noncomputable def e3:=tre [] [] q3 [] [y 0,y 1] 2
theorem d3:e3=J7:=by kernel_rfl
noncomputable def e4:=tre [q3] [] q4 [] [] 0
theorem d4:e4=T2:=by kernel_rfl
def a5_0:List AV:=up [] 36 [(0,.agg [y 0,y 1,y 2]),(1,.mp 0 0 0),(2,.ss 7 1 4),(3,.sc (.slice none 0 0)),(8,.mp 0 0 0),(9,y 0),(10,y 3),(11,y 5)]
def r5_0:List (Nat×j5):=ur [] [0,7] [(0,.row 26 3 [[y 0,y 1,y 2]]),(7,.xrow 3 1 4)]
def a5_1:List AV:=up a5_0 36 [(3,.ss 13 1 9),(12,bF),(21,.mp 0 0 1),(22,y 1),(23,y 8),(24,y 10)]
def r5_1:List (Nat×j5):=ur r5_0 [0,7,13] [(13,.xrow 3 1 9)]
noncomputable def e5:=tre [] [(4,(.cons z0 (.one sI))),(9,(.cons z0 (.one sI)))] q5 [(1073872980,⟨2,a5_0,r5_0,8⟩),(2416378096,⟨2,a5_1,r5_1,14⟩)] [.agg [y 0,y 1,y 2]] 3
theorem d5:e5=M8:=by kernel_rfl
def a6_0:List AV:=up [] 20 [(0,y 0),(2,bF),(3,y 1)]
noncomputable def e6:=tre [] [(1,(.one sI))] q6 [(268566575,⟨1,a6_0,[],2⟩)] [y 0] 1
theorem d6:e6=J8:=by kernel_rfl
noncomputable def e7:=tre [] [] q7 [] [y 0] 1
theorem d7:e7=O9:=by kernel_rfl
def a8_0:List AV:=up [] 19 [(0,y 0),(1,.fn (.func 120) [] []),(4,iV 0),(6,y 0),(7,y 1),(8,y 2)]
noncomputable def e8:=tre [q7] [(2,(.one sI))] q8 [(537002324,⟨1,a8_0,[],10⟩)] [y 0,.fn (.func 120) [] []] 1
theorem d8:e8=w7:=by kernel_rfl
noncomputable def e9:=tre [q8] [] q9 [] [y 0] 1
theorem d9:e9=M3:=by kernel_rfl
noncomputable def e10:=tre [] [] q10 [] [.agg [y 0,y 1]] 2
theorem d10:e10=M0:=by kernel_rfl
def a11_0:List AV:=up [] 19 [(0,y 0),(1,.fn (.func 121) [] []),(4,iV 0),(6,y 0),(7,y 1),(8,y 2)]
noncomputable def e11:=tre [q10] [(2,(.one sI))] q11 [(537002326,⟨1,a11_0,[],10⟩)] [y 0,.fn (.func 121) [] []] 1
theorem d11:e11=u5:=by kernel_rfl
def a12_0:List AV:=up [] 32 [(0,.agg [y 0,y 1,y 2]),(1,.mp 0 0 0),(2,bF),(3,.fn (.func 121) [] []),(8,.mp 0 0 0),(9,y 0),(10,y 3),(11,y 4)]
def r12_0:List (Nat×j5):=ur [] [0] [(0,.row 26 3 [[y 0,y 1,y 2]])]
def a12_1:List AV:=up a12_0 32 [(12,bF),(20,.mp 0 0 1),(21,y 1),(22,y 7),(23,y 8)]
def r12_1:List (Nat×j5):=ur r12_0 [0] []
noncomputable def e12:=tre [q10,q11] [(4,(.one sI)),(8,(.one sI))] q12 [(1073939019,⟨1,a12_0,r12_0,7⟩),(2148074208,⟨1,a12_1,r12_1,12⟩)] [.agg [y 0,y 1,y 2]] 3
theorem d12:e12=aH0:=by kernel_rfl
def a13_0:List AV:=up [] 19 [(0,y 0),(1,y 1),(4,iV 0),(6,y 0),(7,y 2),(8,y 3)]
noncomputable def e13:=tre [] [(3,(.one sI))] q13 [(805437538,⟨1,a13_0,[],4⟩)] [y 0,y 1] 2
theorem d13:e13=E3:=by kernel_rfl
noncomputable def e14:=tre [q13] [] q14 [] [y 0,y 1] 2
theorem d14:e14=l8:=by kernel_rfl
def a15_0:List AV:=up [] 85 [(0,.agg [y 0,y 1,y 2]),(1,y 3),(2,.mp 0 0 0),(4,iV 0),(15,.mp 0 0 0),(16,y 0),(17,y 4),(18,y 5)]
def r15_0:List (Nat×j5):=ur [] [0] [(0,.row 26 3 [[y 0,y 1,y 2]])]
def a15_1:List AV:=up a15_0 85 [(5,y 5),(6,.mp 10 0 0),(19,bT),(20,y 5),(21,.rp [y 8,y 9,y 10]),(22,.agg [y 8,y 9,y 10]),(23,.mp 0 0 0),(24,y 0),(25,y 5),(26,y 11),(27,y 12),(28,y 13)]
def r15_1:List (Nat×j5):=ur r15_0 [0,10] [(10,.row 59 3 [[y 8,y 9,y 10]])]
def a15_2:List AV:=up a15_1 85 [(5,A),(6,A),(19,bF),(20,A),(21,A),(22,A),(23,A),(24,A),(25,A),(26,A),(27,A),(28,A),(39,.mp 0 0 1),(40,y 1),(41,y 8),(42,y 9)]
def r15_2:List (Nat×j5):=ur r15_1 [0] []
def a15_3:List AV:=up a15_2 85 [(43,bF),(59,.mp 0 0 1),(60,y 1),(61,y 12),(62,y 13)]
def r15_3:List (Nat×j5):=ur r15_2 [0] []
noncomputable def e15:=tre [q14] [(5,(.one sI)),(13,(.one sI)),(9,(.one sI))] q15 [(1342308520,⟨1,a15_0,r15_0,6⟩),(3489988906,⟨1,a15_1,r15_1,19⟩),(2416705972,⟨1,a15_2,r15_2,11⟩),(3490841372,⟨1,a15_3,r15_3,16⟩)] [.agg [y 0,y 1,y 2],y 3] 4
theorem d15:e15=S8:=by kernel_rfl
def a17_0:List AV:=up [] 26 [(0,.agg [y 0,y 1,y 2]),(1,y 3),(2,.mp 0 0 0),(4,.mp 1 0 0),(5,bF),(8,.mp 0 0 1),(9,y 1),(10,y 4),(11,y 5)]
def r17_0:List (Nat×j5):=ur [] [0,1] [(0,.row 26 3 [[y 0,y 1,y 2]]),(1,.row 77 6 [[iV 0,iV 0,iV 0,.sc (.slice none 0 0),iV 0,iV 0]])]
noncomputable def e17:=tre [q16] [(5,(.one sI))] q17 [(1342308466,⟨1,a17_0,r17_0,7⟩)] [.agg [y 0,y 1,y 2],y 3] 4
theorem d17:e17=bd0:=by kernel_rfl
def a18_0:List AV:=up [] 22 [(0,.agg [y 0,y 1,y 2]),(1,y 3),(2,.mp 0 0 0),(4,.mp 1 0 0),(5,bF),(8,.mp 0 0 0),(9,y 0),(10,y 4),(11,y 5)]
def r18_0:List (Nat×j5):=ur [] [0,1] [(0,.row 26 3 [[y 0,y 1,y 2]]),(1,.row 59 3 [[iV 0,iV 0,iV 0]])]
noncomputable def e18:=tre [] [(5,(.one sI))] q18 [(1342308466,⟨1,a18_0,r18_0,7⟩)] [.agg [y 0,y 1,y 2],y 3] 4
theorem d18:e18=S5:=by kernel_rfl
noncomputable def e19:=tre [q17,q18] [] q19 [] [.agg [y 0,y 1,y 2],y 3] 4
theorem d19:e19=M7:=by kernel_rfl
noncomputable def e20:=tre [] [] q20 [] [.agg [y 0,y 1]] 2
theorem d20:e20=u6:=by kernel_rfl
noncomputable def e21:=tre [q20] [] q21 [] [.agg [y 0,y 1]] 2
theorem d21:e21=A8:=by kernel_rfl
noncomputable def e22:=tre [] [] q22 [] [y 0] 1
theorem d22:e22=y4:=by kernel_rfl
noncomputable def e23:=tre [q22] [] q23 [] [y 0,y 1] 2
theorem d23:e23=p8:=by kernel_rfl
noncomputable def e24:=tre [q21,q23] [] q24 [] [.agg [y 0,y 1],.agg [y 2,y 3]] 4
theorem d24:e24=U8:=by kernel_rfl
noncomputable def e26:=tre [q20] [] q26 [] [.agg [y 0,y 1]] 2
theorem d26:e26=H7:=by kernel_rfl
def a27_0:List AV:=up [] 30 [(0,y 0),(2,bF),(5,y 0),(6,y 1),(7,y 2)]
noncomputable def e27:=tre [] [(2,(.one sI))] q27 [(537002055,⟨1,a27_0,[],4⟩)] [y 0] 1
theorem d27:e27=S7:=by kernel_rfl
noncomputable def e28:=tre [] [] q28 [] [.agg [y 0,y 1],.agg [y 2,y 3],.agg [y 4,y 5]] 6
theorem d28:e28=U2:=by kernel_rfl
noncomputable def e29:=tre [q27,q28] [] q29 [] [.agg [y 0,y 1],.agg [y 2,y 3],.agg [y 4,y 5]] 6
theorem d29:e29=A3:=by kernel_rfl
noncomputable def e30:=tre [] [] q30 [] [.agg [y 0,y 1]] 2
theorem d30:e30=y8:=by kernel_rfl
noncomputable def e31:=tre [] [] q31 [] [.agg [y 0,y 1]] 2
theorem d31:e31=w5:=by kernel_rfl
noncomputable def e32:=tre [q27,q28] [] q32 [] [.agg [y 0,y 1],.agg [y 2,y 3],.agg [y 4,y 5]] 6
theorem d32:e32=bL0:=by kernel_rfl
noncomputable def e33:=tre [q32] [] q33 [] [.agg [y 0,y 1],.agg [y 2,y 3],.agg [y 4,y 5]] 6
theorem d33:e33=B1:=by kernel_rfl
noncomputable def e34:=tre [] [] q34 [] [.agg [y 0,y 1],.agg [y 2,y 3]] 4
theorem d34:e34=o8:=by kernel_rfl
noncomputable def e35:=tre [q34] [] q35 [] [.agg [y 0,y 1],.agg [y 2,y 3],.agg [y 4,y 5],.agg [y 6,y 7]] 8
theorem d35:e35=Y7:=by kernel_rfl
noncomputable def e36:=tre [q27,q29,q33,q35] [] q36 [] [.agg [y 0,y 1],.agg [y 2,y 3],.agg [y 4,y 5],.agg [y 6,y 7]] 8
theorem d36:e36=bY0:=by kernel_rfl
noncomputable def e37:=tre [q20,q36,q30,q31,q29] [] q37 [] [.agg [y 0,y 1],.agg [y 2,y 3],y 4] 5
theorem d37:e37=K5:=by kernel_rfl
def a38_0:List AV:=up [] 67 [(0,.agg [y 0,y 1,y 2]),(1,.mp 9 0 0),(2,.ss 16 2 4),(3,bF),(10,.mp 9 0 1),(11,y 1),(12,y 3),(13,y 5)]
def r38_0:List (Nat×j5):=ur [] [0,9,16] [(0,.row 26 3 [[y 0,y 1,y 2]]),(9,.row 26 3 [[y 0,y 1,y 2]]),(16,.xrow 187 2 4)]
def a38_1:List AV:=up a38_0 67 [(2,.ss 16 2 22),(5,.mp 20 0 0),(6,y 14),(7,y 15),(8,.rp [y 8,y 9,y 10,y 11,y 12,y 13,y 14]),(14,bT),(15,.rp [y 8,y 9,y 10,y 11,y 12,y 13]),(16,.agg [y 8,y 9,y 10,y 11,y 12,y 13]),(17,.tup [y 14,y 15]),(18,.agg [y 0,y 1,y 2]),(19,.mp 20 0 0),(20,y 8),(21,.tup [y 14,y 15]),(22,y 14),(23,y 15),(24,y 15),(25,bF),(26,bF),(27,.mp 20 0 1),(28,y 9),(29,.mp 20 0 2),(30,y 10),(31,bT),(32,bT),(33,y 14),(34,y 18),(35,bF),(36,bF),(37,bF),(38,.agg [y 8,y 9,y 10,y 11,y 12,y 13]),(39,y 14),(40,.agg [y 8,y 9,y 10,y 11,y 12,y 13,y 14]),(41,.rp [y 8,y 9,y 10,y 11,y 12,y 13,y 14]),(42,y 14),(43,y 20),(44,y 21),(45,y 23)]
def r38_1:List (Nat×j5):=ur r38_0 [0,9,16,20] [(16,.xrow 187 2 22),(20,.row 77 6 [[y 8,y 9,y 10,y 11,y 12,y 13]])]
def a38_2:List AV:=up a38_1 67 [(2,.ss 16 2 20),(31,bF),(32,bF),(33,A),(34,A),(35,A),(43,y 18),(44,y 19),(45,y 21)]
def r38_2:List (Nat×j5):=ur r38_1 [0,9,16,20] [(16,.xrow 187 2 20)]
def a38_3:List AV:=up a38_2 117 [(1,.mp 0 0 0),(2,bF),(3,.ss 16 2 4),(4,bT),(5,.mm 23),(6,A),(7,A),(8,A),(10,A),(11,A),(12,A),(13,A),(14,A),(15,A),(16,.tup [.ss 16 2 4,bT]),(17,.agg [y 0,y 1,y 2]),(18,.tup [.ss 16 2 4,bT]),(19,.ss 16 2 4),(20,bT),(21,bT),(22,bF),(23,.mm 23),(24,.mp 0 0 0),(25,y 0),(26,y 8),(27,y 9),(28,A),(29,A),(30,A),(31,A),(32,A),(36,A),(37,A),(38,A),(39,A),(40,A),(41,A),(42,A),(43,A),(44,A),(45,A)]
def r38_3:List (Nat×j5):=ur r38_2 [0,16,23] [(16,.xrow 187 2 4),(23,.xmap (y 10))]
def a38_4:List AV:=up a38_3 117 [(3,y 13),(16,.tup [y 13,bT]),(18,.tup [y 13,bT]),(19,y 13),(28,bF),(37,y 13),(38,.tup []),(39,y 13),(40,y 14),(41,y 15)]
def r38_4:List (Nat×j5):=ur r38_3 [0,23] []
def a38_5:List AV:=up a38_4 117 [(8,y 15),(9,.mp 39 0 0),(42,bT),(43,y 15),(44,.rp [y 18,y 19]),(45,.agg [y 18,y 19]),(46,y 13),(47,y 15),(48,y 20),(49,y 21),(50,y 22),(51,y 23)]
def r38_5:List (Nat×j5):=ur r38_4 [0,23,39] [(39,.row 187 2 [[y 18,y 19]])]
def a38_6:List AV:=up a38_5 117 [(11,.mp 51 0 0),(52,bT),(53,.rp [y 26,y 27]),(54,.agg [y 26,y 27]),(55,.agg [y 26,y 27]),(56,y 28),(57,.agg [y 18,y 19]),(58,y 29),(59,bT),(66,.mp 0 0 0),(67,y 0),(68,y 31),(69,y 32)]
def r38_6:List (Nat×j5):=ur r38_5 [0,23,39,51] [(51,.row 187 2 [[y 26,y 27]])]
def a38_7:List AV:=up a38_6 117 [(11,A),(52,bF),(53,A),(54,A),(55,A),(56,A),(57,A),(58,A),(59,A),(68,y 26),(69,y 27)]
def r38_7:List (Nat×j5):=ur r38_6 [0,23,39] []
noncomputable def e38:=tre [q19,q25,q21,q26,q20,q29,q30,q31,q37] [(4,(.cons (.sl z30) (.one sI))),(22,(.cons (.sl z30) (.one sI))),(20,(.cons (.sl z30) (.one sI))),(9,(.cons sI (.one (.sl (.cons sI (.one z4)))))),(15,(.one sI)),(23,(.one sI)),(32,(.one sI)),(27,(.one sI))] q38 [(1073873014,⟨2,a38_0,r38_0,17⟩),(5906171258,⟨2,a38_1,r38_1,54⟩),(5369300296,⟨2,a38_2,r38_2,54⟩),(2416312790,⟨2,a38_3,r38_3,29⟩),(4027318985,⟨1,a38_4,r38_4,35⟩),(6174999440,⟨1,a38_5,r38_5,48⟩),(8591377761,⟨1,a38_6,r38_6,65⟩),(7249200407,⟨1,a38_7,r38_7,53⟩)] [.agg [y 0,y 1,y 2]] 3
theorem d38:e38=aD0:=by kernel_rfl
def a39_0:List AV:=up [] 82 [(0,.agg [y 0,y 1,y 2]),(1,.mp 0 0 0),(2,iV 0),(7,.mp 0 0 0),(8,y 0),(9,y 3),(10,bF),(11,bF),(12,.mp 0 0 1),(13,y 1),(14,y 5),(15,bF),(16,bF),(17,bF),(18,.mp 0 0 2),(19,y 2),(20,y 7),(21,bF),(22,bF),(23,.mp 0 0 1),(24,y 1),(25,y 9),(26,y 10)]
def r39_0:List (Nat×j5):=ur [] [0] [(0,.row 26 3 [[y 0,y 1,y 2]])]
noncomputable def e39:=tre [q5,q6,q9,q12,q15,q38] [(10,(.one sI))] q39 [(2684617509,⟨1,a39_0,r39_0,22⟩)] [.agg [y 0,y 1,y 2]] 3
theorem d39:e39=aA0:=by kernel_rfl
noncomputable def e40:=tre [] [] q40 [] [.agg [y 0,y 1],.agg [y 2,y 3]] 4
theorem d40:e40=U3:=by kernel_rfl
noncomputable def e41:=tre [q27,q40,q28] [] q41 [] [.agg [y 0,y 1],.agg [y 2,y 3],.agg [y 4,y 5]] 6
theorem d41:e41=ab0:=by kernel_rfl
noncomputable def e42:=tre [q41] [] q42 [] [y 0,y 1,.rp [y 2,y 3,y 4],.rp [y 5]] 6
theorem d42:e42=J4:=by kernel_rfl
def a44_0:List AV:=up [] 80 [(0,.agg [y 0,y 1,y 2]),(1,y 3),(2,.mp 0 0 0),(4,.mp 1 0 0),(5,.mp 8 0 0),(6,y 7),(7,.mp 14 0 0),(8,.fn (.func 184) [] [.mp 1 0 0,.mp 14 0 0]),(13,.tup [.agg [y 4,y 5,y 6],y 7]),(14,.agg [y 0,y 1,y 2]),(15,y 3),(16,.tup [.agg [y 4,y 5,y 6],y 7]),(17,.agg [y 4,y 5,y 6]),(18,y 7),(19,y 7),(20,bF),(21,.mm 13),(22,.fn (.func 184) [] [.mp 1 0 0,.mp 14 0 0]),(23,.mp 0 0 1),(24,y 1),(25,y 9),(26,y 10)]
def r44_0:List (Nat×j5):=ur [] [0,1,8,13,14,22] [(0,.row 26 3 [[y 0,y 1,y 2]]),(1,.row 24 1 [[.ss 22 1 11]]),(8,.row 59 3 [[y 4,y 5,y 6]]),(13,.xmap (y 12)),(14,.row 183 1 [[.mm 13]]),(22,.xrow 3 1 11)]
noncomputable def e44:=tre [q18,q19,q43] [(10,(.cons sI (.cons z0 (.one (.sl (.cons sI (.one z4)))))))] q44 [(2684819526,⟨3,a44_0,r44_0,23⟩)] [.agg [y 0,y 1,y 2],y 3] 4
theorem d44:e44=Y2:=by kernel_rfl
noncomputable def e45:=tre [q13] [] q45 [] [y 0,y 1] 2
theorem d45:e45=N3:=by kernel_rfl
def a47_0:List AV:=up [] 72 [(0,.agg [y 0,y 1,y 2]),(1,.mp 0 0 0),(2,.sc (.slice none 0 0)),(3,y 3),(4,.ss 16 1 6),(5,.mp 10 0 0),(15,.agg [y 0,y 1,y 2]),(16,y 3),(17,y 3),(18,bF),(20,.mm 9),(21,.mp 0 0 0),(22,y 0),(23,y 5),(24,y 7)]
def r47_0:List (Nat×j5):=ur [] [0,9,10,16] [(0,.row 26 3 [[y 0,y 1,y 2]]),(9,.xmap (y 8)),(10,.row 207 1 [[.mm 9]]),(16,.xrow 3 1 6)]
def a47_1:List AV:=up a47_0 72 [(4,.ss 16 1 16),(7,.mp 20 0 0),(8,y 14),(25,bT),(26,.rp [y 11,y 12,y 13]),(27,.agg [y 11,y 12,y 13]),(28,.agg [y 0,y 1,y 2]),(29,.mp 20 0 0),(30,y 11),(31,y 14),(32,y 14),(33,y 15),(34,y 17)]
def r47_1:List (Nat×j5):=ur r47_0 [0,9,10,16,20] [(9,.xmap (y 18)),(16,.xrow 3 1 16),(20,.row 59 3 [[y 11,y 12,y 13]])]
def a47_2:List AV:=up a47_1 72 [(2,.ss 28 1 14),(4,.ss 16 1 11),(7,A),(8,A),(11,.mp 21 0 0),(12,.fn (.func 151) [] [.mp 21 0 0,.mp 10 0 0]),(25,bF),(26,A),(27,A),(28,A),(29,A),(30,A),(31,A),(32,A),(33,A),(34,A),(50,.ss 16 1 11),(51,.tup []),(52,.mm 20),(53,.fn (.func 151) [] [.mp 21 0 0,.mp 10 0 0]),(54,.ss 16 1 11),(55,y 12),(56,y 13)]
def r47_2:List (Nat×j5):=ur r47_1 [0,9,10,16,20,21,28] [(9,.xmap (y 8)),(16,.xrow 3 1 11),(20,.xmap (y 15)),(21,.row 117 1 [[.mm 20]]),(28,.xrow 24 1 14)]
def a47_3:List AV:=up a47_2 19 [(0,y 21),(1,.mp 21 0 0),(2,.mp 10 0 0),(3,A),(4,.ss 45 1 22),(5,A),(11,A),(12,A),(15,A),(16,A),(17,A),(18,A)]
def r47_3:List (Nat×j5):=ur r47_2 [0,9,10,16,20,21,28,45] [(20,.xmap (y 23)),(45,.xrow 3 1 22)]
noncomputable def e47:=tre [q39,q44,q45,q46] [(6,(.cons z0 z9)),(16,(.cons z0 z9)),(13,(.cons sI (.cons (.sl z2) (.one (.sl (.cons sI (.one .bool))))))),(21,(.cons sI (.cons z0 (.one (.sl (.cons sI (.one .bool)))))))] q47 [(1611071758,⟨3,a47_0,r47_0,17⟩),(4295688610,⟨3,a47_1,r47_1,30⟩),(3491047992,⟨3,a47_2,r47_2,29⟩),(5637210112,⟨3,a47_3,r47_3,46⟩)] [.agg [y 0,y 1,y 2]] 3
theorem d47:e47=M4:=by kernel_rfl
def a48_0:List AV:=up [] 31 [(0,.agg [y 0,y 1,y 2]),(1,.mp 0 0 0),(3,.mm 2),(8,.mm 2),(9,.mp 0 0 1),(10,y 1),(11,y 3),(12,y 4)]
def r48_0:List (Nat×j5):=ur [] [0,2] [(0,.row 26 3 [[y 0,y 1,y 2]]),(2,.xmap (y 5))]
noncomputable def e48:=tre [q19] [(4,(.cons sI (.one (.sl z9))))] q48 [(1073938523,⟨2,a48_0,r48_0,8⟩)] [.agg [y 0,y 1,y 2]] 3
theorem d48:e48=K0:=by kernel_rfl
noncomputable def e49:=tre [q17] [] q49 [] [.agg [y 0,y 1,y 2],y 3] 4
theorem d49:e49=Y0:=by kernel_rfl
def a50_0:List AV:=up [] 84 [(0,.agg [y 0,y 1,y 2]),(1,y 3),(2,.mp 0 0 0),(4,y 7),(13,y 3),(14,y 4),(15,bF),(16,y 3),(17,y 6),(18,y 8)]
def r50_0:List (Nat×j5):=ur [] [0] [(0,.row 26 3 [[y 0,y 1,y 2]])]
def a50_1:List AV:=up a50_0 84 [(6,y 11),(7,.mp 18 0 0),(8,y 18),(9,y 22),(10,y 23),(11,y 27),(19,bT),(20,.rp [y 11]),(21,y 11),(22,.tup [.agg [y 12,y 13,y 14,y 15,y 16,y 17],y 18]),(23,.agg [y 0,y 1,y 2]),(24,y 11),(25,.tup [.agg [y 12,y 13,y 14,y 15,y 16,y 17],y 18]),(26,.agg [y 12,y 13,y 14,y 15,y 16,y 17]),(27,y 18),(28,y 18),(29,bF),(30,.tup [y 22,y 23]),(31,.agg [y 0,y 1,y 2]),(32,y 11),(33,y 11),(34,y 20),(35,y 21),(36,.tup [y 22,y 23]),(37,y 22),(38,y 23),(39,y 23),(40,bF),(41,y 22),(42,y 25),(43,y 26),(44,y 28)]
def r50_1:List (Nat×j5):=ur r50_0 [0,18] [(18,.row 77 6 [[y 12,y 13,y 14,y 15,y 16,y 17]])]
noncomputable def e50:=tre [q49,q19] [(7,z1),(27,z1)] q50 [(1879310584,⟨2,a50_0,r50_0,8⟩),(7248675710,⟨2,a50_1,r50_1,41⟩)] [.agg [y 0,y 1,y 2],y 3] 4
theorem d50:e50=N8:=by kernel_rfl
def a51_0:List AV:=up [] 40 [(0,y 0),(1,y 1),(2,.fn (.func 221) [] [.mp 0 0 0,.mp 2 0 0,.mp 3 0 0]),(10,y 1),(11,y 4),(12,y 5)]
def r51_0:List (Nat×j5):=ur [] [0,2,3] [(0,.row 57 2 [[y 2,y 3]]),(2,.row 4 1 [[y 6]]),(3,.row 4 1 [[y 7]])]
def a51_1:List AV:=up a51_0 40 [(7,y 10),(8,y 13),(9,y 14),(13,bT),(14,.rp [y 10]),(15,y 10),(16,y 0),(17,y 10),(18,y 10),(19,y 11),(20,y 12),(21,y 13)]
def r51_1:List (Nat×j5):=ur r51_0 [0,2,3] [(2,.row 4 1 [[y 16]]),(3,.row 4 1 [[y 15]])]
noncomputable def e51:=tre [q29,q33] [(5,(.cons sI (.cons .bool (.one .bool)))),(14,(.cons sI (.cons .bool (.one .bool))))] q51 [(1342243573,⟨3,a51_0,r51_0,13⟩),(3758424852,⟨3,a51_1,r51_1,25⟩)] [y 0,y 1,.agg [y 2,y 3]] 4
theorem d51:e51=y5:=by kernel_rfl
def a52_0:List AV:=up [] 28 [(0,.agg [y 0,y 1,y 2]),(1,y 3),(2,.mp 0 0 0),(4,y 6),(7,.mp 0 0 1),(8,y 1),(9,y 4),(10,y 5)]
def r52_0:List (Nat×j5):=ur [] [0] [(0,.row 26 3 [[y 0,y 1,y 2]])]
noncomputable def e52:=tre [] [(5,z1)] q52 [(1342308464,⟨2,a52_0,r52_0,6⟩)] [.agg [y 0,y 1,y 2],y 3] 4
theorem d52:e52=Y3:=by kernel_rfl
def a53_0:List AV:=up [] 110 [(0,.agg [y 0,y 1,y 2]),(1,y 3),(2,y 4),(3,.mp 1048576 0 0),(6,.sc (.slice none 0 0)),(7,.ss 1048579 4 9),(8,.ss 1048585 1 6),(19,.agg [iV 0,.sc (.slice none 0 0),.sc (.slice none 0 0),.sc (.slice none 0 0)]),(21,y 3),(22,y 5),(23,y 7)]
def r53_0:List (Nat×j5):=ur [] [1048576,1048579,1048585] [(1048576,.row 26 3 [[y 0,y 1,y 2]]),(1048579,.xrow 112 4 9),(1048585,.xrow 24 1 6)]
def a53_1:List AV:=up a53_0 110 [(7,.ss 1048579 4 15),(24,bF),(43,.ss 1048585 1 6),(44,y 13),(45,y 14)]
def r53_1:List (Nat×j5):=ur r53_0 [1048576,1048579,1048585] [(1048579,.frow 112 4 (y 15) [(2,24,1),(3,3,1)] (y 12) 1048576 none)]
def a53_2:List AV:=up a53_1 42 [(0,y 4),(1,.ss 1048579 4 15),(2,.agg [y 24,y 25]),(3,A),(5,.mp 1048612 0 0),(6,iV 0),(7,y 27),(8,y 26),(19,A),(21,A),(22,A),(23,A),(24,A)]
def r53_2:List (Nat×j5):=ur r53_1 [1048576,1048579,1048585,1048612] [(1048612,.row 57 2 [[y 24,y 25]])]
def a53_3:List AV:=up a53_2 110 [(0,.agg [y 0,y 1,y 2]),(1,y 3),(2,y 4),(3,.mp 1048576 0 0),(5,A),(6,.sc (.slice none 0 0)),(7,.ss 1048579 4 20),(8,.ss 1048585 1 6),(19,.agg [iV 0,.sc (.slice none 0 0),.sc (.slice none 0 0),.sc (.slice none 0 0)]),(21,y 3),(22,y 5),(23,y 7),(24,bF),(43,.ss 1048585 1 6),(44,y 13),(45,y 14),(46,bF),(78,.mp 1048576 0 0),(79,y 0),(80,y 18),(81,y 19)]
def r53_3:List (Nat×j5):=ur r53_2 [1048576,1048579,1048585] [(1048579,.frow 112 4 (y 20) [(2,24,1),(3,3,1)] (y 12) 1048576 none)]
def a53_4:List AV:=up a53_3 42 [(0,y 4),(1,.ss 1048579 4 20),(2,.agg [y 24,y 25]),(3,A),(5,.mp 1048611 0 0),(6,iV 0),(7,y 29),(8,y 28),(19,A),(21,A),(22,A),(23,A),(24,A)]
def r53_4:List (Nat×j5):=ur r53_3 [1048576,1048579,1048585,1048598,1048611] [(1048598,.row 59 3 [[y 23,y 24,y 25]]),(1048611,.row 57 2 [[y 24,y 25]])]
noncomputable def e53:=uF0 T [q50,q51,q52] (shL [(6,(.cons (.sl z2) (.cons sI (.cons .bool (.one (.sl (.cons sI (.cons z0 (.cons .nl (.one .nl)))))))))),(14,(.cons sI (.one (.sl z23)))),(26,z1),(19,(.cons sI (.one (.sl z23)))),(28,z1)]) q53.dom q53.cod [.agg [y 0,y 1,y 2],y 3,y 4] (gv0 T Φ F [(1610875048,⟨4,a53_0,r53_0,1048586⟩),(3758883263,⟨2,a53_1,r53_1,1048590⟩),(6979518641,⟨2,a53_2,r53_2,1048616⟩),(5101519782,⟨2,a53_3,r53_3,1048595⟩),(7516389553,⟨2,a53_4,r53_4,1048615⟩)] [(3,.nlz 7 [1]),(11,.own 7 [(2,24,1),(3,3,1)]),(16,.foc 15 110 2),(23,.foc 18 24 3)] 100000 101 [.agg [y 0,y 1,y 2],y 3,y 4] 5)
theorem d53:e53=D5:=by kernel_rfl
noncomputable def e54:=tre [q49] [] q54 [] [.agg [y 0,y 1,y 2],y 3] 4
theorem d54:e54=R8:=by kernel_rfl
noncomputable def e55:=tre [] [] q55 [] [.agg [y 0,y 1,y 2,y 3]] 4
theorem d55:e55=B2:=by kernel_rfl
def a56_0:List AV:=up [] 71 [(0,.agg [y 0,y 1,y 2]),(1,y 3),(2,.mp 0 0 0),(4,.ss 8 1 5),(5,bF),(6,.mm 3),(14,.mm 3),(15,y 3),(16,y 4),(17,y 6)]
def r56_0:List (Nat×j5):=ur [] [0,3,8] [(0,.row 26 3 [[y 0,y 1,y 2]]),(3,.xmap (y 7)),(8,.xrow 3 1 5)]
def a56_1:List AV:=up a56_0 71 [(7,y 6),(8,.mp 13 0 0),(9,y 16),(18,bT),(19,y 6),(20,.rp [y 10,y 11,y 12,y 13]),(21,.agg [y 10,y 11,y 12,y 13]),(22,y 6),(23,bT),(24,.agg [y 0,y 1,y 2]),(25,.mp 13 0 1),(26,y 11),(27,.rp [y 15]),(28,y 15),(29,y 16),(30,y 16),(31,bF),(32,bF),(33,.mm 3),(34,y 16),(35,bF),(36,bF),(37,.mm 3),(38,y 16),(39,.agg [y 10,y 11,y 12,y 13]),(40,y 20),(41,y 21),(42,y 22)]
def r56_1:List (Nat×j5):=ur r56_0 [0,3,8,13] [(3,.xmap (y 19)),(13,.row 112 4 [[y 10,y 11,y 12,y 13]])]
def a56_2:List AV:=up a56_1 71 [(11,y 25),(43,bT),(44,.rp [y 25]),(45,y 25),(46,y 25),(47,y 26),(48,y 27)]
def r56_2:List (Nat×j5):=ur r56_1 [0,3,8,13] []
def a56_3:List AV:=up a56_2 71 [(9,iV 0),(11,A),(23,bF),(24,A),(25,A),(26,A),(27,A),(28,A),(29,A),(30,A),(31,A),(32,A),(33,A),(34,A),(35,A),(36,A),(37,A),(38,A),(40,y 15),(41,y 16),(42,y 17),(43,A),(44,A),(45,A),(46,A),(47,A),(48,A)]
def r56_3:List (Nat×j5):=ur r56_2 [0,3,8,13] [(3,.xmap (y 7))]
def a56_4:List AV:=up a56_3 71 [(11,y 20),(43,bT),(44,.rp [y 20]),(45,y 20),(46,y 20),(47,y 21),(48,y 22)]
def r56_4:List (Nat×j5):=ur r56_3 [0,3,8,13] []
noncomputable def e56:=tre [q54,q55] [(5,(.cons z0 (.cons sI (.one (.sl (.cons sI (.one .bool))))))),(22,(.one sI)),(27,(.one sI)),(17,(.one sI))] q56 [(1342374044,⟨3,a56_0,r56_0,9⟩),(5906367614,⟨1,a56_1,r56_1,45⟩),(7248741676,⟨1,a56_2,r56_2,52⟩),(4564189762,⟨1,a56_3,r56_3,23⟩),(5906563824,⟨1,a56_4,r56_4,30⟩)] [.agg [y 0,y 1,y 2],y 3] 4
theorem d56:e56=P6:=by kernel_rfl
noncomputable def e57:=tre [q47,q48,q53,q56] [] q57 [] [.agg [y 0,y 1,y 2]] 3
theorem d57:e57=Z8:=by kernel_rfl
noncomputable def e58:=tre [] [] q58 [] [.agg [y 0,y 1,y 2,y 3,y 4]] 5
theorem d58:e58=aJ0:=by kernel_rfl
def a59_0:List AV:=up [] 19 [(0,y 0),(1,.fn (.func 35) [] []),(4,iV 0),(6,y 0),(7,y 1),(8,y 2)]
noncomputable def e59:=tre [q58] [(2,(.one sI))] q59 [(537002154,⟨1,a59_0,[],10⟩)] [y 0,.fn (.func 35) [] []] 1
theorem d59:e59=p9:=by kernel_rfl
noncomputable def e60:=tre [] [] q60 [] [.agg [y 0,y 1,y 2,y 3,y 4]] 5
theorem d60:e60=V1:=by kernel_rfl
def a61_0:List AV:=up [] 19 [(0,y 0),(1,.fn (.func 37) [] []),(4,iV 0),(6,y 0),(7,y 1),(8,y 2)]
noncomputable def e61:=tre [q60] [(2,(.one sI))] q61 [(537002158,⟨1,a61_0,[],10⟩)] [y 0,.fn (.func 37) [] []] 1
theorem d61:e61=j7:=by kernel_rfl
noncomputable def e62:=tre [] [] q62 [] [y 0] 1
theorem d62:e62=w6:=by kernel_rfl
noncomputable def e63:=tre [q62] [] q63 [] [.agg [y 0,y 1,y 2,y 3,y 4]] 5
theorem d63:e63=W4:=by kernel_rfl
def a64_0:List AV:=up [] 19 [(0,y 0),(1,.fn (.func 38) [] []),(4,iV 0),(6,y 0),(7,y 1),(8,y 2)]
noncomputable def e64:=tre [q63] [(2,(.one sI))] q64 [(537002160,⟨1,a64_0,[],10⟩)] [y 0,.fn (.func 38) [] []] 1
theorem d64:e64=l5:=by kernel_rfl
def a65_0:List AV:=up [] 31 [(0,y 0),(2,iV 0),(3,y 3),(6,y 0),(7,bF),(8,bF),(9,y 0),(10,bF),(11,bF),(12,y 0),(13,y 3),(14,.agg [y 4,y 5,y 6,y 7,y 8,y 9,y 10,y 11,y 12,y 13,y 14,y 15,y 16,y 17,y 18,y 19,y 20,y 21,y 22,y 23,y 24,y 25,y 26,y 27,y 28,y 29,y 30,y 31,y 32,y 33,y 34,y 35,y 36,y 37,y 38,y 39,y 40,y 41,y 42]),(15,y 43)]
noncomputable def e65:=tre [] [(43,(.one sI))] q65 [(11543052621,⟨1,a65_0,[],12⟩)] [y 0] 1
theorem d65:e65=U1:=by kernel_rfl
def a66_0:List AV:=up [] 21 [(0,y 0),(2,.ss 4 1 1),(3,iV 0),(6,y 0),(7,.it 3)]
def r66_0:List (Nat×j5):=ur [] [3,4] [(3,.xiter (y 0) (y 2)),(4,.xrow 3 1 1)]
noncomputable def e66:=tre [q65] [(1,(.cons z0 (.one sI)))] q66 [(268566556,⟨2,a66_0,r66_0,5⟩)] [y 0] 1
theorem d66:e66=Z7:=by kernel_rfl
def a68_0:List AV:=up [] 45 [(0,y 0),(2,y 4),(3,y 5),(6,y 0),(7,bF),(8,y 0),(9,y 2),(10,bF),(11,.tup [y 4,y 5]),(12,y 0),(13,.tup [y 4,y 5]),(14,y 4),(15,y 5),(16,y 5),(17,bF),(19,y 0),(20,y 7),(21,bF),(22,bF),(23,y 0),(24,y 0),(25,y 9),(26,y 10),(27,y 11),(28,bF),(29,bF),(30,bF),(31,y 0),(32,bF),(33,bF),(34,y 4),(35,y 14),(36,y 15)]
noncomputable def e68:=tre [q66,q67,q65] [(15,(.one sI))] q68 [(4027254190,⟨1,a68_0,[],34⟩)] [y 0] 1
theorem d68:e68=cL0:=by kernel_rfl
noncomputable def e69:=tre [q68] [] q69 [] [y 0] 1
theorem d69:e69=X9:=by kernel_rfl
noncomputable def e70:=tre [q69] [] q70 [] [.agg [y 0,y 1,y 2,y 3,y 4]] 5
theorem d70:e70=U9:=by kernel_rfl
def a71_0:List AV:=up [] 19 [(0,y 0),(1,.fn (.func 39) [] []),(4,iV 0),(6,y 0),(7,y 1),(8,y 2)]
noncomputable def e71:=tre [q70] [(2,(.one sI))] q71 [(537002162,⟨1,a71_0,[],10⟩)] [y 0,.fn (.func 39) [] []] 1
theorem d71:e71=j6:=by kernel_rfl
noncomputable def e72:=tre [q62] [] q72 [] [.agg [y 0,y 1,y 2,y 3,y 4]] 5
theorem d72:e72=W6:=by kernel_rfl
def a73_0:List AV:=up [] 19 [(0,y 0),(1,.fn (.func 41) [] []),(4,iV 0),(6,y 0),(7,y 1),(8,y 2)]
noncomputable def e73:=tre [q72] [(2,(.one sI))] q73 [(537002166,⟨1,a73_0,[],10⟩)] [y 0,.fn (.func 41) [] []] 1
theorem d73:e73=j8:=by kernel_rfl
noncomputable def e74:=tre [q14] [] q74 [] [y 0,y 1] 2
theorem d74:e74=eV0:=by kernel_rfl
noncomputable def e75:=tre [q62,q18,q17,q74] [] q75 [] [y 0,.rp [y 1,y 2,y 3,y 4,y 5],.rp [y 6,y 7,y 8]] 9
theorem d75:e75=K8:=by kernel_rfl
def a76_0:List AV:=up [] 19 [(0,y 0),(1,.fn (.func 92) [] [.rp [y 1,y 2,y 3,y 4,y 5],.rp [y 6,y 7,y 8]]),(4,iV 0),(6,y 0),(7,y 9),(8,y 10)]
noncomputable def e76:=tre [q75] [(10,(.one sI))] q76 [(2684485916,⟨1,a76_0,[],10⟩)] [y 0,.fn (.func 92) [] [.rp [y 1,y 2,y 3,y 4,y 5],.rp [y 6,y 7,y 8]]] 9
theorem d76:e76=y6:=by kernel_rfl
noncomputable def e77:=tre [q76] [] q77 [] [.agg [y 0,y 1,y 2],.agg [y 3,y 4,y 5,y 6,y 7]] 8
theorem d77:e77=O8:=by kernel_rfl
noncomputable def e78:=tre [q77] [] q78 [] [.agg [y 0,y 1,y 2,y 3,y 4],.rp [y 5,y 6,y 7,y 8]] 9
theorem d78:e78=W0:=by kernel_rfl
def a79_0:List AV:=up [] 19 [(0,y 0),(1,.fn (.func 42) [] [.rp [y 1,y 2,y 3,y 4]]),(4,iV 0),(6,y 0),(7,y 5),(8,y 6)]
noncomputable def e79:=tre [q78] [(6,(.one sI))] q79 [(1610743992,⟨1,a79_0,[],10⟩)] [y 0,.fn (.func 42) [] [.rp [y 1,y 2,y 3,y 4]]] 5
theorem d79:e79=j9:=by kernel_rfl
def a80_0:List AV:=up [] 20 [(0,y 0),(2,bF),(3,y 1)]
noncomputable def e80:=tre [] [(1,(.one sI))] q80 [(268566575,⟨1,a80_0,[],2⟩)] [y 0] 1
theorem d80:e80=Y5:=by kernel_rfl
def a81_0:List AV:=up [] 19 [(0,y 3),(1,.fn (.func 88) [] [.mp 28 0 0,.mp 26 0 0]),(4,iV 0),(6,y 3),(7,y 9),(8,y 10)]
def r81_0:List (Nat×j5):=ur [] [0,24,26,28,33,34,44,56] [(0,.row 29 4 [[y 0,y 1,y 2,y 3]]),(24,.row 88 2 [[.fn (.func 35) [] [],iV 3],[.fn (.func 88) [] [.mp 28 0 0,.mp 26 0 0],iV 10],[.fn (.func 37) [] [],iV 2],[.fn (.func 38) [] [],iV 9],[.fn (.func 39) [] [],iV 14],[.fn (.func 41) [] [],iV 1],[.fn (.func 42) [] [.mp 0 0 0],iV 7],[.fn (.func 94) [] [.mp 34 0 0],iV 13]]),(26,.row 29 4 [[y 0,y 1,y 2,y 3]]),(28,.row 3 1 [[y 11]]),(33,.map false [] 0),(34,.row 147 1 [[.mm 33]]),(44,.row 88 2 [[.fn (.func 35) [] [],iV 3]]),(56,.row 88 2 [[.fn (.func 88) [] [.mp 28 0 0,.mp 26 0 0],iV 10]])]
def a81_1:List AV:=up a81_0 19 [(1,.fn (.func 94) [] [.mp 34 0 0]),(7,y 34),(8,y 35)]
def r81_1:List (Nat×j5):=ur r81_0 [0,24,26,28,33,34,44,56,82,132,144,156,168,180,192] [(28,.row 3 1 [[y 19]]),(33,.xmap (y 36)),(82,.row 41 5 [[y 14,y 15,y 16,y 17,y 18]]),(132,.row 88 2 [[.fn (.func 37) [] [],iV 2]]),(144,.row 88 2 [[.fn (.func 38) [] [],iV 9]]),(156,.row 88 2 [[.fn (.func 39) [] [],iV 14]]),(168,.row 88 2 [[.fn (.func 41) [] [],iV 1]]),(180,.row 88 2 [[.fn (.func 42) [] [.mp 0 0 0],iV 7]]),(192,.row 88 2 [[.fn (.func 94) [] [.mp 34 0 0],iV 13]])]
def a81_2:List AV:=up a81_1 33 [(0,.agg [y 39,y 40,y 41,y 42,y 43]),(1,.mp 34 0 0),(2,.mp 218 0 0),(3,bF),(4,y 40),(6,A),(7,A),(8,.mp 218 0 1),(9,y 40),(10,y 44),(11,bF),(12,bF),(13,bT),(14,bT),(15,.mp 218 0 1),(16,y 40),(17,.mp 218 0 4),(18,y 43),(19,y 47),(20,y 48)]
def r81_2:List (Nat×j5):=ur r81_1 [0,24,26,28,33,34,44,56,82,132,144,156,168,180,192,218] [(33,.xmap (y 49)),(218,.row 41 5 [[y 39,y 40,y 41,y 42,y 43]])]
def a81_3:List AV:=up a81_2 33 [(4,iV 0),(13,bF),(14,bF),(15,A),(16,A)]
def r81_3:List (Nat×j5):=ur r81_2 [0,24,26,28,33,34,44,56,82,132,144,156,168,180,192,218] []
def a81_4:List AV:=up a81_3 19 [(0,y 3),(1,.fn (.func 94) [] [.mp 34 0 0]),(2,A),(3,A),(6,y 3),(7,y 36),(8,y 37),(9,A),(10,A),(11,A),(12,A),(13,A),(14,A),(17,A),(18,A)]
def r81_4:List (Nat×j5):=ur r81_3 [0,24,26,28,33,34,44,56,82,132,144,156,168,180,192] [(33,.xmap (y 38))]
def a81_5:List AV:=up a81_4 33 [(0,.agg [y 41,y 42,y 43,y 44,y 45]),(1,.mp 34 0 0),(2,.mp 218 0 0),(3,bF),(4,y 42),(6,A),(7,A),(8,.mp 218 0 1),(9,y 42),(10,y 46),(11,bF),(12,bF),(13,bT),(14,bT),(15,.mp 218 0 1),(16,y 42),(17,.mp 218 0 4),(18,y 45),(19,y 49),(20,y 50)]
def r81_5:List (Nat×j5):=ur r81_4 [0,24,26,28,33,34,44,56,82,132,144,156,168,180,192,218] [(33,.xmap (y 51)),(218,.row 41 5 [[y 41,y 42,y 43,y 44,y 45]])]
def a81_6:List AV:=up a81_5 33 [(4,iV 0),(13,bF),(14,bF),(15,A),(16,A)]
def r81_6:List (Nat×j5):=ur r81_5 [0,24,26,28,33,34,44,56,82,132,144,156,168,180,192,218] []
def a81_7:List AV:=up a81_6 19 [(0,y 3),(1,.fn (.func 94) [] [.mp 34 0 0]),(2,A),(3,A),(6,y 3),(7,y 29),(8,y 30),(9,A),(10,A),(11,A),(12,A),(13,A),(14,A),(17,A),(18,A)]
def r81_7:List (Nat×j5):=ur r81_6 [0,24,26,28,33,34,44,56,82,132,144,156,168,180,192] [(33,.xmap (y 31))]
def a81_8:List AV:=up a81_7 33 [(0,.agg [y 34,y 35,y 36,y 37,y 38]),(1,.mp 34 0 0),(2,.mp 218 0 0),(3,bF),(4,y 35),(6,A),(7,A),(8,.mp 218 0 1),(9,y 35),(10,y 39),(11,bF),(12,bF),(13,bT),(14,bT),(15,.mp 218 0 1),(16,y 35),(17,.mp 218 0 4),(18,y 38),(19,y 42),(20,y 43)]
def r81_8:List (Nat×j5):=ur r81_7 [0,24,26,28,33,34,44,56,82,132,144,156,168,180,192,218] [(33,.xmap (y 44)),(218,.row 41 5 [[y 34,y 35,y 36,y 37,y 38]])]
def a81_9:List AV:=up a81_8 33 [(4,iV 0),(13,bF),(14,bF),(15,A),(16,A)]
def r81_9:List (Nat×j5):=ur r81_8 [0,24,26,28,33,34,44,56,82,132,144,156,168,180,192,218] []
def uX0:List AV:=up a81_9 19 [(0,y 3),(1,.fn (.func 94) [] [.mp 34 0 0]),(2,A),(3,A),(6,y 3),(7,y 19),(8,y 20),(9,A),(10,A),(11,A),(12,A),(13,A),(14,A),(17,A),(18,A)]
def uG0:List (Nat×j5):=ur r81_9 [0,24,26,28,33,34,44,56,80,92,104,116,128,140] [(28,.row 3 1 [[y 11]]),(33,.xmap (y 21)),(80,.row 88 2 [[.fn (.func 37) [] [],iV 2]]),(92,.row 88 2 [[.fn (.func 38) [] [],iV 9]]),(104,.row 88 2 [[.fn (.func 39) [] [],iV 14]]),(116,.row 88 2 [[.fn (.func 41) [] [],iV 1]]),(128,.row 88 2 [[.fn (.func 42) [] [.mp 0 0 0],iV 7]]),(140,.row 88 2 [[.fn (.func 94) [] [.mp 34 0 0],iV 13]])]
def wb0:List AV:=up uX0 33 [(0,.agg [y 24,y 25,y 26,y 27,y 28]),(1,.mp 34 0 0),(2,.mp 166 0 0),(3,bF),(4,y 25),(6,A),(7,A),(8,.mp 166 0 1),(9,y 25),(10,y 29),(11,bF),(12,bF),(13,bT),(14,bT),(15,.mp 166 0 1),(16,y 25),(17,.mp 166 0 4),(18,y 28),(19,y 32),(20,y 33)]
def uM0:List (Nat×j5):=ur uG0 [0,24,26,28,33,34,44,56,80,92,104,116,128,140,166] [(33,.xmap (y 34)),(166,.row 41 5 [[y 24,y 25,y 26,y 27,y 28]])]
def a81_12:List AV:=up wb0 33 [(4,iV 0),(13,bF),(14,bF),(15,A),(16,A)]
def r81_12:List (Nat×j5):=ur uM0 [0,24,26,28,33,34,44,56,80,92,104,116,128,140,166] []
noncomputable def e81:=tre [q57,q59,q61,q64,q71,q73,q79,q62,q80] [(10,z1),(35,(.cons sI (.one (.sl (.cons z4 (.one .bool)))))),(48,(.cons sI (.one (.sl (.cons z4 (.one .bool)))))),(37,(.cons sI (.one (.sl (.cons z4 (.one .bool)))))),(50,(.cons sI (.one (.sl (.cons z4 (.one .bool)))))),(30,(.cons sI (.one (.sl (.cons z4 (.one .bool)))))),(43,(.cons sI (.one (.sl (.cons z4 (.one .bool)))))),(20,(.cons sI (.one (.sl (.cons z4 (.one .bool)))))),(33,(.cons sI (.one (.sl (.cons z4 (.one .bool))))))] q81 [(2684485908,⟨2,a81_0,r81_0,73⟩),(9395372320,⟨2,a81_1,r81_1,209⟩),(12885426555,⟨2,a81_2,r81_2,235⟩),(12885426648,⟨2,a81_3,r81_3,232⟩),(9932243232,⟨2,a81_4,r81_4,209⟩),(13422297467,⟨2,a81_5,r81_5,235⟩),(13422297560,⟨2,a81_6,r81_6,232⟩),(8053195040,⟨2,a81_7,r81_7,209⟩),(11543249275,⟨2,a81_8,r81_8,235⟩),(11543249368,⟨2,a81_9,r81_9,232⟩),(5368840480,⟨2,uX0,uG0,157⟩),(8858894715,⟨2,wb0,uM0,183⟩),(8858894808,⟨2,a81_12,r81_12,180⟩)] [.agg [y 0,y 1,y 2,y 3]] 4
theorem d81:e81=J3:=by kernel_rfl
def a83_0:List AV:=up [] 26 [(0,.agg [y 0,y 1,y 2,y 3]),(1,y 4),(2,.mp 0 0 0),(4,.mp 1 0 0),(5,bF),(8,.mp 0 0 3),(9,y 3),(10,y 5),(11,y 6)]
def r83_0:List (Nat×j5):=ur [] [0,1] [(0,.row 29 4 [[y 0,y 1,y 2,y 3]]),(1,.row 41 5 [[iV 0,iV 0,iV 0,.sc (.string (cG #[])),.sc (.slice none 0 0)]])]
noncomputable def e83:=tre [q82] [(6,(.one sI))] q83 [(1610743922,⟨1,a83_0,r83_0,7⟩)] [.agg [y 0,y 1,y 2,y 3],y 4] 5
theorem d83:e83=P3:=by kernel_rfl
noncomputable def e84:=tre [] [] q84 [] [y 0] 1
theorem d84:e84=bits_Len64:=by kernel_rfl
noncomputable def e85:=tre [q84] [] q85 [] [y 0] 1
theorem d85:e85=bits_Len:=by kernel_rfl
noncomputable def e86:=tre [q23] [] q86 [] [.agg [y 0,y 1,y 2,y 3],.agg [y 4,y 5,y 6,y 7]] 8
theorem d86:e86=M9:=by kernel_rfl
def a88_0:List AV:=up [] 148 [(0,.sc (.slice none 0 0)),(1,iV 0),(2,iV 0),(3,y 7),(4,.fn (.func 137) [] []),(10,bT),(11,bT)]
def r88_0:List (Nat×j5):=ur [] [0,14] [(0,.row 26 3 [[y 0,y 1,y 2]]),(14,.row 26 3 [[y 0,y 1,y 2]])]
def a88_1:List AV:=up a88_0 44 [(0,.agg [y 0,y 1,y 2]),(1,.mp 0 0 0),(2,.ss 58 4 12),(3,iV 0),(4,y 7),(5,y 8),(6,y 6),(9,.tup [y 7,y 8,y 6,iV 0]),(10,.agg [y 0,y 1,y 2]),(11,.tup [y 7,y 8,y 6,iV 0]),(12,y 7),(13,y 8),(14,y 6),(15,iV 0),(16,iV 0),(17,bF),(19,y 7),(20,y 11),(21,y 13)]
def r88_1:List (Nat×j5):=ur r88_0 [0,58] [(58,.xrow 139 4 12)]
noncomputable def e88:=tre [q47,q85,q48,q53,q56,q87] [(8,.nil),(12,(.cons (.sl z23) (.one sI)))] q88 [(2147615514,⟨0,a88_0,r88_0,53⟩),(3221553655,⟨2,a88_1,r88_1,59⟩)] [.agg [y 0,y 1,y 2]] 3
theorem d88:e88=H5:=by kernel_rfl
def a89_0:List AV:=up [] 26 [(0,.agg [y 0,y 1,y 2]),(1,.mp 0 0 0),(3,y 3),(4,y 4),(5,.mm 9),(8,.tup [y 3,y 4]),(9,.agg [y 0,y 1,y 2]),(10,.tup [y 3,y 4]),(11,y 3),(12,y 4),(13,.mm 9),(14,y 3),(15,y 5),(16,y 6)]
def r89_0:List (Nat×j5):=ur [] [0,9] [(0,.row 26 3 [[y 0,y 1,y 2]]),(9,.xmap (y 7))]
noncomputable def e89:=tre [q88] [(6,(.cons sI (.one (.sl (.cons sI (.one (.agg z23)))))))] q89 [(1610874999,⟨2,a89_0,r89_0,14⟩)] [.agg [y 0,y 1,y 2]] 3
theorem d89:e89=G4:=by kernel_rfl
def a90_0:List AV:=up [] 40 [(0,.agg [y 0,y 1,y 2,y 3]),(1,y 4),(2,y 5),(3,.mp 0 0 0),(6,.ss 12 1 10),(9,y 4),(10,bF),(11,bF),(12,y 4),(13,bF),(14,bF),(15,.mp 0 0 3),(16,y 3),(17,y 8),(18,y 9)]
def r90_0:List (Nat×j5):=ur [] [0,12] [(0,.row 29 4 [[y 0,y 1,y 2,y 3]]),(12,.xrow 3 1 10)]
noncomputable def e90:=tre [q62,q14] [(9,(.cons sI z2))] q90 [(2416181641,⟨2,a90_0,r90_0,13⟩)] [.agg [y 0,y 1,y 2,y 3],y 4,y 5] 6
theorem d90:e90=M5:=by kernel_rfl
def a91_0:List AV:=up [] 26 [(0,y 0),(1,y 1),(4,bF),(6,y 0),(7,y 2),(8,y 1),(9,y 3),(10,bF),(11,y 0),(12,y 5),(13,y 6)]
noncomputable def e91:=tre [] [(6,(.one sI))] q91 [(1610875058,⟨1,a91_0,[],9⟩)] [y 0,y 1] 2
theorem d91:e91=N0:=by kernel_rfl
noncomputable def e92:=tre [q49] [] q92 [] [.agg [y 0,y 1,y 2],y 3] 4
theorem d92:e92=bP0:=by kernel_rfl
def a93_0:List AV:=up [] 36 [(0,y 0),(2,.sc (.slice none 0 0)),(3,y 2),(9,y 0),(10,y 1),(11,y 3)]
def a93_1:List AV:=up a93_0 36 [(6,.ss 31 1 11),(12,bF),(23,y 2),(25,y 0),(26,y 10),(27,y 12)]
def r93_1:List (Nat×j5):=ur [] [31] [(31,.xrow 3 1 11)]
def a93_2:List AV:=up a93_1 61 [(0,.ss 31 1 15),(3,y 18),(6,.ss 31 1 15),(7,y 16),(8,bF),(9,A),(10,A),(11,A),(12,A),(23,A),(25,A),(26,A),(27,A)]
def r93_2:List (Nat×j5):=ur r93_1 [31] [(31,.xrow 3 1 15)]
def a93_3:List AV:=up a93_2 61 [(0,.ss 31 1 29),(3,y 30),(4,.xs 31 1 (y 26) (y 27)),(5,y 28),(6,.ss 31 1 29),(10,y 18),(11,.ss 31 1 29),(12,y 20),(13,bT),(16,.ss 31 1 29),(17,y 18),(19,y 22),(20,.ss 31 1 29),(21,y 18),(22,y 23),(24,y 24),(25,bT),(26,.ss 31 1 29),(27,y 18),(28,.xs 31 1 (y 26) (y 27))]
def r93_3:List (Nat×j5):=ur r93_2 [31] [(31,.xrow 3 1 29)]
def a93_4:List AV:=up a93_3 36 [(0,y 0),(3,y 2),(4,A),(5,A),(6,.ss 31 1 10),(7,A),(8,A),(9,y 0),(10,y 1),(11,y 3),(12,bF),(13,A),(16,A),(17,A),(19,A),(20,A),(21,A),(22,A),(23,y 2),(24,.sc (.slice none 0 0)),(25,y 0),(26,y 9),(27,y 11),(28,A)]
def r93_4:List (Nat×j5):=ur r93_3 [31] [(31,.xrow 3 1 10)]
def a93_5:List AV:=up a93_4 61 [(0,.ss 31 1 14),(3,y 17),(6,.ss 31 1 14),(7,y 15),(8,bF),(9,A),(10,A),(11,A),(12,A),(23,A),(24,A),(25,A),(26,A),(27,A)]
def r93_5:List (Nat×j5):=ur r93_4 [31] [(31,.xrow 3 1 14)]
def a93_6:List AV:=up a93_5 61 [(0,.ss 31 1 28),(3,y 29),(4,.xs 31 1 (y 25) (y 26)),(5,y 27),(6,.ss 31 1 28),(10,y 17),(11,.ss 31 1 28),(12,y 19),(13,bT),(16,.ss 31 1 28),(17,y 17),(19,y 21),(20,.ss 31 1 28),(21,y 17),(22,y 22),(24,y 23),(25,bT),(26,.ss 31 1 28),(27,y 17),(28,.xs 31 1 (y 25) (y 26))]
def r93_6:List (Nat×j5):=ur r93_5 [31] [(31,.xrow 3 1 28)]
noncomputable def e93:=tre [q46] [(2,z1),(11,(.cons z0 (.one sI))),(18,(.one sI)),(28,(.cons sI (.cons z0 (.one sI)))),(10,(.cons z0 (.one sI))),(17,(.one sI)),(27,(.cons sI (.cons z0 (.one sI))))] q93 [(537067632,⟨2,a93_0,[],9⟩),(2953511173,⟨2,a93_1,r93_1,41⟩),(4832100429,⟨1,a93_2,r93_2,54⟩),(7516782805,⟨3,a93_3,r93_3,73⟩),(2685075717,⟨2,a93_4,r93_4,32⟩),(4563664973,⟨1,a93_5,r93_5,45⟩),(7248347349,⟨3,a93_6,r93_6,64⟩)] [y 0] 1
theorem d93:e93=Q9:=by kernel_rfl
noncomputable def e94:=tre [q22] [] q94 [] [y 0,y 1] 2
theorem d94:e94=F4:=by kernel_rfl
def a95_0:List AV:=up [] 24 [(0,y 0),(1,.fn (.func 177) [] [.mp 4 0 0]),(4,.ss 16 1 6),(7,y 0),(8,.rs [[y 0]]),(9,y 3),(10,y 4),(11,y 5)]
def r95_0:List (Nat×j5):=ur [] [4,16] [(4,.row 24 1 [[y 2]]),(16,.xrow 3 1 6)]
def a95_1:List AV:=up a95_0 54 [(0,y 2),(1,y 9),(4,iV 0),(5,bF),(6,y 10),(7,y 12),(8,y 11),(9,A),(10,y 2),(11,y 10),(12,y 10)]
def r95_1:List (Nat×j5):=ur r95_0 [4,16] []
noncomputable def e95:=tre [q93,q94] [(5,(.cons sI z2)),(11,z1)] q95 [(1342308792,⟨2,a95_0,r95_0,17⟩),(2952986745,⟨2,a95_1,r95_1,41⟩)] [y 0,y 1] 2
theorem d95:e95=aR0:=by kernel_rfl
def a96_0:List AV:=up [] 108 [(0,.agg [y 0,y 1,y 2,y 3]),(1,y 4),(2,y 5),(3,y 6),(4,.mp 0 0 0),(8,bF),(18,.mp 0 0 3),(19,y 3),(20,y 7),(21,y 8)]
def r96_0:List (Nat×j5):=ur [] [0] [(0,.row 29 4 [[y 0,y 1,y 2,y 3]])]
def a96_1:List AV:=up a96_0 108 [(10,.mp 9 0 0),(22,bT),(23,.rp [y 11,y 12,y 13,y 14,y 15]),(24,.agg [y 11,y 12,y 13,y 14,y 15]),(25,.mp 9 0 0),(26,y 11),(27,y 4),(28,bF),(29,bF),(30,.mp 9 0 1),(31,y 12),(32,y 17),(33,bF),(34,bF),(35,bF),(36,.mp 9 0 4),(37,y 15),(38,y 5),(39,y 19),(40,bF),(41,bF),(42,.mp 0 0 3),(43,y 3),(44,y 21),(45,y 22)]
def r96_1:List (Nat×j5):=ur r96_0 [0,9] [(9,.row 41 5 [[y 11,y 12,y 13,y 14,y 15]])]
def a96_2:List AV:=up a96_1 108 [(12,.mp 35 0 0),(46,bT),(47,.rp [y 25,y 26,y 27,y 28,y 29]),(48,.agg [y 25,y 26,y 27,y 28,y 29]),(49,.mp 35 0 0),(50,y 25),(51,y 4),(52,bF),(53,bF),(54,.mp 35 0 1),(55,y 26),(56,y 31),(57,bF),(58,bF),(59,bF),(60,.mp 9 0 4),(61,y 15),(62,.mp 35 0 4),(63,y 29),(64,y 33),(65,y 34),(66,bF),(67,bF),(68,.mp 0 0 0),(69,.mp 0 0 1),(70,y 1),(71,y 36),(72,y 37)]
def r96_2:List (Nat×j5):=ur r96_1 [0,9,35] [(35,.row 41 5 [[y 25,y 26,y 27,y 28,y 29]])]
noncomputable def e96:=tre [q62,q14,q95] [(8,(.one sI)),(22,(.one sI)),(37,(.one sI))] q96 [(2147614919,⟨1,a96_0,r96_0,6⟩),(5905974919,⟨1,a96_1,r96_1,32⟩),(9932771328,⟨1,a96_2,r96_2,61⟩)] [.agg [y 0,y 1,y 2,y 3],y 4,y 5,y 6] 7
theorem d96:e96=P4:=by kernel_rfl
def a97_0:List AV:=up [] 120 [(0,.agg [y 0,y 1,y 2,y 3]),(1,y 4),(2,.agg [y 5,y 6,y 7,y 8,y 9]),(3,.mp 0 0 0),(5,.mp 1 0 0),(6,y 31),(7,bF),(8,.mp 20 0 0),(9,.mm 70),(14,.mp 1 0 1),(15,y 6),(16,y 10),(17,bF),(18,bF),(19,.mp 1 0 4),(20,y 9),(21,y 12),(22,bF),(23,bF),(24,y 4),(25,.mp 1 0 4),(26,y 9),(27,.rp [y 14]),(28,y 14),(29,.agg [y 16,y 17,y 18,y 19]),(30,.mp 20 0 1),(31,y 17),(32,y 20),(33,bF),(34,bF),(35,.mp 20 0 2),(36,y 18),(37,y 22),(38,bF),(39,bF),(40,bF),(41,.mp 20 0 3),(42,y 19),(43,y 24),(44,bF),(45,bF),(46,.agg [y 0,y 1,y 2,y 3]),(47,.mp 20 0 0),(48,y 16),(49,y 26),(50,.mp 1 0 0),(51,y 5),(52,.ms 44 1 0 1),(53,y 27),(54,bF),(55,.mp 0 0 0),(56,.agg [y 0,y 1,y 2]),(57,.mp 20 0 1),(58,y 17),(59,.rp [y 29]),(60,y 29),(61,y 30),(62,y 31),(63,.mm 70),(64,.mp 20 0 1),(65,y 17),(66,y 32),(67,y 33)]
def r97_0:List (Nat×j5):=ur [] [0,1,20,44,70] [(0,.row 29 4 [[y 0,y 1,y 2,y 3]]),(1,.row 41 5 [[y 5,y 6,y 7,y 8,y 9]]),(20,.row 139 4 [[y 16,y 17,y 18,y 19]]),(44,.row 3 1 [[y 5]]),(70,.xmap (y 34))]
noncomputable def e97:=tre [q62,q90,q91,q54,q92,q52,q96] [(33,(.cons sI (.one (.sl (.cons sI (.one .bool))))))] q97 [(8859093555,⟨2,a97_0,r97_0,76⟩)] [.agg [y 0,y 1,y 2,y 3],y 4,.agg [y 5,y 6,y 7,y 8,y 9]] 10
theorem d97:e97=D7:=by kernel_rfl
def a98_0:List AV:=up [] 58 [(0,y 0),(2,.mp 0 0 0),(5,y 0),(6,y 1),(7,bF),(9,y 0),(10,.rp [y 3,y 4]),(11,.rp [y 3,y 4]),(12,y 3),(13,y 0),(14,.rp [y 5,y 6]),(15,.rp [y 6]),(16,y 6),(17,y 0),(18,.rp [y 7,y 8]),(19,.rp [y 7,y 8]),(20,y 7),(21,y 0),(22,.rp [y 9,y 10]),(23,.rp [y 10]),(24,y 10),(25,.agg [y 3,y 6,y 7,y 10]),(26,y 0),(27,y 11),(28,y 12)]
def r98_0:List (Nat×j5):=ur [] [0] [(0,.row 81 4 [[y 13,y 14,y 15,y 16]])]
noncomputable def e98:=tre [] [(12,(.cons sI (.cons sI z5)))] q98 [(3221553395,⟨5,a98_0,r98_0,42⟩)] [y 0] 1
theorem d98:e98=aT0:=by kernel_rfl
noncomputable def e99:=tre [] [] q99 [] [y 0,y 1] 2
theorem d99:e99=ew0:=by kernel_rfl
noncomputable def e100:=tre [q99] [] q100 [] [y 0,y 1] 2
theorem d100:e100=ci0:=by kernel_rfl
noncomputable def e101:=tre [q23] [] q101 [] [.agg [y 0,y 1],.agg [y 2,y 3]] 4
theorem d101:e101=V8:=by kernel_rfl
def a103_0:List AV:=up [] 61 [(0,y 0),(2,.ss 13 2 6),(3,.ss 3 2 4),(7,y 0),(8,y 1),(9,.ss 3 2 4),(10,.ss 3 2 4),(11,y 0),(13,.ss 3 2 4),(14,.tup []),(15,.ss 3 2 4),(16,y 5),(17,y 7)]
def r103_0:List (Nat×j5):=ur [] [3,13] [(3,.xrow 160 2 4),(13,.xrow 160 2 6)]
noncomputable def e103:=tre [q102] [(6,(.cons z3 (.one sI)))] q103 [(1610940542,⟨2,a103_0,r103_0,14⟩)] [y 0] 1
theorem d103:e103=Y4:=by kernel_rfl
def vh0:List AV:=up [] 72 [(0,y 0),(1,y 5),(4,.mp 0 0 0),(5,.fn (.func 190) [] [.mp 0 0 0]),(10,.fn (.func 190) [] [.mp 0 0 0]),(11,y 1),(12,y 2),(13,y 0),(14,y 3),(15,y 4),(16,y 6)]
def vK0:List (Nat×j5):=ur [] [0,10] [(0,.row 157 1 [[.ss 10 2 7]]),(10,.xrow 160 2 7)]
def vd0:List AV:=up vh0 72 [(1,y 12),(7,.mp 14 0 0),(17,bT),(18,.rp [y 10,y 11]),(19,.agg [y 10,y 11])]
def uV0:List (Nat×j5):=ur vK0 [0,10,14] [(14,.row 160 2 [[y 10,y 11]])]
def uO0:List AV:=up vd0 72 [(8,y 19),(9,y 20),(20,y 12),(21,y 14),(22,bT),(23,bT),(24,y 12),(25,.rp [y 16,y 17]),(26,.rp [y 17]),(27,y 17),(28,.mp 14 0 0),(29,y 10),(30,bF),(31,bF),(34,.mp 14 0 0),(35,y 10)]
def vr0:List (Nat×j5):=ur uV0 [0,10,14] [(0,.row 157 1 [[.ss 10 2 21]]),(10,.xrow 160 2 21)]
def a104_3:List AV:=up uO0 72 [(8,y 16),(9,y 17),(22,bF),(23,bF),(24,A),(25,A),(26,A),(27,A),(28,A),(29,A),(30,A)]
def r104_3:List (Nat×j5):=ur vr0 [0,10,14] [(0,.row 157 1 [[.ss 10 2 18]]),(10,.xrow 160 2 18)]
noncomputable def e104:=tre [q103] [(5,(.cons z3 z9)),(12,z6),(19,(.cons sI z9)),(16,(.cons sI z9))] q104 [(1342442790,⟨3,vh0,vK0,11⟩),(3221621989,⟨1,vd0,uV0,16⟩),(5100932851,⟨3,uO0,vr0,32⟩),(4295626422,⟨3,a104_3,r104_3,32⟩)] [y 0,y 1] 2
theorem d104:e104=bZ0:=by kernel_rfl
def wk0:List AV:=up [] 103 [(0,y 0),(1,.agg [y 1,y 2,y 3]),(2,.agg [y 4,y 5,y 6,y 7]),(3,y 8),(5,.mp 0 0 0),(6,.mp 1 0 0),(7,.mp 2 0 0),(8,.sc (.slice none 0 0)),(9,.mp 4 0 0),(10,.sc (.slice none 0 0)),(11,.mp 6 0 0),(12,.fn (.func 154) [] [.mp 2 0 0,.mp 6 0 0,.mp 4 0 0]),(20,.fn (.func 154) [] [.mp 2 0 0,.mp 6 0 0,.mp 4 0 0]),(21,.agg [y 4,y 5,y 6,y 7]),(22,y 9),(23,y 10),(24,y 11)]
def uS0:List (Nat×j5):=ur [] [0,1,2,4,6,13,14] [(0,.row 26 3 [[y 1,y 2,y 3]]),(1,.row 112 4 [[y 4,y 5,y 6,y 7]]),(2,.row 3 1 [[y 8]]),(4,.row 24 1 [[.ss 13 1 12]]),(6,.row 157 1 [[.ss 14 2 13]]),(13,.xrow 3 1 12),(14,.xrow 160 2 13)]
def wg0:List AV:=up wk0 40 [(1,y 16),(2,.fn (.func 154) [] [.mp 2 0 0,.mp 6 0 0,.mp 4 0 0]),(3,A),(5,A),(6,A),(7,A),(8,A),(9,A),(10,y 16),(11,y 17),(12,y 18),(20,A),(21,A),(22,A),(23,A),(24,A)]
def uK0:List (Nat×j5):=ur uS0 [0,1,2,4,6,26,27] [(4,.row 24 1 [[.ss 26 1 19]]),(6,.row 157 1 [[.ss 27 2 20]]),(26,.xrow 3 1 19),(27,.xrow 160 2 20)]
def vk0:List AV:=up wg0 40 [(7,y 23),(8,y 26),(9,y 27),(13,bT),(14,.rp [y 23]),(15,y 23),(16,y 0),(17,y 23),(18,y 23),(19,y 24),(20,y 25),(21,y 26)]
def vW0:List (Nat×j5):=ur uK0 [0,1,2,4,6,26,27] [(4,.row 24 1 [[.ss 26 1 28]]),(6,.row 157 1 [[.ss 27 2 29]]),(26,.xrow 3 1 28),(27,.xrow 160 2 29)]
def vP0:List AV:=up vk0 103 [(1,.agg [y 1,y 2,y 3]),(2,.agg [y 4,y 5,y 6,y 7]),(3,y 8),(5,.mp 0 0 0),(6,.mp 1 0 0),(7,.mp 2 0 0),(8,.sc (.slice none 0 0)),(9,.mp 4 0 0),(10,.sc (.slice none 0 0)),(11,.mp 6 0 0),(12,.fn (.func 154) [] [.mp 2 0 0,.mp 6 0 0,.mp 4 0 0]),(13,A),(14,A),(15,A),(16,A),(17,A),(18,A),(19,A),(20,.fn (.func 154) [] [.mp 2 0 0,.mp 6 0 0,.mp 4 0 0]),(21,.agg [y 4,y 5,y 6,y 7]),(22,y 9),(23,y 10),(24,y 11),(25,bF),(33,.mp 1 0 3),(34,y 7),(35,y 16),(36,y 17)]
def vb0:List (Nat×j5):=ur vW0 [0,1,2,4,6,13,14] [(4,.row 24 1 [[.ss 13 1 12]]),(6,.row 157 1 [[.ss 14 2 18]]),(13,.xrow 3 1 12),(14,.xrow 160 2 18)]
def a105_4:List AV:=up vP0 103 [(10,.ss 24 2 23),(19,y 22),(37,bF),(66,.ss 13 1 21),(67,.tup [])]
def r105_4:List (Nat×j5):=ur vb0 [0,1,2,4,6,13,14,24] [(4,.row 24 1 [[.ss 13 1 21]]),(13,.xrow 3 1 21),(24,.xrow 160 2 23)]
noncomputable def e105:=tre [q55,q100,q18,q46,q104] [(11,(.cons sI (.cons z0 z6))),(18,(.cons sI (.cons z0 z6))),(27,(.cons sI (.cons z0 z6))),(17,z9),(22,z9)] q105 [(2953123141,⟨3,wk0,uS0,15⟩),(4831904300,⟨3,wg0,uK0,28⟩),(7248085579,⟨3,vk0,vW0,40⟩),(4564063771,⟨2,vP0,vb0,20⟩),(5906765430,⟨2,a105_4,r105_4,25⟩)] [y 0,.agg [y 1,y 2,y 3],.agg [y 4,y 5,y 6,y 7],y 8] 9
theorem d105:e105=K6:=by kernel_rfl
def a106_0:List AV:=up [] 45 [(0,y 0),(1,.agg [y 1,y 2,y 3]),(2,.agg [y 4,y 5,y 6,y 7]),(3,y 8),(5,.mp 0 0 0),(6,.mp 1 0 0),(8,.mp 2 0 0),(9,y 12),(10,y 13),(14,y 0),(15,.agg [y 1,y 2,y 3]),(16,.agg [y 4,y 5,y 6,y 7]),(17,y 8),(18,y 9),(19,y 10),(20,y 11)]
def r106_0:List (Nat×j5):=ur [] [0,1,2] [(0,.row 26 3 [[y 1,y 2,y 3]]),(1,.row 112 4 [[y 4,y 5,y 6,y 7]]),(2,.row 57 2 [[y 14,y 15]])]
noncomputable def e106:=tre [q105] [(11,(.cons sI (.cons .bool z5)))] q106 [(2952986898,⟨5,a106_0,r106_0,12⟩)] [y 0,.agg [y 1,y 2,y 3],.agg [y 4,y 5,y 6,y 7],y 8] 9
theorem d106:e106=w9:=by kernel_rfl
def ve0:List AV:=up [] 100 [(0,.agg [y 0,y 1,y 2]),(1,y 3),(2,.mp 0 0 0),(4,.mp 1 0 0),(5,bF),(6,.sc (.slice none 0 0)),(7,.sc (.slice none 0 0)),(9,y 5),(10,y 8),(11,.mp 41 0 0),(12,.mp 56 0 0),(13,y 21),(14,y 22),(17,.tup [.sc (.slice none 0 0),.sc (.slice none 0 0),A,y 5]),(18,.agg [y 0,y 1,y 2]),(19,.tup [.sc (.slice none 0 0),.sc (.slice none 0 0),A,y 5]),(20,.sc (.slice none 0 0)),(21,.sc (.slice none 0 0)),(23,y 5),(24,y 5),(25,bF),(27,.sc (.slice none 0 0)),(28,y 3),(29,y 8),(30,y 8),(31,bF),(34,.sc (.slice none 0 0)),(35,y 8),(36,.rp [y 10,y 11,y 12,y 13]),(37,.rp [y 11,y 12,y 13]),(38,y 11),(39,.fn (.func 57) [] [.mp 41 0 0]),(40,.tup []),(41,.sc (.slice none 0 0)),(42,.agg [y 16,y 17,y 18,y 19]),(43,.mp 56 0 1),(44,y 17),(45,.mp 56 0 3),(46,y 19),(47,y 20),(48,y 21)]
def vV0:List (Nat×j5):=ur [] [0,1,41,56] [(0,.row 26 3 [[y 0,y 1,y 2]]),(1,.row 57 2 [[y 23,y 24]]),(41,.row 75 1 [[.sc (.slice none 0 0)]]),(56,.row 81 4 [[y 16,y 17,y 18,y 19]])]
def vp0:List AV:=up ve0 40 [(0,y 7),(1,y 15),(2,.fn (.func 57) [] [.mp 61 0 0]),(4,A),(5,A),(6,A),(7,A),(9,A),(10,y 15),(11,y 18),(12,y 19),(13,A),(14,A),(17,A),(18,A),(19,A),(20,A),(21,A),(23,A),(24,A),(25,A),(27,A),(28,A),(29,A),(30,A),(31,A),(34,A),(35,A),(36,A),(37,A),(38,A),(39,A)]
def vz0:List (Nat×j5):=ur vV0 [0,1,14,61,73] [(1,.row 57 2 [[iV 0,iV 0]]),(14,.row 26 3 [[y 0,y 1,y 2]]),(61,.row 75 1 [[.ss 73 2 20]]),(73,.xrow 57 2 20)]
def uA0:List AV:=up vp0 40 [(7,y 23),(8,y 26),(9,y 27),(13,bT),(14,.rp [y 23]),(15,y 23),(16,y 7),(17,y 23),(18,y 23),(19,y 24),(20,y 25),(21,y 26)]
def va0:List (Nat×j5):=ur vz0 [0,1,14,61,73] [(61,.row 75 1 [[.ss 73 2 28]]),(73,.xrow 57 2 28)]
def a107_3:List AV:=up uA0 100 [(0,.agg [y 0,y 1,y 2]),(1,y 3),(2,.mp 0 0 0),(4,.mp 1 0 0),(5,bF),(6,y 8),(7,y 9),(8,y 7),(9,iV 0),(10,y 12),(11,.mp 61 0 0),(12,.mp 77 0 0),(13,y 28),(14,y 29),(15,A),(16,A),(17,.tup [y 8,y 9,y 7,iV 0]),(18,.agg [y 0,y 1,y 2]),(19,.tup [y 8,y 9,y 7,iV 0]),(20,y 8),(21,y 9),(22,y 7),(23,iV 0),(24,iV 0),(25,bF),(27,y 9),(28,y 3),(29,y 12),(30,y 12),(31,bF),(33,y 7),(34,y 8),(35,y 12),(36,.rp [y 14,y 15,y 16,y 17]),(37,.rp [y 15,y 16,y 17]),(38,y 15),(39,.fn (.func 57) [] [.mp 61 0 0]),(40,.tup []),(41,.ss 73 2 20),(42,.agg [y 23,y 24,y 25,y 26]),(43,.mp 77 0 1),(44,y 24),(45,.mp 77 0 3),(46,y 26),(47,y 27),(48,y 28)]
def r107_3:List (Nat×j5):=ur va0 [0,1,61,73,77] [(1,.row 57 2 [[y 30,y 31]]),(61,.row 75 1 [[.ss 73 2 20]]),(73,.xrow 57 2 20),(77,.row 81 4 [[y 23,y 24,y 25,y 26]])]
noncomputable def e107:=tre [q47,q13,q48,q53,q56,q98,q106] [(19,z9),(27,z9),(29,z5)] xy0 [(5906369209,⟨3,ve0,vV0,66⟩),(5100339465,⟨2,vp0,vz0,74⟩),(7248085288,⟨2,uA0,va0,86⟩),(7785417814,⟨3,a107_3,r107_3,87⟩)] [.agg [y 0,y 1,y 2],y 3] 4
theorem d107:e107=E0:=by kernel_rfl
noncomputable def e108:=tre [q81,q83,q89,q97,xy0] [] q108 [] [.agg [y 0,y 1,y 2,y 3],y 4] 5
theorem d108:e108=Q6:=by kernel_rfl
def a109_0:List AV:=up [] 38 [(0,.agg [y 0,y 1,y 2]),(1,y 3),(2,.mp 0 0 0),(4,y 6),(7,.mp 0 0 1),(8,y 1),(9,y 4),(10,y 5)]
def r109_0:List (Nat×j5):=ur [] [0] [(0,.row 26 3 [[y 0,y 1,y 2]])]
noncomputable def e109:=tre [q50] [(5,z1)] q109 [(1342308464,⟨2,a109_0,r109_0,6⟩)] [.agg [y 0,y 1,y 2],y 3] 4
theorem d109:e109=S9:=by kernel_rfl
def a110_0:List AV:=up [] 18 [(0,y 0),(2,iV 0),(3,iV 0),(6,y 0),(7,y 1),(8,y 2)]
noncomputable def e110:=tre [] [(2,(.one sI))] q110 [(537067632,⟨1,a110_0,[],5⟩)] [y 0] 1
theorem d110:e110=K9:=by kernel_rfl
noncomputable def e111:=tre [q23,q110] [] q111 [] [.agg [y 0,y 1,y 2],.agg [y 3,y 4,y 5]] 6
theorem d111:e111=F6:=by kernel_rfl
def a113_0:List AV:=up [] 55 [(0,.agg [y 0,y 1,y 2,y 3]),(1,y 4),(2,.mp 0 0 0),(4,.ss 10 3 8),(5,y 5),(11,.mp 0 0 0),(12,.agg [y 0,y 1,y 2]),(13,y 5),(14,.mp 0 0 3),(15,y 3),(16,y 6),(17,y 7)]
def r113_0:List (Nat×j5):=ur [] [0,10] [(0,.row 29 4 [[y 0,y 1,y 2,y 3]]),(10,.xrow 65 3 8)]
noncomputable def e113:=tre [q89,q97,q109,q112] [(7,(.cons sI (.one z8)))] q113 [(1879244926,⟨2,a113_0,r113_0,11⟩)] [.agg [y 0,y 1,y 2,y 3],y 4] 5
theorem d113:e113=E7:=by kernel_rfl
def a114_0:List AV:=up [] 40 [(0,.agg [y 0,y 1,y 2,y 3]),(1,.agg [y 4,y 5,y 6,y 7,y 8,y 9]),(2,.mp 0 0 0),(3,.mp 1 0 0),(4,.ss 15 1 15),(5,y 10),(10,.agg [y 0,y 1,y 2,y 3]),(11,y 10),(12,y 10),(13,bF),(15,.agg [y 0,y 1,y 2,y 3]),(16,.mp 1 0 2),(17,y 6),(18,y 12),(19,y 13),(20,y 14)]
def r114_0:List (Nat×j5):=ur [] [0,1,15] [(0,.row 29 4 [[y 0,y 1,y 2,y 3]]),(1,.row 31 6 [[y 4,y 5,y 6,y 7,y 8,y 9]]),(15,.xrow 3 1 15)]
noncomputable def e114:=tre [q81,q113,xy0] [(14,(.cons sI z2))] q114 [(3758424281,⟨2,a114_0,r114_0,16⟩)] [.agg [y 0,y 1,y 2,y 3],.agg [y 4,y 5,y 6,y 7,y 8,y 9]] 10
theorem d114:e114=bx0:=by kernel_rfl
noncomputable def e116:=tre [q23] [] q116 [] [.agg [y 0,y 1,y 2],.agg [y 3,y 4,y 5]] 6
theorem d116:e116=K3:=by kernel_rfl
def uL0:List AV:=up [] 59 [(0,.agg [y 0,y 1,y 2,y 3]),(1,.mp 7 0 0),(2,.mp 8 0 0),(7,.mp 7 0 0),(8,.mp 7 0 0),(9,y 0),(10,.ss 21 3 8),(11,.mp 8 0 0),(12,.mp 8 0 0),(13,.mp 7 0 0),(14,.mp 7 0 1),(15,y 1),(16,y 9),(17,y 10)]
def uz0:List (Nat×j5):=ur [] [0,1,2,3,7,8,21,28] [(0,.row 29 4 [[y 0,y 1,y 2,y 3]]),(1,.row 3 1 [[y 5]]),(2,.row 57 2 [[y 6,y 7]]),(3,.row 29 4 [[.sc (.slice none 0 0),.sc (.slice none 0 0),.sc (.slice none 0 0),.sc (.slice none 0 0)]]),(7,.row 29 4 [[y 0,y 1,y 2,y 3]]),(8,.row 29 4 [[.ss 21 3 8,.ss 28 6 11,.sc (.slice none 0 0),.sc (.slice none 0 0)]]),(21,.xrow 59 3 8),(28,.xrow 77 6 11)]
def vU0:List AV:=up uL0 59 [(18,bF),(34,.mp 7 0 0),(35,.mp 7 0 2),(36,y 2),(37,.ss 42 1 14),(38,.mp 8 0 0),(39,.mp 8 0 2),(40,.mp 7 0 3),(41,y 3),(42,y 15),(43,y 16)]
def wd0:List (Nat×j5):=ur uz0 [0,1,2,3,7,8,21,28,42,48] [(8,.row 29 4 [[.ss 21 3 8,.ss 28 6 11,.ss 42 1 14,.ss 48 5 17]]),(42,.xrow 3 1 14),(48,.xrow 41 5 17)]
def vZ0:List AV:=up vU0 100 [(1,y 4),(2,y 5),(3,.agg [y 6,y 7]),(4,.mp 0 0 0),(6,.mp 1 0 0),(7,.mp 2 0 0),(8,.mp 3 0 0),(9,.mp 53 0 0),(10,A),(11,A),(12,A),(13,A),(14,A),(15,.agg [y 0,y 1,y 2,y 3]),(16,.agg [.ss 21 3 8,.ss 28 6 11,.ss 42 1 14,.ss 48 5 17]),(17,.mm 52),(18,.mp 3 0 0),(19,.mp 3 0 1),(20,.ss 28 6 11),(21,.fn (.func 61) [] [.mp 1 0 0,.mp 53 0 0]),(22,.ss 28 6 20),(23,.mp 3 0 0),(24,.mp 3 0 1),(34,A),(35,A),(36,A),(37,A),(38,A),(39,A),(40,A),(41,A),(42,A),(43,A),(98,y 11),(99,.rs [])]
def vB0:List (Nat×j5):=ur wd0 [0,1,2,3,21,28,42,48,52,53] [(3,.row 29 4 [[.ss 21 3 8,.ss 28 6 20,.ss 42 1 14,.ss 48 5 17]]),(28,.xrow 77 6 20),(52,.xmap (y 21)),(53,.row 117 1 [[.mm 52]])]
def vY0:List AV:=up vZ0 99 [(25,.mp 3 0 0),(26,.mp 3 0 2),(27,.ss 42 1 14),(28,.fn (.func 63) [] [.mp 1 0 0]),(29,.ss 42 1 24),(30,.mp 3 0 0),(31,.mp 3 0 2),(98,y 14)]
def vX0:List (Nat×j5):=ur vB0 [0,1,2,3,21,28,42,48,52,53] [(3,.row 29 4 [[.ss 21 3 8,.ss 28 6 20,.ss 42 1 24,.ss 48 5 17]]),(42,.xrow 3 1 24)]
def vD0:List AV:=up vY0 98 [(10,.mp 173 0 0),(32,.agg [y 6,y 7]),(33,.agg [iV 1,y 6,y 7]),(34,.mp 0 0 0),(35,.mp 0 0 0),(36,y 0),(37,y 27),(38,y 28)]
def vc0:List (Nat×j5):=ur vX0 [0,1,2,3,21,28,42,48,52,53,173] [(173,.row 59 3 [[y 29,y 6,y 7]])]
def vJ0:List AV:=up vD0 99 [(39,bF),(52,.mp 3 0 0),(53,.mp 3 0 0),(54,.ss 21 3 8),(55,.fn (.func 65) [] [.mp 53 0 0]),(56,.ss 21 3 32),(57,.mp 3 0 0),(58,.mp 3 0 0),(98,y 8)]
def vv0:List (Nat×j5):=ur vc0 [0,1,2,3,21,28,42,48,52,53,173] [(3,.row 29 4 [[.ss 21 3 32,.ss 28 6 20,.ss 42 1 24,.ss 48 5 17]]),(21,.xrow 59 3 32)]
def uB0:List AV:=up vJ0 98 [(16,.agg [.ss 21 3 8,.ss 28 6 11,.ss 42 1 14,.ss 48 5 39]),(59,.mp 3 0 0),(60,.mp 3 0 0),(61,.ss 21 3 32),(62,.agg [y 29,y 6,y 7]),(63,.ms 237 3 0 1),(64,.ss 238 3 36),(65,.mp 3 0 0),(66,.mp 3 0 0),(67,.mp 3 0 0),(68,.mp 3 0 0),(69,.ss 238 3 36),(70,.tup []),(71,.mp 3 0 3),(72,.ss 48 5 39),(73,y 37),(74,y 38)]
def vt0:List (Nat×j5):=ur vv0 [0,1,2,3,28,42,48,52,53,173,237,238] [(3,.row 29 4 [[.ss 238 3 36,.ss 28 6 20,.ss 42 1 24,.ss 48 5 39]]),(48,.xrow 41 5 39),(237,.row 59 3 [[y 29,y 6,y 7]]),(238,.xrow 59 3 36)]
def vS0:List AV:=up uB0 19 [(0,.ss 21 3 8),(1,.fn (.func 65) [] [.mp 53 0 0]),(2,A),(3,A),(4,iV 0),(6,.ss 21 3 8),(7,y 35),(8,y 36),(9,A),(10,A),(15,A),(16,A),(17,A),(18,A)]
def vA0:List (Nat×j5):=ur vt0 [0,1,2,3,21,28,42,48,52,53,173] [(3,.row 29 4 [[.ss 21 3 8,.ss 28 6 20,.ss 42 1 24,.ss 48 5 17]]),(21,.xrow 59 3 8),(48,.xrow 41 5 17)]
def wj0:List AV:=up vS0 42 [(0,.ss 21 3 46),(4,.sc (.slice none 0 0)),(5,y 47),(6,y 45),(7,A),(8,.ss 21 3 46),(9,.fn (.func 65) [] [.mp 53 0 0]),(10,y 36),(11,y 36),(12,bF),(14,y 36),(15,y 44)]
def vR0:List (Nat×j5):=ur vA0 [0,1,2,3,21,28,42,48,52,53,173] [(3,.row 29 4 [[.ss 21 3 46,.ss 28 6 20,.ss 42 1 24,.ss 48 5 17]]),(21,.xrow 59 3 46)]
def vf0:List AV:=up wj0 19 [(0,.ss 42 1 14),(1,.fn (.func 63) [] [.mp 1 0 0]),(4,iV 0),(5,A),(6,.ss 42 1 14),(7,y 27),(8,y 28),(9,A),(10,A),(11,A),(12,A),(14,A),(15,A)]
def uE0:List (Nat×j5):=ur vR0 [0,1,2,3,21,28,42,48,52,53] [(3,.row 29 4 [[.ss 21 3 8,.ss 28 6 20,.ss 42 1 14,.ss 48 5 17]]),(21,.xrow 59 3 8),(42,.xrow 3 1 14)]
def qq0:List AV:=up vf0 42 [(0,.ss 42 1 36),(4,.sc (.slice none 0 0)),(5,y 37),(6,y 35),(7,A),(8,.ss 42 1 36),(9,.fn (.func 63) [] [.mp 1 0 0]),(10,y 28),(11,y 28),(12,bF),(14,y 28),(15,y 34)]
def qJ0:List (Nat×j5):=ur uE0 [0,1,2,3,21,28,42,48,52,53] [(3,.row 29 4 [[.ss 21 3 8,.ss 28 6 20,.ss 42 1 36,.ss 48 5 17]]),(42,.xrow 3 1 36)]
def qj0:List AV:=up qq0 19 [(0,.ss 28 6 11),(1,.fn (.func 61) [] [.mp 1 0 0,.mp 53 0 0]),(4,iV 0),(5,A),(6,.ss 28 6 11),(7,y 24),(8,y 25),(9,A),(10,A),(11,A),(12,A),(14,A),(15,A)]
def qE0:List (Nat×j5):=ur qJ0 [0,1,2,3,7,8,21,28,42,48,52,53] [(3,.row 29 4 [[.ss 21 3 8,.ss 28 6 11,.ss 42 1 14,.ss 48 5 17]]),(7,.row 29 4 [[y 0,y 1,y 2,y 3]]),(8,.row 29 4 [[.ss 21 3 8,.ss 28 6 11,.ss 42 1 14,.ss 48 5 17]]),(28,.xrow 77 6 11),(42,.xrow 3 1 14),(52,.map false [] 0)]
def rK0:List AV:=up qj0 42 [(0,.ss 28 6 42),(4,.sc (.slice none 0 0)),(5,y 43),(6,y 40),(7,A),(8,.ss 28 6 42),(9,.fn (.func 61) [] [.mp 1 0 0,.mp 53 0 0]),(10,y 25),(11,y 25),(12,bF),(14,y 25),(15,y 39)]
def rW0:List (Nat×j5):=ur qE0 [0,1,2,3,7,8,21,28,42,48,52,53] [(3,.row 29 4 [[.ss 21 3 8,.ss 28 6 42,.ss 42 1 14,.ss 48 5 17]]),(8,.row 29 4 [[.ss 21 3 8,.ss 28 6 42,.ss 42 1 14,.ss 48 5 17]]),(28,.xrow 77 6 42),(52,.xmap (y 41))]
def xC0:List AV:=up rK0 42 [(0,.ss 28 6 41),(5,y 42),(6,y 39),(8,.ss 28 6 41),(15,y 38)]
def wO0:List (Nat×j5):=ur rW0 [0,1,2,3,7,8,21,28,42,48,52,53] [(3,.row 29 4 [[.ss 21 3 8,.ss 28 6 41,.ss 42 1 14,.ss 48 5 17]]),(8,.row 29 4 [[.ss 21 3 8,.ss 28 6 41,.ss 42 1 14,.ss 48 5 17]]),(28,.xrow 77 6 41),(52,.xmap (y 40))]
noncomputable def e118:=tre [q115,q16,q82,q117] [(10,(.cons sI (.one z22))),(16,(.cons sI z18)),(20,(.cons z22 (.cons (.sl (.cons sI (.one .bool))) (.one .bool)))),(24,(.cons z0 (.one .bool))),(28,z1),(32,(.cons z8 (.one .bool))),(38,(.cons sI z18)),(36,(.one sI)),(45,(.cons sI (.cons z8 (.one sI)))),(1028,(.one sI)),(35,(.cons sI (.cons z0 (.one sI)))),(25,(.one sI)),(40,(.cons sI (.cons (.sl (.cons sI (.one .bool))) (.cons z22 (.one sI))))),(39,(.cons sI (.cons (.sl (.cons sI (.one .bool))) (.cons z22 (.one sI)))))] q118 [(2684551294,⟨2,uL0,uz0,29⟩),(4295623059,⟨2,vU0,wd0,49⟩),(1152921504606928900,⟨2,vZ0,vB0,121⟩),(1152921504606945285,⟨1,vY0,vX0,171⟩),(7516655013,⟨2,vD0,vc0,180⟩),(1152921504606978061,⟨1,vJ0,vv0,233⟩),(10201603545,⟨2,uB0,vt0,250⟩),(9663807718,⟨1,vS0,vA0,198⟩),(12079924057,⟨3,wj0,vR0,221⟩),(7516324066,⟨1,vf0,uE0,138⟩),(9395569473,⟨3,qq0,qJ0,159⟩),(6711017694,⟨1,qj0,qE0,72⟩),(10737746729,⟨4,rK0,rW0,109⟩),(10469311273,⟨4,xC0,wO0,109⟩)] [.agg [y 0,y 1,y 2,y 3],y 4,y 5,.agg [y 6,y 7]] 8
theorem d118:e118=K2:=by kernel_rfl
def vm0:List AV:=up [] 59 [(0,.agg [y 0,y 1,y 2,y 3]),(1,.mp 13 0 0),(2,.mp 14 0 0),(7,.mp 13 0 0),(8,.mp 13 0 0),(9,y 0),(10,.ss 27 3 12),(11,.mp 14 0 0),(12,.mp 14 0 0),(13,.mp 13 0 0),(14,.mp 13 0 1),(15,y 1),(16,y 13),(17,y 14)]
def vI0:List (Nat×j5):=ur [] [0,1,2,13,14,27,34] [(0,.row 29 4 [[y 0,y 1,y 2,y 3]]),(1,.row 31 6 [[y 4,y 5,y 6,y 7,y 8,y 9]]),(2,.row 35 5 [[.sc (.slice none 0 0),.sc (.slice none 0 0),.sc (.slice none 0 0),.sc (.slice none 0 0),.sc (.slice none 0 0)]]),(13,.row 29 4 [[y 0,y 1,y 2,y 3]]),(14,.row 29 4 [[.ss 27 3 12,.ss 34 6 15,.sc (.slice none 0 0),.sc (.slice none 0 0)]]),(27,.xrow 59 3 12),(34,.xrow 77 6 15)]
def vG0:List AV:=up vm0 59 [(18,bF),(34,.mp 13 0 0),(35,.mp 13 0 2),(36,y 2),(37,.ss 48 1 18),(38,.mp 14 0 0),(39,.mp 14 0 2),(40,.mp 13 0 3),(41,y 3),(42,y 19),(43,y 20)]
def uC0:List (Nat×j5):=ur vI0 [0,1,2,13,14,27,34,48,54] [(14,.row 29 4 [[.ss 27 3 12,.ss 34 6 15,.ss 48 1 18,.ss 54 5 21]]),(48,.xrow 3 1 18),(54,.xrow 41 5 21)]
def uW0:List AV:=up vG0 60 [(1,.agg [y 4,y 5,y 6,y 7,y 8,y 9]),(2,.mp 0 0 0),(3,.mp 1 0 0),(4,.mp 2 0 0),(5,y 10),(7,A),(8,A),(9,A),(10,.agg [y 0,y 1,y 2,y 3]),(11,y 10),(12,y 10),(13,bF),(14,A),(15,A),(16,.agg [y 0,y 1,y 2,y 3]),(17,.agg [y 12,y 15,y 18,y 21]),(18,.mp 2 0 0),(34,A),(35,A),(36,A),(37,A),(38,A),(39,A),(40,A),(41,A),(42,A),(43,A)]
def wf0:List (Nat×j5):=ur uC0 [0,1,2,58] [(2,.row 35 5 [[y 24,y 25,y 26,y 27,.ss 58 1 28]]),(58,.xrow 3 1 28)]
def a119_3:List AV:=up uW0 60 [(19,.mp 2 0 0),(20,.agg [y 24,y 25,y 26,y 27]),(21,.mp 1 0 2),(22,y 6),(23,y 30),(24,y 31),(25,y 32)]
def r119_3:List (Nat×j5):=ur wf0 [0,1,2,58] []
noncomputable def e119:=tre [q81,q115,q16,q82,q113,xy0,q118,q46] [(14,(.cons sI (.one z22))),(20,(.cons sI z18)),(24,(.cons z8 (.cons z22 (.cons z0 (.cons z16 z2))))),(32,(.one sI))] q119 [(3758293118,⟨2,vm0,vI0,35⟩),(5369364883,⟨2,vG0,uC0,55⟩),(6442778694,⟨5,uW0,wf0,59⟩),(8590328060,⟨1,a119_3,r119_3,66⟩)] [.agg [y 0,y 1,y 2,y 3],.agg [y 4,y 5,y 6,y 7,y 8,y 9]] 10
theorem d119:e119=C9:=by kernel_rfl
noncomputable def e120:=tre [q81,q83,q62,q89,q97,xy0,q118] [] q120 [] [.agg [y 0,y 1,y 2,y 3],y 4] 5
theorem d120:e120=cY0:=by kernel_rfl
def a121_0:List AV:=up [] 26 [(0,y 0),(1,y 1),(4,bF),(5,y 5),(6,y 0),(7,y 2),(8,y 1),(9,y 3),(10,bF)]
noncomputable def e121:=tre [] [(5,(.one sI))] q121 [(1342439546,⟨1,a121_0,[],7⟩)] [y 0,y 1] 2
theorem d121:e121=M1:=by kernel_rfl
noncomputable def e122:=tre [q4,q108,q114,q119,q120,q121] [] q122 [] [] 0
theorem d122:e122=C3:=by kernel_rfl
def a123_0:List AV:=up [] 20 [(0,y 0),(2,bF),(3,y 1)]
noncomputable def e123:=tre [] [(1,(.one sI))] q123 [(268566575,⟨1,a123_0,[],2⟩)] [y 0] 1
theorem d123:e123=H2:=by kernel_rfl
def a124_0:List AV:=up [] 18 [(0,y 0),(1,y 1),(4,bF),(5,y 2)]
noncomputable def e124:=tre [] [(2,(.one sI))] q124 [(537002051,⟨1,a124_0,[],2⟩)] [y 0,y 1] 2
theorem d124:e124=J6:=by kernel_rfl
def a125_0:List AV:=up [] 26 [(0,y 0),(1,y 1),(4,bF),(5,y 5),(6,y 0),(7,y 2),(8,y 1),(9,y 3),(10,bF)]
noncomputable def e125:=tre [] [(5,(.one sI))] q125 [(1342439546,⟨1,a125_0,[],7⟩)] [y 0,y 1] 2
theorem d125:e125=L9:=by kernel_rfl
noncomputable def e126:=tre [q125] [] q126 [] [.agg [y 0,y 1,y 2,y 3,y 4,y 5],.agg [y 6,y 7,y 8,y 9,y 10,y 11]] 12
theorem d126:e126=O2:=by kernel_rfl
def vC0:List AV:=up [] 88 [(0,.agg [y 0,y 1,y 2]),(1,.agg [y 3,y 4,y 5]),(2,.mp 0 0 0),(3,.mp 1 0 0),(4,bF),(5,y 15),(8,.mp 0 0 0),(9,y 0),(10,y 6),(11,.mp 1 0 0),(12,y 3),(13,y 7),(14,bF),(15,bF),(16,.mp 0 0 1),(17,y 1),(18,y 9),(19,.mp 1 0 1),(20,y 4),(21,y 10),(22,bF),(23,bF),(24,bF),(25,.mp 0 0 2),(26,y 2),(27,y 12),(28,.mp 1 0 2),(29,y 5),(30,y 13),(31,bF),(32,bF)]
def vg0:List (Nat×j5):=ur [] [0,1] [(0,.row 26 3 [[y 0,y 1,y 2]]),(1,.row 26 3 [[y 3,y 4,y 5]])]
def uU0:List AV:=up vC0 88 [(6,y 19),(33,y 15),(34,.mp 0 0 0),(35,y 0),(36,y 17),(37,bF)]
def uQ0:List (Nat×j5):=ur vg0 [0,1] []
def a127_2:List AV:=up uU0 88 [(7,y 23),(51,y 19),(52,.mp 0 0 1),(53,y 1),(54,y 21),(55,bF)]
def r127_2:List (Nat×j5):=ur uQ0 [0,1] []
noncomputable def e127:=tre [q126] [(15,(.one sI)),(19,(.one sI)),(23,(.one sI))] q127 [(4026794891,⟨1,vC0,vg0,29⟩),(5100864592,⟨1,uU0,uQ0,35⟩),(6174934383,⟨1,a127_2,r127_2,41⟩)] [.agg [y 0,y 1,y 2],.agg [y 3,y 4,y 5]] 6
theorem d127:e127=H9:=by kernel_rfl
def a128_0:List AV:=up [] 26 [(0,y 0),(1,y 1),(4,bF),(5,y 5),(6,y 0),(7,y 2),(8,y 1),(9,y 3),(10,bF)]
noncomputable def e128:=tre [] [(5,(.one sI))] q128 [(1342439546,⟨1,a128_0,[],7⟩)] [y 0,y 1] 2
theorem d128:e128=D9:=by kernel_rfl
noncomputable def e129:=tre [q128] [] q129 [] [.agg [y 0,y 1,y 2,y 3,y 4],.agg [y 5,y 6,y 7,y 8,y 9]] 10
theorem d129:e129=C1:=by kernel_rfl
def a130_0:List AV:=up [] 40 [(0,.agg [y 0,y 1,y 2,y 3]),(1,.agg [y 4,y 5,y 6,y 7]),(2,.mp 0 0 0),(3,.mp 1 0 0),(4,bF),(5,y 13),(6,.mp 0 0 0),(7,.agg [y 0,y 1,y 2]),(8,.mp 1 0 0),(9,.agg [y 4,y 5,y 6]),(10,y 8),(11,bF),(12,bF),(13,.mp 0 0 3),(14,y 3),(15,y 10),(16,.mp 1 0 3),(17,y 7),(18,y 11),(19,bF),(20,bF)]
def r130_0:List (Nat×j5):=ur [] [0,1] [(0,.row 29 4 [[y 0,y 1,y 2,y 3]]),(1,.row 29 4 [[y 4,y 5,y 6,y 7]])]
noncomputable def e130:=tre [q127,q129] [(13,(.one sI))] q130 [(3489923469,⟨1,a130_0,r130_0,19⟩)] [.agg [y 0,y 1,y 2,y 3],.agg [y 4,y 5,y 6,y 7]] 8
theorem d130:e130=I1:=by kernel_rfl
def uR0:List AV:=up [] 105 [(0,.agg [y 0,y 1,y 2,y 3]),(1,y 4),(2,.mp 0 0 0),(4,y 17),(5,.mp 8 0 0),(6,y 10),(15,.tup [.agg [y 5,y 6,y 7,y 8,y 9],y 10]),(16,.agg [y 0,y 1,y 2,y 3]),(17,y 4),(18,.tup [.agg [y 5,y 6,y 7,y 8,y 9],y 10]),(19,.agg [y 5,y 6,y 7,y 8,y 9]),(20,y 10),(21,y 10),(22,bF),(23,bF),(24,.mp 8 0 1),(25,y 6),(26,y 12),(27,bF),(28,bF),(29,bF),(30,.mp 0 0 0),(31,.agg [y 0,y 1,y 2]),(32,y 14),(33,bF),(34,bF),(35,.mp 0 0 0),(36,.mp 0 0 1),(37,y 1),(38,y 16),(39,y 18)]
def uJ0:List (Nat×j5):=ur [] [0,8] [(0,.row 29 4 [[y 0,y 1,y 2,y 3]]),(8,.row 41 5 [[y 5,y 6,y 7,y 8,y 9]])]
def a131_1:List AV:=up uR0 105 [(8,.mp 33 0 0),(9,y 27),(10,y 28),(11,y 32),(12,y 30),(13,y 31),(14,y 33),(40,bT),(41,.rp [y 21,y 22,y 23,y 24,y 25,y 26]),(42,.agg [y 21,y 22,y 23,y 24,y 25,y 26]),(43,.mp 8 0 4),(44,y 9),(45,.mp 33 0 4),(46,y 25),(47,y 27),(48,.mp 8 0 4),(49,y 9),(50,.mp 33 0 5),(51,y 26),(52,y 28),(53,y 27),(54,y 28),(55,bF),(56,.tup [y 30,y 31]),(57,.mp 0 0 0),(58,.agg [y 0,y 1,y 2]),(59,.mp 33 0 0),(60,y 21),(61,.tup [y 30,y 31]),(62,y 30),(63,y 31)]
def r131_1:List (Nat×j5):=ur uJ0 [0,8,33] [(33,.row 77 6 [[y 21,y 22,y 23,y 24,y 25,y 26]])]
noncomputable def e131:=tre [q83,q62,q39,q14,q19] [(17,z1),(32,z1)] q131 [(4563731762,⟨2,uR0,uJ0,30⟩),(8590722646,⟨2,a131_1,r131_1,71⟩)] [.agg [y 0,y 1,y 2,y 3],y 4] 5
theorem d131:e131=Z3:=by kernel_rfl
def a132_0:List AV:=up [] 135 [(0,.agg [y 0,y 1,y 2,y 3]),(1,.agg [y 4,y 5,y 6,y 7,y 8,y 9]),(2,.mp 0 0 0),(3,.mp 1 0 0),(4,bF),(5,.mp 12 0 0),(6,y 17),(7,y 29),(8,y 30),(11,.agg [y 0,y 1,y 2,y 3]),(12,y 10),(13,bF),(15,.tup [.agg [y 12,y 13,y 14,y 15,y 16],y 17]),(16,.agg [y 0,y 1,y 2,y 3]),(17,.agg [y 4,y 5,y 6,y 7,y 8,y 9]),(18,.tup [.agg [y 12,y 13,y 14,y 15,y 16],y 17]),(19,.agg [y 12,y 13,y 14,y 15,y 16]),(20,y 17),(21,y 17),(22,bF),(24,.mp 12 0 0),(25,.mp 12 0 3),(26,y 15),(27,y 19),(28,.mp 0 0 3),(29,y 3),(30,y 20),(31,bF),(32,bF),(33,.mp 12 0 0),(34,.mp 12 0 0),(35,.mp 12 0 2),(36,y 14),(37,y 22),(38,.mp 12 0 4),(39,y 16),(40,y 23),(41,y 24),(42,.mp 0 0 0),(43,.mp 0 0 2),(44,y 2),(45,y 25),(46,bF),(47,bF),(48,bF),(49,.mp 12 0 4),(50,y 16),(51,y 27),(52,bF),(53,bF)]
def r132_0:List (Nat×j5):=ur [] [0,1,12] [(0,.row 29 4 [[y 0,y 1,y 2,y 3]]),(1,.row 31 6 [[y 4,y 5,y 6,y 7,y 8,y 9]]),(12,.row 35 5 [[y 12,y 13,y 14,y 15,y 16]])]
noncomputable def e132:=tre [q2,q122,q119,q123,q124,q130,q62,q131] [(29,z1)] q132 [(7785285493,⟨2,a132_0,r132_0,49⟩)] [.agg [y 0,y 1,y 2,y 3],.agg [y 4,y 5,y 6,y 7,y 8,y 9]] 10
theorem d132:e132=A7:=by kernel_rfl
theorem C0:∀ t∈([]:List TF),t.Ok Φ:=fun t ht=>by cases ht
theorem u9{q:TF}{l:List TF}(h:q.Ok Φ)(hl:∀ t∈l,t.Ok Φ):∀ t∈q::l,t.Ok Φ:=fun t ht=>by rcases List.mem_cons.1 ht with rfl | ht;exact h;exact hl t ht
theorem okt(i:Nat){Ψ:List TF}{S:List (Nat×SpL)}{q:TF}{H:List (Nat×Hint)}{p:List AV}{fr:Nat}(hΨ:∀ t∈Ψ,t.Ok Φ)(hi:tfs[i]?=some q)(hf:Nat.blt q.f XT=true)(h:tre Ψ S q H p fr=q.fn):q.Ok Φ :=tf_ok hT hF hmix pd0 hΨ (aD hi) hf h
structure Hand:Prop where
  slices_Clone_api_Point:q16.Ok Φ
  slices_SortFunc_plan_segment_plan_planar_1:q25.Ok Φ
  slices_SortFunc_int_walk_Around_2:q43.Ok Φ
  slices_Sort_int:q46.Ok Φ
  strings_Contains:q67.Ok Φ
  slices_Clone_int:q82.Ok Φ
  slices_SortFunc_api_Region_region_Regions_1:q87.Ok Φ
  slices_SortFunc_api_Range_span_Normal_1:q102.Ok Φ
  slices_SortFunc_collapse_candidate_collapse_candidates_1:q112.Ok Φ
  slices_Clone_api_Node:q115.Ok Φ
  slices_SortFunc_api_Node_collapse_shrink_4:q117.Ok Φ
theorem ok0(h:Hand):q0.Ok Φ:=okt 0 C0 rfl rfl d0
theorem ok1(h:Hand):q1.Ok Φ:=okt 1 (u9 (ok0 h) C0) rfl rfl d1
theorem ok2(h:Hand):q2.Ok Φ:=okt 2 (u9 (ok1 h) C0) rfl rfl d2
theorem ok3(h:Hand):q3.Ok Φ:=okt 3 C0 rfl rfl d3
theorem ok4(h:Hand):q4.Ok Φ:=okt 4 (u9 (ok3 h) C0) rfl rfl d4
theorem ok5(h:Hand):q5.Ok Φ:=okt 5 C0 rfl rfl d5
theorem ok6(h:Hand):q6.Ok Φ:=okt 6 C0 rfl rfl d6
theorem ok7(h:Hand):q7.Ok Φ:=okt 7 C0 rfl rfl d7
theorem ok8(h:Hand):q8.Ok Φ:=okt 8 (u9 (ok7 h) C0) rfl rfl d8
theorem ok9(h:Hand):q9.Ok Φ:=okt 9 (u9 (ok8 h) C0) rfl rfl d9
theorem ok10(h:Hand):q10.Ok Φ:=okt 10 C0 rfl rfl d10
theorem ok11(h:Hand):q11.Ok Φ:=okt 11 (u9 (ok10 h) C0) rfl rfl d11
theorem ok12(h:Hand):q12.Ok Φ:=okt 12 (u9 (ok10 h) (u9 (ok11 h) C0)) rfl rfl d12
theorem ok13(h:Hand):q13.Ok Φ:=okt 13 C0 rfl rfl d13
theorem ok14(h:Hand):q14.Ok Φ:=okt 14 (u9 (ok13 h) C0) rfl rfl d14
theorem ok15(h:Hand):q15.Ok Φ:=okt 15 (u9 (ok14 h) C0) rfl rfl d15
theorem ok17(h:Hand):q17.Ok Φ:=okt 17 (u9 h.slices_Clone_api_Point C0) rfl rfl d17
theorem ok18(h:Hand):q18.Ok Φ:=okt 18 C0 rfl rfl d18
theorem ok19(h:Hand):q19.Ok Φ:=okt 19 (u9 (ok17 h) (u9 (ok18 h) C0)) rfl rfl d19
theorem ok20(h:Hand):q20.Ok Φ:=okt 20 C0 rfl rfl d20
theorem ok21(h:Hand):q21.Ok Φ:=okt 21 (u9 (ok20 h) C0) rfl rfl d21
theorem ok22(h:Hand):q22.Ok Φ:=okt 22 C0 rfl rfl d22
theorem ok23(h:Hand):q23.Ok Φ:=okt 23 (u9 (ok22 h) C0) rfl rfl d23
theorem ok24(h:Hand):q24.Ok Φ:=okt 24 (u9 (ok21 h) (u9 (ok23 h) C0)) rfl rfl d24
theorem ok26(h:Hand):q26.Ok Φ:=okt 26 (u9 (ok20 h) C0) rfl rfl d26
theorem ok27(h:Hand):q27.Ok Φ:=okt 27 C0 rfl rfl d27
theorem ok28(h:Hand):q28.Ok Φ:=okt 28 C0 rfl rfl d28
theorem ok29(h:Hand):q29.Ok Φ:=okt 29 (u9 (ok27 h) (u9 (ok28 h) C0)) rfl rfl d29
theorem ok30(h:Hand):q30.Ok Φ:=okt 30 C0 rfl rfl d30
theorem ok31(h:Hand):q31.Ok Φ:=okt 31 C0 rfl rfl d31
theorem ok32(h:Hand):q32.Ok Φ:=okt 32 (u9 (ok27 h) (u9 (ok28 h) C0)) rfl rfl d32
theorem ok33(h:Hand):q33.Ok Φ:=okt 33 (u9 (ok32 h) C0) rfl rfl d33
theorem ok34(h:Hand):q34.Ok Φ:=okt 34 C0 rfl rfl d34
theorem ok35(h:Hand):q35.Ok Φ:=okt 35 (u9 (ok34 h) C0) rfl rfl d35
theorem ok36(h:Hand):q36.Ok Φ:=okt 36 (u9 (ok27 h) (u9 (ok29 h) (u9 (ok33 h) (u9 (ok35 h) C0)))) rfl rfl d36
theorem ok37(h:Hand):q37.Ok Φ:=okt 37 (u9 (ok20 h) (u9 (ok36 h) (u9 (ok30 h) (u9 (ok31 h) (u9 (ok29 h) C0))))) rfl rfl d37
theorem ok38(h:Hand):q38.Ok Φ:=okt 38 (u9 (ok19 h) (u9 h.slices_SortFunc_plan_segment_plan_planar_1 (u9 (ok21 h) (u9 (ok26 h) (u9 (ok20 h) (u9 (ok29 h) (u9 (ok30 h) (u9 (ok31 h) (u9 (ok37 h) C0))))))))) rfl rfl d38
theorem ok39(h:Hand):q39.Ok Φ:=okt 39 (u9 (ok5 h) (u9 (ok6 h) (u9 (ok9 h) (u9 (ok12 h) (u9 (ok15 h) (u9 (ok38 h) C0)))))) rfl rfl d39
theorem ok40(h:Hand):q40.Ok Φ:=okt 40 C0 rfl rfl d40
theorem ok41(h:Hand):q41.Ok Φ:=okt 41 (u9 (ok27 h) (u9 (ok40 h) (u9 (ok28 h) C0))) rfl rfl d41
theorem ok42(h:Hand):q42.Ok Φ:=okt 42 (u9 (ok41 h) C0) rfl rfl d42
theorem ok44(h:Hand):q44.Ok Φ:=okt 44 (u9 (ok18 h) (u9 (ok19 h) (u9 h.slices_SortFunc_int_walk_Around_2 C0))) rfl rfl d44
theorem ok45(h:Hand):q45.Ok Φ:=okt 45 (u9 (ok13 h) C0) rfl rfl d45
theorem ok47(h:Hand):q47.Ok Φ:=okt 47 (u9 (ok39 h) (u9 (ok44 h) (u9 (ok45 h) (u9 h.slices_Sort_int C0)))) rfl rfl d47
theorem ok48(h:Hand):q48.Ok Φ:=okt 48 (u9 (ok19 h) C0) rfl rfl d48
theorem ok49(h:Hand):q49.Ok Φ:=okt 49 (u9 (ok17 h) C0) rfl rfl d49
theorem ok50(h:Hand):q50.Ok Φ:=okt 50 (u9 (ok49 h) (u9 (ok19 h) C0)) rfl rfl d50
theorem ok51(h:Hand):q51.Ok Φ:=okt 51 (u9 (ok29 h) (u9 (ok33 h) C0)) rfl rfl d51
theorem ok52(h:Hand):q52.Ok Φ:=okt 52 C0 rfl rfl d52
theorem ok53(h:Hand):q53.Ok Φ:=tf_okF hT hF hmix pd0 (u9 (ok50 h) (u9 (ok51 h) (u9 (ok52 h) C0))) (aD (i:=53) rfl) rfl d53
theorem ok54(h:Hand):q54.Ok Φ:=okt 54 (u9 (ok49 h) C0) rfl rfl d54
theorem ok55(h:Hand):q55.Ok Φ:=okt 55 C0 rfl rfl d55
theorem ok56(h:Hand):q56.Ok Φ:=okt 56 (u9 (ok54 h) (u9 (ok55 h) C0)) rfl rfl d56
theorem ok57(h:Hand):q57.Ok Φ:=okt 57 (u9 (ok47 h) (u9 (ok48 h) (u9 (ok53 h) (u9 (ok56 h) C0)))) rfl rfl d57
theorem ok58(h:Hand):q58.Ok Φ:=okt 58 C0 rfl rfl d58
theorem ok59(h:Hand):q59.Ok Φ:=okt 59 (u9 (ok58 h) C0) rfl rfl d59
theorem ok60(h:Hand):q60.Ok Φ:=okt 60 C0 rfl rfl d60
theorem ok61(h:Hand):q61.Ok Φ:=okt 61 (u9 (ok60 h) C0) rfl rfl d61
theorem sJ0(h:Hand):q62.Ok Φ:=okt 62 C0 rfl rfl d62
theorem ok63(h:Hand):q63.Ok Φ:=okt 63 (u9 (sJ0 h) C0) rfl rfl d63
theorem ok64(h:Hand):q64.Ok Φ:=okt 64 (u9 (ok63 h) C0) rfl rfl d64
theorem ok65(h:Hand):q65.Ok Φ:=okt 65 C0 rfl rfl d65
theorem ok66(h:Hand):q66.Ok Φ:=okt 66 (u9 (ok65 h) C0) rfl rfl d66
theorem ok68(h:Hand):q68.Ok Φ:=okt 68 (u9 (ok66 h) (u9 h.strings_Contains (u9 (ok65 h) C0))) rfl rfl d68
theorem ok69(h:Hand):q69.Ok Φ:=okt 69 (u9 (ok68 h) C0) rfl rfl d69
theorem ok70(h:Hand):q70.Ok Φ:=okt 70 (u9 (ok69 h) C0) rfl rfl d70
theorem ok71(h:Hand):q71.Ok Φ:=okt 71 (u9 (ok70 h) C0) rfl rfl d71
theorem ok72(h:Hand):q72.Ok Φ:=okt 72 (u9 (sJ0 h) C0) rfl rfl d72
theorem ok73(h:Hand):q73.Ok Φ:=okt 73 (u9 (ok72 h) C0) rfl rfl d73
theorem ok74(h:Hand):q74.Ok Φ:=okt 74 (u9 (ok14 h) C0) rfl rfl d74
theorem ok75(h:Hand):q75.Ok Φ:=okt 75 (u9 (sJ0 h) (u9 (ok18 h) (u9 (ok17 h) (u9 (ok74 h) C0)))) rfl rfl d75
theorem ok76(h:Hand):q76.Ok Φ:=okt 76 (u9 (ok75 h) C0) rfl rfl d76
theorem ok77(h:Hand):q77.Ok Φ:=okt 77 (u9 (ok76 h) C0) rfl rfl d77
theorem ok78(h:Hand):q78.Ok Φ:=okt 78 (u9 (ok77 h) C0) rfl rfl d78
theorem ok79(h:Hand):q79.Ok Φ:=okt 79 (u9 (ok78 h) C0) rfl rfl d79
theorem ok80(h:Hand):q80.Ok Φ:=okt 80 C0 rfl rfl d80
theorem ok81(h:Hand):q81.Ok Φ:=okt 81 (u9 (ok57 h) (u9 (ok59 h) (u9 (ok61 h) (u9 (ok64 h) (u9 (ok71 h) (u9 (ok73 h) (u9 (ok79 h) (u9 (sJ0 h) (u9 (ok80 h) C0))))))))) rfl rfl d81
theorem ok83(h:Hand):q83.Ok Φ:=okt 83 (u9 h.slices_Clone_int C0) rfl rfl d83
theorem ok84(h:Hand):q84.Ok Φ:=okt 84 C0 rfl rfl d84
theorem ok85(h:Hand):q85.Ok Φ:=okt 85 (u9 (ok84 h) C0) rfl rfl d85
theorem ok86(h:Hand):q86.Ok Φ:=okt 86 (u9 (ok23 h) C0) rfl rfl d86
theorem ok88(h:Hand):q88.Ok Φ:=okt 88 (u9 (ok47 h) (u9 (ok85 h) (u9 (ok48 h) (u9 (ok53 h) (u9 (ok56 h) (u9 h.slices_SortFunc_api_Region_region_Regions_1 C0)))))) rfl rfl d88
theorem ok89(h:Hand):q89.Ok Φ:=okt 89 (u9 (ok88 h) C0) rfl rfl d89
theorem ok90(h:Hand):q90.Ok Φ:=okt 90 (u9 (sJ0 h) (u9 (ok14 h) C0)) rfl rfl d90
theorem ok91(h:Hand):q91.Ok Φ:=okt 91 C0 rfl rfl d91
theorem ok92(h:Hand):q92.Ok Φ:=okt 92 (u9 (ok49 h) C0) rfl rfl d92
theorem ok93(h:Hand):q93.Ok Φ:=okt 93 (u9 h.slices_Sort_int C0) rfl rfl d93
theorem ok94(h:Hand):q94.Ok Φ:=okt 94 (u9 (ok22 h) C0) rfl rfl d94
theorem ok95(h:Hand):q95.Ok Φ:=okt 95 (u9 (ok93 h) (u9 (ok94 h) C0)) rfl rfl d95
theorem ok96(h:Hand):q96.Ok Φ:=okt 96 (u9 (sJ0 h) (u9 (ok14 h) (u9 (ok95 h) C0))) rfl rfl d96
theorem ok97(h:Hand):q97.Ok Φ:=okt 97 (u9 (sJ0 h) (u9 (ok90 h) (u9 (ok91 h) (u9 (ok54 h) (u9 (ok92 h) (u9 (ok52 h) (u9 (ok96 h) C0))))))) rfl rfl d97
theorem ok98(h:Hand):q98.Ok Φ:=okt 98 C0 rfl rfl d98
theorem ok99(h:Hand):q99.Ok Φ:=okt 99 C0 rfl rfl d99
theorem ok100(h:Hand):q100.Ok Φ:=okt 100 (u9 (ok99 h) C0) rfl rfl d100
theorem ok101(h:Hand):q101.Ok Φ:=okt 101 (u9 (ok23 h) C0) rfl rfl d101
theorem ok103(h:Hand):q103.Ok Φ:=okt 103 (u9 h.slices_SortFunc_api_Range_span_Normal_1 C0) rfl rfl d103
theorem ok104(h:Hand):q104.Ok Φ:=okt 104 (u9 (ok103 h) C0) rfl rfl d104
theorem ok105(h:Hand):q105.Ok Φ:=okt 105 (u9 (ok55 h) (u9 (ok100 h) (u9 (ok18 h) (u9 h.slices_Sort_int (u9 (ok104 h) C0))))) rfl rfl d105
theorem ok106(h:Hand):q106.Ok Φ:=okt 106 (u9 (ok105 h) C0) rfl rfl d106
theorem ux0(h:Hand):xy0.Ok Φ:=okt 107 (u9 (ok47 h) (u9 (ok13 h) (u9 (ok48 h) (u9 (ok53 h) (u9 (ok56 h) (u9 (ok98 h) (u9 (ok106 h) C0))))))) rfl rfl d107
theorem ok108(h:Hand):q108.Ok Φ:=okt 108 (u9 (ok81 h) (u9 (ok83 h) (u9 (ok89 h) (u9 (ok97 h) (u9 (ux0 h) C0))))) rfl rfl d108
theorem ok109(h:Hand):q109.Ok Φ:=okt 109 (u9 (ok50 h) C0) rfl rfl d109
theorem ok110(h:Hand):q110.Ok Φ:=okt 110 C0 rfl rfl d110
theorem ok111(h:Hand):q111.Ok Φ:=okt 111 (u9 (ok23 h) (u9 (ok110 h) C0)) rfl rfl d111
theorem ok113(h:Hand):q113.Ok Φ:=okt 113 (u9 (ok89 h) (u9 (ok97 h) (u9 (ok109 h) (u9 h.slices_SortFunc_collapse_candidate_collapse_candidates_1 C0)))) rfl rfl d113
theorem ok114(h:Hand):q114.Ok Φ:=okt 114 (u9 (ok81 h) (u9 (ok113 h) (u9 (ux0 h) C0))) rfl rfl d114
theorem ok116(h:Hand):q116.Ok Φ:=okt 116 (u9 (ok23 h) C0) rfl rfl d116
theorem ok118(h:Hand):q118.Ok Φ:=okt 118 (u9 h.slices_Clone_api_Node (u9 h.slices_Clone_api_Point (u9 h.slices_Clone_int (u9 h.slices_SortFunc_api_Node_collapse_shrink_4 C0)))) rfl rfl d118
theorem ok119(h:Hand):q119.Ok Φ:=okt 119 (u9 (ok81 h) (u9 h.slices_Clone_api_Node (u9 h.slices_Clone_api_Point (u9 h.slices_Clone_int (u9 (ok113 h) (u9 (ux0 h) (u9 (ok118 h) (u9 h.slices_Sort_int C0)))))))) rfl rfl d119
theorem ok120(h:Hand):q120.Ok Φ:=okt 120 (u9 (ok81 h) (u9 (ok83 h) (u9 (sJ0 h) (u9 (ok89 h) (u9 (ok97 h) (u9 (ux0 h) (u9 (ok118 h) C0))))))) rfl rfl d120
theorem ok121(h:Hand):q121.Ok Φ:=okt 121 C0 rfl rfl d121
theorem ok122(h:Hand):q122.Ok Φ:=okt 122 (u9 (ok4 h) (u9 (ok108 h) (u9 (ok114 h) (u9 (ok119 h) (u9 (ok120 h) (u9 (ok121 h) C0)))))) rfl rfl d122
theorem ok123(h:Hand):q123.Ok Φ:=okt 123 C0 rfl rfl d123
theorem ok124(h:Hand):q124.Ok Φ:=okt 124 C0 rfl rfl d124
theorem ok125(h:Hand):q125.Ok Φ:=okt 125 C0 rfl rfl d125
theorem ok126(h:Hand):q126.Ok Φ:=okt 126 (u9 (ok125 h) C0) rfl rfl d126
theorem ok127(h:Hand):q127.Ok Φ:=okt 127 (u9 (ok126 h) C0) rfl rfl d127
theorem ok128(h:Hand):q128.Ok Φ:=okt 128 C0 rfl rfl d128
theorem ok129(h:Hand):q129.Ok Φ:=okt 129 (u9 (ok128 h) C0) rfl rfl d129
theorem ok130(h:Hand):q130.Ok Φ:=okt 130 (u9 (ok127 h) (u9 (ok129 h) C0)) rfl rfl d130
theorem ok131(h:Hand):q131.Ok Φ:=okt 131 (u9 (ok83 h) (u9 (sJ0 h) (u9 (ok39 h) (u9 (ok14 h) (u9 (ok19 h) C0))))) rfl rfl d131
theorem ok132(h:Hand):q132.Ok Φ:=okt 132 (u9 (ok2 h) (u9 (ok122 h) (u9 (ok119 h) (u9 (ok123 h) (u9 (ok124 h) (u9 (ok130 h) (u9 (sJ0 h) (u9 (ok131 h) C0)))))))) rfl rfl d132
end Go.Proofs.YtenigicdlmagjaaGreatDoor
