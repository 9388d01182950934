/- A part of the proof; its readable source lies in wip of the prover's repo (squeezed here for the limit of bytes). -/
import Derived.Test.YthaceaflkhpooaaGreatDoorMd
import Derived.Test.YthaceaflkhpooaaGreatDoorProg
import Derived.KernelRfl
set_option linter.unusedVariables false
set_option linter.unusedSimpArgs false
set_option linter.unusedSectionVars false
namespace Go.Proofs.YthaceaflkhpooaaGreatDoor
open Go Go.Ab Go.Proofs
set_option maxRecDepth 100000
class Mx where
  n:Int
def eE0:List Value:=[.int .i32 32,.int .i32 32,.int .i64 0,.int .i32 39,.int .i32 41,.int .i64 0,.int .i32 45,.int .i32 46,.int .i64 0,.int .i32 48,.int .i32 57,.int .i64 0,.int .i32 65,.int .i32 90,.int .i64 1,.int .i32 97,.int .i32 122,.int .i64 1,.int .i32 192,.int .i32 214,.int .i64 1,.int .i32 216,.int .i32 246,.int .i64 1,.int .i32 248,.int .i32 591,.int .i64 1,.int .i32 880,.int .i32 1023,.int .i64 2,.int .i32 1024,.int .i32 1279,.int .i64 3,.int .i32 1488,.int .i32 1514,.int .i64 4,.int .i32 19968,.int .i32 40959,.int .i64 5]
instance [Mx]:B0:=⟨fun b o=>match Nat.beq b 0 with
  | true=>eE0[o]?
  | false=>match Nat.beq b 3&&Nat.beq o 0 with
    | true=>some (.int .i64 Mx.n)
    | false=>none⟩
variable [Mx]
noncomputable def tT:Tr TI:=tTr Tryz.prog
noncomputable def fT:Tr Func:=fTr Tryz.prog
noncomputable def T:Tab:=fun t=>tT.get t
noncomputable def F:FuncId->Option Func:=fun f=>fT.get f
theorem hT:C2 Tryz.prog T:=tTr_ok Tryz.prog
theorem hF:∀ f fn,F f=some fn->Tryz.prog.funcs[f]?=some fn:=fTr_ok Tryz.prog
theorem hmix:Tryz.prog.follows .mixedOrders=true:=by kernel_rfl
def A:AV:=.any
def bF:AV:=.sc (.bool false)
def bT:AV:=.sc (.bool true)
def y(n:Nat):AV:=.sy n
def iV(n:Int):AV:=.sc (.int .i64 n)
def get1{α:Type}:Nat->List (Nat×α)->Option α
  | _,[]=>none
  | n,(k,v)::l=>match Nat.beq n k with
    | true=>some v
    | false=>get1 n l
def at1{α:Type}:Nat->List α->Option α
  | _,[]=>none
  | 0,a::_=>some a
  | n+1,_::l=>at1 n l
def up(l:List AV)(n:Nat)(m:List (Nat×AV)):List AV:=(List.range n).map fun i=>match get1 i m with
  | some v=>v
  | none=>match at1 i l with
    | some v=>v
    | none=>.any
def ur(l:List (Nat×l7))(ks:List Nat)(m:List (Nat×l7)):List (Nat×l7):=ks.map fun k=>(k,match get1 k m with
  | some v=>v
  | none=>match get1 k l with
    | some v=>v
    | none=>.row 0 0 [])
abbrev z0:Sp:=.sl (.one sI)
abbrev z1:SpL:=.cons sI (.one sI)
abbrev z2:SpL:=.one z0
abbrev z3:Sp:=.sl z1
abbrev z4:Sp:=.agg z1
abbrev z5:SpL:=.cons sI z1
abbrev z6:SpL:=.one z3
abbrev z7:SpL:=.cons .str z2
abbrev z8:Sp:=.sl z5
abbrev z9:SpL:=.cons sI z6
abbrev z10:SpL:=.cons sI z7
abbrev z11:SpL:=.cons z3 z1
abbrev z12:SpL:=.cons sI z9
abbrev z13:SpL:=.cons sI z10
abbrev z14:SpL:=.cons sI z11
abbrev z15:SpL:=.cons sI z13
abbrev z16:SpL:=.cons z4 (.one z4)
abbrev z17:Sp:=.sl z15
abbrev z18:SpL:=.cons sI z14
abbrev z19:SpL:=.one z17
abbrev z20:SpL:=.cons sI z18
abbrev z21:SpL:=.cons z3 z12
abbrev z22:Sp:=.sl z20
abbrev z23:SpL:=.cons sI (.cons z0 (.cons (.sl z2) z2))
abbrev z24:SpL:=.cons sI z21
abbrev z25:SpL:=.cons z0 z19
abbrev z26:SpL:=.cons sI z24
abbrev z27:SpL:=.cons sI z26
abbrev z28:SpL:=.cons z22 z2
abbrev z29:Sp:=.ptr z27
abbrev z30:SpL:=.cons z29 (.one sI)
abbrev z31:Sp:=.agg z30
abbrev z32:SpL:=.cons z8 z28
abbrev z33:Sp:=.agg z32
abbrev z34:SpL:=.one z33
abbrev z35:SpL:=.cons z33 (.one sI)
abbrev z36:SpL:=.cons z22 z25
abbrev z37:SpL:=.cons z8 z36
abbrev z38:Sp:=.agg z37
abbrev z39:SpL:=.cons z38 (.one sI)
noncomputable abbrev q0:TF:=⟨9,z34,.bool,G6⟩
noncomputable abbrev q1:TF:=⟨4,(.one z38),.bool,G7⟩
noncomputable abbrev q2:TF:=⟨11,(.cons sI (.one z4)),z38,C0⟩
noncomputable abbrev q3:TF:=⟨129,z34,(.tup (.cons z0 z2)),M0⟩
noncomputable abbrev q4:TF:=⟨130,z2,.bool,J3⟩
noncomputable abbrev q5:TF:=⟨146,(.one sI),.bool,N7⟩
noncomputable abbrev q6:TF:=⟨57,(.cons z0 (.one (.fn 146 .nil))),.bool,u9⟩
noncomputable abbrev q7:TF:=⟨131,z2,.bool,L3⟩
noncomputable abbrev q8:TF:=⟨147,(.one z4),.bool,L8⟩
noncomputable abbrev q9:TF:=⟨148,(.cons z3 (.one (.fn 147 .nil))),.bool,r9⟩
noncomputable abbrev q10:TF:=⟨132,z34,.bool,aD0⟩
noncomputable abbrev q11:TF:=⟨101,(.cons z0 (.one sI)),sI,I7⟩
noncomputable abbrev q12:TF:=⟨70,(.cons z0 (.one sI)),.bool,u6⟩
noncomputable abbrev q13:TF:=⟨133,(.cons z33 z2),sI,P9⟩
noncomputable abbrev q14:TF:=⟨2000035,z6,z3,slices_Clone_api_Point⟩
noncomputable abbrev q15:TF:=⟨59,z35,(.tup (.cons (.agg z20) (.one .bool))),aO0⟩
noncomputable abbrev q16:TF:=⟨18,z35,(.tup (.cons (.agg z5) (.one .bool))),N3⟩
noncomputable abbrev q17:TF:=⟨37,z35,(.tup (.cons z3 (.one sI))),K6⟩
noncomputable abbrev q18:TF:=⟨155,(.one z31),(.tup z16),u4⟩
noncomputable abbrev q19:TF:=⟨152,(.one z31),sI,B2⟩
noncomputable abbrev q20:TF:=⟨69,(.one sI),.bool,C7⟩
noncomputable abbrev q21:TF:=⟨43,z1,sI,y7⟩
noncomputable abbrev q22:TF:=⟨151,(.cons z31 (.one z31)),sI,T1⟩
noncomputable abbrev q23:TF:=⟨1000150,(.cons (.sl z30) (.cons sI (.one (.fn 151 .nil)))),(.sl z30),slices_SortFunc_plan_segment_plan_planar_1⟩
noncomputable abbrev q24:TF:=⟨153,(.one z31),sI,H4⟩
noncomputable abbrev q25:TF:=⟨71,z6,.bool,J9⟩
noncomputable abbrev q26:TF:=⟨72,(.cons z4 z16),sI,K1⟩
noncomputable abbrev q27:TF:=⟨49,(.cons z4 z16),.bool,A5⟩
noncomputable abbrev q28:TF:=⟨156,(.one z31),.bool,A3⟩
noncomputable abbrev q29:TF:=⟨157,(.one z31),.bool,u7⟩
noncomputable abbrev q30:TF:=⟨105,(.cons z4 z16),sI,bl0⟩
noncomputable abbrev q31:TF:=⟨80,(.cons z4 z16),sI,A7⟩
noncomputable abbrev q32:TF:=⟨208,z16,.bool,o8⟩
noncomputable abbrev q33:TF:=⟨200,(.cons z4 (.cons z4 z16)),sI,W3⟩
noncomputable abbrev q34:TF:=⟨178,(.cons z4 (.cons z4 z16)),sI,bB0⟩
noncomputable abbrev q35:TF:=⟨154,(.cons z31 (.cons z31 (.one (.fmap (.cons sI (.one z4)))))),.bool,K0⟩
noncomputable abbrev q36:TF:=⟨134,z34,.bool,as0⟩
noncomputable abbrev q37:TF:=⟨106,z34,sI,bA0⟩
noncomputable abbrev q38:TF:=⟨159,z16,.bool,R6⟩
noncomputable abbrev q39:TF:=⟨138,(.cons z4 z16),.bool,X8⟩
noncomputable abbrev q40:TF:=⟨137,(.cons sI (.cons sI (.cons (.ptr z5) (.one (.ptr (.one (.fmap (.cons sI (.one z4))))))))),sI,J1⟩
noncomputable abbrev q41:TF:=⟨1000136,(.cons z0 (.cons sI (.one (.fn 137 (.cons (.ptr z5) (.one (.ptr (.one (.fmap (.cons sI (.one z4))))))))))),z0,slices_SortFunc_int_walk_Around_2⟩
noncomputable abbrev q42:TF:=⟨107,z35,z0,W4⟩
noncomputable abbrev q43:TF:=⟨108,(.cons z0 (.one sI)),sI,M5⟩
noncomputable abbrev q44:TF:=⟨1000109,(.cons z0 (.one sI)),z0,slices_Sort_int⟩
noncomputable abbrev q45:TF:=⟨81,z34,(.tup (.cons (.sl z2) (.one sI))),O0⟩
noncomputable abbrev q46:TF:=⟨82,z34,(.fmap z9),M8⟩
noncomputable abbrev q47:TF:=⟨66,z35,(.tup (.cons (.agg z20) (.one .bool))),aj0⟩
noncomputable abbrev q48:TF:=⟨40,(.cons z33 z2),sI,S4⟩
noncomputable abbrev q49:TF:=⟨140,(.cons (.fmap z9) (.cons z0 (.one z4))),.bool,y5⟩
noncomputable abbrev q50:TF:=⟨19,z35,sI,R1⟩
noncomputable abbrev q51:TF:=⟨83,(.cons z33 (.cons (.sl z2) (.one (.fmap z9)))),(.sl z23),L6⟩
noncomputable abbrev q52:TF:=⟨112,z35,sI,Y7⟩
noncomputable abbrev q53:TF:=⟨113,(.one (.agg z23)),(.sl z2),D7⟩
noncomputable abbrev q54:TF:=⟨84,(.cons z33 (.one (.sl z23))),(.tup (.cons z0 (.one .bool))),S6⟩
noncomputable abbrev q55:TF:=⟨21,z34,sI,Y1⟩
noncomputable abbrev q56:TF:=⟨22,(.one (.agg z15)),.bool,aC0⟩
noncomputable abbrev q57:TF:=⟨33,(.cons z17 (.one (.fn 22 .nil))),.bool,r8⟩
noncomputable abbrev q58:TF:=⟨24,(.one (.agg z15)),.bool,U6⟩
noncomputable abbrev q59:TF:=⟨33,(.cons z17 (.one (.fn 24 .nil))),.bool,j8⟩
noncomputable abbrev q60:TF:=⟨26,(.one sI),sI,B4⟩
noncomputable abbrev q61:TF:=⟨25,(.one (.agg z15)),.bool,T9⟩
noncomputable abbrev q62:TF:=⟨33,(.cons z17 (.one (.fn 25 .nil))),.bool,j9⟩
noncomputable abbrev q63:TF:=⟨87,(.one sI),sI,R9⟩
noncomputable abbrev q64:TF:=⟨85,(.one .str),(.tup (.cons z0 (.one sI))),Y6⟩
noncomputable abbrev q65:TF:=⟨86,(.cons .str (.one .str)),.bool,strings_Contains⟩
noncomputable abbrev q66:TF:=⟨56,(.one .str),(.tup (.cons z0 (.one sI))),cD0⟩
noncomputable abbrev q67:TF:=⟨28,(.one .str),sI,V6⟩
noncomputable abbrev q68:TF:=⟨27,(.one (.agg z15)),.bool,U4⟩
noncomputable abbrev q69:TF:=⟨33,(.cons z17 (.one (.fn 27 .nil))),.bool,l5⟩
noncomputable abbrev q70:TF:=⟨29,(.one (.agg z15)),.bool,U0⟩
noncomputable abbrev q71:TF:=⟨33,(.cons z17 (.one (.fn 29 .nil))),.bool,j6⟩
noncomputable abbrev q72:TF:=⟨60,(.cons z0 (.one sI)),.bool,dT0⟩
noncomputable abbrev q73:TF:=⟨58,(.cons sI (.cons (.ptr z15) (.one (.ptr z32)))),.bool,K2⟩
noncomputable abbrev q74:TF:=⟨57,(.cons z0 (.one (.fn 58 (.cons (.ptr z15) (.one (.ptr z32)))))),.bool,y8⟩
noncomputable abbrev q75:TF:=⟨31,(.cons z33 (.one (.agg z15))),.bool,N8⟩
noncomputable abbrev q76:TF:=⟨30,(.cons (.agg z15) (.one (.ptr z37))),.bool,U5⟩
noncomputable abbrev q77:TF:=⟨33,(.cons z17 (.one (.fn 30 (.one (.ptr z37))))),.bool,j7⟩
noncomputable abbrev q78:TF:=⟨55,z2,.bool,W6⟩
noncomputable abbrev q79:TF:=⟨13,(.one z38),sI,D9⟩
noncomputable abbrev q80:TF:=⟨12,(.one sI),(.tup (.cons z3 (.one sI))),A9⟩
noncomputable abbrev q81:TF:=⟨44,(.cons z38 z1),z0,T7⟩
noncomputable abbrev q82:TF:=⟨16,z39,.bool,I6⟩
noncomputable abbrev q83:TF:=⟨2000034,(.one z8),z8,slices_Clone_api_Node⟩
noncomputable abbrev q84:TF:=⟨36,z2,z0,slices_Clone_int⟩
noncomputable abbrev q85:TF:=⟨1000038,(.cons z3 (.one sI)),z3,slices_Reverse_api_Point⟩
noncomputable abbrev q86:TF:=⟨100,(.one (.int .u64)),sI,bits_Len64⟩
noncomputable abbrev q87:TF:=⟨68,(.one (.int .u64)),sI,bits_Len⟩
noncomputable abbrev q88:TF:=⟨65,(.cons (.agg z23) (.one (.agg z23))),sI,M3⟩
noncomputable abbrev q89:TF:=⟨1000064,(.cons (.sl z23) (.cons sI (.one (.fn 65 .nil)))),(.sl z23),slices_SortFunc_api_Region_region_Regions_1⟩
noncomputable abbrev q90:TF:=⟨39,z34,(.tup (.cons (.sl z23) (.one sI))),Q1⟩
noncomputable abbrev q91:TF:=⟨42,(.cons (.agg z12) (.one (.agg z12))),sI,G5⟩
noncomputable abbrev q92:TF:=⟨1000041,(.cons (.sl z12) (.cons sI (.one (.fn 42 .nil)))),(.sl z12),slices_SortFunc_displace_outline_displace_makeChart_1⟩
noncomputable abbrev q93:TF:=⟨15,z34,(.agg (.cons (.sl (.cons sI z5)) (.one (.sl z12)))),D8⟩
noncomputable abbrev q94:TF:=⟨48,(.cons (.agg (.cons sI z5)) (.one z4)),.bool,dC0⟩
noncomputable abbrev q95:TF:=⟨47,(.cons (.agg (.cons sI z5)) (.cons z4 (.one sI))),.bool,A4⟩
noncomputable abbrev q96:TF:=⟨76,z16,sI,E8⟩
noncomputable abbrev q97:TF:=⟨75,(.one sI),(.int .u64),F8⟩
noncomputable abbrev q98:TF:=⟨74,(.cons (.int .u64) (.one (.int .u64))),(.tup (.cons (.int .u64) (.one (.int .u64)))),P0⟩
noncomputable abbrev q99:TF:=⟨128,(.one (.int .u64)),sI,bits_LeadingZeros64⟩
noncomputable abbrev q100:TF:=⟨103,(.cons (.int .u64) (.cons (.int .u64) (.one (.int .u64)))),(.tup (.cons (.int .u64) (.one (.int .u64)))),bC0⟩
noncomputable abbrev q101:TF:=⟨104,(.cons (.int .u64) (.one .bool)),(.tup (.cons sI (.one .bool))),K4⟩
noncomputable abbrev q102:TF:=⟨77,z5,(.tup z1),ai0⟩
noncomputable abbrev q103:TF:=⟨102,(.cons (.int .u64) (.one (.int .u64))),(.int .u64),O4⟩
noncomputable abbrev q104:TF:=⟨78,z1,sI,dG0⟩
noncomputable abbrev q105:TF:=⟨79,(.cons (.int .u64) (.cons (.int .u64) (.one (.int .u64)))),(.tup (.cons (.int .u64) (.one (.int .u64)))),bits_Add64⟩
noncomputable abbrev q106:TF:=⟨51,(.cons z4 z16),z4,P8⟩
noncomputable abbrev q107:TF:=⟨73,(.one z4),.bool,X9⟩
noncomputable abbrev q108:TF:=⟨50,z16,sI,Z5⟩
noncomputable abbrev q109:TF:=⟨52,(.cons (.agg (.cons (.sl (.cons sI z5)) (.one (.sl z12)))) (.one z4)),sI,B9⟩
noncomputable abbrev q110:TF:=⟨20,(.cons (.agg (.cons (.sl (.cons sI z5)) (.one (.sl z12)))) (.cons z8 (.cons (.agg z5) (.cons z4 (.one sI))))),.bool,n4⟩
noncomputable abbrev q111:TF:=⟨10,(.cons z38 z1),(.tup (.cons z38 (.cons .bool (.one sI)))),C5⟩
noncomputable abbrev q112:TF:=⟨8,(.cons z38 (.cons sI (.cons z4 (.one sI)))),.bool,A6⟩
noncomputable abbrev q113:TF:=⟨5,.nil,.bool,A8⟩
noncomputable abbrev q114:TF:=⟨6,z39,(.tup z39),D3⟩
noncomputable abbrev q115:TF:=⟨7,z35,(.tup (.cons (.agg z5) (.one .bool))),E6⟩
noncomputable abbrev q116:TF:=⟨3,z39,.bool,y9⟩
noncomputable def tfs:List TF:=[q0,q1,q2,q3,q4,q5,q6,q7,q8,q9,q10,q11,q12,q13,q14,q15,q16,q17,q18,q19,q20,q21,q22,q23,q24,q25,q26,q27,q28,q29,q30,q31,q32,q33,q34,q35,q36,q37,q38,q39,q40,q41,q42,q43,q44,q45,q46,q47,q48,q49,q50,q51,q52,q53,q54,q55,q56,q57,q58,q59,q60,q61,q62,q63,q64,q65,q66,q67,q68,q69,q70,q71,q72,q73,q74,q75,q76,q77,q78,q79,q80,q81,q82,q83,q84,q85,q86,q87,q88,q89,q90,q91,q92,q93,q94,q95,q96,q97,q98,q99,q100,q101,q102,q103,q104,q105,q106,q107,q108,q109,q110,q111,q112,q113,q114,q115,q116]
noncomputable def Φ:H8:=eA0 Tryz.prog tfs
noncomputable def tre(Ψ:List TF)(S:List (Nat×SpL))(q:TF)(H:List (Nat×Hint))(p:List AV)(fr:Nat):q.dom.T->Option q.cod.T:=un0 T Ψ (shL S) q.dom q.cod p (gX0 T Φ F H 100000 q.f p fr)
theorem pg0:wO0 tfs=true:=by kernel_rfl
def a0_0:List AV:=up [] 47 [(0,.agg [y 0,y 1,y 2]),(1,.mp 0 0 0),(2,bF),(3,y 9),(4,y 10),(5,.mp 0 0 0),(6,y 0),(7,y 3),(8,bF),(9,bF),(10,.mp 0 0 1),(11,y 1),(12,y 5),(13,bF),(14,bF),(15,bF),(16,.mp 0 0 2),(17,y 2),(18,y 7),(19,bF),(20,bF)]
def r0_0:List (Nat×l7):=ur [] [0] [(0,.row 26 3 [[y 0,y 1,y 2]])]
noncomputable def e0:=tre [] [(9,z1)] q0 [(2416247387,⟨2,a0_0,r0_0,20⟩)] [.agg [y 0,y 1,y 2]] 3
theorem d0:e0=G6:=by kernel_rfl
def a1_0:List AV:=up [] 39 [(0,.agg [y 0,y 1,y 2,y 3]),(1,.mp 0 0 0),(2,bF),(3,y 8),(4,.mp 0 0 0),(5,.agg [y 0,y 1,y 2]),(6,y 4),(7,bF),(8,bF),(9,.mp 0 0 3),(10,y 3),(11,y 6),(12,bF),(13,bF)]
def r1_0:List (Nat×l7):=ur [] [0] [(0,.row 29 4 [[y 0,y 1,y 2,y 3]])]
noncomputable def e1:=tre [q0] [(8,(.one sI))] q1 [(2147746055,⟨1,a1_0,r1_0,13⟩)] [.agg [y 0,y 1,y 2,y 3]] 4
theorem d1:e1=G7:=by kernel_rfl
noncomputable def e2:=tre [] [] q2 [] [y 0,.agg [y 1,y 2]] 3
theorem d2:e2=C0:=by kernel_rfl
def a3_0:List AV:=up [] 36 [(0,.agg [y 0,y 1,y 2]),(1,.mp 0 0 0),(2,.ss 7 1 4),(3,.sc (.slice none 0 0)),(8,.mp 0 0 0),(9,y 0),(10,y 3),(11,y 5)]
def r3_0:List (Nat×l7):=ur [] [0,7] [(0,.row 26 3 [[y 0,y 1,y 2]]),(7,.xrow 3 1 4)]
def a3_1:List AV:=up a3_0 36 [(3,.ss 13 1 9),(12,bF),(21,.mp 0 0 1),(22,y 1),(23,y 8),(24,y 10)]
def r3_1:List (Nat×l7):=ur r3_0 [0,7,13] [(13,.xrow 3 1 9)]
noncomputable def e3:=tre [] [(4,(.cons z0 (.one sI))),(9,(.cons z0 (.one sI)))] q3 [(1073872980,⟨2,a3_0,r3_0,8⟩),(2416378096,⟨2,a3_1,r3_1,14⟩)] [.agg [y 0,y 1,y 2]] 3
theorem d3:e3=M0:=by kernel_rfl
def a4_0:List AV:=up [] 20 [(0,y 0),(2,bF),(3,y 1)]
noncomputable def e4:=tre [] [(1,(.one sI))] q4 [(268566575,⟨1,a4_0,[],2⟩)] [y 0] 1
theorem d4:e4=J3:=by kernel_rfl
noncomputable def e5:=tre [] [] q5 [] [y 0] 1
theorem d5:e5=N7:=by kernel_rfl
def a6_0:List AV:=up [] 19 [(0,y 0),(1,.fn (.func 146) [] []),(4,iV 0),(6,y 0),(7,y 1),(8,y 2)]
noncomputable def e6:=tre [q5] [(2,(.one sI))] q6 [(537002376,⟨1,a6_0,[],10⟩)] [y 0,.fn (.func 146) [] []] 1
theorem d6:e6=u9:=by kernel_rfl
noncomputable def e7:=tre [q6] [] q7 [] [y 0] 1
theorem d7:e7=L3:=by kernel_rfl
noncomputable def e8:=tre [] [] q8 [] [.agg [y 0,y 1]] 2
theorem d8:e8=L8:=by kernel_rfl
def a9_0:List AV:=up [] 19 [(0,y 0),(1,.fn (.func 147) [] []),(4,iV 0),(6,y 0),(7,y 1),(8,y 2)]
noncomputable def e9:=tre [q8] [(2,(.one sI))] q9 [(537002378,⟨1,a9_0,[],10⟩)] [y 0,.fn (.func 147) [] []] 1
theorem d9:e9=r9:=by kernel_rfl
def a10_0:List AV:=up [] 32 [(0,.agg [y 0,y 1,y 2]),(1,.mp 0 0 0),(2,bF),(3,.fn (.func 147) [] []),(8,.mp 0 0 0),(9,y 0),(10,y 3),(11,y 4)]
def r10_0:List (Nat×l7):=ur [] [0] [(0,.row 26 3 [[y 0,y 1,y 2]])]
def a10_1:List AV:=up a10_0 32 [(12,bF),(20,.mp 0 0 1),(21,y 1),(22,y 7),(23,y 8)]
def r10_1:List (Nat×l7):=ur r10_0 [0] []
noncomputable def e10:=tre [q8,q9] [(4,(.one sI)),(8,(.one sI))] q10 [(1073939123,⟨1,a10_0,r10_0,7⟩),(2148074312,⟨1,a10_1,r10_1,12⟩)] [.agg [y 0,y 1,y 2]] 3
theorem d10:e10=aD0:=by kernel_rfl
def a11_0:List AV:=up [] 19 [(0,y 0),(1,y 1),(4,iV 0),(6,y 0),(7,y 2),(8,y 3)]
noncomputable def e11:=tre [] [(3,(.one sI))] q11 [(805437538,⟨1,a11_0,[],4⟩)] [y 0,y 1] 2
theorem d11:e11=I7:=by kernel_rfl
noncomputable def e12:=tre [q11] [] q12 [] [y 0,y 1] 2
theorem d12:e12=u6:=by kernel_rfl
def a13_0:List AV:=up [] 85 [(0,.agg [y 0,y 1,y 2]),(1,y 3),(2,.mp 0 0 0),(4,iV 0),(15,.mp 0 0 0),(16,y 0),(17,y 4),(18,y 5)]
def r13_0:List (Nat×l7):=ur [] [0] [(0,.row 26 3 [[y 0,y 1,y 2]])]
def a13_1:List AV:=up a13_0 85 [(5,y 5),(6,.mp 10 0 0),(19,bT),(20,y 5),(21,.rp [y 8,y 9,y 10]),(22,.agg [y 8,y 9,y 10]),(23,.mp 0 0 0),(24,y 0),(25,y 5),(26,y 11),(27,y 12),(28,y 13)]
def r13_1:List (Nat×l7):=ur r13_0 [0,10] [(10,.row 38 3 [[y 8,y 9,y 10]])]
def a13_2:List AV:=up a13_1 85 [(5,A),(6,A),(19,bF),(20,A),(21,A),(22,A),(23,A),(24,A),(25,A),(26,A),(27,A),(28,A),(39,.mp 0 0 1),(40,y 1),(41,y 8),(42,y 9)]
def r13_2:List (Nat×l7):=ur r13_1 [0] []
def a13_3:List AV:=up a13_2 85 [(43,bF),(59,.mp 0 0 1),(60,y 1),(61,y 12),(62,y 13)]
def r13_3:List (Nat×l7):=ur r13_2 [0] []
noncomputable def e13:=tre [q12] [(5,(.one sI)),(9,(.one sI)),(13,(.one sI))] q13 [(1342308520,⟨1,a13_0,r13_0,6⟩),(3489988906,⟨1,a13_1,r13_1,19⟩),(2416705972,⟨1,a13_2,r13_2,11⟩),(3490841372,⟨1,a13_3,r13_3,16⟩)] [.agg [y 0,y 1,y 2],y 3] 4
theorem d13:e13=P9:=by kernel_rfl
def a15_0:List AV:=up [] 26 [(0,.agg [y 0,y 1,y 2]),(1,y 3),(2,.mp 0 0 0),(4,.mp 1 0 0),(5,bF),(8,.mp 0 0 1),(9,y 1),(10,y 4),(11,y 5)]
def r15_0:List (Nat×l7):=ur [] [0,1] [(0,.row 26 3 [[y 0,y 1,y 2]]),(1,.row 63 6 [[iV 0,iV 0,iV 0,.sc (.slice none 0 0),iV 0,iV 0]])]
noncomputable def e15:=tre [q14] [(5,(.one sI))] q15 [(1342308466,⟨1,a15_0,r15_0,7⟩)] [.agg [y 0,y 1,y 2],y 3] 4
theorem d15:e15=aO0:=by kernel_rfl
def a16_0:List AV:=up [] 22 [(0,.agg [y 0,y 1,y 2]),(1,y 3),(2,.mp 0 0 0),(4,.mp 1 0 0),(5,bF),(8,.mp 0 0 0),(9,y 0),(10,y 4),(11,y 5)]
def r16_0:List (Nat×l7):=ur [] [0,1] [(0,.row 26 3 [[y 0,y 1,y 2]]),(1,.row 38 3 [[iV 0,iV 0,iV 0]])]
noncomputable def e16:=tre [] [(5,(.one sI))] q16 [(1342308466,⟨1,a16_0,r16_0,7⟩)] [.agg [y 0,y 1,y 2],y 3] 4
theorem d16:e16=N3:=by kernel_rfl
noncomputable def e17:=tre [q15,q16] [] q17 [] [.agg [y 0,y 1,y 2],y 3] 4
theorem d17:e17=K6:=by kernel_rfl
noncomputable def e18:=tre [] [] q18 [] [.agg [y 0,y 1]] 2
theorem d18:e18=u4:=by kernel_rfl
noncomputable def e19:=tre [q18] [] q19 [] [.agg [y 0,y 1]] 2
theorem d19:e19=B2:=by kernel_rfl
noncomputable def e20:=tre [] [] q20 [] [y 0] 1
theorem d20:e20=C7:=by kernel_rfl
noncomputable def e21:=tre [q20] [] q21 [] [y 0,y 1] 2
theorem d21:e21=y7:=by kernel_rfl
noncomputable def e22:=tre [q19,q21] [] q22 [] [.agg [y 0,y 1],.agg [y 2,y 3]] 4
theorem d22:e22=T1:=by kernel_rfl
noncomputable def e24:=tre [q18] [] q24 [] [.agg [y 0,y 1]] 2
theorem d24:e24=H4:=by kernel_rfl
def a25_0:List AV:=up [] 30 [(0,y 0),(2,bF),(5,y 0),(6,y 1),(7,y 2)]
noncomputable def e25:=tre [] [(2,(.one sI))] q25 [(537002055,⟨1,a25_0,[],4⟩)] [y 0] 1
theorem d25:e25=J9:=by kernel_rfl
noncomputable def e26:=tre [] [] q26 [] [.agg [y 0,y 1],.agg [y 2,y 3],.agg [y 4,y 5]] 6
theorem d26:e26=K1:=by kernel_rfl
noncomputable def e27:=tre [q25,q26] [] q27 [] [.agg [y 0,y 1],.agg [y 2,y 3],.agg [y 4,y 5]] 6
theorem d27:e27=A5:=by kernel_rfl
noncomputable def e28:=tre [] [] q28 [] [.agg [y 0,y 1]] 2
theorem d28:e28=A3:=by kernel_rfl
noncomputable def e29:=tre [] [] q29 [] [.agg [y 0,y 1]] 2
theorem d29:e29=u7:=by kernel_rfl
noncomputable def e30:=tre [q25,q26] [] q30 [] [.agg [y 0,y 1],.agg [y 2,y 3],.agg [y 4,y 5]] 6
theorem d30:e30=bl0:=by kernel_rfl
noncomputable def e31:=tre [q30] [] q31 [] [.agg [y 0,y 1],.agg [y 2,y 3],.agg [y 4,y 5]] 6
theorem d31:e31=A7:=by kernel_rfl
noncomputable def e32:=tre [] [] q32 [] [.agg [y 0,y 1],.agg [y 2,y 3]] 4
theorem d32:e32=o8:=by kernel_rfl
noncomputable def e33:=tre [q32] [] q33 [] [.agg [y 0,y 1],.agg [y 2,y 3],.agg [y 4,y 5],.agg [y 6,y 7]] 8
theorem d33:e33=W3:=by kernel_rfl
noncomputable def e34:=tre [q25,q27,q31,q33] [] q34 [] [.agg [y 0,y 1],.agg [y 2,y 3],.agg [y 4,y 5],.agg [y 6,y 7]] 8
theorem d34:e34=bB0:=by kernel_rfl
noncomputable def e35:=tre [q18,q34,q28,q29,q27] [] q35 [] [.agg [y 0,y 1],.agg [y 2,y 3],y 4] 5
theorem d35:e35=K0:=by kernel_rfl
def a36_0:List AV:=up [] 67 [(0,.agg [y 0,y 1,y 2]),(1,.mp 9 0 0),(2,.ss 16 2 4),(3,bF),(10,.mp 9 0 1),(11,y 1),(12,y 3),(13,y 5)]
def r36_0:List (Nat×l7):=ur [] [0,9,16] [(0,.row 26 3 [[y 0,y 1,y 2]]),(9,.row 26 3 [[y 0,y 1,y 2]]),(16,.xrow 209 2 4)]
def a36_1:List AV:=up a36_0 67 [(2,.ss 16 2 22),(5,.mp 20 0 0),(6,y 14),(7,y 15),(8,.rp [y 8,y 9,y 10,y 11,y 12,y 13,y 14]),(14,bT),(15,.rp [y 8,y 9,y 10,y 11,y 12,y 13]),(16,.agg [y 8,y 9,y 10,y 11,y 12,y 13]),(17,.tup [y 14,y 15]),(18,.agg [y 0,y 1,y 2]),(19,.mp 20 0 0),(20,y 8),(21,.tup [y 14,y 15]),(22,y 14),(23,y 15),(24,y 15),(25,bF),(26,bF),(27,.mp 20 0 1),(28,y 9),(29,.mp 20 0 2),(30,y 10),(31,bT),(32,bT),(33,y 14),(34,y 18),(35,bF),(36,bF),(37,bF),(38,.agg [y 8,y 9,y 10,y 11,y 12,y 13]),(39,y 14),(40,.agg [y 8,y 9,y 10,y 11,y 12,y 13,y 14]),(41,.rp [y 8,y 9,y 10,y 11,y 12,y 13,y 14]),(42,y 14),(43,y 20),(44,y 21),(45,y 23)]
def r36_1:List (Nat×l7):=ur r36_0 [0,9,16,20] [(16,.xrow 209 2 22),(20,.row 63 6 [[y 8,y 9,y 10,y 11,y 12,y 13]])]
def a36_2:List AV:=up a36_1 67 [(2,.ss 16 2 20),(31,bF),(32,bF),(33,A),(34,A),(35,A),(43,y 18),(44,y 19),(45,y 21)]
def r36_2:List (Nat×l7):=ur r36_1 [0,9,16,20] [(16,.xrow 209 2 20)]
def a36_3:List AV:=up a36_2 117 [(1,.mp 0 0 0),(2,bF),(3,.ss 16 2 4),(4,bT),(5,.mm 23),(6,A),(7,A),(8,A),(10,A),(11,A),(12,A),(13,A),(14,A),(15,A),(16,.tup [.ss 16 2 4,bT]),(17,.agg [y 0,y 1,y 2]),(18,.tup [.ss 16 2 4,bT]),(19,.ss 16 2 4),(20,bT),(21,bT),(22,bF),(23,.mm 23),(24,.mp 0 0 0),(25,y 0),(26,y 8),(27,y 9),(28,A),(29,A),(30,A),(31,A),(32,A),(36,A),(37,A),(38,A),(39,A),(40,A),(41,A),(42,A),(43,A),(44,A),(45,A)]
def r36_3:List (Nat×l7):=ur r36_2 [0,16,23] [(16,.xrow 209 2 4),(23,.xmap (y 10))]
def a36_4:List AV:=up a36_3 117 [(3,y 13),(16,.tup [y 13,bT]),(18,.tup [y 13,bT]),(19,y 13),(28,bF),(37,y 13),(38,.tup []),(39,y 13),(40,y 14),(41,y 15)]
def r36_4:List (Nat×l7):=ur r36_3 [0,23] []
def a36_5:List AV:=up a36_4 117 [(8,y 15),(9,.mp 39 0 0),(42,bT),(43,y 15),(44,.rp [y 18,y 19]),(45,.agg [y 18,y 19]),(46,y 13),(47,y 15),(48,y 20),(49,y 21),(50,y 22),(51,y 23)]
def r36_5:List (Nat×l7):=ur r36_4 [0,23,39] [(39,.row 209 2 [[y 18,y 19]])]
def a36_6:List AV:=up a36_5 117 [(11,.mp 51 0 0),(52,bT),(53,.rp [y 26,y 27]),(54,.agg [y 26,y 27]),(55,.agg [y 26,y 27]),(56,y 28),(57,.agg [y 18,y 19]),(58,y 29),(59,bT),(66,.mp 0 0 0),(67,y 0),(68,y 31),(69,y 32)]
def r36_6:List (Nat×l7):=ur r36_5 [0,23,39,51] [(51,.row 209 2 [[y 26,y 27]])]
def a36_7:List AV:=up a36_6 117 [(11,A),(52,bF),(53,A),(54,A),(55,A),(56,A),(57,A),(58,A),(59,A),(68,y 26),(69,y 27)]
def r36_7:List (Nat×l7):=ur r36_6 [0,23,39] []
noncomputable def e36:=tre [q17,q23,q19,q24,q18,q27,q28,q29,q35] [(4,(.cons (.sl z30) (.one sI))),(22,(.cons (.sl z30) (.one sI))),(20,(.cons (.sl z30) (.one sI))),(9,(.cons sI (.one (.sl (.cons sI (.one z4)))))),(15,(.one sI)),(23,(.one sI)),(32,(.one sI)),(27,(.one sI))] q36 [(1073873014,⟨2,a36_0,r36_0,17⟩),(5906171258,⟨2,a36_1,r36_1,54⟩),(5369300296,⟨2,a36_2,r36_2,54⟩),(2416312790,⟨2,a36_3,r36_3,29⟩),(4027318985,⟨1,a36_4,r36_4,35⟩),(6174999440,⟨1,a36_5,r36_5,48⟩),(8591377761,⟨1,a36_6,r36_6,65⟩),(7249200407,⟨1,a36_7,r36_7,53⟩)] [.agg [y 0,y 1,y 2]] 3
theorem d36:e36=as0:=by kernel_rfl
def a37_0:List AV:=up [] 82 [(0,.agg [y 0,y 1,y 2]),(1,.mp 0 0 0),(2,iV 0),(7,.mp 0 0 0),(8,y 0),(9,y 3),(10,bF),(11,bF),(12,.mp 0 0 1),(13,y 1),(14,y 5),(15,bF),(16,bF),(17,bF),(18,.mp 0 0 2),(19,y 2),(20,y 7),(21,bF),(22,bF),(23,.mp 0 0 1),(24,y 1),(25,y 9),(26,y 10)]
def r37_0:List (Nat×l7):=ur [] [0] [(0,.row 26 3 [[y 0,y 1,y 2]])]
noncomputable def e37:=tre [q3,q4,q7,q10,q13,q36] [(10,(.one sI))] q37 [(2684617509,⟨1,a37_0,r37_0,22⟩)] [.agg [y 0,y 1,y 2]] 3
theorem d37:e37=bA0:=by kernel_rfl
noncomputable def e38:=tre [] [] q38 [] [.agg [y 0,y 1],.agg [y 2,y 3]] 4
theorem d38:e38=R6:=by kernel_rfl
noncomputable def e39:=tre [q25,q38,q26] [] q39 [] [.agg [y 0,y 1],.agg [y 2,y 3],.agg [y 4,y 5]] 6
theorem d39:e39=X8:=by kernel_rfl
noncomputable def e40:=tre [q39] [] q40 [] [y 0,y 1,.rp [y 2,y 3,y 4],.rp [y 5]] 6
theorem d40:e40=J1:=by kernel_rfl
def a42_0:List AV:=up [] 80 [(0,.agg [y 0,y 1,y 2]),(1,y 3),(2,.mp 0 0 0),(4,.mp 1 0 0),(5,.mp 8 0 0),(6,y 7),(7,.mp 14 0 0),(8,.fn (.func 135) [] [.mp 1 0 0,.mp 14 0 0]),(13,.tup [.agg [y 4,y 5,y 6],y 7]),(14,.agg [y 0,y 1,y 2]),(15,y 3),(16,.tup [.agg [y 4,y 5,y 6],y 7]),(17,.agg [y 4,y 5,y 6]),(18,y 7),(19,y 7),(20,bF),(21,.mm 13),(22,.fn (.func 135) [] [.mp 1 0 0,.mp 14 0 0]),(23,.mp 0 0 1),(24,y 1),(25,y 9),(26,y 10)]
def r42_0:List (Nat×l7):=ur [] [0,1,8,13,14,22] [(0,.row 26 3 [[y 0,y 1,y 2]]),(1,.row 24 1 [[.ss 22 1 11]]),(8,.row 38 3 [[y 4,y 5,y 6]]),(13,.xmap (y 12)),(14,.row 191 1 [[.mm 13]]),(22,.xrow 3 1 11)]
noncomputable def e42:=tre [q16,q17,q41] [(10,(.cons sI (.cons z0 (.one (.sl (.cons sI (.one z4)))))))] q42 [(2684817958,⟨3,a42_0,r42_0,23⟩)] [.agg [y 0,y 1,y 2],y 3] 4
theorem d42:e42=W4:=by kernel_rfl
noncomputable def e43:=tre [q11] [] q43 [] [y 0,y 1] 2
theorem d43:e43=M5:=by kernel_rfl
def a45_0:List AV:=up [] 72 [(0,.agg [y 0,y 1,y 2]),(1,.mp 0 0 0),(2,.sc (.slice none 0 0)),(3,y 3),(4,.ss 16 1 6),(5,.mp 10 0 0),(15,.agg [y 0,y 1,y 2]),(16,y 3),(17,y 3),(18,bF),(20,.mm 9),(21,.mp 0 0 0),(22,y 0),(23,y 5),(24,y 7)]
def r45_0:List (Nat×l7):=ur [] [0,9,10,16] [(0,.row 26 3 [[y 0,y 1,y 2]]),(9,.xmap (y 8)),(10,.row 165 1 [[.mm 9]]),(16,.xrow 3 1 6)]
def a45_1:List AV:=up a45_0 72 [(4,.ss 16 1 16),(7,.mp 20 0 0),(8,y 14),(25,bT),(26,.rp [y 11,y 12,y 13]),(27,.agg [y 11,y 12,y 13]),(28,.agg [y 0,y 1,y 2]),(29,.mp 20 0 0),(30,y 11),(31,y 14),(32,y 14),(33,y 15),(34,y 17)]
def r45_1:List (Nat×l7):=ur r45_0 [0,9,10,16,20] [(9,.xmap (y 18)),(16,.xrow 3 1 16),(20,.row 38 3 [[y 11,y 12,y 13]])]
def a45_2:List AV:=up a45_1 72 [(2,.ss 28 1 14),(4,.ss 16 1 11),(7,A),(8,A),(11,.mp 21 0 0),(12,.fn (.func 110) [] [.mp 21 0 0,.mp 10 0 0]),(25,bF),(26,A),(27,A),(28,A),(29,A),(30,A),(31,A),(32,A),(33,A),(34,A),(50,.ss 16 1 11),(51,.tup []),(52,.mm 20),(53,.fn (.func 110) [] [.mp 21 0 0,.mp 10 0 0]),(54,.ss 16 1 11),(55,y 12),(56,y 13)]
def r45_2:List (Nat×l7):=ur r45_1 [0,9,10,16,20,21,28] [(9,.xmap (y 8)),(16,.xrow 3 1 11),(20,.xmap (y 15)),(21,.row 168 1 [[.mm 20]]),(28,.xrow 24 1 14)]
def a45_3:List AV:=up a45_2 19 [(0,y 21),(1,.mp 21 0 0),(2,.mp 10 0 0),(3,A),(4,.ss 45 1 22),(5,A),(11,A),(12,A),(15,A),(16,A),(17,A),(18,A)]
def r45_3:List (Nat×l7):=ur r45_2 [0,9,10,16,20,21,28,45] [(20,.xmap (y 23)),(45,.xrow 3 1 22)]
noncomputable def e45:=tre [q37,q42,q43,q44] [(6,(.cons z0 z9)),(16,(.cons z0 z9)),(13,(.cons sI (.cons (.sl z2) (.one (.sl (.cons sI (.one .bool))))))),(21,(.cons sI (.cons z0 (.one (.sl (.cons sI (.one .bool)))))))] q45 [(1611071758,⟨3,a45_0,r45_0,17⟩),(4295688610,⟨3,a45_1,r45_1,30⟩),(3491045245,⟨3,a45_2,r45_2,29⟩),(5637210112,⟨3,a45_3,r45_3,46⟩)] [.agg [y 0,y 1,y 2]] 3
theorem d45:e45=O0:=by kernel_rfl
def a46_0:List AV:=up [] 31 [(0,.agg [y 0,y 1,y 2]),(1,.mp 0 0 0),(3,.mm 2),(8,.mm 2),(9,.mp 0 0 1),(10,y 1),(11,y 3),(12,y 4)]
def r46_0:List (Nat×l7):=ur [] [0,2] [(0,.row 26 3 [[y 0,y 1,y 2]]),(2,.xmap (y 5))]
noncomputable def e46:=tre [q17] [(4,(.cons sI (.one (.sl z9))))] q46 [(1073938523,⟨2,a46_0,r46_0,8⟩)] [.agg [y 0,y 1,y 2]] 3
theorem d46:e46=M8:=by kernel_rfl
noncomputable def e47:=tre [q15] [] q47 [] [.agg [y 0,y 1,y 2],y 3] 4
theorem d47:e47=aj0:=by kernel_rfl
def a48_0:List AV:=up [] 84 [(0,.agg [y 0,y 1,y 2]),(1,y 3),(2,.mp 0 0 0),(4,y 7),(13,y 3),(14,y 4),(15,bF),(16,y 3),(17,y 6),(18,y 8)]
def r48_0:List (Nat×l7):=ur [] [0] [(0,.row 26 3 [[y 0,y 1,y 2]])]
def a48_1:List AV:=up a48_0 84 [(6,y 11),(7,.mp 18 0 0),(8,y 18),(9,y 22),(10,y 23),(11,y 27),(19,bT),(20,.rp [y 11]),(21,y 11),(22,.tup [.agg [y 12,y 13,y 14,y 15,y 16,y 17],y 18]),(23,.agg [y 0,y 1,y 2]),(24,y 11),(25,.tup [.agg [y 12,y 13,y 14,y 15,y 16,y 17],y 18]),(26,.agg [y 12,y 13,y 14,y 15,y 16,y 17]),(27,y 18),(28,y 18),(29,bF),(30,.tup [y 22,y 23]),(31,.agg [y 0,y 1,y 2]),(32,y 11),(33,y 11),(34,y 20),(35,y 21),(36,.tup [y 22,y 23]),(37,y 22),(38,y 23),(39,y 23),(40,bF),(41,y 22),(42,y 25),(43,y 26),(44,y 28)]
def r48_1:List (Nat×l7):=ur r48_0 [0,18] [(18,.row 63 6 [[y 12,y 13,y 14,y 15,y 16,y 17]])]
noncomputable def e48:=tre [q47,q17] [(7,z1),(27,z1)] q48 [(1879310584,⟨2,a48_0,r48_0,8⟩),(7248675710,⟨2,a48_1,r48_1,41⟩)] [.agg [y 0,y 1,y 2],y 3] 4
theorem d48:e48=S4:=by kernel_rfl
def a49_0:List AV:=up [] 40 [(0,y 0),(1,y 1),(2,.fn (.func 170) [] [.mp 0 0 0,.mp 2 0 0,.mp 3 0 0]),(10,y 1),(11,y 4),(12,y 5)]
def r49_0:List (Nat×l7):=ur [] [0,2,3] [(0,.row 36 2 [[y 2,y 3]]),(2,.row 4 1 [[y 6]]),(3,.row 4 1 [[y 7]])]
def a49_1:List AV:=up a49_0 40 [(7,y 10),(8,y 13),(9,y 14),(13,bT),(14,.rp [y 10]),(15,y 10),(16,y 0),(17,y 10),(18,y 10),(19,y 11),(20,y 12),(21,y 13)]
def r49_1:List (Nat×l7):=ur r49_0 [0,2,3] [(2,.row 4 1 [[y 16]]),(3,.row 4 1 [[y 15]])]
noncomputable def e49:=tre [q27,q31] [(5,(.cons sI (.cons .bool (.one .bool)))),(14,(.cons sI (.cons .bool (.one .bool))))] q49 [(1342243420,⟨3,a49_0,r49_0,13⟩),(3758424699,⟨3,a49_1,r49_1,25⟩)] [y 0,y 1,.agg [y 2,y 3]] 4
theorem d49:e49=y5:=by kernel_rfl
def a50_0:List AV:=up [] 28 [(0,.agg [y 0,y 1,y 2]),(1,y 3),(2,.mp 0 0 0),(4,y 6),(7,.mp 0 0 1),(8,y 1),(9,y 4),(10,y 5)]
def r50_0:List (Nat×l7):=ur [] [0] [(0,.row 26 3 [[y 0,y 1,y 2]])]
noncomputable def e50:=tre [] [(5,z1)] q50 [(1342308464,⟨2,a50_0,r50_0,6⟩)] [.agg [y 0,y 1,y 2],y 3] 4
theorem d50:e50=R1:=by kernel_rfl
def a51_0:List AV:=up [] 110 [(0,.agg [y 0,y 1,y 2]),(1,y 3),(2,y 4),(3,.mp 1048576 0 0),(6,.sc (.slice none 0 0)),(7,.ss 1048579 4 9),(8,.ss 1048585 1 6),(19,.agg [iV 0,.sc (.slice none 0 0),.sc (.slice none 0 0),.sc (.slice none 0 0)]),(21,y 3),(22,y 5),(23,y 7)]
def r51_0:List (Nat×l7):=ur [] [1048576,1048579,1048585] [(1048576,.row 26 3 [[y 0,y 1,y 2]]),(1048579,.xrow 123 4 9),(1048585,.xrow 24 1 6)]
def a51_1:List AV:=up a51_0 110 [(7,.ss 1048579 4 15),(24,bF),(43,.ss 1048585 1 6),(44,y 13),(45,y 14)]
def r51_1:List (Nat×l7):=ur r51_0 [1048576,1048579,1048585] [(1048579,.frow 123 4 (y 15) [(2,24,1),(3,3,1)] (y 12) 1048576 none)]
def a51_2:List AV:=up a51_1 42 [(0,y 4),(1,.ss 1048579 4 15),(2,.agg [y 24,y 25]),(3,A),(5,.mp 1048612 0 0),(6,iV 0),(7,y 27),(8,y 26),(19,A),(21,A),(22,A),(23,A),(24,A)]
def r51_2:List (Nat×l7):=ur r51_1 [1048576,1048579,1048585,1048612] [(1048612,.row 36 2 [[y 24,y 25]])]
def a51_3:List AV:=up a51_2 110 [(0,.agg [y 0,y 1,y 2]),(1,y 3),(2,y 4),(3,.mp 1048576 0 0),(5,A),(6,.sc (.slice none 0 0)),(7,.ss 1048579 4 20),(8,.ss 1048585 1 6),(19,.agg [iV 0,.sc (.slice none 0 0),.sc (.slice none 0 0),.sc (.slice none 0 0)]),(21,y 3),(22,y 5),(23,y 7),(24,bF),(43,.ss 1048585 1 6),(44,y 13),(45,y 14),(46,bF),(78,.mp 1048576 0 0),(79,y 0),(80,y 18),(81,y 19)]
def r51_3:List (Nat×l7):=ur r51_2 [1048576,1048579,1048585] [(1048579,.frow 123 4 (y 20) [(2,24,1),(3,3,1)] (y 12) 1048576 none)]
def a51_4:List AV:=up a51_3 42 [(0,y 4),(1,.ss 1048579 4 20),(2,.agg [y 24,y 25]),(3,A),(5,.mp 1048611 0 0),(6,iV 0),(7,y 29),(8,y 28),(19,A),(21,A),(22,A),(23,A),(24,A)]
def r51_4:List (Nat×l7):=ur r51_3 [1048576,1048579,1048585,1048598,1048611] [(1048598,.row 38 3 [[y 23,y 24,y 25]]),(1048611,.row 36 2 [[y 24,y 25]])]
noncomputable def e51:=un0 T [q48,q49,q50] (shL [(6,(.cons (.sl z2) (.cons sI (.cons .bool (.one (.sl (.cons sI (.cons z0 (.cons .nl (.one .nl)))))))))),(14,(.cons sI (.one (.sl z23)))),(26,z1),(19,(.cons sI (.one (.sl z23)))),(28,z1)]) q51.dom q51.cod [.agg [y 0,y 1,y 2],y 3,y 4] (ga0 T Φ F [(1610875048,⟨4,a51_0,r51_0,1048586⟩),(3758883263,⟨2,a51_1,r51_1,1048590⟩),(6979518641,⟨2,a51_2,r51_2,1048616⟩),(5101519782,⟨2,a51_3,r51_3,1048595⟩),(7516389553,⟨2,a51_4,r51_4,1048615⟩)] [(3,.nlz 7 [1]),(11,.own 7 [(2,24,1),(3,3,1)]),(16,.foc 15 84 2),(23,.foc 18 24 3)] 100000 83 [.agg [y 0,y 1,y 2],y 3,y 4] 5)
theorem d51:e51=L6:=by kernel_rfl
noncomputable def e52:=tre [q47] [] q52 [] [.agg [y 0,y 1,y 2],y 3] 4
theorem d52:e52=Y7:=by kernel_rfl
noncomputable def e53:=tre [] [] q53 [] [.agg [y 0,y 1,y 2,y 3]] 4
theorem d53:e53=D7:=by kernel_rfl
def a54_0:List AV:=up [] 71 [(0,.agg [y 0,y 1,y 2]),(1,y 3),(2,.mp 0 0 0),(4,.ss 8 1 5),(5,bF),(6,.mm 3),(14,.mm 3),(15,y 3),(16,y 4),(17,y 6)]
def r54_0:List (Nat×l7):=ur [] [0,3,8] [(0,.row 26 3 [[y 0,y 1,y 2]]),(3,.xmap (y 7)),(8,.xrow 3 1 5)]
def a54_1:List AV:=up a54_0 71 [(7,y 6),(8,.mp 13 0 0),(9,y 16),(18,bT),(19,y 6),(20,.rp [y 10,y 11,y 12,y 13]),(21,.agg [y 10,y 11,y 12,y 13]),(22,y 6),(23,bT),(24,.agg [y 0,y 1,y 2]),(25,.mp 13 0 1),(26,y 11),(27,.rp [y 15]),(28,y 15),(29,y 16),(30,y 16),(31,bF),(32,bF),(33,.mm 3),(34,y 16),(35,bF),(36,bF),(37,.mm 3),(38,y 16),(39,.agg [y 10,y 11,y 12,y 13]),(40,y 20),(41,y 21),(42,y 22)]
def r54_1:List (Nat×l7):=ur r54_0 [0,3,8,13] [(3,.xmap (y 19)),(13,.row 123 4 [[y 10,y 11,y 12,y 13]])]
def a54_2:List AV:=up a54_1 71 [(11,y 25),(43,bT),(44,.rp [y 25]),(45,y 25),(46,y 25),(47,y 26),(48,y 27)]
def r54_2:List (Nat×l7):=ur r54_1 [0,3,8,13] []
def a54_3:List AV:=up a54_2 71 [(9,iV 0),(11,A),(23,bF),(24,A),(25,A),(26,A),(27,A),(28,A),(29,A),(30,A),(31,A),(32,A),(33,A),(34,A),(35,A),(36,A),(37,A),(38,A),(40,y 15),(41,y 16),(42,y 17),(43,A),(44,A),(45,A),(46,A),(47,A),(48,A)]
def r54_3:List (Nat×l7):=ur r54_2 [0,3,8,13] [(3,.xmap (y 7))]
def a54_4:List AV:=up a54_3 71 [(11,y 20),(43,bT),(44,.rp [y 20]),(45,y 20),(46,y 20),(47,y 21),(48,y 22)]
def r54_4:List (Nat×l7):=ur r54_3 [0,3,8,13] []
noncomputable def e54:=tre [q52,q53] [(5,(.cons z0 (.cons sI (.one (.sl (.cons sI (.one .bool))))))),(27,(.one sI)),(17,(.one sI)),(22,(.one sI))] q54 [(1342374044,⟨3,a54_0,r54_0,9⟩),(5906367614,⟨1,a54_1,r54_1,45⟩),(7248741676,⟨1,a54_2,r54_2,52⟩),(4564189762,⟨1,a54_3,r54_3,23⟩),(5906563824,⟨1,a54_4,r54_4,30⟩)] [.agg [y 0,y 1,y 2],y 3] 4
theorem d54:e54=S6:=by kernel_rfl
noncomputable def e55:=tre [q45,q46,q51,q54] [] q55 [] [.agg [y 0,y 1,y 2]] 3
theorem d55:e55=Y1:=by kernel_rfl
noncomputable def e56:=tre [] [] q56 [] [.agg [y 0,y 1,y 2,y 3,y 4]] 5
theorem d56:e56=aC0:=by kernel_rfl
def a57_0:List AV:=up [] 19 [(0,y 0),(1,.fn (.func 22) [] []),(4,iV 0),(6,y 0),(7,y 1),(8,y 2)]
noncomputable def e57:=tre [q56] [(2,(.one sI))] q57 [(537002128,⟨1,a57_0,[],10⟩)] [y 0,.fn (.func 22) [] []] 1
theorem d57:e57=r8:=by kernel_rfl
noncomputable def e58:=tre [] [] q58 [] [.agg [y 0,y 1,y 2,y 3,y 4]] 5
theorem d58:e58=U6:=by kernel_rfl
def a59_0:List AV:=up [] 19 [(0,y 0),(1,.fn (.func 24) [] []),(4,iV 0),(6,y 0),(7,y 1),(8,y 2)]
noncomputable def e59:=tre [q58] [(2,(.one sI))] q59 [(537002132,⟨1,a59_0,[],10⟩)] [y 0,.fn (.func 24) [] []] 1
theorem d59:e59=j8:=by kernel_rfl
noncomputable def e60:=tre [] [] q60 [] [y 0] 1
theorem d60:e60=B4:=by kernel_rfl
noncomputable def e61:=tre [q60] [] q61 [] [.agg [y 0,y 1,y 2,y 3,y 4]] 5
theorem d61:e61=T9:=by kernel_rfl
def a62_0:List AV:=up [] 19 [(0,y 0),(1,.fn (.func 25) [] []),(4,iV 0),(6,y 0),(7,y 1),(8,y 2)]
noncomputable def e62:=tre [q61] [(2,(.one sI))] q62 [(537002134,⟨1,a62_0,[],10⟩)] [y 0,.fn (.func 25) [] []] 1
theorem d62:e62=j9:=by kernel_rfl
def a63_0:List AV:=up [] 31 [(0,y 0),(2,iV 0),(3,y 3),(6,y 0),(7,bF),(8,bF),(9,y 0),(10,bF),(11,bF),(12,y 0),(13,y 3),(14,.agg [y 4,y 5,y 6,y 7,y 8,y 9,y 10,y 11,y 12,y 13,y 14,y 15,y 16,y 17,y 18,y 19,y 20,y 21,y 22,y 23,y 24,y 25,y 26,y 27,y 28,y 29,y 30,y 31,y 32,y 33,y 34,y 35,y 36,y 37,y 38,y 39,y 40,y 41,y 42]),(15,y 43)]
noncomputable def e63:=tre [] [(43,(.one sI))] q63 [(11543052621,⟨1,a63_0,[],12⟩)] [y 0] 1
theorem d63:e63=R9:=by kernel_rfl
def a64_0:List AV:=up [] 21 [(0,y 0),(2,.ss 4 1 1),(3,iV 0),(6,y 0),(7,.it 3)]
def r64_0:List (Nat×l7):=ur [] [3,4] [(3,.xiter (y 0) (y 2)),(4,.xrow 3 1 1)]
noncomputable def e64:=tre [q63] [(1,(.cons z0 (.one sI)))] q64 [(268566556,⟨2,a64_0,r64_0,5⟩)] [y 0] 1
theorem d64:e64=Y6:=by kernel_rfl
def a66_0:List AV:=up [] 45 [(0,y 0),(2,y 4),(3,y 5),(6,y 0),(7,bF),(8,y 0),(9,y 2),(10,bF),(11,.tup [y 4,y 5]),(12,y 0),(13,.tup [y 4,y 5]),(14,y 4),(15,y 5),(16,y 5),(17,bF),(19,y 0),(20,y 7),(21,bF),(22,bF),(23,y 0),(24,y 0),(25,y 9),(26,y 10),(27,y 11),(28,bF),(29,bF),(30,bF),(31,y 0),(32,bF),(33,bF),(34,y 4),(35,y 14),(36,y 15)]
noncomputable def e66:=tre [q64,q65,q63] [(15,(.one sI))] q66 [(4027254190,⟨1,a66_0,[],34⟩)] [y 0] 1
theorem d66:e66=cD0:=by kernel_rfl
noncomputable def e67:=tre [q66] [] q67 [] [y 0] 1
theorem d67:e67=V6:=by kernel_rfl
noncomputable def e68:=tre [q67] [] q68 [] [.agg [y 0,y 1,y 2,y 3,y 4]] 5
theorem d68:e68=U4:=by kernel_rfl
def a69_0:List AV:=up [] 19 [(0,y 0),(1,.fn (.func 27) [] []),(4,iV 0),(6,y 0),(7,y 1),(8,y 2)]
noncomputable def e69:=tre [q68] [(2,(.one sI))] q69 [(537002138,⟨1,a69_0,[],10⟩)] [y 0,.fn (.func 27) [] []] 1
theorem d69:e69=l5:=by kernel_rfl
noncomputable def e70:=tre [q60] [] q70 [] [.agg [y 0,y 1,y 2,y 3,y 4]] 5
theorem d70:e70=U0:=by kernel_rfl
def a71_0:List AV:=up [] 19 [(0,y 0),(1,.fn (.func 29) [] []),(4,iV 0),(6,y 0),(7,y 1),(8,y 2)]
noncomputable def e71:=tre [q70] [(2,(.one sI))] q71 [(537002142,⟨1,a71_0,[],10⟩)] [y 0,.fn (.func 29) [] []] 1
theorem d71:e71=j6:=by kernel_rfl
noncomputable def e72:=tre [q12] [] q72 [] [y 0,y 1] 2
theorem d72:e72=dT0:=by kernel_rfl
noncomputable def e73:=tre [q60,q16,q15,q72] [] q73 [] [y 0,.rp [y 1,y 2,y 3,y 4,y 5],.rp [y 6,y 7,y 8]] 9
theorem d73:e73=K2:=by kernel_rfl
def a74_0:List AV:=up [] 19 [(0,y 0),(1,.fn (.func 58) [] [.rp [y 1,y 2,y 3,y 4,y 5],.rp [y 6,y 7,y 8]]),(4,iV 0),(6,y 0),(7,y 9),(8,y 10)]
noncomputable def e74:=tre [q73] [(10,(.one sI))] q74 [(2684485848,⟨1,a74_0,[],10⟩)] [y 0,.fn (.func 58) [] [.rp [y 1,y 2,y 3,y 4,y 5],.rp [y 6,y 7,y 8]]] 9
theorem d74:e74=y8:=by kernel_rfl
noncomputable def e75:=tre [q74] [] q75 [] [.agg [y 0,y 1,y 2],.agg [y 3,y 4,y 5,y 6,y 7]] 8
theorem d75:e75=N8:=by kernel_rfl
noncomputable def e76:=tre [q75] [] q76 [] [.agg [y 0,y 1,y 2,y 3,y 4],.rp [y 5,y 6,y 7,y 8]] 9
theorem d76:e76=U5:=by kernel_rfl
def a77_0:List AV:=up [] 19 [(0,y 0),(1,.fn (.func 30) [] [.rp [y 1,y 2,y 3,y 4]]),(4,iV 0),(6,y 0),(7,y 5),(8,y 6)]
noncomputable def e77:=tre [q76] [(6,(.one sI))] q77 [(1610743968,⟨1,a77_0,[],10⟩)] [y 0,.fn (.func 30) [] [.rp [y 1,y 2,y 3,y 4]]] 5
theorem d77:e77=j7:=by kernel_rfl
def a78_0:List AV:=up [] 20 [(0,y 0),(2,bF),(3,y 1)]
noncomputable def e78:=tre [] [(1,(.one sI))] q78 [(268566575,⟨1,a78_0,[],2⟩)] [y 0] 1
theorem d78:e78=W6:=by kernel_rfl
def a79_0:List AV:=up [] 19 [(0,y 3),(1,.fn (.func 54) [] [.mp 28 0 0,.mp 26 0 0]),(4,iV 0),(6,y 3),(7,y 9),(8,y 10)]
def r79_0:List (Nat×l7):=ur [] [0,24,26,28,33,34,44,56] [(0,.row 29 4 [[y 0,y 1,y 2,y 3]]),(24,.row 66 2 [[.fn (.func 22) [] [],iV 3],[.fn (.func 54) [] [.mp 28 0 0,.mp 26 0 0],iV 10],[.fn (.func 24) [] [],iV 2],[.fn (.func 25) [] [],iV 9],[.fn (.func 27) [] [],iV 14],[.fn (.func 29) [] [],iV 1],[.fn (.func 30) [] [.mp 0 0 0],iV 7],[.fn (.func 61) [] [.mp 34 0 0],iV 13]]),(26,.row 29 4 [[y 0,y 1,y 2,y 3]]),(28,.row 3 1 [[y 11]]),(33,.map false [] 0),(34,.row 118 1 [[.mm 33]]),(44,.row 66 2 [[.fn (.func 22) [] [],iV 3]]),(56,.row 66 2 [[.fn (.func 54) [] [.mp 28 0 0,.mp 26 0 0],iV 10]])]
def a79_1:List AV:=up a79_0 19 [(1,.fn (.func 61) [] [.mp 34 0 0]),(7,y 34),(8,y 35)]
def r79_1:List (Nat×l7):=ur r79_0 [0,24,26,28,33,34,44,56,82,132,144,156,168,180,192] [(28,.row 3 1 [[y 19]]),(33,.xmap (y 36)),(82,.row 45 5 [[y 14,y 15,y 16,y 17,y 18]]),(132,.row 66 2 [[.fn (.func 24) [] [],iV 2]]),(144,.row 66 2 [[.fn (.func 25) [] [],iV 9]]),(156,.row 66 2 [[.fn (.func 27) [] [],iV 14]]),(168,.row 66 2 [[.fn (.func 29) [] [],iV 1]]),(180,.row 66 2 [[.fn (.func 30) [] [.mp 0 0 0],iV 7]]),(192,.row 66 2 [[.fn (.func 61) [] [.mp 34 0 0],iV 13]])]
def a79_2:List AV:=up a79_1 33 [(0,.agg [y 39,y 40,y 41,y 42,y 43]),(1,.mp 34 0 0),(2,.mp 218 0 0),(3,bF),(4,y 40),(6,A),(7,A),(8,.mp 218 0 1),(9,y 40),(10,y 44),(11,bF),(12,bF),(13,bT),(14,bT),(15,.mp 218 0 1),(16,y 40),(17,.mp 218 0 4),(18,y 43),(19,y 47),(20,y 48)]
def r79_2:List (Nat×l7):=ur r79_1 [0,24,26,28,33,34,44,56,82,132,144,156,168,180,192,218] [(33,.xmap (y 49)),(218,.row 45 5 [[y 39,y 40,y 41,y 42,y 43]])]
def a79_3:List AV:=up a79_2 33 [(4,iV 0),(13,bF),(14,bF),(15,A),(16,A)]
def r79_3:List (Nat×l7):=ur r79_2 [0,24,26,28,33,34,44,56,82,132,144,156,168,180,192,218] []
def a79_4:List AV:=up a79_3 19 [(0,y 3),(1,.fn (.func 61) [] [.mp 34 0 0]),(2,A),(3,A),(6,y 3),(7,y 36),(8,y 37),(9,A),(10,A),(11,A),(12,A),(13,A),(14,A),(17,A),(18,A)]
def r79_4:List (Nat×l7):=ur r79_3 [0,24,26,28,33,34,44,56,82,132,144,156,168,180,192] [(33,.xmap (y 38))]
def a79_5:List AV:=up a79_4 33 [(0,.agg [y 41,y 42,y 43,y 44,y 45]),(1,.mp 34 0 0),(2,.mp 218 0 0),(3,bF),(4,y 42),(6,A),(7,A),(8,.mp 218 0 1),(9,y 42),(10,y 46),(11,bF),(12,bF),(13,bT),(14,bT),(15,.mp 218 0 1),(16,y 42),(17,.mp 218 0 4),(18,y 45),(19,y 49),(20,y 50)]
def r79_5:List (Nat×l7):=ur r79_4 [0,24,26,28,33,34,44,56,82,132,144,156,168,180,192,218] [(33,.xmap (y 51)),(218,.row 45 5 [[y 41,y 42,y 43,y 44,y 45]])]
def a79_6:List AV:=up a79_5 33 [(4,iV 0),(13,bF),(14,bF),(15,A),(16,A)]
def r79_6:List (Nat×l7):=ur r79_5 [0,24,26,28,33,34,44,56,82,132,144,156,168,180,192,218] []
def a79_7:List AV:=up a79_6 19 [(0,y 3),(1,.fn (.func 61) [] [.mp 34 0 0]),(2,A),(3,A),(6,y 3),(7,y 29),(8,y 30),(9,A),(10,A),(11,A),(12,A),(13,A),(14,A),(17,A),(18,A)]
def r79_7:List (Nat×l7):=ur r79_6 [0,24,26,28,33,34,44,56,82,132,144,156,168,180,192] [(33,.xmap (y 31))]
def a79_8:List AV:=up a79_7 33 [(0,.agg [y 34,y 35,y 36,y 37,y 38]),(1,.mp 34 0 0),(2,.mp 218 0 0),(3,bF),(4,y 35),(6,A),(7,A),(8,.mp 218 0 1),(9,y 35),(10,y 39),(11,bF),(12,bF),(13,bT),(14,bT),(15,.mp 218 0 1),(16,y 35),(17,.mp 218 0 4),(18,y 38),(19,y 42),(20,y 43)]
def r79_8:List (Nat×l7):=ur r79_7 [0,24,26,28,33,34,44,56,82,132,144,156,168,180,192,218] [(33,.xmap (y 44)),(218,.row 45 5 [[y 34,y 35,y 36,y 37,y 38]])]
def a79_9:List AV:=up a79_8 33 [(4,iV 0),(13,bF),(14,bF),(15,A),(16,A)]
def r79_9:List (Nat×l7):=ur r79_8 [0,24,26,28,33,34,44,56,82,132,144,156,168,180,192,218] []
def vc0:List AV:=up a79_9 19 [(0,y 3),(1,.fn (.func 61) [] [.mp 34 0 0]),(2,A),(3,A),(6,y 3),(7,y 19),(8,y 20),(9,A),(10,A),(11,A),(12,A),(13,A),(14,A),(17,A),(18,A)]
def uF0:List (Nat×l7):=ur r79_9 [0,24,26,28,33,34,44,56,80,92,104,116,128,140] [(28,.row 3 1 [[y 11]]),(33,.xmap (y 21)),(80,.row 66 2 [[.fn (.func 24) [] [],iV 2]]),(92,.row 66 2 [[.fn (.func 25) [] [],iV 9]]),(104,.row 66 2 [[.fn (.func 27) [] [],iV 14]]),(116,.row 66 2 [[.fn (.func 29) [] [],iV 1]]),(128,.row 66 2 [[.fn (.func 30) [] [.mp 0 0 0],iV 7]]),(140,.row 66 2 [[.fn (.func 61) [] [.mp 34 0 0],iV 13]])]
def uO0:List AV:=up vc0 33 [(0,.agg [y 24,y 25,y 26,y 27,y 28]),(1,.mp 34 0 0),(2,.mp 166 0 0),(3,bF),(4,y 25),(6,A),(7,A),(8,.mp 166 0 1),(9,y 25),(10,y 29),(11,bF),(12,bF),(13,bT),(14,bT),(15,.mp 166 0 1),(16,y 25),(17,.mp 166 0 4),(18,y 28),(19,y 32),(20,y 33)]
def uQ0:List (Nat×l7):=ur uF0 [0,24,26,28,33,34,44,56,80,92,104,116,128,140,166] [(33,.xmap (y 34)),(166,.row 45 5 [[y 24,y 25,y 26,y 27,y 28]])]
def a79_12:List AV:=up uO0 33 [(4,iV 0),(13,bF),(14,bF),(15,A),(16,A)]
def r79_12:List (Nat×l7):=ur uQ0 [0,24,26,28,33,34,44,56,80,92,104,116,128,140,166] []
noncomputable def e79:=tre [q55,q57,q59,q62,q69,q71,q77,q60,q78] [(10,z1),(35,(.cons sI (.one (.sl (.cons z4 (.one .bool)))))),(48,(.cons sI (.one (.sl (.cons z4 (.one .bool)))))),(37,(.cons sI (.one (.sl (.cons z4 (.one .bool)))))),(50,(.cons sI (.one (.sl (.cons z4 (.one .bool)))))),(30,(.cons sI (.one (.sl (.cons z4 (.one .bool)))))),(43,(.cons sI (.one (.sl (.cons z4 (.one .bool)))))),(20,(.cons sI (.one (.sl (.cons z4 (.one .bool)))))),(33,(.cons sI (.one (.sl (.cons z4 (.one .bool))))))] q79 [(2684485840,⟨2,a79_0,r79_0,73⟩),(9395372254,⟨2,a79_1,r79_1,209⟩),(12885426555,⟨2,a79_2,r79_2,235⟩),(12885426648,⟨2,a79_3,r79_3,232⟩),(9932243166,⟨2,a79_4,r79_4,209⟩),(13422297467,⟨2,a79_5,r79_5,235⟩),(13422297560,⟨2,a79_6,r79_6,232⟩),(8053194974,⟨2,a79_7,r79_7,209⟩),(11543249275,⟨2,a79_8,r79_8,235⟩),(11543249368,⟨2,a79_9,r79_9,232⟩),(5368840414,⟨2,vc0,uF0,157⟩),(8858894715,⟨2,uO0,uQ0,183⟩),(8858894808,⟨2,a79_12,r79_12,180⟩)] [.agg [y 0,y 1,y 2,y 3]] 4
theorem d79:e79=D9:=by kernel_rfl
def a80_0:List AV:=up [] 59 [(0,y 0),(2,.ss 10 2 3),(3,iV 0),(10,y 0),(11,bF),(12,bF),(13,y 0),(14,bF),(15,bF),(16,y 0),(17,y 4)]
def r80_0:List (Nat×l7):=ur [] [10] [(10,.xrow 36 2 3)]
def a80_1:List AV:=up a80_0 59 [(2,.ss 10 2 10),(4,y 4),(5,y 7),(18,bT),(19,y 4),(20,y 4),(21,y 7),(22,y 7),(23,y 8),(24,y 9),(25,y 11)]
def r80_1:List (Nat×l7):=ur r80_0 [10] [(10,.xrow 36 2 10)]
def a80_2:List AV:=up a80_1 59 [(2,.ss 10 2 17),(6,y 11),(26,bT),(27,y 11),(28,y 7),(29,y 14),(30,y 15),(31,y 16)]
def r80_2:List (Nat×l7):=ur r80_1 [10] [(10,.xrow 36 2 17)]
noncomputable def e80:=tre [] [(3,(.cons z3 (.one sI))),(10,(.cons z3 (.one sI))),(16,z9)] q80 [(805568946,⟨2,a80_0,r80_0,11⟩),(2684879395,⟨2,a80_1,r80_1,21⟩),(4295688862,⟨2,a80_2,r80_2,28⟩)] [y 0] 1
theorem d80:e80=A9:=by kernel_rfl
def a81_0:List AV:=up [] 40 [(0,.agg [y 0,y 1,y 2,y 3]),(1,y 4),(2,y 5),(3,.mp 0 0 0),(6,.ss 12 1 10),(9,y 4),(10,bF),(11,bF),(12,y 4),(13,bF),(14,bF),(15,.mp 0 0 3),(16,y 3),(17,y 8),(18,y 9)]
def r81_0:List (Nat×l7):=ur [] [0,12] [(0,.row 29 4 [[y 0,y 1,y 2,y 3]]),(12,.xrow 3 1 10)]
noncomputable def e81:=tre [q60,q12] [(9,(.cons sI z2))] q81 [(2416181641,⟨2,a81_0,r81_0,13⟩)] [.agg [y 0,y 1,y 2,y 3],y 4,y 5] 6
theorem d81:e81=T7:=by kernel_rfl
noncomputable def e82:=tre [q50,q81] [] q82 [] [.agg [y 0,y 1,y 2,y 3],y 4] 5
theorem d82:e82=I6:=by kernel_rfl
noncomputable def e86:=tre [] [] q86 [] [y 0] 1
theorem d86:e86=bits_Len64:=by kernel_rfl
noncomputable def e87:=tre [q86] [] q87 [] [y 0] 1
theorem d87:e87=bits_Len:=by kernel_rfl
noncomputable def e88:=tre [q21] [] q88 [] [.agg [y 0,y 1,y 2,y 3],.agg [y 4,y 5,y 6,y 7]] 8
theorem d88:e88=M3:=by kernel_rfl
def a90_0:List AV:=up [] 148 [(0,.sc (.slice none 0 0)),(1,iV 0),(2,iV 0),(3,y 7),(4,.fn (.func 65) [] []),(10,bT),(11,bT)]
def r90_0:List (Nat×l7):=ur [] [0,14] [(0,.row 26 3 [[y 0,y 1,y 2]]),(14,.row 26 3 [[y 0,y 1,y 2]])]
def a90_1:List AV:=up a90_0 44 [(0,.agg [y 0,y 1,y 2]),(1,.mp 0 0 0),(2,.ss 58 4 12),(3,iV 0),(4,y 7),(5,y 8),(6,y 6),(9,.tup [y 7,y 8,y 6,iV 0]),(10,.agg [y 0,y 1,y 2]),(11,.tup [y 7,y 8,y 6,iV 0]),(12,y 7),(13,y 8),(14,y 6),(15,iV 0),(16,iV 0),(17,bF),(19,y 7),(20,y 11),(21,y 13)]
def r90_1:List (Nat×l7):=ur r90_0 [0,58] [(58,.xrow 86 4 12)]
noncomputable def e90:=tre [q45,q87,q46,q51,q54,q89] [(8,.nil),(12,(.cons (.sl z23) (.one sI)))] q90 [(2147615154,⟨0,a90_0,r90_0,53⟩),(3221553655,⟨2,a90_1,r90_1,59⟩)] [.agg [y 0,y 1,y 2]] 3
theorem d90:e90=Q1:=by kernel_rfl
noncomputable def e91:=tre [q21] [] q91 [] [.agg [y 0,y 1,y 2],.agg [y 3,y 4,y 5]] 6
theorem d91:e91=G5:=by kernel_rfl
def a93_0:List AV:=up [] 121 [(0,.agg [y 0,y 1,y 2]),(1,.mp 0 0 0),(2,.mp 1 0 0),(3,.mm 2),(18,.mm 2),(19,.mp 0 0 1),(20,y 1),(21,y 3),(22,y 4)]
def r93_0:List (Nat×l7):=ur [] [0,1,2,8] [(0,.row 26 3 [[y 0,y 1,y 2]]),(1,.row 57 2 [[.ss 8 4 5,.sc (.slice none 0 0)]]),(2,.xmap (y 6)),(8,.xrow 79 4 5)]
def a93_1:List AV:=up a93_0 121 [(5,.mp 12 0 0),(6,y 15),(7,y 16),(8,y 17),(23,bT),(24,.rp [y 9,y 10,y 11,y 12,y 13,y 14]),(25,.agg [y 9,y 10,y 11,y 12,y 13,y 14]),(26,.tup [y 15,y 16]),(27,.agg [y 0,y 1,y 2]),(28,.mp 12 0 0),(29,y 9),(30,.tup [y 15,y 16]),(31,y 15),(32,y 16)]
def r93_1:List (Nat×l7):=ur r93_0 [0,1,2,8,12] [(1,.row 57 2 [[.ss 8 4 18,.sc (.slice none 0 0)]]),(8,.xrow 79 4 18),(12,.row 63 6 [[y 9,y 10,y 11,y 12,y 13,y 14]])]
def a93_2:List AV:=up a93_1 121 [(5,A),(6,A),(7,A),(8,A),(10,y 9),(11,y 10),(23,bF),(24,A),(25,A),(26,A),(27,A),(28,A),(29,A),(30,A),(31,A),(32,A),(68,.tup [y 9,y 10]),(69,.agg [y 0,y 1,y 2]),(70,.tup [y 9,y 10]),(71,y 9),(72,y 10),(73,y 9),(74,y 11),(75,y 12)]
def r93_2:List (Nat×l7):=ur r93_1 [0,1,2,8,20] [(1,.row 57 2 [[.ss 8 4 5,.ss 20 3 13]]),(8,.xrow 79 4 5),(20,.xrow 89 3 13)]
def a93_3:List AV:=up a93_2 121 [(13,.mp 24 0 0),(14,.mp 37 0 0),(76,bT),(77,.rp [y 16,y 17,y 18,y 19]),(78,.agg [y 16,y 17,y 18,y 19]),(79,.mp 24 0 1),(80,y 17),(81,y 20),(82,bF),(83,.mp 24 0 0),(84,y 16),(85,.agg [y 0,y 1,y 2]),(86,.mp 24 0 1),(87,y 17),(88,y 22),(89,.agg [y 16,y 22,.sc (.slice none 0 0)]),(90,.mp 24 0 1),(91,y 17),(92,y 23),(93,y 24)]
def r93_3:List (Nat×l7):=ur r93_2 [0,1,2,8,20,24,37,43] [(24,.row 86 4 [[y 16,y 17,y 18,y 19]]),(37,.row 89 3 [[y 16,y 22,.ss 43 2 25]]),(43,.xrow 36 2 25)]
noncomputable def e93:=tre [q17,q14,q85,q90,q48,q92] [(4,(.cons sI (.cons (.sl (.cons sI z5)) (.one (.sl z9))))),(17,(.cons sI (.one (.sl (.cons sI z5))))),(12,(.cons sI (.one (.sl z12)))),(24,z9)] q93 [(1073938593,⟨3,a93_0,r93_0,9⟩),(4563861648,⟨2,a93_1,r93_1,24⟩),(3222340236,⟨2,a93_2,r93_2,21⟩),(6443894160,⟨2,a93_3,r93_3,44⟩)] [.agg [y 0,y 1,y 2]] 3
theorem d93:e93=D8:=by kernel_rfl
noncomputable def e94:=tre [] [] q94 [] [.agg [y 0,y 1,y 2,y 3],.agg [y 4,y 5]] 6
theorem d94:e94=dC0:=by kernel_rfl
noncomputable def e95:=tre [q94] [] q95 [] [.agg [y 0,y 1,y 2,y 3],.agg [y 4,y 5],y 6] 7
theorem d95:e95=A4:=by kernel_rfl
noncomputable def e96:=tre [] [] q96 [] [.agg [y 0,y 1],.agg [y 2,y 3]] 4
theorem d96:e96=E8:=by kernel_rfl
noncomputable def e97:=tre [] [] q97 [] [y 0] 1
theorem d97:e97=F8:=by kernel_rfl
noncomputable def e98:=tre [] [] q98 [] [y 0,y 1] 2
theorem d98:e98=P0:=by kernel_rfl
noncomputable def e99:=tre [q86] [] q99 [] [y 0] 1
theorem d99:e99=bits_LeadingZeros64:=by kernel_rfl
def um0:List AV:=up [] 135 [(0,y 0),(1,y 1),(2,y 8),(6,.sc (.int .u64 0)),(7,.sc (.int .u64 0)),(8,y 7),(9,y 9),(10,y 10),(11,y 14),(12,y 15),(13,y 16),(14,y 17),(15,y 21),(16,y 22),(19,y 2),(20,bF),(22,y 2),(23,y 0),(24,bF),(26,y 0),(27,bF),(34,y 2),(35,y 6),(36,y 7),(37,y 2),(38,y 7),(39,y 8),(40,y 8),(41,y 9),(42,y 8),(43,y 10),(44,y 0),(45,y 7),(46,y 11),(47,y 1),(48,y 7),(49,y 12),(50,y 13),(51,y 14),(52,y 1),(53,y 7),(54,y 15),(55,y 15),(56,y 16),(57,y 15),(58,y 17),(59,y 14),(60,y 9),(61,y 18),(62,y 14),(63,y 18),(64,y 9),(65,y 19),(66,y 20)]
def vA0:List AV:=up um0 135 [(15,y 25),(16,y 35),(17,y 31),(18,y 36),(67,y 21),(68,bT),(69,bT),(78,bT),(79,y 21),(80,y 25),(81,y 22),(82,y 9),(83,y 26),(84,y 26),(85,bT),(86,y 14),(87,y 28),(88,y 16),(89,y 29),(90,y 25),(91,y 8),(92,y 30),(93,y 31),(94,y 31),(95,y 9),(96,y 32),(97,y 31),(98,y 32),(99,y 9),(100,y 33),(101,y 34)]
def vj0:List AV:=up vA0 135 [(15,y 29),(16,y 39),(17,y 35),(18,y 40),(68,bF),(69,bF),(70,y 21),(71,y 10),(72,y 25),(73,y 22),(74,y 26),(75,y 16),(76,y 27),(77,bT),(80,y 29),(83,y 30),(84,y 30),(87,y 32),(89,y 33),(90,y 29),(92,y 34),(93,y 35),(94,y 35),(96,y 36),(97,y 35),(98,y 36),(100,y 37),(101,y 38)]
def a100_3:List AV:=up vj0 135 [(15,y 21),(16,y 36),(17,y 32),(18,y 37),(77,bF),(78,bF),(79,A),(80,A),(81,A),(82,A),(83,A),(84,A),(85,A),(87,y 29),(89,y 30),(90,y 21),(92,y 31),(93,y 32),(94,y 32),(96,y 33),(97,y 32),(98,y 33),(100,y 34),(101,y 35)]
noncomputable def e100:=tre [q99] [(21,(.cons (.int .u64) (.one (.int .u64)))),(35,(.cons (.int .u64) (.one (.int .u64)))),(39,(.cons (.int .u64) (.one (.int .u64)))),(36,(.cons (.int .u64) (.one (.int .u64))))] q100 [(5638259163,⟨2,um0,[],52⟩),(9396815211,⟨2,vA0,[],92⟩),(10470557547,⟨2,vj0,[],92⟩),(9665251235,⟨2,a100_3,[],83⟩)] [y 0,y 1,y 2] 3
theorem d100:e100=bC0:=by kernel_rfl
noncomputable def e101:=tre [] [] q101 [] [y 0,y 1] 2
theorem d101:e101=K4:=by kernel_rfl
noncomputable def e102:=tre [q97,q98,q100,q101] [] q102 [] [y 0,y 1,y 2] 3
theorem d102:e102=ai0:=by kernel_rfl
def a103_0:List AV:=up [] 12 [(0,y 2),(1,y 3),(4,.sc (.int .u64 0))]
noncomputable def e103:=tre [] [(2,(.cons (.int .u64) (.one (.int .u64))))] q103 [(536936483,⟨2,a103_0,[],1⟩)] [y 0,y 1] 2
theorem d103:e103=O4:=by kernel_rfl
noncomputable def e104:=tre [q97,q103,q101] [] q104 [] [y 0,y 1] 2
theorem d104:e104=dG0:=by kernel_rfl
noncomputable def e106:=tre [q25,q96,q26,q102,q104,q98,q105] [] q106 [] [.agg [y 0,y 1],.agg [y 2,y 3],.agg [y 4,y 5]] 6
theorem d106:e106=P8:=by kernel_rfl
noncomputable def e107:=tre [q97,q103] [] q107 [] [.agg [y 0,y 1]] 2
theorem d107:e107=X9:=by kernel_rfl
noncomputable def e108:=tre [q107,q97,q98] [] q108 [] [.agg [y 0,y 1],.agg [y 2,y 3]] 4
theorem d108:e108=Z5:=by kernel_rfl
def uS0:List AV:=up [] 72 [(0,.agg [y 0,y 1]),(1,.agg [y 2,y 3]),(2,.mp 0 0 0),(3,.mp 1 0 0),(4,iV 0),(11,.mp 0 0 1),(12,y 1),(13,y 4),(14,y 5)]
def uI0:List (Nat×l7):=ur [] [0,1] [(0,.row 57 2 [[y 0,y 1]]),(1,.row 36 2 [[y 2,y 3]])]
def a109_1:List AV:=up uS0 72 [(6,.mp 10 0 0),(7,y 13),(15,bT),(16,.rp [y 8,y 9,y 10]),(17,.agg [y 8,y 9,y 10]),(18,.mp 10 0 2),(19,y 10),(20,y 11),(21,y 12)]
def r109_1:List (Nat×l7):=ur uI0 [0,1,10] [(10,.row 89 3 [[y 8,y 9,y 10]])]
noncomputable def e109:=tre [q31] [(5,(.one sI)),(12,(.cons sI (.one .bool)))] q109 [(1342308492,⟨1,uS0,uI0,7⟩),(3221618965,⟨2,a109_1,r109_1,17⟩)] [.agg [y 0,y 1],.agg [y 2,y 3]] 4
theorem d109:e109=B9:=by kernel_rfl
def vt0:List AV:=up [] 107 [(0,.agg [y 0,y 1]),(1,y 2),(2,.agg [y 3,y 4,y 5]),(3,.agg [y 6,y 7]),(4,y 8),(5,.mp 0 0 0),(7,.mp 1 0 0),(8,.mp 2 0 0),(10,bF),(18,.agg [iV (-1048576),iV (-1048576),iV 1048576,iV 1048576]),(19,.agg [y 6,y 7]),(20,y 9),(21,bF),(22,y 2),(23,y 11),(24,y 12)]
def vl0:List (Nat×l7):=ur [] [0,1,2] [(0,.row 57 2 [[y 0,y 1]]),(1,.row 38 3 [[y 3,y 4,y 5]]),(2,.row 36 2 [[y 6,y 7]])]
def a110_1:List AV:=up vt0 107 [(15,.mp 16 0 0),(25,bF),(65,y 8),(66,y 8),(67,y 15),(68,.agg [y 15,iV 1]),(69,.mp 0 0 0),(70,y 0),(71,y 16),(72,y 17)]
def r110_1:List (Nat×l7):=ur vl0 [0,1,2,16] [(16,.row 101 2 [[y 15,iV 1]])]
noncomputable def e110:=tre [q94,q95,q27,q106,q108,q109] [(12,(.one sI)),(17,(.one sI))] q110 [(3221487956,⟨1,vt0,vl0,11⟩),(4564189990,⟨1,a110_1,r110_1,22⟩)] [.agg [y 0,y 1],y 2,.agg [y 3,y 4,y 5],.agg [y 6,y 7],y 8] 9
theorem d110:e110=n4:=by kernel_rfl
def vw0:List AV:=up [] 59 [(0,.agg [y 0,y 1,y 2,y 3]),(1,.mp 37 0 0),(2,.mp 38 0 0),(7,.mp 37 0 0),(8,.mp 37 0 0),(9,y 0),(10,.ss 51 3 18),(11,.mp 38 0 0),(12,.mp 38 0 0),(13,.mp 37 0 0),(14,.mp 37 0 1),(15,y 1),(16,y 19),(17,y 20)]
def uV0:List (Nat×l7):=ur [] [0,1,25,37,38,51,58] [(0,.row 29 4 [[y 0,y 1,y 2,y 3]]),(1,.row 29 4 [[.sc (.slice none 0 0),.sc (.slice none 0 0),.sc (.slice none 0 0),.sc (.slice none 0 0)]]),(25,.row 38 3 [[y 11,y 12,y 13]]),(37,.row 29 4 [[y 0,y 1,y 2,y 3]]),(38,.row 29 4 [[.ss 51 3 18,.ss 58 6 21,.sc (.slice none 0 0),.sc (.slice none 0 0)]]),(51,.xrow 38 3 18),(58,.xrow 63 6 21)]
def uT0:List AV:=up vw0 59 [(18,bF),(34,.mp 37 0 0),(35,.mp 37 0 2),(36,y 2),(37,y 24),(38,.mp 38 0 0),(39,.mp 38 0 2),(40,.mp 37 0 3),(41,y 3),(42,y 25),(43,y 26)]
def uU0:List (Nat×l7):=ur uV0 [0,1,25,37,38,51,58,71] [(38,.row 29 4 [[.ss 51 3 18,.ss 58 6 21,y 24,.ss 71 5 27]]),(71,.xrow 45 5 27)]
def vm0:List AV:=up uT0 19 [(0,.ss 51 3 18),(1,.fn (.func 46) [] [.mp 96 0 0]),(2,A),(4,iV 0),(6,.ss 51 3 18),(7,y 32),(8,y 33),(9,A),(10,A),(11,A),(12,A),(13,A),(14,A),(15,A),(16,A),(17,A),(18,A)]
def uh0:List (Nat×l7):=ur uU0 [0,1,25,37,38,51,58,71,95,96] [(1,.row 29 4 [[.ss 51 3 18,.ss 58 6 21,y 24,.ss 71 5 27]]),(95,.row 57 2 [[y 30,y 31]]),(96,.row 3 1 [[y 4]])]
def vo0:List AV:=up vm0 87 [(0,.agg [y 30,y 31]),(1,.ss 51 3 18),(2,y 4),(3,y 5),(4,y 8),(5,.mp 95 0 0),(6,A),(7,.mp 96 0 0),(8,A),(10,bF),(11,y 33),(12,.mp 128 0 0),(13,.mp 133 0 0),(19,.ss 51 3 18),(20,.fn (.func 46) [] [.mp 96 0 0]),(21,y 33),(22,.ss 51 3 18),(23,y 33),(25,.agg [y 40,y 41,y 42]),(26,.mp 95 0 1),(27,y 31),(28,.agg [.sc (.slice none 0 0),y 31]),(29,.mp 95 0 0),(30,y 30),(31,y 43),(32,y 44)]
def vb0:List (Nat×l7):=ur uh0 [0,1,25,37,38,51,58,71,95,96,128,133,139] [(128,.row 38 3 [[y 40,y 41,y 42]]),(133,.row 57 2 [[.ss 139 4 45,y 31]]),(139,.xrow 79 4 45)]
def ve0:List AV:=up vo0 87 [(33,bF),(49,.agg [.ss 139 4 45,y 31]),(50,.ss 51 3 18),(51,.agg [y 40,y 41,y 42]),(52,.mp 128 0 1),(53,.agg [y 41,y 42]),(54,y 5),(55,bF),(56,y 8),(57,y 49),(58,y 50)]
def vp0:List (Nat×l7):=ur vb0 [0,1,25,37,38,51,58,71,95,96,128,133,139] []
def vf0:List AV:=up ve0 87 [(11,iV (-1)),(12,.mp 112 0 0),(13,.mp 117 0 0),(21,iV (-1)),(23,iV (-1)),(24,.mp 51 0 0),(25,.agg [y 36,y 37,y 38]),(31,y 39),(32,y 40),(33,A),(49,A),(50,A),(51,A),(52,A),(53,A),(54,A),(55,A),(56,A),(57,A),(58,A)]
def uj0:List (Nat×l7):=ur vp0 [0,1,25,37,38,51,58,71,95,96,112,117,123] [(112,.row 38 3 [[y 36,y 37,y 38]]),(117,.row 57 2 [[.ss 123 4 41,y 31]]),(123,.xrow 79 4 41)]
def a111_6:List AV:=up vf0 87 [(33,bF),(49,.agg [.ss 123 4 41,y 31]),(50,.ss 51 3 18),(51,.agg [y 36,y 37,y 38]),(52,.mp 112 0 1),(53,.agg [y 37,y 38]),(54,y 5),(55,bF),(56,y 8),(57,y 45),(58,y 46)]
def r111_6:List (Nat×l7):=ur uj0 [0,1,25,37,38,51,58,71,95,96,112,117,123] []
noncomputable def e111:=tre [q79,q80,q16,q82,q83,q14,q84,q93,q95,q110] [(20,(.cons sI (.one z22))),(26,(.cons sI z19)),(33,(.one sI)),(44,(.cons sI (.one (.sl (.cons sI z5))))),(50,(.one sI)),(40,(.cons sI (.one (.sl (.cons sI z5))))),(46,(.one sI))] q111 [(5368905854,⟨2,vw0,uV0,59⟩),(6979977619,⟨2,uT0,uU0,72⟩),(8858501312,⟨1,vm0,uh0,106⟩),(11811489017,⟨2,vo0,vb0,140⟩),(13422626673,⟨1,ve0,vp0,151⟩),(10737747599,⟨2,vf0,uj0,124⟩),(12348885255,⟨1,a111_6,r111_6,135⟩)] [.agg [y 0,y 1,y 2,y 3],y 4,y 5] 6
theorem d111:e111=C5:=by kernel_rfl
noncomputable def e112:=tre [q79,q16,q50,q93,q110] [] q112 [] [.agg [y 0,y 1,y 2,y 3],y 4,.agg [y 5,y 6],y 7] 8
theorem d112:e112=A6:=by kernel_rfl
noncomputable def e113:=tre [q2,q111,q80,q112] [] q113 [] [] 0
theorem d113:e113=A8:=by kernel_rfl
def uv0:List AV:=up [] 59 [(0,.agg [y 0,y 1,y 2,y 3]),(1,.mp 20 0 0),(2,.mp 21 0 0),(7,.mp 20 0 0),(8,.mp 20 0 0),(9,y 0),(10,.ss 34 3 10),(11,.mp 21 0 0),(12,.mp 21 0 0),(13,.mp 20 0 0),(14,.mp 20 0 1),(15,y 1),(16,y 11),(17,y 12)]
def vv0:List (Nat×l7):=ur [] [0,1,20,21,34,41] [(0,.row 29 4 [[y 0,y 1,y 2,y 3]]),(1,.row 29 4 [[.sc (.slice none 0 0),.sc (.slice none 0 0),.sc (.slice none 0 0),.sc (.slice none 0 0)]]),(20,.row 29 4 [[y 0,y 1,y 2,y 3]]),(21,.row 29 4 [[.ss 34 3 10,.ss 41 6 13,.sc (.slice none 0 0),.sc (.slice none 0 0)]]),(34,.xrow 38 3 10),(41,.xrow 63 6 13)]
def vg0:List AV:=up uv0 59 [(18,bF),(34,.mp 20 0 0),(35,.mp 20 0 2),(36,y 2),(37,y 16),(38,.mp 21 0 0),(39,.mp 21 0 2),(40,.mp 20 0 3),(41,y 3),(42,y 17),(43,y 18)]
def vh0:List (Nat×l7):=ur vv0 [0,1,20,21,34,41,54] [(21,.row 29 4 [[.ss 34 3 10,.ss 41 6 13,y 16,.ss 54 5 19]]),(54,.xrow 45 5 19)]
def ui0:List AV:=up vg0 53 [(1,y 4),(2,.mp 0 0 0),(4,.mp 1 0 0),(5,y 8),(6,y 7),(7,.mp 61 0 0),(8,A),(9,A),(10,.agg [y 0,y 1,y 2,y 3]),(11,y 5),(12,y 5),(13,bF),(14,A),(15,A),(16,.tup [y 7,y 8]),(17,y 4),(18,.tup [y 7,y 8]),(19,y 7),(20,y 8),(21,y 8),(22,bF),(25,.agg [y 0,y 1,y 2,y 3]),(26,.agg [.ss 34 3 10,.ss 41 6 13,y 16,.ss 54 5 19]),(27,.mp 0 0 0),(28,.agg [y 0,y 1,y 2]),(29,.agg [y 22,y 23]),(30,.mp 0 0 0),(31,.mp 0 0 0),(32,y 0),(33,y 24),(34,y 25),(35,A),(36,A),(37,A),(38,A),(39,A),(40,A),(41,A),(42,A),(43,A)]
def uz0:List (Nat×l7):=ur vh0 [0,1,34,41,54,61] [(1,.row 29 4 [[.ss 34 3 26,.ss 41 6 13,y 16,.ss 54 5 19]]),(34,.xrow 38 3 26),(61,.row 57 2 [[y 22,y 23]])]
def vn0:List AV:=up ui0 19 [(0,.ss 34 3 26),(1,.fn (.func 46) [] [.mp 87 0 0]),(2,A),(4,iV 0),(5,A),(6,.ss 34 3 26),(7,y 33),(8,y 34),(10,A),(11,A),(12,A),(13,A),(16,A),(17,A),(18,A)]
def up0:List (Nat×l7):=ur uz0 [0,1,34,41,54,61,71,86,87] [(71,.row 38 3 [[y 29,y 30,y 31]]),(86,.row 57 2 [[y 22,y 23]]),(87,.row 3 1 [[y 29]])]
def vd0:List AV:=up vn0 87 [(0,.agg [y 22,y 23]),(1,.ss 34 3 26),(2,y 29),(3,y 4),(4,y 7),(5,.mp 86 0 0),(6,A),(7,.mp 87 0 0),(8,A),(10,bF),(11,y 34),(12,.mp 119 0 0),(13,.mp 124 0 0),(19,.ss 34 3 26),(20,.fn (.func 46) [] [.mp 87 0 0]),(21,y 34),(22,.ss 34 3 26),(23,y 34),(25,.agg [y 41,y 42,y 43]),(26,.mp 86 0 1),(27,y 23),(28,.agg [.sc (.slice none 0 0),y 23]),(29,.mp 86 0 0),(30,y 22),(31,y 44),(32,y 45)]
def us0:List (Nat×l7):=ur up0 [0,1,34,41,54,61,71,86,87,119,124,130] [(119,.row 38 3 [[y 41,y 42,y 43]]),(124,.row 57 2 [[.ss 130 4 46,y 23]]),(130,.xrow 79 4 46)]
def vz0:List AV:=up vd0 87 [(33,bF),(49,.agg [.ss 130 4 46,y 23]),(50,.ss 34 3 26),(51,.agg [y 41,y 42,y 43]),(52,.mp 119 0 1),(53,.agg [y 42,y 43]),(54,y 4),(55,bF),(56,y 7),(57,y 50),(58,y 51)]
def ur0:List (Nat×l7):=ur us0 [0,1,34,41,54,61,71,86,87,119,124,130] []
def vx0:List AV:=up vz0 87 [(11,iV (-1)),(12,.mp 103 0 0),(13,.mp 108 0 0),(21,iV (-1)),(23,iV (-1)),(24,.mp 34 0 0),(25,.agg [y 37,y 38,y 39]),(31,y 40),(32,y 41),(33,A),(49,A),(50,A),(51,A),(52,A),(53,A),(54,A),(55,A),(56,A),(57,A),(58,A)]
def uM0:List (Nat×l7):=ur ur0 [0,1,34,41,54,61,71,86,87,103,108,114] [(103,.row 38 3 [[y 37,y 38,y 39]]),(108,.row 57 2 [[.ss 114 4 42,y 23]]),(114,.xrow 79 4 42)]
def a114_7:List AV:=up vx0 87 [(33,bF),(49,.agg [.ss 114 4 42,y 23]),(50,.ss 34 3 26),(51,.agg [y 37,y 38,y 39]),(52,.mp 103 0 1),(53,.agg [y 38,y 39]),(54,y 4),(55,bF),(56,y 7),(57,y 46),(58,y 47)]
def r114_7:List (Nat×l7):=ur uM0 [0,1,34,41,54,61,71,86,87,103,108,114] []
noncomputable def e114:=tre [q79,q80,q83,q14,q84,q93,q82,q95,q110] [(12,(.cons sI (.one z22))),(18,(.cons sI z19)),(25,(.cons sI (.one z8))),(34,(.one sI)),(45,(.cons sI (.one (.sl (.cons sI z5))))),(51,(.one sI)),(41,(.cons sI (.one (.sl (.cons sI z5))))),(47,(.one sI))] q114 [(3221422206,⟨2,uv0,vv0,42⟩),(4832493971,⟨2,vg0,vh0,55⟩),(6711542190,⟨2,ui0,uz0,68⟩),(9126936768,⟨1,vn0,up0,97⟩),(12079924473,⟨2,vd0,us0,131⟩),(13691062129,⟨1,vz0,ur0,142⟩),(11006183055,⟨2,vx0,uM0,115⟩),(12617320711,⟨1,a114_7,r114_7,126⟩)] [.agg [y 0,y 1,y 2,y 3],y 4] 5
theorem d114:e114=D3:=by kernel_rfl
def a115_0:List AV:=up [] 28 [(0,.agg [y 0,y 1,y 2]),(1,y 3),(2,.mp 0 0 0),(4,.mp 1 0 0),(5,bF),(6,y 4)]
def r115_0:List (Nat×l7):=ur [] [0,1] [(0,.row 26 3 [[y 0,y 1,y 2]]),(1,.row 38 3 [[iV 0,iV 0,iV 0]])]
noncomputable def e115:=tre [] [(4,(.one sI))] q115 [(1073872975,⟨1,a115_0,r115_0,4⟩)] [.agg [y 0,y 1,y 2],y 3] 4
theorem d115:e115=E6:=by kernel_rfl
def a116_0:List AV:=up [] 94 [(0,.agg [y 0,y 1,y 2,y 3]),(1,y 4),(2,.mp 0 0 0),(4,bF),(5,.mp 15 0 0),(6,y 12),(7,y 14),(13,.agg [y 0,y 1,y 2,y 3]),(14,y 5),(15,bF),(16,bF),(17,y 4),(18,bF),(19,bF),(21,.tup [.agg [y 8,y 9,y 10,y 11],y 12]),(22,.agg [y 0,y 1,y 2,y 3]),(23,y 4),(24,.tup [.agg [y 8,y 9,y 10,y 11],y 12]),(25,.agg [y 8,y 9,y 10,y 11]),(26,y 12),(27,y 12),(28,bF)]
def r116_0:List (Nat×l7):=ur [] [0,15] [(0,.row 29 4 [[y 0,y 1,y 2,y 3]]),(15,.row 29 4 [[y 8,y 9,y 10,y 11]])]
noncomputable def e116:=tre [q1,q113,q114,q115,q112] [(14,(.one sI))] q116 [(3758555722,⟨1,a116_0,r116_0,21⟩)] [.agg [y 0,y 1,y 2,y 3],y 4] 5
theorem d116:e116=y9:=by kernel_rfl
theorem E1:∀ t∈([]:List TF),t.Ok Φ:=fun t ht=>by cases ht
theorem y6{q:TF}{l:List TF}(h:q.Ok Φ)(hl:∀ t∈l,t.Ok Φ):∀ t∈q::l,t.Ok Φ:=fun t ht=>by rcases List.mem_cons.1 ht with rfl | ht;exact h;exact hl t ht
theorem okt(i:Nat){Ψ:List TF}{S:List (Nat×SpL)}{q:TF}{H:List (Nat×Hint)}{p:List AV}{fr:Nat}(hΨ:∀ t∈Ψ,t.Ok Φ)(hi:tfs[i]?=some q)(hf:Nat.blt q.f XT=true)(h:tre Ψ S q H p fr=q.fn):q.Ok Φ :=
  tf_ok hT hF hmix pg0 hΨ (List.mem_of_getElem? hi) hf h
structure Hand:Prop where
  slices_Clone_api_Point:q14.Ok Φ
  slices_SortFunc_plan_segment_plan_planar_1:q23.Ok Φ
  slices_SortFunc_int_walk_Around_2:q41.Ok Φ
  slices_Sort_int:q44.Ok Φ
  strings_Contains:q65.Ok Φ
  slices_Clone_api_Node:q83.Ok Φ
  slices_Clone_int:q84.Ok Φ
  slices_Reverse_api_Point:q85.Ok Φ
  slices_SortFunc_api_Region_region_Regions_1:q89.Ok Φ
  slices_SortFunc_displace_outline_displace_makeChart_1:q92.Ok Φ
  bits_Add64:q105.Ok Φ
theorem ok0(h:Hand):q0.Ok Φ:=okt 0 E1 rfl rfl d0
theorem ok1(h:Hand):q1.Ok Φ:=okt 1 (y6 (ok0 h) E1) rfl rfl d1
theorem ok2(h:Hand):q2.Ok Φ:=okt 2 E1 rfl rfl d2
theorem ok3(h:Hand):q3.Ok Φ:=okt 3 E1 rfl rfl d3
theorem ok4(h:Hand):q4.Ok Φ:=okt 4 E1 rfl rfl d4
theorem ok5(h:Hand):q5.Ok Φ:=okt 5 E1 rfl rfl d5
theorem ok6(h:Hand):q6.Ok Φ:=okt 6 (y6 (ok5 h) E1) rfl rfl d6
theorem ok7(h:Hand):q7.Ok Φ:=okt 7 (y6 (ok6 h) E1) rfl rfl d7
theorem ok8(h:Hand):q8.Ok Φ:=okt 8 E1 rfl rfl d8
theorem ok9(h:Hand):q9.Ok Φ:=okt 9 (y6 (ok8 h) E1) rfl rfl d9
theorem ok10(h:Hand):q10.Ok Φ:=okt 10 (y6 (ok8 h) (y6 (ok9 h) E1)) rfl rfl d10
theorem ok11(h:Hand):q11.Ok Φ:=okt 11 E1 rfl rfl d11
theorem ok12(h:Hand):q12.Ok Φ:=okt 12 (y6 (ok11 h) E1) rfl rfl d12
theorem ok13(h:Hand):q13.Ok Φ:=okt 13 (y6 (ok12 h) E1) rfl rfl d13
theorem ok15(h:Hand):q15.Ok Φ:=okt 15 (y6 h.slices_Clone_api_Point E1) rfl rfl d15
theorem ok16(h:Hand):q16.Ok Φ:=okt 16 E1 rfl rfl d16
theorem ok17(h:Hand):q17.Ok Φ:=okt 17 (y6 (ok15 h) (y6 (ok16 h) E1)) rfl rfl d17
theorem ok18(h:Hand):q18.Ok Φ:=okt 18 E1 rfl rfl d18
theorem ok19(h:Hand):q19.Ok Φ:=okt 19 (y6 (ok18 h) E1) rfl rfl d19
theorem ok20(h:Hand):q20.Ok Φ:=okt 20 E1 rfl rfl d20
theorem ok21(h:Hand):q21.Ok Φ:=okt 21 (y6 (ok20 h) E1) rfl rfl d21
theorem ok22(h:Hand):q22.Ok Φ:=okt 22 (y6 (ok19 h) (y6 (ok21 h) E1)) rfl rfl d22
theorem ok24(h:Hand):q24.Ok Φ:=okt 24 (y6 (ok18 h) E1) rfl rfl d24
theorem ok25(h:Hand):q25.Ok Φ:=okt 25 E1 rfl rfl d25
theorem ok26(h:Hand):q26.Ok Φ:=okt 26 E1 rfl rfl d26
theorem ok27(h:Hand):q27.Ok Φ:=okt 27 (y6 (ok25 h) (y6 (ok26 h) E1)) rfl rfl d27
theorem ok28(h:Hand):q28.Ok Φ:=okt 28 E1 rfl rfl d28
theorem ok29(h:Hand):q29.Ok Φ:=okt 29 E1 rfl rfl d29
theorem ok30(h:Hand):q30.Ok Φ:=okt 30 (y6 (ok25 h) (y6 (ok26 h) E1)) rfl rfl d30
theorem ok31(h:Hand):q31.Ok Φ:=okt 31 (y6 (ok30 h) E1) rfl rfl d31
theorem ok32(h:Hand):q32.Ok Φ:=okt 32 E1 rfl rfl d32
theorem ok33(h:Hand):q33.Ok Φ:=okt 33 (y6 (ok32 h) E1) rfl rfl d33
theorem ok34(h:Hand):q34.Ok Φ:=okt 34 (y6 (ok25 h) (y6 (ok27 h) (y6 (ok31 h) (y6 (ok33 h) E1)))) rfl rfl d34
theorem ok35(h:Hand):q35.Ok Φ:=okt 35 (y6 (ok18 h) (y6 (ok34 h) (y6 (ok28 h) (y6 (ok29 h) (y6 (ok27 h) E1))))) rfl rfl d35
theorem ok36(h:Hand):q36.Ok Φ:=okt 36 (y6 (ok17 h) (y6 h.slices_SortFunc_plan_segment_plan_planar_1 (y6 (ok19 h) (y6 (ok24 h) (y6 (ok18 h) (y6 (ok27 h) (y6 (ok28 h) (y6 (ok29 h) (y6 (ok35 h) E1))))))))) rfl rfl d36
theorem ok37(h:Hand):q37.Ok Φ:=okt 37 (y6 (ok3 h) (y6 (ok4 h) (y6 (ok7 h) (y6 (ok10 h) (y6 (ok13 h) (y6 (ok36 h) E1)))))) rfl rfl d37
theorem ok38(h:Hand):q38.Ok Φ:=okt 38 E1 rfl rfl d38
theorem ok39(h:Hand):q39.Ok Φ:=okt 39 (y6 (ok25 h) (y6 (ok38 h) (y6 (ok26 h) E1))) rfl rfl d39
theorem ok40(h:Hand):q40.Ok Φ:=okt 40 (y6 (ok39 h) E1) rfl rfl d40
theorem ok42(h:Hand):q42.Ok Φ:=okt 42 (y6 (ok16 h) (y6 (ok17 h) (y6 h.slices_SortFunc_int_walk_Around_2 E1))) rfl rfl d42
theorem ok43(h:Hand):q43.Ok Φ:=okt 43 (y6 (ok11 h) E1) rfl rfl d43
theorem ok45(h:Hand):q45.Ok Φ:=okt 45 (y6 (ok37 h) (y6 (ok42 h) (y6 (ok43 h) (y6 h.slices_Sort_int E1)))) rfl rfl d45
theorem ok46(h:Hand):q46.Ok Φ:=okt 46 (y6 (ok17 h) E1) rfl rfl d46
theorem ok47(h:Hand):q47.Ok Φ:=okt 47 (y6 (ok15 h) E1) rfl rfl d47
theorem ok48(h:Hand):q48.Ok Φ:=okt 48 (y6 (ok47 h) (y6 (ok17 h) E1)) rfl rfl d48
theorem ok49(h:Hand):q49.Ok Φ:=okt 49 (y6 (ok27 h) (y6 (ok31 h) E1)) rfl rfl d49
theorem ok50(h:Hand):q50.Ok Φ:=okt 50 E1 rfl rfl d50
theorem ok51(h:Hand):q51.Ok Φ:=tf_okF hT hF hmix pg0 (y6 (ok48 h) (y6 (ok49 h) (y6 (ok50 h) E1))) (List.mem_of_getElem? (i:=51) rfl) rfl d51
theorem ok52(h:Hand):q52.Ok Φ:=okt 52 (y6 (ok47 h) E1) rfl rfl d52
theorem ok53(h:Hand):q53.Ok Φ:=okt 53 E1 rfl rfl d53
theorem ok54(h:Hand):q54.Ok Φ:=okt 54 (y6 (ok52 h) (y6 (ok53 h) E1)) rfl rfl d54
theorem ok55(h:Hand):q55.Ok Φ:=okt 55 (y6 (ok45 h) (y6 (ok46 h) (y6 (ok51 h) (y6 (ok54 h) E1)))) rfl rfl d55
theorem ok56(h:Hand):q56.Ok Φ:=okt 56 E1 rfl rfl d56
theorem ok57(h:Hand):q57.Ok Φ:=okt 57 (y6 (ok56 h) E1) rfl rfl d57
theorem ok58(h:Hand):q58.Ok Φ:=okt 58 E1 rfl rfl d58
theorem ok59(h:Hand):q59.Ok Φ:=okt 59 (y6 (ok58 h) E1) rfl rfl d59
theorem ok60(h:Hand):q60.Ok Φ:=okt 60 E1 rfl rfl d60
theorem ok61(h:Hand):q61.Ok Φ:=okt 61 (y6 (ok60 h) E1) rfl rfl d61
theorem ok62(h:Hand):q62.Ok Φ:=okt 62 (y6 (ok61 h) E1) rfl rfl d62
theorem ok63(h:Hand):q63.Ok Φ:=okt 63 E1 rfl rfl d63
theorem ok64(h:Hand):q64.Ok Φ:=okt 64 (y6 (ok63 h) E1) rfl rfl d64
theorem ok66(h:Hand):q66.Ok Φ:=okt 66 (y6 (ok64 h) (y6 h.strings_Contains (y6 (ok63 h) E1))) rfl rfl d66
theorem ok67(h:Hand):q67.Ok Φ:=okt 67 (y6 (ok66 h) E1) rfl rfl d67
theorem ok68(h:Hand):q68.Ok Φ:=okt 68 (y6 (ok67 h) E1) rfl rfl d68
theorem ok69(h:Hand):q69.Ok Φ:=okt 69 (y6 (ok68 h) E1) rfl rfl d69
theorem ok70(h:Hand):q70.Ok Φ:=okt 70 (y6 (ok60 h) E1) rfl rfl d70
theorem ok71(h:Hand):q71.Ok Φ:=okt 71 (y6 (ok70 h) E1) rfl rfl d71
theorem ok72(h:Hand):q72.Ok Φ:=okt 72 (y6 (ok12 h) E1) rfl rfl d72
theorem ok73(h:Hand):q73.Ok Φ:=okt 73 (y6 (ok60 h) (y6 (ok16 h) (y6 (ok15 h) (y6 (ok72 h) E1)))) rfl rfl d73
theorem ok74(h:Hand):q74.Ok Φ:=okt 74 (y6 (ok73 h) E1) rfl rfl d74
theorem ok75(h:Hand):q75.Ok Φ:=okt 75 (y6 (ok74 h) E1) rfl rfl d75
theorem ok76(h:Hand):q76.Ok Φ:=okt 76 (y6 (ok75 h) E1) rfl rfl d76
theorem ok77(h:Hand):q77.Ok Φ:=okt 77 (y6 (ok76 h) E1) rfl rfl d77
theorem ok78(h:Hand):q78.Ok Φ:=okt 78 E1 rfl rfl d78
theorem ok79(h:Hand):q79.Ok Φ:=okt 79 (y6 (ok55 h) (y6 (ok57 h) (y6 (ok59 h) (y6 (ok62 h) (y6 (ok69 h) (y6 (ok71 h) (y6 (ok77 h) (y6 (ok60 h) (y6 (ok78 h) E1))))))))) rfl rfl d79
theorem ok80(h:Hand):q80.Ok Φ:=okt 80 E1 rfl rfl d80
theorem ok81(h:Hand):q81.Ok Φ:=okt 81 (y6 (ok60 h) (y6 (ok12 h) E1)) rfl rfl d81
theorem ok82(h:Hand):q82.Ok Φ:=okt 82 (y6 (ok50 h) (y6 (ok81 h) E1)) rfl rfl d82
theorem ok86(h:Hand):q86.Ok Φ:=okt 86 E1 rfl rfl d86
theorem ok87(h:Hand):q87.Ok Φ:=okt 87 (y6 (ok86 h) E1) rfl rfl d87
theorem ok88(h:Hand):q88.Ok Φ:=okt 88 (y6 (ok21 h) E1) rfl rfl d88
theorem ok90(h:Hand):q90.Ok Φ:=okt 90 (y6 (ok45 h) (y6 (ok87 h) (y6 (ok46 h) (y6 (ok51 h) (y6 (ok54 h) (y6 h.slices_SortFunc_api_Region_region_Regions_1 E1)))))) rfl rfl d90
theorem ok91(h:Hand):q91.Ok Φ:=okt 91 (y6 (ok21 h) E1) rfl rfl d91
theorem ok93(h:Hand):q93.Ok Φ:=okt 93 (y6 (ok17 h) (y6 h.slices_Clone_api_Point (y6 h.slices_Reverse_api_Point (y6 (ok90 h) (y6 (ok48 h) (y6 h.slices_SortFunc_displace_outline_displace_makeChart_1 E1)))))) rfl rfl d93
theorem ok94(h:Hand):q94.Ok Φ:=okt 94 E1 rfl rfl d94
theorem ok95(h:Hand):q95.Ok Φ:=okt 95 (y6 (ok94 h) E1) rfl rfl d95
theorem ok96(h:Hand):q96.Ok Φ:=okt 96 E1 rfl rfl d96
theorem ok97(h:Hand):q97.Ok Φ:=okt 97 E1 rfl rfl d97
theorem ok98(h:Hand):q98.Ok Φ:=okt 98 E1 rfl rfl d98
theorem ok99(h:Hand):q99.Ok Φ:=okt 99 (y6 (ok86 h) E1) rfl rfl d99
theorem ok100(h:Hand):q100.Ok Φ:=okt 100 (y6 (ok99 h) E1) rfl rfl d100
theorem ok101(h:Hand):q101.Ok Φ:=okt 101 E1 rfl rfl d101
theorem ok102(h:Hand):q102.Ok Φ:=okt 102 (y6 (ok97 h) (y6 (ok98 h) (y6 (ok100 h) (y6 (ok101 h) E1)))) rfl rfl d102
theorem ok103(h:Hand):q103.Ok Φ:=okt 103 E1 rfl rfl d103
theorem ok104(h:Hand):q104.Ok Φ:=okt 104 (y6 (ok97 h) (y6 (ok103 h) (y6 (ok101 h) E1))) rfl rfl d104
theorem ok106(h:Hand):q106.Ok Φ:=okt 106 (y6 (ok25 h) (y6 (ok96 h) (y6 (ok26 h) (y6 (ok102 h) (y6 (ok104 h) (y6 (ok98 h) (y6 h.bits_Add64 E1))))))) rfl rfl d106
theorem ok107(h:Hand):q107.Ok Φ:=okt 107 (y6 (ok97 h) (y6 (ok103 h) E1)) rfl rfl d107
theorem ok108(h:Hand):q108.Ok Φ:=okt 108 (y6 (ok107 h) (y6 (ok97 h) (y6 (ok98 h) E1))) rfl rfl d108
theorem ok109(h:Hand):q109.Ok Φ:=okt 109 (y6 (ok31 h) E1) rfl rfl d109
theorem wL0(h:Hand):q110.Ok Φ:=okt 110 (y6 (ok94 h) (y6 (ok95 h) (y6 (ok27 h) (y6 (ok106 h) (y6 (ok108 h) (y6 (ok109 h) E1)))))) rfl rfl d110
theorem ok111(h:Hand):q111.Ok Φ:=okt 111 (y6 (ok79 h) (y6 (ok80 h) (y6 (ok16 h) (y6 (ok82 h) (y6 h.slices_Clone_api_Node (y6 h.slices_Clone_api_Point (y6 h.slices_Clone_int (y6 (ok93 h) (y6 (ok95 h) (y6 (wL0 h) E1)))))))))) rfl rfl d111
theorem ok112(h:Hand):q112.Ok Φ:=okt 112 (y6 (ok79 h) (y6 (ok16 h) (y6 (ok50 h) (y6 (ok93 h) (y6 (wL0 h) E1))))) rfl rfl d112
theorem ok113(h:Hand):q113.Ok Φ:=okt 113 (y6 (ok2 h) (y6 (ok111 h) (y6 (ok80 h) (y6 (ok112 h) E1)))) rfl rfl d113
theorem ok114(h:Hand):q114.Ok Φ:=okt 114 (y6 (ok79 h) (y6 (ok80 h) (y6 h.slices_Clone_api_Node (y6 h.slices_Clone_api_Point (y6 h.slices_Clone_int (y6 (ok93 h) (y6 (ok82 h) (y6 (ok95 h) (y6 (wL0 h) E1))))))))) rfl rfl d114
theorem ok115(h:Hand):q115.Ok Φ:=okt 115 E1 rfl rfl d115
theorem ok116(h:Hand):q116.Ok Φ:=okt 116 (y6 (ok1 h) (y6 (ok113 h) (y6 (ok114 h) (y6 (ok115 h) (y6 (ok112 h) E1))))) rfl rfl d116
end Go.Proofs.YthaceaflkhpooaaGreatDoor
