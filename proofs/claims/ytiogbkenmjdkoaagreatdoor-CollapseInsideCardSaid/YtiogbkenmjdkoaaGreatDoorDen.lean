/- A part of the proof; its readable source lies in wip of the prover's repo (squeezed here for the limit of bytes). -/
import Derived.Test.YtiogbkenmjdkoaaGreatDoorMd
import Derived.Test.YtiogbkenmjdkoaaGreatDoorMe
import Derived.Test.YtiogbkenmjdkoaaGreatDoorProg
import Derived.KernelRfl
set_option linter.all false
open Bool renaming true->IN,false->IS
open ByteArray renaming mk->dj
open Go.Proofs.Tryz renaming prog->fA
open List renaming mem_of_getElem?->aJ,range->bo
open Nat renaming beq->aB
open Option renaming some->U,none->No
namespace Go.Proofs.YtiogbkenmjdkoaaGreatDoor
noncomputable section
open Go Go.Ab Go.Proofs
set_option maxRecDepth 100000
class yC where
  n:Int
def Mj:List Value:=[.int .i32 32,.int .i32 32,.int .i64 0,.int .i32 39,.int .i32 41,.int .i64 0,.int .i32 45,.int .i32 46,.int .i64 0,.int .i32 48,.int .i32 57,.int .i64 0,.int .i32 65,.int .i32 90,.int .i64 1,.int .i32 97,.int .i32 122,.int .i64 1,.int .i32 192,.int .i32 214,.int .i64 1,.int .i32 216,.int .i32 246,.int .i64 1,.int .i32 248,.int .i32 591,.int .i64 1,.int .i32 880,.int .i32 1023,.int .i64 2,.int .i32 1024,.int .i32 1279,.int .i64 3,.int .i32 1488,.int .i32 1514,.int .i64 4,.int .i32 19968,.int .i32 40959,.int .i64 5]
instance [yC]:nF:=⟨λb o=>match aB b 0 with
  |true=>Mj[o]?
  |false=>match aB b 1&&aB o 0 with
    |true=>U (.int .i64 yC.n)
    |false=>No⟩
variable [yC]
noncomputable def bd1:fb mL:=OX fA
noncomputable def at0:fb Func:=Ru fA
def T:dd:=λt=>bd1.get t
def F:FuncId->Option Func:=λf=>at0.get f
def ca:mc fA T:=bd2 fA
def cu:∀f fn,F f=U fn->fA.funcs[f]?=U fn:=at1 fA
def RX:fA.follows .mixedOrders=IN:=by kernel_rfl
def A:ag:=.any
def fk:ag:=.bF (.bool IS)
def nH:ag:=.bF (.bool IN)
def y(n:Nat):ag:=.ek n
def lZ(n:Int):ag:=.bF (.int .i64 n)
def mm:ag:=.bF (.slice No 0 0)
def u'(n:Nat):ag:=.fn (.func n) [] []
def fN(n:Nat):ag:=.mp n 0 0
def Nd(a n:Nat):List ag:=(bo n).map λi=>y (a+i)
def gA(a n:Nat):ag:=.agg (Nd a n)
def sx(a n:Nat):ag:=.h8 (Nd a n)
def rw(t a n:Nat):b7:=.row t n [Nd a n]
def Hw{α:Type}:Nat->List (Nat×α)->Option α
  |_,[]=>No
  |n,(k,v)::l=>match aB n k with
    |true=>U v
    |false=>Hw n l
def QT{α:Type}:Nat->List α->Option α
  |_,[]=>No
  | 0,a::_=>U a
  |n+1,_::l=>QT n l
def Z4{α:Type}:List (Nat×List α)->List (Nat×α)
  | []=>[]
  | (k,l)::m=>(bo l.length).zipWith (λi v=>(k+i,v)) l++Z4 m
def up(l:List ag)(n:Nat)(r:List (Nat×List ag)):List ag:=let m:=Z4 r;(bo n).map λi=>match Hw i m with
  |some v=>v
  |none=>match QT i l with
    |some v=>v
    |none=>.any
def j8(l:List (Nat×b7))(ks:List Nat)(m:List (Nat×b7)):List (Nat×b7):=ks.map λk=>(k,match Hw k m with
  |some v=>v
  |none=>match Hw k l with
    |some v=>v
    |none=>.row 0 0 [])
abbrev z41:bl:=.one d'
abbrev z0:dr:=.ft z41
abbrev ni:bl:=.cons d' z41
abbrev z2:bl:=.one z0
abbrev z3:dr:=.ft ni
abbrev z4:dr:=.agg ni
abbrev z5:bl:=.cons d' ni
abbrev ve:bl:=.one z3
abbrev bt8:bl:=.cons .str z2
abbrev tX:dr:=.ft z5
abbrev z9:bl:=.cons d' ve
abbrev bt3:bl:=.cons d' bt8
abbrev bt4:bl:=.cons z3 ni
abbrev z12:bl:=.cons d' bt3
abbrev bt5:bl:=.cons (.ft z2) z2
abbrev bt6:bl:=.cons d' bt4
abbrev tV:bl:=.cons d' z12
abbrev ym:dr:=.ft tV
abbrev z17:bl:=.cons d' bt6
abbrev KB:bl:=.one ym
abbrev bt7:bl:=.cons z0 bt5
abbrev z20:bl:=.cons d' z17
abbrev z21:bl:=.cons z3 (.cons d' z9)
abbrev z22:dr:=.ft z20
abbrev z23:bl:=.cons d' bt7
abbrev z24:bl:=.cons d' z21
abbrev z25:bl:=.cons z0 KB
abbrev z26:bl:=.cons d' z24
abbrev z27:bl:=.cons d' z26
abbrev z28:bl:=.cons z22 z2
abbrev z29:dr:=.ptr z27
abbrev DB:bl:=.cons z29 z41
abbrev z31:dr:=.agg DB
abbrev z32:bl:=.cons tX z28
abbrev z33:dr:=.agg z32
abbrev wh:bl:=.one z33
abbrev z35:bl:=.cons z33 z41
abbrev z36:bl:=.cons z22 z25
abbrev z37:bl:=.cons tX z36
abbrev tW:dr:=.agg z37
abbrev z39:bl:=.cons tW z41
abbrev DI:bl:=.cons d' z5
abbrev tf:fp:=⟨40,ve,.agg DI,DL⟩
abbrev lL:fp:=⟨18,wh,.bool,DP⟩
abbrev fa:fp:=⟨5,.one tW,.bool,DQ⟩
abbrev j7:fp:=⟨41,ni,z3,GD⟩
abbrev lP:fp:=⟨19,.nil,tW,Lf⟩
abbrev nA:fp:=⟨169,wh,.fe (.cons z0 z2),D0⟩
abbrev lU:fp:=⟨170,z2,.bool,Ad⟩
abbrev tN:fp:=⟨198,z41,.bool,D5⟩
abbrev JJ:fp:=⟨94,.cons z0 (.one (.fn 198 .nil)),.bool,Gv⟩
abbrev JP:fp:=⟨171,z2,.bool,Af⟩
abbrev FJ:fp:=⟨199,.one z4,.bool,Ag⟩
abbrev IY:fp:=⟨200,.cons z3 (.one (.fn 199 .nil)),.bool,Gn⟩
abbrev I1:fp:=⟨172,wh,.bool,ED⟩
abbrev C3:fp:=⟨60,.cons z0 z41,d',yv⟩
abbrev Bu:fp:=⟨119,.cons z0 z41,.bool,rL⟩
abbrev Ja:fp:=⟨173,.cons z33 z2,d',D6⟩
abbrev C4:fp:=⟨2000055,ve,z3,Dn⟩
abbrev z40:bl:=.one .bool
abbrev C5:fp:=⟨96,z35,.fe (.cons (.agg z20) z40),yU⟩
abbrev Bv:fp:=⟨16,z35,.fe (.cons (.agg z5) z40),wC⟩
abbrev Bw:fp:=⟨126,z35,.fe (.cons z3 z41),vo⟩
abbrev Dl:bl:=.cons z4 (.one z4)
abbrev zy:fp:=⟨207,.one z31,.fe Dl,sJ⟩
abbrev C6:fp:=⟨204,.one z31,d',wj⟩
abbrev C7:fp:=⟨87,z41,.bool,xm⟩
abbrev x7:fp:=⟨36,ni,d',xf⟩
abbrev Jb:fp:=⟨203,.cons z31 (.one z31),d',Ee⟩
abbrev FU:fp:=⟨1000202,.cons (.ft DB) (.cons d' (.one (.fn 203 .nil))),.ft DB,DK⟩
abbrev Jc:fp:=⟨205,.one z31,d',BS⟩
abbrev zz:fp:=⟨88,ve,.bool,wB⟩
abbrev Bx:fp:=⟨89,.cons z4 Dl,d',yI⟩
abbrev Bz:fp:=⟨38,.cons z4 Dl,.bool,nP⟩
abbrev FV:fp:=⟨208,.one z31,.bool,vf⟩
abbrev FW:fp:=⟨209,.one z31,.bool,tm⟩
abbrev Jd:fp:=⟨183,.cons z4 Dl,d',EM⟩
abbrev FX:fp:=⟨137,.cons z4 Dl,d',pP⟩
abbrev Je:fp:=⟨261,Dl,.bool,n_⟩
abbrev Jf:fp:=⟨244,.cons z4 (.cons z4 Dl),d',B_⟩
abbrev Jg:fp:=⟨222,.cons z4 (.cons z4 Dl),d',Cn⟩
abbrev z45:bl:=.cons d' (.one z4)
abbrev Jh:fp:=⟨206,.cons z31 (.cons z31 (.one (.pa z45))),.bool,BW⟩
abbrev Ji:fp:=⟨174,wh,.bool,EA⟩
abbrev Jj:fp:=⟨122,wh,d',EE⟩
abbrev FY:fp:=⟨211,Dl,.bool,yG⟩
abbrev FZ:fp:=⟨178,.cons z4 Dl,.bool,yO⟩
abbrev z50:bl:=.cons (.ptr z5) (.one (.ptr (.one (.pa z45))))
abbrev Jk:fp:=⟨177,.cons d' (.cons d' z50),d',yA⟩
abbrev F0:fp:=⟨1000176,.cons z0 (.cons d' (.one (.fn 177 z50))),z0,LM⟩
abbrev Jl:fp:=⟨123,z35,z0,Ca⟩
abbrev Jm:fp:=⟨124,.cons z0 z41,d',B0⟩
abbrev BA:fp:=⟨1000026,.cons z0 z41,z0,vO⟩
abbrev C8:fp:=⟨82,wh,.fe (.cons (.ft z2) z41),xt⟩
abbrev C9:fp:=⟨83,wh,.pa z9,Ae⟩
abbrev C_:fp:=⟨120,z35,.fe (.cons (.agg z20) z40),Am⟩
abbrev F1:fp:=⟨100,.cons z33 z2,d',wu⟩
abbrev Jn:fp:=⟨90,.cons (.pa z9) (.cons z0 (.one z4)),.bool,wi⟩
abbrev F2:fp:=⟨13,z35,d',B8⟩
abbrev BB:fp:=⟨84,.cons z33 (.cons (.ft z2) (.one (.pa z9))),.ft z23,wo⟩
abbrev F3:fp:=⟨79,z35,d',wz⟩
abbrev DE:dr:=.agg z23
abbrev F4:fp:=⟨127,.one DE,.ft z2,xn⟩
abbrev C':fp:=⟨85,.cons z33 (.one (.ft z23)),.fe (.cons z0 z40),Ai⟩
abbrev Jo:fp:=⟨42,wh,d',Ea⟩
abbrev z46:dr:=.agg tV
abbrev Jp:fp:=⟨43,.one z46,.bool,Ll⟩
abbrev Jq:fp:=⟨53,.cons ym (.one (.fn 43 .nil)),.bool,Ge⟩
abbrev Jr:fp:=⟨45,.one z46,.bool,GO⟩
abbrev Js:fp:=⟨53,.cons ym (.one (.fn 45 .nil)),.bool,zk⟩
abbrev vU:fp:=⟨31,z41,d',qM⟩
abbrev Jt:fp:=⟨46,.one z46,.bool,GN⟩
abbrev Ju:fp:=⟨53,.cons ym (.one (.fn 46 .nil)),.bool,zm⟩
abbrev F5:fp:=⟨140,z41,d',B5⟩
abbrev xL:bl:=.cons z0 z41
abbrev Jv:fp:=⟨138,.one .str,.fe xL,Eo⟩
abbrev Jw:fp:=⟨139,.cons .str (.one .str),.bool,strings_Contains⟩
abbrev Jx:fp:=⟨93,.one .str,.fe xL,EO⟩
abbrev Jy:fp:=⟨48,.one .str,d',Ar⟩
abbrev Jz:fp:=⟨47,.one z46,.bool,GM⟩
abbrev JA:fp:=⟨53,.cons ym (.one (.fn 47 .nil)),.bool,zl⟩
abbrev JB:fp:=⟨49,.one z46,.bool,GP⟩
abbrev JC:fp:=⟨53,.cons ym (.one (.fn 49 .nil)),.bool,zn⟩
abbrev JD:fp:=⟨97,xL,.bool,Hr⟩
abbrev z55:bl:=.cons (.ptr tV) (.one (.ptr z32))
abbrev JE:fp:=⟨95,.cons d' z55,.bool,DX⟩
abbrev JF:fp:=⟨94,.cons z0 (.one (.fn 95 z55)),.bool,Gw⟩
abbrev JG:fp:=⟨51,.cons z33 (.one z46),.bool,D3⟩
abbrev JH:fp:=⟨50,.cons z46 (.one (.ptr z37)),.bool,GQ⟩
abbrev JI:fp:=⟨53,.cons ym (.one (.fn 50 (.one (.ptr z37)))),.bool,zj⟩
abbrev JK:fp:=⟨92,z2,.bool,B7⟩
abbrev BC:fp:=⟨21,.one tW,d',yB⟩
abbrev Da:fp:=⟨2000032,z2,z0,Dm⟩
abbrev F6:fp:=⟨12,z39,.fe (.cons z46 z40),G4⟩
abbrev JL:fp:=⟨117,.one (.int .u64),d',bits_Len64⟩
abbrev JM:fp:=⟨74,.one (.int .u64),d',bits_Len⟩
abbrev JN:fp:=⟨35,.cons DE (.one DE),d',D1⟩
abbrev F7:fp:=⟨1000034,.cons (.ft z23) (.cons d' (.one (.fn 35 .nil))),.ft z23,DJ⟩
abbrev JO:fp:=⟨14,wh,.fe (.cons (.ft z23) z41),yx⟩
abbrev z49:bl:=.cons d' (.one DE)
abbrev Db:fp:=⟨30,wh,.pa z49,Aa⟩
abbrev JQ:fp:=⟨78,.cons tW ni,z0,Ah⟩
abbrev JR:fp:=⟨77,.cons z0 z2,.bool,DZ⟩
abbrev JS:fp:=⟨80,z35,d',xy⟩
abbrev JT:fp:=⟨165,.one (.ft z2),z0,B3⟩
abbrev JU:fp:=⟨113,ni,.bool,DM⟩
abbrev JV:fp:=⟨121,.cons z0 z2,z0,El⟩
abbrev z54:bl:=.cons d' z40
abbrev JW:fp:=⟨81,.cons tW (.cons d' (.cons d' (.one (.pa z54)))),.bool,D4⟩
abbrev Dc:fp:=⟨29,.cons tW (.cons (.pa z49) (.one z46)),.fe z54,z8⟩
abbrev JX:fp:=⟨63,ve,.agg DI,Eu⟩
abbrev JY:fp:=⟨188,ni,d',HG⟩
abbrev IL:fp:=⟨150,ni,.fe ni,xG⟩
abbrev IM:fp:=⟨217,Dl,d',Ec⟩
abbrev FK:fp:=⟨1000216,.cons z3 (.cons d' (.one (.fn 217 .nil))),z3,Ga⟩
abbrev IP:fp:=⟨190,ve,z3,B9⟩
abbrev IQ:fp:=⟨151,.cons z3 ve,z3,EL⟩
abbrev IU:fp:=⟨102,.cons (.pa z9) (.cons z33 (.cons DE z41)),z3,DV⟩
abbrev IV:fp:=⟨64,.cons (.pa z9) (.cons z33 (.cons DE z41)),.fe (.cons z4 z40),rJ⟩
abbrev zZ:fp:=⟨24,z35,.fe (.cons z4 z40),vg⟩
abbrev IW:fp:=⟨10,z39,.fe z54,GI⟩
abbrev IX:fp:=⟨56,z35,d',D7⟩
abbrev FL:fp:=⟨59,z2,d',DU⟩
abbrev IZ:fp:=⟨58,.cons (.agg z5) (.one (.agg z5)),d',DN⟩
abbrev FM:fp:=⟨1000057,.cons tX (.cons d' (.one (.fn 58 .nil))),tX,Rp⟩
abbrev FN:fp:=⟨23,z39,tX,z6⟩
abbrev z51:bl:=.one (.agg (.cons d' (.cons d' DI)))
abbrev FO:fp:=⟨8,.cons tW z51,.fe xL,BZ⟩
abbrev FP:fp:=⟨2000054,.one tX,tX,DF⟩
abbrev I0:fp:=⟨72,.cons (.agg z5) (.one (.agg z5)),d',DW⟩
abbrev FQ:fp:=⟨1000071,.cons tX (.cons d' (.one (.fn 72 .nil))),tX,DR⟩
abbrev FR:fp:=⟨25,.cons tW (.cons d' z45),tW,BU⟩
abbrev z53:bl:=.cons z22 (.cons z0 (.cons ym z2))
abbrev FT:fp:=⟨7,.cons tW z51,.fe (.cons (.agg (.cons tX z53)) z41),xo⟩
abbrev I2:fp:=⟨11,z39,.fe z39,LP⟩
abbrev I3:fp:=⟨20,.cons z0 z2,.bool,GF⟩
abbrev I4:fp:=⟨6,.nil,.bool,z1⟩
abbrev I5:fp:=⟨15,xL,.bool,G7⟩
abbrev I6:fp:=⟨37,.one z4,.bool,DG⟩
abbrev I7:fp:=⟨39,.cons (.pa z9) (.cons (.ft z23) (.one z4)),d',I_⟩
abbrev I8:fp:=⟨17,.cons z33 (.one z4),.fe z5,I'⟩
abbrev I9:fp:=⟨4,z39,.bool,GV⟩
def O3:List fp:=[tf,lL,fa,j7,lP,nA,lU,tN,JJ,JP,FJ,IY,I1,C3,Bu,Ja,C4,C5,Bv,Bw,zy,C6,C7,x7,Jb,FU,Jc,zz,Bx,Bz,FV,FW,Jd,FX,Je,Jf,Jg,Jh,Ji,Jj,FY,FZ,Jk,F0,Jl,Jm,BA,C8,C9,C_,F1,Jn,F2,BB,F3,F4,C',Jo,Jp,Jq,Jr,Js,vU,Jt,Ju,F5,Jv,Jw,Jx,Jy,Jz,JA,JB,JC,JD,JE,JF,JG,JH,JI,JK,BC,Da,F6,JL,JM,JN,F7,JO,Db,JQ,JR,JS,JT,JU,JV,JW,Dc,JX,JY,IL,IM,FK,IP,IQ,IU,IV,zZ,IW,IX,FL,IZ,FM,FN,FO,FP,I0,FQ,FR,FT,I2,I3,I4,I5,I6,I7,I8,I9,⟨3000039,z40,.bool,λ_=>No⟩]
def Φ:lb:=tJ fA O3
def j6(Ψ:List fp)(S:List (Nat×bl))(q:fp)(H:List (Nat×Hint))(p:List ag)(bb:Nat):q.nq.T->Option q.ng.T:=zN T Ψ (Oz S) q.nq q.ng p (E8 T Φ F H 100000 q.f p bb)
def uA:zX O3=IN:=by kernel_rfl
def hU:∀t∈([]:List fp),t.Ok Φ:=λt ht=>by cases ht
def bx{q:fp}{l:List fp}(h:q.Ok Φ)(hl:∀t∈l,t.Ok Φ):∀t∈q::l,t.Ok Φ:=λt ht=>by rcases List.mem_cons.1 ht with rfl|ht;exact h;exact hl t ht
def iV(i:Nat)(q:fp){Ψ:List fp}(hΨ:∀t∈Ψ,t.Ok Φ)(S:List (Nat×bl))(H:List (Nat×Hint))(p:List ag)(bb:Nat)(h:j6 Ψ S q H p bb=q.fn:=by kernel_rfl)(a7:O3[i]?=U q:=by exact rfl)(hf:Nat.blt q.f p6=IN:=by exact rfl):q.Ok Φ :=be2 ca cu RX uA hΨ (aJ a7) hf h
class Hand:Prop where
  pJ:C4.Ok Φ
  va:FU.Ok Φ
  Dk:F0.Ok Φ
  LL:BA.Ok Φ
  ab3:Jw.Ok Φ
  L':Da.Ok Φ
  ab4:F7.Ok Φ
  ab5:FK.Ok Φ
  ab6:FM.Ok Φ
  Z2:FP.Ok Φ
  ab2:FQ.Ok Φ
variable [Hand]
open Hand
def aD4:=iV 0 tf hU [(11,.cons d' DI)] [(2953117776,⟨5,up [] 66 [(0,[y 0]),(2,[fN 0,fN 21,y 11,y 0,y 1,fk]),(9,[y 0,sx 3 2,sx 3 2,y 3,y 0,sx 5 2,.h8 [y 6],y 6,y 0,sx 7 2,sx 7 2,y 7,y 0,sx 9 2,.h8 [y 10],y 10,.agg [y 3,y 6,y 7,y 10]])],j8 [] [0,21] [(0,.row 105 4 [[lZ 0,lZ 0,lZ 0,lZ 0]]),(21,rw 105 12 4)],42⟩)] [y 0] 1
def P7:=up [] 101 [(0,[gA 0 3,fN 0,fk,.ea 20 2 9,y 10]),(7,[fN 0,y 0,y 3,fk,fk,.mp 0 0 1,y 1,y 5,fk,fk,fk,.mp 0 0 2,y 2,y 7,fk,fk])]
def US:=j8 [] [0,20] [(0,rw 26 0 3),(20,.f' 60 2 9)]
def aD5:=iV 1 lL (bx aD4 hU) [(9,.cons z3 z41),(14,.cons z3 z41)] [(2416247429,⟨2,P7,US,21⟩),(3758687000,⟨2,up P7 101 [(3,[.ea 20 2 14]),(5,[y 15]),(23,[y 10,fN 0,y 0,y 12,fk])],j8 US [0,20] [(20,.f' 60 2 14)],27⟩)] [gA 0 3] 3
def aF7:=iV 2 fa (bx aD5 hU) [(8,z41)] [(2147746055,⟨1,up [] 39 [(0,[gA 0 4,fN 0,fk,y 8,fN 0,gA 0 3,y 4,fk,fk,.mp 0 0 3,y 3,y 6,fk,fk])],j8 [] [0] [(0,rw 29 0 4)],13⟩)] [gA 0 4] 4
def aF9:=iV 3 j7 hU [] [] [y 0,y 1] 2
def aG7:=iV 4 lP (bx aF9 hU) [] [] [] 0
def Qr:=up [] 36 [(0,[gA 0 3,fN 0,.ea 7 1 4,mm]),(8,[fN 0,y 0,y 3,y 5])]
def Vc:=j8 [] [0,7] [(0,rw 26 0 3),(7,.f' 3 1 4)]
def aH2:=iV 5 nA hU [(4,xL),(9,xL)] [(1073872980,⟨2,Qr,Vc,8⟩),(2416378096,⟨2,up Qr 36 [(3,[.ea 13 1 9]),(12,[fk]),(21,[.mp 0 0 1,y 1,y 8,y 10])],j8 Vc [0,7,13] [(13,.f' 3 1 9)],14⟩)] [gA 0 3] 3
def aH7:=iV 6 lU hU [(1,z41)] [(268566575,⟨1,up [] 20 [(0,[y 0]),(2,[fk,y 1])],[],2⟩)] [y 0] 1
def aI5:=iV 7 tN hU [] [] [y 0] 1
def aJ6:=iV 8 JJ (bx aI5 hU) [(2,z41)] [(537002480,⟨1,up [] 19 [(0,[y 0,u' 198]),(4,[lZ 0]),(6,[y 0,y 1,y 2])],[],10⟩)] [y 0,u' 198] 1
def aK1:=iV 9 JP (bx aJ6 hU) [] [] [y 0] 1
def T1:=iV 10 FJ hU [] [] [gA 0 2] 2
def aE3:=iV 11 IY (bx T1 hU) [(2,z41)] [(537002482,⟨1,up [] 19 [(0,[y 0,u' 199]),(4,[lZ 0]),(6,[y 0,y 1,y 2])],[],10⟩)] [y 0,u' 199] 1
def P3:=up [] 32 [(0,[gA 0 3,fN 0,fk,u' 199]),(8,[fN 0,y 0,y 3,y 4])]
def UO:=j8 [] [0] [(0,rw 26 0 3)]
def aE5:=iV 12 I1 (bx T1 (bx aE3 hU)) [(4,z41),(8,z41)] [(1073939331,⟨1,P3,UO,7⟩),(2148074520,⟨1,up P3 32 [(12,[fk]),(20,[.mp 0 0 1,y 1,y 7,y 8])],j8 UO [0] [],12⟩)] [gA 0 3] 3
def ND:=iV 13 C3 hU [(3,z41)] [(805437538,⟨1,up [] 19 [(0,[y 0,y 1]),(4,[lZ 0]),(6,[y 0,y 2,y 3])],[],4⟩)] [y 0,y 1] 2
def IB:=iV 14 Bu (bx ND hU) [] [] [y 0,y 1] 2
def P4:=up [] 85 [(0,[gA 0 3,y 3,fN 0]),(4,[lZ 0]),(15,[fN 0,y 0,y 4,y 5])]
def UP:=j8 [] [0] [(0,rw 26 0 3)]
def P5:=up P4 85 [(5,[y 5,fN 10]),(19,[nH,y 5,sx 8 3,gA 8 3,fN 0,y 0,y 5,y 11,y 12,y 13])]
def UQ:=j8 UP [0,10] [(10,rw 62 8 3)]
def P6:=up P5 85 [(5,[A,A]),(19,[fk,A,A,A,A,A,A,A,A,A]),(39,[.mp 0 0 1,y 1,y 8,y 9])]
def UR:=j8 UQ [0] []
def aF6:=iV 15 Ja (bx IB hU) [(5,z41),(13,z41),(9,z41)] [(1342308520,⟨1,P4,UP,6⟩),(3489988906,⟨1,P5,UQ,19⟩),(2416705972,⟨1,P6,UR,11⟩),(3490841372,⟨1,up P6 85 [(43,[fk]),(59,[.mp 0 0 1,y 1,y 12,y 13])],j8 UR [0] [],16⟩)] [gA 0 3,y 3] 4
def NF:=iV 17 C5 (bx pJ hU) [(5,z41)] [(1342308466,⟨1,up [] 26 [(0,[gA 0 3,y 3,fN 0]),(4,[fN 1,fk]),(8,[.mp 0 0 1,y 1,y 4,y 5])],j8 [] [0,1] [(0,rw 26 0 3),(1,.row 90 6 [[lZ 0,lZ 0,lZ 0,mm,lZ 0,lZ 0]])],7⟩)] [gA 0 3,y 3] 4
def IC:=iV 18 Bv hU [(5,z41)] [(1342308466,⟨1,up [] 22 [(0,[gA 0 3,y 3,fN 0]),(4,[fN 1,fk]),(8,[fN 0,y 0,y 4,y 5])],j8 [] [0,1] [(0,rw 26 0 3),(1,.row 62 3 [[lZ 0,lZ 0,lZ 0]])],7⟩)] [gA 0 3,y 3] 4
def ID:=iV 19 Bw (bx NF (bx IC hU)) [] [] [gA 0 3,y 3] 4
def IE:=iV 20 zy hU [] [] [gA 0 2] 2
def T6:=iV 21 C6 (bx IE hU) [] [] [gA 0 2] 2
def T7:=iV 22 C7 hU [] [] [y 0] 1
def Fy:=iV 23 x7 (bx T7 hU) [] [] [y 0,y 1] 2
def bu9:=iV 24 Jb (bx T6 (bx Fy hU)) [] [] [gA 0 2,gA 2 2] 4
def aF8:=iV 26 Jc (bx IE hU) [] [] [gA 0 2] 2
def IF:=iV 27 zz hU [(2,z41)] [(537002055,⟨1,up [] 30 [(0,[y 0]),(2,[fk]),(5,[y 0,y 1,y 2])],[],4⟩)] [y 0] 1
def NG:=iV 28 Bx hU [] [] [gA 0 2,gA 2 2,gA 4 2] 6
def IG:=iV 29 Bz (bx IF (bx NG hU)) [] [] [gA 0 2,gA 2 2,gA 4 2] 6
def T8:=iV 30 FV hU [] [] [gA 0 2] 2
def T9:=iV 31 FW hU [] [] [gA 0 2] 2
def aG0:=iV 32 Jd (bx IF (bx NG hU)) [] [] [gA 0 2,gA 2 2,gA 4 2] 6
def T_:=iV 33 FX (bx aG0 hU) [] [] [gA 0 2,gA 2 2,gA 4 2] 6
def aG1:=iV 34 Je hU [] [] [gA 0 2,gA 2 2] 4
def aG2:=iV 35 Jf (bx aG1 hU) [] [] [gA 0 2,gA 2 2,gA 4 2,gA 6 2] 8
def aG3:=iV 36 Jg (bx IF (bx IG (bx T_ (bx aG2 hU)))) [] [] [gA 0 2,gA 2 2,gA 4 2,gA 6 2] 8
def aG4:=iV 37 Jh (bx IE (bx aG3 (bx T8 (bx T9 (bx IG hU))))) [] [] [gA 0 2,gA 2 2,y 4] 5
def P8:=up [] 67 [(0,[gA 0 3,fN 9,.ea 16 2 4,fk]),(10,[.mp 9 0 1,y 1,y 3,y 5])]
def UT:=j8 [] [0,9,16] [(0,rw 26 0 3),(9,rw 26 0 3),(16,.f' 246 2 4)]
def P9:=up P8 67 [(2,[.ea 16 2 22]),(5,[fN 20,y 14,y 15,sx 8 7]),(14,[nH,sx 8 6,gA 8 6,.fe [y 14,y 15],gA 0 3,fN 20,y 8,.fe [y 14,y 15],y 14,y 15,y 15,fk,fk,.mp 20 0 1,y 9,.mp 20 0 2,y 10,nH,nH,y 14,y 18,fk,fk,fk,gA 8 6,y 14,gA 8 7,sx 8 7,y 14,y 20,y 21,y 23])]
def UU:=j8 UT [0,9,16,20] [(16,.f' 246 2 22),(20,rw 90 8 6)]
def P_:=up P9 67 [(2,[.ea 16 2 20]),(31,[fk,fk,A,A,A]),(43,[y 18,y 19,y 21])]
def UW:=j8 UU [0,9,16,20] [(16,.f' 246 2 20)]
def Qa:=up P_ 117 [(1,[fN 0,fk,.ea 16 2 4,nH,.lX 23,A,A,A]),(10,[A,A,A,A,A,A,.fe [.ea 16 2 4,nH],gA 0 3,.fe [.ea 16 2 4,nH],.ea 16 2 4,nH,nH,fk,.lX 23,fN 0,y 0,y 8,y 9,A,A,A,A,A]),(36,[A,A,A,A,A,A,A,A,A,A])]
def UX:=j8 UW [0,16,23] [(16,.f' 246 2 4),(23,.mS (y 10))]
def Qb:=up Qa 117 [(3,[y 13]),(16,[.fe [y 13,nH]]),(18,[.fe [y 13,nH],y 13]),(28,[fk]),(37,[y 13,.fe [],y 13,y 14,y 15])]
def UY:=j8 UX [0,23] []
def Qc:=up Qb 117 [(8,[y 15,fN 39]),(42,[nH,y 15,sx 18 2,gA 18 2,y 13,y 15,y 20,y 21,y 22,y 23])]
def UZ:=j8 UY [0,23,39] [(39,rw 246 18 2)]
def Qd:=up Qc 117 [(11,[fN 51]),(52,[nH,sx 26 2,gA 26 2,gA 26 2,y 28,gA 18 2,y 29,nH]),(66,[fN 0,y 0,y 31,y 32])]
def U0:=j8 UZ [0,23,39,51] [(51,rw 246 26 2)]
def aG5:=iV 38 Ji (bx ID (bx va (bx T6 (bx aF8 (bx IE (bx IG (bx T8 (bx T9 (bx aG4 hU))))))))) [(4,.cons (.ft DB) z41),(22,.cons (.ft DB) z41),(20,.cons (.ft DB) z41),(9,.cons d' (.one (.ft z45))),(15,z41),(23,z41),(32,z41),(27,z41)] [(1073873014,⟨2,P8,UT,17⟩),(5906171258,⟨2,P9,UU,54⟩),(5369300296,⟨2,P_,UW,54⟩),(2416312790,⟨2,Qa,UX,29⟩),(4027318985,⟨1,Qb,UY,35⟩),(6174999440,⟨1,Qc,UZ,48⟩),(8591377761,⟨1,Qd,U0,65⟩),(7249200407,⟨1,up Qd 117 [(11,[A]),(52,[fk,A,A,A,A,A,A,A]),(68,[y 26,y 27])],j8 U0 [0,23,39] [],53⟩)] [gA 0 3] 3
def aG6:=iV 39 Jj (bx aH2 (bx aH7 (bx aK1 (bx aE5 (bx aF6 (bx aG5 hU)))))) [(10,z41)] [(2684617509,⟨1,up [] 82 [(0,[gA 0 3,fN 0,lZ 0]),(7,[fN 0,y 0,y 3,fk,fk,.mp 0 0 1,y 1,y 5,fk,fk,fk,.mp 0 0 2,y 2,y 7,fk,fk,.mp 0 0 1,y 1,y 9,y 10])],j8 [] [0] [(0,rw 26 0 3)],22⟩)] [gA 0 3] 3
def aG8:=iV 40 FY hU [] [] [gA 0 2,gA 2 2] 4
def aG9:=iV 41 FZ (bx IF (bx aG8 (bx NG hU))) [] [] [gA 0 2,gA 2 2,gA 4 2] 6
def bv0:=iV 42 Jk (bx aG9 hU) [] [] [y 0,y 1,sx 2 3,.h8 [y 5]] 6
def aH0:=iV 44 Jl (bx IC (bx ID (bx Dk hU))) [(10,.cons d' (.cons z0 (.one (.ft z45))))] [(2684819238,⟨3,up [] 80 [(0,[gA 0 3,y 3,fN 0]),(4,[fN 1,fN 8,y 7,fN 14,.fn (.func 175) [] [fN 1,fN 14]]),(13,[.fe [gA 4 3,y 7],gA 0 3,y 3,.fe [gA 4 3,y 7],gA 4 3,y 7,y 7,fk,.lX 13,.fn (.func 175) [] [fN 1,fN 14],.mp 0 0 1,y 1,y 9,y 10])],j8 [] [0,1,8,13,14,22] [(0,rw 26 0 3),(1,.row 24 1 [[.ea 22 1 11]]),(8,rw 62 4 3),(13,.mS (y 12)),(14,.row 220 1 [[.lX 13]]),(22,.f' 3 1 11)],23⟩)] [gA 0 3,y 3] 4
def aH1:=iV 45 Jm (bx ND hU) [] [] [y 0,y 1] 2
def Qe:=up [] 72 [(0,[gA 0 3,fN 0,mm,y 3,.ea 16 1 6,fN 10]),(15,[gA 0 3,y 3,y 3,fk]),(20,[.lX 9,fN 0,y 0,y 5,y 7])]
def U1:=j8 [] [0,9,10,16] [(0,rw 26 0 3),(9,.mS (y 8)),(10,.row 184 1 [[.lX 9]]),(16,.f' 3 1 6)]
def Qf:=up Qe 72 [(4,[.ea 16 1 16]),(7,[fN 20,y 14]),(25,[nH,sx 11 3,gA 11 3,gA 0 3,fN 20,y 11,y 14,y 14,y 15,y 17])]
def U2:=j8 U1 [0,9,10,16,20] [(9,.mS (y 18)),(16,.f' 3 1 16),(20,rw 62 11 3)]
def Qg:=up Qf 72 [(2,[.ea 28 1 14]),(4,[.ea 16 1 11]),(7,[A,A]),(11,[fN 21,.fn (.func 125) [] [fN 21,fN 10]]),(25,[fk,A,A,A,A,A,A,A,A,A]),(50,[.ea 16 1 11,.fe [],.lX 20,.fn (.func 125) [] [fN 21,fN 10],.ea 16 1 11,y 12,y 13])]
def U3:=j8 U2 [0,9,10,16,20,21,28] [(9,.mS (y 8)),(16,.f' 3 1 11),(20,.mS (y 15)),(21,.row 128 1 [[.lX 20]]),(28,.f' 24 1 14)]
abbrev z44:dr:=.ft z54
def NH:=iV 47 C8 (bx aG6 (bx aH0 (bx aH1 (bx LL hU)))) [(6,.cons z0 z9),(16,.cons z0 z9),(13,.cons d' (.cons (.ft z2) (.one z44))),(21,.cons d' (.cons z0 (.one z44)))] [(1611071758,⟨3,Qe,U1,17⟩),(4295688610,⟨3,Qf,U2,30⟩),(3491046250,⟨3,Qg,U3,29⟩),(5637210112,⟨3,up Qg 19 [(0,[y 21,fN 21,fN 10,A,.ea 45 1 22,A]),(11,[A,A]),(15,[A,A,A,A])],j8 U3 [0,9,10,16,20,21,28,45] [(20,.mS (y 23)),(45,.f' 3 1 22)],46⟩)] [gA 0 3] 3
def NI:=iV 48 C9 (bx ID hU) [(4,.cons d' (.one (.ft z9)))] [(1073938523,⟨2,up [] 31 [(0,[gA 0 3,fN 0]),(3,[.lX 2]),(8,[.lX 2,.mp 0 0 1,y 1,y 3,y 4])],j8 [] [0,2] [(0,rw 26 0 3),(2,.mS (y 5))],8⟩)] [gA 0 3] 3
def NJ:=iV 49 C_ (bx NF hU) [] [] [gA 0 3,y 3] 4
def Qh:=up [] 84 [(0,[gA 0 3,y 3,fN 0]),(4,[y 7]),(13,[y 3,y 4,fk,y 3,y 6,y 8])]
def U4:=j8 [] [0] [(0,rw 26 0 3)]
def T':=iV 50 F1 (bx NJ (bx ID hU)) [(7,ni),(27,ni)] [(1879310584,⟨2,Qh,U4,8⟩),(7248675710,⟨2,up Qh 84 [(6,[y 11,fN 18,y 18,y 22,y 23,y 27]),(19,[nH,.h8 [y 11],y 11,.fe [gA 12 6,y 18],gA 0 3,y 11,.fe [gA 12 6,y 18],gA 12 6,y 18,y 18,fk,.fe [y 22,y 23],gA 0 3,y 11,y 11,y 20,y 21,.fe [y 22,y 23],y 22,y 23,y 23,fk,y 22,y 25,y 26,y 28])],j8 U4 [0,18] [(18,rw 90 12 6)],41⟩)] [gA 0 3,y 3] 4
def Qi:=up [] 40 [(0,[y 0,y 1,.fn (.func 136) [] [fN 0,fN 2,fN 3]]),(10,[y 1,y 4,y 5])]
def U5:=j8 [] [0,2,3] [(0,rw 60 2 2),(2,.row 4 1 [[y 6]]),(3,.row 4 1 [[y 7]])]
def aH3:=iV 51 Jn (bx IG (bx T_ hU)) [(5,.cons d' (.cons .bool z40)),(14,.cons d' (.cons .bool z40))] [(1342243318,⟨3,Qi,U5,13⟩),(3758424597,⟨3,up Qi 40 [(7,[y 10,y 13,y 14]),(13,[nH,.h8 [y 10],y 10,y 0,y 10,y 10,y 11,y 12,y 13])],j8 U5 [0,2,3] [(2,.row 4 1 [[y 16]]),(3,.row 4 1 [[y 15]])],25⟩)] [y 0,y 1,gA 2 2] 4
def Ua:=iV 52 F2 hU [(5,ni)] [(1342308464,⟨2,up [] 28 [(0,[gA 0 3,y 3,fN 0]),(4,[y 6]),(7,[.mp 0 0 1,y 1,y 4,y 5])],j8 [] [0] [(0,rw 26 0 3)],6⟩)] [gA 0 3,y 3] 4
def Qj:=up [] 110 [(0,[gA 0 3,y 3,y 4,fN 1048576]),(6,[mm,.ea 1048579 4 9,.ea 1048585 1 6]),(19,[.agg [lZ 0,mm,mm,mm]]),(21,[y 3,y 5,y 7])]
def U6:=j8 [] [1048576,1048579,1048585] [(1048576,rw 26 0 3),(1048579,.f' 97 4 9),(1048585,.f' 24 1 6)]
def Qk:=up Qj 110 [(7,[.ea 1048579 4 15]),(24,[fk]),(43,[.ea 1048585 1 6,y 13,y 14])]
def U7:=j8 U6 [1048576,1048579,1048585] [(1048579,.nD 97 4 (y 15) [(2,24,1),(3,3,1)] (y 12) 1048576 No)]
def Ql:=up Qk 42 [(0,[y 4,.ea 1048579 4 15,gA 24 2,A]),(5,[fN 1048612,lZ 0,y 27,y 26]),(19,[A]),(21,[A,A,A,A])]
def U8:=j8 U7 [1048576,1048579,1048585,1048612] [(1048612,rw 60 24 2)]
def Qm:=up Ql 110 [(0,[gA 0 3,y 3,y 4,fN 1048576]),(5,[A,mm,.ea 1048579 4 20,.ea 1048585 1 6]),(19,[.agg [lZ 0,mm,mm,mm]]),(21,[y 3,y 5,y 7,fk]),(43,[.ea 1048585 1 6,y 13,y 14,fk]),(78,[fN 1048576,y 0,y 18,y 19])]
def U9:=j8 U8 [1048576,1048579,1048585] [(1048579,.nD 97 4 (y 20) [(2,24,1),(3,3,1)] (y 12) 1048576 No)]
def ao2:=zN T [F1,Jn,F2] (Oz [(6,(.cons (.ft z2) (.cons d' (.cons .bool (.one (.ft (.cons d' (.cons z0 (.cons .nl (.one .nl)))))))))),(14,(.cons d' (.one (.ft z23)))),(26,ni),(19,(.cons d' (.one (.ft z23)))),(28,ni)]) BB.nq BB.ng [.agg [y 0,y 1,y 2],y 3,y 4] (H3 T Φ F [(1610875048,⟨4,Qj,U6,1048586⟩),(3758883263,⟨2,Qk,U7,1048590⟩),(6979518641,⟨2,Ql,U8,1048616⟩),(5101519782,⟨2,Qm,U9,1048595⟩),(7516389553,⟨2,up Qm 42 [(0,[y 4,.ea 1048579 4 20,gA 24 2,A]),(5,[fN 1048611,lZ 0,y 29,y 28]),(19,[A]),(21,[A,A,A,A])],j8 U9 [1048576,1048579,1048585,1048598,1048611] [(1048598,rw 62 23 3),(1048611,rw 60 24 2)],1048615⟩)] [(3,.zq 7 [1]),(11,.own 7 [(2,24,1),(3,3,1)]),(16,.xN 15 56 2),(23,.xN 18 24 3)] 100000 84 [.agg [y 0,y 1,y 2],y 3,y 4] 5)
def d53:ao2=wo:=by kernel_rfl
def NK:BB.Ok Φ:=be3 ca cu RX uA (bx T' (bx aH3 (bx Ua hU))) (aJ (i:=53) rfl) rfl d53
def Ub:=iV 54 F3 (bx NJ hU) [] [] [gA 0 3,y 3] 4
def Uc:=iV 55 F4 hU [] [] [gA 0 4] 4
def Qn:=up [] 71 [(0,[gA 0 3,y 3,fN 0]),(4,[.ea 8 1 5,fk,.lX 3]),(14,[.lX 3,y 3,y 4,y 6])]
def U_:=j8 [] [0,3,8] [(0,rw 26 0 3),(3,.mS (y 7)),(8,.f' 3 1 5)]
def Qo:=up Qn 71 [(7,[y 6,fN 13,y 16]),(18,[nH,y 6,sx 10 4,gA 10 4,y 6,nH,gA 0 3,.mp 13 0 1,y 11,.h8 [y 15],y 15,y 16,y 16,fk,fk,.lX 3,y 16,fk,fk,.lX 3,y 16,gA 10 4,y 20,y 21,y 22])]
def U':=j8 U_ [0,3,8,13] [(3,.mS (y 19)),(13,rw 97 10 4)]
def Qp:=up Qo 71 [(11,[y 25]),(43,[nH,.h8 [y 25],y 25,y 25,y 26,y 27])]
def Va:=j8 U' [0,3,8,13] []
def Qq:=up Qp 71 [(9,[lZ 0]),(11,[A]),(23,[fk,A,A,A,A,A,A,A,A,A,A,A,A,A,A,A]),(40,[y 15,y 16,y 17,A,A,A,A,A,A])]
def Vb:=j8 Va [0,3,8,13] [(3,.mS (y 7))]
def NL:=iV 56 C' (bx Ub (bx Uc hU)) [(5,.cons z0 (.cons d' (.one z44))),(22,z41),(27,z41),(17,z41)] [(1342374044,⟨3,Qn,U_,9⟩),(5906367614,⟨1,Qo,U',45⟩),(7248741676,⟨1,Qp,Va,52⟩),(4564189762,⟨1,Qq,Vb,23⟩),(5906563824,⟨1,up Qq 71 [(11,[y 20]),(43,[nH,.h8 [y 20],y 20,y 20,y 21,y 22])],j8 Vb [0,3,8,13] [],30⟩)] [gA 0 3,y 3] 4
def aH4:=iV 57 Jo (bx NH (bx NI (bx NK (bx NL hU)))) [] [] [gA 0 3] 3
def aH5:=iV 58 Jp hU [] [] [gA 0 5] 5
def aH6:=iV 59 Jq (bx aH5 hU) [(2,z41)] [(537002170,⟨1,up [] 19 [(0,[y 0,u' 43]),(4,[lZ 0]),(6,[y 0,y 1,y 2])],[],10⟩)] [y 0,u' 43] 1
def aH8:=iV 60 Jr hU [] [] [gA 0 5] 5
def aH9:=iV 61 Js (bx aH8 hU) [(2,z41)] [(537002174,⟨1,up [] 19 [(0,[y 0,u' 45]),(4,[lZ 0]),(6,[y 0,y 1,y 2])],[],10⟩)] [y 0,u' 45] 1
def zK:=iV 62 vU hU [] [] [y 0] 1
def aI0:=iV 63 Jt (bx zK hU) [] [] [gA 0 5] 5
def aI1:=iV 64 Ju (bx aI0 hU) [(2,z41)] [(537002176,⟨1,up [] 19 [(0,[y 0,u' 46]),(4,[lZ 0]),(6,[y 0,y 1,y 2])],[],10⟩)] [y 0,u' 46] 1
def Ud:=iV 65 F5 hU [(43,z41)] [(11543052621,⟨1,up [] 31 [(0,[y 0]),(2,[lZ 0,y 3]),(6,[y 0,fk,fk,y 0,fk,fk,y 0,y 3,gA 4 39,y 43])],[],12⟩)] [y 0] 1
def aI2:=iV 66 Jv (bx Ud hU) [(1,xL)] [(268566556,⟨2,up [] 21 [(0,[y 0]),(2,[.ea 4 1 1,lZ 0]),(6,[y 0,.it 3])],j8 [] [3,4] [(3,.pO (y 0) (y 2)),(4,.f' 3 1 1)],5⟩)] [y 0] 1
def aI3:=iV 68 Jx (bx aI2 (bx ab3 (bx Ud hU))) [(15,z41)] [(4027254190,⟨1,up [] 45 [(0,[y 0]),(2,[y 4,y 5]),(6,[y 0,fk,y 0,y 2,fk,.fe [y 4,y 5],y 0,.fe [y 4,y 5],y 4,y 5,y 5,fk]),(19,[y 0,y 7,fk,fk,y 0,y 0,y 9,y 10,y 11,fk,fk,fk,y 0,fk,fk,y 4,y 14,y 15])],[],34⟩)] [y 0] 1
def aI4:=iV 69 Jy (bx aI3 hU) [] [] [y 0] 1
def aI6:=iV 70 Jz (bx aI4 hU) [] [] [gA 0 5] 5
def aI7:=iV 71 JA (bx aI6 hU) [(2,z41)] [(537002178,⟨1,up [] 19 [(0,[y 0,u' 47]),(4,[lZ 0]),(6,[y 0,y 1,y 2])],[],10⟩)] [y 0,u' 47] 1
def aI8:=iV 72 JB (bx zK hU) [] [] [gA 0 5] 5
def aI9:=iV 73 JC (bx aI8 hU) [(2,z41)] [(537002182,⟨1,up [] 19 [(0,[y 0,u' 49]),(4,[lZ 0]),(6,[y 0,y 1,y 2])],[],10⟩)] [y 0,u' 49] 1
def aJ0:=iV 74 JD (bx IB hU) [] [] [y 0,y 1] 2
def aJ1:=iV 75 JE (bx zK (bx IC (bx NF (bx aJ0 hU)))) [] [] [y 0,sx 1 5,sx 6 3] 9
def aJ2:=iV 76 JF (bx aJ1 hU) [(10,z41)] [(2684485922,⟨1,up [] 19 [(0,[y 0,.fn (.func 95) [] [sx 1 5,sx 6 3]]),(4,[lZ 0]),(6,[y 0,y 9,y 10])],[],10⟩)] [y 0,.fn (.func 95) [] [sx 1 5,sx 6 3]] 9
def aJ3:=iV 77 JG (bx aJ2 hU) [] [] [gA 0 3,gA 3 5] 8
def aJ4:=iV 78 JH (bx aJ3 hU) [] [] [gA 0 5,sx 5 4] 9
def aJ5:=iV 79 JI (bx aJ4 hU) [(6,z41)] [(1610744008,⟨1,up [] 19 [(0,[y 0,.fn (.func 50) [] [sx 1 4]]),(4,[lZ 0]),(6,[y 0,y 5,y 6])],[],10⟩)] [y 0,.fn (.func 50) [] [sx 1 4]] 5
def aJ7:=iV 80 JK hU [(1,z41)] [(268566575,⟨1,up [] 20 [(0,[y 0]),(2,[fk,y 1])],[],2⟩)] [y 0] 1
def Qt:=up [] 19 [(0,[y 3,.fn (.func 91) [] [fN 28,fN 26]]),(4,[lZ 0]),(6,[y 3,y 9,y 10])]
def Vd:=j8 [] [0,24,26,28,33,34,44,56] [(0,rw 29 0 4),(24,.row 110 2 [[.fn (.func 43) [] [],lZ 3],[.fn (.func 91) [] [.mp 28 0 0,.mp 26 0 0],lZ 10],[.fn (.func 45) [] [],lZ 2],[.fn (.func 46) [] [],lZ 9],[.fn (.func 47) [] [],lZ 14],[.fn (.func 49) [] [],lZ 1],[.fn (.func 50) [] [.mp 0 0 0],lZ 7],[.fn (.func 98) [] [.mp 34 0 0],lZ 13]]),(26,rw 29 0 4),(28,.row 3 1 [[y 11]]),(33,.map IS [] 0),(34,.row 158 1 [[.lX 33]]),(44,.row 110 2 [[u' 43,lZ 3]]),(56,.row 110 2 [[.fn (.func 91) [] [fN 28,fN 26],lZ 10]])]
def Qu:=up Qt 19 [(1,[.fn (.func 98) [] [fN 34]]),(7,[y 34,y 35])]
def Ve:=j8 Vd [0,24,26,28,33,34,44,56,82,132,144,156,168,180,192] [(28,.row 3 1 [[y 19]]),(33,.mS (y 36)),(82,rw 48 14 5),(132,.row 110 2 [[u' 45,lZ 2]]),(144,.row 110 2 [[u' 46,lZ 9]]),(156,.row 110 2 [[u' 47,lZ 14]]),(168,.row 110 2 [[u' 49,lZ 1]]),(180,.row 110 2 [[.fn (.func 50) [] [fN 0],lZ 7]]),(192,.row 110 2 [[.fn (.func 98) [] [fN 34],lZ 13]])]
def Qv:=up Qu 33 [(0,[gA 39 5,fN 34,fN 218,fk,y 40]),(6,[A,A,.mp 218 0 1,y 40,y 44,fk,fk,nH,nH,.mp 218 0 1,y 40,.mp 218 0 4,y 43,y 47,y 48])]
def Vf:=j8 Ve [0,24,26,28,33,34,44,56,82,132,144,156,168,180,192,218] [(33,.mS (y 49)),(218,rw 48 39 5)]
def Qw:=up Qv 33 [(4,[lZ 0]),(13,[fk,fk,A,A])]
def Vg:=j8 Vf [0,24,26,28,33,34,44,56,82,132,144,156,168,180,192,218] []
def Qx:=up Qw 19 [(0,[y 3,.fn (.func 98) [] [fN 34],A,A]),(6,[y 3,y 36,y 37,A,A,A,A,A,A]),(17,[A,A])]
def Vh:=j8 Vg [0,24,26,28,33,34,44,56,82,132,144,156,168,180,192] [(33,.mS (y 38))]
def Qy:=up Qx 33 [(0,[gA 41 5,fN 34,fN 218,fk,y 42]),(6,[A,A,.mp 218 0 1,y 42,y 46,fk,fk,nH,nH,.mp 218 0 1,y 42,.mp 218 0 4,y 45,y 49,y 50])]
def Vi:=j8 Vh [0,24,26,28,33,34,44,56,82,132,144,156,168,180,192,218] [(33,.mS (y 51)),(218,rw 48 41 5)]
def Qz:=up Qy 33 [(4,[lZ 0]),(13,[fk,fk,A,A])]
def Vj:=j8 Vi [0,24,26,28,33,34,44,56,82,132,144,156,168,180,192,218] []
def QA:=up Qz 19 [(0,[y 3,.fn (.func 98) [] [fN 34],A,A]),(6,[y 3,y 29,y 30,A,A,A,A,A,A]),(17,[A,A])]
def Vk:=j8 Vj [0,24,26,28,33,34,44,56,82,132,144,156,168,180,192] [(33,.mS (y 31))]
def QB:=up QA 33 [(0,[gA 34 5,fN 34,fN 218,fk,y 35]),(6,[A,A,.mp 218 0 1,y 35,y 39,fk,fk,nH,nH,.mp 218 0 1,y 35,.mp 218 0 4,y 38,y 42,y 43])]
def Vl:=j8 Vk [0,24,26,28,33,34,44,56,82,132,144,156,168,180,192,218] [(33,.mS (y 44)),(218,rw 48 34 5)]
def QC:=up QB 33 [(4,[lZ 0]),(13,[fk,fk,A,A])]
def Vm:=j8 Vl [0,24,26,28,33,34,44,56,82,132,144,156,168,180,192,218] []
def PQ:=up QC 19 [(0,[y 3,.fn (.func 98) [] [fN 34],A,A]),(6,[y 3,y 19,y 20,A,A,A,A,A,A]),(17,[A,A])]
def Yc:=j8 Vm [0,24,26,28,33,34,44,56,80,92,104,116,128,140] [(28,.row 3 1 [[y 11]]),(33,.mS (y 21)),(80,.row 110 2 [[u' 45,lZ 2]]),(92,.row 110 2 [[u' 46,lZ 9]]),(104,.row 110 2 [[u' 47,lZ 14]]),(116,.row 110 2 [[u' 49,lZ 1]]),(128,.row 110 2 [[.fn (.func 50) [] [fN 0],lZ 7]]),(140,.row 110 2 [[.fn (.func 98) [] [fN 34],lZ 13]])]
def XG:=up PQ 33 [(0,[gA 24 5,fN 34,fN 166,fk,y 25]),(6,[A,A,.mp 166 0 1,y 25,y 29,fk,fk,nH,nH,.mp 166 0 1,y 25,.mp 166 0 4,y 28,y 32,y 33])]
def XN:=j8 Yc [0,24,26,28,33,34,44,56,80,92,104,116,128,140,166] [(33,.mS (y 34)),(166,rw 48 24 5)]
abbrev Dq:bl:=.one (.ft (.cons z4 z40))
def IH:=iV 81 BC (bx aH4 (bx aH6 (bx aH9 (bx aI1 (bx aI7 (bx aI9 (bx aJ5 (bx zK (bx aJ7 hU))))))))) [(10,ni),(35,.cons d' Dq),(48,.cons d' Dq),(37,.cons d' Dq),(50,.cons d' Dq),(30,.cons d' Dq),(43,.cons d' Dq),(20,.cons d' Dq),(33,.cons d' Dq)] [(2684485914,⟨2,Qt,Vd,73⟩),(9395372328,⟨2,Qu,Ve,209⟩),(12885426555,⟨2,Qv,Vf,235⟩),(12885426648,⟨2,Qw,Vg,232⟩),(9932243240,⟨2,Qx,Vh,209⟩),(13422297467,⟨2,Qy,Vi,235⟩),(13422297560,⟨2,Qz,Vj,232⟩),(8053195048,⟨2,QA,Vk,209⟩),(11543249275,⟨2,QB,Vl,235⟩),(11543249368,⟨2,QC,Vm,232⟩),(5368840488,⟨2,PQ,Yc,157⟩),(8858894715,⟨2,XG,XN,183⟩),(8858894808,⟨2,up XG 33 [(4,[lZ 0]),(13,[fk,fk,A,A])],j8 XN [0,24,26,28,33,34,44,56,80,92,104,116,128,140,166] [],180⟩)] [gA 0 4] 4
def Ue:=iV 83 F6 (bx L' hU) [(6,z41)] [(1610743922,⟨1,up [] 26 [(0,[gA 0 4,y 4,fN 0]),(4,[fN 1,fk]),(8,[.mp 0 0 3,y 3,y 5,y 6])],j8 [] [0,1] [(0,rw 29 0 4),(1,.row 48 5 [[lZ 0,lZ 0,lZ 0,.bF (.string (dj #[])),mm]])],7⟩)] [gA 0 4,y 4] 5
def aJ8:=iV 84 JL hU [] [] [y 0] 1
def aJ9:=iV 85 JM (bx aJ8 hU) [] [] [y 0] 1
def bv1:=iV 86 JN (bx Fy hU) [] [] [gA 0 4,gA 4 4] 8
def QD:=up [] 148 [(0,[mm,lZ 0,lZ 0,y 7,u' 35]),(10,[nH,nH])]
def Vn:=j8 [] [0,14] [(0,rw 26 0 3),(14,rw 26 0 3)]
def aK0:=iV 88 JO (bx NH (bx aJ9 (bx NI (bx NK (bx NL (bx ab4 hU)))))) [(8,.nil),(12,.cons (.ft z23) z41)] [(2147615004,⟨0,QD,Vn,53⟩),(3221553655,⟨2,up QD 44 [(0,[gA 0 3,fN 0,.ea 58 4 12,lZ 0,y 7,y 8,y 6]),(9,[.fe [y 7,y 8,y 6,lZ 0],gA 0 3,.fe [y 7,y 8,y 6,lZ 0],y 7,y 8,y 6,lZ 0,lZ 0,fk]),(19,[y 7,y 11,y 13])],j8 Vn [0,58] [(58,.f' 58 4 12)],59⟩)] [gA 0 3] 3
def NM:=iV 89 Db (bx aK0 hU) [(6,.cons d' (.one (.ft z49)))] [(1610874999,⟨2,up [] 26 [(0,[gA 0 3,fN 0]),(3,[y 3,y 4,.lX 9]),(8,[.fe [y 3,y 4],gA 0 3,.fe [y 3,y 4],y 3,y 4,.lX 9,y 3,y 5,y 6])],j8 [] [0,9] [(0,rw 26 0 3),(9,.mS (y 7))],14⟩)] [gA 0 3] 3
def aK2:=iV 90 JQ (bx zK (bx IB hU)) [(9,.cons d' z2)] [(2416181641,⟨2,up [] 40 [(0,[gA 0 4,y 4,y 5,fN 0]),(6,[.ea 12 1 10]),(9,[y 4,fk,fk,y 4,fk,fk,.mp 0 0 3,y 3,y 8,y 9])],j8 [] [0,12] [(0,rw 29 0 4),(12,.f' 3 1 10)],13⟩)] [gA 0 4,y 4,y 5] 6
def aK3:=iV 91 JR hU [(6,z41)] [(1610875058,⟨1,up [] 26 [(0,[y 0,y 1]),(4,[fk]),(6,[y 0,y 2,y 1,y 3,fk,y 0,y 5,y 6])],[],9⟩)] [y 0,y 1] 2
def aK4:=iV 92 JS (bx NJ hU) [] [] [gA 0 3,y 3] 4
def QE:=up [] 36 [(0,[y 0]),(2,[mm,y 2]),(9,[y 0,y 1,y 3])]
def QF:=up QE 36 [(6,[.ea 31 1 11]),(12,[fk]),(23,[y 2]),(25,[y 0,y 10,y 12])]
def Vo:=j8 [] [31] [(31,.f' 3 1 11)]
def QG:=up QF 61 [(0,[.ea 31 1 15]),(3,[y 18]),(6,[.ea 31 1 15,y 16,fk,A,A,A,A]),(23,[A]),(25,[A,A,A])]
def Vp:=j8 Vo [31] [(31,.f' 3 1 15)]
def QH:=up QG 61 [(0,[.ea 31 1 29]),(3,[y 30,.xs 31 1 (y 26) (y 27),y 28,.ea 31 1 29]),(10,[y 18,.ea 31 1 29,y 20,nH]),(16,[.ea 31 1 29,y 18]),(19,[y 22,.ea 31 1 29,y 18,y 23]),(24,[y 24,nH,.ea 31 1 29,y 18,.xs 31 1 (y 26) (y 27)])]
def Vq:=j8 Vp [31] [(31,.f' 3 1 29)]
def QI:=up QH 36 [(0,[y 0]),(3,[y 2,A,A,.ea 31 1 10,A,A,y 0,y 1,y 3,fk,A]),(16,[A,A]),(19,[A,A,A,A,y 2,mm,y 0,y 9,y 11,A])]
def Vr:=j8 Vq [31] [(31,.f' 3 1 10)]
def QJ:=up QI 61 [(0,[.ea 31 1 14]),(3,[y 17]),(6,[.ea 31 1 14,y 15,fk,A,A,A,A]),(23,[A,A,A,A,A])]
def Vs:=j8 Vr [31] [(31,.f' 3 1 14)]
def aK5:=iV 93 JT (bx LL hU) [(2,ni),(11,xL),(18,z41),(28,.cons d' xL),(10,xL),(17,z41),(27,.cons d' xL)] [(537067632,⟨2,QE,[],9⟩),(2953511173,⟨2,QF,Vo,41⟩),(4832100429,⟨1,QG,Vp,54⟩),(7516782805,⟨3,QH,Vq,73⟩),(2685075717,⟨2,QI,Vr,32⟩),(4563664973,⟨1,QJ,Vs,45⟩),(7248347349,⟨3,up QJ 61 [(0,[.ea 31 1 28]),(3,[y 29,.xs 31 1 (y 25) (y 26),y 27,.ea 31 1 28]),(10,[y 17,.ea 31 1 28,y 19,nH]),(16,[.ea 31 1 28,y 17]),(19,[y 21,.ea 31 1 28,y 17,y 22]),(24,[y 23,nH,.ea 31 1 28,y 17,.xs 31 1 (y 25) (y 26)])],j8 Vs [31] [(31,.f' 3 1 28)],64⟩)] [y 0] 1
def aK6:=iV 94 JU (bx T7 hU) [] [] [y 0,y 1] 2
def QK:=up [] 24 [(0,[y 0,.fn (.func 167) [] [fN 4]]),(4,[.ea 16 1 6]),(7,[y 0,.rs [[y 0]],y 3,y 4,y 5])]
def Vt:=j8 [] [4,16] [(4,.row 24 1 [[y 2]]),(16,.f' 3 1 6)]
def aK7:=iV 95 JV (bx aK5 (bx aK6 hU)) [(5,.cons d' z2),(11,ni)] [(1342308772,⟨2,QK,Vt,17⟩),(2952986745,⟨2,up QK 54 [(0,[y 2,y 9]),(4,[lZ 0,fk,y 10,y 12,y 11,A,y 2,y 10,y 10])],j8 Vt [4,16] [],41⟩)] [y 0,y 1] 2
def QL:=up [] 108 [(0,[gA 0 4,y 4,y 5,y 6,fN 0]),(8,[fk]),(18,[.mp 0 0 3,y 3,y 7,y 8])]
def Vu:=j8 [] [0] [(0,rw 29 0 4)]
def QM:=up QL 108 [(10,[fN 9]),(22,[nH,sx 11 5,gA 11 5,fN 9,y 11,y 4,fk,fk,.mp 9 0 1,y 12,y 17,fk,fk,fk,.mp 9 0 4,y 15,y 5,y 19,fk,fk,.mp 0 0 3,y 3,y 21,y 22])]
def Vv:=j8 Vu [0,9] [(9,rw 48 11 5)]
def aK8:=iV 96 JW (bx zK (bx IB (bx aK7 hU))) [(8,z41),(22,z41),(37,z41)] [(2147614919,⟨1,QL,Vu,6⟩),(5905974919,⟨1,QM,Vv,32⟩),(9932771328,⟨1,up QM 108 [(12,[fN 35]),(46,[nH,sx 25 5,gA 25 5,fN 35,y 25,y 4,fk,fk,.mp 35 0 1,y 26,y 31,fk,fk,fk,.mp 9 0 4,y 15,.mp 35 0 4,y 29,y 33,y 34,fk,fk,fN 0,.mp 0 0 1,y 1,y 36,y 37])],j8 Vv [0,9,35] [(35,rw 48 25 5)],61⟩)] [gA 0 4,y 4,y 5,y 6] 7
def NN:=iV 97 Dc (bx zK (bx aK2 (bx aK3 (bx Ub (bx aK4 (bx Ua (bx aK8 hU))))))) [(33,.cons d' (.one z44))] [(8859093555,⟨2,up [] 120 [(0,[gA 0 4,y 4,gA 5 5,fN 0]),(5,[fN 1,y 31,fk,fN 20,.lX 70]),(14,[.mp 1 0 1,y 6,y 10,fk,fk,.mp 1 0 4,y 9,y 12,fk,fk,y 4,.mp 1 0 4,y 9,.h8 [y 14],y 14,gA 16 4,.mp 20 0 1,y 17,y 20,fk,fk,.mp 20 0 2,y 18,y 22,fk,fk,fk,.mp 20 0 3,y 19,y 24,fk,fk,gA 0 4,fN 20,y 16,y 26,fN 1,y 5,.ms 44 1 0 1,y 27,fk,fN 0,gA 0 3,.mp 20 0 1,y 17,.h8 [y 29],y 29,y 30,y 31,.lX 70,.mp 20 0 1,y 17,y 32,y 33])],j8 [] [0,1,20,44,70] [(0,rw 29 0 4),(1,rw 48 5 5),(20,rw 58 16 4),(44,.row 3 1 [[y 5]]),(70,.mS (y 34))],76⟩)] [gA 0 4,y 4,gA 5 5] 10
def aK9:=iV 98 JX hU [(12,.cons d' DI)] [(3221553395,⟨5,up [] 58 [(0,[y 0]),(2,[fN 0]),(5,[y 0,y 1,fk]),(9,[y 0,sx 3 2,sx 3 2,y 3,y 0,sx 5 2,.h8 [y 6],y 6,y 0,sx 7 2,sx 7 2,y 7,y 0,sx 9 2,.h8 [y 10],y 10,.agg [y 3,y 6,y 7,y 10],y 0,y 11,y 12])],j8 [] [0] [(0,rw 105 13 4)],42⟩)] [y 0] 1
def aL0:=iV 99 JY hU [] [] [y 0,y 1] 2
def aD6:=iV 100 IL (bx aL0 hU) [] [] [y 0,y 1] 2
def bu6:=iV 101 IM (bx Fy hU) [] [] [gA 0 2,gA 2 2] 4
def aD7:=iV 103 IP (bx ab5 hU) [(6,.cons z3 z41)] [(1610940542,⟨2,up [] 61 [(0,[y 0]),(2,[.ea 13 2 6,.ea 3 2 4]),(7,[y 0,y 1,.ea 3 2 4,.ea 3 2 4,y 0]),(13,[.ea 3 2 4,.fe [],.ea 3 2 4,y 5,y 7])],j8 [] [3,13] [(3,.f' 165 2 4),(13,.f' 165 2 6)],14⟩)] [y 0] 1
def XJ:=up [] 72 [(0,[y 0,y 5]),(4,[fN 0,.fn (.func 189) [] [fN 0]]),(10,[.fn (.func 189) [] [fN 0],y 1,y 2,y 0,y 3,y 4,y 6])]
def Xw:=j8 [] [0,10] [(0,.row 162 1 [[.ea 10 2 7]]),(10,.f' 165 2 7)]
def XZ:=up XJ 72 [(1,[y 12]),(7,[fN 14]),(17,[nH,sx 10 2,gA 10 2])]
def Ye:=j8 Xw [0,10,14] [(14,rw 165 10 2)]
def XM:=up XZ 72 [(8,[y 19,y 20]),(20,[y 12,y 14,nH,nH,y 12,sx 16 2,.h8 [y 17],y 17,fN 14,y 10,fk,fk]),(34,[fN 14,y 10])]
def Pz:=j8 Ye [0,10,14] [(0,.row 162 1 [[.ea 10 2 21]]),(10,.f' 165 2 21)]
def aD8:=iV 104 IQ (bx aD7 hU) [(5,.cons z3 z9),(12,ve),(19,.cons d' z9),(16,.cons d' z9)] [(1342442773,⟨3,XJ,Xw,11⟩),(3221621972,⟨1,XZ,Ye,16⟩),(5100932834,⟨3,XM,Pz,32⟩),(4295626405,⟨3,up XM 72 [(8,[y 16,y 17]),(22,[fk,fk,A,A,A,A,A,A,A])],j8 Pz [0,10,14] [(0,.row 162 1 [[.ea 10 2 18]]),(10,.f' 165 2 18)],32⟩)] [y 0,y 1] 2
def XU:=up [] 103 [(0,[y 0,gA 1 3,gA 4 4,y 8]),(5,[fN 0,fN 1,fN 2,mm,fN 4,mm,fN 6,.fn (.func 149) [] [fN 2,fN 6,fN 4]]),(20,[.fn (.func 149) [] [fN 2,fN 6,fN 4],gA 4 4,y 9,y 10,y 11])]
def Xy:=j8 [] [0,1,2,4,6,13,14] [(0,rw 26 1 3),(1,rw 97 4 4),(2,.row 3 1 [[y 8]]),(4,.row 24 1 [[.ea 13 1 12]]),(6,.row 162 1 [[.ea 14 2 13]]),(13,.f' 3 1 12),(14,.f' 165 2 13)]
def Xq:=up XU 40 [(1,[y 16,.fn (.func 149) [] [fN 2,fN 6,fN 4],A]),(5,[A,A,A,A,A,y 16,y 17,y 18]),(20,[A,A,A,A,A])]
def Ya:=j8 Xy [0,1,2,4,6,26,27] [(4,.row 24 1 [[.ea 26 1 19]]),(6,.row 162 1 [[.ea 27 2 20]]),(26,.f' 3 1 19),(27,.f' 165 2 20)]
def X7:=up Xq 40 [(7,[y 23,y 26,y 27]),(13,[nH,.h8 [y 23],y 23,y 0,y 23,y 23,y 24,y 25,y 26])]
def PT:=j8 Ya [0,1,2,4,6,26,27] [(4,.row 24 1 [[.ea 26 1 28]]),(6,.row 162 1 [[.ea 27 2 29]]),(26,.f' 3 1 28),(27,.f' 165 2 29)]
def PE:=up X7 103 [(1,[gA 1 3,gA 4 4,y 8]),(5,[fN 0,fN 1,fN 2,mm,fN 4,mm,fN 6,.fn (.func 149) [] [fN 2,fN 6,fN 4],A,A,A,A,A,A,A,.fn (.func 149) [] [fN 2,fN 6,fN 4],gA 4 4,y 9,y 10,y 11,fk]),(33,[.mp 1 0 3,y 7,y 16,y 17])]
def XT:=j8 PT [0,1,2,4,6,13,14] [(4,.row 24 1 [[.ea 13 1 12]]),(6,.row 162 1 [[.ea 14 2 18]]),(13,.f' 3 1 12),(14,.f' 165 2 18)]
def aD9:=iV 105 IU (bx Uc (bx aD6 (bx IC (bx LL (bx aD8 hU))))) [(11,.cons d' (.cons z0 ve)),(18,.cons d' (.cons z0 ve)),(27,.cons d' (.cons z0 ve)),(17,z9),(22,z9)] [(2953122971,⟨3,XU,Xy,15⟩),(4831904285,⟨3,Xq,Ya,28⟩),(7248085564,⟨3,X7,PT,40⟩),(4564063601,⟨2,PE,XT,20⟩),(5906765260,⟨2,up PE 103 [(10,[.ea 24 2 23]),(19,[y 22]),(37,[fk]),(66,[.ea 13 1 21,.fe []])],j8 XT [0,1,2,4,6,13,14,24] [(4,.row 24 1 [[.ea 13 1 21]]),(13,.f' 3 1 21),(24,.f' 165 2 23)],25⟩)] [y 0,gA 1 3,gA 4 4,y 8] 9
def aE0:=iV 106 IV (bx aD9 hU) [(11,.cons d' (.cons .bool z5))] [(2952986898,⟨5,up [] 45 [(0,[y 0,gA 1 3,gA 4 4,y 8]),(5,[fN 0,fN 1]),(8,[fN 2,y 12,y 13]),(14,[y 0,gA 1 3,gA 4 4,y 8,y 9,y 10,y 11])],j8 [] [0,1,2] [(0,rw 26 1 3),(1,rw 97 4 4),(2,rw 60 14 2)],12⟩)] [y 0,gA 1 3,gA 4 4,y 8] 9
def Yk:=up [] 100 [(0,[gA 0 3,y 3,fN 0]),(4,[fN 1,fk,mm,mm]),(9,[y 5,y 8,fN 41,fN 56,y 21,y 22]),(17,[.fe [mm,mm,A,y 5],gA 0 3,.fe [mm,mm,A,y 5],mm,mm]),(23,[y 5,y 5,fk]),(27,[mm,y 3,y 8,y 8,fk]),(34,[mm,y 8,sx 10 4,sx 11 3,y 11,.fn (.func 62) [] [fN 41],.fe [],mm,gA 16 4,.mp 56 0 1,y 17,.mp 56 0 3,y 19,y 20,y 21])]
def PH:=j8 [] [0,1,41,56] [(0,rw 26 0 3),(1,rw 60 23 2),(41,.row 88 1 [[mm]]),(56,rw 105 16 4)]
def PA:=up Yk 40 [(0,[y 7,y 15,.fn (.func 62) [] [fN 61]]),(4,[A,A,A,A]),(9,[A,y 15,y 18,y 19,A,A]),(17,[A,A,A,A,A]),(23,[A,A,A]),(27,[A,A,A,A,A]),(34,[A,A,A,A,A,A])]
def PG:=j8 PH [0,1,14,61,73] [(1,.row 60 2 [[lZ 0,lZ 0]]),(14,rw 26 0 3),(61,.row 88 1 [[.ea 73 2 20]]),(73,.f' 60 2 20)]
def XL:=up PA 40 [(7,[y 23,y 26,y 27]),(13,[nH,.h8 [y 23],y 23,y 7,y 23,y 23,y 24,y 25,y 26])]
def XP:=j8 PG [0,1,14,61,73] [(61,.row 88 1 [[.ea 73 2 28]]),(73,.f' 60 2 28)]
def Kz:=iV 107 zZ (bx NH (bx ND (bx NI (bx NK (bx NL (bx aK9 (bx aE0 hU))))))) [(19,z9),(27,z9),(29,z5)] [(5906369409,⟨3,Yk,PH,66⟩),(5100339480,⟨2,PA,PG,74⟩),(7248085303,⟨2,XL,XP,86⟩),(7785418014,⟨3,up XL 100 [(0,[gA 0 3,y 3,fN 0]),(4,[fN 1,fk,y 8,y 9,y 7,lZ 0,y 12,fN 61,fN 77,y 28,y 29,A,A,.fe [y 8,y 9,y 7,lZ 0],gA 0 3,.fe [y 8,y 9,y 7,lZ 0],y 8,y 9,y 7,lZ 0,lZ 0,fk]),(27,[y 9,y 3,y 12,y 12,fk]),(33,[y 7,y 8,y 12,sx 14 4,sx 15 3,y 15,.fn (.func 62) [] [fN 61],.fe [],.ea 73 2 20,gA 23 4,.mp 77 0 1,y 24,.mp 77 0 3,y 26,y 27,y 28])],j8 XP [0,1,61,73,77] [(1,rw 60 30 2),(61,.row 88 1 [[.ea 73 2 20]]),(73,.f' 60 2 20),(77,rw 105 23 4)],87⟩)] [gA 0 3,y 3] 4
def aE1:=iV 108 IW (bx IH (bx Ue (bx NM (bx NN (bx Kz hU))))) [] [] [gA 0 4,y 4] 5
def aE2:=iV 109 IX (bx T' hU) [(5,ni)] [(1342308464,⟨2,up [] 38 [(0,[gA 0 3,y 3,fN 0]),(4,[y 6]),(7,[.mp 0 0 1,y 1,y 4,y 5])],j8 [] [0] [(0,rw 26 0 3)],6⟩)] [gA 0 3,y 3] 4
def aE4:=iV 110 FL hU [(2,z41)] [(537067632,⟨1,up [] 18 [(0,[y 0]),(2,[lZ 0,lZ 0]),(6,[y 0,y 1,y 2])],[],5⟩)] [y 0] 1
def bu7:=iV 111 IZ (bx Fy (bx aE4 hU)) [] [] [gA 0 3,gA 3 3] 6
def T2:=iV 113 FN (bx NM (bx NN (bx aE2 (bx ab6 hU)))) [(7,.cons d' (.one tX))] [(1879244926,⟨2,up [] 55 [(0,[gA 0 4,y 4,fN 0]),(4,[.ea 10 3 8,y 5]),(11,[fN 0,gA 0 3,y 5,.mp 0 0 3,y 3,y 6,y 7])],j8 [] [0,10] [(0,rw 29 0 4),(10,.f' 76 3 8)],11⟩)] [gA 0 4,y 4] 5
def T3:=iV 114 FO (bx IH (bx T2 (bx Kz hU))) [(14,.cons d' z2)] [(3758424281,⟨2,up [] 40 [(0,[gA 0 4,gA 4 6,fN 0,fN 1,.ea 15 1 15,y 10]),(10,[gA 0 4,y 10,y 10,fk]),(15,[gA 0 4,.mp 1 0 2,y 6,y 12,y 13,y 14])],j8 [] [0,1,15] [(0,rw 29 0 4),(1,rw 31 4 6),(15,.f' 3 1 15)],16⟩)] [gA 0 4,gA 4 6] 10
def bu8:=iV 116 I0 (bx Fy hU) [] [] [gA 0 3,gA 3 3] 6
def XS:=up [] 59 [(0,[gA 0 4,fN 7,fN 8]),(7,[fN 7,fN 7,y 0,.ea 21 3 8,fN 8,fN 8,fN 7,.mp 7 0 1,y 1,y 9,y 10])]
def XD:=j8 [] [0,1,2,3,7,8,21,28] [(0,rw 29 0 4),(1,.row 3 1 [[y 5]]),(2,rw 60 6 2),(3,.row 29 4 [[mm,mm,mm,mm]]),(7,rw 29 0 4),(8,.row 29 4 [[.ea 21 3 8,.ea 28 6 11,mm,mm]]),(21,.f' 62 3 8),(28,.f' 90 6 11)]
def XB:=up XS 59 [(18,[fk]),(34,[fN 7,.mp 7 0 2,y 2,.ea 42 1 14,fN 8,.mp 8 0 2,.mp 7 0 3,y 3,y 15,y 16])]
def Yf:=j8 XD [0,1,2,3,7,8,21,28,42,48] [(8,.row 29 4 [[.ea 21 3 8,.ea 28 6 11,.ea 42 1 14,.ea 48 5 17]]),(42,.f' 3 1 14),(48,.f' 48 5 17)]
def PM:=up XB 100 [(1,[y 4,y 5,gA 6 2,fN 0]),(6,[fN 1,fN 2,fN 3,fN 53,A,A,A,A,A,gA 0 4,.agg [.ea 21 3 8,.ea 28 6 11,.ea 42 1 14,.ea 48 5 17],.lX 52,fN 3,.mp 3 0 1,.ea 28 6 11,.fn (.func 66) [] [fN 1,fN 53],.ea 28 6 20,fN 3,.mp 3 0 1]),(34,[A,A,A,A,A,A,A,A,A,A]),(98,[y 11,.rs []])]
def Yg:=j8 Yf [0,1,2,3,21,28,42,48,52,53] [(3,.row 29 4 [[.ea 21 3 8,.ea 28 6 20,.ea 42 1 14,.ea 48 5 17]]),(28,.f' 90 6 20),(52,.mS (y 21)),(53,.row 128 1 [[.lX 52]])]
def XR:=up PM 99 [(25,[fN 3,.mp 3 0 2,.ea 42 1 14,.fn (.func 68) [] [fN 1],.ea 42 1 24,fN 3,.mp 3 0 2]),(98,[y 14])]
def Xx:=j8 Yg [0,1,2,3,21,28,42,48,52,53] [(3,.row 29 4 [[.ea 21 3 8,.ea 28 6 20,.ea 42 1 24,.ea 48 5 17]]),(42,.f' 3 1 24)]
def PS:=up XR 98 [(10,[fN 173]),(32,[gA 6 2,.agg [lZ 1,y 6,y 7],fN 0,fN 0,y 0,y 27,y 28])]
def X_:=j8 Xx [0,1,2,3,21,28,42,48,52,53,173] [(173,.row 62 3 [[y 29,y 6,y 7]])]
def PO:=up PS 99 [(39,[fk]),(52,[fN 3,fN 3,.ea 21 3 8,.fn (.func 70) [] [fN 53],.ea 21 3 32,fN 3,fN 3]),(98,[y 8])]
def PL:=j8 X_ [0,1,2,3,21,28,42,48,52,53,173] [(3,.row 29 4 [[.ea 21 3 32,.ea 28 6 20,.ea 42 1 24,.ea 48 5 17]]),(21,.f' 62 3 32)]
def XC:=up PO 98 [(16,[.agg [.ea 21 3 8,.ea 28 6 11,.ea 42 1 14,.ea 48 5 39]]),(59,[fN 3,fN 3,.ea 21 3 32,.agg [y 29,y 6,y 7],.ms 237 3 0 1,.ea 238 3 36,fN 3,fN 3,fN 3,fN 3,.ea 238 3 36,.fe [],.mp 3 0 3,.ea 48 5 39,y 37,y 38])]
def XK:=j8 PL [0,1,2,3,28,42,48,52,53,173,237,238] [(3,.row 29 4 [[.ea 238 3 36,.ea 28 6 20,.ea 42 1 24,.ea 48 5 39]]),(48,.f' 48 5 39),(237,.row 62 3 [[y 29,y 6,y 7]]),(238,.f' 62 3 36)]
def X8:=up XC 19 [(0,[.ea 21 3 8,.fn (.func 70) [] [fN 53],A,A,lZ 0]),(6,[.ea 21 3 8,y 35,y 36,A,A]),(15,[A,A,A,A])]
def XI:=j8 XK [0,1,2,3,21,28,42,48,52,53,173] [(3,.row 29 4 [[.ea 21 3 8,.ea 28 6 20,.ea 42 1 24,.ea 48 5 17]]),(21,.f' 62 3 8),(48,.f' 48 5 17)]
def X4:=up X8 42 [(0,[.ea 21 3 46]),(4,[mm,y 47,y 45,A,.ea 21 3 46,.fn (.func 70) [] [fN 53],y 36,y 36,fk]),(14,[y 36,y 44])]
def PJ:=j8 XI [0,1,2,3,21,28,42,48,52,53,173] [(3,.row 29 4 [[.ea 21 3 46,.ea 28 6 20,.ea 42 1 24,.ea 48 5 17]]),(21,.f' 62 3 46)]
def XQ:=up X4 19 [(0,[.ea 42 1 14,.fn (.func 68) [] [fN 1]]),(4,[lZ 0,A,.ea 42 1 14,y 27,y 28,A,A,A,A]),(14,[A,A])]
def XW:=j8 PJ [0,1,2,3,21,28,42,48,52,53] [(3,.row 29 4 [[.ea 21 3 8,.ea 28 6 20,.ea 42 1 14,.ea 48 5 17]]),(21,.f' 62 3 8),(42,.f' 3 1 14)]
def WM:=up XQ 42 [(0,[.ea 42 1 36]),(4,[mm,y 37,y 35,A,.ea 42 1 36,.fn (.func 68) [] [fN 1],y 28,y 28,fk]),(14,[y 28,y 34])]
def Xc:=j8 XW [0,1,2,3,21,28,42,48,52,53] [(3,.row 29 4 [[.ea 21 3 8,.ea 28 6 20,.ea 42 1 36,.ea 48 5 17]]),(42,.f' 3 1 36)]
def W2:=up WM 19 [(0,[.ea 28 6 11,.fn (.func 66) [] [fN 1,fN 53]]),(4,[lZ 0,A,.ea 28 6 11,y 24,y 25,A,A,A,A]),(14,[A,A])]
def W8:=j8 Xc [0,1,2,3,7,8,21,28,42,48,52,53] [(3,.row 29 4 [[.ea 21 3 8,.ea 28 6 11,.ea 42 1 14,.ea 48 5 17]]),(7,rw 29 0 4),(8,.row 29 4 [[.ea 21 3 8,.ea 28 6 11,.ea 42 1 14,.ea 48 5 17]]),(28,.f' 90 6 11),(42,.f' 3 1 14),(52,.map IS [] 0)]
def Ww:=up W2 42 [(0,[.ea 28 6 42]),(4,[mm,y 43,y 40,A,.ea 28 6 42,.fn (.func 66) [] [fN 1,fN 53],y 25,y 25,fk]),(14,[y 25,y 39])]
def Xf:=j8 W8 [0,1,2,3,7,8,21,28,42,48,52,53] [(3,.row 29 4 [[.ea 21 3 8,.ea 28 6 42,.ea 42 1 14,.ea 48 5 17]]),(8,.row 29 4 [[.ea 21 3 8,.ea 28 6 42,.ea 42 1 14,.ea 48 5 17]]),(28,.f' 90 6 42),(52,.mS (y 41))]
def T4:=iV 118 FR (bx Z2 (bx pJ (bx L' (bx ab2 hU)))) [(10,.cons d' (.one z22)),(16,.cons d' KB),(20,.cons z22 (.cons z44 z40)),(24,.cons z0 z40),(28,ni),(32,.cons tX z40),(38,.cons d' KB),(36,z41),(45,.cons d' (.cons tX z41)),(1028,z41),(35,.cons d' xL),(25,z41),(40,.cons d' (.cons z44 (.cons z22 z41))),(39,.cons d' (.cons z44 (.cons z22 z41)))] [(2684551294,⟨2,XS,XD,29⟩),(4295623059,⟨2,XB,Yf,49⟩),(1152921504606928900,⟨2,PM,Yg,121⟩),(1152921504606945285,⟨1,XR,Xx,171⟩),(7516655268,⟨2,PS,X_,180⟩),(1152921504606978061,⟨1,PO,PL,233⟩),(10201604080,⟨2,XC,XK,250⟩),(9663807728,⟨1,X8,XI,198⟩),(12079924117,⟨3,X4,PJ,221⟩),(7516324076,⟨1,XQ,XW,138⟩),(9395569533,⟨3,WM,Xc,159⟩),(6711017704,⟨1,W2,W8,72⟩),(10737746789,⟨4,Ww,Xf,109⟩),(10469311333,⟨4,up Ww 42 [(0,[.ea 28 6 41]),(5,[y 42,y 39]),(8,[.ea 28 6 41]),(15,[y 38])],j8 Xf [0,1,2,3,7,8,21,28,42,48,52,53] [(3,.row 29 4 [[.ea 21 3 8,.ea 28 6 41,.ea 42 1 14,.ea 48 5 17]]),(8,.row 29 4 [[.ea 21 3 8,.ea 28 6 41,.ea 42 1 14,.ea 48 5 17]]),(28,.f' 90 6 41),(52,.mS (y 40))],109⟩)] [gA 0 4,y 4,y 5,gA 6 2] 8
def XO:=up [] 59 [(0,[gA 0 4,fN 13,fN 14]),(7,[fN 13,fN 13,y 0,.ea 27 3 12,fN 14,fN 14,fN 13,.mp 13 0 1,y 1,y 13,y 14])]
def XE:=j8 [] [0,1,2,13,14,27,34] [(0,rw 29 0 4),(1,rw 31 4 6),(2,.row 35 5 [[mm,mm,mm,mm,mm]]),(13,rw 29 0 4),(14,.row 29 4 [[.ea 27 3 12,.ea 34 6 15,mm,mm]]),(27,.f' 62 3 12),(34,.f' 90 6 15)]
def Yh:=up XO 59 [(18,[fk]),(34,[fN 13,.mp 13 0 2,y 2,.ea 48 1 18,fN 14,.mp 14 0 2,.mp 13 0 3,y 3,y 19,y 20])]
def PR:=j8 XE [0,1,2,13,14,27,34,48,54] [(14,.row 29 4 [[.ea 27 3 12,.ea 34 6 15,.ea 48 1 18,.ea 54 5 21]]),(48,.f' 3 1 18),(54,.f' 48 5 21)]
def Xu:=up Yh 60 [(1,[gA 4 6,fN 0,fN 1,fN 2,y 10]),(7,[A,A,A,gA 0 4,y 10,y 10,fk,A,A,gA 0 4,.agg [y 12,y 15,y 18,y 21],fN 2]),(34,[A,A,A,A,A,A,A,A,A,A])]
def PI:=j8 PR [0,1,2,58] [(2,.row 35 5 [[y 24,y 25,y 26,y 27,.ea 58 1 28]]),(58,.f' 3 1 28)]
def T5:=iV 119 FT (bx IH (bx Z2 (bx pJ (bx L' (bx T2 (bx Kz (bx T4 (bx LL hU)))))))) [(14,.cons d' (.one z22)),(20,.cons d' KB),(24,.cons tX z53),(32,z41)] [(3758293118,⟨2,XO,XE,35⟩),(5369364883,⟨2,Yh,PR,55⟩),(6442778694,⟨5,Xu,PI,59⟩),(8590328060,⟨1,up Xu 60 [(19,[fN 2,gA 24 4,.mp 1 0 2,y 6,y 30,y 31,y 32])],j8 PI [0,1,2,58] [],66⟩)] [gA 0 4,gA 4 6] 10
def aE6:=iV 120 I2 (bx IH (bx Ue (bx zK (bx NM (bx NN (bx Kz (bx T4 hU))))))) [] [] [gA 0 4,y 4] 5
def aE7:=iV 121 I3 hU [(5,z41)] [(1342439546,⟨1,up [] 26 [(0,[y 0,y 1]),(4,[fk,y 5,y 0,y 2,y 1,y 3,fk])],[],7⟩)] [y 0,y 1] 2
def aE8:=iV 122 I4 (bx aG7 (bx aE1 (bx T3 (bx T5 (bx aE6 (bx aE7 hU)))))) [] [] [] 0
def aE9:=iV 123 I5 hU [(2,z41)] [(537002051,⟨1,up [] 18 [(0,[y 0,y 1]),(4,[fk,y 2])],[],2⟩)] [y 0,y 1] 2
def aF0:=iV 124 I6 hU [] [] [gA 0 2] 2
def aF1:=iV 125 I7 (bx aH3 hU) [(4,ni)] [(1073938609,⟨2,up [] 42 [(0,[y 0,y 1,gA 2 2]),(5,[fN 0,lZ 0,y 5,y 4])],j8 [] [0] [(0,rw 60 2 2)],4⟩)] [y 0,y 1,gA 2 2] 4
def Zh:=up [] 81 [(0,[gA 0 3,gA 3 2,fN 0,fN 1,lZ 0,lZ 0,y 6,mm,mm]),(16,[.fe [mm,mm,A,y 6],gA 0 3,.fe [mm,mm,A,y 6],mm,mm]),(22,[y 6,y 6,fk]),(26,[gA 3 2,y 9,fk,fN 0,y 0,y 11,y 12])]
def Za:=j8 [] [0,1] [(0,rw 26 0 3),(1,rw 60 3 2)]
def Xv:=up Zh 81 [(6,[lZ 0,y 9,y 10,y 8]),(16,[.fe [y 9,y 10,y 8,lZ 0]]),(18,[.fe [y 9,y 10,y 8,lZ 0],y 9,y 10,y 8,lZ 0,lZ 0]),(27,[y 13]),(31,[y 15,y 16])]
def Y':=j8 Za [0,1] []
def Uo:=up Xv 81 [(33,[fk]),(43,[.mp 0 0 1,y 1,y 19,y 20])]
def ZF:=j8 Y' [0,1] []
def aF2:=iV 126 I8 (bx NH (bx aF0 (bx NI (bx NK (bx NL (bx IG (bx aF1 hU))))))) [(12,z41),(16,z41),(20,z41),(30,z41)] [(3221684802,⟨1,Zh,Za,44⟩),(4295427004,⟨1,Xv,Y',64⟩),(5369562312,⟨1,Uo,ZF,69⟩),(8054178959,⟨1,up Uo 81 [(13,[fN 72,y 29,y 30]),(47,[nH,sx 23 6,gA 23 6,y 8,fN 72,y 23,y 29])],j8 ZF [0,1,72] [(72,rw 90 23 6)],80⟩)] [gA 0 3,gA 3 2] 5
def aF3:=iV 127 I9 (bx aF7 (bx aE8 (bx aE1 (bx aE6 (bx Ue (bx Ua (bx aK0 (bx aE9 (bx IC (bx aF2 hU)))))))))) [(31,z41)] [(8322290316,⟨1,up [] 166 [(0,[gA 0 4,y 4,fN 0]),(4,[fk,y 7,y 8,fN 19,y 13,fN 30,y 20,y 29,y 30,y 31]),(21,[gA 0 4,y 5,fk]),(25,[.fe [y 7,y 8],gA 0 4,y 4,.fe [y 7,y 8],y 7,y 8,.fe [gA 9 4,y 13],gA 0 4,y 4,.fe [gA 9 4,y 13],gA 9 4,y 13,y 8,fk]),(48,[.fe [gA 15 5,y 20],gA 9 4,y 4,.fe [gA 15 5,y 20],gA 15 5,y 20,y 13,fk,fk,y 20,fk,fk,fk,.mp 30 0 1,y 16,fk,fk,fk,.mp 30 0 4,y 19,y 24,fk,fk,fk,fN 19,gA 9 3,.mp 30 0 4,y 19,.h8 [y 26],y 26,y 27,fk,fk,.fe [y 29,y 30],fN 19,gA 9 3,.fe [y 29,y 30],y 29,y 30])],j8 [] [0,19,30] [(0,rw 29 0 4),(19,rw 29 9 4),(30,rw 48 15 5)],93⟩)] [gA 0 4,y 4] 5
end
end Go.Proofs.YtiogbkenmjdkoaaGreatDoor
