/- A part of the proof; its readable source lies in wip of the prover's repo (squeezed here for the limit of bytes). -/
import Derived.Test.YtlnpfkdodfgdcaaGreatDoorMd
import Derived.Lib.DecodeN
import Derived.KernelRfl
set_option linter.unusedVariables false
set_option linter.unusedSimpArgs false
set_option linter.unusedSectionVars false
open Bool renaming and_assoc->km,and_eq_false_iff->eH,and_eq_true->ab,and_false->fU,and_self->eB,and_true->eP,false_and->iS,false_eq_true->aq,false_or->cw,not_false->aY,not_true->aA,or_eq_false_iff->dJ,or_false->kA,true_and->dD,true_eq_false->jl
open ByteArray renaming mk->cD
open Go.IntKind renaming bits->jY,i64->aa,signed->jz,u64->an,u8->dV,wrap->jX
open Go.IntWalk renaming i64_quo->jo
open Go.Utf8 renaming decode->bV
open Int renaming add_mul->dE,add_zero->eJ,ediv_le_self->jZ,emod_nonneg->kn,eq_of_mul_eq_mul_left->bX,le_of_lt->db,le_refl->aX,le_total->gN,lt_trichotomy->gJ,mul_add->fw,mul_assoc->bK,mul_comm->bG,mul_le_mul_of_nonneg_left->bN,mul_le_mul_of_nonneg_right->dp,mul_lt_mul_of_pos_left->cx,mul_neg->da,mul_nonneg->aF,mul_pos->ch,mul_sub->bz,natAbs_mul->kz,pos_of_mul_pos_right->bQ,pow_pos->jm,sub_mul->kK,tmod_eq_emod_of_nonneg->eQ,toNat_natCast->cS
open List renaming all_cons->bU,all_eq_true->aj,all_nil->gg,any_cons->fE,any_eq_false->dF,any_nil->gI,append_assoc->cL,append_nil->bw,cons_append->dB,filter_cons->cA,find?_cons->dP,find?_some->eZ,flatMap_cons->eA,foldl->bp,foldl_append->jy,getElem?_cons_succ->aR,getElem?_eq_getElem->ai,getElem?_range->jd,getElem_mem->aw,getElem_of_mem->bH,head?->jb,head?_cons->j_,head?_drop->g_,idxOf_lt_length_iff->ir,length->gn,length_append->aK,length_cons->ay,length_drop->gO,length_filter_le->dt,length_map->aD,length_nil->bx,length_range->hY,length_singleton->cZ,length_take->ik,map_append->dL,map_cons->az,map_nil->cB,mem_append->aQ,mem_cons->aC,mem_filter->aV,mem_flatMap->cJ,mem_flatten->bR,mem_map->aM,mem_map_of_mem->a_,mem_of_find?_eq_some->bh,mem_of_getElem?->aN,mem_of_mem_drop->bf,mem_or_eq_of_mem_set->bW,mem_range->eC,mergeSort_perm->dj,nil_append->aT,nodup_cons->df,not_mem_nil->iu,pairwise_cons->bj,pairwise_iff_getElem->dO,range->aJ,sum_cons->cU,tail_cons->eU,take_add_one->gD,take_length->gL
open List.Pairwise renaming cons->kJ,nil->gh
open Nat renaming add_zero->cM,gcd->jn,gcd_comm->kR,le_refl->ax,lt_of_lt_of_le->dK,mod_eq_of_lt->fZ,mod_lt->gp,mul_le_mul_left->gi
open Option renaming getD->gM,getD_some->bS,map_some->ak
open Option.some renaming inj->aW
open Or renaming inl->ba,inr->aP
open Prod renaming ext->fD
namespace Go.Ab
open Go
def B7(p:Pt):Bool:=decide (-2097152<=p.1)&&decide (p.1<=2097152)&&decide (-2097152<=p.2)&&decide (p.2<=2097152)
theorem cT0(p:Pt):B7 p=true↔-2097152<=p.1/\p.1<=2097152/\-2097152<=p.2/\p.2<=2097152:=by simp[B7,and_assoc]
def cross(a b c:Pt):Int:=(b.1-a.1)*(c.2-a.2)-(b.2-a.2)*(c.1-a.1)
theorem cY0{a b m n:Int}(h1:-m<=a)(h2:a<=m)(g:-n<=b)(h:b<=n):-(m*n)<=a*b/\a*b<=m*n:=by
 have hm:0<=m:=by omega
 have c:0<=n:=by omega
 have d:a.natAbs<=m.natAbs:=by omega
 have e:b.natAbs<=n.natAbs:=by omega
 have f:=Nat.mul_le_mul d e;rw[<- kz,<-kz]at f;have i:0<=m*n:=aF hm c;omega
theorem lN0{a b c:Pt}(ha:B7 a=true)(d:B7 b=true)(hc:B7 c=true):-35184372088832<=cross a b c/\cross a b c<=35184372088832:=by rw[cT0]at ha d hc;have h1:=cY0 (a:=b.1-a.1) (b:=c.2-a.2) (m:=4194304) (n:=4194304) (by omega) (by omega) (by omega) (by omega);have h2:=cY0 (a:=b.2-a.2) (b:=c.1-a.1) (m:=4194304) (n:=4194304) (by omega) (by omega) (by omega) (by omega);unfold cross;omega
theorem fO0(l:List Pt)(hl:l.length<2^62):L7 l=some (l.all B7):=by
 unfold L7;refine(r9 (A:=Unit) l (fun i _=>(i:Int)) (fun _ rest=>some (rest.all B7)) (by omega) ?_ ?_ ()).trans rfl
 ·intro rec a
  simp
 intro rec i a x rest hi d e;simp only[A5 hi,Ac,l9 d,b9,w9 hi hl];rw[e ()];by_cases h1:x.1 < -2097152
 ·have:B7 x=false:=by simp[B7];omega
  simp[h1,this]
 by_cases h2:2097152<x.1
 ·have:B7 x=false:=by simp[B7];omega
  simp[h1,h2,this]
 by_cases b:x.2 < -2097152
 ·have:B7 x=false:=by simp[B7];omega
  simp[h1,h2,b,this]
 by_cases c:2097152<x.2
 ·have:B7 x=false:=by simp[B7];omega
  simp[h1,h2,b,c,this]
 have:B7 x=true:=by rw[cT0];omega
 simp[h1,h2,b,c,this]
theorem aj0(a b c:Pt)(ha:B7 a=true)(d:B7 b=true)(hc:B7 c=true):M3 (a,b,c)=some (cross a b c):=by have f:=lN0 ha d hc;rw[cT0]at ha d hc;have h1:=cY0 (a:=b.1-a.1) (b:=c.2-a.2) (m:=4194304) (n:=4194304) (by omega) (by omega) (by omega) (by omega);have h2:=cY0 (a:=b.2-a.2) (b:=c.1-a.1) (m:=4194304) (n:=4194304) (by omega) (by omega) (by omega) (by omega);unfold M3;simp only[b9];rw[w64 (n:=b.1-a.1) (by omega) (by omega),w64 (n:=c.2-a.2) (by omega) (by omega),w64 (n:=b.2-a.2) (by omega) (by omega),w64 (n:=c.1-a.1) (by omega) (by omega),w64 (n:=(b.1-a.1)*(c.2-a.2)) (by omega) (by omega),w64 (n:=(b.2-a.2)*(c.1-a.1)) (by omega) (by omega)];have e:aa.wrap ((b.1-a.1)*(c.2-a.2)-(b.2-a.2)*(c.1-a.1))=cross a b c:=w64 (n:=cross a b c) (by omega) (by omega);exact Ap some e
def cU0(a b c:Pt):Int:=if B7 a&&B7 b&&B7 c then cross a b c else 0
theorem tO0(a b c:Pt):L7 [(a.1,a.2),(b.1,b.2),(c.1,c.2)]=some (B7 a&&B7 b&&B7 c):=by rw[fO0 _ (by simp)];simp[km]
theorem near4(a b c d:Pt):L7 [(a.1,a.2),(b.1,b.2),(c.1,c.2),(d.1,d.2)]=some (B7 a&&B7 b&&B7 c&&B7 d):=by rw[fO0 _ (by simp)];simp[km]
theorem eh0(a b c:Pt):V3 (a,b,c)=some (cU0 a b c):=by
 unfold V3 cU0;simp only[b9,tO0];cases h:(B7 a&&B7 b&&B7 c)with
 | false=>simp
 | true=>simp only[ab]at h;simp only[aA,Aa,aj0 a b c h.1.1 h.1.2 h.2,b9,Al]
def S9(a b c:Pt):Int:=if 0<cU0 a b c then 1 else if cU0 a b c<0 then -1 else 0
theorem I5(a b c:Pt):u7 (a,b,c)=some (S9 a b c):=by
 unfold u7 S9;simp only[b9,eh0];by_cases h1:0<cU0 a b c
 ·simp[h1]
 by_cases h2:cU0 a b c<0<;>simp[h1,h2]
theorem eP0(a b:Int):bp mxI a [b]=max a b:=by simp only[bp,mxI];split<;>omega
theorem qO0(a b:Int):bp mnI a [b]=min a b:=by simp only[bp,mnI];split<;>omega
def Km0(a b p:Pt):Bool:=decide (min a.1 b.1<=p.1)&&(decide (p.1<=max a.1 b.1)&&(decide (min a.2 b.2<=p.2)&&decide (p.2<=max a.2 b.2)))
def onP(a b p:Pt):Bool:=(B7 a&&B7 b&&B7 p)&&(decide (cross a b p=0)&&Km0 a b p)
theorem M0(a b p:Pt):y4 (a,b,p)=some (onP a b p):=by
 unfold y4 onP;simp only[b9,tO0];cases h:(B7 a&&B7 b&&B7 p)with
 | false=>simp
 | true=>simp only[ab]at h;simp only[aA,Aa,aj0 a b p h.1.1 h.1.2 h.2,b9,eP0,qO0,Km0];cases decide (cross a b p=0)<;>cases decide (min a.1 b.1<=p.1)<;>cases decide (p.1<=max a.1 b.1)<;>cases decide (min a.2 b.2<=p.2)<;>simp
def B9(a b:Pt):Bool:=decide (a.1<b.1)||(decide (a.1=b.1)&&decide (a.2<b.2))
theorem ix0(a b:Pt):l7 (a,b)=some (B9 a b):=by unfold l7 B9;simp only[b9];cases decide (a.1<b.1)<;>cases decide (a.1=b.1)<;>rfl
def eqP(a b:Pt):Bool:=decide (a.1=b.1)&&decide (a.2=b.2)
theorem mh0(a b:Pt):eqP a b=true↔a=b:=by simp[eqP,Prod.ext_iff]
def ky0(a b c d:Pt):Int :=
 let a':=if B9 b a then b else a
 let b':=if B9 b a then a else b
 let c':=if B9 d c then d else c
 let e:=if B9 d c then c else d
 let f:=if B9 a' c' then c' else a'
 let l:=if B9 e b' then e else b'
 if eqP f l then 1 else if B9 f l then 2 else 0
theorem iL0(a b c d:Pt):V7 (a,b,c,d)=some (ky0 a b c d):=by
 unfold V7 ky0;have e:∀ p q:Pt,(decide (p.1=q.1)&&decide (p.2=q.2))=eqP p q:=fun _ _=>rfl;have e2:∀ p q:Pt,l7 ((p.1,p.2),(q.1,q.2))=some (B9 p q):=fun p q=>ix0 p q;simp only[e2,b9,e];cases h1:B9 b a<;>cases h2:B9 d c<;>simp only[Ac,Aa,Al,Ah,aq]
 ·cases g:B9 a c<;>cases h:B9 d b<;>simp only[Ac,Aa,Al,Ah,aq]
  ·cases eqP a b<;>cases f:B9 a b<;>simp_all
  ·cases eqP a d<;>cases f:B9 a d<;>simp_all
  ·cases eqP c b<;>cases f:B9 c b<;>simp_all
  cases eqP c d<;>cases f:B9 c d<;>simp_all
 ·cases g:B9 a d<;>cases h:B9 c b<;>simp only[Ac,Aa,Al,Ah,aq]
  ·cases eqP a b<;>cases f:B9 a b<;>simp_all
  ·cases eqP a c<;>cases f:B9 a c<;>simp_all
  ·cases eqP d b<;>cases f:B9 d b<;>simp_all
  cases eqP d c<;>cases f:B9 d c<;>simp_all
 ·cases g:B9 b c<;>cases h:B9 d a<;>simp only[Ac,Aa,Al,Ah,aq]
  ·cases eqP b a<;>cases f:B9 b a<;>simp_all
  ·cases eqP b d<;>cases f:B9 b d<;>simp_all
  ·cases eqP c a<;>cases f:B9 c a<;>simp_all
  cases eqP c d<;>cases f:B9 c d<;>simp_all
 cases g:B9 b d<;>cases h:B9 c a<;>simp only[Ac,Aa,Al,Ah,aq]
 ·cases eqP b a<;>cases f:B9 b a<;>simp_all
 ·cases eqP b c<;>cases f:B9 b c<;>simp_all
 ·cases eqP d a<;>cases f:B9 d a<;>simp_all
 cases eqP d c<;>cases f:B9 d c<;>simp_all
theorem hF0(a b c:Pt):S9 a b c=1\/S9 a b c=-1\/S9 a b c=0:=by
 unfold S9;split
 ·exact .inl rfl
 split
 ·exact .inr (.inl rfl)
 exact .inr (.inr rfl)
theorem tQ0(a b c d e f:Pt):aa.wrap (S9 a b c*S9 d e f)=S9 a b c*S9 d e f:=by rcases hF0 a b c with h | h | h<;>rcases hF0 d e f with h' | h' | h'<;>rw[h,h']<;>exact w64 (by decide) (by decide)
def rp0(a b c d:Pt):Int :=
 if B7 a&&B7 b&&B7 c&&B7 d then
  if eqP a b then (if onP c d a then 1 else 0)else if eqP c d then (if onP a b c then 1 else 0)else if S9 a b c=0/\S9 a b d=0 then ky0 a b c d else if S9 a b c*S9 a b d<=0/\S9 c d a*S9 c d b<=0 then 1 else 0 else 0
theorem mc0(a b c d:Pt):bp0 (a,b,c,d)=some (rp0 a b c d):=by
 unfold bp0 rp0;have e:∀ p q:Pt,(decide (p.1=q.1)&&decide (p.2=q.2))=eqP p q:=fun _ _=>rfl;have e1:∀ p q r:Pt,y4 ((p.1,p.2),(q.1,q.2),(r.1,r.2))=some (onP p q r):=fun p q r=>M0 p q r;have e2:∀ p q r:Pt,u7 ((p.1,p.2),(q.1,q.2),(r.1,r.2))=some (S9 p q r):=fun p q r=>I5 p q r;have e3:∀ p q r s:Pt,V7 ((p.1,p.2),(q.1,q.2),(r.1,r.2),(s.1,s.2))=some (ky0 p q r s):=fun p q r s=>iL0 p q r s;simp only[b9,near4,e,e1,e2,e3,tQ0];cases h:(B7 a&&B7 b&&B7 c&&B7 d)with
 | false=>simp
 | true=>
  simp only[aA,Aa,Al];cases eqP a b with
  | true=>cases onP c d a<;>simp
  | false=>
   simp only[Aa,aq,Ah];cases eqP c d with
   | true=>cases onP a b c<;>simp
   | false=>
    simp only[Aa,aq,Ah];by_cases h1:S9 a b c=0
    ·by_cases h2:S9 a b d=0
     ·simp[h1,h2]
     by_cases f:S9 c d a*S9 c d b<=0<;>simp[h1,h2,f]
    by_cases g:S9 a b c*S9 a b d<=0
    ·by_cases f:S9 c d a*S9 c d b<=0<;>simp[h1,g,f]
    simp[h1,g]
def Q1(o p:Pt):Bool:=decide (p.2<o.2)||(decide (p.2=o.2)&&decide (p.1<o.1))
theorem kj0(o p:Pt):R4 (o,p)=some (Q1 o p):=by unfold R4 Q1;simp only[b9];cases decide (p.2<o.2)<;>cases decide (p.2=o.2)<;>rfl
def bv0(o a b:Pt):Bool:=(B7 o&&B7 a&&B7 b)&&(!eqP a o&&(!eqP b o&&(if Q1 o a=Q1 o b then decide (0<cross o a b)else Q1 o b)))
theorem lT0(o a b:Pt):X6 (o,a,b)=some (bv0 o a b):=by
 unfold X6 bv0;have e:∀ p q:Pt,(decide (p.1=q.1)&&decide (p.2=q.2))=eqP p q:=fun _ _=>rfl;have e1:∀ p q:Pt,R4 ((p.1,p.2),(q.1,q.2))=some (Q1 p q):=fun p q=>kj0 p q;simp only[b9,tO0,e,e1];cases h:(B7 o&&B7 a&&B7 b)with
 | false=>simp
 | true=>simp only[ab]at h;have e2:M3 ((o.1,o.2),(a.1,a.2),(b.1,b.2))=some (cross o a b):=aj0 o a b h.1.1 h.1.2 h.2;simp only[aA,Aa,e2,b9];cases eqP a o<;>cases eqP b o<;>cases Q1 o a<;>cases Q1 o b<;>simp
def Z3(ars:List Ar)(id:Int):Nat:=(ars.map fun a=>(if a.2.1=id then 1 else 0)+(if a.2.2.1=id then 1 else 0)).sum
theorem bn0(ns:List Nd)(ars:List Ar)(fs:List Int)(id:Int)(ha:ars.length<=1000000):R1 ((ns,ars,fs),id)=some ((Z3 ars id:Nat):Int):=by
 unfold R1;simp only[b9];refine(p8 (A:=Nat) ars (fun i a=>((i:Int),(a:Int))) (fun a rest=>some ((a+Z3 rest id:Nat):Int)) (fun i a=>a<=2*i) (by omega) ?_ ?_ 0 (by omega)).trans (by simp)
 ·intro rec a c
  simp[Z3]
 intro rec i a x rest hi c d b;have e0:=w9 hi (show ars.length<2^62 by omega);have e1:aa.wrap ((a:Int)+1)=((a+1:Nat):Int):=by rw[w64 (by omega) (by omega)];omega
 have e2:aa.wrap (((a+1:Nat):Int)+1)=((a+2:Nat):Int):=by rw[w64 (by omega) (by omega)];omega
 simp only[A5 hi,Ac,l9 d,b9,e0,e1,e2];by_cases h1:x.2.1=id<;>by_cases h2:x.2.2.1=id
 ·simp only[h1,h2,Ai,Ac]
  rw[b _ (by omega)];simp only[Z3,az,cU,h1,h2,Al];congr 2;omega
 ·simp only[h1,h2,Ai,Ag,Ac,Aa]
  rw[b _ (by omega)];simp only[Z3,az,cU,h1,h2,Al,Ah];congr 2;omega
 ·simp only[h1,h2,Ai,Ag,Ac,Aa]
  rw[b _ (by omega)];simp only[Z3,az,cU,h1,h2,Al,Ah];congr 2;omega
 simp only[h1,h2,Ai,Ag,Ac,Aa];rw[b _ (by omega)];simp only[Z3,az,cU,h1,h2,Al,Ah];congr 2;omega
def gv0:List Int->Bool
 | []=>true
 | [_]=>true
 | a::b::l=>decide (a<b)&&gv0 (b::l)
theorem V0(xs:List Int)(hl:xs.length<2^62):I8 xs=some (gv0 xs):=by
 unfold I8;cases xs with
 | nil=>exact ff0 fun rec=>by simp[gv0]
 | cons y b=>
  simp only[ay]at hl;refine(p8 (A:=Int) b (fun i a=>((i:Int)+1)) (fun a rest=>some (gv0 (a::rest))) (fun i a=>(y::b)[i]?=some a) (by omega) ?_ ?_ y rfl).trans rfl
  ·intro rec a c
   simp[gv0]
  intro rec i a x rest hi c d e;have e1:decide ((i:Int)+1<(((y::b).length:Nat):Int))=true:=by simp only[ay,Ad];omega
  have e2:aa.wrap ((i:Int)+1-1)=((i:Nat):Int):=by rw[w64 (by omega) (by omega)];omega
  have e3:aa.wrap ((i:Int)+1+1)=((i+1:Nat):Int)+1:=by rw[w64 (by omega) (by omega)];omega
  have e4:nth (y::b) ((i:Int)+1)=some x:=by
   have:((i:Int)+1)=((i+1:Nat):Int):=by omega
   rw[this,C3,aR,<-C3,l9 d]
  simp only[b9,e1,Ac,e2,C3,c,e4,e3];have e5:(y::b)[i+1]?=some x:=by rw[<- C3];rw[<- e4];congr 1
  rw[e x e5];by_cases h:x<=a
  ·have:¬ a<x:=by omega
   simp[h,gv0,this]
  have:a<x:=by omega
  simp[h,gv0,this]
def pathOf(ns:List Nd)(ars:List Ar)(id:Int):Option (List Pt):=match ct0 ars id with
 | none=>none
 | some a=>match O7 ns a.2.1,O7 ns a.2.2.1 with
  | some f,some t=>some ((f.2.1,f.2.2)::(a.2.2.2.1++[(t.2.1,t.2.2)]))
  | _,_=>none
theorem vv0{α:Type}{z:α}{n:Int}(a:0<n)(h1:n<=1000000):zerO 16 z n=some (List.replicate n.toNat z):=by
 unfold zerO;have e1:decide (aa.wrap n=n)=true:=by rw[w64 (by omega) (by omega)];simp
 have e2:decide (0<n)=true:=by simpa using a
 have e3:decide ((2*n.toNat+1000)*16<=2^48)=true:=by simp only[Ad];omega
 have e4:decide (n.toNat<=2^62)=true:=by simp only[Ad];omega
 rw[e1,e2,e3,e4];rfl
theorem lF0{ars:List Ar}{id:Int}{a:Ar}(h:ct0 ars id=some a):a∈ars:=bh h
theorem fR0(ns:List Nd)(ars:List Ar)(fs:List Int)(id:Int)(d:ns.length<=1000000)(ha:ars.length<=1000000)(hv:∀ a∈ars,a.2.2.2.1.length<=900000) :
  E9 ((ns,ars,fs),id)=some (match pathOf ns ars id with | some l=>(l,0) | none=>([],7)):=by
 unfold E9;simp only[hC0 ns ars fs _ (show ars.length<2^62 by omega) (fun a h=>by have:=hv a h;omega),cZ0 ns ars fs _ (show ns.length<2^62 by omega),b9];unfold pathOf;cases c:ct0 ars id with
 | none=>simp
 | some a=>
  have b:=hv a (lF0 c);simp only[aA,Aa];cases hF:O7 ns a.2.1 with
  | none=>simp
  | some f=>
   simp only[aA,Aa];cases hT:O7 ns a.2.2.1 with
   | none=>simp
   | some t=>
    simp only[aA,Aa];generalize e:a.2.2.2.1=via at b;have e1:aa.wrap (1+(via.length:Int))=1+via.length:=w64 (by omega) (by omega);have e2:aa.wrap (1+(via.length:Int)+1)=via.length+2:=by rw[w64 (by omega) (by omega)];omega
    have e3:decide (1+(via.length:Int)<0)=false:=by simp only[An];omega
    have e4:decide ((via.length:Int)+2<0)=false:=by simp only[An];omega
    have e5:aa.wrap ((via.length:Int)+2-0)=via.length+2:=by rw[w64 (by omega) (by omega)];omega
    have e6:decide (0<(via.length:Int)+2)=true:=by simp only[Ad];omega
    simp only[e1,e2,e3,e4,e5,e6,Aa,Ac];rw[vv0 (by omega) (by omega)];simp only[b9];rw[C7 (by omega) (by simp)];simp only[b9,aT];rw[C7 (by omega) (by simp;omega)];simp only[b9];rw[C7 (by omega) (by simp;omega)];simp
theorem pp0{ns:List Nd}{ars:List Ar}{id:Int}{l:List Pt}(h:pathOf ns ars id=some l):∃ a,ct0 ars id=some a/\l.length=a.2.2.2.1.length+2:=by
 unfold pathOf at h;split at h
 ·cases h
 rename_i a ha;split at h
 ·cases h;exact⟨a,ha,by simp⟩
 cases h
def hD0(n:Int):Bool:=decide (1<=n)&&decide (n<=1073741824)
theorem Z2(xs:List Int)(hl:xs.length<2^62):L1 xs=some (xs.all hD0):=by
 unfold L1;have h1:∀ n,N6 n=some (!(hD0 n)):=fun n=>by
  unfold N6 hD0;by_cases h1:n<1
  ·have:¬ 1<=n:=by omega
   simp[h1,this]
  have b:1<=n:=by omega
  by_cases h2:1073741824<n
  ·have:¬ n<=1073741824:=by omega
   simp[h1,h2,b,this]
  have:n<=1073741824:=by omega
  simp[h1,h2,b,this]
 have h2:w8 (xs,())=some (!(xs.all hD0)):=by
  unfold w8;simp only[b9];refine(r9 (A:=Unit) xs (fun i _=>(i:Int)) (fun _ rest=>some (!(rest.all hD0))) (by omega) ?_ ?_ ()).trans rfl
  ·intro rec a;simp
  intro rec i a x rest hi c d;simp only[A5 hi,Ac,l9 c,b9,w9 hi hl,h1];rw[d ()];cases h:hD0 x<;>simp[bU,h]
 simp only[h2,b9,Bool.not_not]
def dF0(p:Pt):Bool:=decide (-1048576<=p.1)&&decide (p.1<=1048576)&&decide (-1048576<=p.2)&&decide (p.2<=1048576)
theorem cA0{p:Pt}(h:dF0 p=true):B7 p=true:=by simp only[dF0,ab,Ad]at h;rw[cT0];omega
theorem cr0(p:Pt):K5 p=some (!(dF0 p)):=by
 unfold K5 dF0;by_cases h1:p.1 < -1048576
 ·have:¬ -1048576<=p.1:=by omega
  simp[h1,this]
 by_cases h2:1048576<p.1
 ·have:¬ p.1<=1048576:=by omega
  simp[h1,h2,this]
 by_cases a:p.2 < -1048576
 ·have:¬ -1048576<=p.2:=by omega
  simp[h1,h2,a,this]
 have c:-1048576<=p.1:=by omega
 have a2:p.1<=1048576:=by omega
 have a3:-1048576<=p.2:=by omega
 by_cases b:1048576<p.2
 ·have:¬ p.2<=1048576:=by omega
  simp[h1,h2,a,b,this]
 have:p.2<=1048576:=by omega
 simp[h1,h2,a,b,c,a2,a3,this]
theorem ir0(l:List Pt)(hl:l.length<2^62):u4 (l,())=some (!(l.all dF0)):=by
 unfold u4;simp only[b9];refine(r9 (A:=Unit) l (fun i _=>(i:Int)) (fun _ rest=>some (!(rest.all dF0))) (by omega) ?_ ?_ ()).trans rfl
 ·intro rec a;simp
 intro rec i a x rest hi b c;have e:K5 (x.1,x.2)=some (!(dF0 x)):=cr0 x;simp only[A5 hi,Ac,l9 b,b9,w9 hi hl,e];rw[c ()];cases h:dF0 x<;>simp[bU,h]
theorem iE0(ns:List Nd)(ars:List Ar)(fs:List Int)(d:ns.length<=1000000)(ha:ars.length<=1000000)(hv:∀ a∈ars,a.2.2.2.1.length<=900000) :
  ax0 (ns,ars,fs)=some ((ns.all fun n=>dF0 (n.2.1,n.2.2))&&(ars.all fun a=>a.2.2.2.1.all dF0)):=by
 unfold ax0;simp only[b9];refine(r9 (A:=Unit) ns (fun i _=>(i:Int)) (fun _ rest=>some ((rest.all fun n=>dF0 (n.2.1,n.2.2))&&(ars.all fun a=>a.2.2.2.1.all dF0))) (by omega) ?_ ?_ ()).trans rfl
 ·intro rec a
  simp only[A9,Aa,gg,dD];refine(r9 (A:=Unit) ars (fun i _=>(i:Int)) (fun _ rest=>some (rest.all fun a=>a.2.2.2.1.all dF0)) (by omega) ?_ ?_ ()).trans rfl
  ·intro rec a;simp
  intro rec i a x rest hi b c;have e:=hv x (N0 b).2.2;simp only[A5 hi,Ac,l9 b,b9,w9 hi (show ars.length<2^62 by omega),ir0 x.2.2.2.1 (by omega)];rw[c ()];cases h:x.2.2.2.1.all dF0<;>simp[h]
 intro rec i a x rest hi b c;simp only[A5 hi,Ac,l9 b,b9,w9 hi (show ns.length<2^62 by omega),cr0];rw[c ()];cases h:dF0 (x.2.1,x.2.2)<;>simp[h]
def ob0(n m:Nd):Bool:=eqP (n.2.1,n.2.2) (m.2.1,m.2.2)
def dupB:List Nd->List Nd->Bool
 | _,[]=>false
 | pre,n::rest=>pre.any (ob0 n)||dupB (pre++[n]) rest
def ag0(ns:List Nd)(ars:List Ar)(fs nodes:List Int):Int :=bif dupB [] ns then 8 else bif ars.any (fun a=>!(decide (a.2.1∈nodes)&&decide (a.2.2.1∈nodes)))then 7 else bif ars.any (fun a=>!((decide (a.2.2.2.2.1=0)||decide (a.2.2.2.2.1∈fs))&&(decide (a.2.2.2.2.2=0)||decide (a.2.2.2.2.2∈fs))))then 12 else 0
theorem fc0(ns:List Nd)(ars:List Ar)(fs nodes:List Int)(q:ns.length<=1000000)(ha:ars.length<=1000000)(hf:fs.length<=1000000)(o:nodes.length<=1000000) :
  P3 ((ns,ars,fs),nodes)=some (ag0 ns ars fs nodes):=by
 have f:∀ y,l8 (nodes,y)=some (decide (y∈nodes)):=fun y=>E1 nodes y (by omega);have g:∀ y,l8 (fs,y)=some (decide (y∈fs)):=fun y=>E1 fs y (by omega);unfold P3;simp only[b9,f,g];refine(r9 (A:=Unit) ns (fun i _=>(i:Int)) (fun _ rest=>some (bif dupB (ns.take (ns.length-rest.length)) rest then 8 else bif ars.any (fun a=>!(decide (a.2.1∈nodes)&&decide (a.2.2.1∈nodes)))then 7 else bif ars.any (fun a=>!((decide (a.2.2.2.2.1=0)||decide (a.2.2.2.2.1∈fs))&&(decide (a.2.2.2.2.2=0)||decide (a.2.2.2.2.2∈fs))))then 12 else 0)) (by omega) ?_ ?_ ()).trans (by simp[ag0])
 ·intro rec u
  simp only[A9,Aa,dupB,Aa];refine(r9 (A:=Unit) ars (fun i _=>(i:Int)) (fun _ rest=>some (bif rest.any (fun a=>!(decide (a.2.1∈nodes)&&decide (a.2.2.1∈nodes)))then 7 else bif ars.any (fun a=>!((decide (a.2.2.2.2.1=0)||decide (a.2.2.2.2.1∈fs))&&(decide (a.2.2.2.2.2=0)||decide (a.2.2.2.2.2∈fs))))then 12 else 0)) (by omega) ?_ ?_ ()).trans rfl
  ·intro rec u
   simp only[A9,Aa,gI,Aa];refine(r9 (A:=Unit) ars (fun i _=>(i:Int)) (fun _ rest=>some (bif rest.any (fun a=>!((decide (a.2.2.2.2.1=0)||decide (a.2.2.2.2.1∈fs))&&(decide (a.2.2.2.2.2=0)||decide (a.2.2.2.2.2∈fs))))then 12 else 0)) (by omega) ?_ ?_ ()).trans rfl
   ·intro rec u
    simp
   intro rec i u x rest hi b c;simp only[A5 hi,Ac,l9 b,b9,w9 hi (show ars.length<2^62 by omega)];rw[c ()];simp only[fE];generalize decide (x.2.2.2.2.1=0)=p1;generalize decide (x.2.2.2.2.2=0)=p2;generalize decide (x.2.2.2.2.1∈fs)=p3;generalize decide (x.2.2.2.2.2∈fs)=p4;cases p1<;>cases p2<;>cases p3<;>cases p4<;>simp
  intro rec i u x rest hi b c;simp only[A5 hi,Ac,l9 b,b9,w9 hi (show ars.length<2^62 by omega)];rw[c ()];simp only[fE];generalize decide (x.2.1∈nodes)=p3;generalize decide (x.2.2.1∈nodes)=p4;cases p3<;>cases p4<;>simp
 intro rec i u x rest hi b c;have p:=N0 b;have e1:ns.length-(x::rest).length=i:=by simp;omega
 have e2:ns.length-rest.length=i+1:=by omega
 have e3:ns.take (i+1)=ns.take i++[x]:=by
  rw[gD];have:ns[i]?=some x:=by rw[<- C3];exact l9 b
  rw[this];rfl
 simp only[A5 hi,Ac,l9 b,b9,w9 hi (show ns.length<2^62 by omega),ra0 (Nat.le_of_lt hi)];simp only[e1,dupB];have d:=c ();rw[e2,e3]at d;have k:(ns.take i).length<2^62:=by simp;omega
 refine(r9 (A:=Unit) (ns.take i) (fun i _=>(i:Int)) (fun _ n=>some (bif (n.any (ob0 x)||dupB (ns.take i++[x]) rest)then 8 else bif ars.any (fun a=>!(decide (a.2.1∈nodes)&&decide (a.2.2.1∈nodes)))then 7 else bif ars.any (fun a=>!((decide (a.2.2.2.2.1=0)||decide (a.2.2.2.2.1∈fs))&&(decide (a.2.2.2.2.2=0)||decide (a.2.2.2.2.2∈fs))))then 12 else 0)) (by omega) ?_ ?_ ()).trans rfl
 ·intro e u
  simp only[A9,Aa,d,gI,cw]
 intro e j u y n hj l m;have e4:(decide (x.2.1=y.2.1)&&decide (x.2.2=y.2.2))=ob0 x y:=rfl;simp only[A5 hj,Ac,l9 l,b9,w9 hj k,e4];rw[m ()];cases h:ob0 x y<;>simp[fE,h]
abbrev Ln:=Int×Int×Int×List Pt×Int×Int×List Pt
abbrev Sg:=Ln×Int
def Ln.path(l:Ln):List Pt:=l.2.2.2.2.2.2
def Jz0(a:Ar)(l:List Pt):Ln:=(a.1,a.2.1,a.2.2.1,a.2.2.2.1,a.2.2.2.2.1,a.2.2.2.2.2,l)
def iq0(a:Ar)(l:List Pt):List Sg:=(aJ (l.length-1)).map fun (i:Nat)=>(Jz0 a l,(i:Int))
def ny0:List Pt->Bool
 | []=>true
 | [_]=>true
 | p::q::l=>!(eqP p q)&&ny0 (q::l)
def cF0(ns:List Nd)(ars:List Ar):List Ar->Option (List Sg)
 | []=>some []
 | a::b=>match pathOf ns ars a.1 with
  | none=>none
  | some l=>bif (decide (a.2.1=a.2.2.1)&&decide (l.length<4))||!(ny0 l)then none else match cF0 ns ars b with
   | some r=>some (iq0 a l++r)
   | none=>none
theorem wG0{β:Type}(a:Ar)(l:List Pt)(acc:List Sg)(K:List Sg×Int->Option β)(bad:β)(hl:l.length<=1000000)(f:2<=l.length)(n:acc.length<=300000000) :
  rounds (α:=List ((Int×Int×Int×List (Int×Int)×Int×Int×List (Int×Int))×Int)×Int) (β:=β) (fun k x=>
    b8 (some (decide (x.2<aa.wrap ((l.length:Int)-1)))) fun v25=>
    bif v25 then (
     b8 (nth l x.2) fun v26=>
     b8 (some (aa.wrap (x.2+(1:Int)))) fun v28=>
     b8 (nth l v28) fun v29=>
     b8 (some ((fun (a b:Int×Int)=>(decide (a.1=b.1)&&decide (a.2=b.2))) (v26.1,v26.2) (v29.1,v29.2))) fun v31=>
     bif v31 then (
     some bad)else (
     b8 (Q5 16 x.1 [((a.1,a.2.1,a.2.2.1,a.2.2.2.1,a.2.2.2.2.1,a.2.2.2.2.2,l),x.2)]) fun v32=>
     b8 (some (aa.wrap (x.2+(1:Int)))) fun v33=>
     k (v32,v33)))else K x) (acc,(0:Int))=bif ny0 l then K (acc++iq0 a l,(l.length:Int)-1)else some bad:=by
 cases l with
 | nil=>simp at f
 | cons p c=>
  simp only[ay]at hl f;have e0:aa.wrap (((p::c).length:Nat)-1:Int)=(c.length:Int):=by rw[ay,w64 (by omega) (by omega)];omega
  simp only[b9,e0];refine(p8 (A:=List Sg) c (fun i s=>(s,(i:Int))) (fun s rest=>bif ny0 ((p::c).drop (c.length-rest.length))then K (acc++iq0 a (p::c),(c.length:Int))else some bad)
   (fun i s=>s=acc++(aJ i).map fun (j:Nat)=>(Jz0 a (p::c),(j:Int))) (by omega) ?_ ?_ acc (by simp)).trans (by
    have:(((p::c).length:Nat):Int)-1=c.length:=by rw[ay];omega
    rw[this];simp)
  ·intro rec s hs
   have e1:ny0 ((p::c).drop c.length)=true:=by
    have:((p::c).drop c.length).length=1:=by simp
    match h:(p::c).drop c.length,this with
    | [x],_=>rfl
   simp only[A9,Aa,bx,Nat.sub_zero,e1,Ac];subst hs;rfl
  intro rec i s x rest hi o g r;have t:=N0 g;have e:c.length-(x::rest).length=i:=by simp;omega
  have d:c.length-rest.length=i+1:=by omega
  have e1:nth (p::c) (i:Int)=some ((p::c)[i]'(by simp;omega)):=by rw[C3];exact ai _
  have e2:nth (p::c) ((i+1:Nat):Int)=some x:=by rw[C3,aR,<-C3];exact l9 g
  have e3:=w9 hi (show c.length<2^62 by omega);have q:(p::c).drop (i+1)=x::rest:=by simpa using g
  have m:(p::c).drop i=(p::c)[i]'(by simp;omega)::x::rest:=by rw[List.drop_eq_getElem_cons (by simp;omega),q]
  rw[e,m];have hlen:s.length<=300000000+i:=by rw[o];simp;omega
  simp only[A5 hi,Ac,e1,b9,e3,e2];rw[C7 (by omega) (by simp;omega)];have e5:(decide (((p::c)[i]'(by simp;omega)).1=x.1)&&decide (((p::c)[i]'(by simp;omega)).2=x.2))=eqP ((p::c)[i]'(by simp;omega)) x:=rfl;simp only[b9,e5];rw[r _ (by rw[o,List.range_succ,dL];simp[Jz0]),d,q];simp only[ny0];cases eqP ((p::c)[i]'(by simp;omega)) x<;>simp
structure pt0(s:Sg):Prop where
 lo:0<=s.2
 hi:s.2+1<s.1.path.length
 len:s.1.path.length<=1000000
def sgA(s:Sg):Pt:=(s.1.path[s.2.toNat]?).getD (0,0)
def sgB(s:Sg):Pt:=(s.1.path[s.2.toNat+1]?).getD (0,0)
theorem hf0{s:Sg}(h:pt0 s):u5 s=some (sgA s,sgB s):=by
 obtain⟨l,i⟩:=s;obtain⟨h1,h2,a⟩:=h;simp only at h1 h2 a;unfold u5 sgA sgB;have e1:aa.wrap (i+1)=i+1:=w64 (by omega) (by omega);have e2:nth l.path i=some (l.path[i.toNat]'(by omega)):=by rw[mP0 h1];exact ai _
 have e3:nth l.path (i+1)=some (l.path[i.toNat+1]'(by omega)):=by
  rw[mP0 (by omega)];have:(i+1).toNat=i.toNat+1:=by omega
  rw[this];exact ai _
 simp only[b9,e1];show b8 (nth l.path i) _=_;rw[e2];simp only[b9];show b8 (nth l.path (i+1)) _=_;rw[e3];simp only[b9];have e4:l.path[i.toNat]?=some (l.path[i.toNat]'(by omega)):=ai _;have e5:l.path[i.toNat+1]?=some (l.path[i.toNat+1]'(by omega)):=ai _;rw[e4,e5];rfl
def sgW(s:Sg):Int:=min (sgA s).1 (sgB s).1
def sgE(s:Sg):Int:=max (sgA s).1 (sgB s).1
theorem mQ0{s:Sg}(h:pt0 s):B2 s=some (sgW s):=by unfold B2;have:u5 (s.1,s.2)=some (sgA s,sgB s):=hf0 h;simp only[this,b9,qO0];rfl
theorem vb0{s:Sg}(h:pt0 s):F7 s=some (sgE s):=by unfold F7;have:u5 (s.1,s.2)=some (sgA s,sgB s):=hf0 h;simp only[this,b9,eP0];rfl
def bj0(s:Sg):Bool:=decide (s.2=0)
def cO0(s:Sg):Bool:=decide (s.2=(s.1.path.length:Int)-2)
theorem ns0(s:Sg):A4 s=some (bj0 s):=by unfold A4 bj0;simp
theorem nh0{s:Sg}(h:pt0 s):w6 s=some (cO0 s):=by unfold w6 cO0;have hl:=h.len;have e:aa.wrap ((s.1.path.length:Int)-2)=(s.1.path.length:Int)-2:=w64 (by omega) (by omega);simp only[b9];show some (decide (s.2=aa.wrap ((s.1.path.length:Int)-2)))=_;rw[e]
theorem qr0{a:Ar}{l:List Pt}{s:Sg}(h:s∈iq0 a l):∃ i:Nat,i+1<l.length/\s=(Jz0 a l,(i:Int)):=by unfold iq0 at h;obtain⟨i,hi,rfl⟩:=aM.1 h;rw[eC]at hi;exact⟨i,by omega,rfl⟩
theorem tR0{a:Ar}{l:List Pt}(hl:l.length<=1000000){s:Sg}(h:s∈iq0 a l):pt0 s:=by obtain⟨i,hi,rfl⟩:=qr0 h;exact⟨by simp,by show ((i:Int)+1<(l.length:Int));omega,hl⟩
theorem Kb0{ns:List Nd}{ars:List Ar}:∀ {l:List Ar} {r:List Sg},cF0 ns ars l=some r->∀ s∈r,∃ a∈l,∃ p,pathOf ns ars a.1=some p/\s∈iq0 a p
 | [],r,h,s,hs=>by simp[cF0]at h;subst h;simp at hs
 | a::l,r,h,s,hs=>by
  unfold cF0 at h;split at h
  ·cases h
  rename_i p hp;cases hc:((decide (a.2.1=a.2.2.1)&&decide (p.length<4))||!(ny0 p))with
  | true=>rw[hc]at h;cases h
  | false=>
   rw[hc]at h;simp only[Aa]at h;split at h
   ·rename_i c b
    cases h;rcases aQ.1 hs with hs | hs
    ·exact⟨a,by simp,p,hp,hs⟩
    obtain⟨a',h1,h2⟩:=Kb0 b s hs;exact⟨a',by simp[h1],h2⟩
   cases h
def mkMap(ns:List Nd)(m:List (Int×Pt)):List (Int×Pt):=ns.foldl (fun m n=>V9 (fun (a b:Int)=>decide (a=b)) n.1 (n.2.1,n.2.2) m) m
abbrev qI:Int->Int->Bool:=fun a b=>decide (a=b)
theorem oY0(a b:Int):qI a b=decide (a=b):=rfl
theorem ba0{V:Type}(k c:Int)(v:V):∀ m:List (Int×V),lkp qI k (V9 qI c v m)=if k=c then some v else lkp qI k m
 | []=>by by_cases h:k=c<;>simp[V9,lkp,h,oY0]
 | p::m=>by
  have d:=ba0 k c v m;simp only[V9,oY0];by_cases h1:c=p.1
  ·simp only[h1,Ai,Ac,lkp,oY0]
   by_cases h:k=p.1<;>simp[h]
  simp only[h1,Ag,Aa,lkp,oY0];by_cases h:k=p.1
  ·have:¬ k=c:=fun e=>h1 (by rw[<- e,h])
   simp[h];exact fun e=>Am e.symm h1
  have f:lkp (fun a b=>decide (a=b)) k (V9 qI c v m)=if k=c then some v else lkp qI k m:=d
  simp[h];exact d
theorem Lu0(k:Int):∀ (ns:List Nd) (m:List (Int×Pt)),(∀ n∈ns,k≠n.1)->lkp qI k (mkMap ns m)=lkp qI k m
 | [],m,_=>rfl
 | n::ns,m,h=>by have a:=Lu0 k ns (V9 qI n.1 (n.2.1,n.2.2) m) (fun x b=>h x (by simp[b]));show lkp qI k (mkMap ns (V9 qI n.1 (n.2.1,n.2.2) m))=_;rw[a,ba0,Ae (h n (by simp))]
def fK0(m:List (Int×Pt))(id:Int):Pt:=(lkp qI id m).getD (0,0)
def hM0(s t:Sg)(m:List (Int×Pt)):Bool :=
 let c:=rp0 (sgA s) (sgB s) (sgA t) (sgB t)
 bif decide (s.1.1=t.1.1)then
  (bif decide (t.2<s.2)then
   (bif decide (t.2+1=s.2)||(decide (t.1.2.1=t.1.2.2.1)&&(bj0 t&&cO0 s))then decide (c=1)else decide (c=0))else (bif decide (s.2+1=t.2)||(decide (s.1.2.1=s.1.2.2.1)&&(bj0 s&&cO0 t))then decide (c=1)else decide (c=0)))else bif decide (c=1)then
  ((decide (s.1.2.1=t.1.2.1)||decide (s.1.2.1=t.1.2.2.1))&&(onP (sgA s) (sgB s) (fK0 m s.1.2.1)&&onP (sgA t) (sgB t) (fK0 m s.1.2.1))) ||
  ((decide (s.1.2.2.1=t.1.2.1)||decide (s.1.2.2.1=t.1.2.2.1))&&(onP (sgA s) (sgB s) (fK0 m s.1.2.2.1)&&onP (sgA t) (sgB t) (fK0 m s.1.2.2.1)))else decide (c=0)
theorem rJ0(m:List (Int×Pt))(id:Int):orO (lkp (fun (a b:Int)=>decide (a=b)) id m) (some ((0:Int),(0:Int)))=some (fK0 m id):=by unfold fK0;show orO (lkp qI id m) _=_;cases lkp qI id m<;>rfl
theorem kl0{s t:Sg}(hs:pt0 s)(e:pt0 t)(m:List (Int×Pt)):J8 (s,t,m)=some (hM0 s t m):=by
 have f:=hs.hi;have g:=e.hi;have h:=hs.len;have i:=e.len;have j:=hs.lo;have k:=e.lo;have e1:u5 (s.1,s.2)=some (sgA s,sgB s):=hf0 hs;have e2:u5 (t.1,t.2)=some (sgA t,sgB t):=hf0 e;have e3:∀ a b c d:Pt,bp0 ((a.1,a.2),(b.1,b.2),(c.1,c.2),(d.1,d.2))=some (rp0 a b c d):=fun a b c d=>mc0 a b c d;have e4:∀ a b c:Pt,y4 ((a.1,a.2),(b.1,b.2),(c.1,c.2))=some (onP a b c):=fun a b c=>M0 a b c;have e5:∀ s:Sg,A4 (s.1,s.2)=some (bj0 s):=fun s=>ns0 s;have e6:w6 (s.1,s.2)=some (cO0 s):=nh0 hs;have e7:w6 (t.1,t.2)=some (cO0 t):=nh0 e;have e8:aa.wrap (t.2+1)=t.2+1:=w64 (by omega) (by omega);have e9:aa.wrap (s.2+1)=s.2+1:=w64 (by omega) (by omega);unfold J8 hM0;simp only[e1,e2,e3,e4,e5,e6,e7,e8,e9,b9,rJ0];generalize rp0 (sgA s) (sgB s) (sgA t) (sgB t)=c;generalize onP (sgA s) (sgB s) (fK0 m s.1.2.1)=o1;generalize onP (sgA t) (sgB t) (fK0 m s.1.2.1)=o2;generalize onP (sgA s) (sgB s) (fK0 m s.1.2.2.1)=o3;generalize onP (sgA t) (sgB t) (fK0 m s.1.2.2.1)=o4;generalize bj0 s=f1;generalize bj0 t=f2;generalize cO0 s=l1;generalize cO0 t=l2;generalize decide (s.1.2.1=t.1.2.1)=d1;generalize decide (s.1.2.1=t.1.2.2.1)=d2;generalize decide (s.1.2.2.1=t.1.2.1)=d3;generalize decide (s.1.2.2.1=t.1.2.2.1)=d4;generalize decide (c=1)=c1;generalize decide (c=0)=l;generalize decide (t.2+1=s.2)=g1;generalize decide (s.2+1=t.2)=g2;generalize decide (s.1.2.1=s.1.2.2.1)=g3;generalize decide (t.1.2.1=t.1.2.2.1)=g4;generalize decide (t.2<s.2)=g5;cases decide (s.1.1=t.1.1)
 ·cases c1
  ·rfl
  cases d1<;>cases d2<;>cases d3<;>cases d4<;>cases o1<;>cases o2<;>cases o3<;>cases o4<;>rfl
 cases g5
 ·cases g2<;>cases g3<;>cases f1<;>cases l2<;>rfl
 cases g1<;>cases g4<;>cases f2<;>cases l1<;>rfl
open Go.Proofs Go.Shelf Go.Sort
def pV0(a b:Int):Int:=if a<b then -1 else if b<a then 1 else 0
theorem cmp_eq(a b:Int):y0 (a,b)=some (pV0 a b):=by
 have h:∀ n,C2 n=some false:=fun n=>by unfold C2;simp
 unfold y0 pV0;simp only[h,b9,Aa];by_cases h1:a<b
 ·simp[h1]
 by_cases h2:b<a<;>simp[h1,h2]
theorem df0{a b:Int}:pV0 a b<0↔a<b:=by
 unfold pV0;by_cases h1:a<b
 ·simp[h1]
 by_cases h2:b<a<;>simp[h1,h2]
def qI0(s t:Sg):Int:=pV0 (sgW s) (sgW t)
theorem fT0(l:List Sg):Ordered qI0 l :=fh0 (fun x _=>by unfold qI0;rw[df0];omega) (fun x _ y _ z _ a b=>by unfold qI0 at *;rw[df0]at *;omega) (fun x _ y _ z _ a b=>by unfold qI0 at *;rw[df0]at *;omega)
theorem ne0{l:List Sg}(hs:∀ s∈l,pt0 s)(hl:l.length<4611686018427387904):slices_SortFunc_plan_segment_plan_planar_1 (l,2,())=some (Z0 qI0 l):=by unfold slices_SortFunc_plan_segment_plan_planar_1;simp only[Ai,Ac];refine kk0 (fun x a y b=>?_) (fT0 l) hl;unfold T4;have e1:B2 (x.1,x.2)=some (sgW x):=mQ0 (hs x a);have e2:B2 (y.1,y.2)=some (sgW y):=mQ0 (hs y b);simp only[e1,e2,b9,cmp_eq];rfl
def dm0(s:Sg)(n:Nd):Bool:=!(onP (sgA s) (sgB s) (n.2.1,n.2.2))||((bj0 s&&decide (s.1.2.1=n.1))||(cO0 s&&decide (s.1.2.2.1=n.1)))
def iU0(s:Sg)(m:List (Int×Pt)):List Sg->Bool
 | []=>true
 | t::r=>bif decide (sgE s<sgW t)then true else hM0 s t m&&iU0 s m r
def goB(ns:List Nd)(m:List (Int×Pt)):List Sg->Bool
 | []=>true
 | s::r=>iU0 s m r&&(ns.all (dm0 s)&&goB ns m r)
def cB0(ns:List Nd)(ars:List Ar):Bool:=match cF0 ns ars ars with
 | none=>false
 | some l=>goB ns (mkMap ns []) (Z0 qI0 l)
theorem qJ0(ns:List Nd)(r:ns.length<=1000000){s:Sg}(hs:pt0 s)(K:Option Bool) :
  rounds (α:=Int) (β:=Bool) (fun k x=>
   b8 (some (decide (x<(ns.length:Int)))) fun h=>
   bif h then (
    b8 (nth ns x) fun v35=>
    b8 (u5 (s.1,s.2)) fun d=>
    b8 (y4 ((d.1.1,d.1.2),(d.2.1,d.2.2),(v35.2.1,v35.2.2))) fun j=>
    bif j then (
    b8 (A4 (s.1,s.2)) fun e=>
    bif e then (
     b8 (some ()) fun v44=>
     b8 (some s.1) fun v44=>
     b8 (some (decide (v44.2.1=v35.1))) fun v51=>
     b8 (some (!(v51))) fun g=>
     bif g then (
     b8 (w6 (s.1,s.2)) fun v53=>
     bif v53 then (
      b8 (some ()) fun v54=>
      b8 (some s.1) fun v54=>
      b8 (some (decide (v54.2.2.1=v35.1))) fun m=>
      b8 (some (!(m))) fun n=>
      bif n then (
      some false)else (
      b8 (some (aa.wrap (x+(1:Int)))) fun v63=>
      k v63))else (
      some false))else (
     b8 (some (aa.wrap (x+(1:Int)))) fun v53=>
     k v53))else (
     b8 (w6 (s.1,s.2)) fun v44=>
     bif v44 then (
     b8 (some ()) fun v45=>
     b8 (some s.1) fun v45=>
     b8 (some (decide (v45.2.2.1=v35.1))) fun g=>
     b8 (some (!(g))) fun v53=>
     bif v53 then (
      some false)else (
      b8 (some (aa.wrap (x+(1:Int)))) fun v54=>
      k v54))else (
     some false)))else (
    b8 (some (aa.wrap (x+(1:Int)))) fun e=>
    k e))else K) (0:Int)=bif ns.all (dm0 s)then K else some false:=by
 have e1:u5 (s.1,s.2)=some (sgA s,sgB s):=hf0 hs;have e4:∀ a b c:Pt,y4 ((a.1,a.2),(b.1,b.2),(c.1,c.2))=some (onP a b c):=fun a b c=>M0 a b c;have e5:A4 (s.1,s.2)=some (bj0 s):=ns0 s;have e6:w6 (s.1,s.2)=some (cO0 s):=nh0 hs;refine(r9 (A:=Unit) ns (fun i _=>(i:Int)) (fun _ rest=>bif rest.all (dm0 s)then K else some false) (by omega) ?_ ?_ ()).trans rfl
 ·intro rec u;simp
 intro rec i u x rest hi p q;have e7:y4 (((sgA s).1,(sgA s).2),((sgB s).1,(sgB s).2),(x.2.1,x.2.2))=some (onP (sgA s) (sgB s) (x.2.1,x.2.2)):=e4 _ _ (x.2.1,x.2.2);simp only[A5 hi,Ac,l9 p,b9,w9 hi (show ns.length<2^62 by omega),e1,e5,e6,e7];rw[q (),bU];unfold dm0;generalize onP (sgA s) (sgB s) (x.2.1,x.2.2)=o;generalize bj0 s=f;generalize cO0 s=l;generalize decide (s.1.2.1=x.1)=d1;generalize decide (s.1.2.2.1=x.1)=d2;cases o<;>cases f<;>cases l<;>cases d1<;>cases d2<;>rfl
theorem rq0(a:Ar)(l:List Pt):(iq0 a l).length=l.length-1:=by simp[iq0]
theorem pz0(ns:List Nd){β:Type}(j:ns.length<=1000000)(K:Int×List (Int×Pt)->Option β) :
  rounds (α:=Int×List (Int×(Int×Int))) (β:=β) (fun f d=>
   b8 (some (decide (d.1<(ns.length:Int)))) fun v12=>
   bif v12 then (
   b8 (nth ns d.1) fun c=>
   b8 (some (V9 (fun (a b:Int)=>decide (a=b)) c.1 (c.2.1,c.2.2) d.2)) fun e=>
   b8 (some (aa.wrap (d.1+(1:Int)))) fun v17=>
   f (v17,e))else K d) ((0:Int),([]:List (Int×(Int×Int))))=K ((ns.length:Int),mkMap ns []):=by
 refine(r9 (A:=List (Int×Pt)) ns (fun i m=>((i:Int),m)) (fun m rest=>K ((ns.length:Int),mkMap rest m)) (by omega) ?_ ?_ []).trans rfl
 ·intro rec m
  simp[mkMap]
 intro rec i m x rest hi g h;simp only[A5 hi,Ac,l9 g,b9,w9 hi (show ns.length<2^62 by omega)];rw[h];rfl
theorem iG0(ns:List Nd)(ars:List Ar)(fs:List Int)(S:ns.length<=1000)(ha:ars.length<=1000)(hv:∀ a∈ars,a.2.2.2.1.length<=1000):az0 (ns,ars,fs)=some (cB0 ns ars):=by
 have f:∀ id,E9 ((ns,ars,fs),id)=some (match pathOf ns ars id with | some l=>(l,0) | none=>([],7)):=fun id=>fR0 ns ars fs id (by omega) (by omega) (fun a h=>by have:=hv a h;omega);have g:∀ id l,pathOf ns ars id=some l->2<=l.length/\l.length<=1002:=fun id l h=>by obtain⟨a,h1,h2⟩:=pp0 h;have:=hv a (lF0 h1);omega
 have n:=fun K=>pz0 ns (β:=Bool) (by omega) K;have alone:=fun (s:Sg) (hs:pt0 s) K=>qJ0 ns (by omega) hs K;have b:=fun (a:Ar) (l:List Pt) (acc:List Sg) (h1:l.length<=1000000) (h2:2<=l.length) (Q:acc.length<=300000000) K=>wG0 (β:=Bool) a l acc K false h1 h2 Q;simp only[b9]at n alone b;unfold az0 cB0;simp only[b9,f];refine(p8 (A:=List Sg) ars (fun i s=>(s,(i:Int))) (fun s rest=>some (match cF0 ns ars rest with | none=>false | some l=>goB ns (mkMap ns []) (Z0 qI0 (s++l)))) (fun i s=>s.length<=1002*i/\∀ x∈s,pt0 x) (by omega) ?_ ?_ [] ⟨by simp,by simp⟩).trans (by simp)
 ·intro rec s G
  simp only[A9,Aa,cF0,bw];refine(n _).trans ?_;obtain⟨H,e⟩:=G;have hlen:s.length<=1002000:=by have:1002*ars.length<=1002*1000:=gi _ ha;omega
  simp only[b9,ne0 e (by omega)];have c:=S5 (fT0 s);have k:∀ x∈Z0 qI0 s,pt0 x:=fun x m=>e x (c.mem_iff.1 m);have o:(Z0 qI0 s).length<=1002000:=by rw[c.length_eq];exact hlen
  generalize Z0 qI0 s=l at k o;refine(r9 (A:=Unit) l (fun i _=>(i:Int)) (fun _ rest=>some (goB ns (mkMap ns []) rest)) (by omega) ?_ ?_ ()).trans rfl
  ·intro rec u;simp[goB]
  intro rec i u x rest hi p D;have I:=N0 p;have m:=k x I.2.2;have d:l.drop (i+1)=rest:=by have:=Ap List.tail p;simpa using this
  have J:td0 l (some ((i+1:Nat):Int)) none=some rest:=by
   rw[rl0 (by omega) (by omega)];have:((i+1:Nat):Int).toNat=i+1:=by omega
   rw[this,d]
  simp only[A5 hi,Ac,l9 p,b9,w9 hi (show l.length<2^62 by omega),J];have q:∀ t∈rest,pt0 t:=fun t w=>k t (by rw[<- d]at w;exact bf w);have U:∀ v,rec v=rec v:=fun _=>rfl;refine(r9 (A:=Unit) rest (fun j _=>(j:Int)) (fun _ r=>bif iU0 x (mkMap ns []) r then (bif ns.all (dm0 x)then some (goB ns (mkMap ns []) rest)else some false)else some false) (by omega) ?_ ?_ ()).trans ?_
  ·intro z u
   simp only[A9,Aa,iU0,Ac];rw[alone x m,D ()]
  ·intro z j u t r hj B M
   have w:=q t (N0 B).2.2;have e1:B2 (t.1,t.2)=some (sgW t):=mQ0 w;have e2:F7 (x.1,x.2)=some (sgE x):=vb0 m;have e3:J8 ((x.1,x.2),(t.1,t.2),mkMap ns [])=some (hM0 x t (mkMap ns [])):=kl0 m w _;simp only[A5 hj,Ac,l9 B,b9,w9 hj (show rest.length<2^62 by omega),e1,e2,e3];rw[alone x m,D (),M ()];simp only[iU0];generalize decide (sgE x<sgW t)=p1;generalize hM0 x t (mkMap ns [])=p2;cases p1<;>cases p2<;>simp
  simp only[goB];generalize iU0 x (mkMap ns []) rest=p1;generalize ns.all (dm0 x)=p2;cases p1<;>cases p2<;>simp
 intro rec i s x rest hi G p D;obtain⟨H,e⟩:=G;have E:1002*i<=1002*1000:=gi _ (by omega);simp only[A5 hi,Ac,l9 p,b9,w9 hi (show ars.length<2^62 by omega),cF0];cases hp:pathOf ns ars x.1 with
 | none=>simp
 | some l=>
  obtain⟨N,o⟩:=g _ _ hp;have fin:rec (s++iq0 x l,((i+1:Nat):Int))=some (match cF0 ns ars rest with | none=>false | some R=>goB ns (mkMap ns []) (Z0 qI0 ((s++iq0 x l)++R))):=D _ ⟨by rw[aK,rq0];omega,fun y C=>by
   rcases aQ.1 C with C | C
   ·exact e y C
   exact tR0 (by omega) C⟩
  simp only[Ai,aA,Aa];have key:=b x l s (by omega) N (by omega) (fun s'=>rec (s'.1,((i+1:Nat):Int)));by_cases hc:x.2.1=x.2.2.1
  ·simp only[hc,Ai,Ac,dD]
   by_cases P:l.length<4
   ·have:decide ((l.length:Int)<4)=true:=by simp only[Ad];omega
    simp[this,P]
   have O:decide ((l.length:Int)<4)=false:=by simp only[An];omega
   simp only[O,Aa,P,Ag,cw];rw[hc]at key;refine key.trans ?_;cases ny0 l with
   | false=>simp
   | true=>simp only[Ac,aA,Aa,fin];cases cF0 ns ars rest<;>simp
  simp only[hc,Ag,Aa,iS,cw];refine key.trans ?_;cases ny0 l with
  | false=>simp
  | true=>simp only[Ac,aA,Aa,fin];cases cF0 ns ars rest<;>simp
end Go.Ab
namespace Go.Ab
open Go
def dK0(ns:List Nd)(ars:List Ar)(fs:List Int):Bool:=decide (ns.length<=256)&&(decide (ars.length<=256)&&(decide (fs.length<=64)&&ars.all fun a=>decide (a.2.2.2.1.length<=64)))
def M8(ns:List Nd)(ars:List Ar)(fs:List Int):Int :=bif !(dK0 ns ars fs)then 3 else bif !(gv0 (ns.map (·.1))&&(gv0 (ars.map (·.1))&&gv0 fs))then 10 else bif !((ns.map (·.1)).all hD0&&((ars.map (·.1)).all hD0&&(fs.all hD0&&((ns.all fun n=>dF0 (n.2.1,n.2.2))&&(ars.all fun a=>a.2.2.2.1.all dF0)))))then 2 else bif !decide (ag0 ns ars fs (ns.map (·.1))=0)then ag0 ns ars fs (ns.map (·.1))else bif !(cB0 ns ars)then 11 else 0
theorem cc0(ns:List Nd)(ars:List Ar)(fs:List Int):as0 (ns,ars,fs)=some (M8 ns ars fs):=by
 unfold as0 M8 dK0;simp only[b9];by_cases h1:ns.length<=256;rotate_left
 ·have:(256:Int)<(ns.length:Int):=by omega
  simp[h1,this]
 by_cases h2:ars.length<=256;rotate_left
 ·have b:¬ (256:Int)<(ns.length:Int):=by omega
  have:(256:Int)<(ars.length:Int):=by omega
  simp[h2,b,this]
 by_cases f:fs.length<=64;rotate_left
 ·have b:¬ (256:Int)<(ns.length:Int):=by omega
  have a2:¬ (256:Int)<(ars.length:Int):=by omega
  have:(64:Int)<(fs.length:Int):=by omega
  simp[f,b,a2,this]
 have b:decide ((256:Int)<(ns.length:Int))=false:=by simp only[An];omega
 have a2:decide ((256:Int)<(ars.length:Int))=false:=by simp only[An];omega
 have a3:decide ((64:Int)<(fs.length:Int))=false:=by simp only[An];omega
 simp only[b,a2,a3,Aa,h1,h2,f,Ai,dD];refine(p8 (A:=Unit) ars (fun i _=>(i:Int)) (fun _ rest=>some (bif !(rest.all fun a=>decide (a.2.2.2.1.length<=64))then 3 else bif !(gv0 (ns.map (·.1))&&(gv0 (ars.map (·.1))&&gv0 fs))then 10 else bif !((ns.map (·.1)).all hD0&&((ars.map (·.1)).all hD0&&(fs.all hD0&&((ns.all fun n=>dF0 (n.2.1,n.2.2))&&(ars.all fun a=>a.2.2.2.1.all dF0)))))then 2 else bif !decide (ag0 ns ars fs (ns.map (·.1))=0)then ag0 ns ars fs (ns.map (·.1))else bif !(cB0 ns ars)then 11 else 0)) (fun i _=>∀ a∈ars.take i,a.2.2.2.1.length<=64) (by omega) ?_ ?_ () (by simp)).trans rfl
 ·intro rec u d
  rw[gL]at d;have hv:∀ a∈ars,a.2.2.2.1.length<=900000:=fun a ha=>by have:=d a ha;omega
  simp only[A9,Aa,gg,aA,dV0 ns ars fs (by omega) (by omega),b9,V0 _ (show (ns.map (·.1)).length<2^62 by simp;omega),V0 _ (show (ars.map (·.1)).length<2^62 by simp;omega),
   V0 fs (by omega),Z2 _ (show (ns.map (·.1)).length<2^62 by simp;omega),Z2 _ (show (ars.map (·.1)).length<2^62 by simp;omega),Z2 fs (by omega),iE0 ns ars fs (by omega) (by omega) hv,
   fc0 ns ars fs (ns.map (·.1)) (by omega) (by omega) (by omega) (by simp;omega),iG0 ns ars fs (by omega) (by omega) (fun a ha=>by have:=d a ha;omega)]
  generalize gv0 (ns.map (·.1))=p1;generalize gv0 (ars.map (·.1))=p2;generalize gv0 fs=p3;generalize (ns.map (·.1)).all hD0=p4;generalize (ars.map (·.1)).all hD0=p5;generalize fs.all hD0=j;generalize ag0 ns ars fs (ns.map (·.1))=c;generalize cB0 ns ars=k;generalize ((ns.all fun n=>dF0 (n.2.1,n.2.2))&&(ars.all fun a=>a.2.2.2.1.all dF0))=l;cases p1
  ·rfl
  cases p2
  ·rfl
  cases p3
  ·rfl
  cases p4
  ·rfl
  cases p5
  ·rfl
  cases j
  ·rfl
  cases l
  ·rfl
  simp only[aA,Aa,eB];cases decide (c=0)
  ·rfl
  cases k<;>rfl
 intro rec i u x rest hi d g m;simp only[A5 hi,Ac,l9 g,b9,w9 hi (show ars.length<2^62 by omega),bU];by_cases h:x.2.2.2.1.length<=64
 ·have e:decide ((64:Int)<(x.2.2.2.1.length:Int))=false:=by simp only[An];omega
  simp only[e,Aa,h,Ai,dD];refine m () ?_;have:ars[i]?=some x:=by rw[<- C3];exact l9 g
  intro a ha;rw[gD,this]at ha;rcases aQ.1 ha with ha | ha
  ·exact d a ha
  simp at ha;subst ha;exact h
 have e:decide ((64:Int)<(x.2.2.2.1.length:Int))=true:=by simp only[Ad];omega
 simp[e,h]
def upV(u:Pt):Prop:=0<u.2\/u.2=0/\0<u.1
def cr(u v:Pt):Int:=u.1*v.2-u.2*v.1
theorem cr_id(u v w:Pt):v.2*cr u w=u.2*cr v w+w.2*cr u v:=by
 unfold cr;simp only[bz,<-bK];have a:v.2*u.1*w.2=w.2*u.1*v.2:=by rw[bG v.2,bG (w.2*u.1),bG w.2,<-bK,bG v.2]
 have a2:v.2*u.2*w.1=u.2*v.2*w.1:=by rw[bG v.2]
 have a3:w.2*u.2*v.1=u.2*v.1*w.2:=by rw[bG w.2,bK,bK,bG w.2]
 omega
theorem mB0(u v:Pt):cr v u=- cr u v:=by unfold cr;have a:v.1*u.2=u.2*v.1:=bG _ _;have a2:v.2*u.1=u.1*v.2:=bG _ _;omega
theorem wX0(u:Pt):cr u u=0:=by have:=mB0 u u;omega
theorem ov0{u v w:Pt}(hu:upV u)(hv:upV v)(hw:upV w)(h1:0<cr u v)(h2:0<cr v w):0<cr u w:=by
 have hid:=cr_id u v w;have b:0<=u.2:=by unfold upV at hu;omega
 have c:0<=w.2:=by unfold upV at hw;omega
 rcases hv with hv | ⟨hv,d⟩
 ·by_cases e:0<u.2
  ·have p1:=ch e h2
   have p2:=aF c (db h1);exact bQ (a:=v.2) (by omega) hv |> fun h=>h
  by_cases f:0<w.2
  ·have p1:=aF b (db h2)
   have p2:=ch f h1;exact bQ (a:=v.2) (by omega) hv |> fun h=>h
  exfalso;have e1:w.2=0:=by omega
  have e2:0<w.1:=by unfold upV at hw;omega
  have:cr v w=- (v.2*w.1):=by unfold cr;rw[e1];omega
  have:=ch hv e2;omega
 exfalso;have:cr u v=- (u.2*v.1):=by unfold cr;rw[hv];omega
 have:=aF b (db d);omega
theorem lS0{u v w:Pt}(hu:upV u)(hv:upV v)(hw:upV w)(h1:cr u v<=0)(h2:cr v w<=0):cr u w<=0:=by
 have hid:=cr_id u v w;have a:0<=u.2:=by unfold upV at hu;omega
 have b:0<=w.2:=by unfold upV at hw;omega
 rcases hv with hv | ⟨hv,c⟩
 ·have p1:=aF a (show 0<=- cr v w by omega)
  have p2:=aF b (show 0<=- cr u v by omega);rw[da]at p1 p2;by_cases h:cr u w<=0
  ·exact h
  have:=ch hv (show 0<cr u w by omega);omega
 have e1:cr v w=v.1*w.2:=by unfold cr;rw[hv];omega
 have e2:w.2=0:=by
  by_cases h:0<w.2
  ·have:=ch c h;omega
  omega
 have:cr u w=- (u.2*w.1):=by unfold cr;rw[e2];omega
 have e3:0<w.1:=by unfold upV at hw;omega
 have:=aF a (db e3);omega
def vec(o p:Pt):Pt:=(p.1-o.1,p.2-o.2)
def ngV(u:Pt):Pt:=(-u.1,-u.2)
theorem bJ0(o p:Pt)(h:p≠o):Q1 o p=false↔upV (vec o p):=by unfold Q1 upV vec;have:¬ (p.1=o.1/\p.2=o.2):=fun e=>h (fD e.1 e.2);simp only[dJ,eH,An];omega
theorem aq0(o p:Pt)(h:p≠o):Q1 o p=true↔upV (ngV (vec o p)):=by unfold Q1 upV vec ngV;have:¬ (p.1=o.1/\p.2=o.2):=fun e=>h (fD e.1 e.2);simp only[Bool.or_eq_true,ab,Ad];omega
theorem cr_ng(u v:Pt):cr (ngV u) (ngV v)=cr u v:=by unfold cr ngV;simp only[Int.neg_mul_neg]
def qy0(o p:Pt):Prop:=B7 p=true/\p≠o
theorem dR0{o a b:Pt}(d:B7 o=true)(ha:qy0 o a)(c:qy0 o b):bv0 o a b=if Q1 o a=Q1 o b then decide (0<cr (vec o a) (vec o b))else Q1 o b:=by
 unfold bv0;have e1:eqP a o=false:=by
  cases h:eqP a o with
  | false=>rfl
  | true=>exact Am ((mh0 a o).1 h) ha.2
 have e2:eqP b o=false:=by
  cases h:eqP b o with
  | false=>rfl
  | true=>exact Am ((mh0 b o).1 h) c.2
 simp only[d,ha.1,c.1,e1,e2,eB,aY,dD];rfl
theorem mA0{o a:Pt}(b:B7 o=true)(ha:qy0 o a):bv0 o a a=false:=by rw[dR0 b ha ha,Af rfl];simp[wX0]
theorem pq0{o a b c:Pt}(h:B7 o=true)(ha:qy0 o a)(g:qy0 o b)(hc:qy0 o c)(h1:bv0 o a b=true)(h2:bv0 o b c=true):bv0 o a c=true:=by
 rw[dR0 h ha g]at h1;rw[dR0 h g hc]at h2;rw[dR0 h ha hc];cases d:Q1 o a<;>cases e:Q1 o b<;>cases f:Q1 o c<;>simp only[d,e,f,Al,Ah,aq,jl]at h1 h2 ⊢
 ·exact Ao (ov0 ((bJ0 o a ha.2).1 d) ((bJ0 o b g.2).1 e) ((bJ0 o c hc.2).1 f) (Aj h1) (Aj h2))
 refine Ao ?_;have g1:=Aj h1;have g2:=Aj h2;rw[<- cr_ng]at g1 g2 ⊢;exact ov0 ((aq0 o a ha.2).1 d) ((aq0 o b g.2).1 e) ((aq0 o c hc.2).1 f) g1 g2
theorem na0{o a b c:Pt}(i:B7 o=true)(ha:qy0 o a)(g:qy0 o b)(hc:qy0 o c)(h1:bv0 o a b=false)(h2:bv0 o b c=false):bv0 o a c=false:=by
 rw[dR0 i ha g]at h1;rw[dR0 i g hc]at h2;rw[dR0 i ha hc];cases d:Q1 o a<;>cases e:Q1 o b<;>cases f:Q1 o c<;>simp only[d,e,f,Al,Ah,aq,jl]at h1 h2 ⊢
 ·refine Ak (fun h=>?_)
  have g1:=of_decide_eq_false h1;have g2:=of_decide_eq_false h2;have:=lS0 ((bJ0 o a ha.2).1 d) ((bJ0 o b g.2).1 e) ((bJ0 o c hc.2).1 f) (by omega) (by omega);omega
 refine Ak (fun h=>?_);have g1:=of_decide_eq_false h1;have g2:=of_decide_eq_false h2;rw[<- cr_ng]at g1 g2 h;have:=lS0 ((aq0 o a ha.2).1 d) ((aq0 o b g.2).1 e) ((aq0 o c hc.2).1 f) (by omega) (by omega);omega
open Go.Proofs Go.Shelf Go.Sort
structure cw0(ns:List Nd)(ars:List Ar)(fs:List Int):Prop where
 sml:dK0 ns ars fs=true
 ascN:gv0 (ns.map (·.1))=true
 ascA:gv0 (ars.map (·.1))=true
 ascF:gv0 fs=true
 numN:(ns.map (·.1)).all hD0=true
 numA:(ars.map (·.1)).all hD0=true
 numF:fs.all hD0=true
 posN:(ns.all fun n=>dF0 (n.2.1,n.2.2))=true
 posA:(ars.all fun a=>a.2.2.2.1.all dF0)=true
 conn:ag0 ns ars fs (ns.map (·.1))=0
 plan:cB0 ns ars=true
theorem aI0{ns:List Nd}{ars:List Ar}{fs:List Int}:M8 ns ars fs=0↔cw0 ns ars fs:=by
 constructor
 ·intro h
  unfold M8 at h;cases h1:dK0 ns ars fs with
  | false=>rw[h1]at h;simp at h
  | true=>
   rw[h1]at h;simp only[aA,Aa]at h;cases h2:(gv0 (ns.map (·.1))&&(gv0 (ars.map (·.1))&&gv0 fs))with
   | false=>rw[h2]at h;simp at h
   | true=>
    rw[h2]at h;simp only[aA,Aa]at h;cases b:((ns.map (·.1)).all hD0&&((ars.map (·.1)).all hD0&&(fs.all hD0&&((ns.all fun n=>dF0 (n.2.1,n.2.2))&&(ars.all fun a=>a.2.2.2.1.all dF0)))))with
    | false=>rw[b]at h;simp at h
    | true=>
     rw[b]at h;simp only[aA,Aa]at h;by_cases c:ag0 ns ars fs (ns.map (·.1))=0
     ·simp only[c,Ai,aA,Aa]at h
      cases d:cB0 ns ars with
      | false=>rw[d]at h;simp at h
      | true=>simp only[ab]at h2 b;exact⟨h1,h2.1,h2.2.1,h2.2.2,b.1,b.2.1,b.2.2.1,b.2.2.2.1,b.2.2.2.2,c,d⟩
     simp only[c,Ag,aY,Ac]at h
 intro h;unfold M8;simp[h.sml,h.ascN,h.ascA,h.ascF,h.numN,h.numA,h.numF,h.posN,h.posA,h.conn,h.plan]
theorem I2:∀ {l:List Int},gv0 l=true->l.Pairwise (·<·)
 | [],_=>gh
 | [a],_=>by simp
 | a::b::l,h=>by
  simp only[gv0,ab,Ad]at h;have d:=I2 h.2;refine kJ (fun x c=>?_) d;rcases aC.1 c with rfl | c
  ·exact h.1
  have:=(bj.1 d).1 x c;omega
theorem bU0{α:Type}{f:α->Int}:∀ {l:List α},(l.map f).Pairwise (·<·)->∀ x∈l,l.find? (fun y=>decide (f y=f x))=some x
 | [],_,x,a=>by simp at a
 | y::l,h,x,a=>by
  simp only[az,bj]at h;rw[dP];rcases aC.1 a with rfl | a
  ·simp
  have h1:=h.1 (f x) (a_ a);have:¬ f y=f x:=by omega
  simp only[this,Ag];exact bU0 h.2 x a
theorem iY0{ns:List Nd}{ars:List Ar}:∀ {l:List Ar} {r:List Sg},cF0 ns ars l=some r->∀ a∈l,∃ p,pathOf ns ars a.1=some p/\ny0 p=true/\(a.2.1=a.2.2.1->4<=p.length)
 | [],r,h,a,ha=>by simp at ha
 | b::l,r,h,a,ha=>by
  unfold cF0 at h;split at h
  ·cases h
  rename_i p hp;cases hc:((decide (b.2.1=b.2.2.1)&&decide (p.length<4))||!(ny0 p))with
  | true=>rw[hc]at h;cases h
  | false=>
   rw[hc]at h;simp only[Aa]at h;split at h
   ·rename_i d c
    rcases aC.1 ha with rfl | ha
    ·simp only[dJ,eH,An,Bool.not_eq_false']at hc
     refine⟨p,hp,hc.2,fun e=>?_⟩;rcases hc.1 with h1 | h1
     ·exact Am e h1
     omega
    exact iY0 c a ha
   cases h
theorem nc0:∀ {l:List Pt} {i:Nat} {p q:Pt},ny0 l=true->l[i]?=some p->l[i+1]?=some q->p≠q
 | [],i,p,q,_,h,_=>by simp at h
 | [a],0,p,q,_,_,h=>by simp at h
 | [a],i+1,p,q,_,h,_=>by simp at h
 | a::b::l,0,p,q,h,h1,h2=>by simp only[ny0,ab,Bool.not_eq_true']at h;simp at h1 h2;subst h1;subst h2;intro e;rw[(mh0 a b).2 e]at h;cases h.1
 | a::b::l,i+1,p,q,h,h1,h2=>by simp only[ny0,ab]at h;exact nc0 h.2 (by simpa using h1) (by simpa using h2)
namespace cw0
variable {ns:List Nd} {ars:List Ar} {fs:List Int} (h:cw0 ns ars fs)
include h
theorem lenN:ns.length<=256:=by have:=h.sml;simp only[dK0,ab,Ad]at this;exact this.1
theorem lenA:ars.length<=256:=by have:=h.sml;simp only[dK0,ab,Ad]at this;exact this.2.1
theorem lenF:fs.length<=64:=by have:=h.sml;simp only[dK0,ab,Ad]at this;exact this.2.2.1
theorem lenV{a:Ar}(ha:a∈ars):a.2.2.2.1.length<=64:=by have:=h.sml;simp only[dK0,ab,Ad,aj]at this;exact this.2.2.2 a ha
theorem arcOf_self{a:Ar}(ha:a∈ars):ct0 ars a.1=some a:=bU0 (f:=fun a:Ar=>a.1) (I2 h.ascA) a ha
theorem nodeOf_self{n:Nd}(a:n∈ns):O7 ns n.1=some n:=bU0 (f:=fun n:Nd=>n.1) (I2 h.ascN) n a
theorem num{a:Ar}(ha:a∈ars):1<=a.1/\a.1<=1073741824:=by have:=aj.1 h.numA a.1 (a_ ha);simpa[hD0]using this
theorem segs:∃ r,cF0 ns ars ars=some r:=by
 have:=h.plan;unfold cB0 at this;split at this
 ·cases this
 rename_i r a;exact⟨r,a⟩
theorem path{a:Ar}(ha:a∈ars):∃ f t,O7 ns a.2.1=some f/\O7 ns a.2.2.1=some t/\pathOf ns ars a.1=some ((f.2.1,f.2.2)::(a.2.2.2.1++[(t.2.1,t.2.2)]))/\ny0 ((f.2.1,f.2.2)::(a.2.2.2.1++[(t.2.1,t.2.2)]))=true/\(a.2.1=a.2.2.1->2<=a.2.2.2.1.length):=by
 obtain⟨r,c⟩:=h.segs;obtain⟨p,h1,h2,d⟩:=iY0 c a ha;have b:=h1;unfold pathOf at h1;rw[h.arcOf_self ha]at h1;simp only at h1;split at h1
 ·rename_i f t hf g
  cases h1;refine⟨f,t,hf,g,b,h2,fun e=>?_⟩;have:=d e;simp at this;omega
 cases h1
theorem nodePos{n:Nd}(a:n∈ns):dF0 (n.2.1,n.2.2)=true:=aj.1 h.posN n a
theorem pathNear{a:Ar}(ha:a∈ars){l:List Pt}(hl:pathOf ns ars a.1=some l):∀ p∈l,dF0 p=true:=by
 obtain⟨f,t,h1,h2,b,_⟩:=h.path ha;rw[hl]at b;cases b;intro p hp;rcases aC.1 hp with rfl | hp
 ·exact h.nodePos (bh h1)
 rcases aQ.1 hp with hp | hp
 ·exact aj.1 (aj.1 h.posA a ha) p hp
 simp at hp;subst hp;exact h.nodePos (bh h2)
theorem Path_eq(id:Int):E9 ((ns,ars,fs),id)=some (match pathOf ns ars id with | some l=>(l,0) | none=>([],7)) :=fR0 ns ars fs id (by have:=h.lenN;omega) (by have:=h.lenA;omega) (fun a ha=>by have:=h.lenV ha;omega)
theorem Node_eq(id:Int):N7 ((ns,ars,fs),id)=some (match O7 ns id with | some n=>(n,true) | none=>((0,0,0),false)) :=cZ0 ns ars fs id (by have:=h.lenN;omega)
theorem Arc_eq(id:Int):al0 ((ns,ars,fs),id)=some (match ct0 ars id with | some a=>(a,true) | none=>((0,0,0,[],0,0),false)) :=hC0 ns ars fs id (by have:=h.lenA;omega) (fun a ha=>by have:=h.lenV ha;omega)
end cw0
def ip0(ns:List Nd)(ars:List Ar)(node:Int)(a:Ar):List (Int×Pt):=match pathOf ns ars a.1 with
 | none=>[]
 | some l=>(if a.2.1=node then [(a.1,(l[1]?).getD (0,0))]else [])++(if a.2.2.1=node then [(-a.1,(l[l.length-2]?).getD (0,0))]else [])
def P8(ns:List Nd)(ars:List Ar)(node:Int)(l:List Ar):List (Int×Pt):=l.flatMap (ip0 ns ars node)
def Nk0(o:Pt)(m:List (Int×Pt))(d e:Int):Int:=if bv0 o (fK0 m d) (fK0 m e)then -1 else if bv0 o (fK0 m e) (fK0 m d)then 1 else 0
theorem vS0(n:Nd)(m:List (Int×Pt))(d e:Int):I4 (d,e,n,m)=some (Nk0 (n.2.1,n.2.2) m d e):=by
 have h1:∀ o a b:Pt,X6 ((o.1,o.2),(a.1,a.2),(b.1,b.2))=some (bv0 o a b):=fun o a b=>lT0 o a b;have h2:∀ a b:Pt,X6 ((n.2.1,n.2.2),(a.1,a.2),(b.1,b.2))=some (bv0 (n.2.1,n.2.2) a b):=fun a b=>h1 (n.2.1,n.2.2) a b;unfold I4 Nk0;simp only[rJ0,b9,h2];cases bv0 (n.2.1,n.2.2) (fK0 m d) (fK0 m e)
 ·cases bv0 (n.2.1,n.2.2) (fK0 m e) (fK0 m d)<;>simp
 simp
def bM0(m:List (Int×Pt))(l:List (Int×Pt)):List (Int×Pt):=l.foldl (fun m p=>V9 (fun (a b:Int)=>decide (a=b)) p.1 p.2 m) m
theorem iP0(k:Int):∀ (l:List (Int×Pt)) (m:List (Int×Pt)),(∀ p∈l,p.1≠k)->lkp qI k (bM0 m l)=lkp qI k m
 | [],m,_=>rfl
 | p::l,m,h=>by have:=iP0 k l (V9 qI p.1 p.2 m) (fun q a=>h q (by simp[a]));show lkp qI k (bM0 (V9 qI p.1 p.2 m) l)=_;rw[this,ba0,Ae (fun e=>h p (by simp) e.symm)]
theorem dD0:∀ (l:List (Int×Pt)) (m:List (Int×Pt)),(l.map (·.1)).Nodup->∀ p∈l,lkp qI p.1 (bM0 m l)=some p.2
 | [],m,_,p,hp=>by simp at hp
 | q::l,m,a,p,hp=>by
  simp only[az,df]at a;show lkp qI p.1 (bM0 (V9 qI q.1 q.2 m) l)=_;rcases aC.1 hp with rfl | hp
  ·rw[iP0 p.1 l _ (fun x b e=>a.1 (by rw[<- e];exact a_ b)),ba0,Af rfl]
  exact dD0 l _ a.2 p hp
theorem neg64{n:Int}(h:1<=n/\n<=1073741824):aa.wrap (0-n)=-n:=by rw[w64 (by omega) (by omega)];omega
namespace cw0
variable {ns:List Nd} {ars:List Ar} {fs:List Int} (h:cw0 ns ars fs)
include h
theorem raw_nodup(node:Int):∀ {l:List Ar},(∀ a∈l,a∈ars)->(l.map (·.1)).Pairwise (·<·)->((P8 ns ars node l).map (·.1)).Nodup
 | [],_,_=>by simp[P8]
 | a::l,hm,hp=>by
  have k:=raw_nodup node (l:=l) (fun x d=>hm x (by simp[d])) (by simp only[az,bj]at hp;exact hp.2);have ha:=h.num (hm a (by simp));have key:∀ (b:Ar),b∈ars->∀ p∈ip0 ns ars node b,p.1=b.1\/p.1=-b.1:=fun b f p hp=>by
   unfold ip0 at hp;split at hp
   ·simp at hp
   rcases aQ.1 hp with hp | hp
   ·split at hp<;>simp at hp
    exact .inl (by rw[hp])
   split at hp<;>simp at hp;exact .inr (by rw[hp])
  have e:P8 ns ars node (a::l)=ip0 ns ars node a++P8 ns ars node l:=rfl;rw[e,dL,List.nodup_append];refine⟨?_,k,?_⟩
  ·unfold ip0
   split
   ·simp
   by_cases h1:a.2.1=node<;>by_cases h2:a.2.2.1=node<;>simp[h1,h2];omega
  intro x d y m n;obtain⟨p,g,rfl⟩:=aM.1 d;obtain⟨q,i,rfl⟩:=aM.1 m;obtain⟨b,f,j⟩:=cJ.1 i;have c:=hm b (by simp[f]);have o:=h.num c;simp only[az,bj]at hp;have r:=hp.1 b.1 (a_ f);rcases key a (hm a (by simp)) p g with e1 | e1<;>rcases key b c q j with e2 | e2<;>omega
theorem raw_mem{node:Int}{l:List Ar}(hm:∀ a∈l,a∈ars){p:Int×Pt}(hp:p∈P8 ns ars node l):∃ a∈l,∃ q,pathOf ns ars a.1=some q/\((a.2.1=node/\p=(a.1,(q[1]?).getD (0,0)))\/(a.2.2.1=node/\p=(-a.1,(q[q.length-2]?).getD (0,0)))):=by
 obtain⟨a,ha,hp⟩:=cJ.1 hp;unfold ip0 at hp;split at hp
 ·simp at hp
 rename_i q b;refine⟨a,ha,q,b,?_⟩;rcases aQ.1 hp with hp | hp
 ·split at hp<;>simp at hp
  exact .inl ⟨by assumption,hp⟩
 split at hp<;>simp at hp;exact .inr ⟨by assumption,hp⟩
theorem raw_dir{n:Nd}(d:O7 ns n.1=some n){l:List Ar}(hm:∀ a∈l,a∈ars){p:Int×Pt}(hp:p∈P8 ns ars n.1 l):qy0 (n.2.1,n.2.2) p.2:=by
 obtain⟨a,ha,q,g,hc⟩:=h.raw_mem hm hp;obtain⟨f,t,h1,h2,i,j,_⟩:=h.path (hm a ha);have b:=h.pathNear (hm a ha) g;rw[g]at i;cases i;rcases hc with ⟨e,rfl⟩ | ⟨e,rfl⟩
 ·rw[e,d]at h1
  cases h1;have e1:((n.2.1,n.2.2)::(a.2.2.2.1++[(t.2.1,t.2.2)]))[0]?=some (n.2.1,n.2.2):=rfl;obtain⟨x,c⟩:∃ x,((n.2.1,n.2.2)::(a.2.2.2.1++[(t.2.1,t.2.2)]))[1]?=some x:=⟨_,ai (by simp)⟩;refine⟨?_,?_⟩
  ·show B7 (gM _ _)=true
   rw[c];exact cA0 (b x (aN c))
  show gM _ _≠_;rw[c];exact fun e=>nc0 j e1 c e.symm
 rw[e,d]at h2;cases h2;generalize k:(f.2.1,f.2.2)::(a.2.2.2.1++[(n.2.1,n.2.2)])=L at *;have hlen:L.length=a.2.2.2.1.length+2:=by rw[<- k];simp
 have e1:L[L.length-2+1]?=some (n.2.1,n.2.2):=by
  have:L.length-2+1=a.2.2.2.1.length+1:=by omega
  rw[this,<-k];simp
 obtain⟨x,c⟩:∃ x,L[L.length-2]?=some x:=⟨_,ai (by omega)⟩;refine⟨?_,?_⟩
 ·show B7 (gM _ _)=true
  rw[c];exact cA0 (b x (aN c))
 show gM _ _≠_;rw[c];exact nc0 j c e1
omit h in
theorem nq0(node:Int):∀ (l:List Ar),(P8 ns ars node l).length<=2*l.length
 | []=>by simp[P8]
 | a::l=>by
  have b:=nq0 node l;have e:P8 ns ars node (a::l)=ip0 ns ars node a++P8 ns ars node l:=rfl;have:(ip0 ns ars node a).length<=2:=by
   unfold ip0;split
   ·simp
   by_cases h1:a.2.1=node<;>by_cases h2:a.2.2.1=node<;>simp[h1,h2]
  rw[e,aK,ay];omega
theorem cmpA_ordered{n:Nd}(q:O7 ns n.1=some n)(i:n∈ns):Ordered (Nk0 (n.2.1,n.2.2) (bM0 [] (P8 ns ars n.1 ars))) ((P8 ns ars n.1 ars).map (·.1)):=by
 have j:=h.raw_nodup n.1 (l:=ars) (fun _ ha=>ha) (I2 h.ascA);have c:∀ d∈(P8 ns ars n.1 ars).map (·.1),qy0 (n.2.1,n.2.2) (fK0 (bM0 [] (P8 ns ars n.1 ars)) d):=fun d r=>by obtain⟨p,hp,rfl⟩:=aM.1 r;unfold fK0;rw[dD0 _ [] j p hp];exact h.raw_dir q (fun _ ha=>ha) hp
 have k:B7 (n.2.1,n.2.2)=true:=cA0 (h.nodePos i);generalize bM0 [] (P8 ns ars n.1 ars)=m at c;have f:∀ d e,Nk0 (n.2.1,n.2.2) m d e<0↔bv0 (n.2.1,n.2.2) (fK0 m d) (fK0 m e)=true:=fun d e=>by
  unfold Nk0;cases bv0 (n.2.1,n.2.2) (fK0 m d) (fK0 m e)
  ·cases bv0 (n.2.1,n.2.2) (fK0 m e) (fK0 m d)<;>simp
  simp
 refine fh0 (fun x g=>?_) (fun x g y o z hz a b=>?_) (fun x g y o z hz a b=>?_)
 ·rw[f,mA0 k (c x g)];simp
 ·rw[f]at a b ⊢
  exact pq0 k (c x g) (c y o) (c z hz) a b
 rw[f,Bool.not_eq_true]at a b ⊢;exact na0 k (c x g) (c y o) (c z hz) a b
def G5(ns:List Nd)(ars:List Ar)(n:Nd):List Int:=Z0 (Nk0 (n.2.1,n.2.2) (bM0 [] (P8 ns ars n.1 ars))) ((P8 ns ars n.1 ars).map (·.1))
theorem Around_eq(node:Int):U9 ((ns,ars,fs),node)=some (match O7 ns node with | some n=>G5 ns ars n | none=>[]):=by
 have hlen:=h.lenA;unfold U9;simp only[h.Node_eq,b9];cases o:O7 ns node with
 | none=>simp
 | some n=>
  have c:n.1=node:=by have:=eZ o;simpa using this
  subst c;have q:n∈ns:=bh o;simp only[aA,Aa,h.Path_eq,b9];refine(p8 (A:=List Int×List (Int×Pt)) ars (fun i a=>((i:Int),a.1,a.2)) (fun a rest=>du0 (fun d e=>I4 (d,e,n,bM0 a.2 (P8 ns ars n.1 rest))) (a.1++(P8 ns ars n.1 rest).map (·.1))) (fun i a=>a.1.length<=2*i) (by omega) ?_ ?_ ([],[]) (by simp)).trans ?_
  ·intro rec a z
   simp only[A9,Aa];unfold slices_SortFunc_int_walk_Around_2;simp only[Ai,Ac];have e:P8 ns ars n.1 []=[]:=rfl;rw[e];simp only[cB,bw];show b8 (du0 _ a.1) _=du0 _ a.1;have e2:bM0 a.2 []=a.2:=rfl;rw[e2];cases du0 (fun d e=>I4 (d,e,n,a.2)) a.1<;>rfl
  ·intro rec i a x rest hi z r m
   have s:=(N0 r).2.2;obtain⟨f,t,h1,h2,u,B,I⟩:=h.path s;have g:=h.num s;have C:P8 ns ars n.1 (x::rest)=ip0 ns ars n.1 x++P8 ns ars n.1 rest:=rfl;have D:=(N0 r).1;generalize E:(f.2.1,f.2.2)::(x.2.2.2.1++[(t.2.1,t.2.2)])=L at u B;have G:L.length=x.2.2.2.1.length+2:=by rw[<- E];simp
   have hv:=h.lenV s;obtain⟨p1,j⟩:∃ p,L[1]?=some p:=⟨_,ai (by omega)⟩;obtain⟨p2,k⟩:∃ p,L[L.length-2]?=some p:=⟨_,ai (by omega)⟩;have v:nth L (1:Int)=some p1:=by have:=C3 L 1;rw[j]at this;exact this
   have H:aa.wrap ((L.length:Int)-2)=((L.length-2:Nat):Int):=by rw[w64 (by omega) (by omega)];omega
   have w:nth L ((L.length-2:Nat):Int)=some p2:=by rw[C3];exact k
   simp only[A5 hi,Ac,l9 r,b9,w9 hi (show ars.length<2^62 by omega),u,Ai,aA,Aa,v,H,w,neg64 g];have l:ip0 ns ars n.1 x=(if x.2.1=n.1 then [(x.1,p1)]else [])++(if x.2.2.1=n.1 then [(-x.1,p2)]else []):=by unfold ip0;rw[u];simp only[j,k,bS]
   rw[C,l];by_cases c1:x.2.1=n.1<;>by_cases c2:x.2.2.1=n.1
   ·simp only[c1,c2,Ai,aA,Aa,Ac,Al]
    rw[C7 (by omega) (by simp;omega)];simp only[b9];rw[C7 (by omega) (by simp;omega)];simp only[b9];have:=m (a.1++[x.1]++[-x.1],V9 (fun (a b:Int)=>decide (a=b)) (-x.1) p2 (V9 (fun (a b:Int)=>decide (a=b)) x.1 p1 a.2)) (by simp;omega);refine this.trans ?_;simp[bM0]
   ·simp only[c1,c2,Ai,Ag,aA,aY,Aa,Ac,Al,Ah]
    rw[C7 (by omega) (by simp;omega)];simp only[b9];have:=m (a.1++[x.1],V9 (fun (a b:Int)=>decide (a=b)) x.1 p1 a.2) (by simp;omega);refine this.trans ?_;simp[bM0]
   ·simp only[c1,c2,Ai,Ag,aA,aY,Aa,Ac,Al,Ah]
    rw[C7 (by omega) (by simp;omega)];simp only[b9];have:=m (a.1++[-x.1],V9 (fun (a b:Int)=>decide (a=b)) (-x.1) p2 a.2) (by simp;omega);refine this.trans ?_;simp[bM0]
   simp only[c1,c2,Ag,aY,Aa,Ac,Ah];have:=m a (by omega);refine this.trans ?_;simp
  simp only[aT];have hl:=nq0 (ns:=ns) (ars:=ars) n.1 ars;exact kk0 (fun x _ y _=>vS0 n _ x y) (h.cmpA_ordered o q) (by simp;omega)
end cw0
def gi0(l:List Int)(d:Int):Int:=if d∈l then (l[(l.idxOf d+l.length-1)%l.length]?).getD 0 else 0
theorem wt0(l:List Int)(d:Int)(hl:l.length<=1000000):M6 (l,d)=some (gi0 l d):=by
 unfold M6 gi0;simp only[aT0 l d (by omega),b9];by_cases a:d∈l
 ·have hi:l.idxOf d<l.length:=ir.2 a
  have e0:decide (((l.idxOf d:Nat):Int)<0)=false:=by simp only[An];omega
  have e1:aa.wrap (((l.idxOf d:Nat):Int)+(l.length:Int))=((l.idxOf d+l.length:Nat):Int):=by rw[w64 (by omega) (by omega)];omega
  have e2:aa.wrap (((l.idxOf d+l.length:Nat):Int)-1)=((l.idxOf d+l.length-1:Nat):Int):=by rw[w64 (by omega) (by omega)];omega
  have e3:decide ((l.length:Int)=0)=false:=by simp only[An];omega
  have e4:Int.tmod ((l.idxOf d+l.length-1:Nat):Int) (l.length:Int)=(((l.idxOf d+l.length-1)%l.length:Nat):Int):=by simp[eQ]
  have hm:(l.idxOf d+l.length-1)%l.length<l.length:=gp _ (by omega);simp only[a,Al,e0,Aa,e1,e2,e3,e4,C3,b9];rw[ai hm];rfl
 simp[a]
theorem qu0{l:List Int}{d:Int}(h:d∈l):gi0 l d∈l:=by unfold gi0;have hi:l.idxOf d<l.length:=ir.2 h;have hm:(l.idxOf d+l.length-1)%l.length<l.length:=gp _ (by omega);rw[Af h,ai hm];exact aw _
def ad0(S:List Int):List (Int×Bool):=S.map fun d=>(d,true)
theorem nT0(d:Int):∀ S:List Int,lkp qI d (ad0 S)=if d∈S then some true else none
 | []=>rfl
 | x::S=>by have a:=nT0 d S;show (bif qI d x then some true else lkp qI d (ad0 S))=_;rw[a,oY0];by_cases h:d=x<;>simp[h]
theorem jZ0(d:Int):∀ S:List Int,d∉S->V9 qI d true (ad0 S)=ad0 (S++[d])
 | [],_=>rfl
 | x::S,h=>by simp only[aC,not_or]at h;have a:=jZ0 d S h.2;show (bif qI d x then (d,true)::ad0 S else (x,true)::V9 qI d true (ad0 S))=_;rw[a,oY0];simp[h.1,ad0]
theorem eR0(d:Int)(S:List Int):orO (lkp (fun (a b:Int)=>decide (a=b)) d (ad0 S)) (some false)=some (decide (d∈S)):=by show orO (lkp qI d (ad0 S)) _=_;rw[nT0];by_cases h:d∈S<;>simp[h,orO]
def O9(nx:Int->Int):Nat->List Int->Int->List Int->List Int×List Int
 | 0,S,_,c=>(c,S)
 | n+1,S,d,c=>if d∈S then (c,S)else O9 nx n (S++[d]) (nx d) (c++[d])
def S6(D S:List Int):Nat:=(D.filter fun d=>!decide (d∈S)).length
theorem lE0{D S:List Int}{d:Int}(e:d∈D)(hs:d∉S):S6 D (S++[d])<S6 D S:=by
 unfold S6
 induction D with
 | nil=>simp at e
 | cons x D b=>
  have mono:∀ D:List Int,(D.filter fun y=>!decide (y∈S++[d])).length<=(D.filter fun y=>!decide (y∈S)).length:=fun D=>by
   induction D with
   | nil=>simp
   | cons y D b=>
    simp only[cA];by_cases h1:y∈S
    ·have:y∈S++[d]:=by simp[h1]
     simp only[h1,this,Ai,aA,aq,Ah];exact b
    by_cases h2:y∈S++[d]
    ·simp only[h1,h2,Ai,Ag,aA,aY,aq,Ah,Al,ay];omega
    simp only[h1,h2,Ag,aY,Al,ay];omega
  simp only[cA];have hm:=mono D;by_cases a:x=d
  ·subst a
   have:x∈S++[x]:=by simp
   simp only[this,hs,Ai,Ag,aA,aY,aq,Ah,Al,ay];omega
  have c:=b (by rcases aC.1 e with h | h;exact Am h.symm a;exact h);by_cases h1:x∈S
  ·have:x∈S++[d]:=by simp[h1]
   simp only[h1,this,Ai,aA,aq,Ah];exact c
  have:¬ x∈S++[d]:=by simp[h1,a]
  simp only[h1,this,Ag,aY,Al,ay];omega
theorem oZ0{β:Type}(mp:List (Int×Int))(D:List Int)(s:D.length<=100000)(j:∀ d∈D,(lkp qI d mp).getD 0∈D)(K:Int×List Int×List (Int×Bool)->Option β)(G:List Int×List Int->Option β)(k:∀ d c S,K (d,c,ad0 S)=G (c,S)) :
  ∀ (S:List Int) (d:Int) (c:List Int),d∈D->c.length+S6 D S<=100000->rounds (α:=Int×List Int×List (Int×Bool)) (β:=β) (fun g f=>
     b8 (orO (lkp (fun (a b:Int)=>decide (a=b)) f.1 f.2.2) (some false)) fun v25=>
     b8 (some (!(v25))) fun v26=>
     bif v26 then (
     b8 (some (V9 (fun (a b:Int)=>decide (a=b)) f.1 true f.2.2)) fun v27=>
     b8 (Q5 8 f.2.1 [f.1]) fun v28=>
     b8 (orO (lkp (fun (a b:Int)=>decide (a=b)) f.1 mp) (some (0:Int))) fun v29=>
     g (v29,v28,v27))else K f) (d,c,ad0 S)=G (O9 (fun d=>(lkp qI d mp).getD 0) (S6 D S+1) S d c):=by
 have hor:∀ d,orO (lkp (fun (a b:Int)=>decide (a=b)) d mp) (some (0:Int))=some ((lkp qI d mp).getD 0):=fun d=>by show orO (lkp qI d mp) _=_;cases lkp qI d mp<;>rfl
 generalize hF:(fun (g:Int×List Int×List (Int×Bool)->Option β) (f:Int×List Int×List (Int×Bool))=>
     b8 (orO (lkp (fun (a b:Int)=>decide (a=b)) f.1 f.2.2) (some false)) fun v25=>
     b8 (some (!(v25))) fun v26=>
     bif v26 then (
     b8 (some (V9 (fun (a b:Int)=>decide (a=b)) f.1 true f.2.2)) fun v27=>
     b8 (Q5 8 f.2.1 [f.1]) fun v28=>
     b8 (orO (lkp (fun (a b:Int)=>decide (a=b)) f.1 mp) (some (0:Int))) fun v29=>
     g (v29,v28,v27))else K f)=F
 have l:∀ rec d c S,d∈S->F rec (d,c,ad0 S)=G (c,S):=fun rec d c S hs=>by rw[<- hF];simp only[eR0,b9,hs,Ai,aA,Aa];exact k d c S
 have h1:∀ rec d c S,d∉S->c.length<=100000->F rec (d,c,ad0 S)=rec ((lkp qI d mp).getD 0,c++[d],ad0 (S++[d])):=fun rec d c S hs hc=>by rw[<- hF];have e:V9 (fun (a b:Int)=>decide (a=b)) d true (ad0 S)=ad0 (S++[d]):=jZ0 d S hs;have e2:Q5 8 c [d]=some (c++[d]):=C7 (by omega) (by simp;omega);simp only[eR0,b9,hs,Ag,aY,Ac,hor,e2,e]
 have key:∀ (n m:Nat) (S:List Int) (d:Int) (c:List Int),d∈D->c.length+S6 D S<=100000->S6 D S<n->n<=m->iter F m (d,c,ad0 S)=G (O9 (fun d=>(lkp qI d mp).getD 0) n S d c):=by
  intro n
  induction n with
  | zero=>intro m S d c _ _ h;omega
  | succ n o=>
   intro m S d c i hc t hm;cases m with
   | zero=>omega
   | succ m=>
    show F (iter F m) (d,c,ad0 S)=_;by_cases hs:d∈S
    ·rw[l _ d c S hs]
     simp only[O9,hs,Al]
    have p:=lE0 i hs;rw[h1 _ d c S hs (by omega)];simp only[O9,hs,Ah];exact o m (S++[d]) _ (c++[d]) (j d i) (by simp;omega) (by omega) (by omega)
 intro S d c i hc;have h2:S6 D S<=D.length:=dt _ _;have q:=sZ0;have r:S6 D S+1<=many:=Nat.le_trans (by omega) q;exact key (S6 D S+1) many S d c i hc (Nat.lt_succ_self _) r
def mV0(l:List Int)(m:List (Int×Int)):List (Int×Int):=l.foldl (fun m d=>V9 (fun (a b:Int)=>decide (a=b)) (-d) (gi0 l d) m) m
def bk0(L:List (List Int))(m:List (Int×Int)):List (Int×Int):=L.foldl (fun m l=>mV0 l m) m
theorem iM0(l:List Int)(D:List Int):∀ (r:List Int) (m:List (Int×Int)),(∀ d∈r,d∈l)->(∀ d∈l,d∈D)->(∀ k v,lkp qI k m=some v->v∈D) ->
  (∀ k v,lkp qI k (r.foldl (fun m d=>V9 (fun (a b:Int)=>decide (a=b)) (-d) (gi0 l d) m) m)=some v->v∈D)/\(∀ k,(lkp qI k m).isSome=true->(lkp qI k (r.foldl (fun m d=>V9 (fun (a b:Int)=>decide (a=b)) (-d) (gi0 l d) m) m)).isSome=true) /\
  ∀ d∈r,(lkp qI (-d) (r.foldl (fun m d=>V9 (fun (a b:Int)=>decide (a=b)) (-d) (gi0 l d) m) m)).isSome=true
 | [],m,_,_,hm=>⟨hm,fun _ h=>h,fun d c=>by simp at c⟩
 | x::r,m,e,hl,hm=>by
  have f:=e x (by simp);have hp:∀ k v,lkp qI k (V9 qI (-x) (gi0 l x) m)=some v->v∈D:=fun k v h=>by
   rw[ba0]at h;split at h
   ·cases h;exact hl _ (qu0 f)
   exact hm k v h
  obtain⟨h1,h2,g⟩:=iM0 l D r (V9 qI (-x) (gi0 l x) m) (fun d c=>e d (by simp[c])) hl hp;refine⟨h1,fun k hk=>h2 k ?_,fun d c=>?_⟩
  ·rw[ba0];split
   ·rfl
   exact hk
  rcases aC.1 c with rfl | c
  ·exact h2 _ (by rw[ba0,Af rfl];rfl)
  exact g d c
theorem iT0(D:List Int):∀ (L:List (List Int)) (m:List (Int×Int)),(∀ l∈L,∀ d∈l,d∈D)->(∀ k v,lkp qI k m=some v->v∈D) ->
  (∀ k v,lkp qI k (bk0 L m)=some v->v∈D)/\(∀ k,(lkp qI k m).isSome=true->(lkp qI k (bk0 L m)).isSome=true)/\∀ l∈L,∀ d∈l,(lkp qI (-d) (bk0 L m)).isSome=true
 | [],m,_,hm=>⟨hm,fun _ h=>h,fun l hl=>by simp at hl⟩
 | l::L,m,b,hm=>by
  obtain⟨f,a2,a3⟩:=iM0 l D l m (fun _ h=>h) (b l (by simp)) hm;obtain⟨g,c,i⟩:=iT0 D L (mV0 l m) (fun x a=>b x (by simp[a])) f;refine⟨g,fun k hk=>c k (a2 k hk),fun x a d e=>?_⟩;rcases aC.1 a with rfl | a
  ·exact c _ (a3 d e)
  exact i x a d e
def V5(nx:Int->Int)(D:List Int):List Int->List Int->List (List Int)->List (List Int)
 | [],_,acc=>acc
 | d::a,S,acc=>if d∈S then V5 nx D a S acc else
   let r:=O9 nx (S6 D S+1) S d []
   V5 nx D a r.2 (acc++[r.1])
namespace cw0
variable {ns:List Nd} {ars:List Ar} {fs:List Int} (h:cw0 ns ars fs)
def lK0(ns:List Nd)(ars:List Ar):List (List Int):=ns.map (G5 ns ars)
def K0(ns:List Nd)(ars:List Ar):List Int:=(lK0 ns ars).flatten
include h
theorem around_perm{n:Nd}(a:n∈ns):(G5 ns ars n).Perm ((P8 ns ars n.1 ars).map (·.1)):=S5 (h.cmpA_ordered (h.nodeOf_self a) a)
theorem around_len{n:Nd}(a:n∈ns):(G5 ns ars n).length<=512:=by rw[(h.around_perm a).length_eq,aD];have:=nq0 (ns:=ns) (ars:=ars) n.1 ars;have:=h.lenA;omega
theorem mem_darts{d:Int}:d∈K0 ns ars↔∃ a∈ars,d=a.1\/d=-a.1:=by
 unfold K0 lK0;constructor
 ·intro b
  obtain⟨l,hl,b⟩:=bR.1 b;obtain⟨n,c,rfl⟩:=aM.1 hl;rw[(h.around_perm c).mem_iff]at b;obtain⟨p,hp,rfl⟩:=aM.1 b;obtain⟨a,ha,q,_,hc⟩:=h.raw_mem (fun _ ha=>ha) hp;rcases hc with ⟨_,rfl⟩ | ⟨_,rfl⟩
  ·exact⟨a,ha,.inl rfl⟩
  exact⟨a,ha,.inr rfl⟩
 rintro ⟨a,ha,b⟩;obtain⟨f,t,h1,h2,k,_⟩:=h.path ha;have mk:∀ (n:Nd),n∈ns->d∈(ip0 ns ars n.1 a).map (·.1)->d∈((ns.map (G5 ns ars)).flatten):=fun n c g=>by refine bR.2 ⟨_,a_ c,?_⟩;rw[(h.around_perm c).mem_iff];obtain⟨p,hp,e⟩:=aM.1 g;exact e▸a_ (cJ.2 ⟨a,ha,hp⟩)
 have i:f.1=a.2.1:=by have:=eZ h1;simpa using this
 have j:t.1=a.2.2.1:=by have:=eZ h2;simpa using this
 rcases b with rfl | rfl
 ·refine mk f (bh h1) ?_
  unfold ip0;rw[k];simp[i]
 refine mk t (bh h2) ?_;unfold ip0;rw[k];simp[j]
theorem neg_darts{d:Int}(b:d∈K0 ns ars):-d∈K0 ns ars:=by
 rw[h.mem_darts]at b ⊢;obtain⟨a,ha,rfl | rfl⟩:=b
 ·exact⟨a,ha,.inr rfl⟩
 exact⟨a,ha,.inl (by omega)⟩
theorem darts_len:(K0 ns ars).length<=512:=by
 have key:∀ l:List Nd,(∀ n∈l,n∈ns)->((l.map (G5 ns ars)).flatten).length<=(l.map fun n=>(P8 ns ars n.1 ars).length).sum:=by
  intro l
  induction l with
  | nil=>intro _;simp
  | cons n l c=>intro hl;have:=c (fun x f=>hl x (by simp[f]));have e:=(h.around_perm (hl n (by simp))).length_eq;rw[aD]at e;simp only[az,List.flatten_cons,aK,cU,e];omega
 have p:=key ns (fun _ k=>k);have g:∀ l:List Nd,(l.map (·.1)).Pairwise (·<·)->∀ b:List Ar,(l.map fun n=>(P8 ns ars n.1 b).length).sum<=2*b.length:=by
  intro l hp b
  induction b with
  | nil=>
   have:(l.map fun n=>(P8 ns ars n.1 []).length).sum=0:=by
    clear hp
    induction l with
    | nil=>rfl
    | cons n l c=>simp only[az,cU,c];rfl
   omega
  | cons a b c=>
   have e:∀ n:Nd,(P8 ns ars n.1 (a::b)).length=(ip0 ns ars n.1 a).length+(P8 ns ars n.1 b).length:=fun n=>by have e:P8 ns ars n.1 (a::b)=ip0 ns ars n.1 a++P8 ns ars n.1 b:=rfl;rw[e,aK]
   have e2:(l.map fun n=>(P8 ns ars n.1 (a::b)).length).sum=(l.map fun n=>(ip0 ns ars n.1 a).length).sum+(l.map fun n=>(P8 ns ars n.1 b).length).sum:=by
    simp only[e];clear c hp
    induction l with
    | nil=>rfl
    | cons n l c=>simp only[az,cU,c];omega
   have e3:(l.map fun n=>(ip0 ns ars n.1 a).length).sum<=2:=by
    have hle:∀ n:Nd,(ip0 ns ars n.1 a).length<=(if a.2.1=n.1 then 1 else 0)+(if a.2.2.1=n.1 then 1 else 0):=fun n=>by
     unfold ip0;split
     ·simp
     by_cases h1:a.2.1=n.1<;>by_cases h2:a.2.2.1=n.1<;>simp[h1,h2]
    have i:∀ (x:Int) (l:List Nd),(l.map (·.1)).Pairwise (·<·)->(l.map fun n=>if x=n.1 then 1 else 0).sum<=1:=by
     intro x l
     induction l with
     | nil=>intro _;simp
     | cons n l c=>
      intro hp;simp only[az,bj]at hp;simp only[az,cU];by_cases f:x=n.1
      ·have:(l.map fun n=>if x=n.1 then 1 else 0).sum=0:=by
        have d:∀ m∈l,(if x=m.1 then 1 else 0)=0:=fun m hm=>by have:=hp.1 m.1 (a_ hm);rw[Ae (by omega)]
        clear c hp
        induction l with
        | nil=>rfl
        | cons m l j=>simp only[az,cU,d m (by simp),j (fun y o=>d y (by simp[o]))]
       simp[f];rw[<- f];omega
      have:=c hp.2;simp[f];exact this
    have c1:=i a.2.1 l hp;have c2:=i a.2.2.1 l hp;have:(l.map fun n=>(ip0 ns ars n.1 a).length).sum<=(l.map fun n=>if a.2.1=n.1 then 1 else 0).sum+(l.map fun n=>if a.2.2.1=n.1 then 1 else 0).sum:=by
     clear c c1 c2 e2 hp
     induction l with
     | nil=>simp
     | cons n l c=>simp only[az,cU];have:=hle n;omega
    omega
   rw[e2,ay];omega
 have q:=g ns (I2 h.ascN) ars;have:=h.lenA;show ((ns.map (G5 ns ars)).flatten).length<=_;omega
def sU0(ns:List Nd)(ars:List Ar):List (Int×Int):=bk0 (lK0 ns ars) []
def nextD(ns:List Nd)(ars:List Ar)(d:Int):Int:=(lkp qI d (sU0 ns ars)).getD 0
theorem next_mem{d:Int}(a:d∈K0 ns ars):nextD ns ars d∈K0 ns ars:=by
 obtain⟨h1,_,e⟩:=iT0 (K0 ns ars) (lK0 ns ars) [] (fun l hl d a=>bR.2 ⟨l,hl,a⟩) (fun k v hv=>by simp[lkp]at hv);obtain⟨l,hl,b⟩:=bR.1 (h.neg_darts a);have c:=e l hl _ b;rw[Int.neg_neg]at c;unfold nextD sU0;cases hv:lkp qI d (bk0 (lK0 ns ars) [])with
 | none=>rw[hv]at c;cases c
 | some v=>exact h1 d v hv
def cyclesOf(ns:List Nd)(ars:List Ar):List (List Int):=V5 (nextD ns ars) (K0 ns ars) ((K0 ns ars).mergeSort fun a b=>decide (a<=b)) [] []
omit h in
theorem bR0{α β:Type}{l rest:List α}{i:Nat}{x:α}(f:α->β)(a:l.drop i=x::rest):(l.take (i+1)).map f=(l.take i).map f++[f x]:=by
 rw[gD];have:l[i]?=some x:=by rw[<- C3];exact l9 a
 rw[this];simp
theorem Cycles_eq:Q8 (ns,ars,fs)=some (cyclesOf ns ars,0):=by
 have Q:=h.lenN;have k:M8 ns ars fs=0:=aI0.2 h;have R:=h.darts_len;unfold Q8;simp only[cc0,k,b9,Ai,aA,Aa];refine(p8 (A:=List Int×List (Int×Int)) ns (fun i a=>(a.1,(i:Int),a.2)) (fun _ _=>some (cyclesOf ns ars,0)) (fun i a=>a.1=((ns.take i).map (G5 ns ars)).flatten/\a.2=bk0 ((ns.take i).map (G5 ns ars)) []/\a.1.length<=512*i) (by omega) ?_ ?_ ([],[]) ⟨by simp,by simp[bk0],by simp⟩)
 ·intro rec a B
  obtain⟨h1,h2,J⟩:=B;rw[gL]at h1 h2;have e1:a.1=K0 ns ars:=h1;have e2:a.2=sU0 ns ars:=h2;have es:slices_Sort_int (K0 ns ars,1)=some ((K0 ns ars).mergeSort fun a b=>decide (a<=b)):=by
   unfold slices_Sort_int;have:decide ((K0 ns ars).length<4611686018427387904)=true:=by simp only[Ad];omega
   simp[this]
  simp only[A9,Aa,e1,e2,es,b9];have f:=dj (K0 ns ars) (fun a b=>decide (a<=b));unfold cyclesOf;generalize U:(K0 ns ars).mergeSort (fun a b=>decide (a<=b))=L at f;have K:L.length<=100000-10:=by rw[f.length_eq];omega
  have C:∀ d∈L,d∈K0 ns ars:=fun d g=>f.mem_iff.1 g;refine(p8 (A:=List (List Int)×List Int) L (fun i b=>((i:Int),b.1,ad0 b.2)) (fun b rest=>some (V5 (nextD ns ars) (K0 ns ars) rest b.2 b.1,0)) (fun i b=>b.1.length<=i) (by omega) ?_ ?_ ([],[]) (by simp)).trans rfl
  ·intro rec b n
   simp[V5]
  intro rec i b x rest hi n g w;have o:L[i]?=some x:=by rw[<- C3];exact l9 g
  have p:(bif decide ((0:Int)<=(i:Int))&&decide ((i:Int)<(L.length:Int))then some ()else none)=some ():=by
   have e1:decide ((0:Int)<=(i:Int))=true:=by simp only[Ad];omega
   rw[e1,A5 hi];rfl
  simp only[A5 hi,Ac,p,b9,cS,o,ak,eR0,w9 hi (show L.length<2^62 by omega)];by_cases hs:x∈b.2
  ·simp only[hs,Ai,aA,Aa]
   have:=w (b.1,b.2) (by show b.1.length<=i+1;omega);refine this.trans ?_;simp[V5,hs]
  simp only[hs,Ag,aY,Ac];have M:S6 (K0 ns ars) b.2<=(K0 ns ars).length:=dt _ _;have q:=oZ0 (sU0 ns ars) (K0 ns ars) (by omega) (fun d g=>h.next_mem g) (fun s=>b8 (Q5 24 b.1 [s.2.1]) fun v27=>rec (((i+1:Nat):Int),v27,s.2.2)) (fun r=>some (V5 (nextD ns ars) (K0 ns ars) rest r.2 (b.1++[r.1]),0)) (fun d c S=>by
   have:Q5 24 b.1 [c]=some (b.1++[c]):=C7 (by omega) (by simp;omega);show b8 (Q5 24 b.1 [c]) _=_;rw[this];exact w (b.1++[c],S) (by show (b.1++[c]).length<=i+1;simp;omega)) b.2 x [] (C x (N0 g).2.2) (by simp;omega)
  simp only[b9]at q;refine q.trans ?_;simp only[V5,hs,Ah];rfl
 intro rec i a x rest hi B g w;obtain⟨h1,h2,J⟩:=B;have o:=(N0 g).2.2;have N:=h.around_len o;have D:U9 ((ns,ars,fs),x.1)=some (G5 ns ars x):=by rw[h.Around_eq,h.nodeOf_self o]
 simp only[A5 hi,Ac,l9 g,b9,w9 hi (show ns.length<2^62 by omega),D];have hk:512*i<=512*256:=gi _ (by omega);refine(p8 (A:=List Int×List (Int×Int)) (G5 ns ars x) (fun j b=>(b.1,(j:Int),b.2)) (fun _ _=>some (cyclesOf ns ars,0)) (fun j b=>b.1=a.1++(G5 ns ars x).take j/\b.2=((G5 ns ars x).take j).foldl (fun m d=>V9 (fun (a b:Int)=>decide (a=b)) (-d) (gi0 (G5 ns ars x) d) m) a.2) (by omega) ?_ ?_ a ⟨by simp,by simp⟩)
 ·intro t b n
  obtain⟨g1,g2⟩:=n;rw[gL]at g1 g2;simp only[A9,Aa];refine w (b.1,b.2) ⟨?_,?_,?_⟩
  ·rw[bR0 _ g,List.flatten_append,<-h1]
   simp[g1]
  ·rw[bR0 _ g]
   show b.2=bk0 ((ns.take i).map (G5 ns ars)++[G5 ns ars x]) [];unfold bk0;rw[jy];show b.2=mV0 (G5 ns ars x) (bk0 ((ns.take i).map (G5 ns ars)) []);rw[<- h2,g2];rfl
  show b.1.length<=512*(i+1);rw[g1,aK];omega
 intro t j b y V hj n l E;obtain⟨g1,g2⟩:=n;have O:=(N0 l).2.2;have G:1<=y/\y<=1073741824\/-1073741824<=y/\y<=-1:=by have:y∈K0 ns ars:=bR.2 ⟨_,a_ o,O⟩;rw[h.mem_darts]at this;obtain⟨a',H,e | e⟩:=this<;>have:=h.num H<;>omega
 have u:aa.wrap (0-y)=-y:=by rw[w64 (by omega) (by omega)];omega
 have P:b.1.length<=512*i+j:=by rw[g1,aK,ik];omega
 have I:M6 (G5 ns ars x,y)=some (gi0 (G5 ns ars x) y):=wt0 _ _ (by omega);simp only[A5 hj,Ac,l9 l,b9,w9 hj (show (G5 ns ars x).length<2^62 by omega),u,I];rw[C7 (by omega) (by simp;omega)];simp only[b9];have v:(G5 ns ars x).take (j+1)=(G5 ns ars x).take j++[y]:=by have:=bR0 (fun z:Int=>z) l;simpa using this
 refine E (b.1++[y],_) ⟨?_,?_⟩
 ·rw[v,g1,cL]
 rw[v,jy,<-g2];rfl
end cw0
theorem hN0{ns:List Nd}{ars:List Ar}{fs:List Int}(h:M8 ns ars fs≠0):Q8 (ns,ars,fs)=some ([],M8 ns ars fs):=by unfold Q8;simp only[cc0,b9,h,Ag,aY,Ac]
abbrev aX0:=Int×List Int×List (List Int)×List Int
def bi0(ns:List Nd)(ars:List Ar)(l:List Ar)(m:List (Int×List Pt)):List (Int×List Pt):=l.foldl (fun m a=>match pathOf ns ars a.1 with | some p=>V9 (fun (a b:Int)=>decide (a=b)) a.1 p m | none=>m) m
def H5(ns:List Nd)(ars:List Ar):List (Int×List Pt):=bi0 ns ars ars []
def md0(d:Int):Prop:=-9223372036854775808<d/\d<=9223372036854775807
def jo0(d:Int):Int:=max d (-d)
def bo0(ars:List Ar)(d:Int):Int:=if d=0 then 0 else match ct0 ars (jo0 d)with
 | some a=>if 0<d then a.2.2.2.2.1 else a.2.2.2.2.2
 | none=>0
def gh0(a:aX0):List (List Int):=a.2.1::a.2.2.1
def ek0(ars:List Ar)(k:Nat):Bool->List aX0->List Int->List Int->List Int×Bool
 | _,[],seen,out=>(out,decide ((seen.length:Int)=(k:Int)))
 | true,a::r,seen,out=>bif (gh0 a).all (fun c=>c.all fun d=>decide (bo0 ars d=0))then ek0 ars k false r seen (out++[0])else ([],false)
 | false,a::r,seen,out=>
  let f:=bo0 ars (a.2.1.headD 0)
  bif decide (f=0)||decide (f∈seen)then ([],false)else bif (gh0 a).all (fun c=>c.all fun d=>decide (bo0 ars d=f))then ek0 ars k false r (seen++[f]) (out++[f])else ([],false)
namespace cw0
variable {ns:List Nd} {ars:List Ar} {fs:List Int} (h:cw0 ns ars fs)
include h
theorem pathsOf_eq:P9 (ns,ars,fs)=some (H5 ns ars):=by
 have hlen:=h.lenA;unfold P9 H5;simp only[b9,h.Path_eq];refine(r9 (A:=List (Int×List Pt)) ars (fun i m=>((i:Int),m)) (fun m rest=>some (bi0 ns ars rest m)) (by omega) ?_ ?_ []).trans rfl
 ·intro rec m
  simp[bi0]
 intro rec i m x rest hi b a;simp only[A5 hi,Ac,l9 b,b9,w9 hi (show ars.length<2^62 by omega)];cases hp:pathOf ns ars x.1 with
 | none=>
  have:decide ((7:Int)=0)=false:=by decide
  simp only[this,Aa];rw[a];simp[bi0,hp]
 | some p=>simp only[Ai,Ac];rw[a];simp[bi0,hp]
theorem pathsGo_look:∀ (l:List Ar) (m:List (Int×List Pt)),(∀ a∈l,a∈ars)->(l.map (·.1)).Pairwise (·<·)->∀ a∈l,lkp qI a.1 (bi0 ns ars l m)=pathOf ns ars a.1
 | [],m,_,_,a,ha=>by simp at ha
 | b::l,m,hm,hp,a,ha=>by
  simp only[az,bj]at hp;obtain⟨f,t,_,_,d,_⟩:=h.path (hm b (by simp));have e:bi0 ns ars (b::l) m=bi0 ns ars l (V9 qI b.1 ((f.2.1,f.2.2)::(b.2.2.2.1++[(t.2.1,t.2.2)])) m):=by show bp _ _ _=_;rw[List.foldl_cons,d];rfl
  have g:∀ (l:List Ar) (m:List (Int×List Pt)) (k:Int),(∀ a∈l,a.1≠k)->lkp qI k (bi0 ns ars l m)=lkp qI k m:=by
   intro l
   induction l with
   | nil=>intro m k _;rfl
   | cons x l i=>
    intro m k hk;show lkp qI k (bi0 ns ars l _)=_;rw[i _ k (fun a ha=>hk a (by simp[ha]))];cases c:pathOf ns ars x.1 with
    | none=>simp only[c]
    | some p=>simp only[c];have:=ba0 k x.1 p m;rw[Ae (fun e=>hk x (by simp) e.symm)]at this;exact this
  rw[e];rcases aC.1 ha with rfl | ha
  ·rw[g l _ a.1 (fun x c=>by have:=hp.1 x.1 (a_ c);omega),ba0,Af rfl,d]
  exact pathsGo_look l _ (fun x c=>hm x (by simp[c])) hp.2 a ha
theorem pathsM_look{a:Ar}(ha:a∈ars):lkp qI a.1 (H5 ns ars)=pathOf ns ars a.1:=h.pathsGo_look ars [] (fun _ h=>h) (I2 h.ascA) a ha
theorem arcOfD_eq{d:Int}(c:md0 d):an0 ((ns,ars,fs),d)=some (if d=0 then ((0,0,0,[],0,0),false)else match ct0 ars (jo0 d)with | some a=>(a,true) | none=>((0,0,0,[],0,0),false)):=by
 unfold an0;obtain⟨h1,h2⟩:=c;simp only[b9];by_cases b:d=0
 ·simp[b]
 have e:decide (d=-9223372036854775808)=false:=by simp only[An];omega
 have e1:aa.wrap (0-d)=-d:=by rw[w64 (by omega) (by omega)];omega
 simp only[b,Ag,Aa,e,e1,eP0,h.Arc_eq,b9,Ah];have e2:jo0 d=max d (-d):=rfl;rw[e2]
 all_goals cases ct0 ars (max d (-d))with
 | none=>rfl
 | some a=>rfl
theorem Side_eq{d:Int}(c:md0 d):X7 ((ns,ars,fs),d)=some (bo0 ars d):=by
 unfold X7 bo0;simp only[h.arcOfD_eq c,b9];by_cases b:d=0
 ·simp[b]
 simp only[b,Ah];cases ct0 ars (jo0 d)with
 | none=>simp
 | some a=>simp only[aA,Aa];by_cases h1:0<d<;>simp[h1]
theorem cycles_eq{a:aX0}(ha:a.2.2.1.length<=1000000):D8 a=some (gh0 a):=by unfold D8 gh0;have:Q5 24 [a.2.1] a.2.2.1=some ([a.2.1]++a.2.2.1):=C7 (by omega) (by simp;omega);simp only[this,b9];rfl
theorem sidesLoop{β:Type}(f:Int)(cs:List (List Int))(k:∀ c∈cs,(∀ d∈c,md0 d)/\c.length<2^62)(hl:cs.length<2^62)(K:Option β)(bad:Option β) :
  rounds (α:=Int) (β:=β) (fun l a=>
    b8 (some (decide (a<(cs.length:Int)))) fun v24=>
    bif v24 then (
     b8 (nth cs a) fun v25=>
     b8 (some ((v25).length:Int)) fun v26=>
     rounds (α:=Int) (β:=β) (fun m b=>
     b8 (some (decide (b<v26))) fun v29=>
     bif v29 then (
      b8 (nth v25 b) fun v30=>
      b8 (X7 ((ns,ars,fs),v30)) fun v31=>
      b8 (some (!decide (v31=f))) fun v32=>
      bif v32 then bad else (
      b8 (some (aa.wrap (b+(1:Int)))) fun v33=>
      m v33))else (
      b8 (some (aa.wrap (a+(1:Int)))) fun v30=>
      l v30)) (0:Int))else K) (0:Int)=bif cs.all (fun c=>c.all fun d=>decide (bo0 ars d=f))then K else bad:=by
 simp only[b9];refine(r9 (A:=Unit) cs (fun i _=>(i:Int)) (fun _ rest=>bif rest.all (fun c=>c.all fun d=>decide (bo0 ars d=f))then K else bad) (by omega) ?_ ?_ ()).trans rfl
 ·intro rec u;simp
 intro rec i u x rest hi q s;obtain⟨n,o⟩:=k x (N0 q).2.2;simp only[A5 hi,Ac,l9 q,b9,w9 hi hl];rw[s (),bU];refine(r9 (A:=Unit) x (fun i _=>(i:Int)) (fun _ r=>bif r.all (fun d=>decide (bo0 ars d=f))then (bif rest.all (fun c=>c.all fun d=>decide (bo0 ars d=f))then K else bad)else bad) (by omega) ?_ ?_ ()).trans ?_
 ·intro e u;simp
 ·intro e j u y r hj g p
  have t:=n y (N0 g).2.2;simp only[A5 hj,Ac,l9 g,b9,w9 hj o,h.Side_eq t];rw[p (),bU];cases decide (bo0 ars y=f)<;>simp
 cases x.all (fun d=>decide (bo0 ars d=f))<;>simp
structure AreaOk(a:aX0):Prop where
 outer:(∀ d∈a.2.1,md0 d)/\a.2.1.length<=1000000
 inner:∀ c∈a.2.2.1,(∀ d∈c,md0 d)/\c.length<=1000000
 few:a.2.2.1.length<=1000000
theorem faces_eq{l:List aX0}(hl:l.length<=1000000)(p:∀ a∈l,AreaOk a)(q:∀ a∈l.tail,a.2.1≠[]):Y7 ((ns,ars,fs),l)=some (ek0 ars fs.length true l [] []):=by
 have hF:=h.lenF;have sl:=fun (f:Int) (cs:List (List Int)) h1 h2 K bad=>h.sidesLoop (β:=List Int×Bool) f cs h1 h2 K bad;simp only[b9]at sl;unfold Y7;simp only[b9];refine(p8 (A:=List Int×List Int) l (fun i a=>(a.2,(i:Int),ad0 a.1)) (fun a rest=>some (ek0 ars fs.length (decide (rest.length=l.length)) rest a.1 a.2)) (fun i a=>a.2.length<=i) (by omega) ?_ ?_ ([],[]) (by simp)).trans (by simp)
 ·intro rec a D
  have e:((ad0 a.1).length:Int)=(a.1.length:Int):=by simp[ad0]
  simp only[A9,Aa,ek0,e]
 intro rec i a x rest hi D r B;have s:=N0 r;have j:=p x s.2.2;have t:D8 (x.1,x.2.1,x.2.2.1,x.2.2.2)=some (gh0 x):=h.cycles_eq j.few;have m:∀ c∈gh0 x,(∀ d∈c,md0 d)/\c.length<2^62:=fun c hc=>by
  rcases aC.1 hc with rfl | hc
  ·exact⟨j.outer.1,by have:=j.outer.2;omega⟩
  exact⟨(j.inner c hc).1,by have:=(j.inner c hc).2;omega⟩
 have n:(gh0 x).length<2^62:=by have:=j.few;simp only[gh0,ay];omega
 simp only[A5 hi,Ac,l9 r,b9,w9 hi (show l.length<2^62 by omega),t];have C:decide (rest.length=l.length)=false:=by simp only[An];omega
 have g:∀ f:Int,Q5 8 a.2 [f]=some (a.2++[f]):=fun f=>C7 (by omega) (by simp;omega);by_cases E:i=0
 ·subst E
  have e0:decide ((x::rest).length=l.length)=true:=by simp only[ay,Ad];omega
  have e1:decide ((0:Int)<((0:Nat):Int))=false:=by decide
  simp only[e1,Aa,e0];refine(sl 0 (gh0 x) m n _ _).trans ?_;simp only[g,b9,ek0];have u:(a.2++[(0:Int)]).length<=0+1:=by rw[aK];simp only[cZ];omega
  have:=B (a.1,a.2++[0]) u;rw[C]at this;rw[this];cases (gh0 x).all (fun c=>c.all fun d=>decide (bo0 ars d=0))<;>simp
 have e0:decide ((x::rest).length=l.length)=false:=by simp only[ay,An];omega
 have e1:decide ((0:Int)<(i:Int))=true:=by simp only[Ad];omega
 have v:x∈l.tail:=by
  have:x∈l.drop 1:=by
   have hm:x∈l.drop i:=by rw[r];simp
   have:l.drop i=(l.drop 1).drop (i-1):=by rw[List.drop_drop,show 1+(i-1)=i by omega]
   rw[this]at hm;exact bf hm
  simpa using this
 obtain⟨d0,o,k⟩:∃ d0 o,x.2.1=d0::o:=by
  cases hc:x.2.1 with
  | nil=>exact Am hc (q x v)
  | cons d0 o=>exact⟨d0,o,rfl⟩
 have w:nth x.2.1 (0:Int)=some d0:=by have:=C3 x.2.1 0;rw[k]at this ⊢;exact this
 have z:md0 d0:=j.outer.1 d0 (by rw[k];simp);have G:x.2.1.headD 0=d0:=by rw[k];rfl
 simp only[e1,Ac,e0,w,b9,h.Side_eq z,eR0,ek0,G];by_cases hz:bo0 ars d0=0
 ·simp[hz]
 simp only[hz,Ag,Aa,cw];by_cases hs:bo0 ars d0∈a.1
 ·simp[hs]
 have e4:V9 (fun (a b:Int)=>decide (a=b)) (bo0 ars d0) true (ad0 a.1)=ad0 (a.1++[bo0 ars d0]):=jZ0 _ _ hs;simp only[hs,Ag,Aa,e4];refine(sl (bo0 ars d0) (gh0 x) m n _ _).trans ?_;simp only[g,b9];have:=B (a.1++[bo0 ars d0],a.2++[bo0 ars d0]) (by simp;omega);rw[C]at this;rw[this];cases (gh0 x).all (fun c=>c.all fun d=>decide (bo0 ars d=bo0 ars d0))<;>simp
end cw0
def KH0(at':Pt)(st:Bool×Bool)(a b:Pt):Bool×Bool :=
 bif onP a b at' then (st.1,true)else
 bif (decide (a.2<=at'.2)&&(decide (at'.2<b.2)&&decide (0<S9 a b at')))||(decide (b.2<=at'.2)&&(decide (at'.2<a.2)&&decide (S9 a b at'<0)))then (!st.1,st.2)else st
def li0(at':Pt):Pt->List Pt->Bool×Bool->Bool×Bool
 | _,[],st=>st
 | p,q::r,st=>li0 at' q r (KH0 at' st p q)
def La0(at':Pt)(l:List Pt)(st:Bool×Bool):Bool×Bool:=match l with
 | []=>st
 | p::r=>li0 at' p r st
def mI0(m:List (Int×List Pt))(at':Pt):List Int->Bool×Bool->Bool×Bool
 | [],st=>st
 | d::r,st=>mI0 m at' r (La0 at' ((lkp qI (jo0 d) m).getD []) st)
def Lh0(m:List (Int×List Pt))(cyc:List Int)(at':Pt):Bool:=bif (mI0 m at' cyc (false,false)).1 then !(mI0 m at' cyc (false,false)).2 else false
theorem pN0{β:Type}(at':Pt)(p0:Pt)(l:List Pt)(hl:l.length<=1000000)(K:Bool×Bool->Option β)(st:Bool×Bool) :
  rounds (α:=Int×Bool×Bool) (β:=β) (fun f d=>
   bif (decide (d.1<((p0::l).length:Int)))then (
   b8 (nth (p0::l) (aa.wrap (d.1-(1:Int)))) fun v21=>
   b8 (nth (p0::l) d.1) fun v23=>
   b8 (y4 ((v21.1,v21.2),(v23.1,v23.2),(at'.1,at'.2))) fun v25=>
   bif v25 then (
    f (aa.wrap (d.1+(1:Int)),d.2.1,true))else (
    bif (decide (v21.2<=at'.2))then (
    bif (decide (at'.2<v23.2))then (
     b8 (u7 ((v21.1,v21.2),(v23.1,v23.2),(at'.1,at'.2))) fun v28=>
     bif (decide ((0:Int)<v28))then (
     f (aa.wrap (d.1+(1:Int)),!(d.2.1),d.2.2))else (
     bif (decide (v23.2<=at'.2))then (
      bif (decide (at'.2<v21.2))then (
      b8 (u7 ((v21.1,v21.2),(v23.1,v23.2),(at'.1,at'.2))) fun v32=>
      bif (decide (v32<(0:Int)))then (
       f (aa.wrap (d.1+(1:Int)),!(d.2.1),d.2.2))else (
       f (aa.wrap (d.1+(1:Int)),d.2.1,d.2.2)))else (
      f (aa.wrap (d.1+(1:Int)),d.2.1,d.2.2)))else (
      f (aa.wrap (d.1+(1:Int)),d.2.1,d.2.2))))else (
     bif (decide (v23.2<=at'.2))then (
     bif (decide (at'.2<v21.2))then (
      b8 (u7 ((v21.1,v21.2),(v23.1,v23.2),(at'.1,at'.2))) fun v30=>
      bif (decide (v30<(0:Int)))then (
      f (aa.wrap (d.1+(1:Int)),!(d.2.1),d.2.2))else (
      f (aa.wrap (d.1+(1:Int)),d.2.1,d.2.2)))else (
      f (aa.wrap (d.1+(1:Int)),d.2.1,d.2.2)))else (
     f (aa.wrap (d.1+(1:Int)),d.2.1,d.2.2))))else (
    bif (decide (v23.2<=at'.2))then (
     bif (decide (at'.2<v21.2))then (
     b8 (u7 ((v21.1,v21.2),(v23.1,v23.2),(at'.1,at'.2))) fun v29=>
     bif (decide (v29<(0:Int)))then (
      f (aa.wrap (d.1+(1:Int)),!(d.2.1),d.2.2))else (
      f (aa.wrap (d.1+(1:Int)),d.2.1,d.2.2)))else (
     f (aa.wrap (d.1+(1:Int)),d.2.1,d.2.2)))else (
     f (aa.wrap (d.1+(1:Int)),d.2.1,d.2.2)))))else (
   K d.2)) ((1:Int),st)=K (li0 at' p0 l st):=by
 refine(p8 (A:=Pt×Bool×Bool) l (fun i a=>(((i+1:Nat):Int),a.2)) (fun a rest=>K (li0 at' a.1 rest a.2)) (fun i a=>(p0::l)[i]?=some a.1) (by omega) ?_ ?_ (p0,st) rfl)
 ·intro rec a t
  have e:((p0::l).length:Int)=((l.length+1:Nat):Int):=by simp
  simp only[e,A9,Aa,li0]
 intro rec i a x rest hi t v w;have u:(p0::l)[i+1]?=some x:=by rw[aR,<-C3];exact l9 v
 have e:((p0::l).length:Int)=((l.length+1:Nat):Int):=by simp
 have e1:aa.wrap (((i+1:Nat):Int)-1)=(i:Int):=by rw[w64 (by omega) (by omega)];omega
 have e2:aa.wrap (((i+1:Nat):Int)+1)=((i+1+1:Nat):Int):=w9 (n:=2000000) (by omega) (by omega);have f1:∀ a b c:Pt,y4 ((a.1,a.2),(b.1,b.2),(c.1,c.2))=some (onP a b c):=fun a b c=>M0 a b c;have f2:∀ a b c:Pt,u7 ((a.1,a.2),(b.1,b.2),(c.1,c.2))=some (S9 a b c):=fun a b c=>I5 a b c;simp only[e,A5 (show i+1<l.length+1 by omega),Ac,e1,C3,t,u,b9,f1,f2,e2];have h:=fun m=>w (x,m) u;simp only at h;have g:∀ j k:Bool,rec (((i+1+1:Nat):Int),j,k)=K (li0 at' x rest (j,k)):=fun j k=>h (j,k);simp only[g,li0,KH0];obtain⟨p,j,k⟩:=a;simp only;generalize onP p x at'=c1;generalize decide (p.2<=at'.2)=c2;generalize decide (at'.2<x.2)=o;generalize decide (x.2<=at'.2)=q;generalize decide (at'.2<p.2)=r;generalize hs:S9 p x at'=s;by_cases h1:0<s
 ·have h2:¬ s<0:=by omega
  simp only[h1,h2,Ai,Ag,Ac,Aa,eP,fU,kA];cases c1<;>cases c2<;>cases o<;>cases q<;>cases r<;>rfl
 by_cases h2:s<0
 ·simp only[h1,h2,Ai,Ag,Ac,Aa,eP,fU,cw]
  cases c1<;>cases c2<;>cases o<;>cases q<;>cases r<;>rfl
 simp only[h1,h2,Ai,Ag,Ac,Aa,eP,fU,kA];cases c1<;>cases c2<;>cases o<;>cases q<;>cases r<;>rfl
def gu0(m:List (Int×List Pt))(cyc:List Int):Prop:=cyc.length<=1000000/\∀ d∈cyc,md0 d/\∃ p0 l,lkp qI (jo0 d) m=some (p0::l)/\l.length<=1000000
theorem mX0{m:List (Int×List Pt)}{cyc:List Int}(h:gu0 m cyc)(at':Pt):y6 (m,cyc,(at'.1,at'.2))=some (Lh0 m cyc at'):=by
 have sl:=fun (p0:Pt) (l:List Pt) hl K st=>pN0 (β:=Bool) at' p0 l hl K st;unfold y6;simp only[b9];refine(r9 (A:=Bool×Bool) cyc (fun i a=>((i:Int),a.2,a.1)) (fun a rest=>some (bif (mI0 m at' rest a).1 then !(mI0 m at' rest a).2 else false)) (by have:=h.1;omega) ?_ ?_ (false,false)).trans rfl
 ·intro rec a
  simp only[A9,Aa,mI0];cases a.1<;>rfl
 intro rec i a d rest hi f g;have hm:d∈cyc:=by
  have:d∈cyc.drop i:=by rw[f];simp
  exact bf this
 obtain⟨⟨d1,d2⟩,p0,l,c,e⟩:=h.2 d hm;have e1:aa.wrap (0-d)=-d:=by rw[w64 (by omega) (by omega)];omega
 have e2:lkp (fun (a b:Int)=>decide (a=b)) (max d (-d)) m=some (p0::l):=c;have e3:orO (some (p0::l)) (none:Option (List Pt))=some (p0::l):=rfl;simp only[A5 hi,Ac,l9 f,b9,e1,eP0,e2,e3,w9 hi (show cyc.length<2^62 by have:=h.1;omega)];refine(sl p0 l e (fun x=>rec (((i+1:Nat):Int),x.2,x.1)) (a.1,a.2)).trans ?_;have:=g (li0 at' p0 l (a.1,a.2));show rec _=_;rw[this];simp only[mI0,c,bS,La0]
def cn0(p q:Pt):Int:=p.1*q.2-q.1*p.2
def L8:Pt->List Pt->Int
 | _,[]=>0
 | p,q::r=>cn0 p q+L8 q r
theorem bA0{a b A:Int}(h1:-A<=a)(h2:a<=A)(e:-A<=b)(f:b<=A):-(A*A)<=a*b/\a*b<=A*A:=by
 have d:0<=A:=by omega
 constructor
 ·have e1:a*b+A*A=(A+a)*b+A*(A-b):=by rw[dE,bz];omega
  rcases gN 0 b with c | c
  ·have:=aF (show 0<=A+a by omega) c
   have:=aF d (show 0<=A-b by omega);omega
  have e2:a*b+A*A=(A-a)*(-b)+A*(A+b):=by rw[kK,fw,da,da];omega
  have:=aF (show 0<=A-a by omega) (show 0<=-b by omega);have:=aF d (show 0<=A+b by omega);omega
 rcases gN 0 b with c | c
 ·have e2:A*A-a*b=(A-a)*b+A*(A-b):=by rw[kK,bz];omega
  have:=aF (show 0<=A-a by omega) c;have:=aF d (show 0<=A-b by omega);omega
 have e2:A*A-a*b=(A+a)*(-b)+A*(A+b):=by rw[dE,fw,da,da];omega
 have:=aF (show 0<=A+a by omega) (show 0<=-b by omega);have:=aF d (show 0<=A+b by omega);omega
def rV0(p:Pt):Prop:=-2097152<=p.1/\p.1<=2097152/\-2097152<=p.2/\p.2<=2097152
theorem bW0:∀ (l:List Pt) (p:Pt),rV0 p->(∀ q∈l,rV0 q)->-(8796093022208*(l.length:Int))<=L8 p l/\L8 p l<=8796093022208*(l.length:Int)
 | [],_,_,_=>by simp[L8]
 | q::r,p,hp,hl=>by have a:=hl q (by simp);have c:=bW0 r q a (fun x b=>hl x (by simp[b]));obtain⟨d,a2⟩:=bA0 (A:=2097152) hp.1 hp.2.1 a.2.2.1 a.2.2.2;obtain⟨e,f⟩:=bA0 (A:=2097152) a.1 a.2.1 hp.2.2.1 hp.2.2.2;simp only[L8,cn0,ay];omega
theorem pd0{β:Type}(p0:Pt)(l:List Pt)(hl:l.length<=1000)(m:rV0 p0)(hc:∀ q∈l,rV0 q)(K:Int->Option β) :
  rounds (α:=Int×Int) (β:=β) (fun e b=>
    bif (decide (b.2<(l.length:Int)))then (
     b8 (nth (p0::l) b.2) fun v31=>
     b8 (nth (p0::l) (aa.wrap (b.2+(1:Int)))) fun f=>
     b8 (nth (p0::l) (aa.wrap (b.2+(1:Int)))) fun g=>
     b8 (nth (p0::l) b.2) fun v40=>
     e (aa.wrap (b.1+aa.wrap (aa.wrap (v31.1*f.2)-aa.wrap (g.1*v40.2))),aa.wrap (b.2+(1:Int))))else (
     K b.1)) ((0:Int),(0:Int))=K (L8 p0 l):=by
 refine(p8 (A:=Pt×Int) l (fun i a=>(a.2,(i:Int))) (fun a rest=>K (a.2+L8 a.1 rest)) (fun i a=>(p0::l)[i]?=some a.1/\rV0 a.1/\-(8796093022208*(i:Int))<=a.2/\a.2<=8796093022208*(i:Int)) (by omega) ?_ ?_ (p0,0) ⟨rfl,m,by simp,by simp⟩).trans (by simp)
 ·intro rec a d
  simp only[A9,Aa,L8,eJ]
 intro rec i a x rest hi d j o;obtain⟨d,hp,g1,g2⟩:=d;have k:(p0::l)[i+1]?=some x:=by rw[aR,<-C3];exact l9 j
 have h:x∈l:=by
  have:x∈l.drop i:=by rw[j];simp
  exact bf this
 have c:=hc x h;have e2:aa.wrap ((i:Int)+1)=((i+1:Nat):Int):=w9 (n:=2000000) (by omega) (by omega);simp only[A5 hi,Ac,e2,C3,d,k,b9];obtain⟨v,a2⟩:=bA0 (A:=2097152) hp.1 hp.2.1 c.2.2.1 c.2.2.2;obtain⟨w,z⟩:=bA0 (A:=2097152) c.1 c.2.1 hp.2.2.1 hp.2.2.2;have p:aa.wrap (a.1.1*x.2)=a.1.1*x.2:=w64 (by omega) (by omega);have r:aa.wrap (x.1*a.1.2)=x.1*a.1.2:=w64 (by omega) (by omega);have s:aa.wrap (a.1.1*x.2-x.1*a.1.2)=cn0 a.1 x:=w64 (by omega) (by omega);have t:cn0 a.1 x=a.1.1*x.2-x.1*a.1.2:=rfl;have u:aa.wrap (a.2+cn0 a.1 x)=a.2+cn0 a.1 x:=w64 (by omega) (by omega);rw[p,r,s,u];have:=o (x,a.2+cn0 a.1 x) ⟨k,c,by simp only;omega,by simp only;omega⟩;rw[this];simp only[L8];congr 1;omega
def vq0(ns:List Nd)(ars:List Ar)(d:Int):Int:=match pathOf ns ars (jo0 d)with
 | some (p::l)=>if d<0 then -(L8 p l)else L8 p l
 | _=>0
def S4(ns:List Nd)(ars:List Ar):List Int->Int
 | []=>0
 | d::r=>vq0 ns ars d+S4 ns ars r
namespace cw0
variable {ns:List Nd} {ars:List Ar} {fs:List Int} (h:cw0 ns ars fs)
include h
theorem dart_path{d:Int}(e:∃ a∈ars,a.1=jo0 d):∃ p0 l,pathOf ns ars (jo0 d)=some (p0::l)/\l.length<=65/\rV0 p0/\∀ q∈l,rV0 q:=by
 obtain⟨a,ha,hid⟩:=e;obtain⟨f,t,_,_,hp,_⟩:=h.path ha;have hv:a.2.2.2.1.length<=64:=by have:=h.sml;simp only[dK0,ab,aj,Ad]at this;exact this.2.2.2 a ha
 have c:=h.pathNear ha hp;have b:∀ p:Pt,dF0 p=true->rV0 p:=fun p hp=>by simp only[dF0,ab,Ad]at hp;exact⟨by omega,by omega,by omega,by omega⟩
 refine⟨_,_,by rw[<- hid];exact hp,by simp;omega,b _ (c _ (by simp)),fun q g=>b _ (c _ (List.mem_cons_of_mem _ g))⟩
theorem Twice_eq{cyc:List Int}(hc:cyc.length<=512)(hm:∀ d∈cyc,md0 d/\d≠0/\∃ a∈ars,a.1=jo0 d):ar0 ((ns,ars,fs),cyc)=some (S4 ns ars cyc):=by
 have sl:=fun (p0:Pt) (l:List Pt) hl f hc K=>pd0 (β:=Int) p0 l hl f hc K;unfold ar0;have hlen:decide ((512:Int)<(cyc.length:Int))=false:=by simp only[An];omega
 simp only[b9,hlen,Aa];refine(p8 (A:=Int) cyc (fun i a=>(a,(i:Int))) (fun a rest=>some (a+S4 ns ars rest)) (fun i a=>-(571746046443520*(i:Int))<=a/\a<=571746046443520*(i:Int)) (by omega) ?_ ?_ 0 ⟨by simp,by simp⟩).trans (by simp)
 ·intro rec a r
  simp only[A9,Aa,S4,eJ]
 intro rec i a d rest hi r m o;have g:d∈cyc:=by
  have:d∈cyc.drop i:=by rw[m];simp
  exact bf this
 obtain⟨s,f,p,c,hid⟩:=hm d g;obtain⟨d1,d2⟩:=s;have e:ct0 ars (jo0 d)=some p:=by rw[<- hid];exact h.arcOf_self c
 obtain⟨p0,l,hp,hl,q,cl⟩:=h.dart_path ⟨p,c,hid⟩;have e1:aa.wrap (0-d)=-d:=by rw[w64 (by omega) (by omega)];omega
 have j:pathOf ns ars (max d (-d))=some (p0::l):=hp;simp only[A5 hi,Ac,l9 m,b9,h.arcOfD_eq ⟨d1,d2⟩,f,Ah,e,aA,Aa,e1,eP0,h.Path_eq,j,Ai];have e3:aa.wrap (((p0::l).length:Int)-1)=(l.length:Int):=by rw[w64 (by simp only[ay];omega) (by simp only[ay];omega)];simp only[ay];omega
 simp only[e3];refine(sl p0 l (by omega) q cl (fun A=>bif decide (d<0)then rec (aa.wrap (a+aa.wrap (0-A)),aa.wrap ((i:Int)+1))else rec (aa.wrap (a+A),aa.wrap ((i:Int)+1)))).trans ?_;obtain⟨u,v⟩:=bW0 l p0 q cl;have w:-571746046443520<=L8 p0 l/\L8 p0 l<=571746046443520:=by omega
 have e2:aa.wrap ((i:Int)+1)=((i+1:Nat):Int):=w9 (n:=2000000) (by omega) (by omega);simp only[e2];by_cases b:d<0
 ·have t:aa.wrap (0-L8 p0 l)=-(L8 p0 l):=by rw[w64 (by omega) (by omega)];omega
  have k:aa.wrap (a+-(L8 p0 l))=a+-(L8 p0 l):=w64 (by omega) (by omega);simp only[b,Ai,Ac,t,k];rw[o (a+-(L8 p0 l)) (by omega)];simp only[S4,vq0,hp,b,Al];congr 1;omega
 have k:aa.wrap (a+L8 p0 l)=a+L8 p0 l:=w64 (by omega) (by omega);simp only[b,Ag,Aa,k];rw[o (a+L8 p0 l) (by omega)];simp only[S4,vq0,hp,b,Ah];congr 1;omega
end cw0
def MQ0(L:List aX0)(b:Nat):Int:=((L[b]?).map (fun x=>x.1)).getD 0
def gO0(m:List (Int×List Pt))(at':Pt)(L:List aX0):List aX0->Nat->Nat->Nat
 | [],_,b=>b
 | x::r,i,b=>gO0 m at' L r (i+1) (bif (decide (b=0)||decide (x.1<MQ0 L b))&&Lh0 m x.2.1 at' then i else b)
def gj0(m:List (Int×List Pt))(L:List aX0)(at':Pt):Nat:=gO0 m at' L L.tail 1 0
theorem lb0(m:List (Int×List Pt))(at':Pt)(L:List aX0):∀ (r:List aX0) (i b n:Nat),i+r.length<=n->b<n->gO0 m at' L r i b<n
 | [],_,b,n,_,a=>a
 | x::r,i,b,n,hi,a=>by
  simp only[gO0];simp only[ay]at hi;refine lb0 m at' L r (i+1) _ n (by omega) ?_;cases (decide (b=0)||decide (x.1<MQ0 L b))&&Lh0 m x.2.1 at'
  ·exact a
  simp only[Ac];omega
theorem lu0{β:Type}(m:List (Int×List Pt))(at':Pt)(c:aX0)(l:List aX0)(hl:l.length<=1000000)(hp:∀ a∈l,gu0 m a.2.1)(K:Int×Int->Option β) :
  rounds (α:=Int×Int) (β:=β) (fun d b=>
    bif (decide (b.1<(((c::l).length:Nat):Int)))then (
    bif (decide (b.2=(0:Int)))then (
     b8 ((bif decide (0<=b.1)&&decide (b.1<(((c::l).length:Nat):Int))then some ()else none)) fun _=>
     b8 (((c::l)[(b.1).toNat]?).map (fun x=>x.2.1)) fun v32=>
     b8 (y6 (m,v32,(at'.1,at'.2))) fun v33=>
     bif v33 then (
     d (aa.wrap (b.1+(1:Int)),b.1))else (
     d (aa.wrap (b.1+(1:Int)),b.2)))else (
     b8 ((bif decide (0<=b.1)&&decide (b.1<(((c::l).length:Nat):Int))then some ()else none)) fun _=>
     b8 (((c::l)[(b.1).toNat]?).map (fun x=>x.1)) fun v32=>
     b8 ((bif decide (0<=b.2)&&decide (b.2<(((c::l).length:Nat):Int))then some ()else none)) fun _=>
     b8 (((c::l)[(b.2).toNat]?).map (fun x=>x.1)) fun v33=>
     bif (decide (v32<v33))then (
     b8 ((bif decide (0<=b.1)&&decide (b.1<(((c::l).length:Nat):Int))then some ()else none)) fun _=>
     b8 (((c::l)[(b.1).toNat]?).map (fun x=>x.2.1)) fun v35=>
     b8 (y6 (m,v35,(at'.1,at'.2))) fun v36=>
     bif v36 then (
      d (aa.wrap (b.1+(1:Int)),b.1))else (
      d (aa.wrap (b.1+(1:Int)),b.2)))else (
     d (aa.wrap (b.1+(1:Int)),b.2))))else (
    K b)) ((1:Int),(0:Int))=K (((l.length+1:Nat):Int),((gj0 m (c::l) at':Nat):Int)):=by
 have e:(((c::l).length:Nat):Int)=((l.length+1:Nat):Int):=by simp
 refine(p8 (A:=Nat) l (fun i a=>(((i+1:Nat):Int),(a:Int))) (fun a rest=>K (((l.length+1:Nat):Int),((gO0 m at' (c::l) rest (l.length-rest.length+1) a:Nat):Int))) (fun i a=>a<i+1) (by omega) ?_ ?_ 0 (by omega)).trans ?_
 ·intro rec a t
  simp only[e,A9,Aa,gO0]
 ·intro rec i a x rest hi t j p
  have f:l.length-(x::rest).length+1=i+1:=by have:=Ap gn j;simp only[gO,ay]at this ⊢;omega
  have g:l.length-rest.length+1=i+1+1:=by simp only[ay]at f;have:=Ap gn j;simp only[gO,ay]at this;omega
  have u:(c::l)[i+1]?=some x:=by rw[aR,<-C3];exact l9 j
  have k:x∈l:=by
   have:x∈l.drop i:=by rw[j];simp
   exact bf this
  have ha:a<(c::l).length:=by simp only[ay];omega
  have q:(c::l)[a]?=some ((c::l)[a]'ha):=ai ha;have e2:aa.wrap (((i+1:Nat):Int)+1)=((i+1+1:Nat):Int):=w9 (n:=2000000) (by omega) (by omega);have e3:(decide (0<=((i+1:Nat):Int))&&decide (((i+1:Nat):Int)<((l.length+1:Nat):Int)))=true:=by simp;omega
  have e4:(decide (0<=(a:Int))&&decide ((a:Int)<((l.length+1:Nat):Int)))=true:=by simp;omega
  have e5:decide ((a:Int)=0)=decide (a=0):=by by_cases h:a=0<;>simp[h]
  have o:=mX0 (hp x k) at';simp only[e,A5 (show i+1<l.length+1 by omega),Ac,e2,e3,e4,e5,cS,u,q,ak,b9,o];have r:=p (i+1) (by omega);have s:=p a (by omega);simp only[g]at r s;rw[r,s,f];have v:MQ0 (c::l) a=((c::l)[a]'ha).1:=by simp[MQ0,q]
  simp only[gO0,v];cases h1:decide (a=0)<;>cases h2:decide (x.1<((c::l)[a]'ha).1)<;>cases w:Lh0 m x.2.1 at'<;>rfl
 simp only[Nat.sub_self,Nat.zero_add,gj0,eU]
abbrev tI0:=Int×List Int×Unit×Unit
def addI(L:List aX0)(k:Nat)(c:List Int):List aX0:=match L[k]? with
 | some x=>L.set k (x.1,x.2.1,x.2.2.1++[c],x.2.2.2)
 | none=>L
def addN(L:List aX0)(k:Nat)(n:Int):List aX0:=match L[k]? with
 | some x=>L.set k (x.1,x.2.1,x.2.2.1,x.2.2.2++[n])
 | none=>L
structure pi0(m:List (Int×List Pt))(L:List aX0)(n i j:Nat):Prop where
 len:L.length=n+1
 out:∀ a∈L.tail,gu0 m a.2.1
 inn:∀ a∈L,a.2.2.1.length<=i
 alo:∀ a∈L,a.2.2.2.length<=j
theorem bd0{α:Type}{L:List α}{k:Nat}{y a:α}(h:a∈(L.set k y).tail):a∈L.tail\/(a=y/\1<=k/\k<L.length):=by
 cases L with
 | nil=>simp at h
 | cons x l=>
  cases k with
  | zero=>simp at h;exact .inl (by simpa using h)
  | succ k=>
   simp only[List.set_cons_succ,eU]at h ⊢;by_cases hk:k<l.length
   ·rcases bW h with h | h
    ·exact .inl h
    exact .inr ⟨h,by omega,by simp;omega⟩
   rw[List.set_eq_of_length_le (by omega)]at h;exact .inl h
theorem go0{α:Type}{L:List α}{k:Nat}{x:α}(h:L[k]?=some x)(hk:1<=k):x∈L.tail:=by
 cases L with
 | nil=>simp at h
 | cons y l=>
  cases k with
  | zero=>omega
  | succ k=>rw[aR]at h;exact aN h
theorem pi0.addI{m:List (Int×List Pt)}{L:List aX0}{n i j k:Nat}(h:pi0 m L n i j)(c:List Int):pi0 m (addI L k c) n (i+1) j:=by
 unfold Go.Ab.addI;cases d:L[k]? with
 | none=>exact⟨h.len,h.out,fun a ha=>by have:=h.inn a ha;omega,h.alo⟩
 | some x=>
  have b:=aN d;refine⟨by simp[h.len],fun a ha=>?_,fun a ha=>?_,fun a ha=>?_⟩
  ·rcases bd0 ha with ha | ⟨rfl,hk,_⟩
   ·exact h.out a ha
   exact h.out x (go0 d hk)
  ·rcases bW ha with ha | rfl
   ·have:=h.inn a ha;omega
   have:=h.inn x b;simp;omega
  rcases bW ha with ha | rfl
  ·exact h.alo a ha
  exact h.alo x b
theorem pi0.addN{m:List (Int×List Pt)}{L:List aX0}{n i j k:Nat}(h:pi0 m L n i j)(c:Int):pi0 m (addN L k c) n i (j+1):=by
 unfold Go.Ab.addN;cases d:L[k]? with
 | none=>exact⟨h.len,h.out,h.inn,fun a ha=>by have:=h.alo a ha;omega⟩
 | some x=>
  have b:=aN d;refine⟨by simp[h.len],fun a ha=>?_,fun a ha=>?_,fun a ha=>?_⟩
  ·rcases bd0 ha with ha | ⟨rfl,hk,_⟩
   ·exact h.out a ha
   exact h.out x (go0 d hk)
  ·rcases bW ha with ha | rfl
   ·exact h.inn a ha
   exact h.inn x b
  rcases bW ha with ha | rfl
  ·have:=h.alo a ha;omega
  have:=h.alo x b;simp;omega
theorem pi0.cons{m:List (Int×List Pt)}{L:List aX0}{n i j:Nat}(h:pi0 m L n i j):∃ a l,L=a::l:=by
 cases L with
 | nil=>have:=h.len;simp at this
 | cons x l=>exact⟨x,l,rfl⟩
theorem pi0.find_lt{m:List (Int×List Pt)}{L:List aX0}{n i j:Nat}(h:pi0 m L n i j)(p:Pt):gj0 m L p<L.length:=by obtain⟨a,l,rfl⟩:=h.cons;exact lb0 m p _ l 1 0 _ (by simp;omega) (by simp)
def gQ0(m:List (Int×List Pt))(c:List Int):Pt:=((((lkp qI (jo0 (c.headD 0)) m).getD [])[0]?).getD (0,0))
def inF(m:List (Int×List Pt)):List (List Int)->List aX0->List aX0
 | [],L=>L
 | c::r,L=>inF m r (addI L (gj0 m L (gQ0 m c)) c)
def aloF(ns:List Nd)(ars:List Ar)(m:List (Int×List Pt)):List Nd->List aX0->List aX0
 | [],L=>L
 | n::r,L=>aloF ns ars m r (bif decide (Z3 ars n.1=0)then addN L (gj0 m L (n.2.1,n.2.2)) n.1 else L)
def LF0(ns:List Nd)(ars:List Ar)(cs:List (List Int)):List aX0:=(0,[],[],[])::(cs.filter fun c=>decide (0<S4 ns ars c)).map fun c=>(S4 ns ars c,c,[],[])
def cR0(ns:List Nd)(ars:List Ar)(m:List (Int×List Pt))(cs:List (List Int)):List aX0 :=aloF ns ars m ns (inF m (cs.filter fun c=>!decide (0<S4 ns ars c)) (LF0 ns ars cs))
structure qH0(ars:List Ar)(cs:List (List Int)):Prop where
 len:cs.length<=512
 cyc:∀ c∈cs,c≠[]/\c.length<=512/\∀ d∈c,md0 d/\d≠0/\∃ a∈ars,a.1=jo0 d
namespace cw0
variable {ns:List Nd} {ars:List Ar} {fs:List Int} (h:cw0 ns ars fs)
include h
theorem dart_look{d:Int}(b:∃ a∈ars,a.1=jo0 d):∃ p0 l,lkp qI (jo0 d) (H5 ns ars)=some (p0::l)/\l.length<=65:=by obtain⟨p0,l,hp,hl,_,_⟩:=h.dart_path b;obtain⟨a,ha,hid⟩:=b;exact⟨p0,l,by rw[<- hid,h.pathsM_look ha,hid];exact hp,hl⟩
theorem paths_for{cs:List (List Int)}(hc:qH0 ars cs){c:List Int}(hm:c∈cs):gu0 (H5 ns ars) c:=by obtain⟨_,h1,h2⟩:=hc.cyc c hm;refine⟨by omega,fun d a=>?_⟩;obtain⟨g1,_,g3⟩:=h2 d a;obtain⟨p0,l,hl,b⟩:=h.dart_look g3;exact⟨g1,p0,l,hl,by omega⟩
theorem divide_eq{cs:List (List Int)}(hc:qH0 ars cs):T2 ((ns,ars,fs),cs,H5 ns ars)=some (cR0 ns ars (H5 ns ars) cs):=by
 have I:ns.length<=256:=by have:=h.sml;simp only[dK0,ab,Ad]at this;exact this.1
 unfold T2;simp only[b9];let Z:aX0->tI0:=fun a=>(a.1,a.2.1,(),());have hZ:∀ (l:List tI0),l.map (fun x=>((x.1,x.2.1,([]:List (List Int)),([]:List Int)):aX0))=l.map (fun x=>(x.1,x.2.1,[],[])):=fun _=>rfl;refine(p8 (A:=List (List Int)×List tI0) cs (fun i a=>(a.1,(i:Int),false,a.2))
  (fun a rest=>some (aloF ns ars (H5 ns ars) ns (inF (H5 ns ars) (a.1++rest.filter fun c=>!decide (0<S4 ns ars c)) ((a.2.map fun x=>(x.1,x.2.1,[],[]))++(rest.filter fun c=>decide (0<S4 ns ars c)).map fun c=>(S4 ns ars c,c,[],[])))))
  (fun i a=>a.1.length<=i/\a.2.length<=i+1/\a.2≠[]/\(∀ c∈a.1,c∈cs)/\∀ x∈a.2.tail,x.2.1∈cs) (by have:=hc.len;omega) ?_ ?_ ([],[(0,[],(),())]) ⟨by simp,by simp,by simp,by simp,by simp⟩).trans ?_
 ·intro rec a J
  obtain⟨i1,i2,i3,i4,i5⟩:=J;have hlen:=hc.len;have z:ownO (fun x:tI0=>((x.1,x.2.1,([]:List (List Int)),([]:List Int)):aX0)) a.2=some (a.2.map fun x=>(x.1,x.2.1,[],[])):=by
   unfold ownO;have:decide (16*a.2.length<=O6)=true:=by simp only[Ad,O6];omega
   rw[this];rfl
  simp only[A9,Aa,z,b9,List.filter_nil,bw,cB];have U:pi0 (H5 ns ars) (a.2.map fun x=>((x.1,x.2.1,[],[]):aX0)) (a.2.length-1) 0 0:=by
   obtain⟨y,l,hl⟩:∃ y l,a.2=y::l:=by
    cases K:a.2 with
    | nil=>exact Am K i3
    | cons y l=>exact⟨y,l,rfl⟩
   rw[hl]at i5 ⊢;refine⟨by simp,fun b w=>?_,fun b w=>?_,fun b w=>?_⟩
   ·simp only[az,eU]at w
    obtain⟨x,f,rfl⟩:=aM.1 w;exact h.paths_for hc (i5 x f)
   ·obtain⟨x,f,rfl⟩:=aM.1 w;simp
   obtain⟨x,f,rfl⟩:=aM.1 w;simp
  generalize V:(a.2.map fun x=>((x.1,x.2.1,[],[]):aX0))=Y at *;have hnl:a.2.length-1<=1000000:=by omega
  generalize a.2.length-1=S at *;generalize hR:a.1=R at *;have hRl:R.length<=512:=by omega
  refine(p8 (A:=List aX0) R (fun i L=>((i:Int),L)) (fun L rest=>some (aloF ns ars (H5 ns ars) ns (inF (H5 ns ars) rest L))) (fun i L=>pi0 (H5 ns ars) L S i 0) (by omega) ?_ ?_ Y U)
  ·intro rec L g
   simp only[A9,Aa,inF];refine(p8 (A:=List aX0) ns (fun i L=>((i:Int),L)) (fun L rest=>some (aloF ns ars (H5 ns ars) rest L)) (fun i L=>pi0 (H5 ns ars) L S R.length i) (by omega) ?_ ?_ L g)
   ·intro rec L g
    simp only[A9,Aa,aloF]
   intro rec j L n rest hj g t u;have e2:aa.wrap ((j:Int)+1)=((j+1:Nat):Int):=w9 (n:=2000000) (by omega) (by omega);have B:=bn0 ns ars fs n.1 (by have:=h.lenA;omega);have e3:decide (((Z3 ars n.1:Nat):Int)=0)=decide (Z3 ars n.1=0):=by by_cases hz:Z3 ars n.1=0<;>simp[hz]
   simp only[A5 hj,Ac,l9 t,b9,B,e3,e2,aloF];cases hz:decide (Z3 ars n.1=0)with
   | false=>simp only[Aa];exact u L ⟨g.len,g.out,g.inn,fun x f=>by have:=g.alo x f;omega⟩
   | true=>
    simp only[Ac];obtain⟨o,l,p⟩:=g.cons;have v:l.length<=1000000:=by have:=g.len;rw[p]at this;simp at this;omega
    have m:=g.find_lt (n.2.1,n.2.2);have q:=u _ (g.addN (k:=gj0 (H5 ns ars) L (n.2.1,n.2.2)) n.1);have C:=g.alo;have r:=g.out;subst p;refine(lu0 (β:=List aX0) (H5 ns ars) (n.2.1,n.2.2) o l v r _).trans ?_;generalize gj0 (H5 ns ars) (o::l) (n.2.1,n.2.2)=k at *;have hk:(o::l)[k]?=some ((o::l)[k]'m):=ai m;have M:=C _ (aw m);generalize (o::l)[k]'m=y at *;have e4:(decide (0<=(k:Int))&&decide ((k:Int)<(((o::l).length:Nat):Int)))=true:=by simp only[ab,Ad];omega
    have e:Q5 8 y.2.2.2 [n.1]=some (y.2.2.2++[n.1]):=C7 (by omega) (by simp;omega);simp only[cS,hk,ak,b9,e4,Ac,inO,e,setO];simp only[addN,hk]at q ⊢;exact q
  intro rec j L c rest hj g t u;have s:c∈cs:=by
   refine i4 c ?_;have:c∈R.drop j:=by rw[t];simp
   exact bf this
  obtain⟨c1,c2,N⟩:=hc.cyc c s;obtain⟨d,cr,rfl⟩:∃ d cr,c=d::cr:=by
   cases c with
   | nil=>exact Am rfl c1
   | cons d cr=>exact⟨d,cr,rfl⟩
  obtain⟨⟨d1,d2⟩,_,g3⟩:=N d (by simp);obtain⟨p0,pl,D,_⟩:=h.dart_look g3;have e1:aa.wrap (0-d)=-d:=by rw[w64 (by omega) (by omega)];omega
  have e2:aa.wrap ((j:Int)+1)=((j+1:Nat):Int):=w9 (n:=2000000) (by omega) (by omega);have e3:(decide (0<=(j:Int))&&decide ((j:Int)<((R.length:Nat):Int)))=true:=by simp only[ab,Ad];omega
  have O:R[j]?=some (d::cr):=by rw[<- C3];exact l9 t
  have n0:nth (d::cr) (0:Int)=some d:=by have:=C3 (d::cr) 0;exact this
  have n1:nth (p0::pl) (0:Int)=some p0:=by have:=C3 (p0::pl) 0;exact this
  have E:lkp (fun (a b:Int)=>decide (a=b)) (max d (-d)) (H5 ns ars)=some (p0::pl):=D;have e5:orO (some (p0::pl)) (none:Option (List Pt))=some (p0::pl):=rfl;have P:gQ0 (H5 ns ars) (d::cr)=p0:=by simp[gQ0,D]
  simp only[A5 hj,Ac,e3,b9,cS,O,ak,n0,e1,eP0,E,e5,n1,e2,inF,P];obtain⟨o,l,p⟩:=g.cons;have v:l.length<=1000000:=by have:=g.len;rw[p]at this;simp at this;omega
  have m:=g.find_lt p0;have q:=u _ (g.addI (k:=gj0 (H5 ns ars) L p0) (d::cr));have G:=g.inn;have r:=g.out;subst p;refine(lu0 (β:=List aX0) (H5 ns ars) p0 o l v r _).trans ?_;generalize gj0 (H5 ns ars) (o::l) p0=k at *;have hk:(o::l)[k]?=some ((o::l)[k]'m):=ai m;have M:=G _ (aw m);generalize (o::l)[k]'m=y at *;have e4:(decide (0<=(k:Int))&&decide ((k:Int)<(((o::l).length:Nat):Int)))=true:=by simp only[ab,Ad];omega
  have e:Q5 24 y.2.2.1 [d::cr]=some (y.2.2.1++[d::cr]):=C7 (by omega) (by simp;omega);simp only[cS,hk,ak,b9,e4,Ac,inO,e,setO];simp only[addI,hk]at q ⊢;exact q
 ·intro rec i a c rest hi J t u
  obtain⟨i1,i2,i3,i4,i5⟩:=J;have s:c∈cs:=by
   have:c∈cs.drop i:=by rw[t];simp
   exact bf this
  obtain⟨c1,c2,N⟩:=hc.cyc c s;have Q:ar0 ((ns,ars,fs),c)=some (S4 ns ars c):=h.Twice_eq c2 N;have e2:aa.wrap ((i:Int)+1)=((i+1:Nat):Int):=w9 (n:=2000000) (by have:=hc.len;omega) (by omega);have hlen:=hc.len;simp only[A5 hi,Ac,l9 t,b9,Q,e2];by_cases H:0<S4 ns ars c
  ·have e:Q5 80 a.2 [(S4 ns ars c,c,(),())]=some (a.2++[(S4 ns ars c,c,(),())]):=C7 (by omega) (by simp;omega)
   simp only[H,Ai,Ac,e,b9];have:=u (a.1,a.2++[(S4 ns ars c,c,(),())]) ⟨by show a.1.length<=i+1;omega,by simp;omega,by simp,i4,fun x f=>?_⟩
   ·rw[this]
    simp[H,cA]
   obtain⟨y,l,hl⟩:∃ y l,a.2=y::l:=by
    cases K:a.2 with
    | nil=>exact Am K i3
    | cons y l=>exact⟨y,l,rfl⟩
   simp only[hl,dB,eU]at f i5;rcases aQ.1 f with f | f
   ·exact i5 x f
   simp at f;subst f;exact s
  have e:Q5 24 a.1 [c]=some (a.1++[c]):=C7 (by omega) (by simp;omega);simp only[H,Ag,Aa,e,b9];have:=u (a.1++[c],a.2) ⟨by simp;omega,by show a.2.length<=i+1+1;omega,i3,fun x f=>?_,i5⟩
  ·rw[this]
   simp[H,cA]
  rcases aQ.1 f with f | f
  ·exact i4 x f
  simp at f;subst f;exact s
 simp[cR0,LF0]
end cw0
theorem qG0(D S:List Int):S6 D S<=D.length:=dt _ _
theorem fm0{nx:Int->Int}{D:List Int}(b:∀ d∈D,nx d∈D):∀ (n:Nat) (S:List Int) (d:Int) (c:List Int),d∈D->(∀ x∈c,x∈D) ->
  (∀ x∈(O9 nx n S d c).1,x∈D)/\(O9 nx n S d c).1.length+S6 D (O9 nx n S d c).2<=c.length+S6 D S/\c.length<=(O9 nx n S d c).1.length
 | 0,S,d,c,_,hc=>by simp only[O9];exact⟨hc,by omega,by omega⟩
 | n+1,S,d,c,e,hc=>by
  unfold O9;split
  ·exact⟨hc,ax _,ax _⟩
  rename_i hs;obtain⟨h1,h2,f⟩:=fm0 b n (S++[d]) (nx d) (c++[d]) (b d e) (fun x a=>by
   rcases aQ.1 a with a | a
   ·exact hc x a
   simp at a;subst a;exact e)
  have:=lE0 e hs;simp only[aK,cZ]at h2 f;exact⟨h1,by omega,by omega⟩
theorem fp0{nx:Int->Int}{D:List Int}(a:∀ d∈D,nx d∈D):∀ (b S:List Int) (acc:List (List Int)),(∀ d∈b,d∈D)->(∀ c∈acc,c≠[]/\c.length<=D.length/\∀ d∈c,d∈D) ->
  (V5 nx D b S acc).length<=acc.length+b.length/\∀ c∈V5 nx D b S acc,c≠[]/\c.length<=D.length/\∀ d∈c,d∈D
 | [],S,acc,_,ha=>by simp only[V5];exact⟨by simp,ha⟩
 | d::b,S,acc,f,ha=>by
  unfold V5;split
  ·obtain⟨h1,h2⟩:=fp0 a b S acc (fun x g=>f x (by simp[g])) ha
   exact⟨by simp only[ay];omega,h2⟩
  rename_i hs;have e:=f d (by simp);obtain⟨g1,g2,g3⟩:=fm0 a (S6 D S+1) S d [] e (by simp);have h:(O9 nx (S6 D S+1) S d []).1≠[]:=by unfold O9;rw[Ae hs];have:=(fm0 a (S6 D S) (S++[d]) (nx d) ([]++[d]) (a d e) (by simpa using e)).2.2;intro he;rw[he]at this;simp at this
  obtain⟨h1,h2⟩:=fp0 a b (O9 nx (S6 D S+1) S d []).2 (acc++[(O9 nx (S6 D S+1) S d []).1]) (fun x g=>f x (by simp[g])) (fun c hc=>by
   rcases aQ.1 hc with hc | hc
   ·exact ha c hc
   simp at hc;subst hc;have:=qG0 D S;simp only[bx]at g2;exact⟨h,by omega,g1⟩)
  simp only[aK,cZ]at h1;exact⟨by simp only[ay];omega,h2⟩
namespace cw0
variable {ns:List Nd} {ars:List Ar} {fs:List Int} (h:cw0 ns ars fs)
include h
theorem cycs_ok:qH0 ars (cyclesOf ns ars):=by
 have f:=h.darts_len;obtain⟨h1,h2⟩:=fp0 (nx:=nextD ns ars) (D:=K0 ns ars) (fun d e=>h.next_mem e) ((K0 ns ars).mergeSort fun a b=>decide (a<=b)) [] [] (fun d e=>(dj _ _).mem_iff.1 e) (by simp);have hl:((K0 ns ars).mergeSort fun a b=>decide (a<=b)).length=(K0 ns ars).length:=(dj _ _).length_eq;refine⟨by show (V5 ..).length<=_;simp only[bx]at h1;omega,fun c hc=>?_⟩;obtain⟨g1,g2,g3⟩:=h2 c hc;refine⟨g1,by omega,fun d e=>?_⟩;obtain⟨a,ha,he⟩:=h.mem_darts.1 (g3 d e);have g:=h.num ha;refine⟨?_,?_,a,ha,?_⟩
 ·unfold md0;rcases he with rfl | rfl<;>omega
 ·rcases he with rfl | rfl<;>omega
 unfold jo0;rcases he with rfl | rfl<;>omega
end cw0
structure ArQ(L:List aX0)(i:Nat):Prop where
 all:∀ a∈L,((∀ d∈a.2.1,md0 d)/\a.2.1.length<=1000000)/\(∀ c∈a.2.2.1,(∀ d∈c,md0 d)/\c.length<=1000000)/\a.2.2.1.length<=i
 ne:∀ a∈L.tail,a.2.1≠[]
theorem ArQ.addI{L:List aX0}{i k:Nat}(h:ArQ L i){c:List Int}(hc:(∀ d∈c,md0 d)/\c.length<=1000000):ArQ (addI L k c) (i+1):=by
 unfold Go.Ab.addI;cases f:L[k]? with
 | none=>exact⟨fun a ha=>by obtain⟨h1,h2,g⟩:=h.all a ha;exact⟨h1,h2,by omega⟩,h.ne⟩
 | some x=>
  have e:=aN f;refine⟨fun a ha=>?_,fun a ha=>?_⟩
  ·rcases bW ha with ha | rfl
   ·obtain⟨h1,h2,g⟩:=h.all a ha;exact⟨h1,h2,by omega⟩
   obtain⟨h1,h2,g⟩:=h.all x e;refine⟨h1,fun c' b=>?_,by simp;omega⟩;rcases aQ.1 b with b | b
   ·exact h2 c' b
   simp at b;subst b;exact hc
  rcases bd0 ha with ha | ⟨rfl,hk,_⟩
  ·exact h.ne a ha
  exact h.ne x (go0 f hk)
theorem ArQ.addN{L:List aX0}{i k:Nat}(h:ArQ L i)(n:Int):ArQ (addN L k n) i:=by
 unfold Go.Ab.addN;cases c:L[k]? with
 | none=>exact h
 | some x=>
  have b:=aN c;refine⟨fun a ha=>?_,fun a ha=>?_⟩
  ·rcases bW ha with ha | rfl
   ·exact h.all a ha
   exact h.all x b
  rcases bd0 ha with ha | ⟨rfl,hk,_⟩
  ·exact h.ne a ha
  exact h.ne x (go0 c hk)
theorem ArQ.inF{m:List (Int×List Pt)}:∀ (r:List (List Int)) (L:List aX0) (i:Nat),ArQ L i->(∀ c∈r,(∀ d∈c,md0 d)/\c.length<=1000000)->ArQ (inF m r L) (i+r.length)
 | [],L,i,h,_=>h
 | c::r,L,i,h,a=>by have:=ArQ.inF (m:=m) r _ (i+1) (h.addI (k:=gj0 m L (gQ0 m c)) (a c (by simp))) (fun x b=>a x (by simp[b]));simp only[Go.Ab.inF,ay];rw[show i+(r.length+1)=i+1+r.length by omega];exact this
theorem ArQ.aloF{ns:List Nd}{ars:List Ar}{m:List (Int×List Pt)}{i:Nat}:∀ (r:List Nd) (L:List aX0),ArQ L i->ArQ (aloF ns ars m r L) i
 | [],L,h=>h
 | n::r,L,h=>by
  simp only[Go.Ab.aloF];cases decide (Z3 ars n.1=0)with
  | false=>exact ArQ.aloF r L h
  | true=>exact ArQ.aloF r _ (h.addN n.1)
theorem qt0{m:List (Int×List Pt)}:∀ (r:List (List Int)) (L:List aX0),(inF m r L).length=L.length
 | [],L=>rfl
 | c::r,L=>by simp only[inF];rw[qt0 r];unfold addI;cases L[gj0 m L (gQ0 m c)]?<;>simp
theorem nN0{ns:List Nd}{ars:List Ar}{m:List (Int×List Pt)}:∀ (r:List Nd) (L:List aX0),(aloF ns ars m r L).length=L.length
 | [],L=>rfl
 | n::r,L=>by
  simp only[aloF];rw[nN0 r];cases decide (Z3 ars n.1=0)with
  | false=>rfl
  | true=>simp only[Ac];unfold addN;cases L[gj0 m L (n.2.1,n.2.2)]?<;>simp
open cw0 (cyclesOf)
def L9(ns:List Nd)(ars:List Ar)(fs:List Int):Int:=bif decide (M8 ns ars fs=0)then (bif (ek0 ars fs.length true (cR0 ns ars (H5 ns ars) (cyclesOf ns ars)) [] []).2 then 0 else 12)else M8 ns ars fs
theorem hE0(ns:List Nd)(ars:List Ar)(fs:List Int):Y1 (ns,ars,fs)=some (L9 ns ars fs):=by
 unfold Y1 L9;by_cases hp:M8 ns ars fs=0
 ·have h:=aI0.1 hp
  have hc:=h.cycs_ok;have g:ArQ (cR0 ns ars (H5 ns ars) (cyclesOf ns ars)) 512:=by
   have e:∀ c∈cyclesOf ns ars,(∀ d∈c,md0 d)/\c.length<=1000000:=fun c b=>by obtain⟨_,g2,g3⟩:=hc.cyc c b;exact⟨fun d i=>(g3 d i).1,by omega⟩
   have f:ArQ (LF0 ns ars (cyclesOf ns ars)) 0:=by
    refine⟨fun a ha=>?_,fun a ha=>?_⟩
    ·rcases aC.1 ha with rfl | ha
     ·simp
     obtain⟨c,b,rfl⟩:=aM.1 ha;exact⟨e c (aV.1 b).1,by simp,by simp⟩
    simp only[LF0,eU]at ha;obtain⟨c,b,rfl⟩:=aM.1 ha;exact(hc.cyc c (aV.1 b).1).1
   have:=ArQ.aloF (ns:=ns) (ars:=ars) (m:=H5 ns ars) ns _ (ArQ.inF (m:=H5 ns ars) ((cyclesOf ns ars).filter fun c=>!decide (0<S4 ns ars c)) _ 0 f (fun c b=>e c (aV.1 b).1));refine⟨fun a ha=>?_,this.ne⟩;obtain⟨h1,h2,j⟩:=this.all a ha;have hl:=dt (fun c=>!decide (0<S4 ns ars c)) (cyclesOf ns ars);have:=hc.len;exact⟨h1,h2,by omega⟩
  have hlen:(cR0 ns ars (H5 ns ars) (cyclesOf ns ars)).length<=1000000:=by unfold cR0;rw[nN0,qt0];have hl:=dt (fun c=>decide (0<S4 ns ars c)) (cyclesOf ns ars);have:=hc.len;simp only[LF0,ay,aD];omega
  have hf:=h.faces_eq (l:=cR0 ns ars (H5 ns ars) (cyclesOf ns ars)) hlen (fun a ha=>by obtain⟨h1,h2,j⟩:=g.all a ha;exact⟨h1,h2,by omega⟩) g.ne;simp only[h.Cycles_eq,b9,Ai,aA,Aa,h.pathsOf_eq,h.divide_eq hc,hf,hp,Ac];cases (ek0 ars fs.length true (cR0 ns ars (H5 ns ars) (cyclesOf ns ars)) [] []).2<;>rfl
 simp only[hN0 hp,b9,hp,Ag,aY,Ac,Aa]
end Go.Ab
namespace Go.Ab
open Go Go.Sort Go.Proofs Go.Shelf
def fL0:List (Int×Int×Int):=[(32,32,0),(39,41,0),(45,46,0),(48,57,0),(65,90,1),(97,122,1),(192,214,1),(216,246,1),(248,591,1),(880,1023,2),(1024,1279,3),(1488,1514,4),(19968,40959,5)]
def sc0(c:Int):List (Int×Int×Int)->Int
 | []=>-1
 | r::l=>bif decide (r.1<=c)&&decide (c<=r.2.1)then r.2.2 else sc0 c l
def fs0(r:Int):Int:=bif decide (r<0)||decide (1114111<r)then -1 else sc0 r fL0
theorem da0(r:Int):R6 r=some (fs0 r):=by
 unfold R6 fs0;by_cases h1:r<0
 ·simp[h1]
 by_cases h2:(1114111:Int)<r
 ·simp[h1,h2]
 have d:IntKind.i32.wrap r=r:=IntWalk.i32_in r ⟨by omega,by omega⟩;simp only[h1,h2,Ag,Aa,Bool.or_self,d,gl_0,b9];refine r9 (A:=Unit) fL0 (fun i _=>(i:Int)) (fun _ rest=>some (sc0 r rest)) (by simp[fL0]) ?_ ?_ ()
 ·intro rec a
  simp[fL0,sc0]
 intro rec i a x rest hi e f;have e1:decide ((i:Int)<13)=true:=by simp only[fL0,ay,bx]at hi;simp only[Ad];omega
 have e2:nth fL0 (i:Int)=some x:=l9 e;have e3:aa.wrap ((i:Int)+1)=((i+1:Nat):Int):=w9 (n:=100) (by simp only[fL0,ay,bx]at hi;omega) (by omega);simp only[fL0]at e2;simp only[e1,Ac,e2,b9,e3,sc0];have:=f ();by_cases b:x.1<=r
 ·by_cases c:r<=x.2.1
  ·simp[b,c]
  simp only[b,c,Ai,Ag,Ac,Aa,fU,this]
 simp only[b,Ag,Aa,iS,this]
theorem vP0(b:ByteArray)(n:Nat):1<=(bV b n).2/\(bV b n).2<=4/\(bV b n).1<=2097151:=by
 rw[Lib.decode_at];unfold Lib.decodeN
 repeat' split
 all_goals (dsimp only;omega)
theorem sv0{α β:Type}{F:(α->Option β)->α->Option β}(I:α->Prop)(a:α->Nat)(Q:β->Prop)(h:∀ rec x,I x->(∀ y,I y->a y<a x->∃ v,rec y=some v/\Q v)->∃ v,F rec x=some v/\Q v):∀ (n:Nat) (x:α),I x->a x<n->∃ v,iter F n x=some v/\Q v
 | 0,x,_,hm=>Am hm (Nat.not_lt_zero _)
 | n+1,x,hi,hm=>by show ∃ v,F (iter F n) x=some v/\Q v;exact h _ x hi fun y b c=>sv0 I a Q h n y b (by omega)
theorem L5{α β:Type}{F:(α->Option β)->α->Option β}(I:α->Prop)(a:α->Nat)(Q:β->Prop)(h:∀ rec x,I x->(∀ y,I y->a y<a x->∃ v,rec y=some v/\Q v)->∃ v,F rec x=some v/\Q v){x:α}(b:I x)(hm:a x<2^100):∃ v,rounds F x=some v/\Q v :=sv0 I a Q h many x b (dK hm ey0)
theorem pZ0(b:ByteArray)(g:b.size<=1000):∃ r,Y0 b=some r/\(r.2=0\/r.2=4)/\r.1.length<=1000:=by
 unfold Y0;refine L5 (fun x:List Int×Int=>0<=x.2/\x.2<=(b.size:Int)+4/\(x.1.length:Int)<=x.2/\x.1.length<=1000) (fun x:List Int×Int=>((b.size:Int)+4-x.2).toNat) (fun r:List Int×Int=>(r.2=0\/r.2=4)/\r.1.length<=1000) ?_ ⟨by simp,by simp only;omega,by simp,by simp⟩ (by simp only;omega);intro rec x d e;obtain⟨h1,h2,h,f⟩:=d;by_cases a:x.2.toNat<b.size
 ·obtain⟨i,j,k⟩:=vP0 b x.2.toNat
  have hs:rw0 b x.2=some ((x.2.toNat:Int),((bV b x.2.toNat).1:Int),((x.2.toNat+(bV b x.2.toNat).2:Nat):Int)):=by unfold rw0;simp[a]
  have e1:aa.wrap (((bV b x.2.toNat).1:Nat):Int)=(((bV b x.2.toNat).1:Nat):Int):=w64 (by omega) (by omega);have c:Q5 8 x.1 [(((bV b x.2.toNat).1:Nat):Int)]=some (x.1++[(((bV b x.2.toNat).1:Nat):Int)]):=C7 (by omega) (by simp;omega);simp only[a,Ai,Ac,hs,b9,e1,da0,c];by_cases hz:fs0 (((bV b x.2.toNat).1:Nat):Int)<0
  ·simp[hz]
  simp only[hz,Ag,Aa];exact e _ ⟨by omega,by simp only;omega,by simp only[aK,cZ];omega,by simp only[aK,cZ];omega⟩ (by simp only;omega)
 simp only[a,Ag,Aa];exact⟨_,rfl,.inl rfl,f⟩
theorem rD0{b:ByteArray}{i:Int}(a:0<=i)(h:i.toNat<b.size):∃ v,kT0 b i=some v:=by unfold kT0;have:b[i.toNat]?=some b[i.toNat]:=getElem?_pos b i.toNat h;simp[a,this]
theorem vn0(b:ByteArray):∃ r,cy0 b=some r:=by
 unfold cy0;cases he:(b.toList==(cD #[]).toList)with
 | true=>exact⟨_,rfl⟩
 | false=>
  simp only[Aa];by_cases g:(40:Int)<(b.size:Int)
  ·simp only[g,Ai,Ac];exact⟨_,rfl⟩
  have h:0<b.size:=by
   refine Nat.pos_of_ne_zero fun hz=>?_;have q:b=cD #[]:=by
    cases b with
    | mk d=>cases d with
     | mk l=>cases l with
      | nil=>rfl
      | cons x l=>simp[ByteArray.size]at hz
   rw[q]at he;simp at he
  obtain⟨r,s,e,t⟩:=pZ0 b (by omega);simp only[g,Ag,Aa,s,b9];rcases e with e | e
  ·obtain⟨u,w⟩:=rD0 (b:=b) (i:=0) (by omega) (by simpa using h)
   have e1:aa.wrap ((b.size:Int)-1)=(b.size:Int)-1:=w64 (by omega) (by omega);obtain⟨v11,j⟩:=rD0 (b:=b) (i:=(b.size:Int)-1) (by omega) (by omega);have hc:∃ v,strings_Contains (b,cD #[32,32])=some v:=by
    unfold strings_Contains;have:decide (b.size<4294967281)=true:=by simp only[Ad];omega
    simp only[this,Ac];exact⟨_,rfl⟩
   obtain⟨k,m⟩:=hc;simp only[e,Ai,aA,Aa,w,b9,e1,j,m];cases decide (u=32)with
   | true=>exact⟨_,rfl⟩
   | false=>
    simp only[Aa];cases decide (v11=32)with
    | true=>exact⟨_,rfl⟩
    | false=>
     simp only[Aa];cases k with
     | true=>exact⟨_,rfl⟩
     | false=>
      simp only[Aa,da0,b9];have:=r9 (A:=Unit) r.1 (β:=List Int×Int) (F:=fun n f=>
       bif decide (f<(r.1.length:Int))then b8 (nth r.1 f) fun o=>bif !decide (fs0 o=0)then some (r.1,0)else n (aa.wrap (f+1))else some ([],14)) (fun i _=>(i:Int)) (fun _ rest=>some (bif rest.any (fun c=>!decide (fs0 c=0))then (r.1,0)else ([],14))) (by omega) ?_ ?_ ()
      ·exact⟨_,this⟩
      ·intro rec a
       simp only[A9,Aa,gI]
      intro rec i a x rest hi z p;simp only[A5 hi,Ac,l9 z,b9,w9 hi (show r.1.length<2^62 by omega),fE,p ()];cases !decide (fs0 x=0)<;>rfl
  simp only[e];exact⟨_,rfl⟩
theorem jJ0(b:ByteArray):∃ c,W1 b=some c:=by obtain⟨r,a⟩:=vn0 b;unfold W1;rw[a];exact⟨_,rfl⟩
abbrev Ft:=Int×Int×Int×ByteArray×List Int
theorem O4{α:Type}(xs:List α)(hl:xs.length<=1000000)(P:α->Option Bool)(p:α->Bool)(hp:∀ x∈xs,P x=some (p x)) :
  rounds (α:=Int) (β:=Bool) (fun d b=>
   bif decide (b<((xs.length:Nat):Int))then b8 (nth xs b) fun v5=>b8 (P v5) fun v10=>bif v10 then some (decide ((0:Int)<=b))else d (aa.wrap (b+(1:Int)))else some false) (0:Int)=some (xs.any p):=by
 refine r9 (A:=Unit) xs (fun i _=>(i:Int)) (fun _ rest=>some (rest.any p)) (by omega) ?_ ?_ ()
 ·intro rec a
  simp only[A9,Aa,gI]
 intro rec i a x rest hi c f;have g:x∈xs:=by
  have:x∈xs.drop i:=by rw[c];simp
  exact bf this
 have e:decide ((0:Int)<=(i:Int))=true:=by simp
 simp only[A5 hi,Ac,l9 c,b9,hp x g,w9 hi (show xs.length<2^62 by omega),fE,f (),e];cases p x<;>rfl
def p1(f:Ft):Bool:=decide ((64:Int)<(f.2.2.2.2.length:Int))
theorem pn0(l:List Ft)(hl:l.length<=1000000):o9 (l,())=some (l.any p1):=by unfold o9;simp only[b9];exact O4 l hl _ p1 fun x _=>rfl
def p2(f:Ft):Bool:=decide (f.1<1)||(decide (1073741824<f.1)||(decide (f.2.2.1<1)||decide (9<f.2.2.1)))
theorem pJ0(l:List Ft)(hl:l.length<=1000000):j7 (l,())=some (l.any p2):=by unfold j7;simp only[b9];refine O4 l hl _ p2 fun x _=>?_;unfold T8 p2;simp only[b9];cases decide (x.1<1)<;>cases decide (1073741824<x.1)<;>cases decide (x.2.2.1<1)<;>rfl
theorem sY0(k:Int):∃ s,A3 k=some s:=by
 unfold A3
 repeat' (first | exact⟨_,rfl⟩ | (generalize decide (k=_)=c;cases c<;>simp only[Ac,Aa]))
noncomputable def K1(k:Int):Int:=(A3 k).getD 0
theorem bb0(k:Int):A3 k=some (K1 k):=by obtain⟨s,hs⟩:=sY0 k;simp[K1,hs]
noncomputable def p3(f:Ft):Bool:=decide (K1 f.2.1=0)
noncomputable def vI0(b:ByteArray):Int:=(W1 b).getD 0
theorem wl0(b:ByteArray):W1 b=some (vI0 b):=by obtain⟨s,hs⟩:=jJ0 b;simp[vI0,hs]
theorem pK0(l:List Ft)(hl:l.length<=1000000):l5 (l,())=some (l.any p3):=by unfold l5;simp only[b9];refine O4 l hl _ p3 fun x _=>?_;unfold U1 p3;simp only[bb0,b9]
noncomputable def p4(f:Ft):Bool:=bif !(f.2.2.2.1.toList==(cD #[]).toList)then !decide (vI0 f.2.2.2.1=0)else false
theorem pH0(l:List Ft)(hl:l.length<=1000000):j5 (l,())=some (l.any p4):=by unfold j5;simp only[b9];refine O4 l hl _ p4 fun x _=>?_;unfold T3 p4;simp only[wl0,b9];cases (!(x.2.2.2.1.toList==(cD #[]).toList))<;>rfl
noncomputable def p5(f:Ft):Bool:=bif decide ((f.2.2.2.2.length:Int)=0)then true else bif decide (K1 f.2.1=1)then decide ((1:Int)<(f.2.2.2.2.length:Int))else false
theorem pU0(l:List Ft)(hl:l.length<=1000000):j6 (l,())=some (l.any p5):=by unfold j6;simp only[b9];refine O4 l hl _ p5 fun x _=>?_;unfold T7 p5;simp only[bb0,b9];cases decide ((x.2.2.2.2.length:Int)=0)<;>cases decide (K1 x.2.1=1)<;>rfl
noncomputable def lG0(ns:List Nd)(ars:List Ar)(fs:List Int)(k:Int)(id:Int):Bool :=bif decide (K1 k=1)then !(O7 ns id).isSome else bif decide (K1 k=2)then !(ct0 ars id).isSome else bif decide (K1 k=3)then !decide (id∈fs)else true
namespace cw0
variable {ns:List Nd} {ars:List Ar} {fs:List Int} (h:cw0 ns ars fs)
include h
theorem missing_1_eq(id:Int)(f:Ft):J9 (id,(f.1,f.2.1,f.2.2.1,f.2.2.2.1,f.2.2.2.2),(ns,ars,fs))=some (lG0 ns ars fs f.2.1 id):=by have a:=h.lenN;have hF:=h.lenF;unfold J9 lG0;simp only[bb0,b9,cZ0 ns ars fs id (by omega),h.Arc_eq,et0,E1 fs id (by omega)];cases decide (K1 f.2.1=1)<;>cases decide (K1 f.2.1=2)<;>cases decide (K1 f.2.1=3)<;>cases O7 ns id<;>cases ct0 ars id<;>rfl
theorem missing_eq(f:Ft)(hl:f.2.2.2.2.length<=1000000):N9 ((ns,ars,fs),(f.1,f.2.1,f.2.2.1,f.2.2.2.1,f.2.2.2.2))=some (f.2.2.2.2.any (lG0 ns ars fs f.2.1)):=by unfold N9 y8;simp only[b9];rw[O4 f.2.2.2.2 hl _ (lG0 ns ars fs f.2.1) fun x _=>h.missing_1_eq x f];rfl
theorem Check_6_eq(l:List Ft)(a:List Ft)(hl:l.length<=1000000)(hp:∀ f∈l,f.2.2.2.2.length<=1000000):j8 (l,(ns,ars,fs,a))=some (l.any fun f=>f.2.2.2.2.any (lG0 ns ars fs f.2.1)):=by unfold j8;simp only[b9];refine O4 l hl _ _ fun f hf=>?_;unfold T9;simp only[h.missing_eq f (hp f hf),b9]
end cw0
def sX0:List Int->Bool
 | []=>true
 | [_]=>true
 | a::b::l=>!decide (b<=a)&&sX0 (b::l)
theorem tD0(l:List Int)(hl:l.length<=1000000):V2 l=some (sX0 l):=by
 unfold V2;cases l with
 | nil=>exact ff0 fun rec=>rfl
 | cons p0 l=>
  simp only[ay]at hl;refine(p8 (A:=Int) l (fun i _=>((i+1:Nat):Int)) (fun a rest=>some (sX0 (a::rest))) (fun i a=>(p0::l)[i]?=some a) (by omega) ?_ ?_ p0 rfl)
  ·intro rec a b
   have e:((p0::l).length:Int)=((l.length+1:Nat):Int):=by simp
   simp only[e,A9,Aa,sX0]
  intro rec i a x rest hi b d f;have c:(p0::l)[i+1]?=some x:=by rw[aR,<-C3];exact l9 d
  have e:((p0::l).length:Int)=((l.length+1:Nat):Int):=by simp
  have e1:aa.wrap (((i+1:Nat):Int)-1)=(i:Int):=by rw[w64 (by omega) (by omega)];omega
  have e2:aa.wrap (((i+1:Nat):Int)+1)=((i+1+1:Nat):Int):=w9 (n:=2000000) (by omega) (by omega);simp only[e,A5 (show i+1<l.length+1 by omega),Ac,e1,C3,b,c,b9,e2,sX0];have:=f x c;rw[this];cases decide (x<=a)<;>rfl
abbrev KP:=Int×Int
def qP:KP->KP->Bool:=fun (a b:Int×Int)=>(decide (a.1=b.1)&&decide (a.2=b.2))
def tX0(S:List (KP×Bool))(k:KP):Bool:=(lkp qP k S).getD false
def fH0(k:Int):List Int->List (KP×Bool)->Option (List (KP×Bool))
 | [],S=>some S
 | p::r,S=>bif tX0 S (k,p)then none else fH0 k r (V9 qP (k,p) true S)
noncomputable def gG0:List Ft->List (KP×Bool)->Bool
 | [],_=>false
 | f::r,S=>bif decide (K1 f.2.1=2)then gG0 r S else
  match fH0 (bif decide (K1 f.2.1=3)then f.2.1 else 0) f.2.2.2.2 S with
  | some a=>gG0 r a
  | none=>true
theorem ii0(k:Int)(ps:List Int)(hl:ps.length<=1000000)(K:Int×List (KP×Bool)->Option Int)(V:Option Int)(S:List (KP×Bool)) :
  rounds (α:=Int×List (KP×Bool)) (β:=Int) (fun f c=>
   bif decide (c.1<((ps.length:Nat):Int))then
    b8 (nth ps c.1) fun d=>
    b8 (orO (lkp (fun (a b:Int×Int)=>(decide (a.1=b.1)&&decide (a.2=b.2))) (k,d) c.2) (some false)) fun v53=>
    bif v53 then V else f (aa.wrap (c.1+(1:Int)),V9 (fun (a b:Int×Int)=>(decide (a.1=b.1)&&decide (a.2=b.2))) (k,d) true c.2)else K c) ((0:Int),S)=match fH0 k ps S with | some g=>K (((ps.length:Nat):Int),g) | none=>V:=by
 refine r9 (A:=List (KP×Bool)) ps (fun i a=>((i:Int),a)) (fun a rest=>match fH0 k rest a with | some g=>K (((ps.length:Nat):Int),g) | none=>V) (by omega) ?_ ?_ S
 ·intro rec a
  simp only[A9,Aa,fH0]
 intro rec i a x rest hi h j;have e:orO (lkp (fun (a b:Int×Int)=>(decide (a.1=b.1)&&decide (a.2=b.2))) (k,x) a) (some false)=some (tX0 a (k,x)):=by unfold tX0;show orO (lkp qP (k,x) a) (some false)=_;cases lkp qP (k,x) a<;>rfl
 simp only[A5 hi,Ac,l9 h,b9,e,w9 hi (show ps.length<2^62 by omega),fH0];cases tX0 a (k,x)with
 | true=>rfl
 | false=>exact j _
def ud0:Option Int->List Ft->Bool
 | _,[]=>false
 | a,f::r=>bif (match a with | some p=>decide (f.1<=p) | none=>false)||!(sX0 f.2.2.2.2)then true else ud0 (some f.1) r
noncomputable def X1(ns:List Nd)(ars:List Ar)(fs:List Int)(l:List Ft):Int :=
 bif !decide (L9 ns ars fs=0)then L9 ns ars fs else
 bif decide (128<(l.length:Int))then 3 else
 bif l.any p1 then 3 else
 bif ud0 none l then 10 else
 bif l.any p2 then 2 else
 bif l.any p3 then 9 else
 bif l.any p4 then 14 else
 bif l.any p5 then 1 else
 bif l.any (fun f=>f.2.2.2.2.any (lG0 ns ars fs f.2.1))then 7 else
 bif gG0 l []then 13 else 0
theorem Q3(ns:List Nd)(ars:List Ar)(fs:List Int)(l:List Ft):H9 (ns,ars,fs,l)=some (X1 ns ars fs l):=by
 unfold H9 X1;simp only[hE0,b9];cases e:decide (L9 ns ars fs=0)with
 | false=>simp
 | true=>
  have hp:cw0 ns ars fs:=by
   refine aI0.1 ?_;have hz:L9 ns ars fs=0:=by simpa using e
   unfold L9 at hz;by_cases o:M8 ns ars fs=0
   ·exact o
   simp[o]at hz
  simp only[aA,Aa];cases d:decide ((128:Int)<(l.length:Int))with
  | true=>rfl
  | false=>
   have hl:l.length<=1000000:=by simp only[An]at d;omega
   simp only[Aa,pn0 l hl,b9];cases h1:l.any p1 with
   | true=>rfl
   | false=>
    have b:∀ f∈l,f.2.2.2.2.length<=1000000:=fun f hf=>by have:=dF.1 h1 f hf;simp only[p1,Ad]at this;omega
    have hlen:l.length<=128:=by simp only[An]at d;omega
    simp only[Aa,pJ0 l hl,pK0 l hl,pH0 l hl,pU0 l hl,hp.Check_6_eq l l hl b,b9];refine(p8 (A:=Option Int) l (fun i _=>((i:Int),(i:Int))) (fun a rest=>some (bif ud0 a rest then (10:Int)else bif l.any p2 then 2 else bif l.any p3 then 9 else bif l.any p4 then 14 else bif l.any p5 then 1 else bif l.any (fun f=>f.2.2.2.2.any (lG0 ns ars fs f.2.1))then 7 else bif gG0 l []then 13 else 0))
     (fun i a=>match a with | none=>i=0 | some p=>0<i/\∃ g:Ft,l[i-1]?=some g/\g.1=p) (by omega) ?_ ?_ none rfl).trans ?_
    rotate_left 2
    ·rfl
    ·intro rec a k
     simp only[A9,Aa,ud0];cases l.any p2 with
     | true=>rfl
     | false=>
      cases l.any p3 with
      | true=>rfl
      | false=>
       cases l.any p4 with
       | true=>rfl
       | false=>
        cases l.any p5 with
        | true=>rfl
        | false=>
         cases l.any (fun f=>f.2.2.2.2.any (lG0 ns ars fs f.2.1))with
         | true=>rfl
         | false=>
          simp only[Aa];refine(r9 (A:=List (KP×Bool)) l (fun i a=>((i:Int),a)) (fun a rest=>some (bif gG0 rest a then (13:Int)else 0)) (by omega) ?_ ?_ [])
          ·intro rec a
           simp only[A9,Aa,gG0]
          intro rec i a x rest hi h e;have c:x∈l:=by
           have:x∈l.drop i:=by rw[h];simp
           exact bf this
          have e2:aa.wrap ((i:Int)+1)=((i+1:Nat):Int):=w9 (n:=2000000) (by omega) (by omega);have e0:decide ((0:Int)<=(i:Int))=true:=by simp
          simp only[A5 hi,Ac,l9 h,b9,bb0,e2,e0,gG0];cases decide (K1 x.2.1=2)with
          | true=>exact e a
          | false=>
           simp only[Aa];cases decide (K1 x.2.1=3)with
           | true=>
            simp only[Ac];refine(ii0 x.2.1 x.2.2.2.2 (b x c) _ _ a).trans ?_;cases fH0 x.2.1 x.2.2.2.2 a with
            | none=>rfl
            | some m=>exact e m
           | false=>
            simp only[Aa];refine(ii0 0 x.2.2.2.2 (b x c) _ _ a).trans ?_;cases fH0 0 x.2.2.2.2 a with
            | none=>rfl
            | some m=>exact e m
    intro rec i a x rest hi k h e;have c:x∈l:=by
     have:x∈l.drop i:=by rw[h];simp
     exact bf this
    have e2:aa.wrap ((i:Int)+1)=((i+1:Nat):Int):=w9 (n:=2000000) (by omega) (by omega);have e0:decide ((0:Int)<=(i:Int))=true:=by simp
    have q:l[i]?=some x:=by rw[<- C3];exact l9 h
    have r:=e (some x.1) ⟨by omega,x,by simpa using q,rfl⟩;simp only[A5 hi,Ac,l9 h,b9,e2,e0,tD0 x.2.2.2.2 (b x c),r,ud0];cases a with
    | none=>
     have j:i=0:=k;subst j;have e1:decide ((1:Int)<((0+1:Nat):Int))=false:=by decide
     simp only[e1,Aa,cw];cases sX0 x.2.2.2.2<;>rfl
    | some p=>
     obtain⟨j,g,s,rfl⟩:=k;have e1:decide ((1:Int)<((i+1:Nat):Int))=true:=by simp only[Ad];omega
     have e3:aa.wrap (((i+1:Nat):Int)-2)=((i-1:Nat):Int):=by rw[w64 (by omega) (by omega)];omega
     simp only[e1,Ac,e3,C3,s,b9];cases decide (x.1<=g.1)<;>cases sX0 x.2.2.2.2<;>rfl
def eq0(l:List Ft)(id:Int):Option Ft:=l.find? (fun f=>decide (f.1=id))
def noFt:Ft:=(0,0,0,cD #[],[])
theorem vJ0(ns:List Nd)(ars:List Ar)(fs:List Int)(l:List Ft)(id:Int)(hl:l.length<=1000000)(hp:∀ f∈l,f.2.2.2.2.length<=1000000) :
  Y5 ((ns,ars,fs,l),id)=some (match eq0 l id with | some f=>(f,true) | none=>(noFt,false)):=by
 unfold Y5;simp only[b9];refine r9 (A:=Unit) l (fun i _=>(i:Int)) (fun _ rest=>some (match eq0 rest id with | some f=>(f,true) | none=>(noFt,false))) (by omega) ?_ ?_ ()
 ·intro rec a
  simp only[A9,Aa,eq0,List.find?_nil];rfl
 intro rec i a x rest hi d e;have b:x∈l:=by
  have:x∈l.drop i:=by rw[d];simp
  exact bf this
 have c:slices_Clone_int x.2.2.2.2=some x.2.2.2.2:=by unfold slices_Clone_int;rw[C7 (by omega) (by have:=hp x b;simp;omega)];rfl
 simp only[A5 hi,Ac,l9 d,b9,w9 hi (show l.length<2^62 by omega),c];have:=e ();by_cases h:x.1=id
 ·simp[eq0,h]
  exact fD h.symm rfl
 simp only[h,Ag,Aa,this,eq0,dP]
def sx0(ns:List Nd)(ars:List Ar)(a:Ar):Int:=match pathOf ns ars a.1 with
 | some (p::l)=>L8 p l
 | _=>0
def iz0(ns:List Nd)(ars:List Ar)(ps:List Int):List Ar->Int
 | []=>0
 | a::r=>(bif (decide (a.2.2.2.2.1∈ps)==decide (a.2.2.2.2.2∈ps))then 0 else bif decide (a.2.2.2.2.2∈ps)then -(sx0 ns ars a)else sx0 ns ars a)+iz0 ns ars ps r
theorem mk0{β:Type}(p0:Pt)(l:List Pt)(hl:l.length<=1000)(o:rV0 p0)(hc:∀ q∈l,rV0 q)(K:Int×Int->Option β) :
  rounds (α:=Int×Int) (β:=β) (fun f b=>
    bif (decide (b.2<(((p0::l).length:Nat):Int)))then (
     b8 (nth (p0::l) (aa.wrap (b.2-(1:Int)))) fun v31=>
     b8 (nth (p0::l) b.2) fun g=>
     b8 (nth (p0::l) b.2) fun h=>
     b8 (nth (p0::l) (aa.wrap (b.2-(1:Int)))) fun v40=>
     f (aa.wrap (b.1+aa.wrap (aa.wrap (v31.1*g.2)-aa.wrap (h.1*v40.2))),aa.wrap (b.2+(1:Int))))else (
     K b)) ((0:Int),(1:Int))=K (L8 p0 l,((l.length+1:Nat):Int)):=by
 have e:(((p0::l).length:Nat):Int)=((l.length+1:Nat):Int):=by simp
 refine(p8 (A:=Pt×Int) l (fun i a=>(a.2,((i+1:Nat):Int))) (fun a rest=>K (a.2+L8 a.1 rest,((l.length+1:Nat):Int))) (fun i a=>(p0::l)[i]?=some a.1/\rV0 a.1/\-(8796093022208*(i:Int))<=a.2/\a.2<=8796093022208*(i:Int)) (by omega) ?_ ?_ (p0,0) ⟨rfl,o,by simp,by simp⟩).trans (by simp)
 ·intro rec a d
  simp only[e,A9,Aa,L8,eJ]
 intro rec i a x rest hi d k p;obtain⟨d,hp,g1,g2⟩:=d;have m:(p0::l)[i+1]?=some x:=by rw[aR,<-C3];exact l9 k
 have j:x∈l:=by
  have:x∈l.drop i:=by rw[k];simp
  exact bf this
 have c:=hc x j;have e1:aa.wrap (((i+1:Nat):Int)-1)=(i:Int):=by rw[w64 (by omega) (by omega)];omega
 have e2:aa.wrap (((i+1:Nat):Int)+1)=((i+1+1:Nat):Int):=w9 (n:=2000000) (by omega) (by omega);simp only[e,A5 (show i+1<l.length+1 by omega),Ac,e1,e2,C3,d,m,b9];obtain⟨w,a2⟩:=bA0 (A:=2097152) hp.1 hp.2.1 c.2.2.1 c.2.2.2;obtain⟨z,B⟩:=bA0 (A:=2097152) c.1 c.2.1 hp.2.2.1 hp.2.2.2;have r:aa.wrap (a.1.1*x.2)=a.1.1*x.2:=w64 (by omega) (by omega);have s:aa.wrap (x.1*a.1.2)=x.1*a.1.2:=w64 (by omega) (by omega);have t:aa.wrap (a.1.1*x.2-x.1*a.1.2)=cn0 a.1 x:=w64 (by omega) (by omega);have u:cn0 a.1 x=a.1.1*x.2-x.1*a.1.2:=rfl;have v:aa.wrap (a.2+cn0 a.1 x)=a.2+cn0 a.1 x:=w64 (by omega) (by omega);rw[r,s,t,v];have:=p (x,a.2+cn0 a.1 x) ⟨m,c,by simp only;omega,by simp only;omega⟩;rw[this];simp only[L8];congr 2;omega
namespace cw0
variable {ns:List Nd} {ars:List Ar} {fs:List Int} (h:cw0 ns ars fs)
include h
theorem Area_eq(l:List Ft)(id:Int)(hl:l.length<=1000000)(hp:∀ f∈l,f.2.2.2.2.length<=1000000) :
  R5 ((ns,ars,fs,l),id)=some (match eq0 l id with | some f=>if K1 f.2.1=3 then iz0 ns ars f.2.2.2.2 ars else 0 | none=>0):=by
 have w:=h.lenA;have e:M8 ns ars fs=0:=aI0.2 h;unfold R5;simp only[vJ0 ns ars fs l id hl hp,b9];cases hf:eq0 l id with
 | none=>rfl
 | some f=>
  have k:f∈l:=bh hf;have r:=hp f k;simp only[aA,Aa,bb0,b9];by_cases hs:K1 f.2.1=3
  ·simp only[hs,Ai,aA,Aa,cc0,e,b9,Al]
   refine(p8 (A:=Int) ars (fun i a=>(a,(i:Int))) (fun a rest=>some (a+iz0 ns ars f.2.2.2.2 rest)) (fun i a=>-(571746046443520*(i:Int))<=a/\a<=571746046443520*(i:Int)) (by omega) ?_ ?_ 0 ⟨by simp,by simp⟩).trans (by simp)
   ·intro rec a s
    simp only[A9,Aa,iz0,eJ]
   intro rec i a x rest hi s p m;have g:x∈ars:=by
    have:x∈ars.drop i:=by rw[p];simp
    exact bf this
   have z:=h.num g;have c:x.1=jo0 x.1:=by unfold jo0;omega
   obtain⟨p0,pl,b,t,q,cl⟩:=h.dart_path (d:=x.1) ⟨x,g,c⟩;rw[<- c]at b;have e2:aa.wrap ((i:Int)+1)=((i+1:Nat):Int):=w9 (n:=2000000) (by omega) (by omega);obtain⟨B,C⟩:=bW0 pl p0 q cl;have u:-571746046443520<=L8 p0 pl/\L8 p0 pl<=571746046443520:=by omega
   have j:sx0 ns ars x=L8 p0 pl:=by simp only[sx0,b]
   simp only[A5 hi,Ac,l9 p,b9,E1 _ _ (show f.2.2.2.2.length<2^62 by omega),e2,h.Path_eq,b,iz0,j];cases decide (x.2.2.2.2.1∈f.2.2.2.2)==decide (x.2.2.2.2.2∈f.2.2.2.2)with
   | true=>simp only[Ac];rw[m a (by omega)];congr 1;omega
   | false=>
    simp only[Aa];refine(mk0 p0 pl (by omega) q cl _).trans ?_;cases decide (x.2.2.2.2.2∈f.2.2.2.2)with
    | true=>
     have v:aa.wrap (0-L8 p0 pl)=-(L8 p0 pl):=by rw[w64 (by omega) (by omega)];omega
     have o:aa.wrap (a+-(L8 p0 pl))=a+-(L8 p0 pl):=w64 (by omega) (by omega);simp only[Ac,v,o];rw[m (a+-(L8 p0 pl)) (by omega)];congr 1;omega
    | false=>have o:aa.wrap (a+L8 p0 pl)=a+L8 p0 pl:=w64 (by omega) (by omega);simp only[Aa,o];rw[m (a+L8 p0 pl) (by omega)];congr 1;omega
  simp only[hs,Ag,aY,Ac,Ah]
end cw0
set_option maxRecDepth 10000
theorem u6{α β:Type}{a:Option α}{f:α->Option β}{P:α->Prop}{Q:β->Prop}(h:∃ v,a=some v/\P v)(hf:∀ v,P v->∃ r,f v=some r/\Q r):∃ r,b8 a f=some r/\Q r:=by obtain⟨v,rfl,hv⟩:=h;exact hf v hv
theorem wu(n:Int):0<=an.wrap n/\an.wrap n<=18446744073709551615:=by simp[jX,jY,jz];omega
theorem gd0{n:Int}(h:0<=n/\n<=18446744073709551615):an.wrap n=n:=IntWalk.u64_in n h
theorem wa0{n:Int}(h:0<=n/\n<=255):dV.wrap n=n:=IntWalk.u8_in n h
def oz0(i:Nat):Nat:=if i=0 then 0 else if i<2 then 1 else if i<4 then 2 else if i<8 then 3 else if i<16 then 4 else if i<32 then 5 else if i<64 then 6 else if i<128 then 7 else 8
theorem wI0:((aJ 256).all fun i=>kT0 qB0 (i:Int)==some ((oz0 i:Nat):Int))=true:=by decide +kernel
theorem tab_ok{v:Int}(h:0<=v/\v<=255):kT0 qB0 v=some ((oz0 v.toNat:Nat):Int):=by have:=aj.1 wI0 v.toNat (eC.2 (by omega));rw[show ((v.toNat:Nat):Int)=v by omega]at this;simpa using this
theorem oO0{i:Nat}(h:i<=255):(oz0 i=0/\i=0)\/(oz0 i=1/\i=1)\/(oz0 i=2/\2<=i/\i<4)\/(oz0 i=3/\4<=i/\i<8)\/(oz0 i=4/\8<=i/\i<16)\/(oz0 i=5/\16<=i/\i<32)\/(oz0 i=6/\32<=i/\i<64)\/(oz0 i=7/\64<=i/\i<128)\/(oz0 i=8/\128<=i):=by
 unfold oz0
 repeat' split
 all_goals omega
theorem fd{x k:Int}(hk:0<=k):x.fdiv k=x / k:=Int.fdiv_eq_ediv_of_nonneg x hk
theorem sh32:(2:Int)^(min (32:Int).toNat an.bits)=4294967296:=by decide
theorem sh16:(2:Int)^(min (16:Int).toNat an.bits)=65536:=by decide
theorem sh8:(2:Int)^(min (8:Int).toNat an.bits)=256:=by decide
theorem fd32(x:Int):x.fdiv 4294967296=x / 4294967296:=fd (by decide)
theorem fd16(x:Int):x.fdiv 65536=x / 65536:=fd (by decide)
theorem fd8(x:Int):x.fdiv 256=x / 256:=fd (by decide)
theorem fn32:decide ((32:Int)<0)=false:=by decide
theorem fn16:decide ((16:Int)<0)=false:=by decide
theorem fn8:decide ((8:Int)<0)=false:=by decide
theorem eG0{a b:Nat}:(2:Int)^(a+b)=2^a*2^b:=Int.pow_add 2 a b
theorem len_ok{x q K:Int}{k:Nat}(a:K=2^k)(c:q=x / K)(h1:1<=q)(h2:q<=255)(hk:k<=56):∃ n:Nat,((k:Int)+((oz0 q.toNat:Nat):Int))=(n:Int)/\1<=n/\n<=64/\(2:Int)^(n-1)<=x/\x<2^n:=by
 have b:0<K:=by rw[a];exact jm (by decide)
 have e:=Int.emod_add_mul_ediv x K;have m1:=kn x (show K≠0 by omega);have m2:=Int.emod_lt_of_pos x b;rw[<- c]at e;have key:∀ t:Nat,1<=t->t<=8->(2:Int)^(t-1)<=q->q<2^t->∃ n:Nat,((k:Int)+(t:Int))=(n:Int)/\1<=n/\n<=64/\(2:Int)^(n-1)<=x/\x<2^n:=by
  intro t t1 t8 l1 l2;refine⟨k+t,by omega,by omega,by omega,?_,?_⟩
  ·rw[show k+t-1=(t-1)+k by omega,eG0,<-a]
   have:(2:Int)^(t-1)*K<=q*K:=dp l1 (by omega);have:q*K=K*q:=bG _ _;omega
  rw[show k+t=t+k by omega,eG0,<-a];have d:(q+1)*K<=(2:Int)^t*K:=dp (by omega) (by omega);rw[dE,Int.one_mul]at d;have:q*K=K*q:=bG _ _;omega
 rcases oO0 (i:=q.toNat) (by omega)with h | h | h | h | h | h | h | h | h
 ·omega
 all_goals
  rw[h.1];exact key _ (by decide) (by decide) (by simp;omega) (by simp;omega)
theorem tv0{x:Int}(h:1<=x/\x<=18446744073709551615):∃ n:Nat,JR0 x=some (n:Int)/\1<=n/\n<=64/\(2:Int)^(n-1)<=x/\x<2^n:=by
 have fin:∀ (K q:Int) (k:Nat),K=2^k->q=x / K->1<=q->q<=255->k<=56->∃ n:Nat,b8 (kT0 qB0 (dV.wrap q)) (fun b=>some (aa.wrap ((k:Int)+aa.wrap b)))=some (n:Int)/\1<=n/\n<=64/\(2:Int)^(n-1)<=x/\x<2^n:=by intro K q k c d q1 q2 hk;obtain⟨n,e,r⟩:=len_ok c d q1 q2 hk;refine⟨n,?_,r⟩;rw[wa0 ⟨by omega,q2⟩,tab_ok ⟨by omega,q2⟩,b9,w64 (n:=((oz0 q.toNat:Nat):Int)) (by omega) (by omega),e,w64 (by omega) (by omega)]
 unfold JR0;simp only[b9,sh32,sh16,sh8,fd32,fd16,fd8,fn32,fn16,fn8,Aa];by_cases c1:(4294967296:Int)<=x
 ·simp only[c1,Ai,Ac]
  by_cases c2:(65536:Int)<=x / 4294967296
  ·simp only[c2,Ai,Ac]
   by_cases a:(256:Int)<=x / 4294967296 / 65536
   ·simp only[a,Ai,Ac]
    exact fin 72057594037927936 _ 56 (by decide) (by omega) (by omega) (by omega) (by decide)
   simp only[a,Ag,Aa];exact fin 281474976710656 _ 48 (by decide) (by omega) (by omega) (by omega) (by decide)
  simp only[c2,Ag,Aa];by_cases a:(256:Int)<=x / 4294967296
  ·simp only[a,Ai,Ac]
   exact fin 1099511627776 _ 40 (by decide) (by omega) (by omega) (by omega) (by decide)
  simp only[a,Ag,Aa];exact fin 4294967296 _ 32 (by decide) (by omega) (by omega) (by omega) (by decide)
 simp only[c1,Ag,Aa];by_cases c2:(65536:Int)<=x
 ·simp only[c2,Ai,Ac]
  by_cases a:(256:Int)<=x / 65536
  ·simp only[a,Ai,Ac]
   exact fin 16777216 _ 24 (by decide) (by omega) (by omega) (by omega) (by decide)
  simp only[a,Ag,Aa];exact fin 65536 _ 16 (by decide) (by omega) (by omega) (by omega) (by decide)
 simp only[c2,Ag,Aa];by_cases a:(256:Int)<=x
 ·simp only[a,Ai,Ac]
  exact fin 256 _ 8 (by decide) (by omega) (by omega) (by omega) (by decide)
 simp only[a,Ag,Aa];exact fin 1 _ 0 (by decide) (by omega) (by omega) (by omega) (by decide)
theorem c9{α β:Type}{a:Option α}{f:α->Option β}{Q:β->Prop}(e:α)(h:a=some e)(hf:∀ v,v=e->∃ r,f v=some r/\Q r):∃ r,b8 a f=some r/\Q r:=by subst h;exact hf e rfl
theorem gd{α:Type}{c:Bool}{e:α}(h:c=false):(bif c then none else some e)=some e:=by rw[h];rfl
theorem fy0{x:Int}(h:1<=x/\x<=18446744073709551615):∃ v,Ju0 x=some v/\∃ n:Nat,v=64-(n:Int)/\1<=n/\n<=64/\(2:Int)^(n-1)<=x/\x<2^n:=by obtain⟨n,h1,h2,a,b⟩:=tv0 h;unfold Ju0;simp only[h1,b9];exact⟨_,rfl,n,w64 (by omega) (by omega),h2,a,b⟩
theorem vY0{x v:Int}{n:Nat}(hv:v=64-(n:Int))(h1:1<=n)(h2:n<=64)(a:(2:Int)^(n-1)<=x)(b:x<2^n):9223372036854775808<=an.wrap (x*2^(min (an.wrap v).toNat an.bits)):=by
  have e:an.wrap v=v:=gd0 (by omega);have e2:min v.toNat an.bits=64-n:=by show min v.toNat 64=64-n;omega
  rw[e,e2];have p:(0:Int)<=2^(64-n):=db (jm (by decide));have c:(2:Int)^(n-1)*2^(64-n)<=x*2^(64-n):=dp a p;have a2:x*2^(64-n)<2^n*2^(64-n):=Int.mul_lt_mul_of_pos_right b (jm (by decide));rw[<- eG0,show n-1+(64-n)=63 by omega]at c;rw[<- eG0,show n+(64-n)=64 by omega]at a2;have d:(2:Int)^63=9223372036854775808:=by decide
  have f:(2:Int)^64=18446744073709551616:=by decide
  rw[gd0 (by omega)];omega
theorem bc0{a b:Int}(ha:0<=a)(h:0<an.wrap (a*b)):1<=a:=by
  by_cases h1:0<a
  · omega
  have:a=0:=by omega
  subst this;rw[Int.zero_mul,gd0 (by omega)]at h;omega
theorem Ns0{a b v17 v25 v31 q:Int}(c:0<=a):∃ r,dvC a b v17 v25 v31 q=some r/\0<=r.1:=by unfold dvC;rw[gd (Ak (by omega))];exact⟨_,rfl,(wu _).1⟩
theorem Nr0{q v:Int}(h1:1<=q)(h2:q<=18446744073709551615):an.wrap (q-1)=q-1:=gd0 ⟨by omega,by omega⟩
theorem dvB_ex{d e v9 v10 v17 v25 v31:Int}(c:0<=d)(f:v9≠0):∃ r,dvB d e v9 v10 v17 v25 v31=some r/\0<=r.1:=by
  unfold dvB;rw[gd (Ak f),b9];refine L5 (fun y:Int×Int=>0<=y.2/\y.2<=18446744073709551615) (fun y=>y.2.toNat) _ ?_ (wu _) (by have:=wu (v31.tdiv v9);show (an.wrap (v31.tdiv v9)).toNat<_;omega);intro k x ix g;have go:1<=x.2->∃ v,k (an.wrap (x.1+v9),an.wrap (x.2-1))=some v/\0<=v.1:=fun h1=>by rw[Nr0 (v:=0) h1 ix.2];exact g (_,x.2-1) ⟨by show 0<=x.2-1;omega,by show x.2-1<=_;omega⟩ (by show (x.2-1).toNat<x.2.toNat;omega)
  cases c1:decide (4294967296<=x.2)with
  | true=>
    have:=Aj c1;rw[Ac];cases decide (4294967296<=an.wrap (x.1+v9))with
    | true=>exact Ns0 c
    | false=>exact go (by omega)
  | false=>
    rw[Aa];cases c2:decide (an.wrap (an.wrap (4294967296*x.1)+v17)<an.wrap (x.2*v10))with
    | false=>exact Ns0 c
    | true=>
      have a:=Aj c2;have b:=(wu (an.wrap (4294967296*x.1)+v17)).1;rw[Ac];cases decide (4294967296<=an.wrap (x.1+v9))with
      | true=>exact Ns0 c
      | false=>exact go (bc0 (b:=v10) ix.1 (by omega))
theorem tH0{x:Int×Int×Int}(g1:0<=x.1)(g2:x.1<x.2.2)(g3:x.2.2<=18446744073709551615):∃ r,bB0 x=some r/\0<=r.1:=by
 unfold bB0;refine c9 _ rfl ?_;intro v3 w;cases z:v3
 case false=>
  rw[Aa];refine c9 _ rfl ?_;intro v4 C;cases D:v4
  case false=>
   rw[Aa];refine c9 _ rfl ?_;intro v5 Z;cases c5:v5
   case false=>
    rw[Aa];refine u6 (fy0 ⟨by omega,g3⟩) ?_;intro v6 o;refine c9 _ rfl ?_;intro m e;refine c9 _ (gd (by have:=wu (v6);rw[<- e]at this;exact Ak (by omega))) ?_;intro E G;refine c9 _ (gd (by decide)) ?_;intro v9 H;obtain⟨n,hv,f,g,h,i⟩:=o;have j:=vY0 hv f g h i;rw[<- e,<-G]at j;rw[sh32,fd32]at H;have p:v9≠0:=by omega
    clear hv f g h i j;refine c9 _ rfl ?_;intro v10 I;refine c9 _ (gd (by have:=wu (v6);rw[<- e]at this;exact Ak (by omega))) ?_;intro v11 J;refine c9 _ rfl ?_;intro v12 s;refine c9 _ (gd (by have:=wu (((64:Int)-m));rw[<- s]at this;exact Ak (by omega))) ?_;intro K M;refine c9 _ rfl ?_;intro c N;refine c9 _ (gd (by have:=wu (v6);rw[<- e]at this;exact Ak (by omega))) ?_;intro O P;refine c9 _ (gd (by decide)) ?_;intro d Q;refine c9 _ rfl ?_;intro v17 R;refine c9 _ (gd (Ak (by omega))) ?_;intro t l;refine c9 _ rfl ?_;intro S U;refine c9 _ rfl ?_;intro v20 V;have u:0<=m:=by have:=wu v6;rw[<- e]at this;omega
    have B:∀ q,∃ r,dvA m E v9 v10 c d v17 q=some r/\0<=r.1:=fun q=>dvB_ex u p;refine L5 (fun y:Int×Int=>0<=y.1/\y.1<=18446744073709551615) (fun y=>y.1.toNat) _ ?_ (by have a:=wu ((c.tdiv v9));rw[<- l]at a;exact a) (by have a:=wu ((c.tdiv v9));rw[<- l]at a;show t.toNat<_;omega);intro k x ix Y;have go:1<=x.1->∃ v,k (an.wrap (x.1-1),an.wrap (x.2+v9))=some v/\0<=v.1:=fun h1=>by rw[Nr0 (v:=0) h1 ix.2];exact Y (x.1-1,_) ⟨by show 0<=x.1-1;omega,by show x.1-1<=_;omega⟩ (by show (x.1-1).toNat<x.1.toNat;omega)
    cases c1:decide (4294967296<=x.1)with
    | true=>
      have:=Aj c1;rw[Ac];cases decide (4294967296<=an.wrap (x.2+v9))with
      | true=>exact B _
      | false=>exact go (by omega)
    | false=>
      rw[Aa];cases c2:decide (an.wrap (an.wrap (4294967296*x.2)+d)<an.wrap (x.1*v10))with
      | false=>exact B _
      | true=>
        have a:=Aj c2;have b:=(wu (an.wrap (4294967296*x.2)+d)).1;rw[Ac];cases decide (4294967296<=an.wrap (x.2+v9))with
        | true=>exact B _
        | false=>exact go (bc0 (b:=v10) ix.1 (by omega))
   case true=>rw[Ac];refine c9 _ (gd (Ak (by omega))) ?_;intro v6 o;refine c9 _ (gd (Ak (by omega))) ?_;intro m e;exact⟨_,rfl,by show 0<=v6;rw[o];exact(wu _).1⟩
  case true=>rw[Ac];have:=Aj (C.symm.trans D);omega
 case true=>rw[Ac];have:=Aj (w.symm.trans z);omega
theorem fb0(x:Int):∃ v,W5 x=some v/\0<=v/\v<=18446744073709551615/\(-9223372036854775808<=x->x<=9223372036854775807->v=(x.natAbs:Int)):=by
  unfold W5;simp only[b9];by_cases h:x<0
  · simp only[h,Ai,Ac]
    refine⟨_,rfl,(wu _).1,(wu _).2,fun h1 h2=>?_⟩;simp only[jX,jY,jz];simp;omega
  simp only[h,Ag,Aa];refine⟨_,rfl,(wu _).1,(wu _).2,fun h1 h2=>?_⟩;rw[gd0 (by omega)];omega
theorem lx0{n:Int}(h:0<=n):∃ v,M5 (n,false)=some v/\0<=v.1/\v.1<=9223372036854775807/\(n<=9223372036854775807->v=(n,true)):=by
  unfold M5;simp only[b9,Aa];by_cases h1:9223372036854775807<n
  · simp only[h1,Ai,Ac]
    exact⟨_,rfl,by simp,by simp,fun h=>by omega⟩
  simp only[h1,Ag,Aa];rw[w64 (by omega) (by omega)];exact⟨_,rfl,by simpa using h,by simp only;omega,fun _=>rfl⟩
theorem jc0(n:Int):∃ v,M5 (n,true)=some v/\True:=by
  unfold M5;simp only[b9,Ac];by_cases h1:9223372036854775808<n
  · simp only[h1,Ai,Ac];exact⟨_,rfl,trivial⟩
  simp only[h1,Ag,Aa];exact⟨_,rfl,trivial⟩
theorem pl0(a b:Nat)(d:b<=18446744073709551615):aE0 ((a:Int),(b:Int))=some ((jn a b:Nat):Int):=by
  unfold aE0;simp only[b9];refine(hS0 (fun x:Int×Int=>∃ a b:Nat,x=((a:Int),(b:Int))/\b<=18446744073709551615) (fun x=>x.2.toNat) (fun x=>some ((jn x.1.toNat x.2.toNat:Nat):Int)) ?_ ⟨a,b,rfl,d⟩ (by show ((b:Int)).toNat<_;omega)).trans (by simp);rintro rec x ⟨a,b,rfl,d⟩ f;by_cases g:b=0
  · subst g
    simp
  have e:decide ((b:Int)=0)=false:=Ak (by omega);have em:(a:Int).tmod (b:Int)=((a%b:Nat):Int):=by rw[eQ (by omega)];rfl
  have c:a%b<b:=gp _ (by omega);simp only[e,aY,Ac,Aa,b9,em];rw[f ((b:Int),((a%b:Nat):Int)) ⟨b,a%b,rfl,by omega⟩ (by simp;exact c)];simp only[cS];rw[kR b (a%b),<-Nat.gcd_rec,kR]
theorem Gcd_ex{a b:Int}(h1:-9223372036854775808<=a)(h2:a<=9223372036854775807)(e:1<=b)(c:b<=9223372036854775807):∃ v,hB0 (a,b)=some v/\1<=v/\v<=b:=by unfold hB0;obtain⟨u,e1,_,_,e2⟩:=fb0 a;obtain⟨w,e3,_,_,e4⟩:=fb0 b;have e2:=e2 h1 h2;have e4:=e4 (by omega) c;have f:jn a.natAbs b.natAbs<=b.natAbs:=Nat.gcd_le_right _ (by omega);have d:0<jn a.natAbs b.natAbs:=Nat.gcd_pos_of_pos_right _ (by omega);obtain⟨s,e5,_,_,e6⟩:=lx0 (n:=((jn a.natAbs b.natAbs:Nat):Int)) (by omega);simp only[e1,e3,b9,e2,e4,pl0 a.natAbs b.natAbs (by omega),e5,e6 (by omega)];exact⟨_,rfl,by omega,by omega⟩
theorem mr0(n:Int):-9223372036854775808<=aa.wrap n/\aa.wrap n<=9223372036854775807:=by rw[IntKind.wrap_i64];omega
theorem tK0{a b:Int}(h1:0<=a)(h2:0<=b):∃ v,bits_Add64 (a,b,0)=some v/\0<=v.1:=by unfold bits_Add64;simp only[h1,h2,Ai,dD,Bool.true_or,Ac];exact⟨_,rfl,by simp only;omega⟩
theorem nM0(x:Int×Int):∃ r,ap0 x=some r/\0<=r.1/\0<=r.2:=by unfold ap0;refine c9 _ rfl ?_;intro v2 h2;refine c9 _ (gd (by decide)) ?_;intro v3 o;refine c9 _ rfl ?_;intro v4 p;refine c9 _ (gd (by decide)) ?_;intro v5 q;refine c9 _ rfl ?_;intro v6 s;refine c9 _ rfl ?_;intro t u;refine c9 _ (gd (by decide)) ?_;intro v w;refine c9 _ rfl ?_;intro v9 z;refine c9 _ rfl ?_;intro v10 d;refine c9 _ (gd (by decide)) ?_;intro v11 e;refine c9 _ rfl ?_;intro v12 f;refine c9 _ rfl ?_;intro g h;refine c9 _ rfl ?_;intro i j;refine c9 _ rfl ?_;intro k l;refine c9 _ (gd (by decide)) ?_;intro m n;refine c9 _ rfl ?_;intro v17 a;refine c9 _ rfl ?_;intro b c;exact⟨_,rfl,by show 0<=v17;rw[a];exact(wu _).1,by show 0<=b;rw[c];exact(wu _).1⟩
theorem sj0(t c:Int)(hc:1<=c)(e:c<=9223372036854775807):∃ r,bN0 (t,t,c)=some r/\0<=r.1/\r.1<=9223372036854775807:=by
 unfold bN0;dsimp only;refine c9 _ rfl ?_;intro v3 O;cases P:v3
 case false=>
  rw[Aa];refine c9 _ rfl ?_;intro v4 s;refine c9 _ rfl ?_;intro v5 u;refine c9 _ rfl ?_;intro v6 v;refine c9 _ rfl ?_;intro Q w;refine c9 _ rfl ?_;intro B x;refine u6 (fb0 _) ?_;intro v9 R;refine u6 (fb0 _) ?_;intro v10 C;refine u6 (nM0 _) ?_;intro v11 i;refine u6 (fb0 _) ?_;intro D j;refine c9 _ rfl ?_;intro k l;cases m:k
  case false=>
   rw[Aa];refine u6 (fb0 _) ?_;intro E f;refine u6 (tH0 i.1 (by have:=of_decide_eq_false (l.symm.trans m);have a:=j.2.2 (by omega) e;have b:=f.2.2 (by omega) e;simp only;omega) f.2.1) ?_;intro G n;cases z:B
   case false=>
    rw[Aa];refine u6 (lx0 n) ?_;intro g d;refine c9 _ rfl ?_;intro v20 o;cases H:v20
    case false=>rw[Aa];exact⟨_,rfl,d.1,d.2.1⟩
    case true=>rw[Ac];exact⟨_,rfl,by simp,by simp⟩
   case true=>
    rw[Ac];refine c9 _ rfl ?_;intro g d;cases I:g
    case false=>
     rw[Aa];refine u6 (jc0 _) ?_;intro h p;refine c9 _ rfl ?_;intro v21 q;cases J:v21
     case false=>rw[Aa];exact Am (x.symm.trans z) (by simp[v,w,s,u];omega)
     case true=>rw[Ac];exact⟨_,rfl,by simp,by simp⟩
    case true=>
     rw[Ac];refine c9 _ rfl ?_;intro h p;cases K:h
     case false=>
      rw[Aa];refine c9 _ rfl ?_;intro v20 o;refine u6 (jc0 _) ?_;intro v21 q;refine c9 _ rfl ?_;intro v23 M;cases N:v23
      case false=>rw[Aa];exact Am (x.symm.trans z) (by simp[v,w,s,u];omega)
      case true=>rw[Ac];exact⟨_,rfl,by simp,by simp⟩
     case true=>rw[Ac];exact⟨_,rfl,by simp,by simp⟩
  case true=>rw[Ac];exact⟨_,rfl,by simp,by simp⟩
 case true=>rw[Ac];exact⟨_,rfl,by simp,by simp⟩
theorem sq_nonneg(x:Int):0<=x*x:=by
  rcases gN 0 x with h | h
  · exact aF h h
  exact Int.mul_nonneg_of_nonpos_of_nonpos h h
theorem hh0{a b:Pt}(ha:B7 a=true)(c:B7 b=true):J0 (a,b)=some ((b.1-a.1)*(b.1-a.1)+(b.2-a.2)*(b.2-a.2))/\0<=(b.1-a.1)*(b.1-a.1)+(b.2-a.2)*(b.2-a.2)/\(b.1-a.1)*(b.1-a.1)+(b.2-a.2)*(b.2-a.2)<=35184372088832:=by rw[cT0]at ha c;obtain⟨m1,m2⟩:=cY0 (a:=b.1-a.1) (b:=b.1-a.1) (m:=4194304) (n:=4194304) (by omega) (by omega) (by omega) (by omega);obtain⟨m3,m4⟩:=cY0 (a:=b.2-a.2) (b:=b.2-a.2) (m:=4194304) (n:=4194304) (by omega) (by omega) (by omega) (by omega);have p1:0<=(b.1-a.1)*(b.1-a.1):=sq_nonneg _;have p2:0<=(b.2-a.2)*(b.2-a.2):=sq_nonneg _;unfold J0;simp only[b9];rw[w64 (n:=b.1-a.1) (by omega) (by omega),w64 (n:=b.2-a.2) (by omega) (by omega),w64 (n:=(b.1-a.1)*(b.1-a.1)) (by omega) (by omega),w64 (n:=(b.2-a.2)*(b.2-a.2)) (by omega) (by omega),w64 (by omega) (by omega)];exact⟨rfl,by omega,by omega⟩
theorem nF0{n g:Int}(h1:1<=g)(h2:g<=n)(c:n<=9223372036854775807):1<=aa.wrap (n.tdiv g)/\aa.wrap (n.tdiv g)<=9223372036854775807:=by rw[jo n g ⟨by omega,c,h1⟩];have a:1<=n / g:=(Int.le_ediv_iff_mul_le (by omega)).2 (by omega);have b:n / g<=n:=jZ _ (by omega);omega
theorem wQ0{a b p:Pt}(ha:B7 a=true)(i:B7 b=true)(hp:B7 p=true):∃ f,Y2 (a,b,p)=some f/\0<=f.1/\f.1<=9223372036854775807/\1<=f.2/\f.2<=9223372036854775807:=by
 unfold Y2;dsimp only;obtain⟨s1,s2,s3⟩:=hh0 ha i;obtain⟨B,s5,s6⟩:=hh0 ha hp;obtain⟨C,s8,s9⟩:=hh0 i hp;have D:=aj0 a b p ha i hp;have w:=tO0 a b p;rw[ha,i,hp]at w;refine c9 _ rfl ?_;intro v6 x;refine u6 (show ∃ v,L7 _=some v/\v=true from⟨_,w,rfl⟩) ?_;intro v6 x;refine c9 _ rfl ?_;intro E G;cases z:E
 case false=>
  rw[Aa];refine u6 (show ∃ v,J0 _=some v/\v=(b.1-a.1)*(b.1-a.1)+(b.2-a.2)*(b.2-a.2)from⟨_,s1,rfl⟩) ?_;intro v8 h8;refine c9 _ rfl ?_;intro v9 h9;refine c9 _ rfl ?_;intro v10 H;refine c9 _ rfl ?_;intro v11 I;refine c9 _ rfl ?_;intro v12 J;refine c9 _ rfl ?_;intro K M;refine c9 _ rfl ?_;intro N O;refine c9 _ rfl ?_;intro P Q;refine c9 _ rfl ?_;intro j k;cases l:j
  case false=>
   rw[Aa];refine c9 _ rfl ?_;intro v17 e
   skip
   cases m:v17
   case false=>
    rw[Aa];have k1:=of_decide_eq_false (k.symm.trans l);have k2:=of_decide_eq_false (e.symm.trans m);refine u6 (show ∃ v,M3 _=some v/\v=cross a b p from⟨_,D,rfl⟩) ?_;intro n o;refine u6 (sj0 _ _ (by omega) (by omega)) ?_;intro R c;refine c9 _ rfl ?_;intro v21 S;refine c9 _ rfl ?_;intro v22 U;refine c9 _ rfl ?_;intro v23 V;refine u6 (Gcd_ex (by have:=mr0 (v21-v22);omega) (by have:=mr0 (v21-v22);omega) (by omega) (by omega)) ?_;intro v24 d;refine c9 _ rfl ?_;intro v25 Y;refine c9 _ (gd (Ak (by omega))) ?_;intro v26 Z;refine c9 _ rfl ?_;intro v27 h27;refine u6 (nM0 _) ?_;intro v28 q;refine c9 _ (gd (Ak (by omega))) ?_;intro v30 h30;refine c9 _ rfl ?_;intro v31 h31;refine u6 (tK0 q.2 (by have:=(wu v30).1;omega)) ?_;intro v32 r;refine c9 _ rfl ?_;intro v34 h34;refine c9 _ rfl ?_;intro v35 h35;cases c35:v35
    case false=>
     rw[Aa];refine c9 _ rfl ?_;intro v36 s;cases t:v36
     case false=>rw[Aa];refine c9 _ rfl ?_;intro v37 u;refine c9 _ (gd (Ak (by omega))) ?_;intro g h;exact⟨_,rfl,by have:=of_decide_eq_false (s.symm.trans t);show 0<=v37;rw[u,w64 (by omega) (by omega)];exact r,by show v37<=_;have:=mr0 v32.1;omega,by show 1<=g;rw[h];exact(nF0 d.1 d.2 (by omega)).1,by show g<=_;rw[h];exact(nF0 d.1 d.2 (by omega)).2⟩
     case true=>rw[Ac];exact⟨_,rfl,c.1,c.2,by simp,by simp⟩
    case true=>rw[Ac];exact⟨_,rfl,c.1,c.2,by simp,by simp⟩
   case true=>rw[Ac];refine u6 (show ∃ v,J0 _=some v/\v=(p.1-b.1)*(p.1-b.1)+(p.2-b.2)*(p.2-b.2)from⟨_,C,rfl⟩) ?_;intro n o;exact⟨_,rfl,by simp only;omega,by simp only;omega,by simp,by simp⟩
  case true=>
   rw[Ac];refine u6 (show ∃ v,J0 _=some v/\v=(p.1-a.1)*(p.1-a.1)+(p.2-a.2)*(p.2-a.2)from⟨_,B,rfl⟩) ?_;intro v17 e
   skip
   exact⟨_,rfl,by simp only;omega,by simp only;omega,by simp,by simp⟩
 case true=>rw[Ac];rw[G,x]at z;cases z
theorem sS0{n d:Int}(h1:0<=n)(h2:n<=9223372036854775807)(a:1<=d):bL0 (n,d)=some (n / d,0):=by
  have hc:cN0 (n,d)=some 0:=by unfold cN0;simp only[b9,show ¬ d=0 by omega,show ¬ n=-9223372036854775808 by omega,Ag,Aa]
  have b:decide (d=0)=false:=Ak (by omega);have em:n.tmod d=n%d:=eQ h1;have c:¬ n%d<0:=by have:=kn n (show d≠0 by omega);omega
  have e:¬ d<0:=by omega
  unfold bL0;simp only[hc,b9,Ai,aA,Aa,b,jo n d ⟨h1,h2,a⟩,em,c,e,Ag,beq_self_eq_true,Bool.cond_self]
noncomputable def mJ0(a b p:Pt):Int:=((Y2 (a,b,p)).getD (0,0)).1 / ((Y2 (a,b,p)).getD (0,0)).2
theorem nL0{a b p:Pt}(ha:B7 a=true)(g:B7 b=true)(hp:B7 p=true):∃ f,Y2 (a,b,p)=some f/\bL0 f=some (mJ0 a b p,0)/\0<=mJ0 a b p/\mJ0 a b p<=9223372036854775807:=by
  obtain⟨f,e,f1,f2,f3,f4⟩:=wQ0 ha g hp;have c:mJ0 a b p=f.1 / f.2:=by unfold mJ0;rw[e];rfl
  refine⟨f,e,?_,?_,?_⟩
  · rw[c];exact sS0 (n:=f.1) (d:=f.2) f1 f2 f3
  · rw[c];exact Int.ediv_nonneg f1 (by omega)
  rw[c];have:=jZ f.2 f1;omega
theorem dy0{α:Type}{xs:List α}{i:Int}(b:0<=i)(h1:i<(xs.length:Int)):∃ v,nth xs i=some v/\v∈xs:=by
  have a:i.toNat<xs.length:=by omega
  refine⟨xs[i.toNat],?_,aw a⟩;rw[mP0 b];exact ai a
theorem exb{β:Type}{c:Bool}{a b:Option β}{Q:β->Prop}(h1:∃ v,a=some v/\Q v)(h2:∃ v,b=some v/\Q v):∃ v,(bif c then a else b)=some v/\Q v:=by
  cases c
  · exact h2
  exact h1
theorem wF0(x:(Int×Int×Int×Int)×(Int×Int)):∃ v,dQ0 x=some v/\True:=by
  unfold dQ0
  repeat' first | exact⟨_,rfl,trivial⟩ | refine exb ?_ ?_
theorem jT0(x:Int×Int):∃ v,I9 x=some v/\True:=by unfold I9;exact u6 (wF0 _) fun v _=>⟨_,rfl,trivial⟩
theorem kS0(x:Ar×Ar):∃ v,D2 x=some v/\True:=by
  unfold D2
  repeat' first | exact⟨_,rfl,trivial⟩ | refine exb ?_ ?_ | refine c9 _ rfl fun _ _=>?_
theorem in0(ns:List Nd)(ars:List Ar)(fs:List Int)(a:Ar)(h:ars.length<=1000000):∃ v,F8 ((ns,ars,fs),a)=some v/\True:=by
  unfold F8;unfold w7;simp only[b9];rw[O4 ars h _ (fun b=>(D2 (b,a)).getD false) (fun b _=>by
    obtain⟨v,hv,_⟩:=kS0 (b,a);rw[show D2 ((b.1,b.2.1,b.2.2.1,b.2.2.2.1,b.2.2.2.2.1,b.2.2.2.2.2),(a.1,a.2.1,a.2.2.1,a.2.2.2.1,a.2.2.2.2.1,a.2.2.2.2.2))=some v from hv];rfl)]
  exact⟨_,rfl,trivial⟩
theorem Nq0(a b c p:Pt)(s:Int){go:Option Bool}(h:∃ v,go=some v/\True):∃ v,Nt0 a b c p s go=some v/\True:=by
  unfold Nt0;simp only[M0,I5,b9]
  repeat' first | exact h | exact⟨_,rfl,trivial⟩ | refine exb ?_ ?_ | refine u6 (wF0 _) fun _ _=>?_
theorem Nu0{α:Type}{xs:List α}{F:(Int->Option Bool)->Int->Option Bool}(hl:xs.length<=1000000)(h:∀ k x,0<=x->(x<(xs.length:Int)->∃ v,k (aa.wrap (x+1))=some v/\True)->∃ v,F k x=some v/\True):∃ v,rounds F 0=some v/\True:=by refine L5 (fun y:Int=>0<=y) (fun y:Int=>((xs.length:Int)-y).toNat) _ ?_ (aX 0) (by show ((xs.length:Int)-0).toNat<_;omega);intro k x ix a;refine h k x ix fun lt=>?_;rw[w64 (by omega) (by omega)];exact a (x+1) (by show 0<=x+1;omega) (by show ((xs.length:Int)-(x+1)).toNat<((xs.length:Int)-x).toNat;omega)
theorem eo0{ns:List Nd}{ars:List Ar}(f:ns.length<=1000000)(ha:ars.length<=1000000)(hv:∀ a∈ars,a.2.2.2.1.length<=1000000)(v11 b v17:Pt):∃ v,oT0 ns ars v11 b v17=some v/\True:=by
  unfold oT0;rw[I5,b9];refine Nu0 f fun k x ix d=>?_;cases c:decide (x<(ns.length:Int))with
  | true=>exact u6 (dy0 ix (Aj c)) fun v _=>Nq0 _ _ _ _ _ (d (Aj c))
  | false=>
    refine Nu0 ha fun k x ix d=>?_;cases c:decide (x<(ars.length:Int))with
    | false=>exact⟨_,rfl,trivial⟩
    | true=>
      refine u6 (dy0 ix (Aj c)) fun w hw=>Nu0 (hv w hw) fun h y g e=>?_;cases c2:decide (y<(w.2.2.2.1.length:Int))with
      | true=>exact u6 (dy0 g (Aj c2)) fun v _=>Nq0 _ _ _ _ _ (e (Aj c2))
      | false=>exact d (Aj c)
theorem wc0{ns:List Nd}{ars:List Ar}{fs:List Int}{a:Ar}{l:List Pt}{i:Int}(c:ns.length<=1000000)(ha:ars.length<=1000000)(hv:∀ a∈ars,a.2.2.2.1.length<=1000000)(d:0<=i)(h1:i+2<(l.length:Int))(hl:l.length<=1000000):∃ v,U2 ((ns,ars,fs),a,l,i)=some v/\True:=by
  unfold U2;dsimp only;rw[w64 (show -9223372036854775808<=i+1 by omega) (by omega),w64 (show -9223372036854775808<=i+2 by omega) (by omega)];refine u6 (dy0 d (by omega)) fun v11 _=>u6 (dy0 (xs:=l) (i:=i+1) (by omega) (by omega)) fun b _=>u6 (dy0 (xs:=l) (i:=i+2) (by omega) (by omega)) fun v17 _=>?_
  repeat' first | exact eo0 c ha hv v11 b v17 | exact⟨_,rfl,trivial⟩ | refine exb ?_ ?_ | refine u6 (jT0 _) fun _ _=>?_ | refine u6 (in0 _ _ _ _ ha) fun _ _=>?_
abbrev Vi:=Int×Int×Int×Int
theorem od0{X V β:Type}(xs:List X){F:(Int×List V->Option β)->Int×List V->Option β}(g:X->List V)(c N:Nat)(hl:xs.length<2^60)(j:∀ x∈xs,(g x).length<=c)(K:Int×List V->Option β){acc0:List V}(d:acc0.length<=N)
  (e:∀ rec acc,F rec ((xs.length:Int),acc)=K ((xs.length:Int),acc))
  (b:∀ rec (i:Nat) acc x,i<xs.length->xs[i]?=some x->x∈xs->acc.length<=N+c*i->F rec ((i:Int),acc)=rec (((i+1:Nat):Int),acc++g x)) :
  rounds F ((0:Int),acc0)=K ((xs.length:Int),acc0++xs.flatMap g):=by
 refine(p8 (A:=List V) xs (fun i a=>((i:Int),a)) (fun a rest=>K ((xs.length:Int),a++rest.flatMap g)) (fun i a=>a.length<=N+c*i) (dK hl (by decide)) ?_ ?_ acc0 (by simpa using d))
 ·intro rec a _
  rw[e,List.flatMap_nil,bw]
 intro rec i a x rest hi k h l;have f:x∈xs:=by
  have:x∈xs.drop i:=by rw[h];simp
  exact bf this
 have m:xs[i]?=some x:=by have:=Ap jb h;simpa[g_]using this
 have:=j x f;rw[b rec i a x hi m f k,l _ (by rw[aK,Nat.mul_add];omega),eA,cL]
theorem K7{X V:Type}{g:X->List V}{c:Nat}:∀ {xs:List X},(∀ x∈xs,(g x).length<=c)->(xs.flatMap g).length<=c*xs.length
 | [],_=>by simp
 | x::xs,h=>by have h1:=h x (by simp);have h2:=K7 (g:=g) (c:=c) (xs:=xs) fun y a=>h y (by simp[a]);rw[eA,aK,ay,Nat.mul_succ];omega
def jk0(m:Int)(vs:List Int):Int:=vs.foldl min m
theorem mL0{b:Int}:∀ {vs:List Int} {m:Int},b<=m->(∀ v∈vs,b<=v)->b<=jk0 m vs
 | [],m,h,_=>h
 | v::vs,m,h,hv=>by show b<=jk0 (min m v) vs;have:=hv v (by simp);exact mL0 (by omega) fun x a=>hv x (by simp[a])
theorem aF0{α:Type}{xs:List α}{i:Nat}{x:α}(h:xs[i]?=some x):nth xs (i:Int)=some x:=by rw[C3,h]
theorem dx0{i n:Nat}(h:i<n)(a:n<=1000000):aa.wrap ((i:Int)+1)=((i+1:Nat):Int):=w9 h (by omega)
noncomputable def lw0(a:Ar)(f:Ft):Bool:=bif decide (K1 f.2.1=2)then decide (a.1∈f.2.2.2.2)else bif decide (K1 f.2.1=3)then !(decide (a.2.2.2.2.1∈f.2.2.2.2)==decide (a.2.2.2.2.2∈f.2.2.2.2))else false
noncomputable def P2(ars:List Ar)(l:List Ft):List Int:=ars.flatMap fun a=>if l.any (lw0 a)then []else [a.1]
theorem wW0(l:List Ft)(a:Ar)(hl:l.length<=1000000)(hp:∀ f∈l,f.2.2.2.2.length<=1000000):o8 (l,(a.1,a.2.1,a.2.2.1,a.2.2.2.1,a.2.2.2.2.1,a.2.2.2.2.2))=some (l.any (lw0 a)):=by unfold o8;simp only[b9];refine O4 l hl _ (lw0 a) fun f hf=>?_;have h:=hp f hf;unfold O5 lw0;simp only[bb0,b9,E1 f.2.2.2.2 _ (show f.2.2.2.2.length<2^62 by omega)];cases decide (K1 f.2.1=2)<;>cases decide (K1 f.2.1=3)<;>rfl
theorem qo0(ns:List Nd)(ars:List Ar)(fs:List Int)(l:List Ft)(ha:ars.length<=1000)(hl:l.length<=1000000)(hp:∀ f∈l,f.2.2.2.2.length<=1000000):N3 (ns,ars,fs,l)=some (P2 ars l):=by
 unfold N3;simp only[b9];refine(od0 ars (fun a=>if l.any (lw0 a)then []else [a.1]) 1 0 (by omega) (fun a _=>by split<;>simp) (fun s=>some s.2) (acc0:=[]) (by simp) ?_ ?_).trans (by simp only[aT];rfl)
 ·intro rec acc
  simp only[A9,Aa]
 intro rec i acc a hi b hm hlen;simp only[A5 hi,Ac,aF0 b,b9,wW0 l a hl hp,dx0 hi (show ars.length<=1000000 by omega)];cases l.any (lw0 a)with
 | true=>simp
 | false=>simp only[aY,Ac];rw[C7 (by omega) (by simp;omega)];simp
theorem rY0{ns:List Nd}{ars:List Ar}{fs:List Int}{l:List Ft}(a:X1 ns ars fs l=0)(ha:ars.length<=1000)(hl:l.length<=1000000)(hp:∀ f∈l,f.2.2.2.2.length<=1000000):G8 (ns,ars,fs,l)=some (P2 ars l):=by unfold G8;simp only[Q3,a,b9,Ai,aA,Aa,qo0 ns ars fs l ha hl hp]
noncomputable def tT0(p:List Pt)(at':Pt):List Int:=(aJ (p.length-1)).map fun i=>mJ0 ((p[i]?).getD (0,0)) ((p[i+1]?).getD (0,0)) at'
theorem vd0(a b:Int):bp mnI a [b]=min a b:=qO0 a b
theorem no0{ns:List Nd}{ars:List Ar}{fs:List Int}{id most:Int}{at':Pt}{p:List Pt}(h:E9 ((ns,ars,fs),id)=some (p,0))(hl:p.length<=1000)(d:∀ q∈p,B7 q=true)(ha:B7 at'=true):Q0 ((ns,ars,fs),id,at',most)=some (jk0 most (tT0 p at')):=by
 unfold Q0;simp only[h,b9];have g:(aJ (p.length-1)).length=p.length-1:=hY;refine(p8 (A:=Int) (aJ (p.length-1)) (fun i a=>(((i+1:Nat):Int),a)) (fun a rest=>some (jk0 a (rest.map fun i=>mJ0 ((p[i]?).getD (0,0)) ((p[i+1]?).getD (0,0)) at'))) (fun _ _=>True) (by omega) ?_ ?_ most trivial)
 ·intro rec a _
  rw[g];have e:decide (((p.length-1+1:Nat):Int)<(p.length:Int))=false:=Ak (by omega);simp only[e,Aa,cB];rfl
 intro rec i a x rest hi _ j c;rw[g]at hi;have k:x=i:=by have:=Ap jb j;simp only[g_,j_]at this;rw[jd hi]at this;exact(aW this).symm
 subst k;have e1:aa.wrap (((x+1:Nat):Int)-1)=(x:Int):=by rw[w64 (by omega) (by omega)];omega
 have e2:aa.wrap (((x+1:Nat):Int)+1)=((x+1+1:Nat):Int):=by rw[w64 (by omega) (by omega)];omega
 have b:x+1<p.length:=by omega
 have g1:p[x]?=some p[x]:=ai (by omega);have g2:p[x+1]?=some p[x+1]:=ai b;obtain⟨f,d1,d2,_,_⟩:=nL0 (d _ (aw (show x<p.length by omega))) (d _ (aw b)) ha;simp only[A5 b,Ac,e1,b9,C3,g1,g2,d1,d2,Ai,vd0,e2];rw[c _ trivial];simp only[az,g1,g2,bS];rfl
theorem tM0{p:List Pt}{at':Pt}(a:∀ q∈p,B7 q=true)(ha:B7 at'=true):∀ v∈tT0 p at',0<=v:=by intro v hv;obtain⟨i,hi,rfl⟩:=aM.1 hv;have hi:=eC.1 hi;rw[ai (show i<p.length by omega),ai (show i+1<p.length by omega)];obtain⟨f,_,_,h,_⟩:=nL0 (a _ (aw (show i<p.length by omega))) (a _ (aw (show i+1<p.length by omega))) ha;exact h
noncomputable def oU0(ns:List Nd)(ars:List Ar)(fs:List Int)(id:Int)(i:Nat):Bool:=(I3 ((ns,ars,fs),id,(i:Int))).getD false
def tw3(p:List Pt)(i:Nat):Int:=cU0 ((p[i]?).getD (0,0)) ((p[i+1]?).getD (0,0)) ((p[i+2]?).getD (0,0))
def abI(v:Int):Int:=max v (-v)
noncomputable def co0(ns:List Nd)(ars:List Ar)(fs:List Int)(a:Ar)(p:List Pt):List Nat->List Int
 | []=>[]
 | i::r=>if oU0 ns ars fs a.1 i then abI (tw3 p i)::co0 ns ars fs a p r else co0 ns ars fs a p r
theorem pa0(a b c:Pt):-35184372088832<=cU0 a b c/\cU0 a b c<=35184372088832:=by
 unfold cU0;split
 ·rename_i h
  simp only[ab]at h;exact lN0 h.1.1 h.1.2 h.2
 omega
theorem ie0{ns:List Nd}{ars:List Ar}{fs:List Int}{a:Ar}{p:List Pt}:∀ {r:List Nat},∀ v∈co0 ns ars fs a p r,0<=v
 | [],v,h=>by simp[co0]at h
 | i::r,v,h=>by
  unfold co0 at h;split at h
  ·rcases aC.1 h with rfl | h
   ·unfold abI;omega
   exact ie0 v h
  exact ie0 v h
theorem wx0{ns:List Nd}{ars:List Ar}{fs:List Int}(h:cw0 ns ars fs){a:Ar}(ha:a∈ars){i:Nat}(hi:i<a.2.2.2.1.length):I3 ((ns,ars,fs),a.1,(i:Int))=some (oU0 ns ars fs a.1 i):=by
 have hex:∃ v,I3 ((ns,ars,fs),a.1,(i:Int))=some v:=by obtain⟨f,t,_,_,hp,_,_⟩:=h.path ha;have hv:=h.lenV ha;obtain⟨v,c,_⟩:=wc0 (ns:=ns) (ars:=ars) (fs:=fs) (a:=a) (l:=(f.2.1,f.2.2)::(a.2.2.2.1++[(t.2.1,t.2.2)])) (i:=(i:Int)) (by have:=h.lenN;omega) (by have:=h.lenA;omega) (fun b d=>by have:=h.lenV d;omega) (by omega) (by simp;omega) (by simp;omega);unfold I3;have c1:decide ((i:Int)<0)=false:=Ak (by omega);have c2:decide (((a.2.2.2.1.length:Nat):Int)<=(i:Int))=false:=Ak (by omega);simp only[h.Arc_eq,h.arcOf_self ha,b9,aA,Aa,c1,c2,h.Path_eq,hp,Ai,Ac,c];exact⟨_,rfl⟩
 obtain⟨v,hv⟩:=hex;simp[oU0,hv]
theorem sq0:∀ {l:List Ft} {o:Option Int},ud0 o l=false->(∀ p,o=some p->∀ f∈l,p<f.1)/\l.Pairwise (fun f g=>f.1<g.1)
 | [],_,_=>⟨fun _ _ f hf=>by simp at hf,gh⟩
 | f::r,o,h=>by
  unfold ud0 at h;have h2:ud0 (some f.1) r=false:=by revert h;cases ((match o with | some p=>decide (f.1<=p) | none=>false)||!(sX0 f.2.2.2.2))<;>simp
  have h1:∀ p,o=some p->p<f.1:=by
   intro p hp;subst hp;by_cases e:f.1<=p
   ·simp[e]at h
   omega
  obtain⟨a,b⟩:=sq0 h2;have a:=a f.1 rfl;refine⟨?_,bj.2 ⟨a,b⟩⟩;intro p hp g c;have d:=h1 p hp;rcases aC.1 c with rfl | c
  ·exact d
  have:=a g c;omega
structure FtOk(ns:List Nd)(ars:List Ar)(fs:List Int)(l:List Ft):Prop where
 pl:cw0 ns ars fs
 len:l.length<=128
 parts:∀ f∈l,f.2.2.2.2.length<=64
 asc:l.Pairwise (fun f g=>f.1<g.1)
 num:∀ f∈l,1<=f.1/\f.1<=1073741824
 some:∀ f∈l,f.2.2.2.2≠[]
theorem np0{c:Bool}{a b:Int}(ha:a≠0)(h:(bif c then a else b)=0):c=false/\b=0:=by
 cases c with
 | true=>exact Am h ha
 | false=>exact⟨rfl,h⟩
theorem cX0{ns:List Nd}{ars:List Ar}{fs:List Int}{l:List Ft}(a:X1 ns ars fs l=0):FtOk ns ars fs l:=by
 unfold X1 at a;have b:L9 ns ars fs=0:=by
  by_cases h:L9 ns ars fs=0
  ·exact h
  simp[h]at a
 rw[b]at a;simp only[Ai,aA,Aa]at a;have hp:cw0 ns ars fs:=by
  refine aI0.1 ?_;unfold L9 at b;by_cases a:M8 ns ars fs=0
  ·exact a
  simp[a]at b
 obtain⟨h1,a⟩:=np0 (by decide) a;obtain⟨h2,a⟩:=np0 (by decide) a;obtain⟨c,a⟩:=np0 (by decide) a;obtain⟨d,a⟩:=np0 (by decide) a;obtain⟨g,a⟩:=np0 (by decide) a;obtain⟨i,a⟩:=np0 (by decide) a;obtain⟨e,a⟩:=np0 (by decide) a;refine⟨hp,by have:=of_decide_eq_false h1;omega,fun f hf=>?_,(sq0 c).2,fun f hf=>?_,fun f hf=>?_⟩
 ·have:=dF.1 h2 f hf
  simp[p1]at this;omega
 ·have:=dF.1 d f hf
  simp[p2]at this;omega
 have:=dF.1 e f hf;intro he;rw[p5,he]at this;simp at this
noncomputable def lI0(ns:List Nd)(ars:List Ar)(l:List Ft)(id:Int):Int:=match eq0 l id with
 | some f=>if K1 f.2.1=3 then iz0 ns ars f.2.2.2.2 ars else 0
 | none=>0
noncomputable def X3(ns:List Nd)(ars:List Ar)(l:List Ft)(least:Int)(f:Ft):List Vi:=if K1 f.2.1=3/\lI0 ns ars l f.1<least then [(1,f.1,0,least-lI0 ns ars l f.1)]else []
noncomputable def it0(ns:List Nd)(ars:List Ar)(fs:List Int)(a:Ar)(b:Int):Int:=match pathOf ns ars a.1 with
 | some p=>jk0 b (co0 ns ars fs a p (aJ a.2.2.2.1.length))
 | none=>b
noncomputable def dp0(ns:List Nd)(ars:List Ar)(fs:List Int)(b:Int)(a:Ar):List Vi:=if it0 ns ars fs a b<b then [(2,a.1,0,b-it0 ns ars fs a b)]else []
def nodeAt(ns:List Nd)(id:Int):Nd:=match O7 ns id with | some n=>n | none=>(0,0,0)
noncomputable def iD0(ns:List Nd)(ars:List Ar)(a:Ar)(at':Pt)(most:Int):Int:=match pathOf ns ars a.1 with
 | some p=>jk0 most (tT0 p at')
 | none=>most
noncomputable def ge0(ns:List Nd)(ars:List Ar)(least:Int)(f:Ft)(n:Nd)(a:Ar):List Vi:=if iD0 ns ars a (n.2.1,n.2.2) least<least then [(3,f.1,a.1,least-iD0 ns ars a (n.2.1,n.2.2) least)]else []
def sqD(m n:Nd):Int:=(m.2.1-n.2.1)*(m.2.1-n.2.1)+(m.2.2-n.2.2)*(m.2.2-n.2.2)
def hQ0(least:Int)(f:Ft)(n m:Nd):List Vi:=if m.1≠n.1/\sqD m n<least then [(3,f.1,-m.1,least-sqD m n)]else []
def dB0(ns:List Nd)(ars:List Ar):List Nd:=ns.flatMap fun n=>if Z3 ars n.1=0 then [n]else []
def fk0(f:Ft):Int:=f.2.2.2.2.headD 0
noncomputable def cD0(ns:List Nd)(ars:List Ar)(least:Int)(f:Ft):List Vi :=if K1 f.2.1=1/\Z3 ars (fk0 f)=0 then ars.flatMap (ge0 ns ars least f (nodeAt ns (fk0 f)))++(dB0 ns ars).flatMap (hQ0 least f (nodeAt ns (fk0 f)))else []
def manyN(l:List Ft)(a most:Int):Int:=((l.countP fun f=>decide (a<f.2.2.1):Nat):Int)+max ((l.length:Int)-(l.countP fun f=>decide (a<f.2.2.1):Nat)-most) 0
def eW0(l:List Ft)(a most:Int):List Vi:=if 0<manyN l a most then [(4,0,0,manyN l a most*257)]else []
noncomputable def cH0(ns:List Nd)(ars:List Ar)(fs:List Int)(l:List Ft)(c d b a most:Int):List Vi :=(((l.flatMap (X3 ns ars l d)++ars.flatMap (dp0 ns ars fs b))++l.flatMap (cD0 ns ars (a*a)))++eW0 l c most)++(P2 ars l).flatMap (fun i=>[(5,i,0,1)])
theorem uY0(a b c:Int):J6 [a,b,c]=some (if a=0 then (if b=0 then c else b)else a):=by
 unfold J6;refine(r9 (A:=Unit) [a,b,c] (fun i _=>(i:Int)) (fun _ rest=>some (match rest.find? (fun v=>decide (v≠0))with | some v=>v | none=>0)) (by simp) ?_ ?_ ()).trans ?_
 ·intro rec _
  simp
 ·intro rec i _ x rest hi e f
  simp only[A5 hi,Ac,l9 e,b9,w9 hi (show [a,b,c].length<2^62 by simp),dP];by_cases h:x=0
  ·subst h
   simpa using f ()
  simp[h]
 by_cases h1:a=0
 ·by_cases h2:b=0
  ·by_cases d:c=0
   ·simp[h1,h2,d]
   simp[h1,h2,d,dP]
  simp[h1,h2,dP]
 simp[h1,dP]
def mi0(a b:Vi):Int:=if pV0 a.1 b.1=0 then (if pV0 a.2.1 b.2.1=0 then pV0 a.2.2.1 b.2.2.1 else pV0 a.2.1 b.2.1)else pV0 a.1 b.1
theorem vV0(a b:Vi):F1 (a,b)=some (mi0 a b):=by unfold F1;simp only[cmp_eq,b9,uY0];rfl
theorem ew0{a b:Int}:pV0 a b=0↔a=b:=by
 unfold pV0;constructor
 ·intro h
  split at h
  ·omega
  split at h
  ·omega
  omega
 intro h;subst h;simp
theorem ej0{a b:Vi}:mi0 a b<0↔a.1<b.1\/(a.1=b.1/\(a.2.1<b.2.1\/(a.2.1=b.2.1/\a.2.2.1<b.2.2.1))):=by
 unfold mi0;split
 ·rename_i h
  rw[ew0]at h;split
  ·rename_i h2
   rw[ew0]at h2;rw[df0];omega
  rename_i h2;rw[ew0]at h2;rw[df0];omega
 rename_i h;rw[ew0]at h;rw[df0];omega
theorem R7(l:List Vi):Ordered mi0 l :=fh0 (fun x _=>by rw[ej0];omega) (fun x _ y _ z _=>by simp only[ej0];omega) (fun x _ y _ z _=>by simp only[ej0];omega)
theorem sA0{l:List Vi}(hl:l.length<=1000000):slices_SortFunc_api_Violation_rules_Violations_2 (l,4,())=some (Z0 mi0 l):=by unfold slices_SortFunc_api_Violation_rules_Violations_2;simp only[Ai,Ac];exact kk0 (fun x _ y _=>vV0 x y) (R7 l) (by omega)
theorem av0{X V β:Type}(xs:List X){S:(Int×List V->Option β)->Int×List V->Option β}{K:Int×List V->Option β}(g:X->List V)(c N:Nat)(hl:xs.length<2^60)(d:∀ x∈xs,(g x).length<=c){acc0:List V}(b:acc0.length<=N)
  (a:∀ rec (i:Nat) acc x,i<xs.length->xs[i]?=some x->x∈xs->acc.length<=N+c*i->S rec ((i:Int),acc)=rec (((i+1:Nat):Int),acc++g x)) :
  rounds (fun k x=>bif decide (x.1<(xs.length:Int))then S k x else K x) ((0:Int),acc0)=K ((xs.length:Int),acc0++xs.flatMap g):=by
 refine od0 xs g c N hl d K b ?_ ?_
 ·intro rec acc
  simp only[A9,Aa]
 intro rec i acc x hi e hm hlen;simp only[A5 hi,Ac];exact a rec i acc x hi e hm hlen
theorem mx_ab{v:Int}(h1:-35184372088832<=v)(h2:v<=35184372088832):bp mxI v [aa.wrap (0-v)]=abI v:=by rw[eP0,w64 (by omega) (by omega)];unfold abI;omega
theorem sn0{ns:List Nd}{ars:List Ar}{fs:List Int}(h:cw0 ns ars fs){a:Ar}(ha:a∈ars){p:List Pt}(hp:p.length=a.2.2.2.1.length+2){β:Type}{K:Int×Int->Option β}(m0:Int) :
  rounds (α:=Int×Int) (β:=β) (fun d b=>bif decide (b.1<(a.2.2.2.1.length:Int))then
   b8 (nth p b.1) fun e=>b8 (nth p (aa.wrap (b.1+(1:Int)))) fun v41=>b8 (nth p (aa.wrap (b.1+(2:Int)))) fun v44=>
   b8 (V3 ((e.1,e.2),(v41.1,v41.2),(v44.1,v44.2))) fun v46=>
   bif decide (bp mxI v46 [aa.wrap (0-v46)]<b.2)then
    b8 (I3 ((ns,ars,fs),a.1,b.1)) fun v50=>
    bif v50 then d (aa.wrap (b.1+(1:Int)),bp mxI v46 [aa.wrap (0-v46)])else d (aa.wrap (b.1+(1:Int)),b.2)else d (aa.wrap (b.1+(1:Int)),b.2)else K b) ((0:Int),m0)=K ((a.2.2.2.1.length:Int),jk0 m0 (co0 ns ars fs a p (aJ a.2.2.2.1.length))):=by
 have f:(aJ a.2.2.2.1.length).length=a.2.2.2.1.length:=hY;have hv:=h.lenV ha;refine(p8 (A:=Int) (aJ a.2.2.2.1.length) (fun i m=>((i:Int),m)) (fun m rest=>K ((a.2.2.2.1.length:Int),jk0 m (co0 ns ars fs a p rest))) (fun _ _=>True) (by omega) ?_ ?_ m0 trivial)
 ·intro rec m _
  rw[f];simp only[A9,Aa];rfl
 intro rec i m x rest hi _ j c;rw[f]at hi;have k:x=i:=by have:=Ap jb j;simp only[g_,j_]at this;rw[jd hi]at this;exact(aW this).symm
 subst k;have e1:aa.wrap ((x:Int)+1)=((x+1:Nat):Int):=by rw[w64 (by omega) (by omega)];omega
 have e2:aa.wrap ((x:Int)+2)=((x+2:Nat):Int):=by rw[w64 (by omega) (by omega)];omega
 have g1:p[x]?=some p[x]:=ai (by omega);have g2:p[x+1]?=some p[x+1]:=ai (by omega);have g3:p[x+2]?=some p[x+2]:=ai (by omega);have l:cU0 (p[x].1,p[x].2) (p[x+1].1,p[x+1].2) (p[x+2].1,p[x+2].2)=tw3 p x:=by unfold tw3;rw[g1,g2,g3];rfl
 obtain⟨n,o⟩:=pa0 (p[x].1,p[x].2) (p[x+1].1,p[x+1].2) (p[x+2].1,p[x+2].2);simp only[A5 hi,Ac,e1,e2,C3,g1,g2,g3,b9,eh0];rw[mx_ab n o,l];have hf:=wx0 h ha hi;have g:=c m trivial;have q:=c (abI (tw3 p x)) trivial;have hc:co0 ns ars fs a p (x::rest)=if oU0 ns ars fs a.1 x then abI (tw3 p x)::co0 ns ars fs a p rest else co0 ns ars fs a p rest:=rfl
 rw[hc];by_cases c1:abI (tw3 p x)<m
 ·simp only[c1,Ai,Ac,hf,b9]
  cases r:oU0 ns ars fs a.1 x with
  | true=>simp only[Ac,q,Al];congr 2;show jk0 _ _=jk0 (min m (abI (tw3 p x))) _;rw[show min m (abI (tw3 p x))=abI (tw3 p x)by omega]
  | false=>simp only[Aa,g];rfl
 simp only[c1,Ag,Aa,g];cases r:oU0 ns ars fs a.1 x with
 | true=>simp only[Al];congr 2;show jk0 _ _=jk0 (min m (abI (tw3 p x))) _;rw[show min m (abI (tw3 p x))=m by omega]
 | false=>rfl
theorem lD0{ns:List Nd}{ars:List Ar}{ps:List Int}{B:Int}(c:0<=B):∀ {r:List Ar},(∀ a∈r,-B<=sx0 ns ars a/\sx0 ns ars a<=B)->-(B*(r.length:Int))<=iz0 ns ars ps r/\iz0 ns ars ps r<=B*(r.length:Int)
 | [],_=>by simp[iz0]
 | a::r,h=>by have h1:=h a (by simp);have h2:=lD0 (ns:=ns) (ars:=ars) (ps:=ps) c (r:=r) fun b d=>h b (by simp[d]);unfold iz0;rw[ay,Int.natCast_add,fw];cases decide (a.2.2.2.2.1∈ps)==decide (a.2.2.2.2.2∈ps)<;>cases decide (a.2.2.2.2.2∈ps)<;>simp only[Ac,Aa]<;>omega
theorem tV0{ns:List Nd}{ars:List Ar}{fs:List Int}(h:cw0 ns ars fs){a:Ar}(ha:a∈ars):-571746046443520<=sx0 ns ars a/\sx0 ns ars a<=571746046443520:=by
 have i:=h.num ha;have c:a.1=jo0 a.1:=by unfold jo0;omega
 obtain⟨p0,pl,b,f,g,cl⟩:=h.dart_path (d:=a.1) ⟨a,ha,c⟩;rw[<- c]at b;obtain⟨j,k⟩:=bW0 pl p0 g cl;have e:sx0 ns ars a=L8 p0 pl:=by simp only[sx0,b]
 rw[e];omega
theorem qN0{ns:List Nd}{ars:List Ar}{fs:List Int}(h:cw0 ns ars fs)(l:List Ft)(id:Int):-146366987889541120<=lI0 ns ars l id/\lI0 ns ars l id<=146366987889541120:=by
 have b:=h.lenA;unfold lI0;cases eq0 l id with
 | none=>simp
 | some f=>
  dsimp only;split
  ·obtain⟨c,d⟩:=lD0 (ns:=ns) (ars:=ars) (ps:=f.2.2.2.2) (B:=571746046443520) (by decide) (r:=ars) fun a ha=>tV0 h ha
   omega
  omega
set_option maxRecDepth 10000
theorem nw0{p:Pt}(h:dF0 p=true):-1048576<=p.1/\p.1<=1048576/\-1048576<=p.2/\p.2<=1048576:=by simpa[dF0,and_assoc]using h
theorem jq0(ns:List Nd)(ars:List Ar):(dB0 ns ars).length<=ns.length:=by have:=K7 (g:=fun n:Nd=>if Z3 ars n.1=0 then [n]else []) (c:=1) (xs:=ns) (fun f _=>by split<;>simp);show (ns.flatMap _).length<=_;omega
theorem eZ0{ns:List Nd}{ars:List Ar}{n:Nd}(h:n∈dB0 ns ars):n∈ns:=by
 obtain⟨m,hm,h⟩:=cJ.1 h;split at h
 ·simp only[List.mem_singleton]at h;rw[h];exact hm
 simp at h
theorem hY0{ns:List Nd}{ars:List Ar}(h1:ns.length<=256)(h2:ars.length<=256)(least:Int)(f:Ft):(cD0 ns ars least f).length<=512:=by
 unfold cD0;split
 ·have l1:=K7 (g:=ge0 ns ars least f (nodeAt ns (fk0 f))) (c:=1) (xs:=ars) (fun f _=>by unfold ge0;split<;>simp)
  have l2:=K7 (g:=hQ0 least f (nodeAt ns (fk0 f))) (c:=1) (xs:=dB0 ns ars) (fun f _=>by unfold hQ0;split<;>simp);have l3:=jq0 ns ars;rw[aK];omega
 simp
theorem numN{ns:List Nd}{ars:List Ar}{fs:List Int}(h:cw0 ns ars fs){n:Nd}(a:n∈ns):1<=n.1/\n.1<=1073741824:=by have:=aj.1 h.numN n.1 (a_ a);simpa[hD0]using this
theorem rM0(l:List Ft)(b:Int)(hl:l.length<=128){β:Type}{K:Int×Int->Option β} :
  rounds (α:=Int×Int) (β:=β) (fun k x=>bif decide (x.1<(l.length:Int))then
   b8 (nth l x.1) fun v40=>bif decide (b<v40.2.2.1)then k (aa.wrap (x.1+(1:Int)),aa.wrap (x.2+(1:Int)))else k (aa.wrap (x.1+(1:Int)),x.2)else K x) ((0:Int),(0:Int))=K ((l.length:Int),((l.countP fun f=>decide (b<f.2.2.1):Nat):Int)):=by
 refine(p8 (A:=Nat) l (fun i a=>((i:Int),(a:Int))) (fun a rest=>K ((l.length:Int),((a+rest.countP (fun f=>decide (b<f.2.2.1)):Nat):Int))) (fun i a=>a<=i) (by omega) ?_ ?_ 0 (by simp)).trans (by simp)
 ·intro rec a _
  simp only[A9,Aa,List.countP_nil,cM]
 intro rec i a x rest hi h g d;simp only[A5 hi,Ac,l9 g,b9,dx0 hi (show l.length<=1000000 by omega),List.countP_cons];by_cases c:b<x.2.2.1
 ·have e:aa.wrap ((a:Int)+1)=((a+1:Nat):Int):=by rw[w64 (by omega) (by omega)];omega
  simp only[c,Ai,Ac,e,Al];rw[d (a+1) (by omega)];congr 3;omega
 simp only[c,Ag,Aa,aq,Ah,cM];exact d a (by omega)
theorem bY0{ns:List Nd}{ars:List Ar}{fs:List Int}{l:List Ft}{sc r z o d most:Int}(hA:0<=z/\z<=4398046511104)(hT:0<=o/\o<=4398046511104)(M:0<=d/\d<=64)(hM:0<=most/\most<=128)
  (hc:D6 (sc,r,z,o,d,most)=some 0) (I:X1 ns ars fs l=0) :
  A7 ((ns,ars,fs,l),(sc,r,z,o,d,most))=some (Z0 mi0 (cH0 ns ars fs l r z o d most),0):=by
 have h:=(cX0 I).pl;have hl:=(cX0 I).len;have N:=(cX0 I).parts;have lN:=h.lenN;have lA:=h.lenA;have Y:0<=d*d/\d*d<=4096:=by refine⟨aF M.1 M.1,?_⟩;have:=Int.mul_le_mul M.2 M.2 M.1 (by decide);simpa using this
 unfold A7;simp only[b9,hc,Q3,I,Ai,aA,Aa];refine(av0 l (X3 ns ars l z) 1 0 (by omega) (fun f _=>by unfold X3;split<;>simp) (by simp) ?_).trans ?_
 ·intro rec i acc f hi p hm hlen
  have Z:∀ f∈l,f.2.2.2.2.length<=1000000:=fun f hf=>by have:=N f hf;omega
  have C:=h.Area_eq l f.1 (by omega) Z;obtain⟨b1,b2⟩:=qN0 h l f.1;have C:R5 ((ns,ars,fs,l),f.1)=some (lI0 ns ars l f.1):=C;simp only[aF0 p,b9,bb0,C,dx0 hi (show l.length<=1000000 by omega)];by_cases c1:K1 f.2.1=3
  ·simp only[c1,Ai,aA,Aa]
   by_cases c2:lI0 ns ars l f.1<z
   ·simp only[c2,Ai,Ac]
    rw[C7 (by omega) (by simp;omega),w64 (by omega) (by omega)];simp only[b9,X3,c1,c2,Aq,Al]
   simp only[c2,Ag,Aa];simp only[X3,c1,c2,Aq,Ah,bw]
  simp only[c1,Ag,aY,Ac];simp only[X3,c1,false_and,Ah,bw]
 dsimp only;have len1:=K7 (g:=X3 ns ars l z) (c:=1) (xs:=l) (fun f _=>by unfold X3;split<;>simp);refine(av0 ars (dp0 ns ars fs o) 1 128 (by omega) (fun f _=>by unfold dp0;split<;>simp) (by rw[aT];omega) ?_).trans ?_
 ·intro rec i acc a hi p hm hlen
  obtain⟨f,t,_,_,hp,_,_⟩:=h.path hm;simp only[aF0 p,b9,h.Path_eq,hp,Ai,aA,Aa,dx0 hi (show ars.length<=1000000 by omega)];refine(sn0 h hm (by simp) o).trans ?_;have e:it0 ns ars fs a o=jk0 o (co0 ns ars fs a ((f.2.1,f.2.2)::(a.2.2.2.1++[(t.2.1,t.2.2)])) (aJ a.2.2.2.1.length)):=by unfold it0;rw[hp]
  rw[<- e];have lb:0<=it0 ns ars fs a o:=by rw[e];exact mL0 hT.1 ie0
  dsimp only;by_cases c:it0 ns ars fs a o<o
  ·simp only[c,Ai,Ac]
   rw[C7 (by omega) (by simp;omega),w64 (by omega) (by omega)];simp only[b9,dp0,c,Al]
  simp only[c,Ag,Aa,dp0,Ah,bw]
 dsimp only;have len2:=K7 (g:=dp0 ns ars fs o) (c:=1) (xs:=ars) (fun f _=>by unfold dp0;split<;>simp);refine(av0 ns (fun n=>if Z3 ars n.1=0 then [n]else []) 1 0 (by omega) (fun f _=>by split<;>simp) (by simp) ?_).trans ?_
 ·intro rec i acc n hi p hm hlen
  simp only[aF0 p,b9,bn0 ns ars fs n.1 (show ars.length<=1000000 by omega),dx0 hi (show ns.length<=1000000 by omega)];by_cases c:Z3 ars n.1=0
  ·have c':decide (((Z3 ars n.1:Nat):Int)=0)=true:=by simp[c]
   simp only[c',Ac];rw[C7 (by omega) (by simp;omega)];simp only[b9,c,Al]
  have c':decide (((Z3 ars n.1:Nat):Int)=0)=false:=Ak (by omega);simp only[c',Aa,c,Ah,bw]
 dsimp only;rw[show ([]++ns.flatMap (fun n=>if Z3 ars n.1=0 then [n]else []))=dB0 ns ars from rfl];have lenAl:=jq0 ns ars;have wg:aa.wrap (d*d)=d*d:=w64 (by omega) (by omega);simp only[wg];refine(av0 l (cD0 ns ars (d*d)) 512 384 (by omega) (fun f _=>hY0 (by omega) (by omega) (d*d) f) (by rw[aT,aK];omega) ?_).trans ?_
 ·intro rec i acc f hi p hm hlen
  simp only[aF0 p,b9,bb0,dx0 hi (show l.length<=1000000 by omega)];by_cases c1:K1 f.2.1=1;rotate_left
  ·simp only[c1,Ag,aY,Ac,cD0,false_and,Ah,bw]
  obtain⟨p0,O,P⟩:∃ p0 O,f.2.2.2.2=p0::O:=by
   cases Q:f.2.2.2.2 with
   | nil=>exact Am Q ((cX0 I).some f hm)
   | cons p0 O=>exact⟨p0,O,rfl⟩
  have s:fk0 f=p0:=by unfold fk0;rw[P];rfl
  have n0:nth (p0::O) (0:Int)=some p0:=rfl;simp only[c1,Ai,aA,Aa,P,n0,b9,bn0 ns ars fs p0 (show ars.length<=1000000 by omega)];by_cases c2:Z3 ars p0=0;rotate_left
  ·have D:decide ((0:Int)<((Z3 ars p0:Nat):Int))=true:=Ao (by omega)
   simp only[D,Ac,cD0,s,c2,and_false,Ah,bw]
  have D:decide ((0:Int)<((Z3 ars p0:Nat):Int))=false:=Ak (by omega);obtain⟨b,hb⟩:∃ b,N7 ((ns,ars,fs),p0)=some (nodeAt ns p0,b):=by
   rw[h.Node_eq];unfold nodeAt;cases O7 ns p0 with
   | none=>exact⟨false,rfl⟩
   | some n=>exact⟨true,rfl⟩
  have u:dF0 ((nodeAt ns p0).2.1,(nodeAt ns p0).2.2)=true:=by
   unfold nodeAt;cases Q:O7 ns p0 with
   | none=>rfl
   | some n=>exact h.nodePos (bh Q)
  simp only[D,Aa,hb,b9];generalize hnd:nodeAt ns p0=j at u;have v:=cA0 u;have hpb:=nw0 u;have hi128:acc.length<=65920:=by omega
  refine(av0 ars (ge0 ns ars (d*d) f j) 1 acc.length (by omega) (fun f _=>by unfold ge0;split<;>simp) (ax _) ?_).trans ?_
  ·intro rec i B a hi p E w
   obtain⟨J,K,_,_,hp,_,_⟩:=h.path E;have hPe:E9 ((ns,ars,fs),a.1)=some ((J.2.1,J.2.2)::(a.2.2.2.1++[(K.2.1,K.2.2)]),0):=by rw[h.Path_eq,hp]
   have R:∀ q∈(J.2.1,J.2.2)::(a.2.2.2.1++[(K.2.1,K.2.2)]),B7 q=true:=fun q Q=>cA0 (h.pathNear E hp q Q);have hd:=no0 (most:=d*d) (at':=(j.2.1,j.2.2)) hPe (by have:=h.lenV E;simp;omega) R v;have hdn:=tM0 R v;have e:iD0 ns ars a (j.2.1,j.2.2) (d*d)=jk0 (d*d) (tT0 ((J.2.1,J.2.2)::(a.2.2.2.1++[(K.2.1,K.2.2)])) (j.2.1,j.2.2)):=by unfold iD0;rw[hp]
   rw[<- e]at hd;have lb:0<=iD0 ns ars a (j.2.1,j.2.2) (d*d):=by rw[e];exact mL0 Y.1 hdn
   simp only[aF0 p,b9,hd,dx0 hi (show ars.length<=1000000 by omega)];by_cases c:iD0 ns ars a (j.2.1,j.2.2) (d*d)<d*d
   ·simp only[c,Ai,Ac]
    rw[C7 (by omega) (by simp;omega),w64 (by omega) (by omega)];simp only[b9,ge0,c,Al]
   simp only[c,Ag,Aa,ge0,Ah,bw]
  dsimp only;have len3:=K7 (g:=ge0 ns ars (d*d) f j) (c:=1) (xs:=ars) (fun f _=>by unfold ge0;split<;>simp);refine(av0 (dB0 ns ars) (hQ0 (d*d) f j) 1 66500 (by omega) (fun f _=>by unfold hQ0;split<;>simp) (by rw[aK];omega) ?_).trans ?_
  ·intro rec i B m hi p G w
   have hmp:=nw0 (h.nodePos (eZ0 G));dsimp only at hmp;have q1:(decide ((0:Int)<=(i:Int))&&decide ((i:Int)<((dB0 ns ars).length:Int)))=true:=by simp;omega
   have w1:aa.wrap (m.2.1-j.2.1)=m.2.1-j.2.1:=w64 (by omega) (by omega);have w2:aa.wrap (m.2.2-j.2.2)=m.2.2-j.2.2:=w64 (by omega) (by omega);obtain⟨m1,m2⟩:=cY0 (a:=m.2.1-j.2.1) (b:=m.2.1-j.2.1) (m:=2097152) (n:=2097152) (by omega) (by omega) (by omega) (by omega);obtain⟨m3,m4⟩:=cY0 (a:=m.2.2-j.2.2) (b:=m.2.2-j.2.2) (m:=2097152) (n:=2097152) (by omega) (by omega) (by omega) (by omega);have p1:=sq_nonneg (m.2.1-j.2.1);have p2:=sq_nonneg (m.2.2-j.2.2);have w3:aa.wrap ((m.2.1-j.2.1)*(m.2.1-j.2.1))=(m.2.1-j.2.1)*(m.2.1-j.2.1):=w64 (by omega) (by omega);have w4:aa.wrap ((m.2.2-j.2.2)*(m.2.2-j.2.2))=(m.2.2-j.2.2)*(m.2.2-j.2.2):=w64 (by omega) (by omega);have w5:aa.wrap ((m.2.1-j.2.1)*(m.2.1-j.2.1)+(m.2.2-j.2.2)*(m.2.2-j.2.2))=sqD m j:=w64 (by omega) (by omega);have esq:sqD m j=(m.2.1-j.2.1)*(m.2.1-j.2.1)+(m.2.2-j.2.2)*(m.2.2-j.2.2):=rfl;simp only[q1,Ac,b9,cS,p,ak,w1,w2,w3,w4,w5,dx0 hi (show (dB0 ns ars).length<=1000000 by omega)];by_cases c:m.1=j.1
   ·simp only[c,Ai,aA,Aa,hQ0,ne_eq,not_true_eq_false,false_and,Ah,bw]
   simp only[c,Ag,aY,Ac];by_cases c5:sqD m j<d*d
   ·have hmn:=numN h (eZ0 G)
    simp only[c5,Ai,Ac];rw[C7 (by omega) (by simp;omega),w64 (n:=0-m.1) (by omega) (by omega),w64 (by omega) (by omega)];simp only[b9,hQ0,c,c5,ne_eq,not_false_eq_true,Aq,Al,Int.zero_sub]
   simp only[c5,Ag,Aa,hQ0,and_false,Ah,bw]
  simp only[dx0 hi (show l.length<=1000000 by omega),cD0,s,c1,c2,and_self,Al,hnd,cL]
 dsimp only;have len4:=K7 (g:=cD0 ns ars (d*d)) (c:=512) (xs:=l) (fun f _=>hY0 (by omega) (by omega) (d*d) f);refine(rM0 l r hl).trans ?_;dsimp only;have S:l.countP (fun f=>decide (r<f.2.2.1))<=l.length:=List.countP_le_length;generalize hk:l.countP (fun f=>decide (r<f.2.2.1))=k at S;have w1:aa.wrap ((l.length:Int)-(k:Int))=(l.length:Int)-(k:Int):=w64 (by omega) (by omega);have w2:aa.wrap ((l.length:Int)-(k:Int)-most)=(l.length:Int)-(k:Int)-most:=w64 (by omega) (by omega);have w3:aa.wrap ((k:Int)+max ((l.length:Int)-(k:Int)-most) 0)=manyN l r most:=by unfold manyN;rw[hk];exact w64 (by omega) (by omega)
 have hmn:manyN l r most=(k:Int)+max ((l.length:Int)-(k:Int)-most) 0:=by unfold manyN;rw[hk]
 have hun:=rY0 I (show ars.length<=1000 by omega) (show l.length<=1000000 by omega) (fun f hf=>by have:=N f hf;omega);have U:=K7 (g:=fun a:Ar=>if l.any (lw0 a)then []else [a.1]) (c:=1) (xs:=ars) (fun a _=>by split<;>simp);have U:(P2 ars l).length<=1*ars.length:=U;have tail:∀ acc:List Vi,acc.length<=70000->rounds (α:=Int×List Vi) (β:=List Vi×Int) (fun k x=>bif decide (x.1<((P2 ars l).length:Int))then
   b8 (nth (P2 ars l) x.1) fun v54=>b8 (Q5 32 x.2 [((5:Int),v54,(0:Int),(1:Int))]) fun v55=>k (aa.wrap (x.1+(1:Int)),v55)else b8 (slices_SortFunc_api_Violation_rules_Violations_2 (x.2,(4:Int),())) fun v54=>some (v54,(0:Int))) ((0:Int),acc)=some (Z0 mi0 (acc++(P2 ars l).flatMap (fun i=>[(5,i,0,1)])),0):=by
  intro acc V;refine(av0 (P2 ars l) (fun i=>[((5:Int),i,(0:Int),(1:Int))]) 1 70000 (by omega) (fun f _=>by simp) V ?_).trans ?_
  ·intro rec i B m hi p G w
   simp only[aF0 p,b9,dx0 hi (show (P2 ars l).length<=1000000 by omega)];rw[C7 (by omega) (by simp;omega)];rfl
  dsimp only;have len5:=K7 (g:=fun i:Int=>[((5:Int),i,(0:Int),(1:Int))]) (c:=1) (xs:=P2 ars l) (fun f _=>by simp);rw[sA0 (by rw[aK];omega)];rfl
 simp only[w1,w2,eP0,w3,hun,b9];by_cases c:0<manyN l r most
 ·have H:eW0 l r most=[(4,0,0,manyN l r most*257)]:=by unfold eW0;rw[Af c]
  simp only[c,Ai,Ac];rw[C7 (by omega) (by simp only[aK,bx,ay,aT];omega),w64 (by omega) (by omega)];simp only[b9];refine(tail _ (by simp only[aK,bx,ay,aT];omega)).trans ?_;unfold cH0;rw[H];rfl
 have H:eW0 l r most=[]:=by unfold eW0;rw[Ae c]
 simp only[c,Ag,Aa];refine(tail _ (by simp only[aK,bx,aT];omega)).trans ?_;unfold cH0;rw[H,bw];rfl
theorem qg0(l:List Pt)(hl:l.length<=1000000):∃ v,E6 l=some v/\True:=by
 unfold E6;cases l with
 | nil=>exact⟨_,rfl,trivial⟩
 | cons p l=>
  have a:decide ((((p::l).length:Nat):Int)=0)=false:=Ak (by simp;omega);have n0:nth (p::l) (0:Int)=some p:=rfl;simp only[a,Aa,n0,b9];refine L5 (fun y:Int×Int×Int×Int×Int=>0<=y.1) (fun y=>((((p::l).length:Nat):Int)-y.1).toNat) _ ?_ (by simp) (by first | omega | (simp only;omega));intro rec x b d;by_cases c:x.1<(((p::l).length:Nat):Int)
  ·obtain⟨q,f,_⟩:=dy0 (xs:=p::l) b c
   have e:aa.wrap (x.1+1)=x.1+1:=w64 (by omega) (by omega);simp only[c,Ai,Ac,f,b9,e];exact d _ (by simp only;omega) (by simp only;omega)
  simp only[c,Ag,Aa];exact⟨_,rfl,trivial⟩
theorem pM0(ns:List Nd)(ars:List Ar)(fs:List Int)(hv:∀ a∈ars,a.2.2.2.1.length<=4611686018427387904):∃ v,F5 (ns,ars,fs)=some v/\True:=by
 unfold F5;simp only[b9];by_cases h1:(30:Int)<(ns.length:Int)
 ·simp only[h1,Ai,Ac];exact⟨_,rfl,trivial⟩
 by_cases h2:(30:Int)<(ars.length:Int)
 ·simp only[h1,h2,Ai,Ag,Ac,Aa];exact⟨_,rfl,trivial⟩
 by_cases g:(30:Int)<(fs.length:Int)
 ·simp only[h1,h2,g,Ai,Ag,Ac,Aa];exact⟨_,rfl,trivial⟩
 simp only[h1,h2,g,Ag,Aa];refine L5 (fun y:List Pt×Int=>0<=y.2/\y.2<=(ns.length:Int)/\(y.1.length:Int)<=y.2) (fun y=>((ns.length:Int)-y.2).toNat) _ ?_ ⟨by decide,by simp only;omega,by simp⟩ (by simp only;omega);intro rec x j k;obtain⟨l,r,s⟩:=j;by_cases c:x.2<(ns.length:Int)
 ·obtain⟨q,b,_⟩:=dy0 (xs:=ns) l c
  have e:aa.wrap (x.2+1)=x.2+1:=w64 (by omega) (by omega);simp only[c,Ai,Ac,b,b9,e];rw[C7 (by omega) (by simp;omega),b9];exact k _ ⟨by simp only;omega,by simp only;omega,by simp;omega⟩ (by simp only;omega)
 simp only[c,Ag,Aa];refine L5 (fun y:List Pt×Int=>0<=y.2/\y.1.length<=180) (fun y=>((ars.length:Int)-y.2).toNat) _ ?_ ⟨by simp,by simp only;omega⟩ (by simp only;omega);intro h y m d;obtain⟨n,t⟩:=m;by_cases c2:y.2<(ars.length:Int)
 ·obtain⟨q,b,f⟩:=dy0 (xs:=ars) n c2
  have o:=hv q f;have e:aa.wrap (y.2+1)=y.2+1:=w64 (by omega) (by omega);have e2:aa.wrap ((y.1.length:Int)+(q.2.2.2.1.length:Int))=(y.1.length:Int)+(q.2.2.2.1.length:Int):=w64 (by omega) (by omega);simp only[c2,Ai,Ac,b,b9,e,e2];by_cases i:(180:Int)<(y.1.length:Int)+(q.2.2.2.1.length:Int)
  ·simp only[i,Ai,Ac];exact⟨_,rfl,trivial⟩
  simp only[i,Ag,Aa];rw[C7 (by omega) (by omega),b9];exact d _ ⟨by simp only;omega,by simp;omega⟩ (by simp only;omega)
 obtain⟨v,p,_⟩:=qg0 y.1 (by omega);simp only[c2,Ag,Aa,p,b9];cases decide ((-1073741824:Int)<=v.1)<;>cases decide ((-1073741824:Int)<=v.2.1)<;>cases decide (v.2.2.1<=(1073741824:Int))<;>cases decide (v.2.2.2<=(1073741824:Int))<;>cases decide (aa.wrap (v.2.2.1-v.1)<=(3000:Int))<;>exact⟨_,rfl,trivial⟩
theorem ju0(ns:List Nd)(ars:List Ar)(fs:List Int)(l:List Ft)(hv:∀ a∈ars,a.2.2.2.1.length<=4611686018427387904):∃ v,C4 (ns,ars,fs,l)=some v/\True:=by
 obtain⟨b,d,_⟩:=pM0 ns ars fs hv;unfold C4;simp only[d,b9];cases b with
 | false=>exact⟨_,rfl,trivial⟩
 | true=>
  simp only[aA,Aa];by_cases h1:(20:Int)<(l.length:Int)
  ·simp only[h1,Ai,Ac];exact⟨_,rfl,trivial⟩
  simp only[h1,Ag,Aa];refine L5 (fun y:Int=>0<=y) (fun y=>((l.length:Int)-y).toNat) _ ?_ (by simp) (by first | omega | (simp only;omega));intro rec x f g;by_cases c:x<(l.length:Int)
  ·obtain⟨q,h,_⟩:=dy0 (xs:=l) f c
   have e:aa.wrap (x+1)=x+1:=w64 (by omega) (by omega);simp only[c,Ai,Ac,h,b9,e];cases decide ((40:Int)<(q.2.2.2.2.length:Int))with
   | true=>exact⟨_,rfl,trivial⟩
   | false=>
    cases decide ((100:Int)<(q.2.2.2.1.size:Int))with
    | true=>exact⟨_,rfl,trivial⟩
    | false=>exact g _ (by omega) (by omega)
  simp only[c,Ag,Aa];exact⟨_,rfl,trivial⟩
end Go.Ab
namespace Go.Pg
abbrev P2:=Int×Int
def sm{α:Type}:List α->(α->Int)->Int
 | [],_=>0
 | a::l,f=>f a+sm l f
section
variable {α β:Type}
theorem Jq0{f g:α->Int}:∀ {l:List α},(∀ a∈l,f a=g a)->sm l f=sm l g
 | [],_=>rfl
 | a::l,h=>by have h1:=h a (by simp);have h2:=Jq0 (f:=f) (g:=g) (l:=l) fun b c=>h b (by simp[c]);simp only[sm,h1,h2]
theorem JA0(f g:α->Int):∀ l:List α,sm l (fun a=>f a+g a)=sm l f+sm l g
 | []=>by simp[sm]
 | a::l=>by have:=JA0 f g l;simp only[sm,this];omega
theorem Kc0(f g:α->Int):∀ l:List α,sm l (fun a=>f a-g a)=sm l f-sm l g
 | []=>by simp[sm]
 | a::l=>by have:=Kc0 f g l;simp only[sm,this];omega
theorem Lj0(f:α->Int):∀ l:List α,sm l (fun a=>- f a)=- sm l f
 | []=>by simp[sm]
 | a::l=>by have:=Lj0 f l;simp only[sm,this];omega
theorem Jt0{f:α->Int}{l:List α}(h:∀ a∈l,f a=0):sm l f=0:=by
 induction l with
 | nil=>rfl
 | cons a l c=>simp only[sm,h a (by simp),c fun b d=>h b (by simp[d])];rfl
theorem Le0(c:Int)(f:α->Int):∀ l:List α,sm l (fun a=>c*f a)=c*sm l f
 | []=>by simp[sm]
 | a::l=>by have:=Le0 c f l;simp only[sm,this,fw]
theorem JC0(f:α->Int):∀ l m:List α,sm (l++m) f=sm l f+sm m f
 | [],m=>by simp[sm]
 | a::l,m=>by have:=JC0 f l m;simp only[dB,sm,this];omega
theorem Ld0{f:α->Int}{l m:List α}(h:l.Perm m):sm l f=sm m f:=by
 induction h with
 | nil=>rfl
 | cons x _ a=>simp only[sm,a]
 | swap x y l=>simp only[sm];omega
 | trans _ _ h1 h2=>exact h1.trans h2
theorem Kt0(g:β->α)(f:α->Int):∀ l:List β,sm (l.map g) f=sm l (fun b=>f (g b))
 | []=>rfl
 | b::l=>by simp only[az,sm,Kt0 g f l]
theorem Lv0{f:α->Int}:∀ {l:List α},(∀ a∈l,0<=f a)->0<=sm l f
 | [],_=>aX 0
 | a::l,h=>by have h1:=h a (by simp);have h2:=Lv0 (f:=f) (l:=l) fun b c=>h b (by simp[c]);simp only[sm];omega
theorem JP0(p:α->Bool)(f:α->Int):∀ l:List α,sm (l.filter p) f=sm l (fun a=>if p a then f a else 0)
 | []=>rfl
 | a::l=>by
  have:=JP0 p f l;by_cases h:p a=true
  ·simp only[cA,h,Al,sm,this]
  simp only[cA,h,Ah,sm];simp only[aq,Ah];omega
theorem Kl0(f:α->β->Int):∀ (l:List α) (m:List β),sm l (fun a=>sm m (f a))=sm m (fun b=>sm l (fun a=>f a b))
 | [],m=>by simp only[sm];exact(Jt0 fun _ _=>rfl).symm
 | a::l,m=>by simp only[sm,Kl0 f l m];rw[<- JA0]
end
structure Net(ι:Type) where
 E:List ι
 lo:ι->P2
 hi:ι->P2
 M:Int
 s:ι->Int
 M0:0<M
 ord:∀ e∈E,(lo e).2<(hi e).2\/((lo e).2=(hi e).2/\(lo e).1<(hi e).1)
 slope:∀ e∈E,(lo e).2<(hi e).2->s e*((hi e).2-(lo e).2)=M*((hi e).1-(lo e).1)
namespace Net
variable {ι:Type} (N:Net ι)
def X(e:ι)(y:Int):Int:=N.M*(N.lo e).1+N.s e*(y-(N.lo e).2)
def up(e:ι):Prop:=(N.lo e).2<(N.hi e).2
instance (e:ι):Decidable (N.up e):=by unfold up;infer_instance
def cr(e:ι)(k:Int):Prop:=(N.lo e).2<=k/\k<(N.hi e).2
instance (e:ι) (k:Int):Decidable (N.cr e k):=by unfold cr;infer_instance
theorem Xlo(e:ι):N.X e (N.lo e).2=N.M*(N.lo e).1:=by simp[X]
theorem Xhi{e:ι}(he:e∈N.E)(hu:N.up e):N.X e (N.hi e).2=N.M*(N.hi e).1:=by have:=N.slope e he hu;unfold X;rw[this,bz];omega
structure Plane:Prop where
 nodup:N.E.Nodup
 cross:∀ e∈N.E,∀ f∈N.E,∀ k,N.cr e k->N.cr f k->N.X e k<N.X f k->N.X e (k+1)<=N.X f (k+1)
 cross':∀ e∈N.E,∀ f∈N.E,∀ k,N.cr e k->N.cr f k->N.X e (k+1)<N.X f (k+1)->N.X e k<=N.X f k
 apart:∀ e∈N.E,∀ f∈N.E,∀ k,N.cr e k->N.cr f k->N.X e k=N.X f k->N.X e (k+1)=N.X f (k+1)->e=f
 touch:∀ e∈N.E,∀ f∈N.E,∀ k,N.up e->N.up f->e≠f->(N.lo e).2<=k->k<=(N.hi e).2->(N.lo f).2<=k->k<=(N.hi f).2->N.X e k=N.X f k->(k=(N.lo e).2\/k=(N.hi e).2)
 flat:∀ e∈N.E,∀ f∈N.E,N.up e->¬ N.up f->(N.lo e).2<=(N.lo f).2->(N.lo f).2<=(N.hi e).2->N.M*(N.lo f).1<=N.X e (N.lo f).2->N.X e (N.lo f).2<=N.M*(N.hi f).1 ->
  ((N.lo f).2=(N.lo e).2\/(N.lo f).2=(N.hi e).2)/\(N.X e (N.lo f).2=N.M*(N.lo f).1\/N.X e (N.lo f).2=N.M*(N.hi f).1)
 flat2:∀ e∈N.E,∀ f∈N.E,¬ N.up e->¬ N.up f->(N.lo e).2=(N.lo f).2->(N.lo e).1<(N.hi f).1->(N.lo f).1<(N.hi e).1->e=f
def Cir(d:ι->Int):Prop:=∀ A:P2->Bool,sm N.E (fun e=>d e*((if A (N.lo e)then 1 else 0)-(if A (N.hi e)then 1 else 0)))=0
def above(d:ι->Int)(k a:Int):Int:=sm N.E fun e=>if N.cr e k/\N.X e k<a then d e else 0
def below(d:ι->Int)(k a:Int):Int:=sm N.E fun e=>if N.cr e (k-1)/\N.X e k<a then d e else 0
def hor(d:ι->Int)(k a:Int):Int:=sm N.E fun e=>if ¬ N.up e/\(N.lo e).2=k/\N.M*(N.lo e).1<a/\a<=N.M*(N.hi e).1 then d e else 0
theorem line{d:ι->Int}(j:N.Cir d)(k a:Int):N.above d k a+N.hor d k a=N.below d k a:=by
 have h:=j fun v=>decide (v.2=k/\N.M*v.1<a);have e:sm N.E (fun e=>d e*((if decide ((N.lo e).2=k/\N.M*(N.lo e).1<a)=true then 1 else 0)-(if decide ((N.hi e).2=k/\N.M*(N.hi e).1<a)=true then 1 else 0)))=sm N.E (fun e=>((if N.cr e k/\N.X e k<a then d e else 0)+(if ¬ N.up e/\(N.lo e).2=k/\N.M*(N.lo e).1<a/\a<=N.M*(N.hi e).1 then d e else 0))-(if N.cr e (k-1)/\N.X e k<a then d e else 0)):=by
  refine Jq0 fun e he=>?_;simp only[Ad];rcases N.ord e he with f | ⟨f,l⟩
  ·have hu:N.up e:=f
   by_cases h1:(N.lo e).2=k
   ·have g:N.X e k=N.M*(N.lo e).1:=by rw[<- h1];exact N.Xlo e
    have c1:N.cr e k:=⟨by omega,by omega⟩;have c2:¬ N.cr e (k-1):=fun h=>by have:=h.1;omega
    have m:¬ (N.hi e).2=k:=by omega
    simp only[h1,c1,c2,m,hu,g,Aq,false_and,not_true_eq_false,Ah];split<;>simp
   by_cases h2:(N.hi e).2=k
   ·have g:N.X e k=N.M*(N.hi e).1:=by rw[<- h2];exact N.Xhi he hu
    have c1:¬ N.cr e k:=fun h=>by have:=h.2;omega
    have c2:N.cr e (k-1):=⟨by omega,by omega⟩;simp only[h1,h2,c1,c2,hu,g,Aq,false_and,not_true_eq_false,Ah];split<;>simp
   have c:N.cr e k↔N.cr e (k-1):=by unfold cr;omega
   simp only[h1,h2,c,hu,false_and,not_true_eq_false,Ah];omega
  have hu:¬ N.up e:=fun h=>by unfold up at h;omega
  have c1:∀ k,¬ N.cr e k:=fun k h=>by have:=h.1;have:=h.2;omega
  have n:=cx l N.M0;simp only[c1,hu,false_and,Ah,not_false_eq_true,Aq,<-f];by_cases h1:(N.lo e).2=k
  ·simp only[h1,Aq]
   by_cases h2:N.M*(N.lo e).1<a
   ·by_cases b:N.M*(N.hi e).1<a
    ·have i:¬ a<=N.M*(N.hi e).1:=by omega
     simp[h2,b,i]
    have i:a<=N.M*(N.hi e).1:=by omega
    simp[h2,b,i]
   have b:¬ N.M*(N.hi e).1<a:=by omega
   simp[h2,b]
  simp[h1]
 rw[e,Kc0,JA0]at h;show sm N.E _+sm N.E _=sm N.E _;omega
def W(d:ι->Int)(k:Int)(u:ι):Int:=sm N.E fun e=>if N.cr e k/\N.X e k+N.X e (k+1)<N.X u k+N.X u (k+1)then d e else 0
variable {N} (hP:N.Plane)
include hP
theorem KW0{e u:ι}(he:e∈N.E)(hu:u∈N.E){k:Int}(h1:N.cr e k)(h2:N.cr u k):N.X e k+N.X e (k+1)<N.X u k+N.X u (k+1)↔N.X e k<N.X u k\/(N.X e k=N.X u k/\N.X e (k+1)<N.X u (k+1)):=by
 have a:=hP.cross e he u hu k h1 h2;have b:=hP.cross u hu e he k h2 h1;constructor
 ·intro h
  rcases gJ (N.X e k) (N.X u k)with c | c | c
  ·exact ba c
  ·exact aP ⟨c,by omega⟩
  have:=b c;omega
 rintro (h | ⟨h,h'⟩)
 ·have:=a h;omega
 omega
theorem MD0{e u:ι}(he:e∈N.E)(hu:u∈N.E){k:Int}(h1:N.cr e k)(h2:N.cr u k):N.X e k+N.X e (k+1)<N.X u k+N.X u (k+1)↔N.X e (k+1)<N.X u (k+1)\/(N.X e (k+1)=N.X u (k+1)/\N.X e k<N.X u k):=by
 have a:=hP.cross' e he u hu k h1 h2;have b:=hP.cross' u hu e he k h2 h1;constructor
 ·intro h
  rcases gJ (N.X e (k+1)) (N.X u (k+1))with c | c | c
  ·exact ba c
  ·exact aP ⟨c,by omega⟩
  have:=b c;omega
 rintro (h | ⟨h,h'⟩)
 ·have:=a h;omega
 omega
theorem W_bot(d:ι->Int){u:ι}(hu:u∈N.E){k:Int}(h2:N.cr u k):N.W d k u=N.above d k (N.X u k)+sm N.E (fun e=>if N.cr e k/\N.X e k=N.X u k/\N.X e (k+1)<N.X u (k+1)then d e else 0):=by
 unfold W above;rw[<- JA0];refine Jq0 fun e he=>?_;by_cases h1:N.cr e k
 ·have:=KW0 hP he hu h1 h2
  simp only[h1,Aq,this];by_cases c1:N.X e k<N.X u k
  ·have c2:¬ N.X e k=N.X u k:=by omega
   simp[c1,c2]
  simp[c1]
 simp[h1]
theorem W_top(d:ι->Int){u:ι}(hu:u∈N.E){k:Int}(h2:N.cr u k):N.W d k u=N.below d (k+1) (N.X u (k+1))+sm N.E (fun e=>if N.cr e k/\N.X e (k+1)=N.X u (k+1)/\N.X e k<N.X u k then d e else 0):=by
 unfold W below;rw[<- JA0];refine Jq0 fun e he=>?_;rw[show k+1-1=k by omega];by_cases h1:N.cr e k
 ·have:=MD0 hP he hu h1 h2
  simp only[h1,Aq,this];by_cases c1:N.X e (k+1)<N.X u (k+1)
  ·have c2:¬ N.X e (k+1)=N.X u (k+1):=by omega
   simp[c1,c2]
  simp[c1]
 simp[h1]
theorem JV0{e:ι}{k:Int}(h:N.cr e k):N.up e:=by have:=h.1;have:=h.2;unfold up;omega
theorem W_step{d:ι->Int}(i:N.Cir d){u:ι}(hu:u∈N.E){k:Int}(h1:N.cr u k)(h2:N.cr u (k+1)):N.W d k u=N.W d (k+1) u:=by
 have a:=JV0 hP h1;have i1:(N.lo u).2<k+1:=by have:=h1.1;omega
 have i2:k+1<(N.hi u).2:=h2.2;have e1:sm N.E (fun e=>if N.cr e k/\N.X e (k+1)=N.X u (k+1)/\N.X e k<N.X u k then d e else 0)=0:=Jt0 fun e he=>by
  by_cases c:N.cr e k/\N.X e (k+1)=N.X u (k+1)/\N.X e k<N.X u k
  ·obtain⟨c1,c2,g⟩:=c
   have b:u≠e:=fun h=>by subst h;omega
   have:=hP.touch u hu e he (k+1) a (JV0 hP c1) b (by omega) (by omega) (by have:=c1.1;omega) (by have:=c1.2;omega) c2.symm;omega
  rw[Ae c]
 have e2:sm N.E (fun e=>if N.cr e (k+1)/\N.X e (k+1)=N.X u (k+1)/\N.X e (k+1+1)<N.X u (k+1+1)then d e else 0)=0:=Jt0 fun e he=>by
  by_cases c:N.cr e (k+1)/\N.X e (k+1)=N.X u (k+1)/\N.X e (k+1+1)<N.X u (k+1+1)
  ·obtain⟨c1,c2,g⟩:=c
   have b:u≠e:=fun h=>by subst h;omega
   have:=hP.touch u hu e he (k+1) a (JV0 hP c1) b (by omega) (by omega) (by have:=c1.1;omega) (by have:=c1.2;omega) c2.symm;omega
  rw[Ae c]
 have e3:N.hor d (k+1) (N.X u (k+1))=0:=Jt0 fun f hf=>by
  by_cases c:¬ N.up f/\(N.lo f).2=k+1/\N.M*(N.lo f).1<N.X u (k+1)/\N.X u (k+1)<=N.M*(N.hi f).1
  ·obtain⟨c1,c2,g,j⟩:=c
   have:=hP.flat u hu f hf a c1 (by omega) (by omega) (by rw[c2];omega) (by rw[c2];omega);omega
  rw[Ae c]
 have l:=N.line i (k+1) (N.X u (k+1));rw[W_top hP d hu h1,W_bot hP d hu h2,e1,e2];omega
theorem MY0{d:ι->Int}(b:N.Cir d){u:ι}(hu:u∈N.E)(n:Nat):∀ {k:Int},N.cr u k->N.cr u (k+n)->N.W d k u=N.W d (k+n) u:=by
 induction n with
 | zero=>intro k _ _;simp
 | succ n c=>intro k h1 h2;have a:N.cr u (k+1):=⟨by have:=h1.1;omega,by have:=h2.2;omega⟩;rw[W_step hP b hu h1 a,show k+((n+1:Nat):Int)=k+1+(n:Int)by omega];exact c a (by rw[show k+1+(n:Int)=k+((n+1:Nat):Int)by omega];exact h2)
theorem W_any{d:ι->Int}(b:N.Cir d){u:ι}(hu:u∈N.E){k a:Int}(h1:N.cr u k)(h2:N.cr u a):N.W d k u=N.W d a u:=by
 rcases gN k a with h | h
 ·have:=MY0 hP b hu (a-k).toNat h1 (by rw[show k+((a-k).toNat:Int)=a by omega];exact h2)
  rw[show k+((a-k).toNat:Int)=a by omega]at this;exact this
 have:=MY0 hP b hu (k-a).toNat h2 (by rw[show a+((k-a).toNat:Int)=k by omega];exact h1);rw[show a+((k-a).toNat:Int)=k by omega]at this;exact this.symm
end Net
end Go.Pg
namespace Go.Pg
namespace Net
variable {ι:Type} {N:Net ι} (hP:N.Plane)
def atU(N:Net ι)(d:ι->Int)(v:P2):Int:=sm N.E fun e=>if N.up e/\N.lo e=v then d e else 0
def atD(N:Net ι)(d:ι->Int)(v:P2):Int:=sm N.E fun e=>if N.up e/\N.hi e=v then d e else 0
def atE(N:Net ι)(d:ι->Int)(v:P2):Int:=sm N.E fun e=>if ¬ N.up e/\N.lo e=v then d e else 0
def atW(N:Net ι)(d:ι->Int)(v:P2):Int:=sm N.E fun e=>if ¬ N.up e/\N.hi e=v then d e else 0
theorem Na0{d:ι->Int}(a:N.Cir d)(v:P2):N.atU d v+N.atE d v=N.atD d v+N.atW d v:=by
 have h:=a fun p=>decide (p=v);have e:sm N.E (fun e=>d e*((if decide (N.lo e=v)=true then 1 else 0)-(if decide (N.hi e=v)=true then 1 else 0)))=sm N.E (fun e=>((if N.up e/\N.lo e=v then d e else 0)+(if ¬ N.up e/\N.lo e=v then d e else 0))-((if N.up e/\N.hi e=v then d e else 0)+(if ¬ N.up e/\N.hi e=v then d e else 0))):=by refine Jq0 fun e _=>?_;simp only[Ad];by_cases h1:N.up e<;>by_cases h2:N.lo e=v<;>by_cases b:N.hi e=v<;>simp[h1,h2,b]
 rw[e,Kc0,JA0,JA0]at h;unfold atU atD atE atW;omega
def IsEnd(N:Net ι)(v:P2):Prop:=∃ e∈N.E,N.lo e=v\/N.hi e=v
include hP
omit hP in
theorem Kj0{e:ι}(he:e∈N.E)(h:¬ N.up e):(N.lo e).2=(N.hi e).2/\(N.lo e).1<(N.hi e).1:=by
 rcases N.ord e he with a | a
 ·exact Am a h
 exact a
theorem hor_at(d:ι->Int){v:P2}(hv:N.IsEnd v):N.hor d v.2 (N.M*v.1)=N.atW d v:=by
 refine Jq0 fun f hf=>?_;by_cases h1:N.up f
 ·simp[h1]
 obtain⟨k,l⟩:=Kj0 hf h1;by_cases h2:N.hi f=v
 ·have c:(N.lo f).2=v.2/\N.M*(N.lo f).1<N.M*v.1/\N.M*v.1<=N.M*(N.hi f).1:=by rw[<- h2];exact⟨k,cx l N.M0,aX _⟩
  simp[h1,h2,c]
 have c:¬ ((N.lo f).2=v.2/\N.M*(N.lo f).1<N.M*v.1/\N.M*v.1<=N.M*(N.hi f).1):=by
  rintro ⟨c1,c2,i⟩;have c2:(N.lo f).1<v.1:=Int.lt_of_mul_lt_mul_left c2 (db N.M0);have i:v.1<=(N.hi f).1:=Int.le_of_mul_le_mul_left i N.M0;have n:v.1≠(N.hi f).1:=fun h=>h2 (fD h.symm (by omega));obtain⟨e,he,a⟩:=hv;by_cases b:N.up e
  ·rcases a with a | a
   ·have g:N.X e (N.lo f).2=N.M*v.1:=by rw[c1,<-a];exact N.Xlo e
    have:=hP.flat e he f hf b h1 (by rw[a];omega) (by unfold up at b;rw[a]at b;omega) (by rw[g];exact bN (by omega) (db N.M0)) (by rw[g];exact bN (by omega) (db N.M0));rw[g]at this;rcases this.2 with h | h
    ·have:=bX (by have:=N.M0;omega) h;omega
    have:=bX (by have:=N.M0;omega) h;omega
   have g:N.X e (N.lo f).2=N.M*v.1:=by rw[c1,<-a];exact N.Xhi he b
   have:=hP.flat e he f hf b h1 (by unfold up at b;rw[a]at b;omega) (by rw[a];omega) (by rw[g];exact bN (by omega) (db N.M0)) (by rw[g];exact bN (by omega) (db N.M0));rw[g]at this;rcases this.2 with h | h
   ·have:=bX (by have:=N.M0;omega) h;omega
   have:=bX (by have:=N.M0;omega) h;omega
  obtain⟨m,j⟩:=Kj0 he b;rcases a with a | a
  ·have:=hP.flat2 e he f hf b h1 (by rw[a];omega) (by rw[a];omega) (by rw[a]at j;omega)
   subst this;rw[a]at c2;omega
  have:=hP.flat2 e he f hf b h1 (by rw[m,a];omega) (by rw[a]at j;omega) (by rw[a];omega);subst this;exact h2 a
 simp only[h1,h2,not_false_eq_true,Aq,false_and,and_false,Ah];rw[Ae c]
theorem W_lo(d:ι->Int){u:ι}(hu:u∈N.E)(h:N.up u){v:P2}(hv:N.lo u=v):N.W d v.2 u=N.above d v.2 (N.M*v.1)+sm N.E (fun e=>if N.up e/\N.lo e=v/\N.X e (v.2+1)<N.X u (v.2+1)then d e else 0):=by
 subst hv;have f:=N.Xlo u;have hc:N.cr u (N.lo u).2:=⟨aX _,h⟩;rw[W_bot hP d hu hc,f];congr 1;refine Jq0 fun e he=>?_;by_cases c:N.up e/\N.lo e=N.lo u/\N.X e ((N.lo u).2+1)<N.X u ((N.lo u).2+1)
 ·obtain⟨c1,c2,a⟩:=c
  rw[Af ⟨⟨by rw[c2];omega,by unfold up at c1;rw[c2]at c1;exact c1⟩,by rw[<- c2];exact N.Xlo e,a⟩,Af ⟨c1,c2,a⟩]
 rw[Ae c,Ae];rintro ⟨c1,c2,a⟩;have b:e≠u:=fun h=>by subst h;omega
 have i:=hP.touch e he u hu (N.lo u).2 (JV0 hP c1) h b c1.1 (by have:=c1.2;omega) (aX _) (by unfold up at h;omega) (by rw[c2,f]);have g:(N.lo u).2=(N.lo e).2:=by have:=c1.2;omega
 refine c ⟨JV0 hP c1,fD ?_ g.symm,a⟩;have:N.X e (N.lo e).2=N.M*(N.lo e).1:=N.Xlo e;rw[<- g,c2]at this;exact(bX (by have:=N.M0;omega) this).symm
theorem W_hi(d:ι->Int){u:ι}(hu:u∈N.E)(h:N.up u){v:P2}(hv:N.hi u=v):N.W d (v.2-1) u=N.below d v.2 (N.M*v.1)+sm N.E (fun e=>if N.up e/\N.hi e=v/\N.X e (v.2-1)<N.X u (v.2-1)then d e else 0):=by
 subst hv;have g:=N.Xhi hu h;have hc:N.cr u ((N.hi u).2-1):=⟨by unfold up at h;omega,by omega⟩;have e1:(N.hi u).2-1+1=(N.hi u).2:=by omega
 rw[W_top hP d hu hc,e1,g];congr 1;refine Jq0 fun e he=>?_;by_cases c:N.up e/\N.hi e=N.hi u/\N.X e ((N.hi u).2-1)<N.X u ((N.hi u).2-1)
 ·obtain⟨c1,c2,a⟩:=c
  have b:=N.Xhi he c1;rw[Af ⟨⟨by unfold up at c1;rw[c2]at c1;omega,by rw[c2];omega⟩,by rw[<- c2];exact b,a⟩,Af ⟨c1,c2,a⟩]
 rw[Ae c,Ae];rintro ⟨c1,c2,a⟩;have f:e≠u:=fun h=>by subst h;omega
 have j:=hP.touch e he u hu (N.hi u).2 (JV0 hP c1) h f (by have:=c1.1;omega) (by have:=c1.2;omega) (by unfold up at h;omega) (aX _) (by rw[c2,g]);have i:(N.hi u).2=(N.hi e).2:=by have:=c1.1;omega
 refine c ⟨JV0 hP c1,fD ?_ i.symm,a⟩;have:N.X e (N.hi e).2=N.M*(N.hi e).1:=N.Xhi he (JV0 hP c1);rw[<- i,c2]at this;exact(bX (by have:=N.M0;omega) this).symm
theorem north(d:ι->Int){f:ι}(hf:f∈N.E)(h:¬ N.up f):N.above d (N.lo f).2 (N.M*(N.hi f).1)=N.above d (N.lo f).2 (N.M*(N.lo f).1)+N.atU d (N.lo f):=by
 obtain⟨p,m⟩:=Kj0 hf h;have n:=cx m N.M0;unfold above atU;rw[<- JA0];refine Jq0 fun e he=>?_;by_cases c:N.cr e (N.lo f).2
 ·have g:=JV0 hP c
  simp only[c,g,Aq];by_cases c1:N.lo e=N.lo f
  ·have j:N.X e (N.lo f).2=N.M*(N.lo f).1:=by rw[<- c1];exact N.Xlo e
   have o:¬ N.M*(N.lo f).1<N.M*(N.lo f).1:=by omega
   simp only[c1,j,Al,o,n,Ah];omega
  simp only[c1,Ah];by_cases c2:N.X e (N.lo f).2<N.M*(N.lo f).1
  ·have k:N.X e (N.lo f).2<N.M*(N.hi f).1:=by omega
   simp only[c2,k,Al];omega
  by_cases k:N.X e (N.lo f).2<N.M*(N.hi f).1
  ·have:=hP.flat e he f hf g h c.1 (by have:=c.2;omega) (by omega) (by omega)
   have l:(N.lo f).2=(N.lo e).2:=by have:=c.2;omega
   have j:N.X e (N.lo f).2=N.M*(N.lo f).1:=by omega
   have i:=N.Xlo e;rw[<- l,j]at i;exact Am (fD (bX (by have:=N.M0;omega) i).symm l.symm) c1
  simp only[c2,k,Ah];omega
 have c1:¬ (N.up e/\N.lo e=N.lo f):=by rintro ⟨a,b⟩;exact c ⟨by rw[b];omega,by unfold up at a;rw[b]at a;exact a⟩
 simp[c,c1]
end Net
end Go.Pg
namespace Go.Pg
theorem Ku0{α:Type}[DecidableEq α](f:α->Int){u:α}:∀ {l:List α},l.Nodup->u∈l->sm l (fun a=>if a=u then f a else 0)=f u
 | [],_,h=>by simp at h
 | a::l,c,h=>by
  have c:=df.1 c;simp only[sm];by_cases e:a=u
  ·subst e
   rw[Af rfl,Jt0 fun b d=>Ae fun (h:b=a)=>c.1 (h▸d)];omega
  rcases aC.1 h with h | h
  ·exact Am h.symm e
  rw[Ae e,Ku0 f c.2 h];omega
namespace Net
variable {ι:Type} {N:Net ι} (hP:N.Plane)
abbrev Hf(ι:Type):=ι×Bool
def src(N:Net ι)(h:Hf ι):P2:=bif h.2 then N.lo h.1 else N.hi h.1
def dst(N:Net ι)(h:Hf ι):P2:=bif h.2 then N.hi h.1 else N.lo h.1
def rev(h:Hf ι):Hf ι:=(h.1,!h.2)
def dl(d:ι->Int)(h:Hf ι):Int:=bif h.2 then d h.1 else-d h.1
def L(N:Net ι)(d:ι->Int)(h:Hf ι):Int :=if N.up h.1 then (bif h.2 then N.W d (N.lo h.1).2 h.1 else N.W d (N.lo h.1).2 h.1+d h.1)else (bif h.2 then N.above d (N.lo h.1).2 (N.M*(N.hi h.1).1)else N.below d (N.lo h.1).2 (N.M*(N.hi h.1).1))
def cls(N:Net ι)(h:Hf ι):Nat:=if N.up h.1 then (bif h.2 then 1 else 3)else (bif h.2 then 0 else 2)
def bef(N:Net ι)(k:Int)(g h:Hf ι):Prop:=N.cls g<N.cls h\/(N.cls g=1/\N.cls h=1/\N.X h.1 (k+1)<N.X g.1 (k+1))\/(N.cls g=3/\N.cls h=3/\N.X g.1 (k-1)<N.X h.1 (k-1))
def halves(N:Net ι):List (Hf ι):=N.E.flatMap fun e=>[(e,true),(e,false)]
theorem sm_halves(F:Hf ι->Int):sm N.halves F=sm N.E (fun e=>F (e,true)+F (e,false)):=by
 unfold halves;generalize N.E=E
 induction E with
 | nil=>rfl
 | cons e E a=>simp only[eA,dB,aT,sm,a];omega
include hP
theorem Mj0(d:ι->Int){f:ι}(hf:f∈N.E)(h:¬ N.up f):N.atW d (N.hi f)=d f:=by
 open Classical in
 rw[<- Ku0 d hP.nodup hf];refine Jq0 fun e he=>?_;by_cases c:e=f
 ·subst c;simp[h]
 rw[Ae c,Ae];rintro ⟨c1,c2⟩;obtain⟨a,b⟩:=Kj0 he c1;obtain⟨g,i⟩:=Kj0 hf h;exact c (hP.flat2 e he f hf c1 h (by rw[a,c2,g]) (by rw[<- c2];exact b) (by rw[c2];exact i))
theorem Nn0(d:ι->Int){f:ι}(hf:f∈N.E)(h:¬ N.up f):N.atE d (N.lo f)=d f:=by
 open Classical in
 rw[<- Ku0 d hP.nodup hf];refine Jq0 fun e he=>?_;by_cases c:e=f
 ·subst c;simp[h]
 rw[Ae c,Ae];rintro ⟨c1,c2⟩;obtain⟨g,a⟩:=Kj0 he c1;obtain⟨i,b⟩:=Kj0 hf h;exact c (hP.flat2 e he f hf c1 h (by rw[c2]) (by rw[c2];exact b) (by rw[<- c2];exact a))
theorem ME0{d:ι->Int}(c:N.Cir d){h:Hf ι}(a:h.1∈N.E):N.L d (rev h)=N.L d h+dl d h:=by
 obtain⟨e,b⟩:=h;have a:e∈N.E:=a;unfold L rev dl;by_cases hu:N.up e
 ·cases b
  ·simp only[hu,Al,aY,Ac,Aa];omega
  simp only[hu,Al,aA,Ac,Aa]
 obtain⟨f,g⟩:=Kj0 a hu;have l:=N.line c (N.hi e).2 (N.M*(N.hi e).1);rw[hor_at hP d ⟨e,a,aP rfl⟩,Mj0 hP d a hu]at l;rw[<- f]at l;cases b
 ·simp only[hu,Ah,aY,Ac,Aa];omega
 simp only[hu,Ah,aA,Ac,Aa];omega
open Classical in
theorem MP0{d:ι->Int}(s:N.Cir d){h:Hf ι}(B:h.1∈N.E){v:P2}(hv:N.src h=v) :
  N.L d h=N.below d v.2 (N.M*v.1)+N.atD d v-sm N.halves (fun g=>if N.src g=v/\(g=h\/N.bef v.2 g h)then dl d g else 0):=by
 obtain⟨u,b⟩:=h;have hu:u∈N.E:=B;have q:N.IsEnd v:=by
  cases b
  ·exact⟨u,hu,aP hv⟩
  exact⟨u,hu,ba hv⟩
 have n:=N.line s v.2 (N.M*v.1);rw[hor_at hP d q]at n;have w:=Na0 s v;rw[sm_halves];by_cases a:N.up u
 ·cases b with
  | true=>
   have hv:N.lo u=v:=hv;have o:N.L d (u,true)=N.W d v.2 u:=by simp only[L,a,Al,Ac,hv]
   have f:N.cls (u,true)=1:=by simp[cls,a]
   have p:sm N.E (fun e=>(if N.src (e,true)=v/\((e,true)=(u,true)\/N.bef v.2 (e,true) (u,true))then dl d (e,true)else 0)+(if N.src (e,false)=v/\((e,false)=(u,true)\/N.bef v.2 (e,false) (u,true))then dl d (e,false)else 0))
     = sm N.E (fun e=>(if ¬ N.up e/\N.lo e=v then d e else 0)+((if N.up e/\N.lo e=v then d e else 0)-(if N.up e/\N.lo e=v/\N.X e (v.2+1)<N.X u (v.2+1)then d e else 0))):=by
    refine Jq0 fun e he=>?_;have s1:N.src (e,true)=N.lo e:=rfl;have d1:dl d (e,true)=d e:=rfl;by_cases c:N.up e
    ·have l:N.cls (e,true)=1:=by simp[cls,c]
     have m:N.cls (e,false)=3:=by simp[cls,c]
     have k:¬ ((e,false)=(u,true)\/N.bef v.2 (e,false) (u,true)):=by
      rintro (h | h)
      ·cases h
      unfold bef at h;rw[m,f]at h;omega
     rw[Ae (fun h:_/\_=>k h.2)];simp only[s1,d1,c,not_true_eq_false,false_and,Ah,Aq];by_cases c1:N.lo e=v
     ·simp only[c1,Aq,Al]
      have i:((e,true)=(u,true)\/N.bef v.2 (e,true) (u,true))↔¬ N.X e (v.2+1)<N.X u (v.2+1):=by
       constructor
       ·rintro (h | h)
        ·cases h;omega
        unfold bef at h;rw[l,f]at h;simp only at h;omega
       intro h;by_cases h2:N.X u (v.2+1)<N.X e (v.2+1)
       ·exact aP (aP (ba ⟨l,f,h2⟩))
       left;have ce:N.cr e v.2:=⟨by rw[c1];omega,by unfold up at c;rw[c1]at c;exact c⟩;have C:N.cr u v.2:=⟨by rw[hv];omega,by unfold up at a;rw[hv]at a;exact a⟩;have D:N.X e v.2=N.M*v.1:=by rw[<- c1];exact N.Xlo e
       have G:N.X u v.2=N.M*v.1:=by rw[<- hv];exact N.Xlo u
       have:=hP.apart e he u hu v.2 ce C (by rw[D,G]) (by omega);rw[this]
      by_cases c2:N.X e (v.2+1)<N.X u (v.2+1)
      ·rw[Ae (fun h=>(i.1 h) c2),Af c2];omega
      rw[Af (i.2 c2),Ae c2];omega
     simp[c1]
    have l:N.cls (e,true)=0:=by simp[cls,c]
    have m:N.cls (e,false)=2:=by simp[cls,c]
    have i:((e,true)=(u,true)\/N.bef v.2 (e,true) (u,true)):=by right;unfold bef;rw[l,f];omega
    have k:¬ ((e,false)=(u,true)\/N.bef v.2 (e,false) (u,true)):=by
     rintro (h | h)
     ·cases h
     unfold bef at h;rw[m,f]at h;omega
    rw[Ae (fun h:_/\_=>k h.2)];simp only[s1,d1,c,i,and_true,not_false_eq_true,Aq,false_and,Ah];omega
   rw[p,JA0,Kc0,o,W_lo hP d hu a hv];have:sm N.E (fun e=>if ¬ N.up e/\N.lo e=v then d e else 0)=N.atE d v:=rfl;have:sm N.E (fun e=>if N.up e/\N.lo e=v then d e else 0)=N.atU d v:=rfl;omega
  | false=>
   have hv:N.hi u=v:=hv;have o:N.L d (u,false)=N.W d (v.2-1) u+d u:=by have c1:N.cr u (N.lo u).2:=⟨aX _,a⟩;have c2:N.cr u (v.2-1):=⟨by unfold up at a;rw[hv]at a;omega,by rw[hv];omega⟩;simp only[L,a,Al,Aa,W_any hP s hu c1 c2]
   have f:N.cls (u,false)=3:=by simp[cls,a]
   have p:sm N.E (fun e=>(if N.src (e,true)=v/\((e,true)=(u,false)\/N.bef v.2 (e,true) (u,false))then dl d (e,true)else 0)+(if N.src (e,false)=v/\((e,false)=(u,false)\/N.bef v.2 (e,false) (u,false))then dl d (e,false)else 0))
     = sm N.E (fun e=>((if N.up e/\N.lo e=v then d e else 0)+(if ¬ N.up e/\N.lo e=v then d e else 0))-((if ¬ N.up e/\N.hi e=v then d e else 0)+((if e=u then d e else 0)+(if N.up e/\N.hi e=v/\N.X e (v.2-1)<N.X u (v.2-1)then d e else 0)))):=by
    refine Jq0 fun e he=>?_;have s1:N.src (e,true)=N.lo e:=rfl;have d1:dl d (e,true)=d e:=rfl;have s2:N.src (e,false)=N.hi e:=rfl;have d2:dl d (e,false)=- d e:=rfl;by_cases c:N.up e
    ·have l:N.cls (e,true)=1:=by simp[cls,c]
     have m:N.cls (e,false)=3:=by simp[cls,c]
     have i:((e,true)=(u,false)\/N.bef v.2 (e,true) (u,false)):=by right;unfold bef;rw[l,f];omega
     have k:N.hi e=v->(((e,false)=(u,false)\/N.bef v.2 (e,false) (u,false))↔(e=u\/N.X e (v.2-1)<N.X u (v.2-1))):=by
      intro _;constructor
      ·rintro (h | h)
       ·cases h;exact ba rfl
       unfold bef at h;rw[m,f]at h;simp only at h;right;omega
      rintro (h | h)
      ·rw[h];exact ba rfl
      exact aP (aP (aP ⟨m,f,h⟩))
     by_cases j:e=u
     ·subst j
      have t:¬ N.X e (v.2-1)<N.X e (v.2-1):=by omega
      simp only[s1,s2,d1,d2,c,hv,Aq,i,and_true,not_true_eq_false,false_and,Ah,true_or,Al,t,and_false];split<;>omega
     by_cases c2:N.hi e=v
     ·have:=k c2
      simp only[s1,s2,d1,d2,c,c2,Aq,i,and_true,not_true_eq_false,false_and,Ah,j,this,false_or];by_cases x:N.X e (v.2-1)<N.X u (v.2-1)
      ·simp only[x,Al];omega
      simp only[x,Ah];omega
     simp only[s1,s2,d1,d2,c,c2,Aq,i,and_true,not_true_eq_false,false_and,Ah,j];omega
    have l:N.cls (e,true)=0:=by simp[cls,c]
    have m:N.cls (e,false)=2:=by simp[cls,c]
    have i:((e,true)=(u,false)\/N.bef v.2 (e,true) (u,false)):=by right;unfold bef;rw[l,f];omega
    have k:((e,false)=(u,false)\/N.bef v.2 (e,false) (u,false)):=by right;unfold bef;rw[m,f];omega
    have j:¬ e=u:=fun h=>c (h▸a);simp only[s1,s2,d1,d2,c,i,k,and_true,false_and,Ah,not_false_eq_true,Aq,j];split<;>split<;>omega
   rw[p,Kc0,JA0,JA0,JA0,o,W_hi hP d hu a hv,Ku0 d hP.nodup hu];have:sm N.E (fun e=>if ¬ N.up e/\N.lo e=v then d e else 0)=N.atE d v:=rfl;have:sm N.E (fun e=>if N.up e/\N.lo e=v then d e else 0)=N.atU d v:=rfl;have:sm N.E (fun e=>if ¬ N.up e/\N.hi e=v then d e else 0)=N.atW d v:=rfl;omega
 cases b with
 | true=>
  have hv:N.lo u=v:=hv;have o:N.L d (u,true)=N.above d v.2 (N.M*v.1)+N.atU d v:=by have:=north hP d hu a;simp only[L,a,Ah,Ac];rw[<- hv];exact this
  have f:N.cls (u,true)=0:=by simp[cls,a]
  have p:sm N.E (fun e=>(if N.src (e,true)=v/\((e,true)=(u,true)\/N.bef v.2 (e,true) (u,true))then dl d (e,true)else 0)+(if N.src (e,false)=v/\((e,false)=(u,true)\/N.bef v.2 (e,false) (u,true))then dl d (e,false)else 0))
    = sm N.E (fun e=>if e=u then d e else 0):=by
   refine Jq0 fun e he=>?_;have nb:∀ b,¬ N.bef v.2 (e,b) (u,true):=by intro b h;unfold bef at h;rw[f]at h;omega
   have z:¬ ((e,false)=(u,true)):=fun h=>by cases h
   have d1:dl d (e,true)=d e:=rfl;by_cases j:e=u
   ·subst j
    simp only[nb,z,or_false,and_false,Ah,and_true,Al,d1,show N.src (e,true)=v from hv];omega
   have H:¬ ((e,true)=(u,true)):=fun h=>j (by cases h;rfl);simp only[nb,H,z,or_false,and_false,Ah,j];rfl
  rw[p,o,Ku0 d hP.nodup hu];have:=Nn0 hP d hu a;rw[hv]at this;omega
 | false=>
  have hv:N.hi u=v:=hv;obtain⟨I,J⟩:=Kj0 hu a;have o:N.L d (u,false)=N.below d v.2 (N.M*v.1):=by simp only[L,a,Ah,Aa,I,hv]
  have f:N.cls (u,false)=2:=by simp[cls,a]
  have p:sm N.E (fun e=>(if N.src (e,true)=v/\((e,true)=(u,false)\/N.bef v.2 (e,true) (u,false))then dl d (e,true)else 0)+(if N.src (e,false)=v/\((e,false)=(u,false)\/N.bef v.2 (e,false) (u,false))then dl d (e,false)else 0))
    = sm N.E (fun e=>((if N.up e/\N.lo e=v then d e else 0)+(if ¬ N.up e/\N.lo e=v then d e else 0))-(if e=u then d e else 0)):=by
   refine Jq0 fun e he=>?_;have s1:N.src (e,true)=N.lo e:=rfl;have d1:dl d (e,true)=d e:=rfl;have s2:N.src (e,false)=N.hi e:=rfl;have d2:dl d (e,false)=- d e:=rfl;have i:((e,true)=(u,false)\/N.bef v.2 (e,true) (u,false)):=by right;unfold bef;rw[f];left;unfold cls;split<;>simp
   have k:((e,false)=(u,false)\/N.bef v.2 (e,false) (u,false))↔e=u:=by
    constructor
    ·rintro (h | h)
     ·cases h;rfl
     unfold bef at h;rw[f]at h;have:2<=N.cls (e,false):=by unfold cls;split<;>simp
     omega
    rintro rfl;exact ba rfl
   by_cases j:e=u
   ·subst j
    have r:=k.2 rfl;by_cases c1:N.lo e=v
    ·rw[Af ⟨c1,i⟩,Af ⟨hv,r⟩,Ae (fun h=>a h.1),Af ⟨a,c1⟩,Af rfl,d1,d2];omega
    rw[Ae (fun h=>c1 h.1),Af ⟨hv,r⟩,Ae (fun h=>a h.1),Ae (fun h=>c1 h.2),Af rfl,d2];omega
   simp only[s1,s2,d1,d2,i,and_true,k,j,and_false,Ah];by_cases c:N.up e<;>by_cases c1:N.lo e=v<;>simp[c,c1]
  rw[p,Kc0,JA0,o,Ku0 d hP.nodup hu];have h1:=Mj0 hP d hu a;rw[hv]at h1;have:sm N.E (fun e=>if ¬ N.up e/\N.lo e=v then d e else 0)=N.atE d v:=rfl;have:sm N.E (fun e=>if N.up e/\N.lo e=v then d e else 0)=N.atU d v:=rfl;omega
end Net
end Go.Pg
namespace Go.Pg
namespace Net
variable {ι:Type} {N:Net ι} (hP:N.Plane)
theorem Ng0(k:Int)(h:Hf ι):¬ N.bef k h h:=by unfold bef;omega
theorem Ni0{k:Int}{g h:Hf ι}(a:N.bef k g h):¬ N.bef k h g:=by unfold bef at *;omega
theorem mem_halves{h:Hf ι}:h∈N.halves↔h.1∈N.E:=by
 unfold halves;rw[cJ];constructor
 ·rintro ⟨e,he,h2⟩
  simp only[aC,iu,or_false]at h2;rcases h2 with rfl | rfl<;>exact he
 intro h1;refine⟨h.1,h1,?_⟩;obtain⟨e,b⟩:=h;cases b<;>simp
open Classical in
theorem sm_at{d:ι->Int}(b:N.Cir d)(v:P2):sm N.halves (fun g=>if N.src g=v then dl d g else 0)=0:=by
 have a:=Na0 b v;rw[sm_halves];have e:sm N.E (fun e=>(if N.src (e,true)=v then dl d (e,true)else 0)+(if N.src (e,false)=v then dl d (e,false)else 0))=sm N.E (fun e=>((if N.up e/\N.lo e=v then d e else 0)+(if ¬ N.up e/\N.lo e=v then d e else 0))-((if N.up e/\N.hi e=v then d e else 0)+(if ¬ N.up e/\N.hi e=v then d e else 0))):=by refine Jq0 fun e _=>?_;have s1:N.src (e,true)=N.lo e:=rfl;have d1:dl d (e,true)=d e:=rfl;have s2:N.src (e,false)=N.hi e:=rfl;have d2:dl d (e,false)=- d e:=rfl;rw[s1,s2,d1,d2];by_cases c:N.up e<;>by_cases c1:N.lo e=v<;>by_cases c2:N.hi e=v<;>simp[c,c1,c2]<;>omega
 rw[e,Kc0,JA0,JA0];have:sm N.E (fun e=>if ¬ N.up e/\N.lo e=v then d e else 0)=N.atE d v:=rfl;have:sm N.E (fun e=>if N.up e/\N.lo e=v then d e else 0)=N.atU d v:=rfl;have:sm N.E (fun e=>if ¬ N.up e/\N.hi e=v then d e else 0)=N.atW d v:=rfl;have:sm N.E (fun e=>if N.up e/\N.hi e=v then d e else 0)=N.atD d v:=rfl;omega
structure Around(N:Net ι)(v:P2)(l:List (Hf ι)):Prop where
 mem:∀ h,h∈l↔h.1∈N.E/\N.src h=v
 nodup:l.Nodup
 sorted:l.Pairwise (N.bef v.2)
include hP
theorem halves_nodup:N.halves.Nodup:=by
 have a:=hP.nodup;unfold halves;generalize N.E=E at a
 induction E with
 | nil=>exact List.nodup_nil
 | cons e E d=>
  have a:=df.1 a;simp only[eA,dB,aT];have key:∀ b,∀ h∈E.flatMap (fun e=>[(e,true),(e,false)]),h≠(e,b):=by rintro b h f rfl;obtain⟨g,c,h2⟩:=cJ.1 f;simp only[aC,iu,or_false]at h2;rcases h2 with h2 | h2<;>(cases h2;exact a.1 c)
  refine df.2 ⟨?_,df.2 ⟨fun h=>key _ _ h rfl,d a.2⟩⟩;intro h;rcases aC.1 h with h | h
  ·cases h
  exact key _ _ h rfl
open Classical in
theorem Lt0{v:P2}{l:List (Hf ι)}(hl:Around N v l)(F:Hf ι->Int):sm N.halves (fun g=>if N.src g=v then F g else 0)=sm l F:=by
 have hp:(N.halves.filter fun g=>decide (N.src g=v)).Perm l:=by refine(List.perm_ext_iff_of_nodup ((halves_nodup hP).filter _) hl.nodup).2 fun h=>?_;rw[aV,mem_halves,hl.mem];simp
 rw[<- Ld0 hp,JP0];refine Jq0 fun g _=>?_;simp
theorem L_list{d:ι->Int}(e:N.Cir d){v:P2}{l:List (Hf ι)}(hl:Around N v l){i:Nat}(hi:i<l.length):N.L d l[i]=N.below d v.2 (N.M*v.1)+N.atD d v-sm (l.take (i+1)) (dl d):=by
 classical
 have hm:=(hl.mem l[i]).1 (aw hi);rw[MP0 hP e hm.1 hm.2];congr 1;have e1:sm N.halves (fun g=>if N.src g=v/\(g=l[i]\/N.bef v.2 g l[i])then dl d g else 0)=sm N.halves (fun g=>if N.src g=v then (if g=l[i]\/N.bef v.2 g l[i]then dl d g else 0)else 0):=by refine Jq0 fun g _=>?_;by_cases c:N.src g=v<;>simp[c]
 rw[e1,Lt0 hP hl];have split:∀ F:Hf ι->Int,sm l F=sm (l.take (i+1)) F+sm (l.drop (i+1)) F:=fun F=>by rw[<- JC0,List.take_append_drop]
 rw[split];have e2:sm (l.take (i+1)) (fun g=>if g=l[i]\/N.bef v.2 g l[i]then dl d g else 0)=sm (l.take (i+1)) (dl d):=by
  refine Jq0 fun g a=>?_;obtain⟨j,hj,rfl⟩:=bH a;simp only[ik]at hj;rw[List.getElem_take];rw[Af];by_cases c:j=i
  ·subst c;exact ba rfl
  exact aP (dO.1 hl.sorted j i (by omega) hi (by omega))
 have e3:sm (l.drop (i+1)) (fun g=>if g=l[i]\/N.bef v.2 g l[i]then dl d g else 0)=0:=by
  refine Jt0 fun g a=>?_;obtain⟨j,hj,rfl⟩:=bH a;simp only[gO]at hj;rw[List.getElem_drop];have b:=dO.1 hl.sorted i (i+1+j) hi (by omega) (by omega);rw[Ae];rintro (h | h)
  ·rw[h]at b;exact Ng0 _ _ b
  exact Ni0 h b
 rw[e2,e3];omega
theorem L_turn{d:ι->Int}(b:N.Cir d){v:P2}{l:List (Hf ι)}(hl:Around N v l){i:Nat}(hi:i<l.length) :
  N.L d (l[(i+l.length-1)%l.length]'(gp _ (by omega)))=N.L d (rev l[i]):=by
 have hm:=(hl.mem l[i]).1 (aw hi);have g:=ME0 hP b hm.1;rw[g];have hlen:0<l.length:=by omega
 have f:sm l (dl d)=0:=by
  classical
  rw[<- Lt0 hP hl (dl d)];exact sm_at b v
 by_cases c:i=0
 ·subst c
  have e:(0+l.length-1)%l.length=l.length-1:=by rw[fZ (by omega)];omega
  have h1:=L_list hP b hl (i:=l.length-1) (by omega);have h2:=L_list hP b hl (i:=0) hi;have e1:l.take (l.length-1+1)=l:=by rw[List.take_of_length_le (by omega)]
  rw[e1,f]at h1;have e2:sm (l.take (0+1)) (dl d)=dl d l[0]:=by
   cases l with
   | nil=>simp at hi
   | cons a l=>simp[sm]
  rw[e2]at h2;simp only[e];omega
 have e:(i+l.length-1)%l.length=i-1:=by rw[show i+l.length-1=i-1+l.length by omega,Nat.add_mod_right,fZ (by omega)]
 have h1:=L_list hP b hl (i:=i-1) (by omega);have h2:=L_list hP b hl (i:=i) hi;rw[show i-1+1=i by omega]at h1;rw[List.take_succ_eq_append_getElem hi,JC0]at h2;simp only[sm]at h2;simp only[e];omega
end Net
end Go.Pg
namespace Go.Pg
open Classical
theorem Ly0{α:Type}(f:α->Int):∀ {l:List α},l≠[]->∃ m∈l,∀ x∈l,f m<=f x
 | [],h=>Am rfl h
 | a::l,_=>by
  by_cases e:l=[]
  ·subst e;exact⟨a,by simp,fun x b=>by simp at b;subst b;exact aX _⟩
  obtain⟨m,hm,h⟩:=Ly0 f e;by_cases c:f a<=f m
  ·refine⟨a,by simp,fun x b=>?_⟩
   rcases aC.1 b with rfl | b
   ·exact aX _
   have:=h x b;omega
  refine⟨m,by simp[hm],fun x b=>?_⟩;rcases aC.1 b with rfl | b
  ·omega
  exact h x b
noncomputable def ind(p:Prop):Int:=if p then 1 else 0
theorem Ll0{p:Prop}(h:p):ind p=1:=Af h
theorem JJ0{p:Prop}(h:¬ p):ind p=0:=Ae h
namespace Net
structure Walks{ι:Type}(N:Net ι)(κ:Type) where
 c:Hf ι->κ
 nx:Hf ι->Hf ι
 mem:∀ h:Hf ι,h.1∈N.E->(nx h).1∈N.E
 lab:∀ h:Hf ι,h.1∈N.E->c (nx h)=c h
 left:∀ h:Hf ι,h.1∈N.E->∀ d,N.Cir d->N.L d (nx h)=N.L d h
 closed:∀ (C:κ) (A:P2->Int),sm N.halves (fun h=>if c h=C then A (N.src h)-A (N.dst h)else 0)=0
namespace Walks
variable {ι κ:Type} {N:Net ι} (w:N.Walks κ)
inductive Conn:Hf ι->Hf ι->Prop
 | refl (h:Hf ι):Conn h h
 | nx {g h:Hf ι} (hm:h.1∈N.E):Conn g h->Conn g (w.nx h)
 | xn {g h:Hf ι} (hm:h.1∈N.E):Conn g (w.nx h)->Conn g h
 | rev {g h:Hf ι}:Conn g h->Conn g (rev h)
noncomputable def dC(C:κ)(e:ι):Int:=ind (w.c (e,false)=C)-ind (w.c (e,true)=C)
theorem cir(C:κ):N.Cir (w.dC C):=by
 intro A;have h:=w.closed C (fun p=>if A p then 1 else 0);rw[sm_halves]at h;have e:sm N.E (fun e=>w.dC C e*((if A (N.lo e)then 1 else 0)-(if A (N.hi e)then 1 else 0)))=- sm N.E (fun e=>(if w.c (e,true)=C then (if A (N.src (e,true))then (1:Int)else 0)-(if A (N.dst (e,true))then 1 else 0)else 0)+(if w.c (e,false)=C then (if A (N.src (e,false))then (1:Int)else 0)-(if A (N.dst (e,false))then 1 else 0)else 0)):=by rw[<- Lj0];refine Jq0 fun e _=>?_;have s1:N.src (e,true)=N.lo e:=rfl;have s2:N.src (e,false)=N.hi e:=rfl;have d:N.dst (e,true)=N.hi e:=rfl;have f:N.dst (e,false)=N.lo e:=rfl;rw[s1,s2,d,f];unfold dC ind;by_cases a:w.c (e,true)=C<;>by_cases b:w.c (e,false)=C<;>simp only[a,b,Al,Ah]<;>omega
 rw[e,h];rfl
theorem dl_dC(C:κ)(h:Hf ι):dl (w.dC C) h=ind (w.c (Net.rev h)=C)-ind (w.c h=C):=by
 obtain⟨e,b⟩:=h;cases b
 ·show-(w.dC C e)=_
  unfold dC Net.rev;simp only[aY];omega
 rfl
theorem dC_zero{C:κ}{e:ι}(h:∀ b,w.c (e,b)≠C):w.dC C e=0:=by unfold dC;rw[JJ0 (h false),JJ0 (h true)];rfl
theorem conn_trans{f g h:Hf ι}(a:w.Conn f g)(b:w.Conn g h):w.Conn f h:=by
 induction b with
 | refl=>exact a
 | nx hm _ c=>exact .nx hm c
 | xn hm _ c=>exact .xn hm c
 | rev _ c=>exact .rev c
theorem rev_rev(h:Hf ι):Net.rev (Net.rev h)=h:=by obtain⟨e,b⟩:=h;simp[Net.rev]
theorem conn_symm{g h:Hf ι}(a:w.Conn g h):w.Conn h g:=by
 induction a with
 | refl=>exact .refl _
 | @nx h' hm _ b=>exact conn_trans w (.xn hm (.refl _)) b
 | @xn h' hm _ b=>exact conn_trans w (.nx hm (.refl _)) b
 | @rev h' _ b=>exact conn_trans w (by have:=Conn.rev (w:=w) (.refl (Net.rev h'));rw[rev_rev]at this;exact this) b
theorem conn_half(e:ι)(b b':Bool):w.Conn (e,b) (e,b'):=by
 by_cases c:b=b'
 ·subst c;exact .refl _
 have h:(e,b')=Net.rev (e,b):=by cases b<;>cases b'<;>simp[Net.rev]at c ⊢
 rw[h];exact .rev (.refl _)
theorem conn_mem{g h:Hf ι}(a:w.Conn g h)(c:g.1∈N.E):h.1∈N.E:=by
 induction a with
 | refl=>exact c
 | nx hm _ b=>exact w.mem _ b
 | xn hm _ b=>exact hm
 | rev _ b=>exact b
variable (hP:N.Plane)
include hP
theorem V_conn(C:κ){g h:Hf ι}(a:w.Conn g h)(d:g.1∈N.E):N.L (w.dC C) h-ind (w.c h=C)=N.L (w.dC C) g-ind (w.c g=C):=by
 induction a with
 | refl=>rfl
 | @nx h' hm a b=>rw[w.lab _ hm,w.left _ hm _ (w.cir C)];exact b
 | @xn h' hm a b=>rw[w.lab _ hm,w.left _ hm _ (w.cir C)]at b;exact b
 | @rev h' a b=>have hm:=w.conn_mem a d;rw[ME0 hP (w.cir C) hm,w.dl_dC];omega
omit hP in
theorem sum_zero{C:κ}{g:Hf ι}(d:∀ h,w.c h=C->h.1∈N.E->w.Conn g h){p:ι->Prop}[DecidablePred p](hp:∀ t∈N.E,p t->∀ b,¬ w.Conn g (t,b)):sm N.E (fun t=>if p t then w.dC C t else 0)=0:=by
 refine Jt0 fun t a=>?_;by_cases c:p t
 ·rw[Af c]
  exact w.dC_zero fun b e=>hp t a c b (d (t,b) e a)
 rw[Ae c]
theorem key_eq{t u:ι}(a:t∈N.E)(hu:u∈N.E){k:Int}(c1:N.cr t k)(c2:N.cr u k)(h:N.X t k+N.X t (k+1)=N.X u k+N.X u (k+1)):t=u:=by
 rcases gJ (N.X t k) (N.X u k)with h1 | h1 | h1
 ·have:=(KW0 hP a hu c1 c2).2 (ba h1);omega
 ·exact hP.apart t a u hu k c1 c2 h1 (by omega)
 have:=(KW0 hP hu a c2 c1).2 (ba h1);omega
theorem L_up(d:ι->Int)(b:N.Cir d){u:ι}(hu:u∈N.E){k:Int}(hc:N.cr u k):N.L d (u,true)=N.W d k u:=by have a:=JV0 hP hc;have c1:N.cr u (N.lo u).2:=⟨aX _,a⟩;simp only[L,a,Al,Ac];exact W_any hP b hu c1 hc
theorem base{g:Hf ι}(q:g.1∈N.E):∃ d,w.Conn g d/\d.1∈N.E/\∀ C,(∀ h,w.c h=C->h.1∈N.E->w.Conn g h)->N.L (w.dC C) d=0:=by
 by_cases hex:∃ e∈N.E,N.up e/\w.Conn g (e,true)
 ·obtain⟨e,he,i,j⟩:=hex
  have k:(N.E.filter fun t=>decide (N.cr t (N.lo e).2/\w.Conn g (t,true)))≠[]:=by intro d;have:e∈(N.E.filter fun t=>decide (N.cr t (N.lo e).2/\w.Conn g (t,true))):=aV.2 ⟨he,by simp only[Ad];exact⟨⟨aX _,i⟩,j⟩⟩;rw[d]at this;cases this
  obtain⟨u,hu,f⟩:=Ly0 (fun t=>N.X t (N.lo e).2+N.X t ((N.lo e).2+1)) k;obtain⟨hu,a⟩:=aV.1 hu;simp only[Ad]at a;refine⟨(u,true),a.2,hu,fun C l=>?_⟩;rw[L_up hP _ (w.cir C) hu a.1];refine w.sum_zero l fun t m hp b n=>?_;have:=f t (aV.2 ⟨m,by simp only[Ad];exact⟨hp.1,w.conn_trans n (w.conn_half t b true)⟩⟩);have:=hp.2;omega
 refine⟨(g.1,true),w.conn_trans (.refl g) (by obtain⟨e,b⟩:=g;exact w.conn_half e b true),q,fun C l=>?_⟩;have o:¬ N.up g.1:=fun h=>hex ⟨g.1,q,h,by obtain⟨e,b⟩:=g;exact w.conn_half e b true⟩;simp only[L,o,Ah,Ac];refine w.sum_zero (p:=fun t=>N.cr t (N.lo g.1).2/\N.X t (N.lo g.1).2<N.M*(N.hi g.1).1) l fun t m hp b n=>?_;exact hex ⟨t,m,JV0 hP hp.1,w.conn_trans n (w.conn_half t b true)⟩
theorem own_part{g:Hf ι}(e:g.1∈N.E):∃ d,w.Conn g d/\d.1∈N.E/\∀ C,(∀ h,w.c h=C->h.1∈N.E->w.Conn g h)->∀ h,w.Conn g h->N.L (w.dC C) h=ind (w.c h=C)-ind (w.c d=C):=by obtain⟨d,h1,h2,f⟩:=w.base hP e;refine⟨d,h1,h2,fun C i h j=>?_⟩;have a:=w.V_conn hP C h1 e;have b:=w.V_conn hP C j e;have:=f C i;omega
theorem not_both{C D:κ}{g d:Hf ι}(G:g.1∈N.E)(l:d.1∈N.E)(s:∀ h,w.c h=C->h.1∈N.E->w.Conn g h)(H:∀ h,w.c h=D->h.1∈N.E->w.Conn d h)(I:¬ w.Conn g d):N.L (w.dC C) d=0\/N.L (w.dC D) g=0:=by
 have m:∀ h,w.Conn d h->h.1∈N.E->¬ w.c h=C:=fun h a hm e=>I (w.conn_trans (s h e hm) (w.conn_symm a));have q:∀ h,w.Conn g h->h.1∈N.E->¬ w.c h=D:=fun h a hm e=>I (w.conn_trans a (w.conn_symm (H h e hm)));by_cases hex:∃ e∈N.E,N.up e/\w.Conn g (e,true)
 ·obtain⟨e,he,x,z⟩:=hex
  have B:(N.E.filter fun t=>decide (N.cr t (N.lo e).2/\(w.Conn g (t,true)\/w.Conn d (t,true))))≠[]:=by intro J;have:e∈(N.E.filter fun t=>decide (N.cr t (N.lo e).2/\(w.Conn g (t,true)\/w.Conn d (t,true)))):=aV.2 ⟨he,by simp only[Ad];exact⟨⟨aX _,x⟩,ba z⟩⟩;rw[J]at this;cases this
  obtain⟨u,hu,j⟩:=Ly0 (fun t=>N.X t (N.lo e).2+N.X t ((N.lo e).2+1)) B;obtain⟨hu,i⟩:=aV.1 hu;simp only[Ad]at i;rcases i.2 with f | f
  ·right
   have e1:N.L (w.dC D) (u,true)=0:=by rw[L_up hP _ (w.cir D) hu i.1];refine w.sum_zero H fun t o hp b r=>?_;have:=j t (aV.2 ⟨o,by simp only[Ad];exact⟨hp.1,aP (w.conn_trans r (w.conn_half t b true))⟩⟩);have:=hp.2;omega
   have v:=w.V_conn hP D f G;rw[JJ0 (q _ f hu),JJ0 (q _ (.refl _) G)]at v;omega
  left;have e1:N.L (w.dC C) (u,true)=0:=by rw[L_up hP _ (w.cir C) hu i.1];refine w.sum_zero s fun t o hp b r=>?_;have:=j t (aV.2 ⟨o,by simp only[Ad];exact⟨hp.1,ba (w.conn_trans r (w.conn_half t b true))⟩⟩);have:=hp.2;omega
  have v:=w.V_conn hP C f l;rw[JJ0 (m _ f hu),JJ0 (m _ (.refl _) l)]at v;omega
 left;have hz:∀ (p:ι->Prop) [DecidablePred p],(∀ t∈N.E,p t->N.up t)->sm N.E (fun t=>if p t then w.dC C t else 0)=0  :=fun p _ hp=>w.sum_zero s fun t o h b r=>hex ⟨t,o,hp t o h,w.conn_trans r (w.conn_half t b true)⟩;have K:w.dC C d.1=0:=w.dC_zero fun b=>m (d.1,b) (by obtain⟨e,b'⟩:=d;exact w.conn_half e b' b) l;unfold L;have z1:∀ k u,N.W (w.dC C) k u=0:=fun k u=>hz (fun t=>N.cr t k/\N.X t k+N.X t (k+1)<N.X u k+N.X u (k+1)) fun t _ h=>JV0 hP h.1;have z2:∀ k n,N.above (w.dC C) k n=0:=fun k n=>hz (fun t=>N.cr t k/\N.X t k<n) fun t _ h=>JV0 hP h.1;have z3:∀ k n,N.below (w.dC C) k n=0:=fun k n=>hz (fun t=>N.cr t (k-1)/\N.X t k<n) fun t _ h=>JV0 hP h.1;rw[z1,z2,z3,K];cases d.2<;>simp
end Walks
end Net
end Go.Pg
