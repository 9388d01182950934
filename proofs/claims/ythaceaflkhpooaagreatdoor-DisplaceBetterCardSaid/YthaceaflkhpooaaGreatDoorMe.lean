/- A part of the proof; its readable source lies in wip of the prover's repo (squeezed here for the limit of bytes). -/
import Derived.Test.YthaceaflkhpooaaGreatDoorMd
import Derived.Lib.DecodeN
import Derived.KernelRfl
set_option linter.unusedVariables false
set_option linter.unusedSimpArgs false
set_option linter.unusedSectionVars false
namespace Go.Ab
open Go
def C4(p:Pt):Bool:=decide (-2097152<=p.1)&&decide (p.1<=2097152)&&decide (-2097152<=p.2)&&decide (p.2<=2097152)
theorem X6(p:Pt):C4 p=true↔-2097152<=p.1/\p.1<=2097152/\-2097152<=p.2/\p.2<=2097152:=by simp[C4,and_assoc]
def T4(a b c:Pt):Int:=(b.1-a.1)*(c.2-a.2)-(b.2-a.2)*(c.1-a.1)
theorem fc0{a b m n:Int}(h1:-m<=a)(h2:a<=m)(h3:-n<=b)(h4:b<=n):-(m*n)<=a*b/\a*b<=m*n:=by
 have hm:0<=m:=by omega
 have hn:0<=n:=by omega
 have h5:a.natAbs<=m.natAbs:=by omega
 have h6:b.natAbs<=n.natAbs:=by omega
 have h7:=Nat.mul_le_mul h5 h6
 rw[<- Int.natAbs_mul,<-Int.natAbs_mul]at h7
 have h8:0<=m*n:=Int.mul_nonneg hm hn
 omega
theorem qq0{a b c:Pt}(ha:C4 a=true)(hb:C4 b=true)(hc:C4 c=true):-35184372088832<=T4 a b c/\T4 a b c<=35184372088832:=by
 rw[X6]at ha hb hc
 have h1:=fc0 (a:=b.1-a.1) (b:=c.2-a.2) (m:=4194304) (n:=4194304) (by omega) (by omega) (by omega) (by omega)
 have h2:=fc0 (a:=b.2-a.2) (b:=c.1-a.1) (m:=4194304) (n:=4194304) (by omega) (by omega) (by omega) (by omega)
 unfold T4
 omega
theorem fk0(l:List Pt)(hl:l.length<2^62):J9 l=some (l.all C4):=by
 unfold J9
 refine(p8 (A:=Unit) l (fun i _=>(i:Int)) (fun _ rest=>some (rest.all C4)) (by omega) ?_ ?_ ()).trans rfl
 ·intro rec a
  simp
 ·intro rec i a x rest hi hd hr
  simp only[y0 hi,cond_true,l8 hd,b9,r7 hi hl]
  rw[hr ()]
  by_cases h1:x.1 < -2097152
  ·have:C4 x=false:=by simp[C4];omega
   simp[h1,this]
  by_cases h2:2097152<x.1
  ·have:C4 x=false:=by simp[C4];omega
   simp[h1,h2,this]
  by_cases h3:x.2 < -2097152
  ·have:C4 x=false:=by simp[C4];omega
   simp[h1,h2,h3,this]
  by_cases h4:2097152<x.2
  ·have:C4 x=false:=by simp[C4];omega
   simp[h1,h2,h3,h4,this]
  have:C4 x=true:=by rw[X6];omega
  simp[h1,h2,h3,h4,this]
theorem T5(a b c:Pt)(ha:C4 a=true)(hb:C4 b=true)(hc:C4 c=true):K1 (a,b,c)=some (T4 a b c):=by
 have hbd:=qq0 ha hb hc
 rw[X6]at ha hb hc
 have h1:=fc0 (a:=b.1-a.1) (b:=c.2-a.2) (m:=4194304) (n:=4194304) (by omega) (by omega) (by omega) (by omega)
 have h2:=fc0 (a:=b.2-a.2) (b:=c.1-a.1) (m:=4194304) (n:=4194304) (by omega) (by omega) (by omega) (by omega)
 unfold K1
 simp only[b9]
 rw[w64 (n:=b.1-a.1) (by omega) (by omega),w64 (n:=c.2-a.2) (by omega) (by omega),w64 (n:=b.2-a.2) (by omega) (by omega),w64 (n:=c.1-a.1) (by omega) (by omega),w64 (n:=(b.1-a.1)*(c.2-a.2)) (by omega) (by omega),w64 (n:=(b.2-a.2)*(c.1-a.1)) (by omega) (by omega)]
 have e:IntKind.i64.wrap ((b.1-a.1)*(c.2-a.2)-(b.2-a.2)*(c.1-a.1))=T4 a b c:=w64 (n:=T4 a b c) (by omega) (by omega)
 exact congrArg some e
def iP0(a b c:Pt):Int:=if C4 a&&C4 b&&C4 c then T4 a b c else 0
theorem rK0(a b c:Pt):J9 [(a.1,a.2),(b.1,b.2),(c.1,c.2)]=some (C4 a&&C4 b&&C4 c):=by
 rw[fk0 _ (by simp)]
 simp[Bool.and_assoc]
theorem near4(a b c d:Pt):J9 [(a.1,a.2),(b.1,b.2),(c.1,c.2),(d.1,d.2)]=some (C4 a&&C4 b&&C4 c&&C4 d):=by
 rw[fk0 _ (by simp)]
 simp[Bool.and_assoc]
theorem jG0(a b c:Pt):bl0 (a,b,c)=some (iP0 a b c):=by
 unfold bl0 iP0
 simp only[b9,rK0]
 cases h:(C4 a&&C4 b&&C4 c)with
 | false=>simp
 | true =>
  simp only[Bool.and_eq_true]at h
  simp only[Bool.not_true,cond_false,T5 a b c h.1.1 h.1.2 h.2,b9,if_true]
def P5(a b c:Pt):Int:=if 0<iP0 a b c then 1 else if iP0 a b c<0 then -1 else 0
theorem cK0(a b c:Pt):A7 (a,b,c)=some (P5 a b c):=by
 unfold A7 P5
 simp only[b9,jG0]
 by_cases h1:0<iP0 a b c
 ·simp[h1]
 ·by_cases h2:iP0 a b c<0<;>simp[h1,h2]
theorem gQ0(a b:Int):List.foldl mxI a [b]=max a b:=by simp only[List.foldl,mxI];split<;>omega
theorem rb0(a b:Int):List.foldl mnI a [b]=min a b:=by simp only[List.foldl,mnI];split<;>omega
def wf0(a b p:Pt):Bool:=decide (min a.1 b.1<=p.1)&&(decide (p.1<=max a.1 b.1)&&(decide (min a.2 b.2<=p.2)&&decide (p.2<=max a.2 b.2)))
def onP(a b p:Pt):Bool:=(C4 a&&C4 b&&C4 p)&&(decide (T4 a b p=0)&&wf0 a b p)
theorem bj0(a b p:Pt):A5 (a,b,p)=some (onP a b p):=by
 unfold A5 onP
 simp only[b9,rK0]
 cases h:(C4 a&&C4 b&&C4 p)with
 | false=>simp
 | true =>
  simp only[Bool.and_eq_true]at h
  simp only[Bool.not_true,cond_false,T5 a b p h.1.1 h.1.2 h.2,b9,gQ0,rb0,wf0]
  cases decide (T4 a b p=0)<;>cases decide (min a.1 b.1<=p.1)<;>cases decide (p.1<=max a.1 b.1)<;>cases decide (min a.2 b.2<=p.2)<;>simp
def B5(a b:Pt):Bool:=decide (a.1<b.1)||(decide (a.1=b.1)&&decide (a.2<b.2))
theorem ig0(a b:Pt):o8 (a,b)=some (B5 a b):=by
 unfold o8 B5
 simp only[b9]
 cases decide (a.1<b.1)<;>cases decide (a.1=b.1)<;>rfl
def eqP(a b:Pt):Bool:=decide (a.1=b.1)&&decide (a.2=b.2)
theorem jE0(a b:Pt):eqP a b=true↔a=b:=by simp[eqP,Prod.ext_iff]
def jj0(a b c d:Pt):Int :=
 let a':=if B5 b a then b else a
 let b':=if B5 b a then a else b
 let c':=if B5 d c then d else c
 let d':=if B5 d c then c else d
 let f:=if B5 a' c' then c' else a'
 let l:=if B5 d' b' then d' else b'
 if eqP f l then 1 else if B5 f l then 2 else 0
theorem ic0(a b c d:Pt):W3 (a,b,c,d)=some (jj0 a b c d):=by
 unfold W3 jj0
 have e:∀ p q:Pt,(decide (p.1=q.1)&&decide (p.2=q.2))=eqP p q:=fun _ _=>rfl
 have e2:∀ p q:Pt,o8 ((p.1,p.2),(q.1,q.2))=some (B5 p q):=fun p q=>ig0 p q
 simp only[e2,b9,e]
 cases h1:B5 b a<;>cases h2:B5 d c<;>simp only[cond_true,cond_false,if_true,if_false,Bool.false_eq_true]
 ·cases h3:B5 a c<;>cases h4:B5 d b<;>simp only[cond_true,cond_false,if_true,if_false,Bool.false_eq_true]
  ·cases eqP a b<;>cases h5:B5 a b<;>simp_all
  ·cases eqP a d<;>cases h5:B5 a d<;>simp_all
  ·cases eqP c b<;>cases h5:B5 c b<;>simp_all
  ·cases eqP c d<;>cases h5:B5 c d<;>simp_all
 ·cases h3:B5 a d<;>cases h4:B5 c b<;>simp only[cond_true,cond_false,if_true,if_false,Bool.false_eq_true]
  ·cases eqP a b<;>cases h5:B5 a b<;>simp_all
  ·cases eqP a c<;>cases h5:B5 a c<;>simp_all
  ·cases eqP d b<;>cases h5:B5 d b<;>simp_all
  ·cases eqP d c<;>cases h5:B5 d c<;>simp_all
 ·cases h3:B5 b c<;>cases h4:B5 d a<;>simp only[cond_true,cond_false,if_true,if_false,Bool.false_eq_true]
  ·cases eqP b a<;>cases h5:B5 b a<;>simp_all
  ·cases eqP b d<;>cases h5:B5 b d<;>simp_all
  ·cases eqP c a<;>cases h5:B5 c a<;>simp_all
  ·cases eqP c d<;>cases h5:B5 c d<;>simp_all
 ·cases h3:B5 b d<;>cases h4:B5 c a<;>simp only[cond_true,cond_false,if_true,if_false,Bool.false_eq_true]
  ·cases eqP b a<;>cases h5:B5 b a<;>simp_all
  ·cases eqP b c<;>cases h5:B5 b c<;>simp_all
  ·cases eqP d a<;>cases h5:B5 d a<;>simp_all
  ·cases eqP d c<;>cases h5:B5 d c<;>simp_all
theorem gw0(a b c:Pt):P5 a b c=1\/P5 a b c=-1\/P5 a b c=0:=by
 unfold P5
 split
 ·exact .inl rfl
 ·split
  ·exact .inr (.inl rfl)
  ·exact .inr (.inr rfl)
theorem tR0(a b c d e f:Pt):IntKind.i64.wrap (P5 a b c*P5 d e f)=P5 a b c*P5 d e f:=by
 rcases gw0 a b c with h | h | h<;>rcases gw0 d e f with h' | h' | h'<;>rw[h,h']<;>exact w64 (by decide) (by decide)
def qW0(a b c d:Pt):Int :=
 if C4 a&&C4 b&&C4 c&&C4 d then
  if eqP a b then (if onP c d a then 1 else 0)
  else if eqP c d then (if onP a b c then 1 else 0)
  else if P5 a b c=0/\P5 a b d=0 then jj0 a b c d
  else if P5 a b c*P5 a b d<=0/\P5 c d a*P5 c d b<=0 then 1 else 0
 else 0
theorem kn0(a b c d:Pt):bB0 (a,b,c,d)=some (qW0 a b c d):=by
 unfold bB0 qW0
 have e:∀ p q:Pt,(decide (p.1=q.1)&&decide (p.2=q.2))=eqP p q:=fun _ _=>rfl
 have e1:∀ p q r:Pt,A5 ((p.1,p.2),(q.1,q.2),(r.1,r.2))=some (onP p q r):=fun p q r=>bj0 p q r
 have e2:∀ p q r:Pt,A7 ((p.1,p.2),(q.1,q.2),(r.1,r.2))=some (P5 p q r):=fun p q r=>cK0 p q r
 have e3:∀ p q r s:Pt,W3 ((p.1,p.2),(q.1,q.2),(r.1,r.2),(s.1,s.2))=some (jj0 p q r s):=fun p q r s=>ic0 p q r s
 simp only[b9,near4,e,e1,e2,e3,tR0]
 cases h:(C4 a&&C4 b&&C4 c&&C4 d)with
 | false=>simp
 | true =>
  simp only[Bool.not_true,cond_false,if_true]
  cases eqP a b with
  | true=>cases onP c d a<;>simp
  | false =>
   simp only[cond_false,Bool.false_eq_true,if_false]
   cases eqP c d with
   | true=>cases onP a b c<;>simp
   | false =>
    simp only[cond_false,Bool.false_eq_true,if_false]
    by_cases h1:P5 a b c=0
    ·by_cases h2:P5 a b d=0
     ·simp[h1,h2]
     ·by_cases h4:P5 c d a*P5 c d b<=0<;>simp[h1,h2,h4]
    ·by_cases h3:P5 a b c*P5 a b d<=0
     ·by_cases h4:P5 c d a*P5 c d b<=0<;>simp[h1,h3,h4]
     ·simp[h1,h3]
def Q0(o p:Pt):Bool:=decide (p.2<o.2)||(decide (p.2=o.2)&&decide (p.1<o.1))
theorem jy0(o p:Pt):R6 (o,p)=some (Q0 o p):=by
 unfold R6 Q0
 simp only[b9]
 cases decide (p.2<o.2)<;>cases decide (p.2=o.2)<;>rfl
def by0(o a b:Pt):Bool:=(C4 o&&C4 a&&C4 b)&&(!eqP a o&&(!eqP b o&&(if Q0 o a=Q0 o b then decide (0<T4 o a b)else Q0 o b)))
theorem lu0(o a b:Pt):X8 (o,a,b)=some (by0 o a b):=by
 unfold X8 by0
 have e:∀ p q:Pt,(decide (p.1=q.1)&&decide (p.2=q.2))=eqP p q:=fun _ _=>rfl
 have e1:∀ p q:Pt,R6 ((p.1,p.2),(q.1,q.2))=some (Q0 p q):=fun p q=>jy0 p q
 simp only[b9,rK0,e,e1]
 cases h:(C4 o&&C4 a&&C4 b)with
 | false=>simp
 | true =>
  simp only[Bool.and_eq_true]at h
  have e2:K1 ((o.1,o.2),(a.1,a.2),(b.1,b.2))=some (T4 o a b):=T5 o a b h.1.1 h.1.2 h.2
  simp only[Bool.not_true,cond_false,e2,b9]
  cases eqP a o<;>cases eqP b o<;>cases Q0 o a<;>cases Q0 o b<;>simp
end Go.Ab
namespace Go.Ab
open Go
def I4(ars:List Ar)(id:Int):Nat:=(ars.map fun a=>(if a.2.1=id then 1 else 0)+(if a.2.2.1=id then 1 else 0)).sum
theorem be0(ns:List Nd)(ars:List Ar)(fs:List Int)(id:Int)(ha:ars.length<=1000000):R1 ((ns,ars,fs),id)=some ((I4 ars id:Nat):Int):=by
 unfold R1
 simp only[b9]
 refine(l9 (A:=Nat) ars (fun i a=>((i:Int),(a:Int))) (fun a rest=>some ((a+I4 rest id:Nat):Int)) (fun i a=>a<=2*i) (by omega) ?_ ?_ 0 (by omega)).trans (by simp)
 ·intro rec a hI
  simp[I4]
 ·intro rec i a x rest hi hI hd hr
  have e0:=r7 hi (show ars.length<2^62 by omega)
  have e1:IntKind.i64.wrap ((a:Int)+1)=((a+1:Nat):Int):=by rw[w64 (by omega) (by omega)];omega
  have e2:IntKind.i64.wrap (((a+1:Nat):Int)+1)=((a+2:Nat):Int):=by rw[w64 (by omega) (by omega)];omega
  simp only[y0 hi,cond_true,l8 hd,b9,e0,e1,e2]
  by_cases h1:x.2.1=id<;>by_cases h2:x.2.2.1=id
  ·simp only[h1,h2,decide_true,cond_true]
   rw[hr _ (by omega)]
   simp only[I4,List.map_cons,List.sum_cons,h1,h2,if_true]
   congr 2;omega
  ·simp only[h1,h2,decide_true,decide_false,cond_true,cond_false]
   rw[hr _ (by omega)]
   simp only[I4,List.map_cons,List.sum_cons,h1,h2,if_true,if_false]
   congr 2;omega
  ·simp only[h1,h2,decide_true,decide_false,cond_true,cond_false]
   rw[hr _ (by omega)]
   simp only[I4,List.map_cons,List.sum_cons,h1,h2,if_true,if_false]
   congr 2;omega
  ·simp only[h1,h2,decide_true,decide_false,cond_true,cond_false]
   rw[hr _ (by omega)]
   simp only[I4,List.map_cons,List.sum_cons,h1,h2,if_true,if_false]
   congr 2;omega
def gg0:List Int->Bool
 | []=>true
 | [_]=>true
 | a::b::l=>decide (a<b)&&gg0 (b::l)
theorem V9(xs:List Int)(hl:xs.length<2^62):J3 xs=some (gg0 xs):=by
 unfold J3
 cases xs with
 | nil=>exact iH0 fun rec=>by simp[gg0]
 | cons y ys =>
  simp only[List.length_cons]at hl
  refine(l9 (A:=Int) ys (fun i a=>((i:Int)+1)) (fun a rest=>some (gg0 (a::rest))) (fun i a=>(y::ys)[i]?=some a) (by omega) ?_ ?_ y rfl).trans rfl
  ·intro rec a hI
   simp[gg0]
  ·intro rec i a x rest hi hI hd hr
   have e1:decide ((i:Int)+1<(((y::ys).length:Nat):Int))=true:=by simp only[List.length_cons,decide_eq_true_eq];omega
   have e2:IntKind.i64.wrap ((i:Int)+1-1)=((i:Nat):Int):=by rw[w64 (by omega) (by omega)];omega
   have e3:IntKind.i64.wrap ((i:Int)+1+1)=((i+1:Nat):Int)+1:=by rw[w64 (by omega) (by omega)];omega
   have e4:nth (y::ys) ((i:Int)+1)=some x:=by
    have:((i:Int)+1)=((i+1:Nat):Int):=by omega
    rw[this,C8,List.getElem?_cons_succ,<-C8,l8 hd]
   simp only[b9,e1,cond_true,e2,C8,hI,e4,e3]
   have e5:(y::ys)[i+1]?=some x:=by rw[<- C8];rw[<- e4];congr 1
   rw[hr x e5]
   by_cases h:x<=a
   ·have:¬ a<x:=by omega
    simp[h,gg0,this]
   ·have:a<x:=by omega
    simp[h,gg0,this]
def pathOf(ns:List Nd)(ars:List Ar)(id:Int):Option (List Pt):=match bK0 ars id with
 | none=>none
 | some a=>match F4 ns a.2.1,F4 ns a.2.2.1 with
  | some f,some t=>some ((f.2.1,f.2.2)::(a.2.2.2.1++[(t.2.1,t.2.2)]))
  | _,_=>none
theorem vS0{α:Type}{z:α}{n:Int}(h0:0<n)(h1:n<=1000000):zerO 16 z n=some (List.replicate n.toNat z):=by
 unfold zerO
 have e1:decide (IntKind.i64.wrap n=n)=true:=by rw[w64 (by omega) (by omega)];simp
 have e2:decide (0<n)=true:=by simpa using h0
 have e3:decide ((2*n.toNat+1000)*16<=2^48)=true:=by simp only[decide_eq_true_eq];omega
 have e4:decide (n.toNat<=2^62)=true:=by simp only[decide_eq_true_eq];omega
 rw[e1,e2,e3,e4];rfl
theorem kY0{ars:List Ar}{id:Int}{a:Ar}(h:bK0 ars id=some a):a∈ars:=List.mem_of_find?_eq_some h
theorem fz0(ns:List Nd)(ars:List Ar)(fs:List Int)(id:Int)(hn:ns.length<=1000000)(ha:ars.length<=1000000)(hv:∀ a∈ars,a.2.2.2.1.length<=900000) :
  K6 ((ns,ars,fs),id)=some (match pathOf ns ars id with | some l=>(l,0) | none=>([],7)):=by
 unfold K6
 simp only[gY0 ns ars fs _ (show ars.length<2^62 by omega) (fun a h=>by have:=hv a h;omega),cB0 ns ars fs _ (show ns.length<2^62 by omega),b9]
 unfold pathOf
 cases hA:bK0 ars id with
 | none=>simp
 | some a =>
  have hva:=hv a (kY0 hA)
  simp only[Bool.not_true,cond_false]
  cases hF:F4 ns a.2.1 with
  | none=>simp
  | some f =>
   simp only[Bool.not_true,cond_false]
   cases hT:F4 ns a.2.2.1 with
   | none=>simp
   | some t =>
    simp only[Bool.not_true,cond_false]
    generalize hL:a.2.2.2.1=via at hva
    have e1:IntKind.i64.wrap (1+(via.length:Int))=1+via.length:=w64 (by omega) (by omega)
    have e2:IntKind.i64.wrap (1+(via.length:Int)+1)=via.length+2:=by rw[w64 (by omega) (by omega)];omega
    have e3:decide (1+(via.length:Int)<0)=false:=by simp only[decide_eq_false_iff_not];omega
    have e4:decide ((via.length:Int)+2<0)=false:=by simp only[decide_eq_false_iff_not];omega
    have e5:IntKind.i64.wrap ((via.length:Int)+2-0)=via.length+2:=by rw[w64 (by omega) (by omega)];omega
    have e6:decide (0<(via.length:Int)+2)=true:=by simp only[decide_eq_true_eq];omega
    simp only[e1,e2,e3,e4,e5,e6,cond_false,cond_true]
    rw[vS0 (by omega) (by omega)]
    simp only[b9]
    rw[B8 (by omega) (by simp)]
    simp only[b9,List.nil_append]
    rw[B8 (by omega) (by simp;omega)]
    simp only[b9]
    rw[B8 (by omega) (by simp;omega)]
    simp
theorem pf0{ns:List Nd}{ars:List Ar}{id:Int}{l:List Pt}(h:pathOf ns ars id=some l):∃ a,bK0 ars id=some a/\l.length=a.2.2.2.1.length+2:=by
 unfold pathOf at h
 split at h
 ·cases h
 ·rename_i a ha
  split at h
  ·cases h;exact⟨a,ha,by simp⟩
  ·cases h
def ib0(n:Int):Bool:=decide (1<=n)&&decide (n<=1073741824)
theorem Z4(xs:List Int)(hl:xs.length<2^62):L3 xs=some (xs.all ib0):=by
 unfold L3
 have h1:∀ n,N7 n=some (!(ib0 n)):=fun n=>by
  unfold N7 ib0
  by_cases h1:n<1
  ·have:¬ 1<=n:=by omega
   simp[h1,this]
  ·have h3:1<=n:=by omega
   by_cases h2:1073741824<n
   ·have:¬ n<=1073741824:=by omega
    simp[h1,h2,h3,this]
   ·have:n<=1073741824:=by omega
    simp[h1,h2,h3,this]
 have h2:u9 (xs,())=some (!(xs.all ib0)):=by
  unfold u9
  simp only[b9]
  refine(p8 (A:=Unit) xs (fun i _=>(i:Int)) (fun _ rest=>some (!(rest.all ib0))) (by omega) ?_ ?_ ()).trans rfl
  ·intro rec a;simp
  ·intro rec i a x rest hi hd hr
   simp only[y0 hi,cond_true,l8 hd,b9,r7 hi hl,h1]
   rw[hr ()]
   cases h:ib0 x<;>simp[List.all_cons,h]
 simp only[h2,b9,Bool.not_not]
def U7(p:Pt):Bool:=decide (-1048576<=p.1)&&decide (p.1<=1048576)&&decide (-1048576<=p.2)&&decide (p.2<=1048576)
theorem bF0{p:Pt}(h:U7 p=true):C4 p=true:=by
 simp only[U7,Bool.and_eq_true,decide_eq_true_eq]at h
 rw[X6];omega
theorem cd0(p:Pt):L8 p=some (!(U7 p)):=by
 unfold L8 U7
 by_cases h1:p.1 < -1048576
 ·have:¬ -1048576<=p.1:=by omega
  simp[h1,this]
 by_cases h2:1048576<p.1
 ·have:¬ p.1<=1048576:=by omega
  simp[h1,h2,this]
 by_cases h3:p.2 < -1048576
 ·have:¬ -1048576<=p.2:=by omega
  simp[h1,h2,h3,this]
 have a1:-1048576<=p.1:=by omega
 have a2:p.1<=1048576:=by omega
 have a3:-1048576<=p.2:=by omega
 by_cases h4:1048576<p.2
 ·have:¬ p.2<=1048576:=by omega
  simp[h1,h2,h3,h4,this]
 ·have:p.2<=1048576:=by omega
  simp[h1,h2,h3,h4,a1,a2,a3,this]
theorem il0(l:List Pt)(hl:l.length<2^62):r9 (l,())=some (!(l.all U7)):=by
 unfold r9
 simp only[b9]
 refine(p8 (A:=Unit) l (fun i _=>(i:Int)) (fun _ rest=>some (!(rest.all U7))) (by omega) ?_ ?_ ()).trans rfl
 ·intro rec a;simp
 ·intro rec i a x rest hi hd hr
  have e:L8 (x.1,x.2)=some (!(U7 x)):=cd0 x
  simp only[y0 hi,cond_true,l8 hd,b9,r7 hi hl,e]
  rw[hr ()]
  cases h:U7 x<;>simp[List.all_cons,h]
theorem ik0(ns:List Nd)(ars:List Ar)(fs:List Int)(hn:ns.length<=1000000)(ha:ars.length<=1000000)(hv:∀ a∈ars,a.2.2.2.1.length<=900000) :
  aD0 (ns,ars,fs)=some ((ns.all fun n=>U7 (n.2.1,n.2.2))&&(ars.all fun a=>a.2.2.2.1.all U7)):=by
 unfold aD0
 simp only[b9]
 refine(p8 (A:=Unit) ns (fun i _=>(i:Int)) (fun _ rest=>some ((rest.all fun n=>U7 (n.2.1,n.2.2))&&(ars.all fun a=>a.2.2.2.1.all U7))) (by omega) ?_ ?_ ()).trans rfl
 ·intro rec a
  simp only[y4,cond_false,List.all_nil,Bool.true_and]
  refine(p8 (A:=Unit) ars (fun i _=>(i:Int)) (fun _ rest=>some (rest.all fun a=>a.2.2.2.1.all U7)) (by omega) ?_ ?_ ()).trans rfl
  ·intro rec a;simp
  ·intro rec i a x rest hi hd hr
   have hx:=hv x (J7 hd).2.2
   simp only[y0 hi,cond_true,l8 hd,b9,r7 hi (show ars.length<2^62 by omega),il0 x.2.2.2.1 (by omega)]
   rw[hr ()]
   cases h:x.2.2.2.1.all U7<;>simp[h]
 ·intro rec i a x rest hi hd hr
  simp only[y0 hi,cond_true,l8 hd,b9,r7 hi (show ns.length<2^62 by omega),cd0]
  rw[hr ()]
  cases h:U7 (x.2.1,x.2.2)<;>simp[h]
end Go.Ab
namespace Go.Ab
open Go
def ix0(n m:Nd):Bool:=eqP (n.2.1,n.2.2) (m.2.1,m.2.2)
def lK0:List Nd->List Nd->Bool
 | _,[]=>false
 | pre,n::rest=>pre.any (ix0 n)||lK0 (pre++[n]) rest
def T3(ns:List Nd)(ars:List Ar)(fs nodes:List Int):Int :=
 bif lK0 [] ns then 8
 else bif ars.any (fun a=>!(decide (a.2.1∈nodes)&&decide (a.2.2.1∈nodes)))then 7
 else bif ars.any (fun a=>!((decide (a.2.2.2.2.1=0)||decide (a.2.2.2.2.1∈fs))&&(decide (a.2.2.2.2.2=0)||decide (a.2.2.2.2.2∈fs))))then 12
 else 0
theorem eQ0(ns:List Nd)(ars:List Ar)(fs nodes:List Int)(hn:ns.length<=1000000)(ha:ars.length<=1000000)(hf:fs.length<=1000000)(hno:nodes.length<=1000000) :
  P9 ((ns,ars,fs),nodes)=some (T3 ns ars fs nodes):=by
 have hc1:∀ y,u6 (nodes,y)=some (decide (y∈nodes)):=fun y=>I3 nodes y (by omega)
 have hc2:∀ y,u6 (fs,y)=some (decide (y∈fs)):=fun y=>I3 fs y (by omega)
 unfold P9
 simp only[b9,hc1,hc2]
 refine(p8 (A:=Unit) ns (fun i _=>(i:Int)) (fun _ rest=>some (bif lK0 (ns.take (ns.length-rest.length)) rest then 8 else bif ars.any (fun a=>!(decide (a.2.1∈nodes)&&decide (a.2.2.1∈nodes)))then 7
 else bif ars.any (fun a=>!((decide (a.2.2.2.2.1=0)||decide (a.2.2.2.2.1∈fs))&&(decide (a.2.2.2.2.2=0)||decide (a.2.2.2.2.2∈fs))))then 12
 else 0)) (by omega) ?_ ?_ ()).trans (by simp[T3])
 ·intro rec u
  simp only[y4,cond_false,lK0,cond_false]
  refine(p8 (A:=Unit) ars (fun i _=>(i:Int)) (fun _ rest=>some (bif rest.any (fun a=>!(decide (a.2.1∈nodes)&&decide (a.2.2.1∈nodes)))then 7
 else bif ars.any (fun a=>!((decide (a.2.2.2.2.1=0)||decide (a.2.2.2.2.1∈fs))&&(decide (a.2.2.2.2.2=0)||decide (a.2.2.2.2.2∈fs))))then 12
 else 0)) (by omega) ?_ ?_ ()).trans rfl
  ·intro rec u
   simp only[y4,cond_false,List.any_nil,cond_false]
   refine(p8 (A:=Unit) ars (fun i _=>(i:Int)) (fun _ rest=>some (bif rest.any (fun a=>!((decide (a.2.2.2.2.1=0)||decide (a.2.2.2.2.1∈fs))&&(decide (a.2.2.2.2.2=0)||decide (a.2.2.2.2.2∈fs))))then 12
 else 0)) (by omega) ?_ ?_ ()).trans rfl
   ·intro rec u
    simp
   ·intro rec i u x rest hi hd hr
    simp only[y0 hi,cond_true,l8 hd,b9,r7 hi (show ars.length<2^62 by omega)]
    rw[hr ()]
    simp only[List.any_cons]
    generalize decide (x.2.2.2.2.1=0)=p1
    generalize decide (x.2.2.2.2.2=0)=p2
    generalize decide (x.2.2.2.2.1∈fs)=p3
    generalize decide (x.2.2.2.2.2∈fs)=p4
    cases p1<;>cases p2<;>cases p3<;>cases p4<;>simp
  ·intro rec i u x rest hi hd hr
   simp only[y0 hi,cond_true,l8 hd,b9,r7 hi (show ars.length<2^62 by omega)]
   rw[hr ()]
   simp only[List.any_cons]
   generalize decide (x.2.1∈nodes)=p3
   generalize decide (x.2.2.1∈nodes)=p4
   cases p3<;>cases p4<;>simp
 ·intro rec i u x rest hi hd hr
  have hdl:=J7 hd
  have e1:ns.length-(x::rest).length=i:=by simp;omega
  have e2:ns.length-rest.length=i+1:=by omega
  have e3:ns.take (i+1)=ns.take i++[x]:=by
   rw[List.take_add_one]
   have:ns[i]?=some x:=by rw[<- C8];exact l8 hd
   rw[this];rfl
  simp only[y0 hi,cond_true,l8 hd,b9,r7 hi (show ns.length<2^62 by omega),lF0 (Nat.le_of_lt hi)]
  simp only[e1,lK0]
  have hr':=hr ()
  rw[e2,e3]at hr'
  have hlt:(ns.take i).length<2^62:=by simp;omega
  refine(p8 (A:=Unit) (ns.take i) (fun i _=>(i:Int)) (fun _ r2=>some (bif (r2.any (ix0 x)||lK0 (ns.take i++[x]) rest)then 8 else bif ars.any (fun a=>!(decide (a.2.1∈nodes)&&decide (a.2.2.1∈nodes)))then 7
 else bif ars.any (fun a=>!((decide (a.2.2.2.2.1=0)||decide (a.2.2.2.2.1∈fs))&&(decide (a.2.2.2.2.2=0)||decide (a.2.2.2.2.2∈fs))))then 12
 else 0)) (by omega) ?_ ?_ ()).trans rfl
  ·intro rec2 u
   simp only[y4,cond_false,hr',List.any_nil,Bool.false_or]
  ·intro rec2 j u y r2 hj hdj hrj
   have e4:(decide (x.2.1=y.2.1)&&decide (x.2.2=y.2.2))=ix0 x y:=rfl
   simp only[y0 hj,cond_true,l8 hdj,b9,r7 hj hlt,e4]
   rw[hrj ()]
   cases h:ix0 x y<;>simp[List.any_cons,h]
end Go.Ab
namespace Go.Ab
open Go
abbrev Ln:=Int×Int×Int×List Pt×Int×Int×List Pt
abbrev Sg:=Ln×Int
def Ln.path(l:Ln):List Pt:=l.2.2.2.2.2.2
def mkLn(a:Ar)(l:List Pt):Ln:=(a.1,a.2.1,a.2.2.1,a.2.2.2.1,a.2.2.2.2.1,a.2.2.2.2.2,l)
def gC0(a:Ar)(l:List Pt):List Sg:=(List.range (l.length-1)).map fun (i:Nat)=>(mkLn a l,(i:Int))
def lI0:List Pt->Bool
 | []=>true
 | [_]=>true
 | p::q::l=>!(eqP p q)&&lI0 (q::l)
def L2(ns:List Nd)(ars:List Ar):List Ar->Option (List Sg)
 | []=>some []
 | a::as'=>match pathOf ns ars a.1 with
  | none=>none
  | some l=>bif (decide (a.2.1=a.2.2.1)&&decide (l.length<4))||!(lI0 l)then none else match L2 ns ars as' with
   | some r=>some (gC0 a l++r)
   | none=>none
theorem vU0{β:Type}(a:Ar)(l:List Pt)(acc:List Sg)(K:List Sg×Int->Option β)(bad:β)(hl:l.length<=1000000)(hl2:2<=l.length)(hacc:acc.length<=300000000) :
  rounds (α:=List ((Int×Int×Int×List (Int×Int)×Int×Int×List (Int×Int))×Int)×Int) (β:=β) (fun k x =>
    b8 (some (decide (x.2<IntKind.i64.wrap ((l.length:Int)-1)))) fun v25 =>
    bif v25 then (
     b8 (nth l x.2) fun v26 =>
     b8 (some (IntKind.i64.wrap (x.2+(1:Int)))) fun v28 =>
     b8 (nth l v28) fun v29 =>
     b8 (some ((fun (a b:Int×Int)=>(decide (a.1=b.1)&&decide (a.2=b.2))) (v26.1,v26.2) (v29.1,v29.2))) fun v31 =>
     bif v31 then (
     some bad)else (
     b8 (L7 16 x.1 [((a.1,a.2.1,a.2.2.1,a.2.2.2.1,a.2.2.2.2.1,a.2.2.2.2.2,l),x.2)]) fun v32 =>
     b8 (some (IntKind.i64.wrap (x.2+(1:Int)))) fun v33 =>
     k (v32,v33)))else K x) (acc,(0:Int))=bif lI0 l then K (acc++gC0 a l,(l.length:Int)-1)else some bad:=by
 cases l with
 | nil=>simp at hl2
 | cons p tl =>
  simp only[List.length_cons]at hl hl2
  have e0:IntKind.i64.wrap (((p::tl).length:Nat)-1:Int)=(tl.length:Int):=by rw[List.length_cons,w64 (by omega) (by omega)];omega
  simp only[b9,e0]
  refine(l9 (A:=List Sg) tl (fun i s=>(s,(i:Int))) (fun s rest=>bif lI0 ((p::tl).drop (tl.length-rest.length))then K (acc++gC0 a (p::tl),(tl.length:Int))else some bad)
   (fun i s=>s=acc++(List.range i).map fun (j:Nat)=>(mkLn a (p::tl),(j:Int))) (by omega) ?_ ?_ acc (by simp)).trans (by
    have:(((p::tl).length:Nat):Int)-1=tl.length:=by rw[List.length_cons];omega
    rw[this];simp)
  ·intro rec s hs
   have e1:lI0 ((p::tl).drop tl.length)=true:=by
    have:((p::tl).drop tl.length).length=1:=by simp
    match h:(p::tl).drop tl.length,this with
    | [x],_=>rfl
   simp only[y4,cond_false,List.length_nil,Nat.sub_zero,e1,cond_true]
   subst hs
   rfl
  ·intro rec i s x rest hi hI hd hr
   have hdl:=J7 hd
   have hrest:tl.length-(x::rest).length=i:=by simp;omega
   have hrest2:tl.length-rest.length=i+1:=by omega
   have e1:nth (p::tl) (i:Int)=some ((p::tl)[i]'(by simp;omega)):=by rw[C8];exact List.getElem?_eq_getElem _
   have e2:nth (p::tl) ((i+1:Nat):Int)=some x:=by rw[C8,List.getElem?_cons_succ,<-C8];exact l8 hd
   have e3:=r7 hi (show tl.length<2^62 by omega)
   have hx:(p::tl).drop (i+1)=x::rest:=by simpa using hd
   have hdr:(p::tl).drop i=(p::tl)[i]'(by simp;omega)::x::rest:=by rw[List.drop_eq_getElem_cons (by simp;omega),hx]
   rw[hrest,hdr]
   have hlen:s.length<=300000000+i:=by rw[hI];simp;omega
   simp only[y0 hi,cond_true,e1,b9,e3,e2]
   rw[B8 (by omega) (by simp;omega)]
   have e5:(decide (((p::tl)[i]'(by simp;omega)).1=x.1)&&decide (((p::tl)[i]'(by simp;omega)).2=x.2))=eqP ((p::tl)[i]'(by simp;omega)) x:=rfl
   simp only[b9,e5]
   rw[hr _ (by rw[hI,List.range_succ,List.map_append];simp[mkLn]),hrest2,hx]
   simp only[lI0]
   cases eqP ((p::tl)[i]'(by simp;omega)) x<;>simp
structure pA0(s:Sg):Prop where
 lo:0<=s.2
 hi:s.2+1<s.1.path.length
 len:s.1.path.length<=1000000
def sgA(s:Sg):Pt:=(s.1.path[s.2.toNat]?).getD (0,0)
def sgB(s:Sg):Pt:=(s.1.path[s.2.toNat+1]?).getD (0,0)
theorem gT0{s:Sg}(h:pA0 s):u4 s=some (sgA s,sgB s):=by
 obtain⟨l,i⟩:=s
 obtain⟨h1,h2,h3⟩:=h
 simp only at h1 h2 h3
 unfold u4 sgA sgB
 have e1:IntKind.i64.wrap (i+1)=i+1:=w64 (by omega) (by omega)
 have e2:nth l.path i=some (l.path[i.toNat]'(by omega)):=by rw[sv0 h1];exact List.getElem?_eq_getElem _
 have e3:nth l.path (i+1)=some (l.path[i.toNat+1]'(by omega)):=by
  rw[sv0 (by omega)]
  have:(i+1).toNat=i.toNat+1:=by omega
  rw[this];exact List.getElem?_eq_getElem _
 simp only[b9,e1]
 show b8 (nth l.path i) _=_
 rw[e2]
 simp only[b9]
 show b8 (nth l.path (i+1)) _=_
 rw[e3]
 simp only[b9]
 have e4:l.path[i.toNat]?=some (l.path[i.toNat]'(by omega)):=List.getElem?_eq_getElem _
 have e5:l.path[i.toNat+1]?=some (l.path[i.toNat+1]'(by omega)):=List.getElem?_eq_getElem _
 rw[e4,e5]
 rfl
def sgW(s:Sg):Int:=min (sgA s).1 (sgB s).1
def sgE(s:Sg):Int:=max (sgA s).1 (sgB s).1
theorem mu0{s:Sg}(h:pA0 s):B2 s=some (sgW s):=by
 unfold B2
 have:u4 (s.1,s.2)=some (sgA s,sgB s):=gT0 h
 simp only[this,b9,rb0]
 rfl
theorem wi0{s:Sg}(h:pA0 s):H4 s=some (sgE s):=by
 unfold H4
 have:u4 (s.1,s.2)=some (sgA s,sgB s):=gT0 h
 simp only[this,b9,gQ0]
 rfl
def aY0(s:Sg):Bool:=decide (s.2=0)
def co0(s:Sg):Bool:=decide (s.2=(s.1.path.length:Int)-2)
theorem nf0(s:Sg):A3 s=some (aY0 s):=by
 unfold A3 aY0;simp
theorem mi0{s:Sg}(h:pA0 s):u7 s=some (co0 s):=by
 unfold u7 co0
 have hl:=h.len
 have e:IntKind.i64.wrap ((s.1.path.length:Int)-2)=(s.1.path.length:Int)-2:=w64 (by omega) (by omega)
 simp only[b9]
 show some (decide (s.2=IntKind.i64.wrap ((s.1.path.length:Int)-2)))=_
 rw[e]
theorem hZ0{a:Ar}{l:List Pt}{s:Sg}(h:s∈gC0 a l):∃ i:Nat,i+1<l.length/\s=(mkLn a l,(i:Int)):=by
 unfold gC0 at h
 obtain⟨i,hi,rfl⟩:=List.mem_map.1 h
 rw[List.mem_range]at hi
 exact⟨i,by omega,rfl⟩
theorem sS0{a:Ar}{l:List Pt}(hl:l.length<=1000000){s:Sg}(h:s∈gC0 a l):pA0 s:=by
 obtain⟨i,hi,rfl⟩:=hZ0 h
 exact⟨by simp,by show ((i:Int)+1<(l.length:Int));omega,hl⟩
theorem fb0{ns:List Nd}{ars:List Ar}:∀ {l:List Ar} {r:List Sg},L2 ns ars l=some r->∀ s∈r,∃ a∈l,∃ p,pathOf ns ars a.1=some p/\s∈gC0 a p
 | [],r,h,s,hs=>by simp[L2]at h;subst h;simp at hs
 | a::l,r,h,s,hs=>by
  unfold L2 at h
  split at h
  ·cases h
  ·rename_i p hp
   cases hc:((decide (a.2.1=a.2.2.1)&&decide (p.length<4))||!(lI0 p))with
   | true=>rw[hc]at h;cases h
   | false =>
    rw[hc]at h
    simp only[cond_false]at h
    split at h
    ·rename_i r' hr
     cases h
     rcases List.mem_append.1 hs with hs | hs
     ·exact⟨a,by simp,p,hp,hs⟩
     ·obtain⟨a',h1,h2⟩:=fb0 hr s hs
      exact⟨a',by simp[h1],h2⟩
    ·cases h
def mkMap(ns:List Nd)(m:List (Int×Pt)):List (Int×Pt):=ns.foldl (fun m n=>O6 (fun (a b:Int)=>decide (a=b)) n.1 (n.2.1,n.2.2) m) m
abbrev qI:Int->Int->Bool:=fun a b=>decide (a=b)
theorem oV0(a b:Int):qI a b=decide (a=b):=rfl
theorem Q8{V:Type}(k k':Int)(v:V):∀ m:List (Int×V),lkp qI k (O6 qI k' v m)=if k=k' then some v else lkp qI k m
 | []=>by
  by_cases h:k=k'<;>simp[O6,lkp,h,oV0]
 | p::m=>by
  have ih:=Q8 k k' v m
  simp only[O6,oV0]
  by_cases h1:k'=p.1
  ·simp only[h1,decide_true,cond_true,lkp,oV0]
   by_cases h:k=p.1<;>simp[h]
  ·simp only[h1,decide_false,cond_false,lkp,oV0]
   by_cases h:k=p.1
   ·have:¬ k=k':=fun e=>h1 (by rw[<- e,h])
    simp[h]
    exact fun e=>absurd e.symm h1
   ·have ih':lkp (fun a b=>decide (a=b)) k (O6 qI k' v m)=if k=k' then some v else lkp qI k m:=ih
    simp[h]
    exact ih
theorem hB0(k:Int):∀ (ns:List Nd) (m:List (Int×Pt)),(∀ n∈ns,k≠n.1)->lkp qI k (mkMap ns m)=lkp qI k m
 | [],m,_=>rfl
 | n::ns,m,h=>by
  have ih:=hB0 k ns (O6 qI n.1 (n.2.1,n.2.2) m) (fun x hx=>h x (by simp[hx]))
  show lkp qI k (mkMap ns (O6 qI n.1 (n.2.1,n.2.2) m))=_
  rw[ih,Q8,if_neg (h n (by simp))]
def ek0(m:List (Int×Pt))(id:Int):Pt:=(lkp qI id m).getD (0,0)
def bd0(s t:Sg)(m:List (Int×Pt)):Bool :=
 let c:=qW0 (sgA s) (sgB s) (sgA t) (sgB t)
 bif decide (s.1.1=t.1.1)then
  (bif decide (t.2<s.2)then
   (bif decide (t.2+1=s.2)||(decide (t.1.2.1=t.1.2.2.1)&&(aY0 t&&co0 s))then decide (c=1)else decide (c=0))
  else (bif decide (s.2+1=t.2)||(decide (s.1.2.1=s.1.2.2.1)&&(aY0 s&&co0 t))then decide (c=1)else decide (c=0)))
 else bif decide (c=1)then
  ((decide (s.1.2.1=t.1.2.1)||decide (s.1.2.1=t.1.2.2.1))&&(onP (sgA s) (sgB s) (ek0 m s.1.2.1)&&onP (sgA t) (sgB t) (ek0 m s.1.2.1))) ||
  ((decide (s.1.2.2.1=t.1.2.1)||decide (s.1.2.2.1=t.1.2.2.1))&&(onP (sgA s) (sgB s) (ek0 m s.1.2.2.1)&&onP (sgA t) (sgB t) (ek0 m s.1.2.2.1)))
 else decide (c=0)
theorem pZ0(m:List (Int×Pt))(id:Int):orO (lkp (fun (a b:Int)=>decide (a=b)) id m) (some ((0:Int),(0:Int)))=some (ek0 m id):=by
 unfold ek0
 show orO (lkp qI id m) _=_
 cases lkp qI id m<;>rfl
theorem jS0{s t:Sg}(hs:pA0 s)(ht:pA0 t)(m:List (Int×Pt)):K0 (s,t,m)=some (bd0 s t m):=by
 have hsl:=hs.hi
 have htl:=ht.hi
 have hs1:=hs.len
 have ht1:=ht.len
 have hs0:=hs.lo
 have ht0:=ht.lo
 have e1:u4 (s.1,s.2)=some (sgA s,sgB s):=gT0 hs
 have e2:u4 (t.1,t.2)=some (sgA t,sgB t):=gT0 ht
 have e3:∀ a b c d:Pt,bB0 ((a.1,a.2),(b.1,b.2),(c.1,c.2),(d.1,d.2))=some (qW0 a b c d):=fun a b c d=>kn0 a b c d
 have e4:∀ a b c:Pt,A5 ((a.1,a.2),(b.1,b.2),(c.1,c.2))=some (onP a b c):=fun a b c=>bj0 a b c
 have e5:∀ s:Sg,A3 (s.1,s.2)=some (aY0 s):=fun s=>nf0 s
 have e6:u7 (s.1,s.2)=some (co0 s):=mi0 hs
 have e7:u7 (t.1,t.2)=some (co0 t):=mi0 ht
 have e8:IntKind.i64.wrap (t.2+1)=t.2+1:=w64 (by omega) (by omega)
 have e9:IntKind.i64.wrap (s.2+1)=s.2+1:=w64 (by omega) (by omega)
 unfold K0 bd0
 simp only[e1,e2,e3,e4,e5,e6,e7,e8,e9,b9,pZ0]
 generalize qW0 (sgA s) (sgB s) (sgA t) (sgB t)=c
 generalize onP (sgA s) (sgB s) (ek0 m s.1.2.1)=o1
 generalize onP (sgA t) (sgB t) (ek0 m s.1.2.1)=o2
 generalize onP (sgA s) (sgB s) (ek0 m s.1.2.2.1)=o3
 generalize onP (sgA t) (sgB t) (ek0 m s.1.2.2.1)=o4
 generalize aY0 s=f1
 generalize aY0 t=f2
 generalize co0 s=l1
 generalize co0 t=l2
 generalize decide (s.1.2.1=t.1.2.1)=d1
 generalize decide (s.1.2.1=t.1.2.2.1)=d2
 generalize decide (s.1.2.2.1=t.1.2.1)=d3
 generalize decide (s.1.2.2.1=t.1.2.2.1)=d4
 generalize decide (c=1)=c1
 generalize decide (c=0)=c0
 generalize decide (t.2+1=s.2)=g1
 generalize decide (s.2+1=t.2)=g2
 generalize decide (s.1.2.1=s.1.2.2.1)=g3
 generalize decide (t.1.2.1=t.1.2.2.1)=g4
 generalize decide (t.2<s.2)=g5
 cases decide (s.1.1=t.1.1)
 ·cases c1
  ·rfl
  ·cases d1<;>cases d2<;>cases d3<;>cases d4<;>cases o1<;>cases o2<;>cases o3<;>cases o4<;>rfl
 ·cases g5
  ·cases g2<;>cases g3<;>cases f1<;>cases l2<;>rfl
  ·cases g1<;>cases g4<;>cases f2<;>cases l1<;>rfl
end Go.Ab
namespace Go.Ab
open Go Go.Sort Go.Proofs Go.Shelf
def uP0(a b:Int):Int:=if a<b then -1 else if b<a then 1 else 0
theorem cmp_eq(a b:Int):y7 (a,b)=some (uP0 a b):=by
 have h:∀ n,C7 n=some false:=fun n=>by unfold C7;simp
 unfold y7 uP0
 simp only[h,b9,cond_false]
 by_cases h1:a<b
 ·simp[h1]
 ·by_cases h2:b<a<;>simp[h1,h2]
theorem ab0{a b:Int}:uP0 a b<0↔a<b:=by
 unfold uP0
 by_cases h1:a<b
 ·simp[h1]
 ·by_cases h2:b<a<;>simp[h1,h2]
def nS0(s t:Sg):Int:=uP0 (sgW s) (sgW t)
theorem aN0(l:List Sg):Ordered nS0 l :=
 cR0 (fun x _=>by unfold nS0;rw[ab0];omega) (fun x _ y _ z _ a b=>by unfold nS0 at *;rw[ab0]at *;omega) (fun x _ y _ z _ a b=>by unfold nS0 at *;rw[ab0]at *;omega)
theorem mG0{l:List Sg}(hs:∀ s∈l,pA0 s)(hl:l.length<4611686018427387904):slices_SortFunc_plan_segment_plan_planar_1 (l,2,())=some (U8 nS0 l):=by
 unfold slices_SortFunc_plan_segment_plan_planar_1
 simp only[decide_true,cond_true]
 refine fX0 (fun x hx y hy=>?_) (aN0 l) hl
 unfold T1
 have e1:B2 (x.1,x.2)=some (sgW x):=mu0 (hs x hx)
 have e2:B2 (y.1,y.2)=some (sgW y):=mu0 (hs y hy)
 simp only[e1,e2,b9,cmp_eq]
 rfl
def T6(s:Sg)(n:Nd):Bool:=!(onP (sgA s) (sgB s) (n.2.1,n.2.2))||((aY0 s&&decide (s.1.2.1=n.1))||(co0 s&&decide (s.1.2.2.1=n.1)))
def eb0(s:Sg)(m:List (Int×Pt)):List Sg->Bool
 | []=>true
 | t::r=>bif decide (sgE s<sgW t)then true else bd0 s t m&&eb0 s m r
def goB(ns:List Nd)(m:List (Int×Pt)):List Sg->Bool
 | []=>true
 | s::r=>eb0 s m r&&(ns.all (T6 s)&&goB ns m r)
def bg0(ns:List Nd)(ars:List Ar):Bool:=match L2 ns ars ars with
 | none=>false
 | some l=>goB ns (mkMap ns []) (U8 nS0 l)
theorem rm0(ns:List Nd)(hn:ns.length<=1000000){s:Sg}(hs:pA0 s)(K:Option Bool) :
  rounds (α:=Int) (β:=Bool) (fun k x =>
   b8 (some (decide (x<(ns.length:Int)))) fun v34 =>
   bif v34 then (
    b8 (nth ns x) fun v35 =>
    b8 (u4 (s.1,s.2)) fun v38 =>
    b8 (A5 ((v38.1.1,v38.1.2),(v38.2.1,v38.2.2),(v35.2.1,v35.2.2))) fun v42 =>
    bif v42 then (
    b8 (A3 (s.1,s.2)) fun v43 =>
    bif v43 then (
     b8 (some ()) fun v44 =>
     b8 (some s.1) fun v44 =>
     b8 (some (decide (v44.2.1=v35.1))) fun v51 =>
     b8 (some (!(v51))) fun v52 =>
     bif v52 then (
     b8 (u7 (s.1,s.2)) fun v53 =>
     bif v53 then (
      b8 (some ()) fun v54 =>
      b8 (some s.1) fun v54 =>
      b8 (some (decide (v54.2.2.1=v35.1))) fun v61 =>
      b8 (some (!(v61))) fun v62 =>
      bif v62 then (
      some false)else (
      b8 (some (IntKind.i64.wrap (x+(1:Int)))) fun v63 =>
      k v63))else (
      some false))else (
     b8 (some (IntKind.i64.wrap (x+(1:Int)))) fun v53 =>
     k v53))else (
     b8 (u7 (s.1,s.2)) fun v44 =>
     bif v44 then (
     b8 (some ()) fun v45 =>
     b8 (some s.1) fun v45 =>
     b8 (some (decide (v45.2.2.1=v35.1))) fun v52 =>
     b8 (some (!(v52))) fun v53 =>
     bif v53 then (
      some false)else (
      b8 (some (IntKind.i64.wrap (x+(1:Int)))) fun v54 =>
      k v54))else (
     some false)))else (
    b8 (some (IntKind.i64.wrap (x+(1:Int)))) fun v43 =>
    k v43))else K) (0:Int)=bif ns.all (T6 s)then K else some false:=by
 have e1:u4 (s.1,s.2)=some (sgA s,sgB s):=gT0 hs
 have e4:∀ a b c:Pt,A5 ((a.1,a.2),(b.1,b.2),(c.1,c.2))=some (onP a b c):=fun a b c=>bj0 a b c
 have e5:A3 (s.1,s.2)=some (aY0 s):=nf0 s
 have e6:u7 (s.1,s.2)=some (co0 s):=mi0 hs
 refine(p8 (A:=Unit) ns (fun i _=>(i:Int)) (fun _ rest=>bif rest.all (T6 s)then K else some false) (by omega) ?_ ?_ ()).trans rfl
 ·intro rec u;simp
 ·intro rec i u x rest hi hd hr
  have e7:A5 (((sgA s).1,(sgA s).2),((sgB s).1,(sgB s).2),(x.2.1,x.2.2))=some (onP (sgA s) (sgB s) (x.2.1,x.2.2)):=e4 _ _ (x.2.1,x.2.2)
  simp only[y0 hi,cond_true,l8 hd,b9,r7 hi (show ns.length<2^62 by omega),e1,e5,e6,e7]
  rw[hr (),List.all_cons]
  unfold T6
  generalize onP (sgA s) (sgB s) (x.2.1,x.2.2)=o
  generalize aY0 s=f
  generalize co0 s=l
  generalize decide (s.1.2.1=x.1)=d1
  generalize decide (s.1.2.2.1=x.1)=d2
  cases o<;>cases f<;>cases l<;>cases d1<;>cases d2<;>rfl
theorem qZ0(a:Ar)(l:List Pt):(gC0 a l).length=l.length-1:=by simp[gC0]
theorem pt0(ns:List Nd){β:Type}(hn:ns.length<=1000000)(K:Int×List (Int×Pt)->Option β) :
  rounds (α:=Int×List (Int×(Int×Int))) (β:=β) (fun k9 x9 =>
   b8 (some (decide (x9.1<(ns.length:Int)))) fun v12 =>
   bif v12 then (
   b8 (nth ns x9.1) fun v13 =>
   b8 (some (O6 (fun (a b:Int)=>decide (a=b)) v13.1 (v13.2.1,v13.2.2) x9.2)) fun v16 =>
   b8 (some (IntKind.i64.wrap (x9.1+(1:Int)))) fun v17 =>
   k9 (v17,v16))else K x9) ((0:Int),([]:List (Int×(Int×Int))))=K ((ns.length:Int),mkMap ns []):=by
 refine(p8 (A:=List (Int×Pt)) ns (fun i m=>((i:Int),m)) (fun m rest=>K ((ns.length:Int),mkMap rest m)) (by omega) ?_ ?_ []).trans rfl
 ·intro rec m
  simp[mkMap]
 ·intro rec i m x rest hi hd hr
  simp only[y0 hi,cond_true,l8 hd,b9,r7 hi (show ns.length<2^62 by omega)]
  rw[hr]
  rfl
theorem in0(ns:List Nd)(ars:List Ar)(fs:List Int)(hn:ns.length<=1000)(ha:ars.length<=1000)(hv:∀ a∈ars,a.2.2.2.1.length<=1000):as0 (ns,ars,fs)=some (bg0 ns ars):=by
 have hpath:∀ id,K6 ((ns,ars,fs),id)=some (match pathOf ns ars id with | some l=>(l,0) | none=>([],7)):=fun id=>fz0 ns ars fs id (by omega) (by omega) (fun a h=>by have:=hv a h;omega)
 have hplen:∀ id l,pathOf ns ars id=some l->2<=l.length/\l.length<=1002:=fun id l h=>by
  obtain⟨a,h1,h2⟩:=pf0 h
  have:=hv a (kY0 h1)
  omega
 have mkM:=fun K=>pt0 ns (β:=Bool) (by omega) K
 have alone:=fun (s:Sg) (hs:pA0 s) K=>rm0 ns (by omega) hs K
 have sLoop:=fun (a:Ar) (l:List Pt) (acc:List Sg) (h1:l.length<=1000000) (h2:2<=l.length) (h3:acc.length<=300000000) K=>vU0 (β:=Bool) a l acc K false h1 h2 h3
 simp only[b9]at mkM alone sLoop
 unfold as0 bg0
 simp only[b9,hpath]
 refine(l9 (A:=List Sg) ars (fun i s=>(s,(i:Int))) (fun s rest=>some (match L2 ns ars rest with | none=>false | some l=>goB ns (mkMap ns []) (U8 nS0 (s++l)))) (fun i s=>s.length<=1002*i/\∀ x∈s,pA0 x) (by omega) ?_ ?_ [] ⟨by simp,by simp⟩).trans (by simp)
 ·intro rec s hI
  simp only[y4,cond_false,L2,List.append_nil]
  refine(mkM _).trans ?_
  obtain⟨hI1,hI2⟩:=hI
  have hlen:s.length<=1002000:=by
   have:1002*ars.length<=1002*1000:=Nat.mul_le_mul_left _ ha
   omega
  simp only[b9,mG0 hI2 (by omega)]
  have hperm:=O8 (aN0 s)
  have hok:∀ x∈U8 nS0 s,pA0 x:=fun x hx=>hI2 x (hperm.mem_iff.1 hx)
  have hl2:(U8 nS0 s).length<=1002000:=by rw[hperm.length_eq];exact hlen
  generalize U8 nS0 s=l at hok hl2
  refine(p8 (A:=Unit) l (fun i _=>(i:Int)) (fun _ rest=>some (goB ns (mkMap ns []) rest)) (by omega) ?_ ?_ ()).trans rfl
  ·intro rec u;simp[goB]
  ·intro rec i u x rest hi hd hr
   have hdl:=J7 hd
   have hx:=hok x hdl.2.2
   have hrest:l.drop (i+1)=rest:=by
    have:=congrArg List.tail hd
    simpa using this
   have hsl:pI0 l (some ((i+1:Nat):Int)) none=some rest:=by
    rw[rT0 (by omega) (by omega)]
    have:((i+1:Nat):Int).toNat=i+1:=by omega
    rw[this,hrest]
   simp only[y0 hi,cond_true,l8 hd,b9,r7 hi (show l.length<2^62 by omega),hsl]
   have hrok:∀ t∈rest,pA0 t:=fun t ht=>hok t (by rw[<- hrest]at ht;exact List.mem_of_mem_drop ht)
   have hK:∀ v,rec v=rec v:=fun _=>rfl
   refine(p8 (A:=Unit) rest (fun j _=>(j:Int)) (fun _ r=>bif eb0 x (mkMap ns []) r then (bif ns.all (T6 x)then some (goB ns (mkMap ns []) rest)else some false)else some false) (by omega) ?_ ?_ ()).trans ?_
   ·intro rec2 u
    simp only[y4,cond_false,eb0,cond_true]
    rw[alone x hx,hr ()]
   ·intro rec2 j u t r hj hdj hrj
    have ht:=hrok t (J7 hdj).2.2
    have e1:B2 (t.1,t.2)=some (sgW t):=mu0 ht
    have e2:H4 (x.1,x.2)=some (sgE x):=wi0 hx
    have e3:K0 ((x.1,x.2),(t.1,t.2),mkMap ns [])=some (bd0 x t (mkMap ns [])):=jS0 hx ht _
    simp only[y0 hj,cond_true,l8 hdj,b9,r7 hj (show rest.length<2^62 by omega),e1,e2,e3]
    rw[alone x hx,hr (),hrj ()]
    simp only[eb0]
    generalize decide (sgE x<sgW t)=p1
    generalize bd0 x t (mkMap ns [])=p2
    cases p1<;>cases p2<;>simp
   ·simp only[goB]
    generalize eb0 x (mkMap ns []) rest=p1
    generalize ns.all (T6 x)=p2
    cases p1<;>cases p2<;>simp
 ·intro rec i s x rest hi hI hd hr
  obtain⟨hI1,hI2⟩:=hI
  have hi1000:1002*i<=1002*1000:=Nat.mul_le_mul_left _ (by omega)
  simp only[y0 hi,cond_true,l8 hd,b9,r7 hi (show ars.length<2^62 by omega),L2]
  cases hp:pathOf ns ars x.1 with
  | none=>simp
  | some l =>
   obtain⟨hl1,hl2⟩:=hplen _ _ hp
   have fin:rec (s++gC0 x l,((i+1:Nat):Int))=some (match L2 ns ars rest with | none=>false | some l'=>goB ns (mkMap ns []) (U8 nS0 ((s++gC0 x l)++l'))):=hr _ ⟨by rw[List.length_append,qZ0];omega,fun y hy=>by
    rcases List.mem_append.1 hy with hy | hy
    ·exact hI2 y hy
    ·exact sS0 (by omega) hy⟩
   simp only[decide_true,Bool.not_true,cond_false]
   have key:=sLoop x l s (by omega) hl1 (by omega) (fun s'=>rec (s'.1,((i+1:Nat):Int)))
   by_cases hc:x.2.1=x.2.2.1
   ·simp only[hc,decide_true,cond_true,Bool.true_and]
    by_cases h4:l.length<4
    ·have:decide ((l.length:Int)<4)=true:=by simp only[decide_eq_true_eq];omega
     simp[this,h4]
    ·have h4':decide ((l.length:Int)<4)=false:=by simp only[decide_eq_false_iff_not];omega
     simp only[h4',cond_false,h4,decide_false,Bool.false_or]
     rw[hc]at key
     refine key.trans ?_
     cases lI0 l with
     | false=>simp
     | true =>
      simp only[cond_true,Bool.not_true,cond_false,fin]
      cases L2 ns ars rest<;>simp
   ·simp only[hc,decide_false,cond_false,Bool.false_and,Bool.false_or]
    refine key.trans ?_
    cases lI0 l with
    | false=>simp
    | true =>
     simp only[cond_true,Bool.not_true,cond_false,fin]
     cases L2 ns ars rest<;>simp
end Go.Ab
namespace Go.Ab
open Go
def cq0(ns:List Nd)(ars:List Ar)(fs:List Int):Bool:=decide (ns.length<=256)&&(decide (ars.length<=256)&&(decide (fs.length<=64)&&ars.all fun a=>decide (a.2.2.2.1.length<=64)))
def L5(ns:List Nd)(ars:List Ar)(fs:List Int):Int :=
 bif !(cq0 ns ars fs)then 3
 else bif !(gg0 (ns.map (·.1))&&(gg0 (ars.map (·.1))&&gg0 fs))then 10
 else bif !((ns.map (·.1)).all ib0&&((ars.map (·.1)).all ib0&&(fs.all ib0&&((ns.all fun n=>U7 (n.2.1,n.2.2))&&(ars.all fun a=>a.2.2.2.1.all U7)))))then 2
 else bif !decide (T3 ns ars fs (ns.map (·.1))=0)then T3 ns ars fs (ns.map (·.1))
 else bif !(bg0 ns ars)then 11 else 0
theorem dS0(ns:List Nd)(ars:List Ar)(fs:List Int):bA0 (ns,ars,fs)=some (L5 ns ars fs):=by
 unfold bA0 L5 cq0
 simp only[b9]
 by_cases h1:ns.length<=256
 rotate_left
 ·have:(256:Int)<(ns.length:Int):=by omega
  simp[h1,this]
 by_cases h2:ars.length<=256
 rotate_left
 ·have a1:¬ (256:Int)<(ns.length:Int):=by omega
  have:(256:Int)<(ars.length:Int):=by omega
  simp[h2,a1,this]
 by_cases h3:fs.length<=64
 rotate_left
 ·have a1:¬ (256:Int)<(ns.length:Int):=by omega
  have a2:¬ (256:Int)<(ars.length:Int):=by omega
  have:(64:Int)<(fs.length:Int):=by omega
  simp[h3,a1,a2,this]
 have a1:decide ((256:Int)<(ns.length:Int))=false:=by simp only[decide_eq_false_iff_not];omega
 have a2:decide ((256:Int)<(ars.length:Int))=false:=by simp only[decide_eq_false_iff_not];omega
 have a3:decide ((64:Int)<(fs.length:Int))=false:=by simp only[decide_eq_false_iff_not];omega
 simp only[a1,a2,a3,cond_false,h1,h2,h3,decide_true,Bool.true_and]
 refine(l9 (A:=Unit) ars (fun i _=>(i:Int)) (fun _ rest=>some (bif !(rest.all fun a=>decide (a.2.2.2.1.length<=64))then 3
 else bif !(gg0 (ns.map (·.1))&&(gg0 (ars.map (·.1))&&gg0 fs))then 10
 else bif !((ns.map (·.1)).all ib0&&((ars.map (·.1)).all ib0&&(fs.all ib0&&((ns.all fun n=>U7 (n.2.1,n.2.2))&&(ars.all fun a=>a.2.2.2.1.all U7)))))then 2
 else bif !decide (T3 ns ars fs (ns.map (·.1))=0)then T3 ns ars fs (ns.map (·.1))
 else bif !(bg0 ns ars)then 11 else 0)) (fun i _=>∀ a∈ars.take i,a.2.2.2.1.length<=64) (by omega) ?_ ?_ () (by simp)).trans rfl
 ·intro rec u hI
  rw[List.take_length]at hI
  have hv:∀ a∈ars,a.2.2.2.1.length<=900000:=fun a ha=>by have:=hI a ha;omega
  simp only[y4,cond_false,List.all_nil,Bool.not_true,dA0 ns ars fs (by omega) (by omega),b9,V9 _ (show (ns.map (·.1)).length<2^62 by simp;omega),V9 _ (show (ars.map (·.1)).length<2^62 by simp;omega),
   V9 fs (by omega),Z4 _ (show (ns.map (·.1)).length<2^62 by simp;omega),Z4 _ (show (ars.map (·.1)).length<2^62 by simp;omega),Z4 fs (by omega),ik0 ns ars fs (by omega) (by omega) hv,
   eQ0 ns ars fs (ns.map (·.1)) (by omega) (by omega) (by omega) (by simp;omega),in0 ns ars fs (by omega) (by omega) (fun a ha=>by have:=hI a ha;omega)]
  generalize gg0 (ns.map (·.1))=p1
  generalize gg0 (ars.map (·.1))=p2
  generalize gg0 fs=p3
  generalize (ns.map (·.1)).all ib0=p4
  generalize (ars.map (·.1)).all ib0=p5
  generalize fs.all ib0=p6
  generalize T3 ns ars fs (ns.map (·.1))=c
  generalize bg0 ns ars=p9
  generalize ((ns.all fun n=>U7 (n.2.1,n.2.2))&&(ars.all fun a=>a.2.2.2.1.all U7))=p7
  cases p1
  ·rfl
  cases p2
  ·rfl
  cases p3
  ·rfl
  cases p4
  ·rfl
  cases p5
  ·rfl
  cases p6
  ·rfl
  cases p7
  ·rfl
  simp only[Bool.not_true,cond_false,Bool.and_self]
  cases decide (c=0)
  ·rfl
  cases p9<;>rfl
 ·intro rec i u x rest hi hI hd hr
  simp only[y0 hi,cond_true,l8 hd,b9,r7 hi (show ars.length<2^62 by omega),List.all_cons]
  by_cases h:x.2.2.2.1.length<=64
  ·have e:decide ((64:Int)<(x.2.2.2.1.length:Int))=false:=by simp only[decide_eq_false_iff_not];omega
   simp only[e,cond_false,h,decide_true,Bool.true_and]
   refine hr () ?_
   have:ars[i]?=some x:=by rw[<- C8];exact l8 hd
   intro a ha
   rw[List.take_add_one,this]at ha
   rcases List.mem_append.1 ha with ha | ha
   ·exact hI a ha
   ·simp at ha;subst ha;exact h
  ·have e:decide ((64:Int)<(x.2.2.2.1.length:Int))=true:=by simp only[decide_eq_true_eq];omega
   simp[e,h]
end Go.Ab
namespace Go.Ab
open Go
def upV(u:Pt):Prop:=0<u.2\/u.2=0/\0<u.1
def cr(u v:Pt):Int:=u.1*v.2-u.2*v.1
theorem cr_id(u v w:Pt):v.2*cr u w=u.2*cr v w+w.2*cr u v:=by
 unfold cr
 simp only[Int.mul_sub,<-Int.mul_assoc]
 have a1:v.2*u.1*w.2=w.2*u.1*v.2:=by rw[Int.mul_comm v.2,Int.mul_comm (w.2*u.1),Int.mul_comm w.2,<-Int.mul_assoc,Int.mul_comm v.2]
 have a2:v.2*u.2*w.1=u.2*v.2*w.1:=by rw[Int.mul_comm v.2]
 have a3:w.2*u.2*v.1=u.2*v.1*w.2:=by rw[Int.mul_comm w.2,Int.mul_assoc,Int.mul_assoc,Int.mul_comm w.2]
 omega
theorem mf0(u v:Pt):cr v u=- cr u v:=by
 unfold cr
 have a1:v.1*u.2=u.2*v.1:=Int.mul_comm _ _
 have a2:v.2*u.1=u.1*v.2:=Int.mul_comm _ _
 omega
theorem wd0(u:Pt):cr u u=0:=by
 have:=mf0 u u
 omega
theorem nh0{u v w:Pt}(hu:upV u)(hv:upV v)(hw:upV w)(h1:0<cr u v)(h2:0<cr v w):0<cr u w:=by
 have hid:=cr_id u v w
 have hu0:0<=u.2:=by unfold upV at hu;omega
 have hw0:0<=w.2:=by unfold upV at hw;omega
 rcases hv with hv | ⟨hv,hv2⟩
 ·by_cases hu1:0<u.2
  ·have p1:=Int.mul_pos hu1 h2
   have p2:=Int.mul_nonneg hw0 (Int.le_of_lt h1)
   exact Int.pos_of_mul_pos_right (a:=v.2) (by omega) hv |> fun h=>h
  ·by_cases hw1:0<w.2
   ·have p1:=Int.mul_nonneg hu0 (Int.le_of_lt h2)
    have p2:=Int.mul_pos hw1 h1
    exact Int.pos_of_mul_pos_right (a:=v.2) (by omega) hv |> fun h=>h
   ·exfalso
    have e1:w.2=0:=by omega
    have e2:0<w.1:=by unfold upV at hw;omega
    have:cr v w=- (v.2*w.1):=by unfold cr;rw[e1];omega
    have:=Int.mul_pos hv e2
    omega
 ·exfalso
  have:cr u v=- (u.2*v.1):=by unfold cr;rw[hv];omega
  have:=Int.mul_nonneg hu0 (Int.le_of_lt hv2)
  omega
theorem lp0{u v w:Pt}(hu:upV u)(hv:upV v)(hw:upV w)(h1:cr u v<=0)(h2:cr v w<=0):cr u w<=0:=by
 have hid:=cr_id u v w
 have hu0:0<=u.2:=by unfold upV at hu;omega
 have hw0:0<=w.2:=by unfold upV at hw;omega
 rcases hv with hv | ⟨hv,hv2⟩
 ·have p1:=Int.mul_nonneg hu0 (show 0<=- cr v w by omega)
  have p2:=Int.mul_nonneg hw0 (show 0<=- cr u v by omega)
  rw[Int.mul_neg]at p1 p2
  by_cases h:cr u w<=0
  ·exact h
  ·have:=Int.mul_pos hv (show 0<cr u w by omega)
   omega
 ·have e1:cr v w=v.1*w.2:=by unfold cr;rw[hv];omega
  have e2:w.2=0:=by
   by_cases h:0<w.2
   ·have:=Int.mul_pos hv2 h;omega
   ·omega
  have:cr u w=- (u.2*w.1):=by unfold cr;rw[e2];omega
  have e3:0<w.1:=by unfold upV at hw;omega
  have:=Int.mul_nonneg hu0 (Int.le_of_lt e3)
  omega
def vec(o p:Pt):Pt:=(p.1-o.1,p.2-o.2)
def ngV(u:Pt):Pt:=(-u.1,-u.2)
theorem bz0(o p:Pt)(h:p≠o):Q0 o p=false↔upV (vec o p):=by
 unfold Q0 upV vec
 have:¬ (p.1=o.1/\p.2=o.2):=fun e=>h (Prod.ext e.1 e.2)
 simp only[Bool.or_eq_false_iff,Bool.and_eq_false_iff,decide_eq_false_iff_not]
 omega
theorem ak0(o p:Pt)(h:p≠o):Q0 o p=true↔upV (ngV (vec o p)):=by
 unfold Q0 upV vec ngV
 have:¬ (p.1=o.1/\p.2=o.2):=fun e=>h (Prod.ext e.1 e.2)
 simp only[Bool.or_eq_true,Bool.and_eq_true,decide_eq_true_eq]
 omega
theorem cr_ng(u v:Pt):cr (ngV u) (ngV v)=cr u v:=by
 unfold cr ngV
 simp only[Int.neg_mul_neg]
def pS0(o p:Pt):Prop:=C4 p=true/\p≠o
theorem du0{o a b:Pt}(ho:C4 o=true)(ha:pS0 o a)(hb:pS0 o b):by0 o a b=if Q0 o a=Q0 o b then decide (0<cr (vec o a) (vec o b))else Q0 o b:=by
 unfold by0
 have e1:eqP a o=false:=by
  cases h:eqP a o with
  | false=>rfl
  | true=>exact absurd ((jE0 a o).1 h) ha.2
 have e2:eqP b o=false:=by
  cases h:eqP b o with
  | false=>rfl
  | true=>exact absurd ((jE0 b o).1 h) hb.2
 simp only[ho,ha.1,hb.1,e1,e2,Bool.and_self,Bool.not_false,Bool.true_and]
 rfl
theorem lX0{o a:Pt}(ho:C4 o=true)(ha:pS0 o a):by0 o a a=false:=by
 rw[du0 ho ha ha,if_pos rfl];simp[wd0]
theorem pG0{o a b c:Pt}(ho:C4 o=true)(ha:pS0 o a)(hb:pS0 o b)(hc:pS0 o c)(h1:by0 o a b=true)(h2:by0 o b c=true):by0 o a c=true:=by
 rw[du0 ho ha hb]at h1
 rw[du0 ho hb hc]at h2
 rw[du0 ho ha hc]
 cases hla:Q0 o a<;>cases hlb:Q0 o b<;>cases hlc:Q0 o c<;>simp only[hla,hlb,hlc,if_true,if_false,Bool.false_eq_true,Bool.true_eq_false]at h1 h2 ⊢
 ·exact decide_eq_true (nh0 ((bz0 o a ha.2).1 hla) ((bz0 o b hb.2).1 hlb) ((bz0 o c hc.2).1 hlc) (of_decide_eq_true h1) (of_decide_eq_true h2))
 ·refine decide_eq_true ?_
  have g1:=of_decide_eq_true h1
  have g2:=of_decide_eq_true h2
  rw[<- cr_ng]at g1 g2 ⊢
  exact nh0 ((ak0 o a ha.2).1 hla) ((ak0 o b hb.2).1 hlb) ((ak0 o c hc.2).1 hlc) g1 g2
theorem mY0{o a b c:Pt}(ho:C4 o=true)(ha:pS0 o a)(hb:pS0 o b)(hc:pS0 o c)(h1:by0 o a b=false)(h2:by0 o b c=false):by0 o a c=false:=by
 rw[du0 ho ha hb]at h1
 rw[du0 ho hb hc]at h2
 rw[du0 ho ha hc]
 cases hla:Q0 o a<;>cases hlb:Q0 o b<;>cases hlc:Q0 o c<;>simp only[hla,hlb,hlc,if_true,if_false,Bool.false_eq_true,Bool.true_eq_false]at h1 h2 ⊢
 ·refine decide_eq_false (fun h=>?_)
  have g1:=of_decide_eq_false h1
  have g2:=of_decide_eq_false h2
  have:=lp0 ((bz0 o a ha.2).1 hla) ((bz0 o b hb.2).1 hlb) ((bz0 o c hc.2).1 hlc) (by omega) (by omega)
  omega
 ·refine decide_eq_false (fun h=>?_)
  have g1:=of_decide_eq_false h1
  have g2:=of_decide_eq_false h2
  rw[<- cr_ng]at g1 g2 h
  have:=lp0 ((ak0 o a ha.2).1 hla) ((ak0 o b hb.2).1 hlb) ((ak0 o c hc.2).1 hlc) (by omega) (by omega)
  omega
end Go.Ab
namespace Go.Ab
open Go Go.Sort Go.Proofs Go.Shelf
structure O7(ns:List Nd)(ars:List Ar)(fs:List Int):Prop where
 sml:cq0 ns ars fs=true
 ascN:gg0 (ns.map (·.1))=true
 ascA:gg0 (ars.map (·.1))=true
 ascF:gg0 fs=true
 numN:(ns.map (·.1)).all ib0=true
 numA:(ars.map (·.1)).all ib0=true
 numF:fs.all ib0=true
 posN:(ns.all fun n=>U7 (n.2.1,n.2.2))=true
 posA:(ars.all fun a=>a.2.2.2.1.all U7)=true
 conn:T3 ns ars fs (ns.map (·.1))=0
 plan:bg0 ns ars=true
theorem W1{ns:List Nd}{ars:List Ar}{fs:List Int}:L5 ns ars fs=0↔O7 ns ars fs:=by
 constructor
 ·intro h
  unfold L5 at h
  cases h1:cq0 ns ars fs with
  | false=>rw[h1]at h;simp at h
  | true =>
   rw[h1]at h
   simp only[Bool.not_true,cond_false]at h
   cases h2:(gg0 (ns.map (·.1))&&(gg0 (ars.map (·.1))&&gg0 fs))with
   | false=>rw[h2]at h;simp at h
   | true =>
    rw[h2]at h
    simp only[Bool.not_true,cond_false]at h
    cases h3:((ns.map (·.1)).all ib0&&((ars.map (·.1)).all ib0&&(fs.all ib0&&((ns.all fun n=>U7 (n.2.1,n.2.2))&&(ars.all fun a=>a.2.2.2.1.all U7)))))with
    | false=>rw[h3]at h;simp at h
    | true =>
     rw[h3]at h
     simp only[Bool.not_true,cond_false]at h
     by_cases h4:T3 ns ars fs (ns.map (·.1))=0
     ·simp only[h4,decide_true,Bool.not_true,cond_false]at h
      cases h5:bg0 ns ars with
      | false=>rw[h5]at h;simp at h
      | true =>
       simp only[Bool.and_eq_true]at h2 h3
       exact⟨h1,h2.1,h2.2.1,h2.2.2,h3.1,h3.2.1,h3.2.2.1,h3.2.2.2.1,h3.2.2.2.2,h4,h5⟩
     ·simp only[h4,decide_false,Bool.not_false,cond_true]at h
 ·intro h
  unfold L5
  simp[h.sml,h.ascN,h.ascA,h.ascF,h.numN,h.numA,h.numF,h.posN,h.posA,h.conn,h.plan]
theorem I9:∀ {l:List Int},gg0 l=true->l.Pairwise (·<·)
 | [],_=>List.Pairwise.nil
 | [a],_=>by simp
 | a::b::l,h=>by
  simp only[gg0,Bool.and_eq_true,decide_eq_true_eq]at h
  have ih:=I9 h.2
  refine List.Pairwise.cons (fun x hx=>?_) ih
  rcases List.mem_cons.1 hx with rfl | hx
  ·exact h.1
  ·have:=(List.pairwise_cons.1 ih).1 x hx
   omega
theorem bU0{α:Type}{f:α->Int}:∀ {l:List α},(l.map f).Pairwise (·<·)->∀ x∈l,l.find? (fun y=>decide (f y=f x))=some x
 | [],_,x,hx=>by simp at hx
 | y::l,h,x,hx=>by
  simp only[List.map_cons,List.pairwise_cons]at h
  rw[List.find?_cons]
  rcases List.mem_cons.1 hx with rfl | hx
  ·simp
  ·have h1:=h.1 (f x) (List.mem_map_of_mem hx)
   have:¬ f y=f x:=by omega
   simp only[this,decide_false]
   exact bU0 h.2 x hx
theorem iR0{ns:List Nd}{ars:List Ar}:∀ {l:List Ar} {r:List Sg},L2 ns ars l=some r->∀ a∈l,∃ p,pathOf ns ars a.1=some p/\lI0 p=true/\(a.2.1=a.2.2.1->4<=p.length)
 | [],r,h,a,ha=>by simp at ha
 | b::l,r,h,a,ha=>by
  unfold L2 at h
  split at h
  ·cases h
  ·rename_i p hp
   cases hc:((decide (b.2.1=b.2.2.1)&&decide (p.length<4))||!(lI0 p))with
   | true=>rw[hc]at h;cases h
   | false =>
    rw[hc]at h
    simp only[cond_false]at h
    split at h
    ·rename_i r' hr
     rcases List.mem_cons.1 ha with rfl | ha
     ·simp only[Bool.or_eq_false_iff,Bool.and_eq_false_iff,decide_eq_false_iff_not,Bool.not_eq_false']at hc
      refine⟨p,hp,hc.2,fun e=>?_⟩
      rcases hc.1 with h1 | h1
      ·exact absurd e h1
      ·omega
     ·exact iR0 hr a ha
    ·cases h
theorem lW0:∀ {l:List Pt} {i:Nat} {p q:Pt},lI0 l=true->l[i]?=some p->l[i+1]?=some q->p≠q
 | [],i,p,q,_,h,_=>by simp at h
 | [a],0,p,q,_,_,h=>by simp at h
 | [a],i+1,p,q,_,h,_=>by simp at h
 | a::b::l,0,p,q,h,h1,h2=>by
  simp only[lI0,Bool.and_eq_true,Bool.not_eq_true']at h
  simp at h1 h2
  subst h1;subst h2
  intro e
  rw[(jE0 a b).2 e]at h
  cases h.1
 | a::b::l,i+1,p,q,h,h1,h2=>by
  simp only[lI0,Bool.and_eq_true]at h
  exact lW0 h.2 (by simpa using h1) (by simpa using h2)
namespace O7
variable {ns:List Nd} {ars:List Ar} {fs:List Int} (h:O7 ns ars fs)
include h
theorem lenN:ns.length<=256:=by
 have:=h.sml
 simp only[cq0,Bool.and_eq_true,decide_eq_true_eq]at this;exact this.1
theorem lenA:ars.length<=256:=by
 have:=h.sml
 simp only[cq0,Bool.and_eq_true,decide_eq_true_eq]at this;exact this.2.1
theorem lenF:fs.length<=64:=by
 have:=h.sml
 simp only[cq0,Bool.and_eq_true,decide_eq_true_eq]at this;exact this.2.2.1
theorem lenV{a:Ar}(ha:a∈ars):a.2.2.2.1.length<=64:=by
 have:=h.sml
 simp only[cq0,Bool.and_eq_true,decide_eq_true_eq,List.all_eq_true]at this;exact this.2.2.2 a ha
theorem arcOf_self{a:Ar}(ha:a∈ars):bK0 ars a.1=some a:=bU0 (f:=fun a:Ar=>a.1) (I9 h.ascA) a ha
theorem nodeOf_self{n:Nd}(hn:n∈ns):F4 ns n.1=some n:=bU0 (f:=fun n:Nd=>n.1) (I9 h.ascN) n hn
theorem num{a:Ar}(ha:a∈ars):1<=a.1/\a.1<=1073741824:=by
 have:=List.all_eq_true.1 h.numA a.1 (List.mem_map_of_mem ha)
 simpa[ib0]using this
theorem segs:∃ r,L2 ns ars ars=some r:=by
 have:=h.plan
 unfold bg0 at this
 split at this
 ·cases this
 ·rename_i r hr;exact⟨r,hr⟩
theorem path{a:Ar}(ha:a∈ars):∃ f t,F4 ns a.2.1=some f/\F4 ns a.2.2.1=some t/\pathOf ns ars a.1=some ((f.2.1,f.2.2)::(a.2.2.2.1++[(t.2.1,t.2.2)]))/\lI0 ((f.2.1,f.2.2)::(a.2.2.2.1++[(t.2.1,t.2.2)]))=true/\(a.2.1=a.2.2.1->2<=a.2.2.2.1.length):=by
 obtain⟨r,hr⟩:=h.segs
 obtain⟨p,h1,h2,h3⟩:=iR0 hr a ha
 have h1':=h1
 unfold pathOf at h1
 rw[h.arcOf_self ha]at h1
 simp only at h1
 split at h1
 ·rename_i f t hf ht
  cases h1
  refine⟨f,t,hf,ht,h1',h2,fun e=>?_⟩
  have:=h3 e
  simp at this
  omega
 ·cases h1
theorem nodePos{n:Nd}(hn:n∈ns):U7 (n.2.1,n.2.2)=true:=List.all_eq_true.1 h.posN n hn
theorem pathNear{a:Ar}(ha:a∈ars){l:List Pt}(hl:pathOf ns ars a.1=some l):∀ p∈l,U7 p=true:=by
 obtain⟨f,t,h1,h2,h3,_⟩:=h.path ha
 rw[hl]at h3
 cases h3
 intro p hp
 rcases List.mem_cons.1 hp with rfl | hp
 ·exact h.nodePos (List.mem_of_find?_eq_some h1)
 ·rcases List.mem_append.1 hp with hp | hp
  ·exact List.all_eq_true.1 (List.all_eq_true.1 h.posA a ha) p hp
  ·simp at hp;subst hp;exact h.nodePos (List.mem_of_find?_eq_some h2)
theorem Path_eq(id:Int):K6 ((ns,ars,fs),id)=some (match pathOf ns ars id with | some l=>(l,0) | none=>([],7)) :=
 fz0 ns ars fs id (by have:=h.lenN;omega) (by have:=h.lenA;omega) (fun a ha=>by have:=h.lenV ha;omega)
theorem Node_eq(id:Int):N3 ((ns,ars,fs),id)=some (match F4 ns id with | some n=>(n,true) | none=>((0,0,0),false)) :=
 cB0 ns ars fs id (by have:=h.lenN;omega)
theorem Arc_eq(id:Int):aO0 ((ns,ars,fs),id)=some (match bK0 ars id with | some a=>(a,true) | none=>((0,0,0,[],0,0),false)) :=
 gY0 ns ars fs id (by have:=h.lenA;omega) (fun a ha=>by have:=h.lenV ha;omega)
end O7
end Go.Ab
namespace Go.Ab
open Go Go.Sort Go.Proofs Go.Shelf
def gb0(ns:List Nd)(ars:List Ar)(node:Int)(a:Ar):List (Int×Pt):=match pathOf ns ars a.1 with
 | none=>[]
 | some l=>(if a.2.1=node then [(a.1,(l[1]?).getD (0,0))]else [])++(if a.2.2.1=node then [(-a.1,(l[l.length-2]?).getD (0,0))]else [])
def N0(ns:List Nd)(ars:List Ar)(node:Int)(l:List Ar):List (Int×Pt):=l.flatMap (gb0 ns ars node)
def cmpA(o:Pt)(m:List (Int×Pt))(d e:Int):Int:=if by0 o (ek0 m d) (ek0 m e)then -1 else if by0 o (ek0 m e) (ek0 m d)then 1 else 0
theorem vG0(n:Nd)(m:List (Int×Pt))(d e:Int):J1 (d,e,n,m)=some (cmpA (n.2.1,n.2.2) m d e):=by
 have h1:∀ o a b:Pt,X8 ((o.1,o.2),(a.1,a.2),(b.1,b.2))=some (by0 o a b):=fun o a b=>lu0 o a b
 have h2:∀ a b:Pt,X8 ((n.2.1,n.2.2),(a.1,a.2),(b.1,b.2))=some (by0 (n.2.1,n.2.2) a b):=fun a b=>h1 (n.2.1,n.2.2) a b
 unfold J1 cmpA
 simp only[pZ0,b9,h2]
 cases by0 (n.2.1,n.2.2) (ek0 m d) (ek0 m e)
 ·cases by0 (n.2.1,n.2.2) (ek0 m e) (ek0 m d)<;>simp
 ·simp
def bu0(m:List (Int×Pt))(l:List (Int×Pt)):List (Int×Pt):=l.foldl (fun m p=>O6 (fun (a b:Int)=>decide (a=b)) p.1 p.2 m) m
theorem iF0(k:Int):∀ (l:List (Int×Pt)) (m:List (Int×Pt)),(∀ p∈l,p.1≠k)->lkp qI k (bu0 m l)=lkp qI k m
 | [],m,_=>rfl
 | p::l,m,h=>by
  have:=iF0 k l (O6 qI p.1 p.2 m) (fun q hq=>h q (by simp[hq]))
  show lkp qI k (bu0 (O6 qI p.1 p.2 m) l)=_
  rw[this,Q8,if_neg (fun e=>h p (by simp) e.symm)]
theorem dj0:∀ (l:List (Int×Pt)) (m:List (Int×Pt)),(l.map (·.1)).Nodup->∀ p∈l,lkp qI p.1 (bu0 m l)=some p.2
 | [],m,_,p,hp=>by simp at hp
 | q::l,m,hn,p,hp=>by
  simp only[List.map_cons,List.nodup_cons]at hn
  show lkp qI p.1 (bu0 (O6 qI q.1 q.2 m) l)=_
  rcases List.mem_cons.1 hp with rfl | hp
  ·rw[iF0 p.1 l _ (fun x hx e=>hn.1 (by rw[<- e];exact List.mem_map_of_mem hx)),Q8,if_pos rfl]
  ·exact dj0 l _ hn.2 p hp
theorem neg64{n:Int}(h:1<=n/\n<=1073741824):IntKind.i64.wrap (0-n)=-n:=by rw[w64 (by omega) (by omega)];omega
namespace O7
variable {ns:List Nd} {ars:List Ar} {fs:List Int} (h:O7 ns ars fs)
include h
theorem raw_nodup(node:Int):∀ {l:List Ar},(∀ a∈l,a∈ars)->(l.map (·.1)).Pairwise (·<·)->((N0 ns ars node l).map (·.1)).Nodup
 | [],_,_=>by simp[N0]
 | a::l,hm,hp=>by
  have ih:=raw_nodup node (l:=l) (fun x hx=>hm x (by simp[hx])) (by simp only[List.map_cons,List.pairwise_cons]at hp;exact hp.2)
  have ha:=h.num (hm a (by simp))
  have key:∀ (b:Ar),b∈ars->∀ p∈gb0 ns ars node b,p.1=b.1\/p.1=-b.1:=fun b hb p hp=>by
   unfold gb0 at hp
   split at hp
   ·simp at hp
   ·rcases List.mem_append.1 hp with hp | hp
    ·split at hp<;>simp at hp
     exact .inl (by rw[hp])
    ·split at hp<;>simp at hp
     exact .inr (by rw[hp])
  have e:N0 ns ars node (a::l)=gb0 ns ars node a++N0 ns ars node l:=rfl
  rw[e,List.map_append,List.nodup_append]
  refine⟨?_,ih,?_⟩
  ·unfold gb0
   split
   ·simp
   ·by_cases h1:a.2.1=node<;>by_cases h2:a.2.2.1=node<;>simp[h1,h2]
    omega
  ·intro x hx y hy hxy
   obtain⟨p,hp1,rfl⟩:=List.mem_map.1 hx
   obtain⟨q,hq1,rfl⟩:=List.mem_map.1 hy
   obtain⟨b,hb,hq2⟩:=List.mem_flatMap.1 hq1
   have hbm:=hm b (by simp[hb])
   have hbn:=h.num hbm
   simp only[List.map_cons,List.pairwise_cons]at hp
   have hlt:=hp.1 b.1 (List.mem_map_of_mem hb)
   rcases key a (hm a (by simp)) p hp1 with e1 | e1<;>rcases key b hbm q hq2 with e2 | e2<;>omega
theorem raw_mem{node:Int}{l:List Ar}(hm:∀ a∈l,a∈ars){p:Int×Pt}(hp:p∈N0 ns ars node l):∃ a∈l,∃ q,pathOf ns ars a.1=some q/\((a.2.1=node/\p=(a.1,(q[1]?).getD (0,0)))\/(a.2.2.1=node/\p=(-a.1,(q[q.length-2]?).getD (0,0)))):=by
 obtain⟨a,ha,hp⟩:=List.mem_flatMap.1 hp
 unfold gb0 at hp
 split at hp
 ·simp at hp
 ·rename_i q hq
  refine⟨a,ha,q,hq,?_⟩
  rcases List.mem_append.1 hp with hp | hp
  ·split at hp<;>simp at hp
   exact .inl ⟨by assumption,hp⟩
  ·split at hp<;>simp at hp
   exact .inr ⟨by assumption,hp⟩
theorem raw_dir{n:Nd}(hn:F4 ns n.1=some n){l:List Ar}(hm:∀ a∈l,a∈ars){p:Int×Pt}(hp:p∈N0 ns ars n.1 l):pS0 (n.2.1,n.2.2) p.2:=by
 obtain⟨a,ha,q,hq,hc⟩:=h.raw_mem hm hp
 obtain⟨f,t,h1,h2,h3,h4,_⟩:=h.path (hm a ha)
 have hnear:=h.pathNear (hm a ha) hq
 rw[hq]at h3
 cases h3
 rcases hc with ⟨e,rfl⟩ | ⟨e,rfl⟩
 ·rw[e,hn]at h1
  cases h1
  have e1:((n.2.1,n.2.2)::(a.2.2.2.1++[(t.2.1,t.2.2)]))[0]?=some (n.2.1,n.2.2):=rfl
  obtain⟨x,hx⟩:∃ x,((n.2.1,n.2.2)::(a.2.2.2.1++[(t.2.1,t.2.2)]))[1]?=some x:=⟨_,List.getElem?_eq_getElem (by simp)⟩
  refine⟨?_,?_⟩
  ·show C4 (Option.getD _ _)=true
   rw[hx]
   exact bF0 (hnear x (List.mem_of_getElem? hx))
  ·show Option.getD _ _≠_
   rw[hx]
   exact fun e=>lW0 h4 e1 hx e.symm
 ·rw[e,hn]at h2
  cases h2
  generalize hL:(f.2.1,f.2.2)::(a.2.2.2.1++[(n.2.1,n.2.2)])=L at *
  have hlen:L.length=a.2.2.2.1.length+2:=by rw[<- hL];simp
  have e1:L[L.length-2+1]?=some (n.2.1,n.2.2):=by
   have:L.length-2+1=a.2.2.2.1.length+1:=by omega
   rw[this,<-hL];simp
  obtain⟨x,hx⟩:∃ x,L[L.length-2]?=some x:=⟨_,List.getElem?_eq_getElem (by omega)⟩
  refine⟨?_,?_⟩
  ·show C4 (Option.getD _ _)=true
   rw[hx]
   exact bF0 (hnear x (List.mem_of_getElem? hx))
  ·show Option.getD _ _≠_
   rw[hx]
   exact lW0 h4 hx e1
omit h in
theorem lU0(node:Int):∀ (l:List Ar),(N0 ns ars node l).length<=2*l.length
 | []=>by simp[N0]
 | a::l=>by
  have ih:=lU0 node l
  have e:N0 ns ars node (a::l)=gb0 ns ars node a++N0 ns ars node l:=rfl
  have:(gb0 ns ars node a).length<=2:=by
   unfold gb0
   split
   ·simp
   ·by_cases h1:a.2.1=node<;>by_cases h2:a.2.2.1=node<;>simp[h1,h2]
  rw[e,List.length_append,List.length_cons]
  omega
theorem cmpA_ordered{n:Nd}(hn:F4 ns n.1=some n)(hnm:n∈ns):Ordered (cmpA (n.2.1,n.2.2) (bu0 [] (N0 ns ars n.1 ars))) ((N0 ns ars n.1 ars).map (·.1)):=by
 have hnd:=h.raw_nodup n.1 (l:=ars) (fun _ ha=>ha) (I9 h.ascA)
 have hat:∀ d∈(N0 ns ars n.1 ars).map (·.1),pS0 (n.2.1,n.2.2) (ek0 (bu0 [] (N0 ns ars n.1 ars)) d):=fun d hd=>by
  obtain⟨p,hp,rfl⟩:=List.mem_map.1 hd
  unfold ek0
  rw[dj0 _ [] hnd p hp]
  exact h.raw_dir hn (fun _ ha=>ha) hp
 have ho:C4 (n.2.1,n.2.2)=true:=bF0 (h.nodePos hnm)
 generalize bu0 [] (N0 ns ars n.1 ars)=m at hat
 have hneg:∀ d e,cmpA (n.2.1,n.2.2) m d e<0↔by0 (n.2.1,n.2.2) (ek0 m d) (ek0 m e)=true:=fun d e=>by
  unfold cmpA
  cases by0 (n.2.1,n.2.2) (ek0 m d) (ek0 m e)
  ·cases by0 (n.2.1,n.2.2) (ek0 m e) (ek0 m d)<;>simp
  ·simp
 refine cR0 (fun x hx=>?_) (fun x hx y hy z hz a b=>?_) (fun x hx y hy z hz a b=>?_)
 ·rw[hneg,lX0 ho (hat x hx)];simp
 ·rw[hneg]at a b ⊢
  exact pG0 ho (hat x hx) (hat y hy) (hat z hz) a b
 ·rw[hneg,Bool.not_eq_true]at a b ⊢
  exact mY0 ho (hat x hx) (hat y hy) (hat z hz) a b
def aroundL(ns:List Nd)(ars:List Ar)(n:Nd):List Int:=U8 (cmpA (n.2.1,n.2.2) (bu0 [] (N0 ns ars n.1 ars))) ((N0 ns ars n.1 ars).map (·.1))
theorem Around_eq(node:Int):W4 ((ns,ars,fs),node)=some (match F4 ns node with | some n=>aroundL ns ars n | none=>[]):=by
 have hlen:=h.lenA
 unfold W4
 simp only[h.Node_eq,b9]
 cases hn:F4 ns node with
 | none=>simp
 | some n =>
  have hnid:n.1=node:=by
   have:=List.find?_some hn
   simpa using this
  subst hnid
  have hnm:n∈ns:=List.mem_of_find?_eq_some hn
  simp only[Bool.not_true,cond_false,h.Path_eq,b9]
  refine(l9 (A:=List Int×List (Int×Pt)) ars (fun i a=>((i:Int),a.1,a.2)) (fun a rest=>cj0 (fun d e=>J1 (d,e,n,bu0 a.2 (N0 ns ars n.1 rest))) (a.1++(N0 ns ars n.1 rest).map (·.1))) (fun i a=>a.1.length<=2*i) (by omega) ?_ ?_ ([],[]) (by simp)).trans ?_
  ·intro rec a hI
   simp only[y4,cond_false]
   unfold slices_SortFunc_int_walk_Around_2
   simp only[decide_true,cond_true]
   have e:N0 ns ars n.1 []=[]:=rfl
   rw[e]
   simp only[List.map_nil,List.append_nil]
   show b8 (cj0 _ a.1) _=cj0 _ a.1
   have e2:bu0 a.2 []=a.2:=rfl
   rw[e2]
   cases cj0 (fun d e=>J1 (d,e,n,a.2)) a.1<;>rfl
  ·intro rec i a x rest hi hI hd hr
   have hx:=(J7 hd).2.2
   obtain⟨f,t,h1,h2,h3,h4,h5⟩:=h.path hx
   have hnum:=h.num hx
   have er:N0 ns ars n.1 (x::rest)=gb0 ns ars n.1 x++N0 ns ars n.1 rest:=rfl
   have hlt:=(J7 hd).1
   generalize hL:(f.2.1,f.2.2)::(x.2.2.2.1++[(t.2.1,t.2.2)])=L at h3 h4
   have hLl:L.length=x.2.2.2.1.length+2:=by rw[<- hL];simp
   have hv:=h.lenV hx
   obtain⟨p1,hp1⟩:∃ p,L[1]?=some p:=⟨_,List.getElem?_eq_getElem (by omega)⟩
   obtain⟨p2,hp2⟩:∃ p,L[L.length-2]?=some p:=⟨_,List.getElem?_eq_getElem (by omega)⟩
   have en1:nth L (1:Int)=some p1:=by have:=C8 L 1;rw[hp1]at this;exact this
   have ew:IntKind.i64.wrap ((L.length:Int)-2)=((L.length-2:Nat):Int):=by rw[w64 (by omega) (by omega)];omega
   have en2:nth L ((L.length-2:Nat):Int)=some p2:=by rw[C8];exact hp2
   simp only[y0 hi,cond_true,l8 hd,b9,r7 hi (show ars.length<2^62 by omega),h3,decide_true,Bool.not_true,cond_false,en1,ew,en2,neg64 hnum]
   have eraw:gb0 ns ars n.1 x=(if x.2.1=n.1 then [(x.1,p1)]else [])++(if x.2.2.1=n.1 then [(-x.1,p2)]else []):=by
    unfold gb0
    rw[h3]
    simp only[hp1,hp2,Option.getD_some]
   rw[er,eraw]
   by_cases c1:x.2.1=n.1<;>by_cases c2:x.2.2.1=n.1
   ·simp only[c1,c2,decide_true,Bool.not_true,cond_false,cond_true,if_true]
    rw[B8 (by omega) (by simp;omega)]
    simp only[b9]
    rw[B8 (by omega) (by simp;omega)]
    simp only[b9]
    have:=hr (a.1++[x.1]++[-x.1],O6 (fun (a b:Int)=>decide (a=b)) (-x.1) p2 (O6 (fun (a b:Int)=>decide (a=b)) x.1 p1 a.2)) (by simp;omega)
    refine this.trans ?_
    simp[bu0]
   ·simp only[c1,c2,decide_true,decide_false,Bool.not_true,Bool.not_false,cond_false,cond_true,if_true,if_false]
    rw[B8 (by omega) (by simp;omega)]
    simp only[b9]
    have:=hr (a.1++[x.1],O6 (fun (a b:Int)=>decide (a=b)) x.1 p1 a.2) (by simp;omega)
    refine this.trans ?_
    simp[bu0]
   ·simp only[c1,c2,decide_true,decide_false,Bool.not_true,Bool.not_false,cond_false,cond_true,if_true,if_false]
    rw[B8 (by omega) (by simp;omega)]
    simp only[b9]
    have:=hr (a.1++[-x.1],O6 (fun (a b:Int)=>decide (a=b)) (-x.1) p2 a.2) (by simp;omega)
    refine this.trans ?_
    simp[bu0]
   ·simp only[c1,c2,decide_false,Bool.not_false,cond_false,cond_true,if_false]
    have:=hr a (by omega)
    refine this.trans ?_
    simp
  ·simp only[List.nil_append]
   have hl:=lU0 (ns:=ns) (ars:=ars) n.1 ars
   exact fX0 (fun x _ y _=>vG0 n _ x y) (h.cmpA_ordered hn hnm) (by simp;omega)
end O7
end Go.Ab
namespace Go.Ab
open Go Go.Sort Go.Proofs Go.Shelf
def fG0(l:List Int)(d:Int):Int:=if d∈l then (l[(l.idxOf d+l.length-1)%l.length]?).getD 0 else 0
theorem wz0(l:List Int)(d:Int)(hl:l.length<=1000000):M5 (l,d)=some (fG0 l d):=by
 unfold M5 fG0
 simp only[ax0 l d (by omega),b9]
 by_cases hd:d∈l
 ·have hi:l.idxOf d<l.length:=List.idxOf_lt_length_iff.2 hd
  have e0:decide (((l.idxOf d:Nat):Int)<0)=false:=by simp only[decide_eq_false_iff_not];omega
  have e1:IntKind.i64.wrap (((l.idxOf d:Nat):Int)+(l.length:Int))=((l.idxOf d+l.length:Nat):Int):=by rw[w64 (by omega) (by omega)];omega
  have e2:IntKind.i64.wrap (((l.idxOf d+l.length:Nat):Int)-1)=((l.idxOf d+l.length-1:Nat):Int):=by rw[w64 (by omega) (by omega)];omega
  have e3:decide ((l.length:Int)=0)=false:=by simp only[decide_eq_false_iff_not];omega
  have e4:Int.tmod ((l.idxOf d+l.length-1:Nat):Int) (l.length:Int)=(((l.idxOf d+l.length-1)%l.length:Nat):Int):=by simp[Int.tmod_eq_emod_of_nonneg]
  have hm:(l.idxOf d+l.length-1)%l.length<l.length:=Nat.mod_lt _ (by omega)
  simp only[hd,if_true,e0,cond_false,e1,e2,e3,e4,C8,b9]
  rw[List.getElem?_eq_getElem hm]
  rfl
 ·simp[hd]
theorem rg0{l:List Int}{d:Int}(h:d∈l):fG0 l d∈l:=by
 unfold fG0
 have hi:l.idxOf d<l.length:=List.idxOf_lt_length_iff.2 h
 have hm:(l.idxOf d+l.length-1)%l.length<l.length:=Nat.mod_lt _ (by omega)
 rw[if_pos h,List.getElem?_eq_getElem hm]
 exact List.getElem_mem _
def ah0(S:List Int):List (Int×Bool):=S.map fun d=>(d,true)
theorem nI0(d:Int):∀ S:List Int,lkp qI d (ah0 S)=if d∈S then some true else none
 | []=>rfl
 | x::S=>by
  have ih:=nI0 d S
  show (bif qI d x then some true else lkp qI d (ah0 S))=_
  rw[ih,oV0]
  by_cases h:d=x<;>simp[h]
theorem js0(d:Int):∀ S:List Int,d∉S->O6 qI d true (ah0 S)=ah0 (S++[d])
 | [],_=>rfl
 | x::S,h=>by
  simp only[List.mem_cons,not_or]at h
  have ih:=js0 d S h.2
  show (bif qI d x then (d,true)::ah0 S else (x,true)::O6 qI d true (ah0 S))=_
  rw[ih,oV0]
  simp[h.1,ah0]
theorem es0(d:Int)(S:List Int):orO (lkp (fun (a b:Int)=>decide (a=b)) d (ah0 S)) (some false)=some (decide (d∈S)):=by
 show orO (lkp qI d (ah0 S)) _=_
 rw[nI0]
 by_cases h:d∈S<;>simp[h,orO]
def P7(nx:Int->Int):Nat->List Int->Int->List Int->List Int×List Int
 | 0,S,_,c=>(c,S)
 | n+1,S,d,c=>if d∈S then (c,S)else P7 nx n (S++[d]) (nx d) (c++[d])
def R7(D S:List Int):Nat:=(D.filter fun d=>!decide (d∈S)).length
theorem kl0{D S:List Int}{d:Int}(hd:d∈D)(hs:d∉S):R7 D (S++[d])<R7 D S:=by
 unfold R7
 induction D with
 | nil=>simp at hd
 | cons x D ih =>
  have mono:∀ D:List Int,(D.filter fun y=>!decide (y∈S++[d])).length<=(D.filter fun y=>!decide (y∈S)).length:=fun D=>by
   induction D with
   | nil=>simp
   | cons y D ih =>
    simp only[List.filter_cons]
    by_cases h1:y∈S
    ·have:y∈S++[d]:=by simp[h1]
     simp only[h1,this,decide_true,Bool.not_true,Bool.false_eq_true,if_false];exact ih
    ·by_cases h2:y∈S++[d]
     ·simp only[h1,h2,decide_true,decide_false,Bool.not_true,Bool.not_false,Bool.false_eq_true,if_false,if_true,List.length_cons];omega
     ·simp only[h1,h2,decide_false,Bool.not_false,if_true,List.length_cons];omega
  simp only[List.filter_cons]
  have hm:=mono D
  by_cases hxd:x=d
  ·subst hxd
   have:x∈S++[x]:=by simp
   simp only[this,hs,decide_true,decide_false,Bool.not_true,Bool.not_false,Bool.false_eq_true,if_false,if_true,List.length_cons]
   omega
  ·have ih':=ih (by rcases List.mem_cons.1 hd with h | h;exact absurd h.symm hxd;exact h)
   by_cases h1:x∈S
   ·have:x∈S++[d]:=by simp[h1]
    simp only[h1,this,decide_true,Bool.not_true,Bool.false_eq_true,if_false];exact ih'
   ·have:¬ x∈S++[d]:=by simp[h1,hxd]
    simp only[h1,this,decide_false,Bool.not_false,if_true,List.length_cons];omega
theorem pz0{β:Type}(mp:List (Int×Int))(D:List Int)(hD:D.length<=100000)(hnx:∀ d∈D,(lkp qI d mp).getD 0∈D)(K:Int×List Int×List (Int×Bool)->Option β)(G:List Int×List Int->Option β)(hK:∀ d c S,K (d,c,ah0 S)=G (c,S)) :
  ∀ (S:List Int) (d:Int) (c:List Int),d∈D->c.length+R7 D S<=100000->rounds (α:=Int×List Int×List (Int×Bool)) (β:=β) (fun k21 x21 =>
     b8 (orO (lkp (fun (a b:Int)=>decide (a=b)) x21.1 x21.2.2) (some false)) fun v25 =>
     b8 (some (!(v25))) fun v26 =>
     bif v26 then (
     b8 (some (O6 (fun (a b:Int)=>decide (a=b)) x21.1 true x21.2.2)) fun v27 =>
     b8 (L7 8 x21.2.1 [x21.1]) fun v28 =>
     b8 (orO (lkp (fun (a b:Int)=>decide (a=b)) x21.1 mp) (some (0:Int))) fun v29 =>
     k21 (v29,v28,v27))else K x21) (d,c,ah0 S)=G (P7 (fun d=>(lkp qI d mp).getD 0) (R7 D S+1) S d c):=by
 have hor:∀ d,orO (lkp (fun (a b:Int)=>decide (a=b)) d mp) (some (0:Int))=some ((lkp qI d mp).getD 0):=fun d=>by
  show orO (lkp qI d mp) _=_
  cases lkp qI d mp<;>rfl
 generalize hF:(fun (k21:Int×List Int×List (Int×Bool)->Option β) (x21:Int×List Int×List (Int×Bool)) =>
     b8 (orO (lkp (fun (a b:Int)=>decide (a=b)) x21.1 x21.2.2) (some false)) fun v25 =>
     b8 (some (!(v25))) fun v26 =>
     bif v26 then (
     b8 (some (O6 (fun (a b:Int)=>decide (a=b)) x21.1 true x21.2.2)) fun v27 =>
     b8 (L7 8 x21.2.1 [x21.1]) fun v28 =>
     b8 (orO (lkp (fun (a b:Int)=>decide (a=b)) x21.1 mp) (some (0:Int))) fun v29 =>
     k21 (v29,v28,v27))else K x21)=F
 have h0:∀ rec d c S,d∈S->F rec (d,c,ah0 S)=G (c,S):=fun rec d c S hs=>by
  rw[<- hF]
  simp only[es0,b9,hs,decide_true,Bool.not_true,cond_false]
  exact hK d c S
 have h1:∀ rec d c S,d∉S->c.length<=100000->F rec (d,c,ah0 S)=rec ((lkp qI d mp).getD 0,c++[d],ah0 (S++[d])):=fun rec d c S hs hc=>by
  rw[<- hF]
  have e:O6 (fun (a b:Int)=>decide (a=b)) d true (ah0 S)=ah0 (S++[d]):=js0 d S hs
  have e2:L7 8 c [d]=some (c++[d]):=B8 (by omega) (by simp;omega)
  simp only[es0,b9,hs,decide_false,Bool.not_false,cond_true,hor,e2,e]
 have key:∀ (n m:Nat) (S:List Int) (d:Int) (c:List Int),d∈D->c.length+R7 D S<=100000->R7 D S<n->n<=m->iter F m (d,c,ah0 S)=G (P7 (fun d=>(lkp qI d mp).getD 0) n S d c):=by
  intro n
  induction n with
  | zero=>intro m S d c _ _ h;omega
  | succ n ih =>
   intro m S d c hd hc hn hm
   cases m with
   | zero=>omega
   | succ m =>
    show F (iter F m) (d,c,ah0 S)=_
    by_cases hs:d∈S
    ·rw[h0 _ d c S hs]
     simp only[P7,hs,if_true]
    ·have hlt:=kl0 hd hs
     rw[h1 _ d c S hs (by omega)]
     simp only[P7,hs,if_false]
     exact ih m (S++[d]) _ (c++[d]) (hnx d hd) (by simp;omega) (by omega) (by omega)
 intro S d c hd hc
 have h2:R7 D S<=D.length:=List.length_filter_le _ _
 have h3:=nJ0
 have h4:R7 D S+1<=many:=Nat.le_trans (by omega) h3
 exact key (R7 D S+1) many S d c hd hc (Nat.lt_succ_self _) h4
end Go.Ab
namespace Go.Ab
open Go Go.Sort Go.Proofs Go.Shelf
def mz0(l:List Int)(m:List (Int×Int)):List (Int×Int):=l.foldl (fun m d=>O6 (fun (a b:Int)=>decide (a=b)) (-d) (fG0 l d) m) m
def ba0(L:List (List Int))(m:List (Int×Int)):List (Int×Int):=L.foldl (fun m l=>mz0 l m) m
theorem iW0(l:List Int)(D:List Int):∀ (r:List Int) (m:List (Int×Int)),(∀ d∈r,d∈l)->(∀ d∈l,d∈D)->(∀ k v,lkp qI k m=some v->v∈D) ->
  (∀ k v,lkp qI k (r.foldl (fun m d=>O6 (fun (a b:Int)=>decide (a=b)) (-d) (fG0 l d) m) m)=some v->v∈D)/\(∀ k,(lkp qI k m).isSome=true->(lkp qI k (r.foldl (fun m d=>O6 (fun (a b:Int)=>decide (a=b)) (-d) (fG0 l d) m) m)).isSome=true) /\
  ∀ d∈r,(lkp qI (-d) (r.foldl (fun m d=>O6 (fun (a b:Int)=>decide (a=b)) (-d) (fG0 l d) m) m)).isSome=true
 | [],m,_,_,hm=>⟨hm,fun _ h=>h,fun d hd=>by simp at hd⟩
 | x::r,m,hr,hl,hm=>by
  have hx:=hr x (by simp)
  have hp:∀ k v,lkp qI k (O6 qI (-x) (fG0 l x) m)=some v->v∈D:=fun k v h=>by
   rw[Q8]at h
   split at h
   ·cases h;exact hl _ (rg0 hx)
   ·exact hm k v h
  obtain⟨h1,h2,h3⟩:=iW0 l D r (O6 qI (-x) (fG0 l x) m) (fun d hd=>hr d (by simp[hd])) hl hp
  refine⟨h1,fun k hk=>h2 k ?_,fun d hd=>?_⟩
  ·rw[Q8];split
   ·rfl
   ·exact hk
  ·rcases List.mem_cons.1 hd with rfl | hd
   ·exact h2 _ (by rw[Q8,if_pos rfl];rfl)
   ·exact h3 d hd
theorem iJ0(D:List Int):∀ (L:List (List Int)) (m:List (Int×Int)),(∀ l∈L,∀ d∈l,d∈D)->(∀ k v,lkp qI k m=some v->v∈D) ->
  (∀ k v,lkp qI k (ba0 L m)=some v->v∈D)/\(∀ k,(lkp qI k m).isSome=true->(lkp qI k (ba0 L m)).isSome=true)/\∀ l∈L,∀ d∈l,(lkp qI (-d) (ba0 L m)).isSome=true
 | [],m,_,hm=>⟨hm,fun _ h=>h,fun l hl=>by simp at hl⟩
 | l::L,m,hL,hm=>by
  obtain⟨a1,a2,a3⟩:=iW0 l D l m (fun _ h=>h) (hL l (by simp)) hm
  obtain⟨b1,b2,b3⟩:=iJ0 D L (mz0 l m) (fun x hx=>hL x (by simp[hx])) a1
  refine⟨b1,fun k hk=>b2 k (a2 k hk),fun x hx d hd=>?_⟩
  rcases List.mem_cons.1 hx with rfl | hx
  ·exact b2 _ (a3 d hd)
  ·exact b3 x hx d hd
def T0(nx:Int->Int)(D:List Int):List Int->List Int->List (List Int)->List (List Int)
 | [],_,acc=>acc
 | d::ds,S,acc=>if d∈S then T0 nx D ds S acc else
   let r:=P7 nx (R7 D S+1) S d []
   T0 nx D ds r.2 (acc++[r.1])
namespace O7
variable {ns:List Nd} {ars:List Ar} {fs:List Int} (h:O7 ns ars fs)
def around(ns:List Nd)(ars:List Ar):List (List Int):=ns.map (aroundL ns ars)
def dartsL(ns:List Nd)(ars:List Ar):List Int:=(around ns ars).flatten
include h
theorem around_perm{n:Nd}(hn:n∈ns):(aroundL ns ars n).Perm ((N0 ns ars n.1 ars).map (·.1)):=O8 (h.cmpA_ordered (h.nodeOf_self hn) hn)
theorem around_len{n:Nd}(hn:n∈ns):(aroundL ns ars n).length<=512:=by
 rw[(h.around_perm hn).length_eq,List.length_map]
 have:=lU0 (ns:=ns) (ars:=ars) n.1 ars
 have:=h.lenA
 omega
theorem mem_darts{d:Int}:d∈dartsL ns ars↔∃ a∈ars,d=a.1\/d=-a.1:=by
 unfold dartsL around
 constructor
 ·intro hd
  obtain⟨l,hl,hd⟩:=List.mem_flatten.1 hd
  obtain⟨n,hn,rfl⟩:=List.mem_map.1 hl
  rw[(h.around_perm hn).mem_iff]at hd
  obtain⟨p,hp,rfl⟩:=List.mem_map.1 hd
  obtain⟨a,ha,q,_,hc⟩:=h.raw_mem (fun _ ha=>ha) hp
  rcases hc with ⟨_,rfl⟩ | ⟨_,rfl⟩
  ·exact⟨a,ha,.inl rfl⟩
  ·exact⟨a,ha,.inr rfl⟩
 ·rintro ⟨a,ha,hd⟩
  obtain⟨f,t,h1,h2,h3,_⟩:=h.path ha
  have mk:∀ (n:Nd),n∈ns->d∈(gb0 ns ars n.1 a).map (·.1)->d∈((ns.map (aroundL ns ars)).flatten):=fun n hn hdd=>by
   refine List.mem_flatten.2 ⟨_,List.mem_map_of_mem hn,?_⟩
   rw[(h.around_perm hn).mem_iff]
   obtain⟨p,hp,e⟩:=List.mem_map.1 hdd
   exact e▸List.mem_map_of_mem (List.mem_flatMap.2 ⟨a,ha,hp⟩)
  have hf1:f.1=a.2.1:=by have:=List.find?_some h1;simpa using this
  have ht1:t.1=a.2.2.1:=by have:=List.find?_some h2;simpa using this
  rcases hd with rfl | rfl
  ·refine mk f (List.mem_of_find?_eq_some h1) ?_
   unfold gb0
   rw[h3]
   simp[hf1]
  ·refine mk t (List.mem_of_find?_eq_some h2) ?_
   unfold gb0
   rw[h3]
   simp[ht1]
theorem neg_darts{d:Int}(hd:d∈dartsL ns ars):-d∈dartsL ns ars:=by
 rw[h.mem_darts]at hd ⊢
 obtain⟨a,ha,rfl | rfl⟩:=hd
 ·exact⟨a,ha,.inr rfl⟩
 ·exact⟨a,ha,.inl (by omega)⟩
theorem darts_len:(dartsL ns ars).length<=512:=by
 have key:∀ l:List Nd,(∀ n∈l,n∈ns)->((l.map (aroundL ns ars)).flatten).length<=(l.map fun n=>(N0 ns ars n.1 ars).length).sum:=by
  intro l
  induction l with
  | nil=>intro _;simp
  | cons n l ih =>
   intro hl
   have:=ih (fun x hx=>hl x (by simp[hx]))
   have e:=(h.around_perm (hl n (by simp))).length_eq
   rw[List.length_map]at e
   simp only[List.map_cons,List.flatten_cons,List.length_append,List.sum_cons,e]
   omega
 have k1:=key ns (fun _ hn=>hn)

 have key2:∀ l:List Nd,(l.map (·.1)).Pairwise (·<·)->∀ as':List Ar,(l.map fun n=>(N0 ns ars n.1 as').length).sum<=2*as'.length:=by
  intro l hp as'
  induction as' with
  | nil =>
   have:(l.map fun n=>(N0 ns ars n.1 []).length).sum=0:=by
    clear hp
    induction l with
    | nil=>rfl
    | cons n l ih=>simp only[List.map_cons,List.sum_cons,ih];rfl
   omega
  | cons a as' ih =>
   have e:∀ n:Nd,(N0 ns ars n.1 (a::as')).length=(gb0 ns ars n.1 a).length+(N0 ns ars n.1 as').length:=fun n=>by
    have e:N0 ns ars n.1 (a::as')=gb0 ns ars n.1 a++N0 ns ars n.1 as':=rfl
    rw[e,List.length_append]
   have e2:(l.map fun n=>(N0 ns ars n.1 (a::as')).length).sum=(l.map fun n=>(gb0 ns ars n.1 a).length).sum+(l.map fun n=>(N0 ns ars n.1 as').length).sum:=by
    simp only[e]
    clear ih hp
    induction l with
    | nil=>rfl
    | cons n l ih=>simp only[List.map_cons,List.sum_cons,ih];omega
   have e3:(l.map fun n=>(gb0 ns ars n.1 a).length).sum<=2:=by
    have hle:∀ n:Nd,(gb0 ns ars n.1 a).length<=(if a.2.1=n.1 then 1 else 0)+(if a.2.2.1=n.1 then 1 else 0):=fun n=>by
     unfold gb0
     split
     ·simp
     ·by_cases h1:a.2.1=n.1<;>by_cases h2:a.2.2.1=n.1<;>simp[h1,h2]
    have cnt:∀ (x:Int) (l:List Nd),(l.map (·.1)).Pairwise (·<·)->(l.map fun n=>if x=n.1 then 1 else 0).sum<=1:=by
     intro x l
     induction l with
     | nil=>intro _;simp
     | cons n l ih =>
      intro hp
      simp only[List.map_cons,List.pairwise_cons]at hp
      simp only[List.map_cons,List.sum_cons]
      by_cases hx:x=n.1
      ·have:(l.map fun n=>if x=n.1 then 1 else 0).sum=0:=by
        have hall:∀ m∈l,(if x=m.1 then 1 else 0)=0:=fun m hm=>by
         have:=hp.1 m.1 (List.mem_map_of_mem hm)
         rw[if_neg (by omega)]
        clear ih hp
        induction l with
        | nil=>rfl
        | cons m l ih2=>simp only[List.map_cons,List.sum_cons,hall m (by simp),ih2 (fun y hy=>hall y (by simp[hy]))]
       simp[hx];rw[<- hx];omega
      ·have:=ih hp.2
       simp[hx];exact this
    have c1:=cnt a.2.1 l hp
    have c2:=cnt a.2.2.1 l hp
    have:(l.map fun n=>(gb0 ns ars n.1 a).length).sum<=(l.map fun n=>if a.2.1=n.1 then 1 else 0).sum+(l.map fun n=>if a.2.2.1=n.1 then 1 else 0).sum:=by
     clear ih c1 c2 e2 hp
     induction l with
     | nil=>simp
     | cons n l ih=>simp only[List.map_cons,List.sum_cons];have:=hle n;omega
    omega
   rw[e2,List.length_cons]
   omega
 have k2:=key2 ns (I9 h.ascN) ars
 have:=h.lenA
 show ((ns.map (aroundL ns ars)).flatten).length<=_
 omega
def nextM(ns:List Nd)(ars:List Ar):List (Int×Int):=ba0 (around ns ars) []
def nextD(ns:List Nd)(ars:List Ar)(d:Int):Int:=(lkp qI d (nextM ns ars)).getD 0
theorem next_mem{d:Int}(hd:d∈dartsL ns ars):nextD ns ars d∈dartsL ns ars:=by
 obtain⟨h1,_,h3⟩:=iJ0 (dartsL ns ars) (around ns ars) [] (fun l hl d hd=>List.mem_flatten.2 ⟨l,hl,hd⟩) (fun k v hv=>by simp[lkp]at hv)
 obtain⟨l,hl,hdl⟩:=List.mem_flatten.1 (h.neg_darts hd)
 have h4:=h3 l hl _ hdl
 rw[Int.neg_neg]at h4
 unfold nextD nextM
 cases hv:lkp qI d (ba0 (around ns ars) [])with
 | none=>rw[hv]at h4;cases h4
 | some v=>exact h1 d v hv
def cyclesOf(ns:List Nd)(ars:List Ar):List (List Int):=T0 (nextD ns ars) (dartsL ns ars) ((dartsL ns ars).mergeSort fun a b=>decide (a<=b)) [] []
omit h in
theorem bQ0{α β:Type}{l rest:List α}{i:Nat}{x:α}(f:α->β)(hd:l.drop i=x::rest):(l.take (i+1)).map f=(l.take i).map f++[f x]:=by
 rw[List.take_add_one]
 have:l[i]?=some x:=by rw[<- C8];exact l8 hd
 rw[this]
 simp
theorem Cycles_eq:O0 (ns,ars,fs)=some (cyclesOf ns ars,0):=by
 have hN:=h.lenN
 have hcode:L5 ns ars fs=0:=W1.2 h
 have hD:=h.darts_len
 unfold O0
 simp only[dS0,hcode,b9,decide_true,Bool.not_true,cond_false]
 refine(l9 (A:=List Int×List (Int×Int)) ns (fun i a=>(a.1,(i:Int),a.2)) (fun _ _=>some (cyclesOf ns ars,0)) (fun i a=>a.1=((ns.take i).map (aroundL ns ars)).flatten/\a.2=ba0 ((ns.take i).map (aroundL ns ars)) []/\a.1.length<=512*i) (by omega) ?_ ?_ ([],[]) ⟨by simp,by simp[ba0],by simp⟩)
 ·intro rec a hI
  obtain⟨h1,h2,h3⟩:=hI
  rw[List.take_length]at h1 h2
  have e1:a.1=dartsL ns ars:=h1
  have e2:a.2=nextM ns ars:=h2
  have es:slices_Sort_int (dartsL ns ars,1)=some ((dartsL ns ars).mergeSort fun a b=>decide (a<=b)):=by
   unfold slices_Sort_int
   have:decide ((dartsL ns ars).length<4611686018427387904)=true:=by simp only[decide_eq_true_eq];omega
   simp[this]
  simp only[y4,cond_false,e1,e2,es,b9]
  have hperm:=List.mergeSort_perm (dartsL ns ars) (fun a b=>decide (a<=b))
  unfold cyclesOf
  generalize hL:(dartsL ns ars).mergeSort (fun a b=>decide (a<=b))=L at hperm
  have hll:L.length<=100000-10:=by rw[hperm.length_eq];omega
  have hLm:∀ d∈L,d∈dartsL ns ars:=fun d hd=>hperm.mem_iff.1 hd
  refine(l9 (A:=List (List Int)×List Int) L (fun i b=>((i:Int),b.1,ah0 b.2)) (fun b rest=>some (T0 (nextD ns ars) (dartsL ns ars) rest b.2 b.1,0)) (fun i b=>b.1.length<=i) (by omega) ?_ ?_ ([],[]) (by simp)).trans rfl
  ·intro rec b hb
   simp[T0]
  ·intro rec i b x rest hi hb hd hr
   have hx:L[i]?=some x:=by rw[<- C8];exact l8 hd
   have hinb:(bif decide ((0:Int)<=(i:Int))&&decide ((i:Int)<(L.length:Int))then some ()else none)=some ():=by
    have e1:decide ((0:Int)<=(i:Int))=true:=by simp only[decide_eq_true_eq];omega
    rw[e1,y0 hi];rfl
   simp only[y0 hi,cond_true,hinb,b9,Int.toNat_natCast,hx,Option.map_some,es0,r7 hi (show L.length<2^62 by omega)]
   by_cases hs:x∈b.2
   ·simp only[hs,decide_true,Bool.not_true,cond_false]
    have:=hr (b.1,b.2) (by show b.1.length<=i+1;omega)
    refine this.trans ?_
    simp[T0,hs]
   ·simp only[hs,decide_false,Bool.not_false,cond_true]
    have hun:R7 (dartsL ns ars) b.2<=(dartsL ns ars).length:=List.length_filter_le _ _
    have hfl:=pz0 (nextM ns ars) (dartsL ns ars) (by omega) (fun d hd=>h.next_mem hd) (fun x21=>b8 (L7 24 b.1 [x21.2.1]) fun v27=>rec (((i+1:Nat):Int),v27,x21.2.2)) (fun r=>some (T0 (nextD ns ars) (dartsL ns ars) rest r.2 (b.1++[r.1]),0)) (fun d c S=>by
     have:L7 24 b.1 [c]=some (b.1++[c]):=B8 (by omega) (by simp;omega)
     show b8 (L7 24 b.1 [c]) _=_
     rw[this]
     exact hr (b.1++[c],S) (by show (b.1++[c]).length<=i+1;simp;omega)) b.2 x [] (hLm x (J7 hd).2.2) (by simp;omega)
    simp only[b9]at hfl
    refine hfl.trans ?_
    simp only[T0,hs,if_false]
    rfl
 ·intro rec i a x rest hi hI hd hr
  obtain⟨h1,h2,h3⟩:=hI
  have hx:=(J7 hd).2.2
  have hal:=h.around_len hx
  have hAr:W4 ((ns,ars,fs),x.1)=some (aroundL ns ars x):=by rw[h.Around_eq,h.nodeOf_self hx]
  simp only[y0 hi,cond_true,l8 hd,b9,r7 hi (show ns.length<2^62 by omega),hAr]
  have hk:512*i<=512*256:=Nat.mul_le_mul_left _ (by omega)
  refine(l9 (A:=List Int×List (Int×Int)) (aroundL ns ars x) (fun j b=>(b.1,(j:Int),b.2)) (fun _ _=>some (cyclesOf ns ars,0)) (fun j b=>b.1=a.1++(aroundL ns ars x).take j/\b.2=((aroundL ns ars x).take j).foldl (fun m d=>O6 (fun (a b:Int)=>decide (a=b)) (-d) (fG0 (aroundL ns ars x) d) m) a.2) (by omega) ?_ ?_ a ⟨by simp,by simp⟩)
  ·intro rec2 b hb
   obtain⟨g1,g2⟩:=hb
   rw[List.take_length]at g1 g2
   simp only[y4,cond_false]
   refine hr (b.1,b.2) ⟨?_,?_,?_⟩
   ·rw[bQ0 _ hd,List.flatten_append,<-h1]
    simp[g1]
   ·rw[bQ0 _ hd]
    show b.2=ba0 ((ns.take i).map (aroundL ns ars)++[aroundL ns ars x]) []
    unfold ba0
    rw[List.foldl_append]
    show b.2=mz0 (aroundL ns ars x) (ba0 ((ns.take i).map (aroundL ns ars)) [])
    rw[<- h2,g2]
    rfl
   ·show b.1.length<=512*(i+1)
    rw[g1,List.length_append];omega
  ·intro rec2 j b y r2 hj hb hdj hrj
   obtain⟨g1,g2⟩:=hb
   have hy:=(J7 hdj).2.2
   have hynum:1<=y/\y<=1073741824\/-1073741824<=y/\y<=-1:=by
    have:y∈dartsL ns ars:=List.mem_flatten.2 ⟨_,List.mem_map_of_mem hx,hy⟩
    rw[h.mem_darts]at this
    obtain⟨a',ha',e | e⟩:=this<;>have:=h.num ha'<;>omega
   have hneg:IntKind.i64.wrap (0-y)=-y:=by rw[w64 (by omega) (by omega)];omega
   have hbl:b.1.length<=512*i+j:=by rw[g1,List.length_append,List.length_take];omega
   have hpr:M5 (aroundL ns ars x,y)=some (fG0 (aroundL ns ars x) y):=wz0 _ _ (by omega)
   simp only[y0 hj,cond_true,l8 hdj,b9,r7 hj (show (aroundL ns ars x).length<2^62 by omega),hneg,hpr]
   rw[B8 (by omega) (by simp;omega)]
   simp only[b9]
   have htk:(aroundL ns ars x).take (j+1)=(aroundL ns ars x).take j++[y]:=by
    have:=bQ0 (fun z:Int=>z) hdj
    simpa using this
   refine hrj (b.1++[y],_) ⟨?_,?_⟩
   ·rw[htk,g1,List.append_assoc]
   ·rw[htk,List.foldl_append,<-g2];rfl
end O7
theorem hP0{ns:List Nd}{ars:List Ar}{fs:List Int}(h:L5 ns ars fs≠0):O0 (ns,ars,fs)=some ([],L5 ns ars fs):=by
 unfold O0
 simp only[dS0,b9,h,decide_false,Bool.not_false,cond_true]
end Go.Ab
namespace Go.Ab
open Go Go.Sort Go.Proofs Go.Shelf
abbrev V0:=Int×List Int×List (List Int)×List Int
def ao0(ns:List Nd)(ars:List Ar)(l:List Ar)(m:List (Int×List Pt)):List (Int×List Pt):=l.foldl (fun m a=>match pathOf ns ars a.1 with | some p=>O6 (fun (a b:Int)=>decide (a=b)) a.1 p m | none=>m) m
def D1(ns:List Nd)(ars:List Ar):List (Int×List Pt):=ao0 ns ars ars []
def lJ0(d:Int):Prop:=-9223372036854775808<d/\d<=9223372036854775807
def kJ0(d:Int):Int:=max d (-d)
def ac0(ars:List Ar)(d:Int):Int:=if d=0 then 0 else match bK0 ars (kJ0 d)with
 | some a=>if 0<d then a.2.2.2.2.1 else a.2.2.2.2.2
 | none=>0
def cF0(a:V0):List (List Int):=a.2.1::a.2.2.1
def L1(ars:List Ar)(k:Nat):Bool->List V0->List Int->List Int->List Int×Bool
 | _,[],seen,out=>(out,decide ((seen.length:Int)=(k:Int)))
 | true,a::r,seen,out=>bif (cF0 a).all (fun c=>c.all fun d=>decide (ac0 ars d=0))then L1 ars k false r seen (out++[0])else ([],false)
 | false,a::r,seen,out =>
  let f:=ac0 ars (a.2.1.headD 0)
  bif decide (f=0)||decide (f∈seen)then ([],false)else bif (cF0 a).all (fun c=>c.all fun d=>decide (ac0 ars d=f))then L1 ars k false r (seen++[f]) (out++[f])else ([],false)
namespace O7
variable {ns:List Nd} {ars:List Ar} {fs:List Int} (h:O7 ns ars fs)
include h
theorem pathsOf_eq:M8 (ns,ars,fs)=some (D1 ns ars):=by
 have hlen:=h.lenA
 unfold M8 D1
 simp only[b9,h.Path_eq]
 refine(p8 (A:=List (Int×List Pt)) ars (fun i m=>((i:Int),m)) (fun m rest=>some (ao0 ns ars rest m)) (by omega) ?_ ?_ []).trans rfl
 ·intro rec m
  simp[ao0]
 ·intro rec i m x rest hi hd hr
  simp only[y0 hi,cond_true,l8 hd,b9,r7 hi (show ars.length<2^62 by omega)]
  cases hp:pathOf ns ars x.1 with
  | none =>
   have:decide ((7:Int)=0)=false:=by decide
   simp only[this,cond_false]
   rw[hr]
   simp[ao0,hp]
  | some p =>
   simp only[decide_true,cond_true]
   rw[hr]
   simp[ao0,hp]
theorem pathsGo_look:∀ (l:List Ar) (m:List (Int×List Pt)),(∀ a∈l,a∈ars)->(l.map (·.1)).Pairwise (·<·)->∀ a∈l,lkp qI a.1 (ao0 ns ars l m)=pathOf ns ars a.1
 | [],m,_,_,a,ha=>by simp at ha
 | b::l,m,hm,hp,a,ha=>by
  simp only[List.map_cons,List.pairwise_cons]at hp
  obtain⟨f,t,_,_,hpb,_⟩:=h.path (hm b (by simp))
  have e:ao0 ns ars (b::l) m=ao0 ns ars l (O6 qI b.1 ((f.2.1,f.2.2)::(b.2.2.2.1++[(t.2.1,t.2.2)])) m):=by
   show List.foldl _ _ _=_
   rw[List.foldl_cons,hpb]
   rfl
  have keep:∀ (l:List Ar) (m:List (Int×List Pt)) (k:Int),(∀ a∈l,a.1≠k)->lkp qI k (ao0 ns ars l m)=lkp qI k m:=by
   intro l
   induction l with
   | nil=>intro m k _;rfl
   | cons x l ih =>
    intro m k hk
    show lkp qI k (ao0 ns ars l _)=_
    rw[ih _ k (fun a ha=>hk a (by simp[ha]))]
    cases hx:pathOf ns ars x.1 with
    | none=>simp only[hx]
    | some p =>
     simp only[hx]
     have:=Q8 k x.1 p m
     rw[if_neg (fun e=>hk x (by simp) e.symm)]at this
     exact this
  rw[e]
  rcases List.mem_cons.1 ha with rfl | ha
  ·rw[keep l _ a.1 (fun x hx=>by have:=hp.1 x.1 (List.mem_map_of_mem hx);omega),Q8,if_pos rfl,hpb]
  ·exact pathsGo_look l _ (fun x hx=>hm x (by simp[hx])) hp.2 a ha
theorem pathsM_look{a:Ar}(ha:a∈ars):lkp qI a.1 (D1 ns ars)=pathOf ns ars a.1:=h.pathsGo_look ars [] (fun _ h=>h) (I9 h.ascA) a ha
theorem arcOfD_eq{d:Int}(hd:lJ0 d):aj0 ((ns,ars,fs),d)=some (if d=0 then ((0,0,0,[],0,0),false)else match bK0 ars (kJ0 d)with | some a=>(a,true) | none=>((0,0,0,[],0,0),false)):=by
 unfold aj0
 obtain⟨h1,h2⟩:=hd
 simp only[b9]
 by_cases h0:d=0
 ·simp[h0]
 ·have h3:decide (d=-9223372036854775808)=false:=by simp only[decide_eq_false_iff_not];omega
  have e1:IntKind.i64.wrap (0-d)=-d:=by rw[w64 (by omega) (by omega)];omega
  simp only[h0,decide_false,cond_false,h3,e1,gQ0,h.Arc_eq,b9,if_false]
  have e2:kJ0 d=max d (-d):=rfl
  rw[e2]
  all_goals cases bK0 ars (max d (-d))with
  | none=>rfl
  | some a=>rfl
theorem Side_eq{d:Int}(hd:lJ0 d):Y7 ((ns,ars,fs),d)=some (ac0 ars d):=by
 unfold Y7 ac0
 simp only[h.arcOfD_eq hd,b9]
 by_cases h0:d=0
 ·simp[h0]
 ·simp only[h0,if_false]
  cases bK0 ars (kJ0 d)with
  | none=>simp
  | some a =>
   simp only[Bool.not_true,cond_false]
   by_cases h1:0<d<;>simp[h1]
theorem cycles_eq{a:V0}(ha:a.2.2.1.length<=1000000):D7 a=some (cF0 a):=by
 unfold D7 cF0
 have:L7 24 [a.2.1] a.2.2.1=some ([a.2.1]++a.2.2.1):=B8 (by omega) (by simp;omega)
 simp only[this,b9]
 rfl
theorem sidesLoop{β:Type}(f:Int)(cs:List (List Int))(hcs:∀ c∈cs,(∀ d∈c,lJ0 d)/\c.length<2^62)(hl:cs.length<2^62)(K:Option β)(bad:Option β) :
  rounds (α:=Int) (β:=β) (fun k22 x22 =>
    b8 (some (decide (x22<(cs.length:Int)))) fun v24 =>
    bif v24 then (
     b8 (nth cs x22) fun v25 =>
     b8 (some ((v25).length:Int)) fun v26 =>
     rounds (α:=Int) (β:=β) (fun k27 x27 =>
     b8 (some (decide (x27<v26))) fun v29 =>
     bif v29 then (
      b8 (nth v25 x27) fun v30 =>
      b8 (Y7 ((ns,ars,fs),v30)) fun v31 =>
      b8 (some (!decide (v31=f))) fun v32 =>
      bif v32 then bad else (
      b8 (some (IntKind.i64.wrap (x27+(1:Int)))) fun v33 =>
      k27 v33))else (
      b8 (some (IntKind.i64.wrap (x22+(1:Int)))) fun v30 =>
      k22 v30)) (0:Int))else K) (0:Int)=bif cs.all (fun c=>c.all fun d=>decide (ac0 ars d=f))then K else bad:=by
 simp only[b9]
 refine(p8 (A:=Unit) cs (fun i _=>(i:Int)) (fun _ rest=>bif rest.all (fun c=>c.all fun d=>decide (ac0 ars d=f))then K else bad) (by omega) ?_ ?_ ()).trans rfl
 ·intro rec u;simp
 ·intro rec i u x rest hi hd hr
  obtain⟨hx1,hx2⟩:=hcs x (J7 hd).2.2
  simp only[y0 hi,cond_true,l8 hd,b9,r7 hi hl]
  rw[hr (),List.all_cons]
  refine(p8 (A:=Unit) x (fun i _=>(i:Int)) (fun _ r2=>bif r2.all (fun d=>decide (ac0 ars d=f))then (bif rest.all (fun c=>c.all fun d=>decide (ac0 ars d=f))then K else bad)else bad) (by omega) ?_ ?_ ()).trans ?_
  ·intro rec2 u;simp
  ·intro rec2 j u y r2 hj hdj hrj
   have hy:=hx1 y (J7 hdj).2.2
   simp only[y0 hj,cond_true,l8 hdj,b9,r7 hj hx2,h.Side_eq hy]
   rw[hrj (),List.all_cons]
   cases decide (ac0 ars y=f)<;>simp
  ·cases x.all (fun d=>decide (ac0 ars d=f))<;>simp
structure AreaOk(a:V0):Prop where
 outer:(∀ d∈a.2.1,lJ0 d)/\a.2.1.length<=1000000
 inner:∀ c∈a.2.2.1,(∀ d∈c,lJ0 d)/\c.length<=1000000
 few:a.2.2.1.length<=1000000
theorem faces_eq{l:List V0}(hl:l.length<=1000000)(hok:∀ a∈l,AreaOk a)(hne:∀ a∈l.tail,a.2.1≠[]):S6 ((ns,ars,fs),l)=some (L1 ars fs.length true l [] []):=by
 have hF:=h.lenF
 have sl:=fun (f:Int) (cs:List (List Int)) h1 h2 K bad=>h.sidesLoop (β:=List Int×Bool) f cs h1 h2 K bad
 simp only[b9]at sl
 unfold S6
 simp only[b9]
 refine(l9 (A:=List Int×List Int) l (fun i a=>(a.2,(i:Int),ah0 a.1)) (fun a rest=>some (L1 ars fs.length (decide (rest.length=l.length)) rest a.1 a.2)) (fun i a=>a.2.length<=i) (by omega) ?_ ?_ ([],[]) (by simp)).trans (by simp)
 ·intro rec a hI
  have e:((ah0 a.1).length:Int)=(a.1.length:Int):=by simp[ah0]
  simp only[y4,cond_false,L1,e]
 ·intro rec i a x rest hi hI hd hr
  have hdl:=J7 hd
  have hx:=hok x hdl.2.2
  have hcy:D7 (x.1,x.2.1,x.2.2.1,x.2.2.2)=some (cF0 x):=h.cycles_eq hx.few
  have hcs:∀ c∈cF0 x,(∀ d∈c,lJ0 d)/\c.length<2^62:=fun c hc=>by
   rcases List.mem_cons.1 hc with rfl | hc
   ·exact⟨hx.outer.1,by have:=hx.outer.2;omega⟩
   ·exact⟨(hx.inner c hc).1,by have:=(hx.inner c hc).2;omega⟩
  have hcl:(cF0 x).length<2^62:=by have:=hx.few;simp only[cF0,List.length_cons];omega
  simp only[y0 hi,cond_true,l8 hd,b9,r7 hi (show l.length<2^62 by omega),hcy]
  have er:decide (rest.length=l.length)=false:=by simp only[decide_eq_false_iff_not];omega
  have hcat:∀ f:Int,L7 8 a.2 [f]=some (a.2++[f]):=fun f=>B8 (by omega) (by simp;omega)
  by_cases h0:i=0
  ·subst h0
   have e0:decide ((x::rest).length=l.length)=true:=by simp only[List.length_cons,decide_eq_true_eq];omega
   have e1:decide ((0:Int)<((0:Nat):Int))=false:=by decide
   simp only[e1,cond_false,e0]
   refine(sl 0 (cF0 x) hcs hcl _ _).trans ?_
   simp only[hcat,b9,L1]
   have hI0:(a.2++[(0:Int)]).length<=0+1:=by rw[List.length_append];simp only[List.length_singleton];omega
   have:=hr (a.1,a.2++[0]) hI0
   rw[er]at this
   rw[this]
   cases (cF0 x).all (fun c=>c.all fun d=>decide (ac0 ars d=0))<;>simp
  ·have e0:decide ((x::rest).length=l.length)=false:=by simp only[List.length_cons,decide_eq_false_iff_not];omega
   have e1:decide ((0:Int)<(i:Int))=true:=by simp only[decide_eq_true_eq];omega
   have hxt:x∈l.tail:=by
    have:x∈l.drop 1:=by
     have hm:x∈l.drop i:=by rw[hd];simp
     have:l.drop i=(l.drop 1).drop (i-1):=by rw[List.drop_drop,show 1+(i-1)=i by omega]
     rw[this]at hm
     exact List.mem_of_mem_drop hm
    simpa using this
   obtain⟨d0,r0,hx0⟩:∃ d0 r0,x.2.1=d0::r0:=by
    cases hc:x.2.1 with
    | nil=>exact absurd hc (hne x hxt)
    | cons d0 r0=>exact⟨d0,r0,rfl⟩
   have hn0:nth x.2.1 (0:Int)=some d0:=by have:=C8 x.2.1 0;rw[hx0]at this ⊢;exact this
   have hd0:lJ0 d0:=hx.outer.1 d0 (by rw[hx0];simp)
   have hh:x.2.1.headD 0=d0:=by rw[hx0];rfl
   simp only[e1,cond_true,e0,hn0,b9,h.Side_eq hd0,es0,L1,hh]
   by_cases hz:ac0 ars d0=0
   ·simp[hz]
   ·simp only[hz,decide_false,cond_false,Bool.false_or]
    by_cases hs:ac0 ars d0∈a.1
    ·simp[hs]
    ·have e4:O6 (fun (a b:Int)=>decide (a=b)) (ac0 ars d0) true (ah0 a.1)=ah0 (a.1++[ac0 ars d0]):=js0 _ _ hs
     simp only[hs,decide_false,cond_false,e4]
     refine(sl (ac0 ars d0) (cF0 x) hcs hcl _ _).trans ?_
     simp only[hcat,b9]
     have:=hr (a.1++[ac0 ars d0],a.2++[ac0 ars d0]) (by simp;omega)
     rw[er]at this
     rw[this]
     cases (cF0 x).all (fun c=>c.all fun d=>decide (ac0 ars d=ac0 ars d0))<;>simp
end O7
end Go.Ab
namespace Go.Ab
open Go Go.Sort Go.Proofs Go.Shelf
def stepE(at':Pt)(st:Bool×Bool)(a b:Pt):Bool×Bool :=
 bif onP a b at' then (st.1,true)else
 bif (decide (a.2<=at'.2)&&(decide (at'.2<b.2)&&decide (0<P5 a b at')))||(decide (b.2<=at'.2)&&(decide (at'.2<a.2)&&decide (P5 a b at'<0)))then (!st.1,st.2)else st
def ln0(at':Pt):Pt->List Pt->Bool×Bool->Bool×Bool
 | _,[],st=>st
 | p,q::r,st=>ln0 at' q r (stepE at' st p q)
def pathE(at':Pt)(l:List Pt)(st:Bool×Bool):Bool×Bool:=match l with
 | []=>st
 | p::r=>ln0 at' p r st
def ml0(m:List (Int×List Pt))(at':Pt):List Int->Bool×Bool->Bool×Bool
 | [],st=>st
 | d::r,st=>ml0 m at' r (pathE at' ((lkp qI (kJ0 d) m).getD []) st)
def encl(m:List (Int×List Pt))(cyc:List Int)(at':Pt):Bool:=bif (ml0 m at' cyc (false,false)).1 then !(ml0 m at' cyc (false,false)).2 else false
theorem pk0{β:Type}(at':Pt)(p0:Pt)(l:List Pt)(hl:l.length<=1000000)(K:Bool×Bool->Option β)(st:Bool×Bool) :
  rounds (α:=Int×Bool×Bool) (β:=β) (fun k14 x14 =>
   bif (decide (x14.1<((p0::l).length:Int)))then (
   b8 (nth (p0::l) (IntKind.i64.wrap (x14.1-(1:Int)))) fun v21 =>
   b8 (nth (p0::l) x14.1) fun v23 =>
   b8 (A5 ((v21.1,v21.2),(v23.1,v23.2),(at'.1,at'.2))) fun v25 =>
   bif v25 then (
    k14 (IntKind.i64.wrap (x14.1+(1:Int)),x14.2.1,true))else (
    bif (decide (v21.2<=at'.2))then (
    bif (decide (at'.2<v23.2))then (
     b8 (A7 ((v21.1,v21.2),(v23.1,v23.2),(at'.1,at'.2))) fun v28 =>
     bif (decide ((0:Int)<v28))then (
     k14 (IntKind.i64.wrap (x14.1+(1:Int)),!(x14.2.1),x14.2.2))else (
     bif (decide (v23.2<=at'.2))then (
      bif (decide (at'.2<v21.2))then (
      b8 (A7 ((v21.1,v21.2),(v23.1,v23.2),(at'.1,at'.2))) fun v32 =>
      bif (decide (v32<(0:Int)))then (
       k14 (IntKind.i64.wrap (x14.1+(1:Int)),!(x14.2.1),x14.2.2))else (
       k14 (IntKind.i64.wrap (x14.1+(1:Int)),x14.2.1,x14.2.2)))else (
      k14 (IntKind.i64.wrap (x14.1+(1:Int)),x14.2.1,x14.2.2)))else (
      k14 (IntKind.i64.wrap (x14.1+(1:Int)),x14.2.1,x14.2.2))))else (
     bif (decide (v23.2<=at'.2))then (
     bif (decide (at'.2<v21.2))then (
      b8 (A7 ((v21.1,v21.2),(v23.1,v23.2),(at'.1,at'.2))) fun v30 =>
      bif (decide (v30<(0:Int)))then (
      k14 (IntKind.i64.wrap (x14.1+(1:Int)),!(x14.2.1),x14.2.2))else (
      k14 (IntKind.i64.wrap (x14.1+(1:Int)),x14.2.1,x14.2.2)))else (
      k14 (IntKind.i64.wrap (x14.1+(1:Int)),x14.2.1,x14.2.2)))else (
     k14 (IntKind.i64.wrap (x14.1+(1:Int)),x14.2.1,x14.2.2))))else (
    bif (decide (v23.2<=at'.2))then (
     bif (decide (at'.2<v21.2))then (
     b8 (A7 ((v21.1,v21.2),(v23.1,v23.2),(at'.1,at'.2))) fun v29 =>
     bif (decide (v29<(0:Int)))then (
      k14 (IntKind.i64.wrap (x14.1+(1:Int)),!(x14.2.1),x14.2.2))else (
      k14 (IntKind.i64.wrap (x14.1+(1:Int)),x14.2.1,x14.2.2)))else (
     k14 (IntKind.i64.wrap (x14.1+(1:Int)),x14.2.1,x14.2.2)))else (
     k14 (IntKind.i64.wrap (x14.1+(1:Int)),x14.2.1,x14.2.2)))))else (
   K x14.2)) ((1:Int),st)=K (ln0 at' p0 l st):=by
 refine(l9 (A:=Pt×Bool×Bool) l (fun i a=>(((i+1:Nat):Int),a.2)) (fun a rest=>K (ln0 at' a.1 rest a.2)) (fun i a=>(p0::l)[i]?=some a.1) (by omega) ?_ ?_ (p0,st) rfl)
 ·intro rec a hI
  have e:((p0::l).length:Int)=((l.length+1:Nat):Int):=by simp
  simp only[e,y4,cond_false,ln0]
 ·intro rec i a x rest hi hI hd hr
  have hx:(p0::l)[i+1]?=some x:=by
   rw[List.getElem?_cons_succ,<-C8];exact l8 hd
  have e:((p0::l).length:Int)=((l.length+1:Nat):Int):=by simp
  have e1:IntKind.i64.wrap (((i+1:Nat):Int)-1)=(i:Int):=by rw[w64 (by omega) (by omega)];omega
  have e2:IntKind.i64.wrap (((i+1:Nat):Int)+1)=((i+1+1:Nat):Int):=r7 (n:=2000000) (by omega) (by omega)
  have f1:∀ a b c:Pt,A5 ((a.1,a.2),(b.1,b.2),(c.1,c.2))=some (onP a b c):=fun a b c=>bj0 a b c
  have f2:∀ a b c:Pt,A7 ((a.1,a.2),(b.1,b.2),(c.1,c.2))=some (P5 a b c):=fun a b c=>cK0 a b c
  simp only[e,y0 (show i+1<l.length+1 by omega),cond_true,e1,C8,hI,hx,b9,f1,f2,e2]
  have hr':=fun st'=>hr (x,st') hx
  simp only at hr'
  have g:∀ b1 b2:Bool,rec (((i+1+1:Nat):Int),b1,b2)=K (ln0 at' x rest (b1,b2)):=fun b1 b2=>hr' (b1,b2)
  simp only[g,ln0,stepE]
  obtain⟨p,b1,b2⟩:=a
  simp only
  generalize onP p x at'=c1
  generalize decide (p.2<=at'.2)=c2
  generalize decide (at'.2<x.2)=c3
  generalize decide (x.2<=at'.2)=c4
  generalize decide (at'.2<p.2)=c5
  generalize hs:P5 p x at'=s
  by_cases h1:0<s
  ·have h2:¬ s<0:=by omega
   simp only[h1,h2,decide_true,decide_false,cond_true,cond_false,Bool.and_true,Bool.and_false,Bool.or_false]
   cases c1<;>cases c2<;>cases c3<;>cases c4<;>cases c5<;>rfl
  ·by_cases h2:s<0
   ·simp only[h1,h2,decide_true,decide_false,cond_true,cond_false,Bool.and_true,Bool.and_false,Bool.false_or]
    cases c1<;>cases c2<;>cases c3<;>cases c4<;>cases c5<;>rfl
   ·simp only[h1,h2,decide_true,decide_false,cond_true,cond_false,Bool.and_true,Bool.and_false,Bool.or_false]
    cases c1<;>cases c2<;>cases c3<;>cases c4<;>cases c5<;>rfl
def fY0(m:List (Int×List Pt))(cyc:List Int):Prop:=cyc.length<=1000000/\∀ d∈cyc,lJ0 d/\∃ p0 l,lkp qI (kJ0 d) m=some (p0::l)/\l.length<=1000000
theorem mW0{m:List (Int×List Pt)}{cyc:List Int}(h:fY0 m cyc)(at':Pt):y5 (m,cyc,(at'.1,at'.2))=some (encl m cyc at'):=by
 have sl:=fun (p0:Pt) (l:List Pt) hl K st=>pk0 (β:=Bool) at' p0 l hl K st
 unfold y5
 simp only[b9]
 refine(p8 (A:=Bool×Bool) cyc (fun i a=>((i:Int),a.2,a.1)) (fun a rest=>some (bif (ml0 m at' rest a).1 then !(ml0 m at' rest a).2 else false)) (by have:=h.1;omega) ?_ ?_ (false,false)).trans rfl
 ·intro rec a
  simp only[y4,cond_false,ml0]
  cases a.1<;>rfl
 ·intro rec i a d rest hi hd hr
  have hm:d∈cyc:=by
   have:d∈cyc.drop i:=by rw[hd];simp
   exact List.mem_of_mem_drop this
  obtain⟨⟨d1,d2⟩,p0,l,hlk,hll⟩:=h.2 d hm
  have e1:IntKind.i64.wrap (0-d)=-d:=by rw[w64 (by omega) (by omega)];omega
  have e2:lkp (fun (a b:Int)=>decide (a=b)) (max d (-d)) m=some (p0::l):=hlk
  have e3:orO (some (p0::l)) (none:Option (List Pt))=some (p0::l):=rfl
  simp only[y0 hi,cond_true,l8 hd,b9,e1,gQ0,e2,e3,r7 hi (show cyc.length<2^62 by have:=h.1;omega)]
  refine(sl p0 l hll (fun x=>rec (((i+1:Nat):Int),x.2,x.1)) (a.1,a.2)).trans ?_
  have:=hr (ln0 at' p0 l (a.1,a.2))
  show rec _=_
  rw[this]
  simp only[ml0,hlk,Option.getD_some,pathE]
end Go.Ab
namespace Go.Ab
open Go Go.Sort Go.Proofs Go.Shelf
def hT0(p q:Pt):Int:=p.1*q.2-q.1*p.2
def aZ0:Pt->List Pt->Int
 | _,[]=>0
 | p,q::r=>hT0 p q+aZ0 q r
theorem Q4{a b A:Int}(h1:-A<=a)(h2:a<=A)(h3:-A<=b)(h4:b<=A):-(A*A)<=a*b/\a*b<=A*A:=by
 have h0:0<=A:=by omega
 constructor
 ·have e1:a*b+A*A=(A+a)*b+A*(A-b):=by
   rw[Int.add_mul,Int.mul_sub];omega
  rcases Int.le_total 0 b with hb | hb
  ·have:=Int.mul_nonneg (show 0<=A+a by omega) hb
   have:=Int.mul_nonneg h0 (show 0<=A-b by omega)
   omega
  ·have e2:a*b+A*A=(A-a)*(-b)+A*(A+b):=by
    rw[Int.sub_mul,Int.mul_add,Int.mul_neg,Int.mul_neg];omega
   have:=Int.mul_nonneg (show 0<=A-a by omega) (show 0<=-b by omega)
   have:=Int.mul_nonneg h0 (show 0<=A+b by omega)
   omega
 ·rcases Int.le_total 0 b with hb | hb
  ·have e2:A*A-a*b=(A-a)*b+A*(A-b):=by
    rw[Int.sub_mul,Int.mul_sub];omega
   have:=Int.mul_nonneg (show 0<=A-a by omega) hb
   have:=Int.mul_nonneg h0 (show 0<=A-b by omega)
   omega
  ·have e2:A*A-a*b=(A+a)*(-b)+A*(A+b):=by
    rw[Int.add_mul,Int.mul_add,Int.mul_neg,Int.mul_neg];omega
   have:=Int.mul_nonneg (show 0<=A+a by omega) (show 0<=-b by omega)
   have:=Int.mul_nonneg h0 (show 0<=A+b by omega)
   omega
def ux0(p:Pt):Prop:=-2097152<=p.1/\p.1<=2097152/\-2097152<=p.2/\p.2<=2097152
theorem gB0:∀ (l:List Pt) (p:Pt),ux0 p->(∀ q∈l,ux0 q)->-(8796093022208*(l.length:Int))<=aZ0 p l/\aZ0 p l<=8796093022208*(l.length:Int)
 | [],_,_,_=>by simp[aZ0]
 | q::r,p,hp,hl=>by
  have hq:=hl q (by simp)
  have ih:=gB0 r q hq (fun x hx=>hl x (by simp[hx]))
  obtain⟨a1,a2⟩:=Q4 (A:=2097152) hp.1 hp.2.1 hq.2.2.1 hq.2.2.2
  obtain⟨b1,b2⟩:=Q4 (A:=2097152) hq.1 hq.2.1 hp.2.2.1 hp.2.2.2
  simp only[aZ0,hT0,List.length_cons]
  omega
theorem pa0{β:Type}(p0:Pt)(l:List Pt)(hl:l.length<=1000)(h0:ux0 p0)(hc:∀ q∈l,ux0 q)(K:Int->Option β) :
  rounds (α:=Int×Int) (β:=β) (fun k27 x27 =>
    bif (decide (x27.2<(l.length:Int)))then (
     b8 (nth (p0::l) x27.2) fun v31 =>
     b8 (nth (p0::l) (IntKind.i64.wrap (x27.2+(1:Int)))) fun v34 =>
     b8 (nth (p0::l) (IntKind.i64.wrap (x27.2+(1:Int)))) fun v38 =>
     b8 (nth (p0::l) x27.2) fun v40 =>
     k27 (IntKind.i64.wrap (x27.1+IntKind.i64.wrap (IntKind.i64.wrap (v31.1*v34.2)-IntKind.i64.wrap (v38.1*v40.2))),IntKind.i64.wrap (x27.2+(1:Int))))else (
     K x27.1)) ((0:Int),(0:Int))=K (aZ0 p0 l):=by
 refine(l9 (A:=Pt×Int) l (fun i a=>(a.2,(i:Int))) (fun a rest=>K (a.2+aZ0 a.1 rest)) (fun i a=>(p0::l)[i]?=some a.1/\ux0 a.1/\-(8796093022208*(i:Int))<=a.2/\a.2<=8796093022208*(i:Int)) (by omega) ?_ ?_ (p0,0) ⟨rfl,h0,by simp,by simp⟩).trans (by simp)
 ·intro rec a hI
  simp only[y4,cond_false,aZ0,Int.add_zero]
 ·intro rec i a x rest hi hI hd hr
  obtain⟨hI,hp,g1,g2⟩:=hI
  have hx:(p0::l)[i+1]?=some x:=by
   rw[List.getElem?_cons_succ,<-C8];exact l8 hd
  have hxm:x∈l:=by
   have:x∈l.drop i:=by rw[hd];simp
   exact List.mem_of_mem_drop this
  have hq:=hc x hxm
  have e2:IntKind.i64.wrap ((i:Int)+1)=((i+1:Nat):Int):=r7 (n:=2000000) (by omega) (by omega)
  simp only[y0 hi,cond_true,e2,C8,hI,hx,b9]
  obtain⟨a1,a2⟩:=Q4 (A:=2097152) hp.1 hp.2.1 hq.2.2.1 hq.2.2.2
  obtain⟨b1,b2⟩:=Q4 (A:=2097152) hq.1 hq.2.1 hp.2.2.1 hp.2.2.2
  have w1:IntKind.i64.wrap (a.1.1*x.2)=a.1.1*x.2:=w64 (by omega) (by omega)
  have w2:IntKind.i64.wrap (x.1*a.1.2)=x.1*a.1.2:=w64 (by omega) (by omega)
  have w3:IntKind.i64.wrap (a.1.1*x.2-x.1*a.1.2)=hT0 a.1 x:=w64 (by omega) (by omega)
  have hcs:hT0 a.1 x=a.1.1*x.2-x.1*a.1.2:=rfl
  have w4:IntKind.i64.wrap (a.2+hT0 a.1 x)=a.2+hT0 a.1 x:=w64 (by omega) (by omega)
  rw[w1,w2,w3,w4]
  have:=hr (x,a.2+hT0 a.1 x) ⟨hx,hq,by simp only;omega,by simp only;omega⟩
  rw[this]
  simp only[aZ0]
  congr 1
  omega
def px0(ns:List Nd)(ars:List Ar)(d:Int):Int:=match pathOf ns ars (kJ0 d)with
 | some (p::l)=>if d<0 then -(aZ0 p l)else aZ0 p l
 | _=>0
def J5(ns:List Nd)(ars:List Ar):List Int->Int
 | []=>0
 | d::r=>px0 ns ars d+J5 ns ars r
namespace O7
variable {ns:List Nd} {ars:List Ar} {fs:List Int} (h:O7 ns ars fs)
include h
theorem dart_path{d:Int}(hd:∃ a∈ars,a.1=kJ0 d):∃ p0 l,pathOf ns ars (kJ0 d)=some (p0::l)/\l.length<=65/\ux0 p0/\∀ q∈l,ux0 q:=by
 obtain⟨a,ha,hid⟩:=hd
 obtain⟨f,t,_,_,hp,_⟩:=h.path ha
 have hv:a.2.2.2.1.length<=64:=by
  have:=h.sml
  simp only[cq0,Bool.and_eq_true,List.all_eq_true,decide_eq_true_eq]at this
  exact this.2.2.2 a ha
 have hb:=h.pathNear ha hp
 have hcrd:∀ p:Pt,U7 p=true->ux0 p:=fun p hp=>by
  simp only[U7,Bool.and_eq_true,decide_eq_true_eq]at hp
  exact⟨by omega,by omega,by omega,by omega⟩
 refine⟨_,_,by rw[<- hid];exact hp,by simp;omega,hcrd _ (hb _ (by simp)),fun q hq=>hcrd _ (hb _ (List.mem_cons_of_mem _ hq))⟩
theorem Twice_eq{cyc:List Int}(hc:cyc.length<=512)(hm:∀ d∈cyc,lJ0 d/\d≠0/\∃ a∈ars,a.1=kJ0 d):S4 ((ns,ars,fs),cyc)=some (J5 ns ars cyc):=by
 have sl:=fun (p0:Pt) (l:List Pt) hl h0 hc K=>pa0 (β:=Int) p0 l hl h0 hc K
 unfold S4
 have hlen:decide ((512:Int)<(cyc.length:Int))=false:=by simp only[decide_eq_false_iff_not];omega
 simp only[b9,hlen,cond_false]
 refine(l9 (A:=Int) cyc (fun i a=>(a,(i:Int))) (fun a rest=>some (a+J5 ns ars rest)) (fun i a=>-(571746046443520*(i:Int))<=a/\a<=571746046443520*(i:Int)) (by omega) ?_ ?_ 0 ⟨by simp,by simp⟩).trans (by simp)
 ·intro rec a hI
  simp only[y4,cond_false,J5,Int.add_zero]
 ·intro rec i a d rest hi hI hd hr
  have hdm:d∈cyc:=by
   have:d∈cyc.drop i:=by rw[hd];simp
   exact List.mem_of_mem_drop this
  obtain⟨hD,h0,a1,ha1,hid⟩:=hm d hdm
  obtain⟨d1,d2⟩:=hD
  have harc:bK0 ars (kJ0 d)=some a1:=by rw[<- hid];exact h.arcOf_self ha1
  obtain⟨p0,l,hp,hl,c0,cl⟩:=h.dart_path ⟨a1,ha1,hid⟩
  have e1:IntKind.i64.wrap (0-d)=-d:=by rw[w64 (by omega) (by omega)];omega
  have hp':pathOf ns ars (max d (-d))=some (p0::l):=hp
  simp only[y0 hi,cond_true,l8 hd,b9,h.arcOfD_eq ⟨d1,d2⟩,h0,if_false,harc,Bool.not_true,cond_false,e1,gQ0,h.Path_eq,hp',decide_true]
  have e3:IntKind.i64.wrap (((p0::l).length:Int)-1)=(l.length:Int):=by rw[w64 (by simp only[List.length_cons];omega) (by simp only[List.length_cons];omega)];simp only[List.length_cons];omega
  simp only[e3]
  refine(sl p0 l (by omega) c0 cl (fun A=>bif decide (d<0)then rec (IntKind.i64.wrap (a+IntKind.i64.wrap (0-A)),IntKind.i64.wrap ((i:Int)+1))else rec (IntKind.i64.wrap (a+A),IntKind.i64.wrap ((i:Int)+1)))).trans ?_
  obtain⟨b1,b2⟩:=gB0 l p0 c0 cl
  have hA:-571746046443520<=aZ0 p0 l/\aZ0 p0 l<=571746046443520:=by omega
  have e2:IntKind.i64.wrap ((i:Int)+1)=((i+1:Nat):Int):=r7 (n:=2000000) (by omega) (by omega)
  simp only[e2]
  by_cases hneg:d<0
  ·have w1:IntKind.i64.wrap (0-aZ0 p0 l)=-(aZ0 p0 l):=by rw[w64 (by omega) (by omega)];omega
   have w2:IntKind.i64.wrap (a+-(aZ0 p0 l))=a+-(aZ0 p0 l):=w64 (by omega) (by omega)
   simp only[hneg,decide_true,cond_true,w1,w2]
   rw[hr (a+-(aZ0 p0 l)) (by omega)]
   simp only[J5,px0,hp,hneg,if_true]
   congr 1;omega
  ·have w2:IntKind.i64.wrap (a+aZ0 p0 l)=a+aZ0 p0 l:=w64 (by omega) (by omega)
   simp only[hneg,decide_false,cond_false,w2]
   rw[hr (a+aZ0 p0 l) (by omega)]
   simp only[J5,px0,hp,hneg,if_false]
   congr 1;omega
end O7
end Go.Ab
namespace Go.Ab
open Go Go.Sort Go.Proofs Go.Shelf
def twAt(L:List V0)(b:Nat):Int:=((L[b]?).map (fun x=>x.1)).getD 0
def gL0(m:List (Int×List Pt))(at':Pt)(L:List V0):List V0->Nat->Nat->Nat
 | [],_,b=>b
 | x::r,i,b=>gL0 m at' L r (i+1) (bif (decide (b=0)||decide (x.1<twAt L b))&&encl m x.2.1 at' then i else b)
def fH0(m:List (Int×List Pt))(L:List V0)(at':Pt):Nat:=gL0 m at' L L.tail 1 0
theorem lz0(m:List (Int×List Pt))(at':Pt)(L:List V0):∀ (r:List V0) (i b n:Nat),i+r.length<=n->b<n->gL0 m at' L r i b<n
 | [],_,b,n,_,hb=>hb
 | x::r,i,b,n,hi,hb=>by
  simp only[gL0]
  simp only[List.length_cons]at hi
  refine lz0 m at' L r (i+1) _ n (by omega) ?_
  cases (decide (b=0)||decide (x.1<twAt L b))&&encl m x.2.1 at'
  ·exact hb
  ·simp only[cond_true];omega
theorem kk0{β:Type}(m:List (Int×List Pt))(at':Pt)(x0:V0)(l:List V0)(hl:l.length<=1000000)(hp:∀ a∈l,fY0 m a.2.1)(K:Int×Int->Option β) :
  rounds (α:=Int×Int) (β:=β) (fun k26 x26 =>
    bif (decide (x26.1<(((x0::l).length:Nat):Int)))then (
    bif (decide (x26.2=(0:Int)))then (
     b8 ((bif decide (0<=x26.1)&&decide (x26.1<(((x0::l).length:Nat):Int))then some ()else none)) fun _ =>
     b8 (((x0::l)[(x26.1).toNat]?).map (fun x=>x.2.1)) fun v32 =>
     b8 (y5 (m,v32,(at'.1,at'.2))) fun v33 =>
     bif v33 then (
     k26 (IntKind.i64.wrap (x26.1+(1:Int)),x26.1))else (
     k26 (IntKind.i64.wrap (x26.1+(1:Int)),x26.2)))else (
     b8 ((bif decide (0<=x26.1)&&decide (x26.1<(((x0::l).length:Nat):Int))then some ()else none)) fun _ =>
     b8 (((x0::l)[(x26.1).toNat]?).map (fun x=>x.1)) fun v32 =>
     b8 ((bif decide (0<=x26.2)&&decide (x26.2<(((x0::l).length:Nat):Int))then some ()else none)) fun _ =>
     b8 (((x0::l)[(x26.2).toNat]?).map (fun x=>x.1)) fun v33 =>
     bif (decide (v32<v33))then (
     b8 ((bif decide (0<=x26.1)&&decide (x26.1<(((x0::l).length:Nat):Int))then some ()else none)) fun _ =>
     b8 (((x0::l)[(x26.1).toNat]?).map (fun x=>x.2.1)) fun v35 =>
     b8 (y5 (m,v35,(at'.1,at'.2))) fun v36 =>
     bif v36 then (
      k26 (IntKind.i64.wrap (x26.1+(1:Int)),x26.1))else (
      k26 (IntKind.i64.wrap (x26.1+(1:Int)),x26.2)))else (
     k26 (IntKind.i64.wrap (x26.1+(1:Int)),x26.2))))else (
    K x26)) ((1:Int),(0:Int))=K (((l.length+1:Nat):Int),((fH0 m (x0::l) at':Nat):Int)):=by
 have e:(((x0::l).length:Nat):Int)=((l.length+1:Nat):Int):=by simp
 refine(l9 (A:=Nat) l (fun i a=>(((i+1:Nat):Int),(a:Int))) (fun a rest=>K (((l.length+1:Nat):Int),((gL0 m at' (x0::l) rest (l.length-rest.length+1) a:Nat):Int))) (fun i a=>a<i+1) (by omega) ?_ ?_ 0 (by omega)).trans ?_
 ·intro rec a hI
  simp only[e,y4,cond_false,gL0]
 ·intro rec i a x rest hi hI hd hr
  have hlr:l.length-(x::rest).length+1=i+1:=by
   have:=congrArg List.length hd
   simp only[List.length_drop,List.length_cons]at this ⊢
   omega
  have hlr2:l.length-rest.length+1=i+1+1:=by
   simp only[List.length_cons]at hlr
   have:=congrArg List.length hd
   simp only[List.length_drop,List.length_cons]at this
   omega
  have hx:(x0::l)[i+1]?=some x:=by
   rw[List.getElem?_cons_succ,<-C8];exact l8 hd
  have hxm:x∈l:=by
   have:x∈l.drop i:=by rw[hd];simp
   exact List.mem_of_mem_drop this
  have ha:a<(x0::l).length:=by simp only[List.length_cons];omega
  have hb:(x0::l)[a]?=some ((x0::l)[a]'ha):=List.getElem?_eq_getElem ha
  have e2:IntKind.i64.wrap (((i+1:Nat):Int)+1)=((i+1+1:Nat):Int):=r7 (n:=2000000) (by omega) (by omega)
  have e3:(decide (0<=((i+1:Nat):Int))&&decide (((i+1:Nat):Int)<((l.length+1:Nat):Int)))=true:=by simp;omega
  have e4:(decide (0<=(a:Int))&&decide ((a:Int)<((l.length+1:Nat):Int)))=true:=by simp;omega
  have e5:decide ((a:Int)=0)=decide (a=0):=by by_cases h:a=0<;>simp[h]
  have hen:=mW0 (hp x hxm) at'
  simp only[e,y0 (show i+1<l.length+1 by omega),cond_true,e2,e3,e4,e5,Int.toNat_natCast,hx,hb,Option.map_some,b9,hen]
  have r1:=hr (i+1) (by omega)
  have r2:=hr a (by omega)
  simp only[hlr2]at r1 r2
  rw[r1,r2,hlr]
  have ht:twAt (x0::l) a=((x0::l)[a]'ha).1:=by simp[twAt,hb]
  simp only[gL0,ht]
  cases h1:decide (a=0)<;>cases h2:decide (x.1<((x0::l)[a]'ha).1)<;>cases h3:encl m x.2.1 at'<;>rfl
 ·simp only[Nat.sub_self,Nat.zero_add,fH0,List.tail_cons]
abbrev tN0:=Int×List Int×Unit×Unit
def addI(L:List V0)(k:Nat)(c:List Int):List V0:=match L[k]? with
 | some x=>L.set k (x.1,x.2.1,x.2.2.1++[c],x.2.2.2)
 | none=>L
def addN(L:List V0)(k:Nat)(n:Int):List V0:=match L[k]? with
 | some x=>L.set k (x.1,x.2.1,x.2.2.1,x.2.2.2++[n])
 | none=>L
structure oO0(m:List (Int×List Pt))(L:List V0)(n i j:Nat):Prop where
 len:L.length=n+1
 out:∀ a∈L.tail,fY0 m a.2.1
 inn:∀ a∈L,a.2.2.1.length<=i
 alo:∀ a∈L,a.2.2.2.length<=j
theorem aX0{α:Type}{L:List α}{k:Nat}{y a:α}(h:a∈(L.set k y).tail):a∈L.tail\/(a=y/\1<=k/\k<L.length):=by
 cases L with
 | nil=>simp at h
 | cons x l =>
  cases k with
  | zero=>simp at h;exact .inl (by simpa using h)
  | succ k =>
   simp only[List.set_cons_succ,List.tail_cons]at h ⊢
   by_cases hk:k<l.length
   ·rcases List.mem_or_eq_of_mem_set h with h | h
    ·exact .inl h
    ·exact .inr ⟨h,by omega,by simp;omega⟩
   ·rw[List.set_eq_of_length_le (by omega)]at h;exact .inl h
theorem fS0{α:Type}{L:List α}{k:Nat}{x:α}(h:L[k]?=some x)(hk:1<=k):x∈L.tail:=by
 cases L with
 | nil=>simp at h
 | cons y l =>
  cases k with
  | zero=>omega
  | succ k=>rw[List.getElem?_cons_succ]at h;exact List.mem_of_getElem? h
theorem oO0.addI{m:List (Int×List Pt)}{L:List V0}{n i j k:Nat}(h:oO0 m L n i j)(c:List Int):oO0 m (addI L k c) n (i+1) j:=by
 unfold Go.Ab.addI
 cases hx:L[k]? with
 | none=>exact⟨h.len,h.out,fun a ha=>by have:=h.inn a ha;omega,h.alo⟩
 | some x =>
  have hxm:=List.mem_of_getElem? hx
  refine⟨by simp[h.len],fun a ha=>?_,fun a ha=>?_,fun a ha=>?_⟩
  ·rcases aX0 ha with ha | ⟨rfl,hk,_⟩
   ·exact h.out a ha
   ·exact h.out x (fS0 hx hk)
  ·rcases List.mem_or_eq_of_mem_set ha with ha | rfl
   ·have:=h.inn a ha;omega
   ·have:=h.inn x hxm;simp;omega
  ·rcases List.mem_or_eq_of_mem_set ha with ha | rfl
   ·exact h.alo a ha
   ·exact h.alo x hxm
theorem oO0.addN{m:List (Int×List Pt)}{L:List V0}{n i j k:Nat}(h:oO0 m L n i j)(c:Int):oO0 m (addN L k c) n i (j+1):=by
 unfold Go.Ab.addN
 cases hx:L[k]? with
 | none=>exact⟨h.len,h.out,h.inn,fun a ha=>by have:=h.alo a ha;omega⟩
 | some x =>
  have hxm:=List.mem_of_getElem? hx
  refine⟨by simp[h.len],fun a ha=>?_,fun a ha=>?_,fun a ha=>?_⟩
  ·rcases aX0 ha with ha | ⟨rfl,hk,_⟩
   ·exact h.out a ha
   ·exact h.out x (fS0 hx hk)
  ·rcases List.mem_or_eq_of_mem_set ha with ha | rfl
   ·exact h.inn a ha
   ·exact h.inn x hxm
  ·rcases List.mem_or_eq_of_mem_set ha with ha | rfl
   ·have:=h.alo a ha;omega
   ·have:=h.alo x hxm;simp;omega
theorem oO0.cons{m:List (Int×List Pt)}{L:List V0}{n i j:Nat}(h:oO0 m L n i j):∃ x0 l,L=x0::l:=by
 cases L with
 | nil=>have:=h.len;simp at this
 | cons x l=>exact⟨x,l,rfl⟩
theorem oO0.find_lt{m:List (Int×List Pt)}{L:List V0}{n i j:Nat}(h:oO0 m L n i j)(p:Pt):fH0 m L p<L.length:=by
 obtain⟨x0,l,rfl⟩:=h.cons
 exact lz0 m p _ l 1 0 _ (by simp;omega) (by simp)
def he0(m:List (Int×List Pt))(c:List Int):Pt:=((((lkp qI (kJ0 (c.headD 0)) m).getD [])[0]?).getD (0,0))
def inF(m:List (Int×List Pt)):List (List Int)->List V0->List V0
 | [],L=>L
 | c::r,L=>inF m r (addI L (fH0 m L (he0 m c)) c)
def aloF(ns:List Nd)(ars:List Ar)(m:List (Int×List Pt)):List Nd->List V0->List V0
 | [],L=>L
 | n::r,L=>aloF ns ars m r (bif decide (I4 ars n.1=0)then addN L (fH0 m L (n.2.1,n.2.2)) n.1 else L)
def bigF(ns:List Nd)(ars:List Ar)(cs:List (List Int)):List V0:=(0,[],[],[])::(cs.filter fun c=>decide (0<J5 ns ars c)).map fun c=>(J5 ns ars c,c,[],[])
def N1(ns:List Nd)(ars:List Ar)(m:List (Int×List Pt))(cs:List (List Int)):List V0 :=
 aloF ns ars m ns (inF m (cs.filter fun c=>!decide (0<J5 ns ars c)) (bigF ns ars cs))
structure rh0(ars:List Ar)(cs:List (List Int)):Prop where
 len:cs.length<=512
 cyc:∀ c∈cs,c≠[]/\c.length<=512/\∀ d∈c,lJ0 d/\d≠0/\∃ a∈ars,a.1=kJ0 d
namespace O7
variable {ns:List Nd} {ars:List Ar} {fs:List Int} (h:O7 ns ars fs)
include h
theorem dart_look{d:Int}(hd:∃ a∈ars,a.1=kJ0 d):∃ p0 l,lkp qI (kJ0 d) (D1 ns ars)=some (p0::l)/\l.length<=65:=by
 obtain⟨p0,l,hp,hl,_,_⟩:=h.dart_path hd
 obtain⟨a,ha,hid⟩:=hd
 exact⟨p0,l,by rw[<- hid,h.pathsM_look ha,hid];exact hp,hl⟩
theorem paths_for{cs:List (List Int)}(hc:rh0 ars cs){c:List Int}(hm:c∈cs):fY0 (D1 ns ars) c:=by
 obtain⟨_,h1,h2⟩:=hc.cyc c hm
 refine⟨by omega,fun d hd=>?_⟩
 obtain⟨g1,_,g3⟩:=h2 d hd
 obtain⟨p0,l,hl,hll⟩:=h.dart_look g3
 exact⟨g1,p0,l,hl,by omega⟩
theorem divide_eq{cs:List (List Int)}(hc:rh0 ars cs):L6 ((ns,ars,fs),cs,D1 ns ars)=some (N1 ns ars (D1 ns ars) cs):=by
 have hlenN:ns.length<=256:=by
  have:=h.sml
  simp only[cq0,Bool.and_eq_true,decide_eq_true_eq]at this
  exact this.1
 unfold L6
 simp only[b9]
 let Z:V0->tN0:=fun a=>(a.1,a.2.1,(),())
 have hZ:∀ (l:List tN0),l.map (fun x=>((x.1,x.2.1,([]:List (List Int)),([]:List Int)):V0))=l.map (fun x=>(x.1,x.2.1,[],[])):=fun _=>rfl
 refine(l9 (A:=List (List Int)×List tN0) cs (fun i a=>(a.1,(i:Int),false,a.2))
  (fun a rest=>some (aloF ns ars (D1 ns ars) ns (inF (D1 ns ars) (a.1++rest.filter fun c=>!decide (0<J5 ns ars c)) ((a.2.map fun x=>(x.1,x.2.1,[],[]))++(rest.filter fun c=>decide (0<J5 ns ars c)).map fun c=>(J5 ns ars c,c,[],[])))))
  (fun i a=>a.1.length<=i/\a.2.length<=i+1/\a.2≠[]/\(∀ c∈a.1,c∈cs)/\∀ x∈a.2.tail,x.2.1∈cs) (by have:=hc.len;omega) ?_ ?_ ([],[(0,[],(),())]) ⟨by simp,by simp,by simp,by simp,by simp⟩).trans ?_
 ·intro rec a hI
  obtain⟨i1,i2,i3,i4,i5⟩:=hI
  have hlen:=hc.len
  have hown:ownO (fun x:tN0=>((x.1,x.2.1,([]:List (List Int)),([]:List Int)):V0)) a.2=some (a.2.map fun x=>(x.1,x.2.1,[],[])):=by
   unfold ownO
   have:decide (16*a.2.length<=P4)=true:=by simp only[decide_eq_true_eq,P4];omega
   rw[this];rfl
  simp only[y4,cond_false,hown,b9,List.filter_nil,List.append_nil,List.map_nil]
  have hA:oO0 (D1 ns ars) (a.2.map fun x=>((x.1,x.2.1,[],[]):V0)) (a.2.length-1) 0 0:=by
   obtain⟨y,l,hl⟩:∃ y l,a.2=y::l:=by
    cases hq:a.2 with
    | nil=>exact absurd hq i3
    | cons y l=>exact⟨y,l,rfl⟩
   rw[hl]at i5 ⊢
   refine⟨by simp,fun b hb=>?_,fun b hb=>?_,fun b hb=>?_⟩
   ·simp only[List.map_cons,List.tail_cons]at hb
    obtain⟨x,hx,rfl⟩:=List.mem_map.1 hb
    exact h.paths_for hc (i5 x hx)
   ·obtain⟨x,hx,rfl⟩:=List.mem_map.1 hb;simp
   ·obtain⟨x,hx,rfl⟩:=List.mem_map.1 hb;simp
  generalize hL0:(a.2.map fun x=>((x.1,x.2.1,[],[]):V0))=L0 at *
  have hnl:a.2.length-1<=1000000:=by omega
  generalize a.2.length-1=nL at *
  generalize hR:a.1=R at *
  have hRl:R.length<=512:=by omega
  refine(l9 (A:=List V0) R (fun i L=>((i:Int),L)) (fun L rest=>some (aloF ns ars (D1 ns ars) ns (inF (D1 ns ars) rest L))) (fun i L=>oO0 (D1 ns ars) L nL i 0) (by omega) ?_ ?_ L0 hA)
  ·intro rec L hL
   simp only[y4,cond_false,inF]
   refine(l9 (A:=List V0) ns (fun i L=>((i:Int),L)) (fun L rest=>some (aloF ns ars (D1 ns ars) rest L)) (fun i L=>oO0 (D1 ns ars) L nL R.length i) (by omega) ?_ ?_ L hL)
   ·intro rec L hL
    simp only[y4,cond_false,aloF]
   ·intro rec j L n rest hj hL hd hr
    have e2:IntKind.i64.wrap ((j:Int)+1)=((j+1:Nat):Int):=r7 (n:=2000000) (by omega) (by omega)
    have hdeg:=be0 ns ars fs n.1 (by have:=h.lenA;omega)
    have e3:decide (((I4 ars n.1:Nat):Int)=0)=decide (I4 ars n.1=0):=by by_cases hz:I4 ars n.1=0<;>simp[hz]
    simp only[y0 hj,cond_true,l8 hd,b9,hdeg,e3,e2,aloF]
    cases hz:decide (I4 ars n.1=0)with
    | false =>
     simp only[cond_false]
     exact hr L ⟨hL.len,hL.out,hL.inn,fun x hx=>by have:=hL.alo x hx;omega⟩
    | true =>
     simp only[cond_true]
     obtain⟨x0,l,hxl⟩:=hL.cons
     have hll:l.length<=1000000:=by have:=hL.len;rw[hxl]at this;simp at this;omega
     have hlt:=hL.find_lt (n.2.1,n.2.2)
     have hr':=hr _ (hL.addN (k:=fH0 (D1 ns ars) L (n.2.1,n.2.2)) n.1)
     have halo:=hL.alo
     have hout:=hL.out
     subst hxl
     refine(kk0 (β:=List V0) (D1 ns ars) (n.2.1,n.2.2) x0 l hll hout _).trans ?_
     generalize fH0 (D1 ns ars) (x0::l) (n.2.1,n.2.2)=k at *
     have hk:(x0::l)[k]?=some ((x0::l)[k]'hlt):=List.getElem?_eq_getElem hlt
     have hkl:=halo _ (List.getElem_mem hlt)
     generalize (x0::l)[k]'hlt=y at *
     have e4:(decide (0<=(k:Int))&&decide ((k:Int)<(((x0::l).length:Nat):Int)))=true:=by simp only[Bool.and_eq_true,decide_eq_true_eq];omega
     have hcat:L7 8 y.2.2.2 [n.1]=some (y.2.2.2++[n.1]):=B8 (by omega) (by simp;omega)
     simp only[Int.toNat_natCast,hk,Option.map_some,b9,e4,cond_true,inO,hcat,ot0]
     simp only[addN,hk]at hr' ⊢
     exact hr'
  ·intro rec j L c rest hj hL hd hr
   have hcm:c∈cs:=by
    refine i4 c ?_
    have:c∈R.drop j:=by rw[hd];simp
    exact List.mem_of_mem_drop this
   obtain⟨c1,c2,c3⟩:=hc.cyc c hcm
   obtain⟨d,cr,rfl⟩:∃ d cr,c=d::cr:=by
    cases c with
    | nil=>exact absurd rfl c1
    | cons d cr=>exact⟨d,cr,rfl⟩
   obtain⟨⟨d1,d2⟩,_,g3⟩:=c3 d (by simp)
   obtain⟨p0,pl,hlk,_⟩:=h.dart_look g3
   have e1:IntKind.i64.wrap (0-d)=-d:=by rw[w64 (by omega) (by omega)];omega
   have e2:IntKind.i64.wrap ((j:Int)+1)=((j+1:Nat):Int):=r7 (n:=2000000) (by omega) (by omega)
   have e3:(decide (0<=(j:Int))&&decide ((j:Int)<((R.length:Nat):Int)))=true:=by simp only[Bool.and_eq_true,decide_eq_true_eq];omega
   have hRj:R[j]?=some (d::cr):=by rw[<- C8];exact l8 hd
   have n0:nth (d::cr) (0:Int)=some d:=by have:=C8 (d::cr) 0;exact this
   have n1:nth (p0::pl) (0:Int)=some p0:=by have:=C8 (p0::pl) 0;exact this
   have hlk':lkp (fun (a b:Int)=>decide (a=b)) (max d (-d)) (D1 ns ars)=some (p0::pl):=hlk
   have e5:orO (some (p0::pl)) (none:Option (List Pt))=some (p0::pl):=rfl
   have hfp:he0 (D1 ns ars) (d::cr)=p0:=by simp[he0,hlk]
   simp only[y0 hj,cond_true,e3,b9,Int.toNat_natCast,hRj,Option.map_some,n0,e1,gQ0,hlk',e5,n1,e2,inF,hfp]
   obtain⟨x0,l,hxl⟩:=hL.cons
   have hll:l.length<=1000000:=by have:=hL.len;rw[hxl]at this;simp at this;omega
   have hlt:=hL.find_lt p0
   have hr':=hr _ (hL.addI (k:=fH0 (D1 ns ars) L p0) (d::cr))
   have hinn:=hL.inn
   have hout:=hL.out
   subst hxl
   refine(kk0 (β:=List V0) (D1 ns ars) p0 x0 l hll hout _).trans ?_
   generalize fH0 (D1 ns ars) (x0::l) p0=k at *
   have hk:(x0::l)[k]?=some ((x0::l)[k]'hlt):=List.getElem?_eq_getElem hlt
   have hkl:=hinn _ (List.getElem_mem hlt)
   generalize (x0::l)[k]'hlt=y at *
   have e4:(decide (0<=(k:Int))&&decide ((k:Int)<(((x0::l).length:Nat):Int)))=true:=by simp only[Bool.and_eq_true,decide_eq_true_eq];omega
   have hcat:L7 24 y.2.2.1 [d::cr]=some (y.2.2.1++[d::cr]):=B8 (by omega) (by simp;omega)
   simp only[Int.toNat_natCast,hk,Option.map_some,b9,e4,cond_true,inO,hcat,ot0]
   simp only[addI,hk]at hr' ⊢
   exact hr'
 ·intro rec i a c rest hi hI hd hr
  obtain⟨i1,i2,i3,i4,i5⟩:=hI
  have hcm:c∈cs:=by
   have:c∈cs.drop i:=by rw[hd];simp
   exact List.mem_of_mem_drop this
  obtain⟨c1,c2,c3⟩:=hc.cyc c hcm
  have htw:S4 ((ns,ars,fs),c)=some (J5 ns ars c):=h.Twice_eq c2 c3
  have e2:IntKind.i64.wrap ((i:Int)+1)=((i+1:Nat):Int):=r7 (n:=2000000) (by have:=hc.len;omega) (by omega)
  have hlen:=hc.len
  simp only[y0 hi,cond_true,l8 hd,b9,htw,e2]
  by_cases ht:0<J5 ns ars c
  ·have hcat:L7 80 a.2 [(J5 ns ars c,c,(),())]=some (a.2++[(J5 ns ars c,c,(),())]):=B8 (by omega) (by simp;omega)
   simp only[ht,decide_true,cond_true,hcat,b9]
   have:=hr (a.1,a.2++[(J5 ns ars c,c,(),())]) ⟨by show a.1.length<=i+1;omega,by simp;omega,by simp,i4,fun x hx=>?_⟩
   ·rw[this]
    simp[ht,List.filter_cons]
   ·obtain⟨y,l,hl⟩:∃ y l,a.2=y::l:=by
     cases hq:a.2 with
     | nil=>exact absurd hq i3
     | cons y l=>exact⟨y,l,rfl⟩
    simp only[hl,List.cons_append,List.tail_cons]at hx i5
    rcases List.mem_append.1 hx with hx | hx
    ·exact i5 x hx
    ·simp at hx;subst hx;exact hcm
  ·have hcat:L7 24 a.1 [c]=some (a.1++[c]):=B8 (by omega) (by simp;omega)
   simp only[ht,decide_false,cond_false,hcat,b9]
   have:=hr (a.1++[c],a.2) ⟨by simp;omega,by show a.2.length<=i+1+1;omega,i3,fun x hx=>?_,i5⟩
   ·rw[this]
    simp[ht,List.filter_cons]
   ·rcases List.mem_append.1 hx with hx | hx
    ·exact i4 x hx
    ·simp at hx;subst hx;exact hcm
 ·simp[N1,bigF]
end O7
end Go.Ab
namespace Go.Ab
open Go Go.Sort Go.Proofs Go.Shelf
theorem qJ0(D S:List Int):R7 D S<=D.length:=List.length_filter_le _ _
theorem eY0{nx:Int->Int}{D:List Int}(hnx:∀ d∈D,nx d∈D):∀ (n:Nat) (S:List Int) (d:Int) (c:List Int),d∈D->(∀ x∈c,x∈D) ->
  (∀ x∈(P7 nx n S d c).1,x∈D)/\(P7 nx n S d c).1.length+R7 D (P7 nx n S d c).2<=c.length+R7 D S/\c.length<=(P7 nx n S d c).1.length
 | 0,S,d,c,_,hc=>by simp only[P7];exact⟨hc,by omega,by omega⟩
 | n+1,S,d,c,hd,hc=>by
  unfold P7
  split
  ·exact⟨hc,Nat.le_refl _,Nat.le_refl _⟩
  ·rename_i hs
   obtain⟨h1,h2,h3⟩:=eY0 hnx n (S++[d]) (nx d) (c++[d]) (hnx d hd) (fun x hx=>by
    rcases List.mem_append.1 hx with hx | hx
    ·exact hc x hx
    ·simp at hx;subst hx;exact hd)
   have:=kl0 hd hs
   simp only[List.length_append,List.length_singleton]at h2 h3
   exact⟨h1,by omega,by omega⟩
theorem eS0{nx:Int->Int}{D:List Int}(hnx:∀ d∈D,nx d∈D):∀ (ds S:List Int) (acc:List (List Int)),(∀ d∈ds,d∈D)->(∀ c∈acc,c≠[]/\c.length<=D.length/\∀ d∈c,d∈D) ->
  (T0 nx D ds S acc).length<=acc.length+ds.length/\∀ c∈T0 nx D ds S acc,c≠[]/\c.length<=D.length/\∀ d∈c,d∈D
 | [],S,acc,_,ha=>by simp only[T0];exact⟨by simp,ha⟩
 | d::ds,S,acc,hd,ha=>by
  unfold T0
  split
  ·obtain⟨h1,h2⟩:=eS0 hnx ds S acc (fun x hx=>hd x (by simp[hx])) ha
   exact⟨by simp only[List.length_cons];omega,h2⟩
  ·rename_i hs
   have hdm:=hd d (by simp)
   obtain⟨g1,g2,g3⟩:=eY0 hnx (R7 D S+1) S d [] hdm (by simp)
   have hne:(P7 nx (R7 D S+1) S d []).1≠[]:=by
    unfold P7
    rw[if_neg hs]
    have:=(eY0 hnx (R7 D S) (S++[d]) (nx d) ([]++[d]) (hnx d hdm) (by simpa using hdm)).2.2
    intro he
    rw[he]at this
    simp at this
   obtain⟨h1,h2⟩:=eS0 hnx ds (P7 nx (R7 D S+1) S d []).2 (acc++[(P7 nx (R7 D S+1) S d []).1]) (fun x hx=>hd x (by simp[hx])) (fun c hc=>by
    rcases List.mem_append.1 hc with hc | hc
    ·exact ha c hc
    ·simp at hc
     subst hc
     have:=qJ0 D S
     simp only[List.length_nil]at g2
     exact⟨hne,by omega,g1⟩)
   simp only[List.length_append,List.length_singleton]at h1
   exact⟨by simp only[List.length_cons];omega,h2⟩
namespace O7
variable {ns:List Nd} {ars:List Ar} {fs:List Int} (h:O7 ns ars fs)
include h
theorem cycs_ok:rh0 ars (cyclesOf ns ars):=by
 have hD:=h.darts_len
 obtain⟨h1,h2⟩:=eS0 (nx:=nextD ns ars) (D:=dartsL ns ars) (fun d hd=>h.next_mem hd) ((dartsL ns ars).mergeSort fun a b=>decide (a<=b)) [] [] (fun d hd=>(List.mergeSort_perm _ _).mem_iff.1 hd) (by simp)
 have hl:((dartsL ns ars).mergeSort fun a b=>decide (a<=b)).length=(dartsL ns ars).length:=(List.mergeSort_perm _ _).length_eq
 refine⟨by show (T0 ..).length<=_;simp only[List.length_nil]at h1;omega,fun c hc=>?_⟩
 obtain⟨g1,g2,g3⟩:=h2 c hc
 refine⟨g1,by omega,fun d hd=>?_⟩
 obtain⟨a,ha,he⟩:=h.mem_darts.1 (g3 d hd)
 have hn:=h.num ha
 refine⟨?_,?_,a,ha,?_⟩
 ·unfold lJ0;rcases he with rfl | rfl<;>omega
 ·rcases he with rfl | rfl<;>omega
 ·unfold kJ0;rcases he with rfl | rfl<;>omega
end O7
structure ArQ(L:List V0)(i:Nat):Prop where
 all:∀ a∈L,((∀ d∈a.2.1,lJ0 d)/\a.2.1.length<=1000000)/\(∀ c∈a.2.2.1,(∀ d∈c,lJ0 d)/\c.length<=1000000)/\a.2.2.1.length<=i
 ne:∀ a∈L.tail,a.2.1≠[]
theorem ArQ.addI{L:List V0}{i k:Nat}(h:ArQ L i){c:List Int}(hc:(∀ d∈c,lJ0 d)/\c.length<=1000000):ArQ (addI L k c) (i+1):=by
 unfold Go.Ab.addI
 cases hx:L[k]? with
 | none=>exact⟨fun a ha=>by obtain⟨h1,h2,h3⟩:=h.all a ha;exact⟨h1,h2,by omega⟩,h.ne⟩
 | some x =>
  have hxm:=List.mem_of_getElem? hx
  refine⟨fun a ha=>?_,fun a ha=>?_⟩
  ·rcases List.mem_or_eq_of_mem_set ha with ha | rfl
   ·obtain⟨h1,h2,h3⟩:=h.all a ha;exact⟨h1,h2,by omega⟩
   ·obtain⟨h1,h2,h3⟩:=h.all x hxm
    refine⟨h1,fun c' hc'=>?_,by simp;omega⟩
    rcases List.mem_append.1 hc' with hc' | hc'
    ·exact h2 c' hc'
    ·simp at hc';subst hc';exact hc
  ·rcases aX0 ha with ha | ⟨rfl,hk,_⟩
   ·exact h.ne a ha
   ·exact h.ne x (fS0 hx hk)
theorem ArQ.addN{L:List V0}{i k:Nat}(h:ArQ L i)(n:Int):ArQ (addN L k n) i:=by
 unfold Go.Ab.addN
 cases hx:L[k]? with
 | none=>exact h
 | some x =>
  have hxm:=List.mem_of_getElem? hx
  refine⟨fun a ha=>?_,fun a ha=>?_⟩
  ·rcases List.mem_or_eq_of_mem_set ha with ha | rfl
   ·exact h.all a ha
   ·exact h.all x hxm
  ·rcases aX0 ha with ha | ⟨rfl,hk,_⟩
   ·exact h.ne a ha
   ·exact h.ne x (fS0 hx hk)
theorem ArQ.inF{m:List (Int×List Pt)}:∀ (r:List (List Int)) (L:List V0) (i:Nat),ArQ L i->(∀ c∈r,(∀ d∈c,lJ0 d)/\c.length<=1000000)->ArQ (inF m r L) (i+r.length)
 | [],L,i,h,_=>h
 | c::r,L,i,h,hr=>by
  have:=ArQ.inF (m:=m) r _ (i+1) (h.addI (k:=fH0 m L (he0 m c)) (hr c (by simp))) (fun x hx=>hr x (by simp[hx]))
  simp only[Go.Ab.inF,List.length_cons]
  rw[show i+(r.length+1)=i+1+r.length by omega]
  exact this
theorem ArQ.aloF{ns:List Nd}{ars:List Ar}{m:List (Int×List Pt)}{i:Nat}:∀ (r:List Nd) (L:List V0),ArQ L i->ArQ (aloF ns ars m r L) i
 | [],L,h=>h
 | n::r,L,h=>by
  simp only[Go.Ab.aloF]
  cases decide (I4 ars n.1=0)with
  | false=>exact ArQ.aloF r L h
  | true=>exact ArQ.aloF r _ (h.addN n.1)
theorem qf0{m:List (Int×List Pt)}:∀ (r:List (List Int)) (L:List V0),(inF m r L).length=L.length
 | [],L=>rfl
 | c::r,L=>by
  simp only[inF]
  rw[qf0 r]
  unfold addI
  cases L[fH0 m L (he0 m c)]?<;>simp
theorem oo0{ns:List Nd}{ars:List Ar}{m:List (Int×List Pt)}:∀ (r:List Nd) (L:List V0),(aloF ns ars m r L).length=L.length
 | [],L=>rfl
 | n::r,L=>by
  simp only[aloF]
  rw[oo0 r]
  cases decide (I4 ars n.1=0)with
  | false=>rfl
  | true =>
   simp only[cond_true]
   unfold addN
   cases L[fH0 m L (n.2.1,n.2.2)]?<;>simp
open O7 (cyclesOf)
theorem O7.areas_ok{ns:List Nd}{ars:List Ar}{fs:List Int}(h:O7 ns ars fs):ArQ (N1 ns ars (D1 ns ars) (cyclesOf ns ars)) 512/\(N1 ns ars (D1 ns ars) (cyclesOf ns ars)).length<=1000000:=by
  have hc:=h.cycs_ok
  have hq:ArQ (N1 ns ars (D1 ns ars) (cyclesOf ns ars)) 512:=by
   have hcyc:∀ c∈cyclesOf ns ars,(∀ d∈c,lJ0 d)/\c.length<=1000000:=fun c hcm=>by
    obtain⟨_,g2,g3⟩:=hc.cyc c hcm
    exact⟨fun d hd=>(g3 d hd).1,by omega⟩
   have hbig:ArQ (bigF ns ars (cyclesOf ns ars)) 0:=by
    refine⟨fun a ha=>?_,fun a ha=>?_⟩
    ·rcases List.mem_cons.1 ha with rfl | ha
     ·simp
     ·obtain⟨c,hcm,rfl⟩:=List.mem_map.1 ha
      exact⟨hcyc c (List.mem_filter.1 hcm).1,by simp,by simp⟩
    ·simp only[bigF,List.tail_cons]at ha
     obtain⟨c,hcm,rfl⟩:=List.mem_map.1 ha
     exact(hc.cyc c (List.mem_filter.1 hcm).1).1
   have:=ArQ.aloF (ns:=ns) (ars:=ars) (m:=D1 ns ars) ns _ (ArQ.inF (m:=D1 ns ars) ((cyclesOf ns ars).filter fun c=>!decide (0<J5 ns ars c)) _ 0 hbig (fun c hcm=>hcyc c (List.mem_filter.1 hcm).1))
   refine⟨fun a ha=>?_,this.ne⟩
   obtain⟨h1,h2,h3⟩:=this.all a ha
   have hl:=List.length_filter_le (fun c=>!decide (0<J5 ns ars c)) (cyclesOf ns ars)
   have:=hc.len
   exact⟨h1,h2,by omega⟩
  have hlen:(N1 ns ars (D1 ns ars) (cyclesOf ns ars)).length<=1000000:=by
   unfold N1
   rw[oo0,qf0]
   have hl:=List.length_filter_le (fun c=>decide (0<J5 ns ars c)) (cyclesOf ns ars)
   have:=hc.len
   simp only[bigF,List.length_cons,List.length_map]
   omega
  exact⟨hq,hlen⟩
def E5(ns:List Nd)(ars:List Ar)(fs:List Int):Int:=bif decide (L5 ns ars fs=0)then (bif (L1 ars fs.length true (N1 ns ars (D1 ns ars) (cyclesOf ns ars)) [] []).2 then 0 else 12)else L5 ns ars fs
theorem gH0(ns:List Nd)(ars:List Ar)(fs:List Int):Y1 (ns,ars,fs)=some (E5 ns ars fs):=by
 unfold Y1 E5
 by_cases hp:L5 ns ars fs=0
 ·have h:=W1.1 hp
  have hc:=h.cycs_ok
  obtain⟨hq,hlen⟩:=h.areas_ok
  have hf:=h.faces_eq (l:=N1 ns ars (D1 ns ars) (cyclesOf ns ars)) hlen (fun a ha=>by obtain⟨h1,h2,h3⟩:=hq.all a ha;exact⟨h1,h2,by omega⟩) hq.ne
  simp only[h.Cycles_eq,b9,decide_true,Bool.not_true,cond_false,h.pathsOf_eq,h.divide_eq hc,hf,hp,cond_true]
  cases (L1 ars fs.length true (N1 ns ars (D1 ns ars) (cyclesOf ns ars)) [] []).2<;>rfl
 ·simp only[hP0 hp,b9,hp,decide_false,Bool.not_false,cond_true,cond_false]
end Go.Ab
namespace Go.Ab
open Go Go.Sort Go.Proofs Go.Shelf
def fl0:List (Int×Int×Int):=[(32,32,0),(39,41,0),(45,46,0),(48,57,0),(65,90,1),(97,122,1),(192,214,1),(216,246,1),(248,591,1),(880,1023,2),(1024,1279,3),(1488,1514,4),(19968,40959,5)]
def qG0(c:Int):List (Int×Int×Int)->Int
 | []=>-1
 | r::l=>bif decide (r.1<=c)&&decide (c<=r.2.1)then r.2.2 else qG0 c l
def eL0(r:Int):Int:=bif decide (r<0)||decide (1114111<r)then -1 else qG0 r fl0
theorem cG0(r:Int):R9 r=some (eL0 r):=by
 unfold R9 eL0
 by_cases h1:r<0
 ·simp[h1]
 by_cases h2:(1114111:Int)<r
 ·simp[h1,h2]
 have h3:IntKind.i32.wrap r=r:=IntWalk.i32_in r ⟨by omega,by omega⟩
 simp only[h1,h2,decide_false,cond_false,Bool.or_self,h3,gl_0,b9]
 refine p8 (A:=Unit) fl0 (fun i _=>(i:Int)) (fun _ rest=>some (qG0 r rest)) (by simp[fl0]) ?_ ?_ ()
 ·intro rec a
  simp[fl0,qG0]
 ·intro rec i a x rest hi hd hr
  have e1:decide ((i:Int)<13)=true:=by simp only[fl0,List.length_cons,List.length_nil]at hi;simp only[decide_eq_true_eq];omega
  have e2:nth fl0 (i:Int)=some x:=l8 hd
  have e3:IntKind.i64.wrap ((i:Int)+1)=((i+1:Nat):Int):=r7 (n:=100) (by simp only[fl0,List.length_cons,List.length_nil]at hi;omega) (by omega)
  simp only[fl0]at e2
  simp only[e1,cond_true,e2,b9,e3,qG0]
  have:=hr ()
  by_cases h4:x.1<=r
  ·by_cases h5:r<=x.2.1
   ·simp[h4,h5]
   ·simp only[h4,h5,decide_true,decide_false,cond_true,cond_false,Bool.and_false,this]
  ·simp only[h4,decide_false,cond_false,Bool.false_and,this]
theorem wV0(b:ByteArray)(n:Nat):1<=(Utf8.decode b n).2/\(Utf8.decode b n).2<=4/\(Utf8.decode b n).1<=2097151:=by
 rw[Lib.decode_at]
 unfold Lib.decodeN
 repeat' split
 all_goals (dsimp only;omega)
theorem pN0{α β:Type}{F:(α->Option β)->α->Option β}(I:α->Prop)(μ:α->Nat)(Q:β->Prop)(h:∀ rec x,I x->(∀ y,I y->μ y<μ x->∃ v,rec y=some v/\Q v)->∃ v,F rec x=some v/\Q v):∀ (n:Nat) (x:α),I x->μ x<n->∃ v,iter F n x=some v/\Q v
 | 0,x,_,hm=>absurd hm (Nat.not_lt_zero _)
 | n+1,x,hi,hm=>by
  show ∃ v,F (iter F n) x=some v/\Q v
  exact h _ x hi fun y hy hlt=>pN0 I μ Q h n y hy (by omega)
theorem hN0{α β:Type}{F:(α->Option β)->α->Option β}(I:α->Prop)(μ:α->Nat)(Q:β->Prop)(h:∀ rec x,I x->(∀ y,I y->μ y<μ x->∃ v,rec y=some v/\Q v)->∃ v,F rec x=some v/\Q v){x:α}(hx:I x)(hm:μ x<2^100):∃ v,rounds F x=some v/\Q v :=
 pN0 I μ Q h many x hx (Nat.lt_of_lt_of_le hm ep0)
theorem qm0(b:ByteArray)(hb:b.size<=1000):∃ r,Y6 b=some r/\(r.2=0\/r.2=4)/\r.1.length<=1000:=by
 unfold Y6
 refine hN0 (fun x:List Int×Int=>0<=x.2/\x.2<=(b.size:Int)+4/\(x.1.length:Int)<=x.2/\x.1.length<=1000) (fun x:List Int×Int=>((b.size:Int)+4-x.2).toNat) (fun r:List Int×Int=>(r.2=0\/r.2=4)/\r.1.length<=1000) ?_ ⟨by simp,by simp only;omega,by simp,by simp⟩ (by simp only;omega)
 intro rec x hI hr
 obtain⟨h1,h2,h3,h4⟩:=hI
 by_cases hlt:x.2.toNat<b.size
 ·obtain⟨u1,u2,u3⟩:=wV0 b x.2.toNat
  have hs:ri0 b x.2=some ((x.2.toNat:Int),((Utf8.decode b x.2.toNat).1:Int),((x.2.toNat+(Utf8.decode b x.2.toNat).2:Nat):Int)):=by
   unfold ri0
   simp[hlt]
  have e1:IntKind.i64.wrap (((Utf8.decode b x.2.toNat).1:Nat):Int)=(((Utf8.decode b x.2.toNat).1:Nat):Int):=w64 (by omega) (by omega)
  have hcat:L7 8 x.1 [(((Utf8.decode b x.2.toNat).1:Nat):Int)]=some (x.1++[(((Utf8.decode b x.2.toNat).1:Nat):Int)]):=B8 (by omega) (by simp;omega)
  simp only[hlt,decide_true,cond_true,hs,b9,e1,cG0,hcat]
  by_cases hz:eL0 (((Utf8.decode b x.2.toNat).1:Nat):Int)<0
  ·simp[hz]
  ·simp only[hz,decide_false,cond_false]
   exact hr _ ⟨by omega,by simp only;omega,by simp only[List.length_append,List.length_singleton];omega,by simp only[List.length_append,List.length_singleton];omega⟩ (by simp only;omega)
 ·simp only[hlt,decide_false,cond_false]
  exact⟨_,rfl,.inl rfl,h4⟩
theorem qF0{b:ByteArray}{i:Int}(h0:0<=i)(h:i.toNat<b.size):∃ v,kI0 b i=some v:=by
 unfold kI0
 have:b[i.toNat]?=some b[i.toNat]:=getElem?_pos b i.toNat h
 simp[h0,this]
theorem xa0(b:ByteArray):∃ r,cD0 b=some r:=by
 unfold cD0
 cases he:(b.toList==(ByteArray.mk #[]).toList)with
 | true=>exact⟨_,rfl⟩
 | false =>
  simp only[cond_false]
  by_cases h40:(40:Int)<(b.size:Int)
  ·simp only[h40,decide_true,cond_true];exact⟨_,rfl⟩
  ·have hpos:0<b.size:=by
    refine Nat.pos_of_ne_zero fun hz=>?_
    have hb:b=ByteArray.mk #[]:=by
     cases b with
     | mk d=>cases d with
      | mk l=>cases l with
       | nil=>rfl
       | cons x l=>simp[ByteArray.size]at hz
    rw[hb]at he
    simp at he
   obtain⟨r,hr,hr2,hr3⟩:=qm0 b (by omega)
   simp only[h40,decide_false,cond_false,hr,b9]
   rcases hr2 with hr2 | hr2
   ·obtain⟨v7,h7⟩:=qF0 (b:=b) (i:=0) (by omega) (by simpa using hpos)
    have e1:IntKind.i64.wrap ((b.size:Int)-1)=(b.size:Int)-1:=w64 (by omega) (by omega)
    obtain⟨v11,h11⟩:=qF0 (b:=b) (i:=(b.size:Int)-1) (by omega) (by omega)
    have hc:∃ v,strings_Contains (b,ByteArray.mk #[32,32])=some v:=by
     unfold strings_Contains
     have:decide (b.size<4294967281)=true:=by simp only[decide_eq_true_eq];omega
     simp only[this,cond_true]
     exact⟨_,rfl⟩
    obtain⟨v13,h13⟩:=hc
    simp only[hr2,decide_true,Bool.not_true,cond_false,h7,b9,e1,h11,h13]
    cases decide (v7=32)with
    | true=>exact⟨_,rfl⟩
    | false =>
     simp only[cond_false]
     cases decide (v11=32)with
     | true=>exact⟨_,rfl⟩
     | false =>
      simp only[cond_false]
      cases v13 with
      | true=>exact⟨_,rfl⟩
      | false =>
       simp only[cond_false,cG0,b9]
       have:=p8 (A:=Unit) r.1 (β:=List Int×Int) (F:=fun k15 x15 =>
        bif decide (x15<(r.1.length:Int))then b8 (nth r.1 x15) fun v18=>bif !decide (eL0 v18=0)then some (r.1,0)else k15 (IntKind.i64.wrap (x15+1))else some ([],14)) (fun i _=>(i:Int)) (fun _ rest=>some (bif rest.any (fun c=>!decide (eL0 c=0))then (r.1,0)else ([],14))) (by omega) ?_ ?_ ()
       ·exact⟨_,this⟩
       ·intro rec a
        simp only[y4,cond_false,List.any_nil]
       ·intro rec i a x rest hi hd hr'
        simp only[y0 hi,cond_true,l8 hd,b9,r7 hi (show r.1.length<2^62 by omega),List.any_cons,hr' ()]
        cases !decide (eL0 x=0)<;>rfl
   ·simp only[hr2]
    exact⟨_,rfl⟩
theorem jJ0(b:ByteArray):∃ c,V6 b=some c:=by
 obtain⟨r,hr⟩:=xa0 b
 unfold V6
 rw[hr]
 exact⟨_,rfl⟩
end Go.Ab
namespace Go.Ab
open Go Go.Sort Go.Proofs Go.Shelf
abbrev Ft:=Int×Int×Int×ByteArray×List Int
theorem W5{α:Type}(xs:List α)(hl:xs.length<=1000000)(P:α->Option Bool)(p:α->Bool)(hp:∀ x∈xs,P x=some (p x)) :
  rounds (α:=Int) (β:=Bool) (fun k2 x2 =>
   bif decide (x2<((xs.length:Nat):Int))then b8 (nth xs x2) fun v5=>b8 (P v5) fun v10=>bif v10 then some (decide ((0:Int)<=x2))else k2 (IntKind.i64.wrap (x2+(1:Int)))else some false) (0:Int)=some (xs.any p):=by
 refine p8 (A:=Unit) xs (fun i _=>(i:Int)) (fun _ rest=>some (rest.any p)) (by omega) ?_ ?_ ()
 ·intro rec a
  simp only[y4,cond_false,List.any_nil]
 ·intro rec i a x rest hi hd hr
  have hx:x∈xs:=by
   have:x∈xs.drop i:=by rw[hd];simp
   exact List.mem_of_mem_drop this
  have e:decide ((0:Int)<=(i:Int))=true:=by simp
  simp only[y0 hi,cond_true,l8 hd,b9,hp x hx,r7 hi (show xs.length<2^62 by omega),List.any_cons,hr (),e]
  cases p x<;>rfl
def p1(f:Ft):Bool:=decide ((64:Int)<(f.2.2.2.2.length:Int))
theorem oX0(l:List Ft)(hl:l.length<=1000000):r8 (l,())=some (l.any p1):=by
 unfold r8
 simp only[b9]
 exact W5 l hl _ p1 fun x _=>rfl
def p2(f:Ft):Bool:=decide (f.1<1)||(decide (1073741824<f.1)||(decide (f.2.2.1<1)||decide (9<f.2.2.1)))
theorem ow0(l:List Ft)(hl:l.length<=1000000):j8 (l,())=some (l.any p2):=by
 unfold j8
 simp only[b9]
 refine W5 l hl _ p2 fun x _=>?_
 unfold U6 p2
 simp only[b9]
 cases decide (x.1<1)<;>cases decide (1073741824<x.1)<;>cases decide (x.2.2.1<1)<;>rfl
theorem tY0(k:Int):∃ s,B4 k=some s:=by
 unfold B4
 repeat' (first | exact⟨_,rfl⟩ | (generalize decide (k=_)=c;cases c<;>simp only[cond_true,cond_false]))
noncomputable def X4(k:Int):Int:=(B4 k).getD 0
theorem dN0(k:Int):B4 k=some (X4 k):=by
 obtain⟨s,hs⟩:=tY0 k
 simp[X4,hs]
noncomputable def p3(f:Ft):Bool:=decide (X4 f.2.1=0)
noncomputable def wE0(b:ByteArray):Int:=(V6 b).getD 0
theorem xw0(b:ByteArray):V6 b=some (wE0 b):=by
 obtain⟨s,hs⟩:=jJ0 b
 simp[wE0,hs]
theorem oW0(l:List Ft)(hl:l.length<=1000000):j9 (l,())=some (l.any p3):=by
 unfold j9
 simp only[b9]
 refine W5 l hl _ p3 fun x _=>?_
 unfold T9 p3
 simp only[dN0,b9]
noncomputable def p4(f:Ft):Bool:=bif !(f.2.2.2.1.toList==(ByteArray.mk #[]).toList)then !decide (wE0 f.2.2.2.1=0)else false
theorem pj0(l:List Ft)(hl:l.length<=1000000):l5 (l,())=some (l.any p4):=by
 unfold l5
 simp only[b9]
 refine W5 l hl _ p4 fun x _=>?_
 unfold U4 p4
 simp only[xw0,b9]
 cases (!(x.2.2.2.1.toList==(ByteArray.mk #[]).toList))<;>rfl
noncomputable def p5(f:Ft):Bool:=bif decide ((f.2.2.2.2.length:Int)=0)then true else bif decide (X4 f.2.1=1)then decide ((1:Int)<(f.2.2.2.2.length:Int))else false
theorem pv0(l:List Ft)(hl:l.length<=1000000):j6 (l,())=some (l.any p5):=by
 unfold j6
 simp only[b9]
 refine W5 l hl _ p5 fun x _=>?_
 unfold U0 p5
 simp only[dN0,b9]
 cases decide ((x.2.2.2.2.length:Int)=0)<;>cases decide (X4 x.2.1=1)<;>rfl
noncomputable def fP0(ns:List Nd)(ars:List Ar)(fs:List Int)(k:Int)(id:Int):Bool :=
 bif decide (X4 k=1)then !(F4 ns id).isSome else bif decide (X4 k=2)then !(bK0 ars id).isSome else bif decide (X4 k=3)then !decide (id∈fs)else true
namespace O7
variable {ns:List Nd} {ars:List Ar} {fs:List Int} (h:O7 ns ars fs)
include h
theorem missing_1_eq(id:Int)(f:Ft):K2 (id,(f.1,f.2.1,f.2.2.1,f.2.2.2.1,f.2.2.2.2),(ns,ars,fs))=some (fP0 ns ars fs f.2.1 id):=by
 have hN:=h.lenN
 have hF:=h.lenF
 unfold K2 fP0
 simp only[dN0,b9,cB0 ns ars fs id (by omega),h.Arc_eq,dT0,I3 fs id (by omega)]
 cases decide (X4 f.2.1=1)<;>cases decide (X4 f.2.1=2)<;>cases decide (X4 f.2.1=3)<;>cases F4 ns id<;>cases bK0 ars id<;>rfl
theorem missing_eq(f:Ft)(hl:f.2.2.2.2.length<=1000000):N8 ((ns,ars,fs),(f.1,f.2.1,f.2.2.1,f.2.2.2.1,f.2.2.2.2))=some (f.2.2.2.2.any (fP0 ns ars fs f.2.1)):=by
 unfold N8 y8
 simp only[b9]
 rw[W5 f.2.2.2.2 hl _ (fP0 ns ars fs f.2.1) fun x _=>h.missing_1_eq x f]
 rfl
theorem Check_6_eq(l:List Ft)(l':List Ft)(hl:l.length<=1000000)(hp:∀ f∈l,f.2.2.2.2.length<=1000000):j7 (l,(ns,ars,fs,l'))=some (l.any fun f=>f.2.2.2.2.any (fP0 ns ars fs f.2.1)):=by
 unfold j7
 simp only[b9]
 refine W5 l hl _ _ fun f hf=>?_
 unfold U5
 simp only[h.missing_eq f (hp f hf),b9]
end O7
def uX0:List Int->Bool
 | []=>true
 | [_]=>true
 | a::b::l=>!decide (b<=a)&&uX0 (b::l)
theorem tJ0(l:List Int)(hl:l.length<=1000000):W6 l=some (uX0 l):=by
 unfold W6
 cases l with
 | nil=>exact iH0 fun rec=>rfl
 | cons p0 l =>
  simp only[List.length_cons]at hl
  refine(l9 (A:=Int) l (fun i _=>((i+1:Nat):Int)) (fun a rest=>some (uX0 (a::rest))) (fun i a=>(p0::l)[i]?=some a) (by omega) ?_ ?_ p0 rfl)
  ·intro rec a hI
   have e:((p0::l).length:Int)=((l.length+1:Nat):Int):=by simp
   simp only[e,y4,cond_false,uX0]
  ·intro rec i a x rest hi hI hd hr
   have hx:(p0::l)[i+1]?=some x:=by
    rw[List.getElem?_cons_succ,<-C8];exact l8 hd
   have e:((p0::l).length:Int)=((l.length+1:Nat):Int):=by simp
   have e1:IntKind.i64.wrap (((i+1:Nat):Int)-1)=(i:Int):=by rw[w64 (by omega) (by omega)];omega
   have e2:IntKind.i64.wrap (((i+1:Nat):Int)+1)=((i+1+1:Nat):Int):=r7 (n:=2000000) (by omega) (by omega)
   simp only[e,y0 (show i+1<l.length+1 by omega),cond_true,e1,C8,hI,hx,b9,e2,uX0]
   have:=hr x hx
   rw[this]
   cases decide (x<=a)<;>rfl
end Go.Ab
namespace Go.Ab
open Go Go.Sort Go.Proofs Go.Shelf
abbrev KP:=Int×Int
def qP:KP->KP->Bool:=fun (a b:Int×Int)=>(decide (a.1=b.1)&&decide (a.2=b.2))
def sK0(S:List (KP×Bool))(k:KP):Bool:=(lkp qP k S).getD false
def fs0(k:Int):List Int->List (KP×Bool)->Option (List (KP×Bool))
 | [],S=>some S
 | p::r,S=>bif sK0 S (k,p)then none else fs0 k r (O6 qP (k,p) true S)
noncomputable def hb0:List Ft->List (KP×Bool)->Bool
 | [],_=>false
 | f::r,S=>bif decide (X4 f.2.1=2)then hb0 r S else
  match fs0 (bif decide (X4 f.2.1=3)then f.2.1 else 0) f.2.2.2.2 S with
  | some S'=>hb0 r S'
  | none=>true
theorem gu0(k:Int)(ps:List Int)(hl:ps.length<=1000000)(K:Int×List (KP×Bool)->Option Int)(V:Option Int)(S:List (KP×Bool)) :
  rounds (α:=Int×List (KP×Bool)) (β:=Int) (fun k48 x48 =>
   bif decide (x48.1<((ps.length:Nat):Int))then
    b8 (nth ps x48.1) fun v52 =>
    b8 (orO (lkp (fun (a b:Int×Int)=>(decide (a.1=b.1)&&decide (a.2=b.2))) (k,v52) x48.2) (some false)) fun v53 =>
    bif v53 then V else k48 (IntKind.i64.wrap (x48.1+(1:Int)),O6 (fun (a b:Int×Int)=>(decide (a.1=b.1)&&decide (a.2=b.2))) (k,v52) true x48.2)
   else K x48) ((0:Int),S)=match fs0 k ps S with | some S'=>K (((ps.length:Nat):Int),S') | none=>V:=by
 refine p8 (A:=List (KP×Bool)) ps (fun i a=>((i:Int),a)) (fun a rest=>match fs0 k rest a with | some S'=>K (((ps.length:Nat):Int),S') | none=>V) (by omega) ?_ ?_ S
 ·intro rec a
  simp only[y4,cond_false,fs0]
 ·intro rec i a x rest hi hd hr
  have e:orO (lkp (fun (a b:Int×Int)=>(decide (a.1=b.1)&&decide (a.2=b.2))) (k,x) a) (some false)=some (sK0 a (k,x)):=by
   unfold sK0
   show orO (lkp qP (k,x) a) (some false)=_
   cases lkp qP (k,x) a<;>rfl
  simp only[y0 hi,cond_true,l8 hd,b9,e,r7 hi (show ps.length<2^62 by omega),fs0]
  cases sK0 a (k,x)with
  | true=>rfl
  | false=>exact hr _
def disG:Option Int->List Ft->Bool
 | _,[]=>false
 | pr,f::r=>bif (match pr with | some p=>decide (f.1<=p) | none=>false)||!(uX0 f.2.2.2.2)then true else disG (some f.1) r
noncomputable def G9(ns:List Nd)(ars:List Ar)(fs:List Int)(l:List Ft):Int :=
 bif !decide (E5 ns ars fs=0)then E5 ns ars fs else
 bif decide (128<(l.length:Int))then 3 else
 bif l.any p1 then 3 else
 bif disG none l then 10 else
 bif l.any p2 then 2 else
 bif l.any p3 then 9 else
 bif l.any p4 then 14 else
 bif l.any p5 then 1 else
 bif l.any (fun f=>f.2.2.2.2.any (fP0 ns ars fs f.2.1))then 7 else
 bif hb0 l []then 13 else 0
theorem M4(ns:List Nd)(ars:List Ar)(fs:List Int)(l:List Ft):D9 (ns,ars,fs,l)=some (G9 ns ars fs l):=by
 unfold D9 G9
 simp only[gH0,b9]
 cases hr:decide (E5 ns ars fs=0)with
 | false=>simp
 | true =>
  have hp:O7 ns ars fs:=by
   refine W1.1 ?_
   have hz:E5 ns ars fs=0:=by simpa using hr
   unfold E5 at hz
   by_cases h0:L5 ns ars fs=0
   ·exact h0
   ·simp[h0]at hz
  simp only[Bool.not_true,cond_false]
  cases h128:decide ((128:Int)<(l.length:Int))with
  | true=>rfl
  | false =>
   have hl:l.length<=1000000:=by simp only[decide_eq_false_iff_not]at h128;omega
   simp only[cond_false,oX0 l hl,b9]
   cases h1:l.any p1 with
   | true=>rfl
   | false =>
    have hpart:∀ f∈l,f.2.2.2.2.length<=1000000:=fun f hf=>by
     have:=List.any_eq_false.1 h1 f hf
     simp only[p1,decide_eq_true_eq]at this
     omega
    have hlen:l.length<=128:=by simp only[decide_eq_false_iff_not]at h128;omega
    simp only[cond_false,ow0 l hl,oW0 l hl,pj0 l hl,pv0 l hl,hp.Check_6_eq l l hl hpart,b9]
    refine(l9 (A:=Option Int) l (fun i _=>((i:Int),(i:Int))) (fun a rest=>some (bif disG a rest then (10:Int)else bif l.any p2 then 2 else bif l.any p3 then 9 else bif l.any p4 then 14 else bif l.any p5 then 1 else bif l.any (fun f=>f.2.2.2.2.any (fP0 ns ars fs f.2.1))then 7 else bif hb0 l []then 13 else 0))
     (fun i a=>match a with | none=>i=0 | some p=>0<i/\∃ g:Ft,l[i-1]?=some g/\g.1=p) (by omega) ?_ ?_ none rfl).trans ?_
    rotate_left 2
    ·rfl
    ·intro rec a hI
     simp only[y4,cond_false,disG]
     cases l.any p2 with
     | true=>rfl
     | false =>
      cases l.any p3 with
      | true=>rfl
      | false =>
       cases l.any p4 with
       | true=>rfl
       | false =>
        cases l.any p5 with
        | true=>rfl
        | false =>
         cases l.any (fun f=>f.2.2.2.2.any (fP0 ns ars fs f.2.1))with
         | true=>rfl
         | false =>
          simp only[cond_false]
          refine(p8 (A:=List (KP×Bool)) l (fun i a=>((i:Int),a)) (fun a rest=>some (bif hb0 rest a then (13:Int)else 0)) (by omega) ?_ ?_ [])
          ·intro rec a
           simp only[y4,cond_false,hb0]
          ·intro rec i a x rest hi hd hr
           have hxm:x∈l:=by
            have:x∈l.drop i:=by rw[hd];simp
            exact List.mem_of_mem_drop this
           have e2:IntKind.i64.wrap ((i:Int)+1)=((i+1:Nat):Int):=r7 (n:=2000000) (by omega) (by omega)
           have e0:decide ((0:Int)<=(i:Int))=true:=by simp
           simp only[y0 hi,cond_true,l8 hd,b9,dN0,e2,e0,hb0]
           cases decide (X4 x.2.1=2)with
           | true=>exact hr a
           | false =>
            simp only[cond_false]
            cases decide (X4 x.2.1=3)with
            | true =>
             simp only[cond_true]
             refine(gu0 x.2.1 x.2.2.2.2 (hpart x hxm) _ _ a).trans ?_
             cases fs0 x.2.1 x.2.2.2.2 a with
             | none=>rfl
             | some S'=>exact hr S'
            | false =>
             simp only[cond_false]
             refine(gu0 0 x.2.2.2.2 (hpart x hxm) _ _ a).trans ?_
             cases fs0 0 x.2.2.2.2 a with
             | none=>rfl
             | some S'=>exact hr S'
    ·intro rec i a x rest hi hI hd hr
     have hxm:x∈l:=by
      have:x∈l.drop i:=by rw[hd];simp
      exact List.mem_of_mem_drop this
     have e2:IntKind.i64.wrap ((i:Int)+1)=((i+1:Nat):Int):=r7 (n:=2000000) (by omega) (by omega)
     have e0:decide ((0:Int)<=(i:Int))=true:=by simp
     have hx:l[i]?=some x:=by rw[<- C8];exact l8 hd
     have hn:=hr (some x.1) ⟨by omega,x,by simpa using hx,rfl⟩
     simp only[y0 hi,cond_true,l8 hd,b9,e2,e0,tJ0 x.2.2.2.2 (hpart x hxm),hn,disG]
     cases a with
     | none =>
      have hi0:i=0:=hI
      subst hi0
      have e1:decide ((1:Int)<((0+1:Nat):Int))=false:=by decide
      simp only[e1,cond_false,Bool.false_or]
      cases uX0 x.2.2.2.2<;>rfl
     | some p =>
      obtain⟨hi0,g,hg,rfl⟩:=hI
      have e1:decide ((1:Int)<((i+1:Nat):Int))=true:=by simp only[decide_eq_true_eq];omega
      have e3:IntKind.i64.wrap (((i+1:Nat):Int)-2)=((i-1:Nat):Int):=by rw[w64 (by omega) (by omega)];omega
      simp only[e1,cond_true,e3,C8,hg,b9]
      cases decide (x.1<=g.1)<;>cases uX0 x.2.2.2.2<;>rfl
end Go.Ab
namespace Go.Ab
open Go Go.Sort Go.Proofs Go.Shelf
def mvd(ars:List Ar):List Nd->List Nd->Prop
 | [],[]=>True
 | n::l,n'::l'=>n'.1=n.1/\(I4 ars n.1≠0->n'=n)/\mvd ars l l'
 | _,_=>False
theorem qD0{ars:List Ar}:∀ {ns ns':List Nd},mvd ars ns ns'->ns'.map (·.1)=ns.map (·.1)
 | [],[],_=>rfl
 | n::l,n'::l',h=>by rw[List.map_cons,List.map_cons,h.1,qD0 h.2.2]
 | [],_::_,h=>h.elim
 | _::_,[],h=>h.elim
theorem ev0{ars:List Ar}{id:Int}(hd:I4 ars id≠0):∀ {ns ns':List Nd},mvd ars ns ns'->F4 ns' id=F4 ns id
 | [],[],_=>rfl
 | n::l,n'::l',h=>by
  have ih:=ev0 hd h.2.2
  unfold F4 at *
  rw[List.find?_cons,List.find?_cons,h.1]
  by_cases e:n.1=id
  ·rw[decide_eq_true e]
   simp only
   rw[h.2.1 (by rw[e];exact hd)]
  ·rw[decide_eq_false e]
   exact ih
 | [],_::_,h=>h.elim
 | _::_,[],h=>h.elim
theorem nl0{ars:List Ar}(id:Int):∀ {ns ns':List Nd},mvd ars ns ns'->(F4 ns' id).isSome=(F4 ns id).isSome
 | [],[],_=>rfl
 | n::l,n'::l',h=>by
  have ih:=nl0 id h.2.2
  unfold F4 at *
  rw[List.find?_cons,List.find?_cons,h.1]
  by_cases e:n.1=id
  ·rw[decide_eq_true e];rfl
  ·rw[decide_eq_false e]
   exact ih
 | [],_::_,h=>h.elim
 | _::_,[],h=>h.elim
theorem rU0{ars:List Ar}:∀ {ns ns':List Nd},mvd ars ns ns'->∀ n'∈ns',n'∈ns\/I4 ars n'.1=0
 | [],[],_,n',hn=>by simp at hn
 | n::l,n'::l',h,m,hm=>by
  rcases List.mem_cons.1 hm with rfl | hm
  ·by_cases e:I4 ars n.1=0
   ·right;rw[h.1];exact e
   ·left;rw[h.2.1 e];exact List.mem_cons_self
  ·rcases rU0 h.2.2 m hm with q | q
   ·exact Or.inl (List.mem_cons_of_mem _ q)
   ·exact Or.inr q
 | [],_::_,h,_,_=>h.elim
 | _::_,[],h,_,_=>h.elim
theorem eR0{ars:List Ar}{a:Ar}(ha:a∈ars):I4 ars a.2.1≠0/\I4 ars a.2.2.1≠0:=by
 induction ars with
 | nil=>simp at ha
 | cons b l ih =>
  unfold I4 at *
  rw[List.map_cons,List.sum_cons,List.map_cons,List.sum_cons]
  rcases List.mem_cons.1 ha with rfl | ha
  ·rw[if_pos rfl,if_pos rfl]
   constructor<;>omega
  ·have:=ih ha
   omega
variable {ars:List Ar} {ns ns':List Nd}
theorem hM0(h:mvd ars ns ns')(id:Int):pathOf ns' ars id=pathOf ns ars id:=by
 unfold pathOf
 cases ha:bK0 ars id with
 | none=>rfl
 | some a =>
  have hm:a∈ars:=List.mem_of_find?_eq_some ha
  simp only
  rw[ev0 (eR0 hm).1 h,ev0 (eR0 hm).2 h]
theorem kj0(h:mvd ars ns ns'):∀ l:List Ar,L2 ns' ars l=L2 ns ars l
 | []=>rfl
 | a::l=>by simp only[L2,hM0 h,kj0 h l]
theorem raw_mv(h:mvd ars ns ns')(node:Int)(l:List Ar):N0 ns' ars node l=N0 ns ars node l:=by
 unfold N0
 refine congrArg (fun f=>List.flatMap f l) (funext fun a=>?_)
 unfold gb0
 rw[hM0 h]
theorem nq0{node:Int}(hd:I4 ars node=0)(ns:List Nd):N0 ns ars node ars=[]:=by
 unfold N0
 refine List.flatMap_eq_nil_iff.2 fun a ha=>?_
 have h1:a.2.1≠node:=fun e=>(eR0 ha).1 (by rw[e];exact hd)
 have h2:a.2.2.1≠node:=fun e=>(eR0 ha).2 (by rw[e];exact hd)
 unfold gb0
 cases pathOf ns ars a.1 with
 | none=>rfl
 | some p=>simp only;rw[if_neg h1,if_neg h2];rfl
theorem oU0(h:mvd ars ns ns'){n n':Nd}(h1:n'.1=n.1)(h2:I4 ars n.1≠0->n'=n):O7.aroundL ns' ars n'=O7.aroundL ns ars n:=by
 by_cases e:I4 ars n.1=0
 ·unfold O7.aroundL
  rw[h1,nq0 e,nq0 e]
  rfl
 ·rw[h2 e]
  unfold O7.aroundL
  rw[raw_mv h]
theorem ku0(h:mvd ars ns ns'):O7.around ns' ars=O7.around ns ars:=by
 have go:∀ {l l':List Nd},mvd ars l l'->l'.map (O7.aroundL ns' ars)=l.map (O7.aroundL ns ars):=by
  intro l
  induction l with
  | nil =>
   intro l' hl
   cases l' with
   | nil=>rfl
   | cons _ _=>exact hl.elim
  | cons n l ih =>
   intro l' hl
   cases l' with
   | nil=>exact hl.elim
   | cons n' l'=>rw[List.map_cons,List.map_cons,ih hl.2.2,oU0 h hl.1 hl.2.1]
 exact go h
theorem rF0(h:mvd ars ns ns'):O7.cyclesOf ns' ars=O7.cyclesOf ns ars:=by
 have e1:O7.dartsL ns' ars=O7.dartsL ns ars:=by unfold O7.dartsL;rw[ku0 h]
 have e2:O7.nextD ns' ars=O7.nextD ns ars:=by funext d;unfold O7.nextD O7.nextM;rw[ku0 h]
 unfold O7.cyclesOf
 rw[e1,e2]
theorem pQ0(h:mvd ars ns ns'):D1 ns' ars=D1 ns ars:=by
 unfold D1 ao0
 refine congrArg (fun f=>List.foldl f [] ars) (funext fun m=>funext fun a=>?_)
 rw[hM0 h]
theorem gq0(h:mvd ars ns ns'):∀ c:List Int,J5 ns' ars c=J5 ns ars c
 | []=>rfl
 | d::c=>by
  have e:px0 ns' ars d=px0 ns ars d:=by unfold px0;rw[hM0 h]
  simp only[J5,e,gq0 h c]
def t3A(x:V0):Int×List Int×List (List Int):=(x.1,x.2.1,x.2.2.1)
theorem wg0(L:List V0)(k:Nat)(c:Int):(addN L k c).map t3A=L.map t3A:=by
 unfold addN
 cases hx:L[k]? with
 | none=>rfl
 | some x =>
  simp only[List.map_set]
  refine List.ext_getElem? fun i=>?_
  rw[List.getElem?_set]
  by_cases e:k=i
  ·subst e
   have hk:k<L.length:=by
    rcases Nat.lt_or_ge k L.length with q | q
    ·exact q
    ·rw[List.getElem?_eq_none q]at hx;cases hx
   rw[if_pos rfl,if_pos (by simpa using hk),List.getElem?_map,hx]
   rfl
  ·rw[if_neg e]
theorem mR0{m:List (Int×List Pt)}:∀ (R:List Nd) (L:List V0),(aloF ns ars m R L).map t3A=L.map t3A
 | [],_=>rfl
 | n::R,L=>by
  simp only[aloF]
  rw[mR0 R]
  cases decide (I4 ars n.1=0)
  ·rfl
  ·exact wg0 L _ _
theorem lk0(h:mvd ars ns ns'):(N1 ns' ars (D1 ns' ars) (O7.cyclesOf ns' ars)).map t3A=(N1 ns ars (D1 ns ars) (O7.cyclesOf ns ars)).map t3A:=by
 have e:J5 ns' ars=J5 ns ars:=funext (gq0 h)
 rw[rF0 h,pQ0 h]
 unfold N1 bigF
 rw[mR0,mR0,e]
theorem eg0{k:Nat}:∀ {L L':List V0} (b:Bool) (seen out:List Int),L.map t3A=L'.map t3A->L1 ars k b L seen out=L1 ars k b L' seen out
 | [],[],_,_,_,_=>rfl
 | [],_::_,_,_,_,h=>by simp at h
 | _::_,[],_,_,_,h=>by simp at h
 | x::L,y::L',b,seen,out,h=>by
  simp only[List.map_cons,List.cons.injEq,t3A,Prod.mk.injEq]at h
  have hc:cF0 x=cF0 y:=by unfold cF0;rw[h.1.2.1,h.1.2.2]
  have hL:L.map t3A=L'.map t3A:=h.2
  cases b with
  | true=>simp only[L1];rw[hc,eg0 false seen (out++[0]) hL]
  | false =>
   simp only[L1]
   rw[hc,h.1.2.1]
   rw[eg0 false _ _ hL]
theorem jc0{id:Int}(hp:(ns.map (·.1)).Pairwise (·<·)):lkp qI id (mkMap ns [])=(F4 ns id).map fun n=>(n.2.1,n.2.2):=by
 have at':∀ {n:Nd} {ns:List Nd} (m:List (Int×Pt)),(ns.map (·.1)).Pairwise (·<·)->n∈ns->lkp qI n.1 (mkMap ns m)=some (n.2.1,n.2.2):=by
  intro n ns
  induction ns with
  | nil=>intro m _ hn;simp at hn
  | cons u ns ih =>
   intro m hp hn
   rw[List.map_cons,List.pairwise_cons]at hp
   rcases List.mem_cons.1 hn with rfl | hn
   ·show lkp qI n.1 (mkMap ns (O6 qI n.1 (n.2.1,n.2.2) m))=_
    rw[hB0 n.1 ns _ (fun v hv=>by have:=hp.1 v.1 (List.mem_map_of_mem hv);omega),Q8]
    simp
   ·show lkp qI n.1 (mkMap ns (O6 qI u.1 (u.2.1,u.2.2) m))=_
    exact ih _ hp.2 hn
 cases hn:F4 ns id with
 | none =>
  rw[hB0 id ns [] (fun n hm e=>by
   have:=List.find?_eq_none.1 hn n hm
   simp[e]at this)]
  rfl
 | some n =>
  have e:n.1=id:=by have:=List.find?_some hn;simpa using this
  have:=at' [] hp (List.mem_of_find?_eq_some hn)
  rw[e]at this
  exact this
theorem lb0{s:Sg}{m m':List (Int×Pt)}:∀ {l:List Sg},(∀ t∈l,bd0 s t m'=bd0 s t m)->eb0 s m' l=eb0 s m l
 | [],_=>rfl
 | t::l,h=>by simp only[eb0];rw[h t (by simp),lb0 fun x hx=>h x (by simp[hx])]
theorem uZ0{m m':List (Int×Pt)}:∀ {l:List Sg},(∀ s∈l,∀ t∈l,bd0 s t m'=bd0 s t m)->(∀ s∈l,ns.all (T6 s)=true->ns'.all (T6 s)=true)->goB ns m l=true->goB ns' m' l=true
 | [],_,_,_=>rfl
 | s::l,h1,h2,h=>by
  simp only[goB,Bool.and_eq_true]at h ⊢
  refine⟨?_,h2 s (by simp) h.2.1,uZ0 (fun s hs t ht=>h1 s (by simp[hs]) t (by simp[ht])) (fun s hs=>h2 s (by simp[hs])) h.2.2⟩
  rw[lb0 fun t ht=>h1 s (by simp) t (by simp[ht])]
  exact h.1
theorem jg0:∀ {l:List Ar} {r:List Sg},L2 ns ars l=some r->∀ s∈r,∃ a∈l,s.1.2.1=a.2.1/\s.1.2.2.1=a.2.2.1
 | [],r,h,s,hs=>by simp only[L2,Option.some.injEq]at h;subst h;simp at hs
 | a::l,r,h,s,hs=>by
  simp only[L2]at h
  cases hp:pathOf ns ars a.1 with
  | none=>rw[hp]at h;cases h
  | some p =>
   rw[hp]at h
   simp only at h
   cases hc:(decide (a.2.1=a.2.2.1)&&decide (p.length<4))||!(lI0 p)with
   | true=>rw[hc]at h;cases h
   | false =>
    rw[hc,cond_false]at h
    cases hr:L2 ns ars l with
    | none=>rw[hr]at h;cases h
    | some r' =>
     rw[hr]at h
     simp only[Option.some.injEq]at h
     subst h
     rcases List.mem_append.1 hs with q | q
     ·obtain⟨i,_,rfl⟩:=List.mem_map.1 q
      exact⟨a,by simp,rfl,rfl⟩
     ·obtain⟨b,hb,e⟩:=jg0 hr s q
      exact⟨b,by simp[hb],e⟩
theorem ws0{fs:List Int}(h:O7 ns ars fs)(hm:mvd ars ns ns')(hp:∀ n∈ns',U7 (n.2.1,n.2.2)=true)(hd:lK0 [] ns'=false)
  (off:∀ r,L2 ns ars ars=some r->∀ s∈r,∀ n∈ns',I4 ars n.1=0->onP (sgA s) (sgB s) (n.2.1,n.2.2)=false):O7 ns' ars fs:=by
 have hids:=qD0 hm
 have hlen:ns'.length=ns.length:=by have:=congrArg List.length hids;simpa using this
 refine⟨?_,by rw[hids];exact h.ascN,h.ascA,h.ascF,by rw[hids];exact h.numN,h.numA,h.numF,List.all_eq_true.2 hp,h.posA,?_,?_⟩
 ·have:=h.sml
  unfold cq0 at *
  rw[hlen]
  exact this
 ·have:=h.conn
  unfold T3 at *
  rw[hids,hd]
  cases hd0:lK0 [] ns with
  | true=>rw[hd0]at this;simp at this
  | false=>rw[hd0]at this;exact this
 ·have:=h.plan
  unfold bg0 at *
  rw[kj0 hm]
  cases hr:L2 ns ars ars with
  | none=>rw[hr]at this;cases this
  | some r =>
   rw[hr]at this
   simp only at this ⊢
   have hperm:(U8 nS0 r).Perm r:=O8 (aN0 r)
   have asc:=I9 h.ascN
   have asc':(ns'.map (·.1)).Pairwise (·<·):=by rw[hids];exact asc
   have hat:∀ id,I4 ars id≠0->ek0 (mkMap ns' []) id=ek0 (mkMap ns []) id:=fun id hdg=>by
    unfold ek0
    rw[jc0 asc',jc0 asc,ev0 hdg hm]
   have hseg:∀ s∈U8 nS0 r,I4 ars s.1.2.1≠0/\I4 ars s.1.2.2.1≠0:=fun s hs=>by
    obtain⟨a,ha,e1,e2⟩:=jg0 hr s (hperm.mem_iff.1 hs)
    rw[e1,e2]
    exact eR0 ha
   refine uZ0 (fun s hs t ht=>?_) (fun s hs hall=>?_) this
   ·have h1:=hat _ (hseg s hs).1
    have h2:=hat _ (hseg s hs).2
    unfold bd0
    rw[h1,h2]
   ·refine List.all_eq_true.2 fun n hn=>?_
    rcases rU0 hm n hn with q | q
    ·exact List.all_eq_true.1 hall n q
    ·unfold T6
     rw[off r hr s (hperm.mem_iff.1 hs) n hn q]
     rfl
theorem wK0{fs:List Int}{l:List Ft}(h0:G9 ns ars fs l=0)(hp':O7 ns ars fs)(hm:mvd ars ns ns')(hp:∀ n∈ns',U7 (n.2.1,n.2.2)=true)(hd:lK0 [] ns'=false)
  (off:∀ r,L2 ns ars ars=some r->∀ s∈r,∀ n∈ns',I4 ars n.1=0->onP (sgA s) (sgB s) (n.2.1,n.2.2)=false):G9 ns' ars fs l=0:=by
 have hok:=ws0 hp' hm hp hd off
 have hreg:E5 ns' ars fs=E5 ns ars fs:=by
  unfold E5
  rw[W1.2 hok,W1.2 hp',eg0 true [] [] (lk0 hm)]
 have hmiss:fP0 ns' ars fs=fP0 ns ars fs:=by
  funext k id
  unfold fP0
  rw[nl0 id hm]
 unfold G9 at *
 rw[hreg,hmiss]
 exact h0
end Go.Ab
namespace Go.Ab
open Go Go.Sort Go.Proofs Go.Shelf
namespace Dp
def pt(n:Nd):Pt:=(n.2.1,n.2.2)
def far(g2:Int)(p q:Pt):Prop:=p≠q/\¬ (p.1-q.1)*(p.1-q.1)+(p.2-q.2)*(p.2-q.2)<g2
theorem on0{g2:Int}{p q:Pt}(h:far g2 p q):far g2 q p:=by
 refine⟨fun e=>h.1 e.symm,?_⟩
 have e1:(q.1-p.1)*(q.1-p.1)=(p.1-q.1)*(p.1-q.1):=by rw[<- Int.neg_mul_neg];congr 1<;>omega
 have e2:(q.2-p.2)*(q.2-p.2)=(p.2-q.2)*(p.2-q.2):=by rw[<- Int.neg_mul_neg];congr 1<;>omega
 rw[e1,e2]
 exact h.2
section
variable (g2:Int) (okS:Pt->Prop) (fc:Pt->Int)
def fits(cur:List Nd)(id:Int)(p0 at':Pt):Prop:=U7 at'=true/\(∀ n∈cur,n.1≠id->far g2 (pt n) at')/\okS at'/\fc at'=fc p0
def put(cur:List Nd)(id:Int)(p:Pt):List Nd:=cur.map fun n=>if n.1=id then (id,p.1,p.2)else n
def Step1(cur:List Nd)(n:Nd)(cur':List Nd):Prop:=cur'=cur\/(¬ fits g2 okS fc cur n.1 (pt n) (pt n)/\∃ p,fits g2 okS fc cur n.1 (pt n) p/\cur'=put cur n.1 p)
def Run(mov:Nd->Bool):List Nd->List Nd->List Nd->Prop
 | [],cur,fin=>fin=cur
 | n::l,cur,fin=>∃ c,(if mov n=true then Step1 g2 okS fc cur n c else c=cur)/\Run mov l c fin
def was(s:List Nd)(n:Nd):Prop:=fits g2 okS fc s n.1 (pt n) (pt n)
structure Inv(mov:Nd->Bool)(s:List Nd)(D:List Int)(cur:List Nd):Prop where
 ids:cur.map (·.1)=s.map (·.1)
 a:∀ n∈s,n∈cur\/n.1∈D
 b:∀ c∈cur,c∉s->U7 (pt c)=true/\okS (pt c)/\∀ d∈cur,d.1≠c.1->far g2 (pt d) (pt c)
 w:∀ n∈s,was g2 okS fc s n->n∈cur/\∀ d∈cur,d.1≠n.1->far g2 (pt d) (pt n)
 p:∀ c∈cur,∀ d∈cur,c.1≠d.1->pt c≠pt d
 deg:∀ c∈cur,c∈s\/∃ n∈s,n.1=c.1/\mov n=true
variable {g2 okS fc}
theorem cu0{cur:List Nd}{id:Int}{p:Pt}{c:Nd}(h:c∈put cur id p):(c∈cur/\c.1≠id)\/c=(id,p.1,p.2):=by
 obtain⟨n,hn,rfl⟩:=List.mem_map.1 h
 by_cases e:n.1=id
 ·rw[if_pos e];exact Or.inr rfl
 ·rw[if_neg e];exact Or.inl ⟨hn,e⟩
theorem mE0{cur:List Nd}{id:Int}{p:Pt}{c:Nd}(h:c∈cur)(hn:c.1≠id):c∈put cur id p:=List.mem_map.2 ⟨c,h,if_neg hn⟩
theorem pX0(cur:List Nd)(id:Int)(p:Pt):(put cur id p).map (·.1)=cur.map (·.1):=by
 unfold put
 rw[List.map_map]
 refine List.map_congr_left fun n _=>?_
 show (if n.1=id then (id,p.1,p.2)else n:Nd).1=n.1
 by_cases e:n.1=id
 ·rw[if_pos e];exact e.symm
 ·rw[if_neg e]
theorem kH0{s:List Nd}(hn:(s.map (·.1)).Nodup){m n:Nd}(hm:m∈s)(hn':n∈s)(e:m.1=n.1):m=n:=by
 induction s with
 | nil=>simp at hm
 | cons x s ih =>
  rw[List.map_cons,List.nodup_cons]at hn
  rcases List.mem_cons.1 hm with a | a<;>rcases List.mem_cons.1 hn' with b | b
  ·rw[a,b]
  ·exact(hn.1 (by rw[<- a,e];exact List.mem_map_of_mem b)).elim
  ·exact(hn.1 (by rw[<- b,<-e];exact List.mem_map_of_mem a)).elim
  ·exact ih hn.2 a b
theorem Inv.step{mov:Nd->Bool}{s:List Nd}{D:List Int}{cur cur':List Nd}(h:Inv g2 okS fc mov s D cur)(hs:(s.map (·.1)).Nodup){n:Nd}(hn:n∈s)(hm:mov n=true)(hD:n.1∉D)(st:Step1 g2 okS fc cur n cur'):Inv g2 okS fc mov s (n.1::D) cur':=by
 have hnc:n∈cur:=by
  rcases h.a n hn with q | q
  ·exact q
  ·exact(hD q).elim
 rcases st with rfl | ⟨hno,p,hf,rfl⟩
 ·exact⟨h.ids,fun m hm=>(h.a m hm).imp id fun q=>List.mem_cons_of_mem _ q,h.b,h.w,h.p,h.deg⟩
 ·obtain⟨f1,f2,f3,f4⟩:=hf
  refine⟨(pX0 _ _ _).trans h.ids,fun m hms=>?_,fun c hc hcs=>?_,fun m hms hw=>?_,fun c hc d hd hne=>?_,fun c hc=>?_⟩
  ·by_cases e:m.1=n.1
   ·right;rw[e];exact List.mem_cons_self
   ·rcases h.a m hms with q | q
    ·exact Or.inl (mE0 q e)
    ·exact Or.inr (List.mem_cons_of_mem _ q)
  ·rcases cu0 hc with ⟨hc,hcn⟩ | rfl
   ·obtain⟨b1,b2,b3⟩:=h.b c hc hcs
    refine⟨b1,b2,fun d hd hdn=>?_⟩
    rcases cu0 hd with ⟨hd,_⟩ | rfl
    ·exact b3 d hd hdn
    ·exact on0 (f2 c hc hcn)
   ·refine⟨f1,f3,fun d hd hdn=>?_⟩
    rcases cu0 hd with ⟨hd,hd2⟩ | rfl
    ·exact f2 d hd hd2
    ·exact(hdn rfl).elim
  ·obtain⟨w1,w2⟩:=h.w m hms hw
   have hne:m.1≠n.1:=fun e=>by
    have:=kH0 hs hms hn e
    subst this
    exact hno ⟨hw.1,w2,hw.2.2.1,rfl⟩
   refine⟨mE0 w1 hne,fun d hd hdn=>?_⟩
   rcases cu0 hd with ⟨hd,_⟩ | rfl
   ·exact w2 d hd hdn
   ·exact on0 (f2 m w1 hne)
  ·rcases cu0 hc with ⟨hc,hcn⟩ | rfl<;>rcases cu0 hd with ⟨hd,hdn⟩ | rfl
   ·exact h.p c hc d hd hne
   ·exact(f2 c hc hcn).1
   ·exact fun e=>(f2 d hd hdn).1 e.symm
   ·exact(hne rfl).elim
  ·rcases cu0 hc with ⟨hc,_⟩ | rfl
   ·exact h.deg c hc
   ·exact Or.inr ⟨n,hn,rfl,hm⟩
theorem Inv.run{mov:Nd->Bool}{s:List Nd}(hs:(s.map (·.1)).Nodup):∀ (l:List Nd) (D:List Int) (cur fin:List Nd),(∀ n∈l,n∈s)->(l.map (·.1)).Nodup->(∀ n∈l,n.1∉D)->Inv g2 okS fc mov s D cur->Run g2 okS fc mov l cur fin->∃ D',Inv g2 okS fc mov s D' fin
 | [],D,cur,fin,_,_,_,h,hr=>⟨D,by rw[show fin=cur from hr];exact h⟩
 | n::l,D,cur,fin,hl,hnd,hD,h,hr=>by
  obtain⟨c,h1,h2⟩:=hr
  rw[List.map_cons,List.nodup_cons]at hnd
  have hl':∀ m∈l,m∈s:=fun m hm=>hl m (by simp[hm])
  by_cases q:mov n=true
  ·rw[if_pos q]at h1
   refine Inv.run hs l (n.1::D) c fin hl' hnd.2 (fun m hm hmd=>?_) (h.step hs (hl n (by simp)) q (hD n (by simp)) h1) h2
   rcases List.mem_cons.1 hmd with e | e
   ·exact hnd.1 (by rw[<- e];exact List.mem_map_of_mem hm)
   ·exact hD m (by simp[hm]) e
  ·rw[if_neg q]at h1
   subst h1
   exact Inv.run hs l D c fin hl' hnd.2 (fun m hm=>hD m (by simp[hm])) h h2
theorem Inv.start{mov:Nd->Bool}{s:List Nd}(hp:∀ c∈s,∀ d∈s,c.1≠d.1->pt c≠pt d):Inv g2 okS fc mov s [] s :=
 ⟨rfl,fun n hn=>Or.inl hn,fun c hc hn=>(hn hc).elim,fun n hn hw=>⟨hn,hw.2.1⟩,hp,fun c hc=>Or.inl hc⟩
theorem Inv.better{mov:Nd->Bool}{s fin:List Nd}{D:List Int}(h:Inv g2 okS fc mov s D fin)(hs:(s.map (·.1)).Nodup){n c:Nd}(hn:n∈s)(hc:c∈fin)(e:c.1=n.1) :
  (was g2 okS fc s n->c=n/\fits g2 okS fc fin n.1 (pt c) (pt c))/\(pt c≠pt n->fits g2 okS fc fin n.1 (pt c) (pt c)):=by
 have hfn:(fin.map (·.1)).Nodup:=by rw[h.ids];exact hs
 constructor
 ·intro hw
  obtain⟨w1,w2⟩:=h.w n hn hw
  have:=kH0 hfn hc w1 e
  subst this
  exact⟨rfl,hw.1,w2,hw.2.2.1,rfl⟩
 ·intro hne
  have hcs:c∉s:=fun hcs=>hne (by rw[kH0 hs hcs hn e])
  obtain⟨b1,b2,b3⟩:=h.b c hc hcs
  rw[<- e]
  exact⟨b1,b3,b2,rfl⟩
end
theorem qj0{s:List Nd}:∀ (pre l:List Nd),(∀ c∈pre++l,∀ d∈pre++l,c.1≠d.1->pt c≠pt d)->((pre++l).map (·.1)).Nodup->lK0 pre l=false
 | pre,[],_,_=>rfl
 | pre,n::l,h,hn=>by
  have e:pre++n::l=(pre++[n])++l:=by simp
  unfold lK0
  rw[qj0 (s:=s) (pre++[n]) l (by rw[<- e];exact h) (by rw[<- e];exact hn),Bool.or_false,List.any_eq_false]
  intro m hm
  have hne:m.1≠n.1:=by
   rw[List.map_append,List.map_cons,List.nodup_append]at hn
   exact hn.2.2 m.1 (List.mem_map_of_mem hm) n.1 (by simp)
  have:=h m (by simp[hm]) n (by simp) hne
  intro hx
  apply this
  unfold ix0 eqP at hx
  simp only[Bool.and_eq_true,decide_eq_true_eq]at hx
  unfold pt
  rw[hx.1,hx.2]
theorem ut0{ars:List Ar}{mov:Nd->Bool}{s:List Nd}(hmov:∀ n∈s,mov n=true->I4 ars n.1=0)(hs:(s.map (·.1)).Nodup):∀ {l fin:List Nd},(∀ n∈l,n∈s)->fin.map (·.1)=l.map (·.1)->(∀ c∈fin,c∈s\/∃ n∈s,n.1=c.1/\mov n=true)->mvd ars l fin
 | [],[],_,_,_=>trivial
 | [],_::_,_,h,_=>by simp at h
 | _::_,[],_,h,_=>by simp at h
 | n::l,c::fin,hl,hi,hd=>by
  simp only[List.map_cons,List.cons.injEq]at hi
  refine⟨hi.1,fun hdeg=>?_,ut0 hmov hs (fun m hm=>hl m (by simp[hm])) hi.2 fun x hx=>hd x (by simp[hx])⟩
  have hn:=hl n (by simp)
  rcases hd c (by simp)with q | ⟨m,hm,e,hmv⟩
  ·exact kH0 hs q hn hi.1
  ·have:=kH0 hs hm hn (e.trans hi.1)
   subst this
   exact(hdeg (hmov m hm hmv)).elim
end Dp
end Go.Ab
namespace Go.Ab
open Go Go.Sort Go.Proofs Go.Shelf
theorem wo0{α β:Type}(f:α->β)(r:α)(es:List α)(i:Nat):atT (f r) (es.map f) i=f (atT r es i):=by
 unfold atT
 rw[List.getElem?_map]
 cases es[i]?<;>rfl
theorem kZ0{α β:Type}(f:α->β){cf:α->α->Int}{cf':β->β->Int}(hc:∀ x y,cf' (f x) (f y)=cf x y):∀ l:List α,U8 cf' (l.map f)=(U8 cf l).map f
 | []=>rfl
 | r::l=>by
  have h:∀ i,atT (f r) (f r::l.map f) i=f (atT r (r::l) i):=fun i=>wo0 f r (r::l) i
  have h2:atT (f r) (f r::l.map f)=f ∘ atT r (r::l):=funext h
  rw[List.map_cons,W8,W8,List.map_map,h2]
  simp only[Function.comp,hc,List.length_cons,List.length_map]
abbrev Seg:=Int×Int×Int×Int
def aP0:Pt->List Pt->List Seg
 | a,b::l=>(a.1,a.2,b.1,b.2)::aP0 b l
 | _,[]=>[]
def oZ0(l:List Pt):List Seg:=match l with
 | a::l=>aP0 a l
 | []=>[]
abbrev Rg:=Int×List Int×List (List Int)×List Int
abbrev Ol:=Int×Int×List Pt
namespace Dp
variable (ns:List Nd) (ars:List Ar)
def pth(a:Ar):List Pt:=(pathOf ns ars a.1).getD []
def Q3(l:List Ar):List Seg:=l.flatMap fun a=>oZ0 (pth ns ars a)
def Z8(l:List Ar)(m:List (Int×List Pt)):List (Int×List Pt):=l.foldl (fun m a=>O6 qI (-a.1) (pth ns ars a).reverse (O6 qI a.1 (pth ns ars a) m)) m
def olP(m:List (Int×List Pt))(c:List Int):List Pt:=c.flatMap fun d=>((lkp qI d m).getD []).dropLast
def pH0(l:List Rg):List Ol:=(l.filter fun r=>!decide (r.2.1=[])).map fun r=>(r.1,J5 ns ars r.2.1,olP (Z8 ns ars ars []) r.2.1)
def H3:List V0:=N1 ns ars (D1 ns ars) (O7.cyclesOf ns ars)
def aM0(fs:List Int):List Int:=(L1 ars fs.length true (H3 ns ars) [] []).1
def mQ0(l:List Int)(L:List V0):List Rg:=l.zipWith (fun f x=>(f,x.2.1,x.2.2.1,x.2.2.2)) L
def sN0(x y:Rg):Int:=uP0 x.1 y.1
def uW0(x y:Ol):Int:=uP0 x.2.1 y.2.1
def hC0(fs:List Int):List Rg:=U8 sN0 (mQ0 (aM0 ns ars fs) (H3 ns ars))
def ja0(fs:List Int):List Ol:=U8 uW0 (pH0 ns ars (hC0 ns ars fs))
end Dp
variable {ars:List Ar} {ns ns':List Nd}
namespace Dp
theorem uo0(h:mvd ars ns ns'):pth ns' ars=pth ns ars:=by funext a;unfold pth;rw[hM0 h]
theorem sD0(h:mvd ars ns ns')(l:List Ar):Q3 ns' ars l=Q3 ns ars l:=by unfold Q3;rw[uo0 h]
theorem qy0(h:mvd ars ns ns')(l:List Ar)(m:List (Int×List Pt)):Z8 ns' ars l m=Z8 ns ars l m:=by unfold Z8;rw[uo0 h]
def eB0(x:Rg):Int×List Int×List (List Int):=(x.1,x.2.1,x.2.2.1)
theorem sj0:∀ (l:List Int) {L L':List V0},L.map t3A=L'.map t3A->(mQ0 l L).map eB0=(mQ0 l L').map eB0
 | [],_,_,_=>by simp[mQ0]
 | _::_,[],[],_=>rfl
 | _::_,[],_::_,h=>by simp at h
 | _::_,_::_,[],h=>by simp at h
 | f::l,x::L,y::L',h=>by
  simp only[List.map_cons,List.cons.injEq,t3A,Prod.mk.injEq]at h
  have ih:=sj0 l (L:=L) (L':=L') h.2
  unfold mQ0 at *
  simp only[List.zipWith_cons_cons,List.map_cons,eB0,h.1.2.1,h.1.2.2]
  exact congrArg _ ih
theorem tU0(h:mvd ars ns ns')(fs:List Int):(hC0 ns' ars fs).map eB0=(hC0 ns ars fs).map eB0:=by
 have hd:(H3 ns' ars).map t3A=(H3 ns ars).map t3A:=lk0 h
 have hf:aM0 ns' ars fs=aM0 ns ars fs:=by unfold aM0;rw[eg0 _ _ _ hd]
 unfold hC0
 let c3 (x y:Int×List Int×List (List Int)):Int:=uP0 x.1 y.1
 have hc:∀ x y:Rg,c3 (eB0 x) (eB0 y)=sN0 x y:=fun _ _=>rfl
 rw[<- kZ0 eB0 hc,<-kZ0 eB0 hc,hf,sj0 _ hd]
theorem qd0(ol:Rg->Ol)(P:Rg->Bool)(h1:∀ x y:Rg,eB0 x=eB0 y->ol x=ol y/\P x=P y):∀ {l l':List Rg},l.map eB0=l'.map eB0->(l.filter P).map ol=(l'.filter P).map ol
 | [],[],_=>rfl
 | [],_::_,h=>by simp at h
 | _::_,[],h=>by simp at h
 | x::l,y::l',h=>by
  simp only[List.map_cons,List.cons.injEq]at h
  obtain⟨e1,e2⟩:=h1 x y h.1
  rw[List.filter_cons,List.filter_cons,e2]
  have ih:=qd0 ol P h1 h.2
  split
  ·rw[List.map_cons,List.map_cons,e1,ih]
  ·exact ih
theorem vB0(h:mvd ars ns ns')(fs:List Int):ja0 ns' ars fs=ja0 ns ars fs:=by
 have e:J5 ns' ars=J5 ns ars:=funext (gq0 h)
 unfold ja0 pH0
 rw[e,qy0 h]
 refine congrArg (U8 uW0) (qd0 _ _ (fun x y hxy=>?_) (tU0 h fs))
 simp only[eB0,Prod.mk.injEq]at hxy
 simp only[hxy.1,hxy.2.1,and_self]
end Dp
end Go.Ab
namespace Go.Ab
open Go Go.Sort Go.Proofs Go.Shelf
theorem eH0{ars:List Ar}{k:Nat}:∀ (L:List V0) (b:Bool) (seen out:List Int),(L1 ars k b L seen out).2=true->(L1 ars k b L seen out).1.length=out.length+L.length
 | [],b,seen,out,_=>by cases b<;>rfl
 | x::L,true,seen,out,h=>by
  simp only[L1]at h ⊢
  cases hc:(cF0 x).all (fun c=>c.all fun d=>decide (ac0 ars d=0))with
  | false=>rw[hc]at h;simp at h
  | true =>
   rw[hc,cond_true]at h
   rw[cond_true,eH0 L _ _ _ h]
   simp only[List.length_append,List.length_cons,List.length_nil];omega
 | x::L,false,seen,out,h=>by
  simp only[L1]at h ⊢
  generalize ac0 ars (x.2.1.headD 0)=f at h ⊢
  cases hd:decide (f=0)||decide (f∈seen)with
  | true=>rw[hd]at h;simp at h
  | false =>
   rw[hd,cond_false]at h
   rw[cond_false]
   cases hc:(cF0 x).all (fun c=>c.all fun d=>decide (ac0 ars d=f))with
   | false=>rw[hc]at h;simp at h
   | true =>
    rw[hc,cond_true]at h
    rw[cond_true,eH0 L _ _ _ h]
    simp only[List.length_append,List.length_cons,List.length_nil];omega
theorem wB0(L:List V0)(k:Nat)(c:List Int):∀ a∈addI L k c,a.2.1∈L.map (·.2.1):=by
 unfold addI
 cases hx:L[k]? with
 | none=>exact fun a ha=>List.mem_map_of_mem ha
 | some x =>
  intro a ha
  rcases List.mem_or_eq_of_mem_set ha with q | rfl
  ·exact List.mem_map_of_mem q
  ·exact List.mem_map.2 ⟨x,List.mem_of_getElem? hx,rfl⟩
theorem wt0(L:List V0)(k:Nat)(c:Int):∀ a∈addN L k c,a.2.1∈L.map (·.2.1):=by
 unfold addN
 cases hx:L[k]? with
 | none=>exact fun a ha=>List.mem_map_of_mem ha
 | some x =>
  intro a ha
  rcases List.mem_or_eq_of_mem_set ha with q | rfl
  ·exact List.mem_map_of_mem q
  ·exact List.mem_map.2 ⟨x,List.mem_of_getElem? hx,rfl⟩
theorem uN0{m:List (Int×List Pt)}:∀ (r:List (List Int)) (L:List V0),∀ a∈inF m r L,a.2.1∈L.map (·.2.1)
 | [],L,a,ha=>List.mem_map_of_mem ha
 | c::r,L,a,ha=>by
  have:=uN0 r _ a ha
  obtain⟨b,hb,e⟩:=List.mem_map.1 this
  rw[<- e]
  exact wB0 _ _ _ b hb
theorem qt0{ns:List Nd}{ars:List Ar}{m:List (Int×List Pt)}:∀ (r:List Nd) (L:List V0),∀ a∈aloF ns ars m r L,a.2.1∈L.map (·.2.1)
 | [],L,a,ha=>List.mem_map_of_mem ha
 | n::r,L,a,ha=>by
  have:=qt0 r _ a ha
  obtain⟨b,hb,e⟩:=List.mem_map.1 this
  rw[<- e]
  cases hd:decide (I4 ars n.1=0)with
  | false=>rw[hd]at hb;exact List.mem_map_of_mem hb
  | true=>rw[hd]at hb;exact wt0 _ _ _ b hb
theorem kK0{ns:List Nd}{ars:List Ar}{m:List (Int×List Pt)}{cs:List (List Int)}{a:V0}(ha:a∈N1 ns ars m cs):a.2.1=[]\/a.2.1∈cs:=by
 obtain⟨b,hb,e⟩:=List.mem_map.1 (qt0 ns _ a ha)
 obtain⟨c,hc,e2⟩:=List.mem_map.1 (uN0 _ _ b hb)
 rw[<- e,<-e2]
 rcases List.mem_cons.1 hc with rfl | hc
 ·exact Or.inl rfl
 ·obtain⟨d,hd,rfl⟩:=List.mem_map.1 hc
  exact Or.inr (List.mem_filter.1 hd).1
namespace Dp
theorem cI0(l:List Rg):Ordered sN0 l :=
 cR0 (fun x _=>by unfold sN0;rw[ab0];omega) (fun x _ y _ z _ a b=>by unfold sN0 at *;rw[ab0]at *;omega) (fun x _ y _ z _ a b=>by unfold sN0 at *;rw[ab0]at *;omega)
theorem ff0(l:List Ol):Ordered uW0 l :=
 cR0 (fun x _=>by unfold uW0;rw[ab0];omega) (fun x _ y _ z _ a b=>by unfold uW0 at *;rw[ab0]at *;omega) (fun x _ y _ z _ a b=>by unfold uW0 at *;rw[ab0]at *;omega)
theorem sG0{l:List Rg}(hl:l.length<=1000000):slices_SortFunc_api_Region_region_Regions_1 (l,4,())=some (U8 sN0 l):=by
 unfold slices_SortFunc_api_Region_region_Regions_1
 simp only[decide_true,cond_true]
 refine fX0 (fun x _ y _=>?_) (cI0 l) (by omega)
 unfold M3
 simp only[cmp_eq,b9]
 rfl
theorem sU0{l:List Ol}(hl:l.length<=1000000):slices_SortFunc_displace_outline_displace_makeChart_1 (l,3,())=some (U8 uW0 l):=by
 unfold slices_SortFunc_displace_outline_displace_makeChart_1
 simp only[decide_true,cond_true]
 refine fX0 (fun x _ y _=>?_) (ff0 l) (by omega)
 unfold G5
 simp only[cmp_eq,b9]
 rfl
section
variable {ns:List Nd} {ars:List Ar} {fs:List Int} (h:O7 ns ars fs) (hf:(L1 ars fs.length true (H3 ns ars) [] []).2=true)
include h hf
theorem vr0:(aM0 ns ars fs).length=(H3 ns ars).length:=by
 unfold aM0
 rw[eH0 _ _ _ _ hf]
 simp
theorem mD0:(mQ0 (aM0 ns ars fs) (H3 ns ars)).length=(H3 ns ars).length:=by
 unfold mQ0
 rw[List.length_zipWith,vr0 h hf,Nat.min_self]
theorem ps0:Q1 (ns,ars,fs)=some (hC0 ns ars fs,0):=by
 obtain⟨hq,hlen⟩:=h.areas_ok
 have hfe:=h.faces_eq (l:=H3 ns ars) hlen (fun a ha=>by obtain⟨h1,h2,h3⟩:=hq.all a ha;exact⟨h1,h2,by omega⟩) hq.ne
 have hdiv:L6 ((ns,ars,fs),O7.cyclesOf ns ars,D1 ns ars)=some (H3 ns ars):=h.divide_eq h.cycs_ok
 have hz:=mD0 h hf
 have hl:=vr0 h hf
 unfold Q1
 simp only[h.Cycles_eq,b9,decide_true,Bool.not_true,cond_false,h.pathsOf_eq,hdiv,hfe,hf]
 have hlen2:(H3 ns ars).length<=1000000:=hlen
 refine(l9 (A:=List Rg) (mQ0 (aM0 ns ars fs) (H3 ns ars)) (fun i a=>(a,(i:Int))) (fun a rest=>some (U8 sN0 (a++rest),0)) (fun i a=>a.length=i) (by omega) ?_ ?_ [] rfl).trans rfl
 ·intro rec a hI
  rw[hz]
  have:=sG0 (l:=a) (by omega)
  simp only[y4,cond_false,this,List.append_nil,b9]
 ·intro rec i a x rest hi hI hd hr
  rw[hz]at hi
  have hx:(mQ0 (aM0 ns ars fs) (H3 ns ars))[i]?=some x:=by rw[<- C8];exact l8 hd
  unfold mQ0 at hx
  rw[List.getElem?_zipWith]at hx
  have h1:(aM0 ns ars fs)[i]?=some ((aM0 ns ars fs)[i]'(by omega)):=List.getElem?_eq_getElem _
  have h2:(H3 ns ars)[i]?=some ((H3 ns ars)[i]'(by omega)):=List.getElem?_eq_getElem _
  rw[h1,h2]at hx
  have hx:=Option.some.inj hx
  have h1':(L1 ars fs.length true (H3 ns ars) [] []).1[i]?=_:=h1
  simp only[y0 hi,cond_true,C8,h2,h1',b9,hx]
  rw[B8 (by omega) (by simp;omega),b9,r7 hi (by omega),hr _ (by simp;omega)]
  simp
end
end Dp
end Go.Ab
namespace Go.Ab
open Go Go.Sort Go.Proofs Go.Shelf
set_option maxRecDepth 10000
namespace Dp
theorem eT0:∀ (l:List Pt) (p:Pt),(aP0 p l).length=l.length
 | [],_=>rfl
 | _::l,_=>by simp only[aP0,List.length_cons,eT0 l]
theorem oH0{β:Type}(p0:Pt)(l:List Pt)(hl:l.length<=1000)(acc:List Seg)(ha:acc.length<=1000000)(K:Int×List Seg->Option β) :
  rounds (α:=Int×List Seg) (β:=β) (fun k17 x17 =>
   bif (decide (x17.1<(((p0::l).length:Nat):Int)))then (
   b8 (nth (p0::l) (IntKind.i64.wrap (x17.1-(1:Int)))) fun v23 =>
   b8 (nth (p0::l) x17.1) fun v25 =>
   b8 (L7 32 x17.2 [(v23.1,v23.2,v25.1,v25.2)]) fun v27 =>
   k17 ((IntKind.i64.wrap (x17.1+(1:Int))),v27))else (
   K x17)) ((1:Int),acc)=K (((l.length+1:Nat):Int),acc++aP0 p0 l):=by
 have e:(((p0::l).length:Nat):Int)=((l.length+1:Nat):Int):=by simp
 refine(l9 (A:=Pt×List Seg) l (fun i a=>(((i+1:Nat):Int),a.2)) (fun a rest=>K (((l.length+1:Nat):Int),a.2++aP0 a.1 rest)) (fun i a=>(p0::l)[i]?=some a.1/\a.2.length<=1000000+i) (by omega) ?_ ?_ (p0,acc) ⟨rfl,by omega⟩)
 ·intro rec a hI
  simp only[e,y4,cond_false,aP0,List.append_nil]
 ·intro rec i a x rest hi hI hd hr
  obtain⟨hI,hn⟩:=hI
  have hx:(p0::l)[i+1]?=some x:=by
   rw[List.getElem?_cons_succ,<-C8];exact l8 hd
  have e1:IntKind.i64.wrap (((i+1:Nat):Int)-1)=(i:Int):=by rw[w64 (by omega) (by omega)];omega
  have e2:IntKind.i64.wrap (((i+1:Nat):Int)+1)=((i+1+1:Nat):Int):=r7 (n:=2000000) (by omega) (by omega)
  simp only[e,y0 (show i+1<l.length+1 by omega),cond_true,e1,e2,C8,hI,hx,b9]
  rw[B8 (by omega) (by simp;omega),b9]
  have:=hr (x,a.2++[(a.1.1,a.1.2,x.1,x.2)]) ⟨hx,by simp;omega⟩
  simp only at this
  rw[this]
  simp only[aP0,List.append_assoc,List.singleton_append]
variable {ns:List Nd} {ars:List Ar} {fs:List Int}
theorem em0(h:O7 ns ars fs){a:Ar}(ha:a∈ars):∃ p l,pathOf ns ars a.1=some (p::l)/\pth ns ars a=p::l/\l.length<=65:=by
 obtain⟨f,t,_,_,hp,_⟩:=h.path ha
 refine⟨_,_,hp,by unfold pth;rw[hp];rfl,?_⟩
 have:=h.lenV ha
 simp;omega
theorem lQ0{β:Type}(h:O7 ns ars fs)(K:Int×List Seg×List (Int×List Pt)->Option β) :
 rounds (α:=Int×List Seg×List (Int×List Pt)) (β:=β) (fun k4 x4 =>
  bif (decide (x4.1<(ars.length:Int)))then (
  b8 (nth ars x4.1) fun v9 =>
  b8 (K6 ((ns,ars,fs),v9.1)) fun v15 =>
  rounds (α:=Int×List Seg) (β:=β) (fun k17 x17 =>
   bif (decide (x17.1<((v15.1).length:Int)))then (
   b8 (nth v15.1 (IntKind.i64.wrap (x17.1-(1:Int)))) fun v23 =>
   b8 (nth v15.1 x17.1) fun v25 =>
   b8 (L7 32 x17.2 [(v23.1,v23.2,v25.1,v25.2)]) fun v27 =>
   k17 ((IntKind.i64.wrap (x17.1+(1:Int))),v27))else (
   b8 (slices_Clone_api_Point v15.1) fun v23 =>
   b8 (some ()) fun _ =>
   b8 (slices_Reverse_api_Point (v23,(2:Int))) fun v24 =>
   b8 (some ()) fun _ =>
   k4 ((IntKind.i64.wrap (x4.1+(1:Int))),x17.2,(O6 (fun (a b:Int)=>decide (a=b)) (IntKind.i64.wrap (0-v9.1)) v24 (O6 (fun (a b:Int)=>decide (a=b)) v9.1 v15.1 x4.2.2))))) ((1:Int),x4.2.1))else (K x4)) ((0:Int),[],[])=K ((ars.length:Int),Q3 ns ars ars,Z8 ns ars ars []):=by
 have hla:=h.lenA
 refine(l9 (A:=List Seg×List (Int×List Pt)) ars (fun i a=>((i:Int),a.1,a.2)) (fun a rest=>K ((ars.length:Int),a.1++Q3 ns ars rest,Z8 ns ars rest a.2)) (fun i a=>a.1.length<=66*i) (by omega) ?_ ?_ ([],[]) (by simp)).trans (by simp)
 ·intro rec a hI
  simp only[y4,cond_false,Q3,List.flatMap_nil,List.append_nil,Z8,List.foldl_nil]
 ·intro rec i a x rest hi hI hd hr
  have hxm:x∈ars:=by
   have:x∈ars.drop i:=by rw[hd];simp
   exact List.mem_of_mem_drop this
  obtain⟨p,l,hp,hq,hl⟩:=em0 h hxm
  have hn:=h.num hxm
  simp only[y0 hi,cond_true,l8 hd,b9,h.Path_eq,hp]
  refine(oH0 p l (by omega) a.1 (by omega) _).trans ?_
  have e1:slices_Clone_api_Point (p::l)=some (p::l):=by
   unfold slices_Clone_api_Point
   rw[B8 (by omega) (by simp;omega)]
   rfl
  have e2:slices_Reverse_api_Point (p::l,2)=some (p::l).reverse:=by
   unfold slices_Reverse_api_Point
   have:decide ((p::l).length<4611686018427387904)=true:=decide_eq_true (by simp;omega)
   simp only[decide_true,this,Bool.and_self,cond_true]
  have e3:IntKind.i64.wrap (0-x.1)=-x.1:=by rw[w64 (by omega) (by omega)];omega
  simp only[e1,e2,e3,b9,r7 hi (show ars.length<2^62 by omega)]
  have hpl:=eT0 l p
  have:=hr (a.1++aP0 p l,O6 qI (-x.1) (p::l).reverse (O6 qI x.1 (p::l) a.2)) (by simp[hpl];omega)
  simp only at this
  rw[this]
  simp only[Q3,List.flatMap_cons,hq,oZ0,List.append_assoc,Z8,List.foldl_cons]
theorem gA0(h:O7 ns ars fs):∀ (l:List Ar) (m:List (Int×List Pt)),(∀ a∈l,a∈ars)->(∀ k p,lkp qI k m=some p->p≠[]/\p.length<=66) ->
  (∀ k p,lkp qI k (Z8 ns ars l m)=some p->p≠[]/\p.length<=66)/\(∀ k,(lkp qI k m).isSome=true->(lkp qI k (Z8 ns ars l m)).isSome=true)/\∀ a∈l,(lkp qI a.1 (Z8 ns ars l m)).isSome=true/\(lkp qI (-a.1) (Z8 ns ars l m)).isSome=true
 | [],m,_,hm=>⟨hm,fun _ h=>h,fun a ha=>by simp at ha⟩
 | a::l,m,hl,hm=>by
  obtain⟨p,q,_,hq,hlen⟩:=em0 h (hl a (by simp))
  have hlk:∀ k,lkp qI k (O6 qI (-a.1) (pth ns ars a).reverse (O6 qI a.1 (pth ns ars a) m))=if k=-a.1 then some (pth ns ars a).reverse else if k=a.1 then some (pth ns ars a)else lkp qI k m:=fun k=>by rw[Q8,Q8]
  obtain⟨i1,i2,i3⟩:=gA0 h l (O6 qI (-a.1) (pth ns ars a).reverse (O6 qI a.1 (pth ns ars a) m)) (fun b hb=>hl b (by simp[hb])) (fun k r hr=>by
   rw[hlk]at hr
   split at hr
   ·cases hr;rw[hq];simp;omega
   ·split at hr
    ·cases hr;rw[hq];simp;omega
    ·exact hm k r hr)
  refine⟨i1,fun k hk=>i2 k ?_,fun b hb=>?_⟩
  ·rw[hlk];split
   ·rfl
   ·split
    ·rfl
    ·exact hk
  ·rcases List.mem_cons.1 hb with rfl | hb
   ·refine⟨i2 _ ?_,i2 _ ?_⟩
    ·rw[hlk];split
     ·rfl
     ·rw[if_pos rfl];rfl
    ·rw[hlk,if_pos rfl];rfl
   ·exact i3 b hb
theorem vD0{β:Type}(m:List (Int×List Pt))(c:List Int)(hc:∀ d∈c,∃ l,lkp qI d m=some l/\l≠[]/\l.length<=66)(hl:c.length<=512)(K:Int×List Pt->Option β) :
  rounds (α:=Int×List Pt) (β:=β) (fun k24 x24 =>
    bif (decide (x24.1<(c.length:Int)))then (
     b8 (nth c x24.1) fun v28 =>
     b8 (orO (lkp (fun (a b:Int)=>decide (a=b)) v28 m) none) fun v29 =>
     b8 (pI0 v29 none (some (IntKind.i64.wrap (((v29).length:Int)-(1:Int))))) fun v32 =>
     b8 (L7 16 x24.2 v32) fun v33 =>
     k24 ((IntKind.i64.wrap (x24.1+(1:Int))),v33))else (K x24)) ((0:Int),[])=K ((c.length:Int),olP m c):=by
 refine(l9 (A:=List Pt) c (fun i a=>((i:Int),a)) (fun a rest=>K ((c.length:Int),a++olP m rest)) (fun i a=>a.length<=66*i) (by omega) ?_ ?_ [] (by simp)).trans (by simp)
 ·intro rec a hI
  simp only[y4,cond_false,olP,List.flatMap_nil,List.append_nil]
 ·intro rec i a x rest hi hI hd hr
  have hxm:x∈c:=by
   have:x∈c.drop i:=by rw[hd];simp
   exact List.mem_of_mem_drop this
  obtain⟨l,h1,h2,h3⟩:=hc x hxm
  have hpos:0<l.length:=List.length_pos_iff.2 h2
  have e0:lkp (fun (a b:Int)=>decide (a=b)) x m=some l:=h1
  have e1:IntKind.i64.wrap ((l.length:Int)-1)=((l.length-1:Nat):Int):=by rw[w64 (by omega) (by omega)];omega
  simp only[y0 hi,cond_true,l8 hd,b9,e0,orO,e1,lF0 (show l.length-1<=l.length by omega)]
  rw[B8 (by omega) (by simp;omega),b9,r7 hi (by omega),hr _ (by simp;omega)]
  simp only[olP,List.flatMap_cons,h1,Option.getD_some,List.dropLast_eq_take,List.append_assoc]
theorem rw0{β:Type}(h:O7 ns ars fs)(R:List Rg)(hR:∀ r∈R,r.2.1=[]\/r.2.1∈O7.cyclesOf ns ars)(hl:R.length<=1000000)(K:Int×List Ol->Option β) :
  rounds (α:=Int×List Ol) (β:=β) (fun k12 x12 =>
   bif (decide (x12.1<(R.length:Int)))then (
   b8 (nth R x12.1) fun v16 =>
   bif (decide (((v16.2.1).length:Int)=(0:Int)))then (
    k12 ((IntKind.i64.wrap (x12.1+(1:Int))),x12.2))else (
    b8 (S4 ((ns,ars,fs),v16.2.1)) fun v22 =>
    rounds (α:=Int×List (Int×Int)) (β:=β) (fun k24 x24 =>
    bif (decide (x24.1<((v16.2.1).length:Int)))then (
     b8 (nth v16.2.1 x24.1) fun v28 =>
     b8 (orO (lkp (fun (a b:Int)=>decide (a=b)) v28 (Z8 ns ars ars [])) none) fun v29 =>
     b8 (pI0 v29 none (some (IntKind.i64.wrap (((v29).length:Int)-(1:Int))))) fun v32 =>
     b8 (L7 16 x24.2 v32) fun v33 =>
     k24 ((IntKind.i64.wrap (x24.1+(1:Int))),v33))else (
     b8 (some ()) fun _ =>
     b8 (L7 40 x12.2 [(v16.1,v22,x24.2)]) fun v28 =>
     k12 ((IntKind.i64.wrap (x12.1+(1:Int))),v28))) ((0:Int),([]:List (Int×Int)))))else (K x12)) ((0:Int),[])=K ((R.length:Int),pH0 ns ars R):=by
 obtain⟨g1,_,g3⟩:=gA0 h ars [] (fun _ h=>h) (fun k p hk=>by simp[lkp]at hk)
 refine(l9 (A:=List Ol) R (fun i a=>((i:Int),a)) (fun a rest=>K ((R.length:Int),a++pH0 ns ars rest)) (fun i a=>a.length<=i) (by omega) ?_ ?_ [] (by simp)).trans (by simp)
 ·intro rec a hI
  simp only[y4,cond_false,pH0,List.filter_nil,List.map_nil,List.append_nil]
 ·intro rec i a x rest hi hI hd hr
  have hxm:x∈R:=by
   have:x∈R.drop i:=by rw[hd];simp
   exact List.mem_of_mem_drop this
  simp only[y0 hi,cond_true,l8 hd,b9,r7 hi (show R.length<2^62 by omega)]
  by_cases he:x.2.1=[]
  ·rw[he]
   have:=hr a (by omega)
   simp only[List.length_nil,Int.natCast_zero,decide_true,cond_true,this,pH0,List.filter_cons,he,Bool.not_true,Bool.false_eq_true,if_false]
  ·have hcm:=(hR x hxm).resolve_left he
   obtain⟨c1,c2,c3⟩:=h.cycs_ok.cyc _ hcm
   have hpos:0<x.2.1.length:=List.length_pos_iff.2 he
   have e0:decide (((x.2.1.length:Nat):Int)=0)=false:=decide_eq_false (by omega)
   rw[e0,cond_false,h.Twice_eq c2 c3,b9]
   refine(vD0 _ x.2.1 (fun d hd=>?_) c2 _).trans ?_
   ·obtain⟨_,_,b,hb,hab⟩:=c3 d hd
    obtain⟨s1,s2⟩:=g3 b hb
    have hdb:d=b.1\/d=-b.1:=by unfold kJ0 at hab;omega
    have hs:(lkp qI d (Z8 ns ars ars [])).isSome=true:=by
     rcases hdb with rfl | rfl
     ·exact s1
     ·exact s2
    obtain⟨l,hl⟩:=Option.isSome_iff_exists.1 hs
    exact⟨l,hl,g1 d l hl⟩
   ·rw[B8 (by omega) (by simp;omega),b9,hr _ (by simp;omega)]
    simp only[pH0,List.filter_cons,decide_eq_false he,Bool.not_false,if_true,List.map_cons,List.append_assoc,List.singleton_append]
theorem cA0(h:O7 ns ars fs)(hf:(L1 ars fs.length true (H3 ns ars) [] []).2=true):D8 (ns,ars,fs)=some (Q3 ns ars ars,ja0 ns ars fs):=by
 unfold D8
 refine(lQ0 h _).trans ?_
 simp only[ps0 h hf,b9]
 have hz:=mD0 h hf
 obtain⟨_,hlen⟩:=h.areas_ok
 have hp:(hC0 ns ars fs).Perm (mQ0 (aM0 ns ars fs) (H3 ns ars)):=O8 (cI0 _)
 have hlen2:(H3 ns ars).length<=1000000:=hlen
 refine(rw0 h (hC0 ns ars fs) (fun r hr=>?_) (by rw[hp.length_eq,hz];exact hlen2) _).trans ?_
 ·have hr:=hp.mem_iff.1 hr
  unfold mQ0 at hr
  obtain⟨i,hi,e⟩:=List.getElem_of_mem hr
  rw[List.getElem_zipWith]at e
  subst e
  have hi2:i<(H3 ns ars).length:=by rw[List.length_zipWith]at hi;omega
  exact kK0 (a:=(H3 ns ars)[i]) (List.getElem_mem hi2)
 ·have hl2:(pH0 ns ars (hC0 ns ars fs)).length<=1000000:=by
   unfold pH0
   rw[List.length_map]
   refine Nat.le_trans (List.length_filter_le _ _) ?_
   rw[hp.length_eq,hz];exact hlen2
  simp only[sU0 hl2,b9]
  rfl
end Dp
end Go.Ab
namespace Go.Ab
open Go Go.Sort Go.Proofs Go.Shelf
set_option maxRecDepth 10000
theorem G8{α β:Type}{a:Option α}{f:α->Option β}{P:α->Prop}{Q:β->Prop}(h:∃ v,a=some v/\P v)(hf:∀ v,P v->∃ r,f v=some r/\Q r):∃ r,b8 a f=some r/\Q r:=by
 obtain⟨v,rfl,hv⟩:=h
 exact hf v hv
theorem wu(n:Int):0<=IntKind.u64.wrap n/\IntKind.u64.wrap n<=18446744073709551615:=by
 simp[IntKind.wrap,IntKind.bits,IntKind.signed]
 omega
theorem st0{n:Int}(h:0<=n/\n<=18446744073709551615):IntKind.u64.wrap n=n:=IntWalk.u64_in n h
theorem wY0{n:Int}(h:0<=n/\n<=255):IntKind.u8.wrap n=n:=IntWalk.u8_in n h
def nz0(i:Nat):Nat:=if i=0 then 0 else if i<2 then 1 else if i<4 then 2 else if i<8 then 3 else if i<16 then 4 else if i<32 then 5 else if i<64 then 6 else if i<128 then 7 else 8
theorem xh0:((List.range 256).all fun i=>kI0 qi0 (i:Int)==some ((nz0 i:Nat):Int))=true:=by decide +kernel
theorem tab_ok{v:Int}(h:0<=v/\v<=255):kI0 qi0 v=some ((nz0 v.toNat:Nat):Int):=by
 have:=List.all_eq_true.1 xh0 v.toNat (List.mem_range.2 (by omega))
 rw[show ((v.toNat:Nat):Int)=v by omega]at this
 simpa using this
theorem oM0{i:Nat}(h:i<=255):(nz0 i=0/\i=0)\/(nz0 i=1/\i=1)\/(nz0 i=2/\2<=i/\i<4)\/(nz0 i=3/\4<=i/\i<8)\/(nz0 i=4/\8<=i/\i<16)\/(nz0 i=5/\16<=i/\i<32)\/(nz0 i=6/\32<=i/\i<64)\/(nz0 i=7/\64<=i/\i<128)\/(nz0 i=8/\128<=i):=by
 unfold nz0
 repeat' split
 all_goals omega
theorem fd{x k:Int}(hk:0<=k):x.fdiv k=x / k:=Int.fdiv_eq_ediv_of_nonneg x hk
theorem sh32:(2:Int)^(min (32:Int).toNat IntKind.u64.bits)=4294967296:=by decide
theorem sh16:(2:Int)^(min (16:Int).toNat IntKind.u64.bits)=65536:=by decide
theorem sh8:(2:Int)^(min (8:Int).toNat IntKind.u64.bits)=256:=by decide
theorem fd32(x:Int):x.fdiv 4294967296=x / 4294967296:=fd (by decide)
theorem fd16(x:Int):x.fdiv 65536=x / 65536:=fd (by decide)
theorem fd8(x:Int):x.fdiv 256=x / 256:=fd (by decide)
theorem fn32:decide ((32:Int)<0)=false:=by decide
theorem fn16:decide ((16:Int)<0)=false:=by decide
theorem fn8:decide ((8:Int)<0)=false:=by decide
theorem dZ0{a b:Nat}:(2:Int)^(a+b)=2^a*2^b:=Int.pow_add 2 a b
theorem len_ok{x q K:Int}{k:Nat}(hK:K=2^k)(hq:q=x / K)(h1:1<=q)(h2:q<=255)(hk:k<=56):∃ n:Nat,((k:Int)+((nz0 q.toNat:Nat):Int))=(n:Int)/\1<=n/\n<=64/\(2:Int)^(n-1)<=x/\x<2^n:=by
 have hKp:0<K:=by rw[hK];exact Int.pow_pos (by decide)
 have e:=Int.emod_add_mul_ediv x K
 have m1:=Int.emod_nonneg x (show K≠0 by omega)
 have m2:=Int.emod_lt_of_pos x hKp
 rw[<- hq]at e
 have key:∀ t:Nat,1<=t->t<=8->(2:Int)^(t-1)<=q->q<2^t->∃ n:Nat,((k:Int)+(t:Int))=(n:Int)/\1<=n/\n<=64/\(2:Int)^(n-1)<=x/\x<2^n:=by
  intro t t1 t8 l1 l2
  refine⟨k+t,by omega,by omega,by omega,?_,?_⟩
  ·rw[show k+t-1=(t-1)+k by omega,dZ0,<-hK]
   have:(2:Int)^(t-1)*K<=q*K:=Int.mul_le_mul_of_nonneg_right l1 (by omega)
   have:q*K=K*q:=Int.mul_comm _ _
   omega
  ·rw[show k+t=t+k by omega,dZ0,<-hK]
   have h3:(q+1)*K<=(2:Int)^t*K:=Int.mul_le_mul_of_nonneg_right (by omega) (by omega)
   rw[Int.add_mul,Int.one_mul]at h3
   have:q*K=K*q:=Int.mul_comm _ _
   omega
 rcases oM0 (i:=q.toNat) (by omega)with h | h | h | h | h | h | h | h | h
 ·omega
 all_goals
  rw[h.1]
  exact key _ (by decide) (by decide) (by simp;omega) (by simp;omega)
theorem sH0{x:Int}(h:1<=x/\x<=18446744073709551615):∃ n:Nat,bits_Len64 x=some (n:Int)/\1<=n/\n<=64/\(2:Int)^(n-1)<=x/\x<2^n:=by
 have fin:∀ (K q:Int) (k:Nat),K=2^k->q=x / K->1<=q->q<=255->k<=56->∃ n:Nat,b8 (kI0 qi0 (IntKind.u8.wrap q)) (fun v8=>some (IntKind.i64.wrap ((k:Int)+IntKind.i64.wrap v8)))=some (n:Int)/\1<=n/\n<=64/\(2:Int)^(n-1)<=x/\x<2^n:=by
  intro K q k hK hq q1 q2 hk
  obtain⟨n,hn,r⟩:=len_ok hK hq q1 q2 hk
  refine⟨n,?_,r⟩
  rw[wY0 ⟨by omega,q2⟩,tab_ok ⟨by omega,q2⟩,b9,w64 (n:=((nz0 q.toNat:Nat):Int)) (by omega) (by omega),hn,w64 (by omega) (by omega)]
 unfold bits_Len64
 simp only[b9,sh32,sh16,sh8,fd32,fd16,fd8,fn32,fn16,fn8,cond_false]
 by_cases c1:(4294967296:Int)<=x
 ·simp only[c1,decide_true,cond_true]
  by_cases c2:(65536:Int)<=x / 4294967296
  ·simp only[c2,decide_true,cond_true]
   by_cases c3:(256:Int)<=x / 4294967296 / 65536
   ·simp only[c3,decide_true,cond_true]
    exact fin 72057594037927936 _ 56 (by decide) (by omega) (by omega) (by omega) (by decide)
   ·simp only[c3,decide_false,cond_false]
    exact fin 281474976710656 _ 48 (by decide) (by omega) (by omega) (by omega) (by decide)
  ·simp only[c2,decide_false,cond_false]
   by_cases c3:(256:Int)<=x / 4294967296
   ·simp only[c3,decide_true,cond_true]
    exact fin 1099511627776 _ 40 (by decide) (by omega) (by omega) (by omega) (by decide)
   ·simp only[c3,decide_false,cond_false]
    exact fin 4294967296 _ 32 (by decide) (by omega) (by omega) (by omega) (by decide)
 ·simp only[c1,decide_false,cond_false]
  by_cases c2:(65536:Int)<=x
  ·simp only[c2,decide_true,cond_true]
   by_cases c3:(256:Int)<=x / 65536
   ·simp only[c3,decide_true,cond_true]
    exact fin 16777216 _ 24 (by decide) (by omega) (by omega) (by omega) (by decide)
   ·simp only[c3,decide_false,cond_false]
    exact fin 65536 _ 16 (by decide) (by omega) (by omega) (by omega) (by decide)
  ·simp only[c2,decide_false,cond_false]
   by_cases c3:(256:Int)<=x
   ·simp only[c3,decide_true,cond_true]
    exact fin 256 _ 8 (by decide) (by omega) (by omega) (by omega) (by decide)
   ·simp only[c3,decide_false,cond_false]
    exact fin 1 _ 0 (by decide) (by omega) (by omega) (by omega) (by decide)
end Go.Ab
namespace Go.Ab
open Go Go.Sort Go.Proofs Go.Shelf
set_option maxRecDepth 10000
theorem l6{α β:Type}{a:Option α}{f:α->Option β}{Q:β->Prop}(e:α)(h:a=some e)(hf:∀ v,v=e->∃ r,f v=some r/\Q r):∃ r,b8 a f=some r/\Q r:=by
  subst h
  exact hf e rfl
theorem gd{α:Type}{c:Bool}{e:α}(h:c=false):(bif c then none else some e)=some e:=by rw[h];rfl
theorem eW0{x:Int}(h:1<=x/\x<=18446744073709551615):∃ v,bits_LeadingZeros64 x=some v/\∃ n:Nat,v=64-(n:Int)/\1<=n/\n<=64/\(2:Int)^(n-1)<=x/\x<2^n:=by
  obtain⟨n,h1,h2,h3,h4⟩:=sH0 h
  unfold bits_LeadingZeros64
  simp only[h1,b9]
  exact⟨_,rfl,n,w64 (by omega) (by omega),h2,h3,h4⟩
theorem vN0{x v:Int}{n:Nat}(hv:v=64-(n:Int))(h1:1<=n)(h2:n<=64)(h3:(2:Int)^(n-1)<=x)(h4:x<2^n):9223372036854775808<=IntKind.u64.wrap (x*2^(min (IntKind.u64.wrap v).toNat IntKind.u64.bits)):=by
  have e:IntKind.u64.wrap v=v:=st0 (by omega)
  have e2:min v.toNat IntKind.u64.bits=64-n:=by
    show min v.toNat 64=64-n
    omega
  rw[e,e2]
  have p:(0:Int)<=2^(64-n):=Int.le_of_lt (Int.pow_pos (by decide))
  have a1:(2:Int)^(n-1)*2^(64-n)<=x*2^(64-n):=Int.mul_le_mul_of_nonneg_right h3 p
  have a2:x*2^(64-n)<2^n*2^(64-n):=Int.mul_lt_mul_of_pos_right h4 (Int.pow_pos (by decide))
  rw[<- dZ0,show n-1+(64-n)=63 by omega]at a1
  rw[<- dZ0,show n+(64-n)=64 by omega]at a2
  have b1:(2:Int)^63=9223372036854775808:=by decide
  have b2:(2:Int)^64=18446744073709551616:=by decide
  rw[st0 (by omega)]
  omega
theorem fi0{a b:Int}(ha:0<=a)(h:0<IntKind.u64.wrap (a*b)):1<=a:=by
  by_cases h1:0<a
  · omega
  · have:a=0:=by omega
    subst this
    rw[Int.zero_mul,st0 (by omega)]at h
    omega
theorem sn0{v7 v8 v17 v25 v31 q:Int}(h7:0<=v7):∃ r,dvC v7 v8 v17 v25 v31 q=some r/\0<=r.1:=by
  unfold dvC
  rw[gd (decide_eq_false (by omega))]
  exact⟨_,rfl,(wu _).1⟩
theorem ss0{q v:Int}(h1:1<=q)(h2:q<=18446744073709551615):IntKind.u64.wrap (q-1)=q-1:=st0 ⟨by omega,by omega⟩
theorem dvB_ex{v7 v8 v9 v10 v17 v25 v31:Int}(h7:0<=v7)(h9:v9≠0):∃ r,dvB v7 v8 v9 v10 v17 v25 v31=some r/\0<=r.1:=by
  unfold dvB
  rw[gd (decide_eq_false h9),b9]
  refine hN0 (fun y:Int×Int=>0<=y.2/\y.2<=18446744073709551615) (fun y=>y.2.toNat) _ ?_ (wu _) (by have:=wu (v31.tdiv v9);show (IntKind.u64.wrap (v31.tdiv v9)).toNat<_;omega)
  intro k x ix rk
  have go:1<=x.2->∃ v,k (IntKind.u64.wrap (x.1+v9),IntKind.u64.wrap (x.2-1))=some v/\0<=v.1:=fun h1=>by
    rw[ss0 (v:=0) h1 ix.2]
    exact rk (_,x.2-1) ⟨by show 0<=x.2-1;omega,by show x.2-1<=_;omega⟩ (by show (x.2-1).toNat<x.2.toNat;omega)
  cases c1:decide (4294967296<=x.2)with
  | true =>
    have:=of_decide_eq_true c1
    rw[cond_true]
    cases decide (4294967296<=IntKind.u64.wrap (x.1+v9))with
    | true=>exact sn0 h7
    | false=>exact go (by omega)
  | false =>
    rw[cond_false]
    cases c2:decide (IntKind.u64.wrap (IntKind.u64.wrap (4294967296*x.1)+v17)<IntKind.u64.wrap (x.2*v10))with
    | false=>exact sn0 h7
    | true =>
      have a:=of_decide_eq_true c2
      have b:=(wu (IntKind.u64.wrap (4294967296*x.1)+v17)).1
      rw[cond_true]
      cases decide (4294967296<=IntKind.u64.wrap (x.1+v9))with
      | true=>exact sn0 h7
      | false=>exact go (fi0 (b:=v10) ix.1 (by omega))
theorem ts0{x:Int×Int×Int}(g1:0<=x.1)(g2:x.1<x.2.2)(g3:x.2.2<=18446744073709551615):∃ r,bC0 x=some r/\0<=r.1:=by
 unfold bC0
 refine l6 _ rfl ?_;intro v3 h3
 cases c3:v3
 case false =>
  rw[cond_false]
  refine l6 _ rfl ?_;intro v4 h4
  cases c4:v4
  case false =>
   rw[cond_false]
   refine l6 _ rfl ?_;intro v5 h5
   cases c5:v5
   case false =>
    rw[cond_false]
    refine G8 (eW0 ⟨by omega,g3⟩) ?_;intro v6 h6
    refine l6 _ rfl ?_;intro v7 h7
    refine l6 _ (gd (by have:=wu (v6);rw[<- h7]at this;exact decide_eq_false (by omega))) ?_;intro v8 h8
    refine l6 _ (gd (by decide)) ?_;intro v9 h9
    obtain⟨n,hv,hn1,hn2,hn3,hn4⟩:=h6
    have hb8:=vN0 hv hn1 hn2 hn3 hn4
    rw[<- h7,<-h8]at hb8
    rw[sh32,fd32]at h9
    have hz9:v9≠0:=by omega
    clear hv hn1 hn2 hn3 hn4 hb8
    refine l6 _ rfl ?_;intro v10 h10
    refine l6 _ (gd (by have:=wu (v6);rw[<- h7]at this;exact decide_eq_false (by omega))) ?_;intro v11 h11
    refine l6 _ rfl ?_;intro v12 h12
    refine l6 _ (gd (by have:=wu (((64:Int)-v7));rw[<- h12]at this;exact decide_eq_false (by omega))) ?_;intro v13 h13
    refine l6 _ rfl ?_;intro v14 h14
    refine l6 _ (gd (by have:=wu (v6);rw[<- h7]at this;exact decide_eq_false (by omega))) ?_;intro v15 h15
    refine l6 _ (gd (by decide)) ?_;intro v16 h16
    refine l6 _ rfl ?_;intro v17 h17
    refine l6 _ (gd (decide_eq_false (by omega))) ?_;intro v18 h18
    refine l6 _ rfl ?_;intro v19 h19
    refine l6 _ rfl ?_;intro v20 h20
    have h7':0<=v7:=by have:=wu v6;rw[<- h7]at this;omega
    have B:∀ q,∃ r,dvA v7 v8 v9 v10 v14 v16 v17 q=some r/\0<=r.1:=fun q=>dvB_ex h7' hz9
    refine hN0 (fun y:Int×Int=>0<=y.1/\y.1<=18446744073709551615) (fun y=>y.1.toNat) _ ?_ (by have a:=wu ((v14.tdiv v9));rw[<- h18]at a;exact a) (by have a:=wu ((v14.tdiv v9));rw[<- h18]at a;show v18.toNat<_;omega)
    intro k x ix rk
    have go:1<=x.1->∃ v,k (IntKind.u64.wrap (x.1-1),IntKind.u64.wrap (x.2+v9))=some v/\0<=v.1:=fun h1=>by
      rw[ss0 (v:=0) h1 ix.2]
      exact rk (x.1-1,_) ⟨by show 0<=x.1-1;omega,by show x.1-1<=_;omega⟩ (by show (x.1-1).toNat<x.1.toNat;omega)
    cases c1:decide (4294967296<=x.1)with
    | true =>
      have:=of_decide_eq_true c1
      rw[cond_true]
      cases decide (4294967296<=IntKind.u64.wrap (x.2+v9))with
      | true=>exact B _
      | false=>exact go (by omega)
    | false =>
      rw[cond_false]
      cases c2:decide (IntKind.u64.wrap (IntKind.u64.wrap (4294967296*x.2)+v16)<IntKind.u64.wrap (x.1*v10))with
      | false=>exact B _
      | true =>
        have a:=of_decide_eq_true c2
        have b:=(wu (IntKind.u64.wrap (4294967296*x.2)+v16)).1
        rw[cond_true]
        cases decide (4294967296<=IntKind.u64.wrap (x.2+v9))with
        | true=>exact B _
        | false=>exact go (fi0 (b:=v10) ix.1 (by omega))
   case true =>
    rw[cond_true]
    refine l6 _ (gd (decide_eq_false (by omega))) ?_;intro v6 h6
    refine l6 _ (gd (decide_eq_false (by omega))) ?_;intro v7 h7
    exact⟨_,rfl,by show 0<=v6;rw[h6];exact(wu _).1⟩
  case true =>
   rw[cond_true]
   have:=of_decide_eq_true (h4.symm.trans c4);omega
 case true =>
  rw[cond_true]
  have:=of_decide_eq_true (h3.symm.trans c3);omega
end Go.Ab
namespace Go.Ab
open Go Go.Sort Go.Proofs Go.Shelf
set_option maxRecDepth 10000
theorem R2(x:Int):∃ v,F8 x=some v/\0<=v/\v<=18446744073709551615/\(-9223372036854775808<=x->x<=9223372036854775807->v=(x.natAbs:Int)):=by
  unfold F8
  simp only[b9]
  by_cases h:x<0
  · simp only[h,decide_true,cond_true]
    refine⟨_,rfl,(wu _).1,(wu _).2,fun h1 h2=>?_⟩
    simp only[IntKind.wrap,IntKind.bits,IntKind.signed]
    simp
    omega
  · simp only[h,decide_false,cond_false]
    refine⟨_,rfl,(wu _).1,(wu _).2,fun h1 h2=>?_⟩
    rw[st0 (by omega)]
    omega
theorem lh0{n:Int}(h:0<=n):∃ v,K4 (n,false)=some v/\0<=v.1/\v.1<=9223372036854775807/\(n<=9223372036854775807->v=(n,true)):=by
  unfold K4
  simp only[b9,cond_false]
  by_cases h1:9223372036854775807<n
  · simp only[h1,decide_true,cond_true]
    exact⟨_,rfl,by simp,by simp,fun h=>by omega⟩
  · simp only[h1,decide_false,cond_false]
    rw[w64 (by omega) (by omega)]
    exact⟨_,rfl,by simpa using h,by simp only;omega,fun _=>rfl⟩
theorem jf0(n:Int):∃ v,K4 (n,true)=some v/\True:=by
  unfold K4
  simp only[b9,cond_true]
  by_cases h1:9223372036854775808<n
  · simp only[h1,decide_true,cond_true];exact⟨_,rfl,trivial⟩
  · simp only[h1,decide_false,cond_false];exact⟨_,rfl,trivial⟩
theorem bE0(a b:Nat)(hb:b<=18446744073709551615):O4 ((a:Int),(b:Int))=some ((Nat.gcd a b:Nat):Int):=by
  unfold O4
  simp only[b9]
  refine(dJ0 (fun x:Int×Int=>∃ a b:Nat,x=((a:Int),(b:Int))/\b<=18446744073709551615) (fun x=>x.2.toNat) (fun x=>some ((Nat.gcd x.1.toNat x.2.toNat:Nat):Int)) ?_ ⟨a,b,rfl,hb⟩ (by show ((b:Int)).toNat<_;omega)).trans (by simp)
  rintro rec x ⟨a,b,rfl,hb⟩ hr
  by_cases h0:b=0
  · subst h0
    simp
  · have e:decide ((b:Int)=0)=false:=decide_eq_false (by omega)
    have em:(a:Int).tmod (b:Int)=((a%b:Nat):Int):=by rw[Int.tmod_eq_emod_of_nonneg (by omega)];rfl
    have hlt:a%b<b:=Nat.mod_lt _ (by omega)
    simp only[e,Bool.not_false,cond_true,cond_false,b9,em]
    rw[hr ((b:Int),((a%b:Nat):Int)) ⟨b,a%b,rfl,by omega⟩ (by simp;exact hlt)]
    simp only[Int.toNat_natCast]
    rw[Nat.gcd_comm b (a%b),<-Nat.gcd_rec,Nat.gcd_comm]
theorem Gcd_ex{a b:Int}(h1:-9223372036854775808<=a)(h2:a<=9223372036854775807)(h3:1<=b)(h4:b<=9223372036854775807):∃ v,dG0 (a,b)=some v/\1<=v/\v<=b:=by
  unfold dG0
  obtain⟨u,e1,_,_,e2⟩:=R2 a
  obtain⟨w,e3,_,_,e4⟩:=R2 b
  have e2:=e2 h1 h2
  have e4:=e4 (by omega) h4
  have hg:Nat.gcd a.natAbs b.natAbs<=b.natAbs:=Nat.gcd_le_right _ (by omega)
  have hg2:0<Nat.gcd a.natAbs b.natAbs:=Nat.gcd_pos_of_pos_right _ (by omega)
  obtain⟨s,e5,_,_,e6⟩:=lh0 (n:=((Nat.gcd a.natAbs b.natAbs:Nat):Int)) (by omega)
  simp only[e1,e3,b9,e2,e4,bE0 a.natAbs b.natAbs (by omega),e5,e6 (by omega)]
  exact⟨_,rfl,by omega,by omega⟩
theorem mS0(n:Int):-9223372036854775808<=IntKind.i64.wrap n/\IntKind.i64.wrap n<=9223372036854775807:=by rw[IntKind.wrap_i64];omega
theorem ue0{a b:Int}(h1:0<=a)(h2:0<=b):∃ v,bits_Add64 (a,b,0)=some v/\0<=v.1:=by
  unfold bits_Add64
  simp only[h1,h2,decide_true,Bool.true_and,Bool.true_or,cond_true]
  exact⟨_,rfl,by simp only;omega⟩
theorem fT0(x:Int×Int):∃ r,P0 x=some r/\0<=r.1/\0<=r.2:=by
 unfold P0
 refine l6 _ rfl ?_;intro v2 h2
 refine l6 _ (gd (by decide)) ?_;intro v3 h3
 refine l6 _ rfl ?_;intro v4 h4
 refine l6 _ (gd (by decide)) ?_;intro v5 h5
 refine l6 _ rfl ?_;intro v6 h6
 refine l6 _ rfl ?_;intro v7 h7
 refine l6 _ (gd (by decide)) ?_;intro v8 h8
 refine l6 _ rfl ?_;intro v9 h9
 refine l6 _ rfl ?_;intro v10 h10
 refine l6 _ (gd (by decide)) ?_;intro v11 h11
 refine l6 _ rfl ?_;intro v12 h12
 refine l6 _ rfl ?_;intro v13 h13
 refine l6 _ rfl ?_;intro v14 h14
 refine l6 _ rfl ?_;intro v15 h15
 refine l6 _ (gd (by decide)) ?_;intro v16 h16
 refine l6 _ rfl ?_;intro v17 h17
 refine l6 _ rfl ?_;intro v18 h18
 exact⟨_,rfl,by show 0<=v17;rw[h17];exact(wu _).1,by show 0<=v18;rw[h18];exact(wu _).1⟩
theorem rI0(t c:Int)(hc:1<=c)(hc2:c<=9223372036854775807):∃ r,ai0 (t,t,c)=some r/\0<=r.1/\r.1<=9223372036854775807:=by
 unfold ai0
 dsimp only
 refine l6 _ rfl ?_;intro v3 h3
 cases c3:v3
 case false =>
  rw[cond_false]
  refine l6 _ rfl ?_;intro v4 h4
  refine l6 _ rfl ?_;intro v5 h5
  refine l6 _ rfl ?_;intro v6 h6
  refine l6 _ rfl ?_;intro v7 h7
  refine l6 _ rfl ?_;intro v8 h8
  refine G8 (R2 _) ?_;intro v9 h9
  refine G8 (R2 _) ?_;intro v10 h10
  refine G8 (fT0 _) ?_;intro v11 h11
  refine G8 (R2 _) ?_;intro v13 h13
  refine l6 _ rfl ?_;intro v14 h14
  cases c14:v14
  case false =>
   rw[cond_false]
   refine G8 (R2 _) ?_;intro v15 h15
   refine G8 (ts0 h11.1 (by have:=of_decide_eq_false (h14.symm.trans c14);have a:=h13.2.2 (by omega) hc2;have b:=h15.2.2 (by omega) hc2;simp only;omega) h15.2.1) ?_;intro v16 h16
   cases c8:v8
   case false =>
    rw[cond_false]
    refine G8 (lh0 h16) ?_;intro v18 h18
    refine l6 _ rfl ?_;intro v20 h20
    cases c20:v20
    case false =>
     rw[cond_false]
     exact⟨_,rfl,h18.1,h18.2.1⟩
    case true =>
     rw[cond_true]
     exact⟨_,rfl,by simp,by simp⟩
   case true =>
    rw[cond_true]
    refine l6 _ rfl ?_;intro v18 h18
    cases c18:v18
    case false =>
     rw[cond_false]
     refine G8 (jf0 _) ?_;intro v19 h19
     refine l6 _ rfl ?_;intro v21 h21
     cases c21:v21
     case false =>
      rw[cond_false]
      exact absurd (h8.symm.trans c8) (by simp[h6,h7,h4,h5];omega)
     case true =>
      rw[cond_true]
      exact⟨_,rfl,by simp,by simp⟩
    case true =>
     rw[cond_true]
     refine l6 _ rfl ?_;intro v19 h19
     cases c19:v19
     case false =>
      rw[cond_false]
      refine l6 _ rfl ?_;intro v20 h20
      refine G8 (jf0 _) ?_;intro v21 h21
      refine l6 _ rfl ?_;intro v23 h23
      cases c23:v23
      case false =>
       rw[cond_false]
       exact absurd (h8.symm.trans c8) (by simp[h6,h7,h4,h5];omega)
      case true =>
       rw[cond_true]
       exact⟨_,rfl,by simp,by simp⟩
     case true =>
      rw[cond_true]
      exact⟨_,rfl,by simp,by simp⟩
  case true =>
   rw[cond_true]
   exact⟨_,rfl,by simp,by simp⟩
 case true =>
  rw[cond_true]
  exact⟨_,rfl,by simp,by simp⟩
theorem sq_nonneg(x:Int):0<=x*x:=by
  rcases Int.le_total 0 x with h | h
  · exact Int.mul_nonneg h h
  · exact Int.mul_nonneg_of_nonpos_of_nonpos h h
theorem bH0{a b:Pt}(ha:C4 a=true)(hb:C4 b=true):E8 (a,b)=some ((b.1-a.1)*(b.1-a.1)+(b.2-a.2)*(b.2-a.2))/\0<=(b.1-a.1)*(b.1-a.1)+(b.2-a.2)*(b.2-a.2)/\(b.1-a.1)*(b.1-a.1)+(b.2-a.2)*(b.2-a.2)<=35184372088832:=by
  rw[X6]at ha hb
  obtain⟨m1,m2⟩:=fc0 (a:=b.1-a.1) (b:=b.1-a.1) (m:=4194304) (n:=4194304) (by omega) (by omega) (by omega) (by omega)
  obtain⟨m3,m4⟩:=fc0 (a:=b.2-a.2) (b:=b.2-a.2) (m:=4194304) (n:=4194304) (by omega) (by omega) (by omega) (by omega)
  have p1:0<=(b.1-a.1)*(b.1-a.1):=sq_nonneg _
  have p2:0<=(b.2-a.2)*(b.2-a.2):=sq_nonneg _
  unfold E8
  simp only[b9]
  rw[w64 (n:=b.1-a.1) (by omega) (by omega),w64 (n:=b.2-a.2) (by omega) (by omega),w64 (n:=(b.1-a.1)*(b.1-a.1)) (by omega) (by omega),w64 (n:=(b.2-a.2)*(b.2-a.2)) (by omega) (by omega),w64 (by omega) (by omega)]
  exact⟨rfl,by omega,by omega⟩
theorem nB0{n g:Int}(h1:1<=g)(h2:g<=n)(h3:n<=9223372036854775807):1<=IntKind.i64.wrap (n.tdiv g)/\IntKind.i64.wrap (n.tdiv g)<=9223372036854775807:=by
  rw[IntWalk.i64_quo n g ⟨by omega,h3,h1⟩]
  have a:1<=n / g:=(Int.le_ediv_iff_mul_le (by omega)).2 (by omega)
  have b:n / g<=n:=Int.ediv_le_self _ (by omega)
  omega
theorem wW0{a b p:Pt}(ha:C4 a=true)(hb:C4 b=true)(hp:C4 p=true):∃ f,P8 (a,b,p)=some f/\0<=f.1/\f.1<=9223372036854775807/\1<=f.2/\f.2<=9223372036854775807:=by
 unfold P8
 dsimp only
 obtain⟨s1,s2,s3⟩:=bH0 ha hb
 obtain⟨s4,s5,s6⟩:=bH0 ha hp
 obtain⟨s7,s8,s9⟩:=bH0 hb hp
 have tw:=T5 a b p ha hb hp
 have nr:=rK0 a b p
 rw[ha,hb,hp]at nr
 refine l6 _ rfl ?_;intro v6 h6
 refine G8 (show ∃ v,J9 _=some v/\v=true from⟨_,nr,rfl⟩) ?_;intro v6 h6
 refine l6 _ rfl ?_;intro v7 h7
 cases c7:v7
 case false =>
  rw[cond_false]
  refine G8 (show ∃ v,E8 _=some v/\v=(b.1-a.1)*(b.1-a.1)+(b.2-a.2)*(b.2-a.2)from⟨_,s1,rfl⟩) ?_;intro v8 h8
  refine l6 _ rfl ?_;intro v9 h9
  refine l6 _ rfl ?_;intro v10 h10
  refine l6 _ rfl ?_;intro v11 h11
  refine l6 _ rfl ?_;intro v12 h12
  refine l6 _ rfl ?_;intro v13 h13
  refine l6 _ rfl ?_;intro v14 h14
  refine l6 _ rfl ?_;intro v15 h15
  refine l6 _ rfl ?_;intro v16 h16
  cases c16:v16
  case false =>
   rw[cond_false]
   refine l6 _ rfl ?_;intro v17 h17
   skip
   cases c17:v17
   case false =>
    rw[cond_false]
    have k1:=of_decide_eq_false (h16.symm.trans c16)
    have k2:=of_decide_eq_false (h17.symm.trans c17)
    refine G8 (show ∃ v,K1 _=some v/\v=T4 a b p from⟨_,tw,rfl⟩) ?_;intro v18 h18
    refine G8 (rI0 _ _ (by omega) (by omega)) ?_;intro v19 h19
    refine l6 _ rfl ?_;intro v21 h21
    refine l6 _ rfl ?_;intro v22 h22
    refine l6 _ rfl ?_;intro v23 h23
    refine G8 (Gcd_ex (by have:=mS0 (v21-v22);omega) (by have:=mS0 (v21-v22);omega) (by omega) (by omega)) ?_;intro v24 h24
    refine l6 _ rfl ?_;intro v25 h25
    refine l6 _ (gd (decide_eq_false (by omega))) ?_;intro v26 h26
    refine l6 _ rfl ?_;intro v27 h27
    refine G8 (fT0 _) ?_;intro v28 h28
    refine l6 _ (gd (decide_eq_false (by omega))) ?_;intro v30 h30
    refine l6 _ rfl ?_;intro v31 h31
    refine G8 (ue0 h28.2 (by have:=(wu v30).1;omega)) ?_;intro v32 h32
    refine l6 _ rfl ?_;intro v34 h34
    refine l6 _ rfl ?_;intro v35 h35
    cases c35:v35
    case false =>
     rw[cond_false]
     refine l6 _ rfl ?_;intro v36 h36
     cases c36:v36
     case false =>
      rw[cond_false]
      refine l6 _ rfl ?_;intro v37 h37
      refine l6 _ (gd (decide_eq_false (by omega))) ?_;intro v38 h38
      exact⟨_,rfl,by have:=of_decide_eq_false (h36.symm.trans c36);show 0<=v37;rw[h37,w64 (by omega) (by omega)];exact h32,by show v37<=_;have:=mS0 v32.1;omega,by show 1<=v38;rw[h38];exact(nB0 h24.1 h24.2 (by omega)).1,by show v38<=_;rw[h38];exact(nB0 h24.1 h24.2 (by omega)).2⟩
     case true =>
      rw[cond_true]
      exact⟨_,rfl,h19.1,h19.2,by simp,by simp⟩
    case true =>
     rw[cond_true]
     exact⟨_,rfl,h19.1,h19.2,by simp,by simp⟩
   case true =>
    rw[cond_true]
    refine G8 (show ∃ v,E8 _=some v/\v=(p.1-b.1)*(p.1-b.1)+(p.2-b.2)*(p.2-b.2)from⟨_,s7,rfl⟩) ?_;intro v18 h18
    exact⟨_,rfl,by simp only;omega,by simp only;omega,by simp,by simp⟩
  case true =>
   rw[cond_true]
   refine G8 (show ∃ v,E8 _=some v/\v=(p.1-a.1)*(p.1-a.1)+(p.2-a.2)*(p.2-a.2)from⟨_,s4,rfl⟩) ?_;intro v17 h17
   skip
   exact⟨_,rfl,by simp only;omega,by simp only;omega,by simp,by simp⟩
 case true =>
  rw[cond_true]
  rw[h7,h6]at c7;cases c7
end Go.Ab
namespace Go.Ab
open Go Go.Sort Go.Proofs Go.Shelf
set_option maxRecDepth 10000
theorem kW0{α:Type}{c:Bool}{a b:Option α}(ha:∃ v,a=some v)(hb:∃ v,b=some v):∃ v,(bif c then a else b)=some v:=by cases c<;>assumption
theorem ni0(x:Int×Int):∃ v,X9 x=some v:=by
 unfold X9
 obtain⟨a,ea,a1,a2,_⟩:=R2 x.1
 obtain⟨b,eb,b1,b2,_⟩:=R2 x.2
 obtain⟨m,rfl⟩:=Int.eq_ofNat_of_zero_le a1
 obtain⟨n,rfl⟩:=Int.eq_ofNat_of_zero_le b1
 simp only[ea,eb,b9,bE0 m n (by omega)]
 exact kW0 ⟨_,rfl⟩ ⟨_,rfl⟩
theorem Cmp_ex(x:(Int×Int)×(Int×Int)):∃ v,Z5 x=some v:=by
 unfold Z5
 obtain⟨v4,e4⟩:=ni0 (x.1.1,x.1.2)
 obtain⟨v6,e6⟩:=ni0 (x.2.1,x.2.2)
 obtain⟨v11,e11,_⟩:=R2 x.1.1
 obtain⟨v12,e12,_⟩:=R2 x.2.2
 obtain⟨v13,e13,_⟩:=fT0 (v11,v12)
 obtain⟨v15,e15,_⟩:=R2 x.2.1
 obtain⟨v16,e16,_⟩:=R2 x.1.2
 obtain⟨v17,e17,_⟩:=fT0 (v15,v16)
 simp only[e4,e6,e11,e12,e13,e15,e16,e17,b9]
 repeat (first | exact⟨_,rfl⟩ | refine kW0 ?_ ?_)
theorem In_eq(a b c d:Int)(p:Pt):dC0 ((a,b,c,d),p)=some (decide (a<=p.1)&&(decide (p.1<=c)&&(decide (b<=p.2)&&decide (p.2<=d)))):=by
 unfold dC0
 simp only
 cases decide (a<=p.1)<;>cases decide (p.1<=c)<;>cases decide (b<=p.2)<;>rfl
namespace Dp
def sA(g:Seg):Pt:=(g.1,g.2.1)
def sB(g:Seg):Pt:=(g.2.2.1,g.2.2.2)
def N5(gap:Int)(at':Pt)(g:Seg):Bool:=decide (min g.1 g.2.2.1-gap<=at'.1)&&(decide (at'.1<=max g.1 g.2.2.1+gap)&&(decide (min g.2.1 g.2.2.2-gap<=at'.2)&&decide (at'.2<=max g.2.1 g.2.2.2+gap)))
theorem cY0{p:Pt}:U7 p=true↔-1048576<=p.1/\p.1<=1048576/\-1048576<=p.2/\p.2<=1048576:=by simp[U7,and_assoc]
theorem kz0{g:Seg}(ha:U7 (sA g)=true)(hb:U7 (sB g)=true)(p:Pt){gap:Int}(h0:0<=gap)(h1:gap<=200):A4 (g,p,gap)=some (N5 gap p g):=by
 have ha:=cY0.1 ha
 have hb:=cY0.1 hb
 simp only[sA,sB]at ha hb
 unfold A4 N5
 simp only[rb0,gQ0]
 rw[w64 (by omega) (by omega),w64 (by omega) (by omega),w64 (by omega) (by omega),w64 (by omega) (by omega),In_eq]
 rfl
def edgeB(q a b:Pt):Bool :=
 bif decide (b.2<a.2)then (bif decide (b.2<=q.2)then (bif decide (q.2<a.2)then decide (0<P5 b a q)else false)else false)else (bif decide (a.2<=q.2)then (bif decide (q.2<b.2)then decide (0<P5 a b q)else false)else false)
def mg0(P:List Pt)(q:Pt):List Pt->Nat->Bool->Bool
 | [],_,b=>b
 | x::r,i,b=>mg0 P q r (i+1) (bif edgeB q x ((P[(i+1)%P.length]?).getD (0,0))then !b else b)
def dF0(q:Pt):List Ol->Int
 | []=>0
 | o::r=>bif mg0 o.2.2 q o.2.2 0 false then o.1 else dF0 q r
theorem ub0{β:Type}(P:List Pt)(q:Pt)(hl:P.length<=1000000)(K:Int×Bool->Option β) :
  rounds (α:=Int×Bool) (β:=β) (fun k12 x12 =>
   bif (decide (x12.1<(P.length:Int)))then (
   b8 (nth P x12.1) fun v16 =>
   b8 ((bif decide ((P.length:Int)=0)then none else some ((IntKind.i64.wrap (x12.1+(1:Int))).tmod (P.length:Int)))) fun v20 =>
   b8 (nth P v20) fun v21 =>
   bif (decide (v21.2<v16.2))then (
    bif (decide (v21.2<=q.2))then (
    bif (decide (q.2<v16.2))then (
     b8 (A7 ((v21.1,v21.2),(v16.1,v16.2),(q.1,q.2))) fun v26 =>
     bif (decide ((0:Int)<v26))then (
     k12 ((IntKind.i64.wrap (x12.1+(1:Int))),(!(x12.2))))else (
     k12 ((IntKind.i64.wrap (x12.1+(1:Int))),x12.2)))else (
     k12 ((IntKind.i64.wrap (x12.1+(1:Int))),x12.2)))else (
    k12 ((IntKind.i64.wrap (x12.1+(1:Int))),x12.2)))else (
    bif (decide (v16.2<=q.2))then (
    bif (decide (q.2<v21.2))then (
     b8 (A7 ((v16.1,v16.2),(v21.1,v21.2),(q.1,q.2))) fun v26 =>
     bif (decide ((0:Int)<v26))then (
     k12 ((IntKind.i64.wrap (x12.1+(1:Int))),(!(x12.2))))else (
     k12 ((IntKind.i64.wrap (x12.1+(1:Int))),x12.2)))else (
     k12 ((IntKind.i64.wrap (x12.1+(1:Int))),x12.2)))else (
    k12 ((IntKind.i64.wrap (x12.1+(1:Int))),x12.2))))else (K x12)) ((0:Int),false)=K ((P.length:Int),mg0 P q P 0 false):=by
 refine(l9 (A:=Bool) P (fun i a=>((i:Int),a)) (fun a rest=>K ((P.length:Int),mg0 P q rest (P.length-rest.length) a)) (fun _ _=>True) (by omega) ?_ ?_ false trivial).trans (by simp)
 ·intro rec a _
  simp only[y4,cond_false,mg0]
 ·intro rec i a x rest hi _ hd hr
  obtain⟨_,hrl,_⟩:=J7 hd
  have h1:P.length-(x::rest).length=i:=by simp only[List.length_cons];omega
  have h2:P.length-rest.length=i+1:=by omega
  have e0:decide ((P.length:Int)=0)=false:=decide_eq_false (by omega)
  have e1:((i+1:Nat):Int).tmod (P.length:Int)=(((i+1)%P.length:Nat):Int):=by
   rw[Int.tmod_eq_emod_of_nonneg (by omega)];rfl
  have hm:(i+1)%P.length<P.length:=Nat.mod_lt _ (by omega)
  have e2:P[(i+1)%P.length]?=some (P[(i+1)%P.length]'hm):=List.getElem?_eq_getElem hm
  simp only[y0 hi,cond_true,l8 hd,b9,e0,cond_false,r7 hi (show P.length<2^62 by omega),e1,C8,e2,cK0,h1]
  simp only[mg0,e2,Option.getD_some]
  have r1:=hr a trivial
  have r2:=hr (!a) trivial
  rw[h2]at r1 r2
  generalize P[(i+1)%P.length]'hm=y
  unfold edgeB
  rw[r1,r2]
  cases decide (y.2<x.2)<;>cases decide (y.2<=q.2)<;>cases decide (q.2<x.2)<;>cases decide (x.2<=q.2)<;>cases decide (q.2<y.2)<;>cases decide (0<P5 y x q)<;>cases decide (0<P5 x y q)<;>rfl
theorem qH0{ols:List Ol}(hl:ols.length<=1000000)(hp:∀ o∈ols,o.2.2.length<=1000000)(segs:List Seg)(q:Pt):B9 ((segs,ols),q)=some (dF0 q ols):=by
 unfold B9
 refine p8 (A:=Unit) ols (fun i _=>(i:Int)) (fun _ rest=>some (dF0 q rest)) (by omega) ?_ ?_ ()
 ·intro rec a
  simp only[y4,cond_false,dF0]
 ·intro rec i a x rest hi hd hr
  have hxm:x∈ols:=by
   have:x∈ols.drop i:=by rw[hd];simp
   exact List.mem_of_mem_drop this
  simp only[y0 hi,cond_true,l8 hd,b9]
  refine(ub0 x.2.2 q (hp x hxm) _).trans ?_
  have:=hr ()
  simp only[r7 hi (show ols.length<2^62 by omega),this,dF0]
  cases mg0 x.2.2 q x.2.2 0 false<;>rfl
noncomputable def cmpD(gap:Int)(at':Pt)(g:Seg):Int:=((P8 (sA g,sB g,at')).bind fun f=>Z5 (f,(gap*gap,1))).getD 0
def dm0(g2 id:Int)(at':Pt)(n:Nd):Bool:=!decide (n.1=id)&&(decide (n.2.1=at'.1)&&decide (n.2.2=at'.2)||decide ((n.2.1-at'.1)*(n.2.1-at'.1)+(n.2.2-at'.2)*(n.2.2-at'.2)<g2))
noncomputable def kg0(gap:Int)(at':Pt)(g:Seg):Bool:=N5 gap at' g&&(onP (sA g) (sB g) at'||decide (cmpD gap at' g<0))
noncomputable def Z1(segs:List Seg)(ols:List Ol)(cur:List Nd)(id:Int)(p0 at':Pt)(gap:Int):Bool :=
 bif U7 at' then (bif cur.any (dm0 (gap*gap) id at')then false else bif segs.any (kg0 gap at')then false else decide (dF0 at' ols=dF0 p0 ols))else false
theorem oB0(cur:List Nd)(hl:cur.length<=1000000)(hp:∀ n∈cur,U7 (pt n)=true)(id:Int)(q:Pt)(hq:U7 q=true){gap:Int}(h0:0<=gap)(h1:gap<=64)(K:Option Bool) :
  rounds (α:=Int) (β:=Bool) (fun k12 x12 =>
  bif (decide (x12<(cur.length:Int)))then (
   b8 (nth cur x12) fun v15 =>
   b8 (some (IntKind.i64.wrap (v15.2.1-q.1))) fun v18 =>
   b8 (some (IntKind.i64.wrap (v15.2.2-q.2))) fun v19 =>
   bif (!decide (v15.1=id))then (
   bif (decide (v15.2.1=q.1)&&decide (v15.2.2=q.2))then (
    some false)else (
    bif (decide ((IntKind.i64.wrap ((IntKind.i64.wrap (v18*v18))+(IntKind.i64.wrap (v19*v19))))<(IntKind.i64.wrap (gap*gap))))then (
    some false)else (
    k12 (IntKind.i64.wrap (x12+(1:Int))))))else (
   k12 (IntKind.i64.wrap (x12+(1:Int)))))else K) (0:Int)=bif cur.any (dm0 (gap*gap) id q)then some false else K:=by
 have hg:IntKind.i64.wrap (gap*gap)=gap*gap:=by
  have:=Q4 (A:=64) (a:=gap) (b:=gap) (by omega) (by omega) (by omega) (by omega)
  exact w64 (by omega) (by omega)
 have hq:=cY0.1 hq
 refine p8 (A:=Unit) cur (fun i _=>(i:Int)) (fun _ rest=>bif rest.any (dm0 (gap*gap) id q)then some false else K) (by omega) ?_ ?_ ()
 ·intro rec a
  simp only[y4,cond_false,List.any_nil]
 ·intro rec i a x rest hi hd hr
  have hxm:x∈cur:=by
   have:x∈cur.drop i:=by rw[hd];simp
   exact List.mem_of_mem_drop this
  have hx:=cY0.1 (hp x hxm)
  simp only[pt]at hx
  have b1:=Q4 (A:=2097152) (a:=x.2.1-q.1) (b:=x.2.1-q.1) (by omega) (by omega) (by omega) (by omega)
  have b2:=Q4 (A:=2097152) (a:=x.2.2-q.2) (b:=x.2.2-q.2) (by omega) (by omega) (by omega) (by omega)
  have e1:IntKind.i64.wrap (x.2.1-q.1)=x.2.1-q.1:=w64 (by omega) (by omega)
  have e2:IntKind.i64.wrap (x.2.2-q.2)=x.2.2-q.2:=w64 (by omega) (by omega)
  have e3:IntKind.i64.wrap ((x.2.1-q.1)*(x.2.1-q.1))=(x.2.1-q.1)*(x.2.1-q.1):=w64 (by omega) (by omega)
  have e4:IntKind.i64.wrap ((x.2.2-q.2)*(x.2.2-q.2))=(x.2.2-q.2)*(x.2.2-q.2):=w64 (by omega) (by omega)
  have e5:IntKind.i64.wrap ((x.2.1-q.1)*(x.2.1-q.1)+(x.2.2-q.2)*(x.2.2-q.2))=(x.2.1-q.1)*(x.2.1-q.1)+(x.2.2-q.2)*(x.2.2-q.2):=w64 (by omega) (by omega)
  have:=hr ()
  simp only[y0 hi,cond_true,l8 hd,b9,r7 hi (show cur.length<2^62 by omega),this,e1,e2,e3,e4,e5,hg,List.any_cons]
  unfold dm0
  cases decide (x.1=id)<;>cases decide (x.2.1=q.1)&&decide (x.2.2=q.2)<;>cases decide ((x.2.1-q.1)*(x.2.1-q.1)+(x.2.2-q.2)*(x.2.2-q.2)<gap*gap)<;>rfl
structure ey0(segs:List Seg):Prop where
 len:segs.length<=1000000
 pos:∀ g∈segs,U7 (sA g)=true/\U7 (sB g)=true
theorem ru0{segs:List Seg}(hs:ey0 segs)(q:Pt)(hq:U7 q=true){gap:Int}(h0:0<=gap)(h1:gap<=64)(K:Option Bool) :
  rounds (α:=Int) (β:=Bool) (fun k17 x17 =>
   bif (decide (x17<(segs.length:Int)))then (
    b8 (nth segs x17) fun v20 =>
    b8 (A4 ((v20.1,v20.2.1,v20.2.2.1,v20.2.2.2),(q.1,q.2),gap)) fun v24 =>
    bif (!(v24))then (
    k17 (IntKind.i64.wrap (x17+(1:Int))))else (
    b8 (A5 ((v20.1,v20.2.1),(v20.2.2.1,v20.2.2.2),(q.1,q.2))) fun v26 =>
    bif v26 then (
     some false)else (
     b8 (P8 ((v20.1,v20.2.1),(v20.2.2.1,v20.2.2.2),(q.1,q.2))) fun v27 =>
     b8 (Z5 ((v27.1,v27.2),((IntKind.i64.wrap (gap*gap)),(1:Int)))) fun v29 =>
     bif (decide (v29<(0:Int)))then (
     some false)else (
     k17 (IntKind.i64.wrap (x17+(1:Int)))))))else K) (0:Int)=bif segs.any (kg0 gap q)then some false else K:=by
 have hg:IntKind.i64.wrap (gap*gap)=gap*gap:=by
  have:=Q4 (A:=64) (a:=gap) (b:=gap) (by omega) (by omega) (by omega) (by omega)
  exact w64 (by omega) (by omega)
 have hl:=hs.len
 refine p8 (A:=Unit) segs (fun i _=>(i:Int)) (fun _ rest=>bif rest.any (kg0 gap q)then some false else K) (by omega) ?_ ?_ ()
 ·intro rec a
  simp only[y4,cond_false,List.any_nil]
 ·intro rec i a x rest hi hd hr
  have hxm:x∈segs:=by
   have:x∈segs.drop i:=by rw[hd];simp
   exact List.mem_of_mem_drop this
  obtain⟨pa,pb⟩:=hs.pos x hxm
  obtain⟨f,ef,_⟩:=wW0 (bF0 pa) (bF0 pb) (bF0 hq)
  obtain⟨c,ec⟩:=Cmp_ex (f,(gap*gap,1))
  have e1:A4 ((x.1,x.2.1,x.2.2.1,x.2.2.2),(q.1,q.2),gap)=some (N5 gap q x):=kz0 pa pb q h0 (by omega)
  have e2:A5 ((x.1,x.2.1),(x.2.2.1,x.2.2.2),(q.1,q.2))=some (onP (sA x) (sB x) q):=bj0 _ _ _
  have e3:P8 ((x.1,x.2.1),(x.2.2.1,x.2.2.2),(q.1,q.2))=some f:=ef
  have e4:Z5 ((f.1,f.2),(gap*gap,1))=some c:=ec
  have e5:cmpD gap q x=c:=by unfold cmpD;rw[ef];show (Z5 (f,(gap*gap,1))).getD 0=c;rw[ec];rfl
  have:=hr ()
  simp only[y0 hi,cond_true,l8 hd,b9,r7 hi (show segs.length<2^62 by omega),this,e1,e2,e3,e4,hg,List.any_cons]
  unfold kg0
  rw[e5]
  cases N5 gap q x<;>cases onP (sA x) (sB x) q<;>cases decide (c<0)<;>rfl
structure tQ0(ols:List Ol):Prop where
 len:ols.length<=1000000
 pth:∀ o∈ols,o.2.2.length<=1000000
theorem lN0{segs:List Seg}{ols:List Ol}{cur:List Nd}(hs:ey0 segs)(ho:tQ0 ols)(hl:cur.length<=1000000)(hp:∀ n∈cur,U7 (pt n)=true)(nd:Nd)(q:Pt){gap:Int}(h0:0<=gap)(h1:gap<=64) :
  n4 ((segs,ols),cur,nd,q,gap)=some (Z1 segs ols cur nd.1 (pt nd) q gap):=by
 unfold n4 Z1
 have e0:dC0 ((-1048576,-1048576,1048576,1048576),(q.1,q.2))=some (U7 q):=by
  rw[In_eq]
  unfold U7
  simp only[Bool.and_assoc]
 simp only[e0,b9]
 cases hq:U7 q with
 | false=>rfl
 | true =>
  simp only[Bool.not_true,cond_false,cond_true]
  refine(oB0 cur hl hp nd.1 q hq h0 h1 _).trans ?_
  cases cur.any (dm0 (gap*gap) nd.1 q)with
  | true=>rfl
  | false =>
   rw[cond_false,cond_false]
   refine(ru0 hs q hq h0 h1 _).trans ?_
   cases segs.any (kg0 gap q)with
   | true=>rfl
   | false =>
    have f1:B9 ((segs,ols),(q.1,q.2))=some (dF0 q ols):=qH0 ho.len ho.pth segs q
    have f2:B9 ((segs,ols),(nd.2.1,nd.2.2))=some (dF0 (pt nd) ols):=qH0 ho.len ho.pth segs (pt nd)
    simp only[cond_false,f1,f2,b9]
end Dp
end Go.Ab
namespace Go.Ab
open Go Go.Sort Go.Proofs Go.Shelf
set_option maxRecDepth 10000
namespace Dp
def offP(d y:Int)(j:Nat):List Pt:=bif decide (List.foldl mxI ((j:Int)-d) [-((j:Int)-d),y,-y]=d)then [((j:Int)-d,y)]else []
def offR(d:Int)(n:Nat)(i:Nat):List Pt:=(List.range n).flatMap (offP d ((i:Int)-d))
def offK(k:Nat):List Pt:=(List.range (2*k+3)).flatMap (offR ((k+1:Nat):Int) (2*k+3))
def it0(n:Nat):List Pt:=(List.range n).flatMap offK
theorem tT0(d y:Int)(j:Nat):(offP d y j).length<=1:=by
 unfold offP
 cases decide (List.foldl mxI ((j:Int)-d) [-((j:Int)-d),y,-y]=d)<;>simp
theorem gk0{α β:Type}{f:α->List β}{c:Nat}(hf:∀ x,(f x).length<=c):∀ l:List α,(l.flatMap f).length<=c*l.length
 | []=>by simp
 | x::l=>by
  rw[List.flatMap_cons,List.length_append,List.length_cons,Nat.mul_add]
  have:=gk0 hf l
  have:=hf x
  omega
theorem od0(d:Int)(n i:Nat):(offR d n i).length<=n:=by
 have:=gk0 (tT0 d ((i:Int)-d)) (List.range n)
 rw[List.length_range]at this
 unfold offR
 omega
theorem eM0{n i x:Nat}{rest:List Nat}(h:(List.range n).drop i=x::rest):x=i:=by
 have h1:(List.range n)[i]?=some x:=by rw[<- C8];exact l8 h
 have h2:i<n:=by have:=J7 h;simpa using this.1
 rw[List.getElem?_range h2]at h1
 exact(Option.some.inj h1).symm
theorem qb0{β:Type}(d:Int)(k i:Nat)(hk:k<64)(hi:i<2*k+3)(hd:d=((k+1:Nat):Int))(acc:List Pt)(ha:acc.length<=100000000)(K:Int×List Pt->Option β) :
  rounds (α:=Int×List (Int×Int)) (β:=β) (fun k16 x16 =>
     bif (decide (x16.1<(((2*k+3:Nat):Int))))then (
     b8 (some (IntKind.i64.wrap (x16.1-d))) fun v20 =>
     b8 (some (IntKind.i64.wrap ((i:Int)-d))) fun v21 =>
     bif (decide ((List.foldl mxI v20 [(IntKind.i64.wrap (0-v20)),v21,(IntKind.i64.wrap (0-v21))])=d))then (
      b8 (L7 16 x16.2 [(v20,v21)]) fun v26 =>
      k16 ((IntKind.i64.wrap (x16.1+(1:Int))),v26))else (
      k16 ((IntKind.i64.wrap (x16.1+(1:Int))),x16.2)))else (K x16)) ((0:Int),acc)=K (((2*k+3:Nat):Int),acc++offR d (2*k+3) i):=by
 have hn:(List.range (2*k+3)).length=2*k+3:=List.length_range
 refine(l9 (A:=List Pt) (List.range (2*k+3)) (fun i a=>((i:Int),a)) (fun a rest=>K (((2*k+3:Nat):Int),a++rest.flatMap (offP d ((i:Int)-d)))) (fun j a=>a.length<=100000000+j) (by rw[hn];omega) ?_ ?_ acc (by omega)).trans rfl
 ·intro rec a hI
  rw[hn]
  simp only[y4,cond_false,List.flatMap_nil,List.append_nil]
 ·intro rec j a x rest hj hI hdr hr
  have hx:=eM0 hdr
  subst hx
  rw[hn]at hj
  have e1:IntKind.i64.wrap ((x:Int)-d)=(x:Int)-d:=w64 (by omega) (by omega)
  have e2:IntKind.i64.wrap ((i:Int)-d)=(i:Int)-d:=w64 (by omega) (by omega)
  have e3:IntKind.i64.wrap (0-((x:Int)-d))=-((x:Int)-d):=by rw[w64 (by omega) (by omega)];omega
  have e4:IntKind.i64.wrap (0-((i:Int)-d))=-((i:Int)-d):=by rw[w64 (by omega) (by omega)];omega
  simp only[y0 hj,cond_true,b9,e1,e2,e3,e4,r7 hj (show 2*k+3<2^62 by omega)]
  rw[B8 (by omega) (by simp;omega),b9]
  rw[List.flatMap_cons]
  unfold offP
  cases hb:decide (List.foldl mxI ((x:Int)-d) [-((x:Int)-d),(i:Int)-d,-((i:Int)-d)]=d)with
  | true =>
   simp only[cond_true]
   rw[hr _ (by simp;omega)]
   simp only[List.append_assoc]
   rfl
  | false =>
   simp only[cond_false]
   rw[hr _ (by omega)]
   simp only[List.nil_append]
   rfl
theorem sr0{β:Type}(d:Int)(k:Nat)(hk:k<64)(hd:d=((k+1:Nat):Int))(acc:List Pt)(ha:acc.length<=50000000)(K:List Pt×Int->Option β) :
  rounds (α:=List (Int×Int)×Int) (β:=β) (fun k10 x10 =>
    bif (decide (x10.2<(((2*k+3:Nat):Int))))then (
    rounds (α:=Int×List (Int×Int)) (β:=β) (fun k16 x16 =>
     bif (decide (x16.1<(((2*k+3:Nat):Int))))then (
     b8 (some (IntKind.i64.wrap (x16.1-d))) fun v20 =>
     b8 (some (IntKind.i64.wrap (x10.2-d))) fun v21 =>
     bif (decide ((List.foldl mxI v20 [(IntKind.i64.wrap (0-v20)),v21,(IntKind.i64.wrap (0-v21))])=d))then (
      b8 (L7 16 x16.2 [(v20,v21)]) fun v26 =>
      k16 ((IntKind.i64.wrap (x16.1+(1:Int))),v26))else (
      k16 ((IntKind.i64.wrap (x16.1+(1:Int))),x16.2)))else (
     k10 (x16.2,(IntKind.i64.wrap (x10.2+(1:Int)))))) ((0:Int),x10.1))else (K x10)) (acc,(0:Int))=K (acc++offK k,((2*k+3:Nat):Int)):=by
 have hn:(List.range (2*k+3)).length=2*k+3:=List.length_range
 refine(l9 (A:=List Pt) (List.range (2*k+3)) (fun i a=>(a,(i:Int))) (fun a rest=>K (a++rest.flatMap (offR d (2*k+3)),((2*k+3:Nat):Int))) (fun j a=>a.length<=50000000+200*j) (by rw[hn];omega) ?_ ?_ acc (by omega)).trans (by subst hd;rfl)
 ·intro rec a hI
  rw[hn]
  simp only[y4,cond_false,List.flatMap_nil,List.append_nil]
 ·intro rec j a x rest hj hI hdr hr
  have hx:=eM0 hdr
  subst hx
  rw[hn]at hj
  simp only[y0 hj,cond_true]
  refine(qb0 d k x hk hj hd a (by omega) _).trans ?_
  have:=od0 d (2*k+3) x
  simp only[r7 hj (show 2*k+3<2^62 by omega)]
  rw[hr _ (by simp;omega)]
  simp only[List.flatMap_cons,List.append_assoc]
theorem ob0(k:Nat)(hk:k<64):(offK k).length<=40000:=by
 have:=gk0 (od0 ((k+1:Nat):Int) (2*k+3)) (List.range (2*k+3))
 rw[List.length_range]at this
 have h2:(2*k+3)*(2*k+3)<=131*131:=Nat.mul_le_mul (by omega) (by omega)
 unfold offK
 omega
theorem cU0{gap:Int}(h0:0<=gap)(h1:gap<=64):A9 gap=some (it0 gap.toNat,0):=by
 obtain⟨n,rfl⟩:=Int.eq_ofNat_of_zero_le h0
 have hn:(List.range n).length=n:=List.length_range
 unfold A9
 have c1:decide ((n:Int)<0)=false:=decide_eq_false (by omega)
 have c2:decide ((64:Int)<(n:Int))=false:=decide_eq_false (by omega)
 simp only[c1,c2,cond_false]
 refine(l9 (A:=List Pt) (List.range n) (fun i a=>(a,(i:Int))) (fun a rest=>some (a++rest.flatMap offK,0)) (fun j a=>a.length<=40000*j) (by rw[hn];omega) ?_ ?_ [] (by simp)).trans rfl
 ·intro rec a hI
  rw[hn]
  simp only[y4,cond_false,List.flatMap_nil,List.append_nil]
 ·intro rec j a x rest hj hI hdr hr
  have hx:=eM0 hdr
  subst hx
  rw[hn]at hj
  have e0:IntKind.i64.wrap ((x:Int)+1)=((x+1:Nat):Int):=r7 hj (by omega)
  have e1:IntKind.i64.wrap (IntKind.i64.wrap (2*((x+1:Nat):Int))+1)=((2*x+3:Nat):Int):=by
   rw[w64 (n:=2*((x+1:Nat):Int)) (by omega) (by omega),w64 (by omega) (by omega)];omega
  simp only[y0 hj,cond_true,e0,b9,e1]
  refine(sr0 _ x (by omega) rfl a (by omega) _).trans ?_
  have:=ob0 x (by omega)
  rw[hr _ (by simp;omega)]
  simp only[List.flatMap_cons,List.append_assoc]
theorem gt0{gap:Int}(h:¬ (0<=gap/\gap<=64)):A9 gap=some ([],2):=by
 unfold A9
 by_cases c:gap<0
 ·simp only[decide_eq_true c,cond_true]
 ·have c2:(64:Int)<gap:=by omega
  simp only[decide_eq_false c,decide_eq_true c2,cond_true,cond_false]
theorem nL0{n:Nat}{o:Pt}(h:o∈it0 n):-(n:Int)<=o.1/\o.1<=n/\-(n:Int)<=o.2/\o.2<=n:=by
 unfold it0 at h
 obtain⟨k,hk,h⟩:=List.mem_flatMap.1 h
 unfold offK at h
 obtain⟨i,hi,h⟩:=List.mem_flatMap.1 h
 unfold offR at h
 obtain⟨j,hj,h⟩:=List.mem_flatMap.1 h
 rw[List.mem_range]at hk hi hj
 unfold offP at h
 cases hb:decide (List.foldl mxI ((j:Int)-((k+1:Nat):Int)) [-((j:Int)-((k+1:Nat):Int)),(i:Int)-((k+1:Nat):Int),-((i:Int)-((k+1:Nat):Int))]=((k+1:Nat):Int))with
 | false=>rw[hb]at h;simp at h
 | true =>
  rw[hb]at h
  simp only[cond_true,List.mem_singleton]at h
  subst h
  simp only
  omega
end Dp
end Go.Ab
namespace Go.Ab
open Go Go.Sort Go.Proofs Go.Shelf
set_option maxRecDepth 10000
namespace Dp
theorem th0{β:Type}(cur:List Nd)(hl:cur.length<=1000000)(id:Int)(i0:Nat)(nd:Nd)(hi:cur[i0]?=some nd)(hid:nd.1=id)(hb:∀ j m,j<i0->cur[j]?=some m->m.1≠id)(K:Int->Option β)(N:Option β) :
  rounds (α:=Int) (β:=β) (fun k34 x34 =>
      bif (decide (x34<(cur.length:Int)))then (
       b8 ((bif decide (0<=x34)&&decide (x34<(cur.length:Int))then some ()else none)) fun _ =>
       b8 ((cur[(x34).toNat]?).map (fun x=>(x.1,x.2.1,x.2.2))) fun v37 =>
       bif (decide (v37.1=id))then (K x34)else (
       k34 (IntKind.i64.wrap (x34+(1:Int)))))else N) (0:Int)=K (i0:Int):=by
 have hlt:i0<cur.length:=by
  rcases Nat.lt_or_ge i0 cur.length with q | q
  ·exact q
  ·rw[List.getElem?_eq_none q]at hi;cases hi
 refine(dJ0 (fun x:Int=>∃ i:Nat,x=i/\i<=i0) (fun x=>(i0-x.toNat)) (fun _=>K (i0:Int)) ?_ ⟨0,rfl,by omega⟩ ?_)
 ·rintro rec x ⟨i,rfl,hle⟩ hr
  have h1:i<cur.length:=by omega
  have e0:decide (0<=(i:Int))=true:=decide_eq_true (by omega)
  have e1:cur[i]?=some (cur[i]'h1):=List.getElem?_eq_getElem h1
  simp only[y0 h1,cond_true,e0,Bool.and_self,b9,Int.toNat_natCast,e1,Option.map_some]
  by_cases e:i=i0
  ·subst e
   rw[hi]at e1
   have e1:=Option.some.inj e1
   rw[<- e1,decide_eq_true hid,cond_true]
  ·have:=hb i _ (by omega) e1
   rw[decide_eq_false this,cond_false,r7 h1 (by omega)]
   exact hr _ ⟨i+1,rfl,by omega⟩ (by simp only[Int.toNat_natCast];omega)
 ·have:=nJ0
  simp only[Int.toNat_zero]
  omega
theorem pi0{β:Type}{segs:List Seg}(hs:ey0 segs)(p:Pt){gap:Int}(h0:0<=gap)(h1:gap<=64)(K:Int×List Seg->Option β) :
  rounds (α:=Int×List (Int×Int×Int×Int)) (β:=β) (fun k45 x45 =>
        bif (decide (x45.1<(segs.length:Int)))then (
        b8 (nth segs x45.1) fun v49 =>
        b8 (A4 ((v49.1,v49.2.1,v49.2.2.1,v49.2.2.2),(p.1,p.2),(IntKind.i64.wrap ((2:Int)*gap)))) fun v54 =>
        bif v54 then (
         b8 (L7 32 x45.2 [(v49.1,v49.2.1,v49.2.2.1,v49.2.2.2)]) fun v55 =>
         k45 ((IntKind.i64.wrap (x45.1+(1:Int))),v55))else (
         k45 ((IntKind.i64.wrap (x45.1+(1:Int))),x45.2)))else (K x45)) ((0:Int),[])=K ((segs.length:Int),segs.filter (N5 (2*gap) p)):=by
 have hl:=hs.len
 refine(l9 (A:=List Seg) segs (fun i a=>((i:Int),a)) (fun a rest=>K ((segs.length:Int),a++rest.filter (N5 (2*gap) p))) (fun i a=>a.length<=i) (by omega) ?_ ?_ [] (by simp)).trans (by simp)
 ·intro rec a hI
  simp only[y4,cond_false,List.filter_nil,List.append_nil]
 ·intro rec i a x rest hi hI hd hr
  have hxm:x∈segs:=by
   have:x∈segs.drop i:=by rw[hd];simp
   exact List.mem_of_mem_drop this
  obtain⟨pa,pb⟩:=hs.pos x hxm
  have e0:IntKind.i64.wrap (2*gap)=2*gap:=w64 (by omega) (by omega)
  have e1:A4 ((x.1,x.2.1,x.2.2.1,x.2.2.2),(p.1,p.2),2*gap)=some (N5 (2*gap) p x):=kz0 pa pb p (by omega) (by omega)
  simp only[y0 hi,cond_true,l8 hd,b9,r7 hi (show segs.length<2^62 by omega),e0,e1,List.filter_cons]
  cases N5 (2*gap) p x with
  | true =>
   rw[cond_true,B8 (by omega) (by simp;omega),b9,hr _ (by simp;omega)]
   simp
  | false =>
   rw[cond_false,hr _ (by omega)]
   simp
theorem sJ0{β:Type}{segs:List Seg}{ols:List Ol}{cur:List Nd}(hs:ey0 segs)(ho:tQ0 ols)(hl:cur.length<=1000000)(hp:∀ n∈cur,U7 (pt n)=true)(nd:Nd)(hnd:U7 (pt nd)=true){gap:Int}(h0:0<=gap)(h1:gap<=64)
  (offs:List Pt) (hb:∀ o∈offs,-64<=o.1/\o.1<=64/\-64<=o.2/\o.2<=64) (hlo:offs.length<2^62) (Y:Pt->Option β) (N:Option β) :
  rounds (α:=Int) (β:=β) (fun k51 x51 =>
         bif (decide (x51<(offs.length:Int)))then (
          b8 (nth offs x51) fun v54 =>
          b8 (n4 ((segs,ols),cur,(nd.1,nd.2.1,nd.2.2),(IntKind.i64.wrap (nd.2.1+v54.1),IntKind.i64.wrap (nd.2.2+v54.2)),gap)) fun v58 =>
          bif v58 then (Y v54)else (
          k51 (IntKind.i64.wrap (x51+(1:Int)))))else N) (0:Int) =
   match offs.find? (fun o=>Z1 segs ols cur nd.1 (pt nd) (nd.2.1+o.1,nd.2.2+o.2) gap)with
   | some o=>Y o
   | none=>N:=by
 refine p8 (A:=Unit) offs (fun i _=>(i:Int)) (fun _ rest=>match rest.find? (fun o=>Z1 segs ols cur nd.1 (pt nd) (nd.2.1+o.1,nd.2.2+o.2) gap)with
   | some o=>Y o
   | none=>N) (by omega) ?_ ?_ ()
 ·intro rec a
  simp only[y4,cond_false,List.find?_nil]
 ·intro rec i a x rest hi hd hr
  have hxm:x∈offs:=by
   have:x∈offs.drop i:=by rw[hd];simp
   exact List.mem_of_mem_drop this
  have hx:=hb x hxm
  have hq:=cY0.1 hnd
  simp only[pt]at hq
  have e1:IntKind.i64.wrap (nd.2.1+x.1)=nd.2.1+x.1:=w64 (by omega) (by omega)
  have e2:IntKind.i64.wrap (nd.2.2+x.2)=nd.2.2+x.2:=w64 (by omega) (by omega)
  have e3:n4 ((segs,ols),cur,(nd.1,nd.2.1,nd.2.2),(nd.2.1+x.1,nd.2.2+x.2),gap)=some (Z1 segs ols cur nd.1 (pt nd) (nd.2.1+x.1,nd.2.2+x.2) gap):=lN0 hs ho hl hp nd _ h0 h1
  have:=hr ()
  simp only[y0 hi,cond_true,l8 hd,b9,e1,e2,e3,r7 hi hlo,this,List.find?_cons]
  cases Z1 segs ols cur nd.1 (pt nd) (nd.2.1+x.1,nd.2.2+x.2) gap<;>rfl
noncomputable def fF0(segs:List Seg)(ols:List Ol)(offs:List Pt)(gap:Int)(cur:List Nd)(n:Nd):Option Pt :=
 bif Z1 (segs.filter (N5 (2*gap) (pt n))) ols cur n.1 (pt n) (pt n) gap then none
 else (offs.find? (fun o=>Z1 (segs.filter (N5 (2*gap) (pt n))) ols cur n.1 (pt n) (n.2.1+o.1,n.2.2+o.2) gap)).map fun o=>(n.2.1+o.1,n.2.2+o.2)
theorem sa0:∀ {cur:List Nd} {i:Nat} {nd:Nd} (p:Pt),cur[i]?=some nd->(cur.map (·.1)).Nodup->cur.set i (nd.1,p.1,p.2)=put cur nd.1 p
 | [],_,_,_,h,_=>by simp at h
 | x::cur,0,nd,p,h,hn=>by
  simp only[List.getElem?_cons_zero,Option.some.injEq]at h
  subst h
  rw[List.map_cons,List.nodup_cons]at hn
  simp only[List.set_cons_zero,put,List.map_cons,if_true,List.cons.injEq,true_and]
  have:cur.map (fun n=>if n.1=x.1 then (x.1,p.1,p.2)else n)=cur.map id:=List.map_congr_left fun y hy=>if_neg fun e=>hn.1 (by rw[<- e];exact List.mem_map_of_mem hy)
  rw[this,List.map_id]
 | x::cur,i+1,nd,p,h,hn=>by
  rw[List.getElem?_cons_succ]at h
  rw[List.map_cons,List.nodup_cons]at hn
  have hne:x.1≠nd.1:=fun e=>hn.1 (by rw[e];exact List.mem_map_of_mem (List.mem_of_getElem? h))
  simp only[List.set_cons_succ,put,List.map_cons,if_neg hne]
  exact congrArg _ (sa0 p h hn.2)
end Dp
end Go.Ab
namespace Go.Ab
open Go Go.Sort Go.Proofs Go.Shelf
set_option maxRecDepth 10000
namespace Dp
theorem ey0.filter{segs:List Seg}(hs:ey0 segs)(P:Seg->Bool):ey0 (segs.filter P) :=
 ⟨Nat.le_trans (List.length_filter_le _ _) hs.len,fun g hg=>hs.pos g (List.mem_filter.1 hg).1⟩
theorem qS0{β:Type}{segs:List Seg}{ols:List Ol}{cur:List Nd}(hs:ey0 segs)(ho:tQ0 ols)(hl:cur.length<=1000000)(hp:∀ n∈cur,U7 (pt n)=true)(hn:(cur.map (·.1)).Nodup)(nd:Nd)(hnd:nd∈cur){gap:Int}(h0:0<=gap)(h1:gap<=64)
  (offs:List Pt) (hb:∀ o∈offs,-64<=o.1/\o.1<=64/\-64<=o.2/\o.2<=64) (hlo:offs.length<2^62) (NM:Option β) (MV:List Nd->Option β) (N:Option β) :
  rounds (α:=Int) (β:=β) (fun k34 x34 =>
      bif (decide (x34<(cur.length:Int)))then (
       b8 ((bif decide (0<=x34)&&decide (x34<(cur.length:Int))then some ()else none)) fun _ =>
       b8 ((cur[(x34).toNat]?).map (fun x=>(x.1,x.2.1,x.2.2))) fun v37 =>
       bif (decide (v37.1=nd.1))then (
       b8 ((bif decide (0<=x34)&&decide (x34<(cur.length:Int))then some ()else none)) fun _ =>
       b8 ((cur[(x34).toNat]?).map (fun x=>(x.1,x.2.1,x.2.2))) fun v41 =>
       rounds (α:=Int×List (Int×Int×Int×Int)) (β:=β) (fun k45 x45 =>
        bif (decide (x45.1<(segs.length:Int)))then (
        b8 (nth segs x45.1) fun v49 =>
        b8 (A4 ((v49.1,v49.2.1,v49.2.2.1,v49.2.2.2),(v41.2.1,v41.2.2),(IntKind.i64.wrap ((2:Int)*gap)))) fun v54 =>
        bif v54 then (
         b8 (L7 32 x45.2 [(v49.1,v49.2.1,v49.2.2.1,v49.2.2.2)]) fun v55 =>
         k45 ((IntKind.i64.wrap (x45.1+(1:Int))),v55))else (
         k45 ((IntKind.i64.wrap (x45.1+(1:Int))),x45.2)))else (
        b8 (some ()) fun _ =>
        b8 (n4 ((x45.2,ols),cur,(v41.1,v41.2.1,v41.2.2),(v41.2.1,v41.2.2),gap)) fun v49 =>
        bif v49 then NM else (
         rounds (α:=Int) (β:=β) (fun k51 x51 =>
         bif (decide (x51<(offs.length:Int)))then (
          b8 (nth offs x51) fun v54 =>
          b8 (some (IntKind.i64.wrap (v41.2.1+v54.1))) fun v56 =>
          b8 (some (IntKind.i64.wrap (v41.2.2+v54.2))) fun v57 =>
          b8 (some ()) fun _ =>
          b8 (n4 ((x45.2,ols),cur,(v41.1,v41.2.1,v41.2.2),(v56,v57),gap)) fun v58 =>
          bif v58 then (
          b8 ((bif decide (0<=x34)&&decide (x34<(cur.length:Int))then some ()else none)) fun _ =>
          b8 (some ()) fun _ =>
          b8 (ot0 cur (x34).toNat (fun x y=>(x.1,y.1,y.2)) (v56,v57)) fun v59=>MV v59)else (
          k51 (IntKind.i64.wrap (x51+(1:Int)))))else NM) (0:Int)))) ((0:Int),([]:List (Int×Int×Int×Int))))else (
       k34 (IntKind.i64.wrap (x34+(1:Int)))))else N) (0:Int) =
   match fF0 segs ols offs gap cur nd with
   | some p=>MV (put cur nd.1 p)
   | none=>NM:=by
 obtain⟨i0,hi0,hi⟩:=List.getElem_of_mem hnd
 have hi':cur[i0]?=some nd:=by rw[List.getElem?_eq_getElem hi0,hi]
 refine(th0 cur hl nd.1 i0 nd hi' rfl (fun j m hj hm e=>?_) _ N).trans ?_
 ·have hj2:j<cur.length:=by omega
  have e1:(cur.map (·.1))[j]?=some nd.1:=by rw[List.getElem?_map,hm];exact congrArg some e
  have e2:(cur.map (·.1))[i0]?=some nd.1:=by rw[List.getElem?_map,hi'];rfl
  have:=(List.getElem?_inj (by simpa using hj2) hn).1 (e1.trans e2.symm)
  omega
 ·have e0:decide (0<=(i0:Int))=true:=decide_eq_true (by omega)
  simp only[y0 hi0,e0,Bool.and_self,cond_true,b9,Int.toNat_natCast,hi',Option.map_some]
  refine(pi0 hs (pt nd) h0 h1 _).trans ?_
  have hs':=hs.filter (N5 (2*gap) (pt nd))
  have hnp:=hp nd hnd
  have ef:n4 ((segs.filter (N5 (2*gap) (pt nd)),ols),cur,(nd.1,nd.2.1,nd.2.2),(nd.2.1,nd.2.2),gap)=some (Z1 (segs.filter (N5 (2*gap) (pt nd))) ols cur nd.1 (pt nd) (pt nd) gap):=lN0 hs' ho hl hp nd (pt nd) h0 h1
  simp only[ef,b9]
  unfold fF0
  cases Z1 (segs.filter (N5 (2*gap) (pt nd))) ols cur nd.1 (pt nd) (pt nd) gap with
  | true=>rfl
  | false =>
   rw[cond_false,cond_false]
   refine(sJ0 hs' ho hl hp nd hnp h0 h1 offs hb hlo _ _).trans ?_
   cases hfo:offs.find? (fun o=>Z1 (segs.filter (N5 (2*gap) (pt nd))) ols cur nd.1 (pt nd) (nd.2.1+o.1,nd.2.2+o.2) gap)with
   | none=>rfl
   | some o =>
    have hx:=hb o (List.mem_of_find?_eq_some hfo)
    have hq:=cY0.1 hnp
    simp only[pt]at hq
    have w1:IntKind.i64.wrap (nd.2.1+o.1)=nd.2.1+o.1:=w64 (by omega) (by omega)
    have w2:IntKind.i64.wrap (nd.2.2+o.2)=nd.2.2+o.2:=w64 (by omega) (by omega)
    have es:ot0 cur i0 (fun x y=>(x.1,y.1,y.2)) (nd.2.1+o.1,nd.2.2+o.2)=some (put cur nd.1 (nd.2.1+o.1,nd.2.2+o.2)):=by
     unfold ot0
     rw[hi']
     exact congrArg some (sa0 _ hi' hn)
    simp only[w1,w2,es,b9,Option.map_some]
theorem kU0{β:Type}(ars:List Ar)(hl:ars.length<=1000000)(hv:∀ a∈ars,a.2.2.2.1.length<=900000)(K:Int×List Ar->Option β) :
  rounds (α:=Int×List (Int×Int×Int×List (Int×Int)×Int×Int)) (β:=β) (fun k12 x12 =>
   bif (decide (x12.1<(ars.length:Int)))then (
   b8 (nth ars x12.1) fun v16 =>
   b8 (slices_Clone_api_Point v16.2.2.2.1) fun v22 =>
   b8 (some ()) fun _ =>
   b8 (L7 64 x12.2 [(v16.1,v16.2.1,v16.2.2.1,v22,v16.2.2.2.2.1,v16.2.2.2.2.2)]) fun v23 =>
   k12 ((IntKind.i64.wrap (x12.1+(1:Int))),v23))else (K x12)) ((0:Int),[])=K ((ars.length:Int),ars):=by
 refine(l9 (A:=List Ar) ars (fun i a=>((i:Int),a)) (fun a rest=>K ((ars.length:Int),a++rest)) (fun i a=>a.length<=i) (by omega) ?_ ?_ [] (by simp)).trans (by simp)
 ·intro rec a hI
  simp only[y4,cond_false,List.append_nil]
 ·intro rec i a x rest hi hI hd hr
  have hxm:x∈ars:=by
   have:x∈ars.drop i:=by rw[hd];simp
   exact List.mem_of_mem_drop this
  have:=hv x hxm
  have e1:slices_Clone_api_Point x.2.2.2.1=some x.2.2.2.1:=by
   unfold slices_Clone_api_Point
   rw[B8 (by omega) (by simp;omega)]
   rfl
  simp only[y0 hi,cond_true,l8 hd,b9,e1,r7 hi (show ars.length<2^62 by omega)]
  rw[B8 (by omega) (by simp;omega),b9,hr _ (by simp;omega)]
  simp
theorem iQ0{β:Type}(l:List Ft)(hl:l.length<=1000000)(hv:∀ f∈l,f.2.2.2.2.length<=900000)(K:Int×List Ft->Option β) :
  rounds (α:=Int×List (Int×Int×Int×ByteArray×List (Int))) (β:=β) (fun k18 x18 =>
    bif (decide (x18.1<(l.length:Int)))then (
    b8 (nth l x18.1) fun v22 =>
    b8 (slices_Clone_int v22.2.2.2.2) fun v27 =>
    b8 (L7 64 x18.2 [(v22.1,v22.2.1,v22.2.2.1,v22.2.2.2.1,v27)]) fun v28 =>
    k18 ((IntKind.i64.wrap (x18.1+(1:Int))),v28))else (K x18)) ((0:Int),[])=K ((l.length:Int),l):=by
 refine(l9 (A:=List Ft) l (fun i a=>((i:Int),a)) (fun a rest=>K ((l.length:Int),a++rest)) (fun i a=>a.length<=i) (by omega) ?_ ?_ [] (by simp)).trans (by simp)
 ·intro rec a hI
  simp only[y4,cond_false,List.append_nil]
 ·intro rec i a x rest hi hI hd hr
  have hxm:x∈l:=by
   have:x∈l.drop i:=by rw[hd];simp
   exact List.mem_of_mem_drop this
  have:=hv x hxm
  have e1:slices_Clone_int x.2.2.2.2=some x.2.2.2.2:=by
   unfold slices_Clone_int
   rw[B8 (by omega) (by simp;omega)]
   rfl
  simp only[y0 hi,cond_true,l8 hd,b9,e1,r7 hi (show l.length<2^62 by omega)]
  rw[B8 (by omega) (by simp;omega),b9,hr _ (by simp;omega)]
  simp
end Dp
end Go.Ab
namespace Go.Ab
open Go Go.Sort Go.Proofs Go.Shelf
set_option maxRecDepth 10000
namespace Dp
structure DOk(ns:List Nd)(ars:List Ar)(fs:List Int)(l:List Ft):Prop where
 pl:O7 ns ars fs
 fac:(L1 ars fs.length true (H3 ns ars) [] []).2=true
 len:l.length<=128
 parts:∀ f∈l,f.2.2.2.2.length<=64
theorem vk0{c:Bool}{a b:Int}(ha:a≠0)(h:(bif c then a else b)=0):c=false/\b=0:=by
 cases c with
 | true=>exact absurd h ha
 | false=>exact⟨rfl,h⟩
theorem iO0{ns:List Nd}{ars:List Ar}{fs:List Int}{l:List Ft}(h0:G9 ns ars fs l=0):DOk ns ars fs l:=by
 unfold G9 at h0
 have hr:E5 ns ars fs=0:=by
  by_cases h:E5 ns ars fs=0
  ·exact h
  ·simp[h]at h0
 rw[hr]at h0
 simp only[decide_true,Bool.not_true,cond_false]at h0
 unfold E5 at hr
 by_cases hc:L5 ns ars fs=0
 ·rw[hc]at hr
  simp only[decide_true,cond_true]at hr
  obtain⟨h1,h0⟩:=vk0 (by decide) h0
  obtain⟨h2,h0⟩:=vk0 (by decide) h0
  refine⟨W1.1 hc,?_,by have:=of_decide_eq_false h1;omega,fun f hf=>?_⟩
  ·unfold H3
   cases hx:(L1 ars fs.length true (N1 ns ars (D1 ns ars) (O7.cyclesOf ns ars)) [] []).2 with
   | true=>rfl
   | false=>rw[hx]at hr;simp at hr
  ·have:=List.any_eq_false.1 h2 f hf
   simp[p1]at this
   omega
 ·simp[hc]at hr
theorem iN0:∀ {l:List Pt} {p:Pt} {g:Seg},g∈aP0 p l->sA g∈p::l/\sB g∈p::l
 | [],_,_,h=>by simp[aP0]at h
 | b::l,p,g,h=>by
  rcases List.mem_cons.1 h with rfl | h
  ·exact⟨by simp[sA],by simp[sB]⟩
  ·have:=iN0 h
   exact⟨List.mem_cons_of_mem _ this.1,List.mem_cons_of_mem _ this.2⟩
section
variable {ns:List Nd} {ars:List Ar} {fs:List Int} (h:O7 ns ars fs)
include h
theorem my0:ey0 (Q3 ns ars ars):=by
 constructor
 ·have key:∀ l:List Ar,(∀ a∈l,a∈ars)->(Q3 ns ars l).length<=66*l.length:=by
   intro l
   induction l with
   | nil=>intro _;simp[Q3]
   | cons a l ih =>
    intro hl
    have:=ih fun b hb=>hl b (by simp[hb])
    obtain⟨p,q,_,hq,hlen⟩:=em0 h (hl a (by simp))
    unfold Q3 at *
    have e:(oZ0 (p::q)).length=q.length:=eT0 q p
    rw[List.flatMap_cons,List.length_append,hq,List.length_cons,e]
    omega
  have:=key ars fun _ h=>h
  have:=h.lenA
  omega
 ·intro g hg
  obtain⟨a,ha,hg⟩:=List.mem_flatMap.1 hg
  obtain⟨p,q,hp,hq,_⟩:=em0 h ha
  rw[hq]at hg
  have hm:=iN0 (show g∈aP0 p q from hg)
  exact⟨h.pathNear ha hp _ hm.1,h.pathNear ha hp _ hm.2⟩
theorem rV0(hf:(L1 ars fs.length true (H3 ns ars) [] []).2=true):tQ0 (ja0 ns ars fs):=by
 have hp:(ja0 ns ars fs).Perm (pH0 ns ars (hC0 ns ars fs)):=O8 (ff0 _)
 have hz:=mD0 h hf
 obtain⟨_,hlen⟩:=h.areas_ok
 have hp2:(hC0 ns ars fs).Perm (mQ0 (aM0 ns ars fs) (H3 ns ars)):=O8 (cI0 _)
 have hlen2:(H3 ns ars).length<=1000000:=hlen
 obtain⟨g1,_,_⟩:=gA0 h ars [] (fun _ h=>h) (fun k p hk=>by simp[lkp]at hk)
 constructor
 ·rw[hp.length_eq]
  unfold pH0
  rw[List.length_map]
  refine Nat.le_trans (List.length_filter_le _ _) ?_
  rw[hp2.length_eq,hz];exact hlen2
 ·intro o ho
  obtain⟨r,hr,rfl⟩:=List.mem_map.1 (hp.mem_iff.1 ho)
  have hr:=hp2.mem_iff.1 (List.mem_filter.1 hr).1
  unfold mQ0 at hr
  obtain⟨i,hi,e⟩:=List.getElem_of_mem hr
  rw[List.getElem_zipWith]at e
  subst e
  have hi2:i<(H3 ns ars).length:=by rw[List.length_zipWith]at hi;omega
  have hout:=kK0 (a:=(H3 ns ars)[i]) (List.getElem_mem hi2)
  simp only
  have hcl:(H3 ns ars)[i].2.1.length<=512:=by
   rcases hout with e | e
   ·rw[e];simp
   ·exact(h.cycs_ok.cyc _ e).2.1
  have:=gk0 (f:=fun d=>((lkp qI d (Z8 ns ars ars [])).getD []).dropLast) (c:=66) (fun d=>by
   cases hd:lkp qI d (Z8 ns ars ars [])with
   | none=>simp
   | some p=>have:=(g1 d p hd).2;simp;omega) (H3 ns ars)[i].2.1
  unfold olP
  omega
theorem ho0:(ns.map (·.1)).Nodup:=List.Pairwise.imp (fun h=>by omega) (I9 h.ascN)
end
noncomputable def mm0(id:Int)(f:Ft):Bool:=decide (X4 f.2.1=1)&&decide (id∈f.2.2.2.2)
theorem tq0{l:List Ft}(hl:l.length<=1000000)(hv:∀ f∈l,f.2.2.2.2.length<=900000)(ns:List Nd)(ars:List Ar)(fs:List Int)(id:Int):T7 ((ns,ars,fs,l),1,id)=some ((l.filter (mm0 id)).map (·.1)):=by
 unfold T7
 simp only[show decide ((1:Int)<1)=false from rfl,show decide ((3:Int)<1)=false from rfl,cond_false]
 refine(l9 (A:=List Int) l (fun i a=>((i:Int),a)) (fun a rest=>some (a++(rest.filter (mm0 id)).map (·.1))) (fun i a=>a.length<=i) (by omega) ?_ ?_ [] (by simp)).trans (by simp)
 ·intro rec a hI
  simp only[y4,cond_false,List.filter_nil,List.map_nil,List.append_nil]
 ·intro rec i a x rest hi hI hd hr
  have hxm:x∈l:=by
   have:x∈l.drop i:=by rw[hd];simp
   exact List.mem_of_mem_drop this
  have:=hv x hxm
  simp only[y0 hi,cond_true,l8 hd,b9,dN0,I3 _ _ (show x.2.2.2.2.length<2^62 by omega),r7 hi (show l.length<2^62 by omega),List.filter_cons]
  have hc:L7 8 a [x.1]=some (a++[x.1]):=B8 (by omega) (by simp;omega)
  rw[hc,b9]
  have r1:=hr a (by omega)
  have r2:=hr (a++[x.1]) (by simp;omega)
  simp only[r1,r2]
  unfold mm0
  cases decide (X4 x.2.1=1)<;>cases decide (id∈x.2.2.2.2)<;>simp
noncomputable def pL0(ars:List Ar)(l:List Ft)(id:Int):Bool:=decide (I4 ars id=0)&&l.any (mm0 id)
theorem eZ0{l:List Ft}(hl:l.length<=1000000)(hv:∀ f∈l,f.2.2.2.2.length<=900000)(ns:List Nd)(ars:List Ar)(ha:ars.length<=1000000)(fs:List Int)(id:Int):I6 ((ns,ars,fs,l),id)=some (pL0 ars l id):=by
 unfold I6 pL0
 simp only[be0 ns ars fs id ha,b9,tq0 hl hv]
 have e1:decide (((I4 ars id:Nat):Int)=0)=decide (I4 ars id=0):=by by_cases e:I4 ars id=0<;>simp[e]
 rw[e1]
 cases decide (I4 ars id=0)with
 | false=>rfl
 | true =>
  simp only[cond_true,Bool.true_and,Option.some.injEq,List.length_map]
  cases hb:l.any (mm0 id)with
  | true =>
   obtain⟨f,hf,hu⟩:=List.any_eq_true.1 hb
   have:0<(l.filter (mm0 id)).length:=List.length_pos_of_mem (List.mem_filter.2 ⟨hf,hu⟩)
   exact decide_eq_true (by omega)
  | false =>
   have:l.filter (mm0 id)=[]:=List.filter_eq_nil_iff.2 fun f hf=>by rw[List.any_eq_false.1 hb f hf |> Bool.eq_false_iff.2];simp
   rw[this];rfl
end Dp
end Go.Ab
namespace Go.Ab
open Go Go.Sort Go.Proofs Go.Shelf
set_option maxRecDepth 10000
namespace Dp
section
variable (segs:List Seg) (ols:List Ol) (offs:List Pt) (gap:Int) (mov:Int->Bool)
noncomputable def sQ0(cur:List Nd)(n:Nd):List Nd:=match fF0 segs ols offs gap cur n with
 | some p=>put cur n.1 p
 | none=>cur
noncomputable def hQ0:List Nd->List Nd->List Nd
 | [],cur=>cur
 | n::r,cur=>hQ0 r (bif mov n.1 then sQ0 segs ols offs gap cur n else cur)
end
theorem nR0{segs:List Seg}{ols:List Ol}{offs:List Pt}{gap:Int}{cur:List Nd}{n:Nd}{p:Pt}(h:fF0 segs ols offs gap cur n=some p):Z1 (segs.filter (N5 (2*gap) (pt n))) ols cur n.1 (pt n) p gap=true/\Z1 (segs.filter (N5 (2*gap) (pt n))) ols cur n.1 (pt n) (pt n) gap=false/\∃ o∈offs,p=(n.2.1+o.1,n.2.2+o.2):=by
 unfold fF0 at h
 cases hf:Z1 (segs.filter (N5 (2*gap) (pt n))) ols cur n.1 (pt n) (pt n) gap with
 | true=>rw[hf]at h;simp at h
 | false =>
  rw[hf,cond_false]at h
  obtain⟨o,ho,rfl⟩:=Option.map_eq_some_iff.1 h
  have h2:=List.find?_some ho
  exact⟨h2,rfl,o,List.mem_of_find?_eq_some ho,rfl⟩
theorem qX0{segs:List Seg}{ols:List Ol}{cur:List Nd}{id:Int}{p0 p:Pt}{gap:Int}(h:Z1 segs ols cur id p0 p gap=true):U7 p=true:=by
 unfold Z1 at h
 cases hp:U7 p with
 | true=>rfl
 | false=>rw[hp]at h;simp at h
structure qu0(ns cur:List Nd):Prop where
 ids:cur.map (·.1)=ns.map (·.1)
 pos:∀ m∈cur,U7 (pt m)=true
theorem qu0.put{ns cur:List Nd}(h:qu0 ns cur)(id:Int){p:Pt}(hp:U7 p=true):qu0 ns (put cur id p) :=
 ⟨(pX0 _ _ _).trans h.ids,fun m hm=>by
  rcases cu0 hm with ⟨hm,_⟩ | rfl
  ·exact h.pos m hm
  ·exact hp⟩
section
variable {ns:List Nd} {ars:List Ar} {fs:List Int} {l:List Ft} (h:DOk ns ars fs l)
include h
theorem uy0:slices_Clone_api_Node ns=some ns:=by
 have:=h.pl.lenN
 unfold slices_Clone_api_Node
 rw[B8 (by omega) (by simp;omega)]
 rfl
theorem uG0:slices_Clone_int fs=some fs:=by
 have:=h.pl.lenF
 unfold slices_Clone_int
 rw[B8 (by omega) (by simp;omega)]
 rfl
theorem wH0:qu0 ns ns:=⟨rfl,fun m hm=>h.pl.nodePos hm⟩
theorem qe0{gap:Int}(h0:0<=gap)(h1:gap<=64):(∀ o∈it0 gap.toNat,-64<=o.1/\o.1<=64/\-64<=o.2/\o.2<=64)/\(it0 gap.toNat).length<2^62:=by
 refine⟨fun o ho=>by have:=nL0 ho;omega,?_⟩
 have hn:gap.toNat<=64:=by omega
 have key:∀ n,n<=64->(it0 n).length<=40000*n:=by
  intro n
  induction n with
  | zero=>intro _;simp[it0]
  | succ n ih =>
   intro hn
   have:=ih (by omega)
   have:=ob0 n (by omega)
   unfold it0 at *
   rw[List.range_succ,List.flatMap_append,List.length_append,List.flatMap_cons,List.flatMap_nil,List.append_nil]
   omega
 have:=key _ hn
 omega
theorem mH0(h0:G9 ns ars fs l=0){gap:Int}(g0:0<=gap)(g1:gap<=64) :
  D3 ((ns,ars,fs,l),gap)=some ((hQ0 (Q3 ns ars ars) (ja0 ns ars fs) (it0 gap.toNat) gap (pL0 ars l) ns ns,ars,fs,l),0):=by
 have hla:=h.pl.lenA
 have hln:=h.pl.lenN
 have hll:=h.len
 obtain⟨ob,ol⟩:=qe0 h g0 g1
 have hv:∀ f∈l,f.2.2.2.2.length<=900000:=fun f hf=>by have:=h.parts f hf;omega
 have hfc:D9 (ns,ars,fs,l)=some 0:=by rw[M4,h0]
 unfold D3
 simp only[hfc,b9,decide_true,Bool.not_true,cond_false,cU0 g0 g1,uy0 h]
 refine(kU0 ars (by omega) (fun a ha=>by have:=h.pl.lenV ha;omega) _).trans ?_
 simp only[uG0 h,b9]
 refine(iQ0 l (by omega) hv _).trans ?_
 simp only[cA0 h.pl h.fac,b9]
 have hs:=my0 h.pl
 have ho:=rV0 h.pl h.fac
 have hnd:=ho0 h.pl
 generalize Q3 ns ars ars=segs at hs ⊢
 generalize ja0 ns ars fs=ols at ho ⊢
 generalize it0 gap.toNat=offs at ob ol ⊢
 refine(l9 (A:=List Nd) ns (fun i a=>((i:Int),a)) (fun a rest=>some ((hQ0 segs ols offs gap (pL0 ars l) rest a,ars,fs,l),0)) (fun i a=>qu0 ns a/\∀ m∈ns.drop i,m∈a) (by omega) ?_ ?_ ns ⟨wH0 h,fun m hm=>by simpa using hm⟩).trans rfl
 ·intro rec a hI
  simp only[y4,cond_false,hQ0]
 ·intro rec i a x rest hi hI hd hr
  obtain⟨hI,hin⟩:=hI
  have hxa:x∈a:=hin x (by rw[hd];simp)
  have hrest:ns.drop (i+1)=rest:=by
   have:=congrArg List.tail hd
   simpa[List.tail_drop]using this
  have hal:a.length=ns.length:=by have:=congrArg List.length hI.ids;simpa using this
  have han:(a.map (·.1)).Nodup:=by rw[hI.ids];exact hnd
  have hne:∀ m∈rest,m.1≠x.1:=fun m hm e=>by
   have hsub:((x::rest).map (·.1)).Nodup:=by rw[<- hd,List.map_drop];exact hnd.sublist (List.drop_sublist _ _)
   rw[List.map_cons,List.nodup_cons]at hsub
   exact hsub.1 (by rw[<- e];exact List.mem_map_of_mem hm)
  have hinr:∀ m∈rest,m∈a:=fun m hm=>hin m (by rw[hd];simp[hm])
  simp only[y0 hi,cond_true,l8 hd,b9,r7 hi (show ns.length<2^62 by omega),eZ0 (show l.length<=1000000 by omega) hv ns ars (by omega) fs,hQ0]
  cases hm:pL0 ars l x.1 with
  | false =>
   simp only[cond_false]
   exact hr a ⟨hI,fun m hm=>hinr m (by rw[<- hrest];exact hm)⟩
  | true =>
   simp only[cond_true]
   refine(qS0 hs ho (by omega) hI.pos han x hxa g0 g1 offs ob ol _ _ _).trans ?_
   unfold sQ0
   cases hg:fF0 segs ols offs gap a x with
   | none=>exact hr a ⟨hI,fun m hm=>hinr m (by rw[<- hrest];exact hm)⟩
   | some p =>
    refine hr (put a x.1 p) ⟨hI.put _ (qX0 (nR0 hg).1),fun m hm=>?_⟩
    rw[hrest]at hm
    exact mE0 (hinr m hm) (hne m hm)
theorem xE0(h0:G9 ns ars fs l=0){gap:Int}(g0:0<=gap)(g1:gap<=64){n:Nd}(hn:n∈ns)(hm:pL0 ars l n.1=true) :
  C5 ((ns,ars,fs,l),n.1,gap)=some (match fF0 (Q3 ns ars ars) (ja0 ns ars fs) (it0 gap.toNat) gap ns n with | some p=>((put ns n.1 p,ars,fs,l),true,0) | none=>((ns,ars,fs,l),false,0)):=by
 have hla:=h.pl.lenA
 have hln:=h.pl.lenN
 have hll:=h.len
 obtain⟨ob,ol⟩:=qe0 h g0 g1
 have hv:∀ f∈l,f.2.2.2.2.length<=900000:=fun f hf=>by have:=h.parts f hf;omega
 have hfc:D9 (ns,ars,fs,l)=some 0:=by rw[M4,h0]
 unfold C5
 simp only[hfc,b9,decide_true,Bool.not_true,cond_false,cU0 g0 g1,h.pl.Node_eq,h.pl.nodeOf_self hn,uy0 h,eZ0 (show l.length<=1000000 by omega) hv ns ars (by omega) fs,hm]
 refine(kU0 ars (by omega) (fun a ha=>by have:=h.pl.lenV ha;omega) _).trans ?_
 simp only[uG0 h,b9]
 refine(iQ0 l (by omega) hv _).trans ?_
 simp only[cA0 h.pl h.fac,b9]
 refine(qS0 (my0 h.pl) (rV0 h.pl h.fac) (by omega) (wH0 h).pos (ho0 h.pl) n hn g0 g1 (it0 gap.toNat) ob ol _ _ _).trans ?_
 cases fF0 (Q3 ns ars ars) (ja0 ns ars fs) (it0 gap.toNat) gap ns n<;>rfl
theorem tt0(h0:G9 ns ars fs l=0){gap:Int}(g0:0<=gap)(g1:gap<=64){n:Nd}(hn:n∈ns)(hm:pL0 ars l n.1=false) :
  ∃ s,C5 ((ns,ars,fs,l),n.1,gap)=some (s,false,13):=by
 have hla:=h.pl.lenA
 have hll:=h.len
 have hv:∀ f∈l,f.2.2.2.2.length<=900000:=fun f hf=>by have:=h.parts f hf;omega
 have hfc:D9 (ns,ars,fs,l)=some 0:=by rw[M4,h0]
 unfold C5
 simp only[hfc,b9,decide_true,Bool.not_true,cond_false,cU0 g0 g1,h.pl.Node_eq,h.pl.nodeOf_self hn,eZ0 (show l.length<=1000000 by omega) hv ns ars (by omega) fs,hm,Bool.not_false,cond_true]
 exact⟨_,rfl⟩
theorem jV0(h0:G9 ns ars fs l=0){gap:Int}(g0:0<=gap)(g1:gap<=64)(id:Int)(p:Pt) :
  A6 ((ns,ars,fs,l),id,p,gap)=some (match F4 ns id with | some n=>bif decide (0<I4 ars id)then false else Z1 (Q3 ns ars ars) (ja0 ns ars fs) ns n.1 (pt n) p gap | none=>false):=by
 have hla:=h.pl.lenA
 have hln:=h.pl.lenN
 have hfc:D9 (ns,ars,fs,l)=some 0:=by rw[M4,h0]
 have c1:decide (gap<0)=false:=decide_eq_false (by omega)
 have c2:decide (64<gap)=false:=decide_eq_false (by omega)
 unfold A6
 simp only[hfc,b9,decide_true,Bool.not_true,cond_false,c1,c2,h.pl.Node_eq]
 cases hno:F4 ns id with
 | none=>rfl
 | some n =>
  have e1:decide ((0:Int)<((I4 ars id:Nat):Int))=decide (0<I4 ars id):=by by_cases e:0<I4 ars id<;>simp[e]
  have e2:n4 ((Q3 ns ars ars,ja0 ns ars fs),ns,(n.1,n.2.1,n.2.2),(p.1,p.2),gap)=some (Z1 (Q3 ns ars ars) (ja0 ns ars fs) ns n.1 (pt n) p gap):=lN0 (my0 h.pl) (rV0 h.pl h.fac) (by omega) (wH0 h).pos n p g0 g1
  simp only[Bool.not_true,cond_false,be0 ns ars fs id (show ars.length<=1000000 by omega),b9,e1,cA0 h.pl h.fac,e2]
  cases decide (0<I4 ars id)<;>rfl
end
theorem kh0{ns:List Nd}{ars:List Ar}{fs:List Int}{l:List Ft}{gap:Int}(h:G9 ns ars fs l≠0\/¬ (0<=gap/\gap<=64)):∃ s e,D3 ((ns,ars,fs,l),gap)=some (s,e)/\e≠0:=by
 unfold D3
 simp only[M4,b9]
 by_cases h0:G9 ns ars fs l=0
 ·have hg:=h.resolve_left (fun c=>c h0)
  simp only[h0,decide_true,Bool.not_true,cond_false,gt0 hg,b9]
  exact⟨_,_,rfl,by decide⟩
 ·simp only[decide_eq_false h0,Bool.not_false,cond_true]
  exact⟨_,_,rfl,h0⟩
end Dp
end Go.Ab
namespace Go.Ab
open Go Go.Sort Go.Proofs Go.Shelf
set_option maxRecDepth 10000
namespace Dp
theorem qa0{segs:List Seg}{gap:Int}{p q:Pt}(h1:p.1-gap<=q.1)(h2:q.1<=p.1+gap)(h3:p.2-gap<=q.2)(h4:q.2<=p.2+gap):(segs.filter (N5 (2*gap) p)).any (kg0 gap q)=segs.any (kg0 gap q):=by
 rw[List.any_filter]
 congr 1
 funext g
 cases hh:kg0 gap q g with
 | false=>rw[Bool.and_false]
 | true =>
  have hn:N5 gap q g=true:=by
   unfold kg0 at hh
   rw[Bool.and_eq_true]at hh
   exact hh.1
  have:N5 (2*gap) p g=true:=by
   unfold N5 at *
   simp only[Bool.and_eq_true,decide_eq_true_eq]at *
   omega
  rw[this];rfl
theorem jd0{segs:List Seg}{ols:List Ol}{cur:List Nd}{id gap:Int}{p q:Pt}(h1:p.1-gap<=q.1)(h2:q.1<=p.1+gap)(h3:p.2-gap<=q.2)(h4:q.2<=p.2+gap):Z1 (segs.filter (N5 (2*gap) p)) ols cur id p q gap=Z1 segs ols cur id p q gap:=by
 unfold Z1
 rw[qa0 h1 h2 h3 h4]
theorem lt0{g2 id:Int}{q:Pt}{n:Nd}:dm0 g2 id q n=false↔(n.1≠id->far g2 (pt n) q):=by
 unfold dm0 far pt
 by_cases h:n.1=id
 ·simp[h]
 ·by_cases h1:n.2.1=q.1<;>by_cases h2:n.2.2=q.2<;>simp[h,h1,h2,Prod.ext_iff]
theorem eu0{segs:List Seg}{ols:List Ol}{cur:List Nd}{id gap:Int}{p q:Pt}:Z1 segs ols cur id p q gap=true↔fits (gap*gap) (fun q=>segs.any (kg0 gap q)=false) (fun q=>dF0 q ols) cur id p q:=by
 unfold Z1 fits
 cases h1:U7 q with
 | false=>simp
 | true =>
  rw[cond_true]
  have hc:cur.any (dm0 (gap*gap) id q)=false↔∀ n∈cur,n.1≠id->far (gap*gap) (pt n) q:=by
   rw[List.any_eq_false]
   exact⟨fun h n hn=>lt0.1 (Bool.eq_false_iff.2 (h n hn)),fun h n hn=>Bool.eq_false_iff.1 (lt0.2 (h n hn))⟩
  cases h2:cur.any (dm0 (gap*gap) id q)with
  | true =>
   rw[h2]at hc
   simp only[cond_true,Bool.false_eq_true,true_and,false_iff]
   exact fun h=>by have:=hc.2 h.1;simp at this
  | false =>
   have hc:=hc.1 h2
   show (bif segs.any (kg0 gap q)then false else decide (dF0 q ols=dF0 p ols))=true↔_
   cases h3:segs.any (kg0 gap q)with
   | true=>exact⟨fun h=>by simp at h,fun h=>by have:=h.2.2.1;simp only[h3]at this;cases this⟩
   | false =>
    simp only[cond_false,decide_eq_true_eq]
    exact⟨fun h=>⟨trivial,hc,h3,h⟩,fun h=>h.2.2.2⟩
theorem nN0{ns:List Nd}{m:List (Int×Pt)}:∀ {l:List Sg},goB ns m l=true->∀ s∈l,ns.all (T6 s)=true
 | [],_,s,hs=>by simp at hs
 | x::l,h,s,hs=>by
  simp only[goB,Bool.and_eq_true]at h
  rcases List.mem_cons.1 hs with rfl | hs
  ·exact h.2.1
  ·exact nN0 h.2.2 s hs
theorem qB0:∀ (pre l:List Nd),lK0 pre l=false->(∀ c∈pre,∀ d∈l,pt c≠pt d)/\l.Pairwise (fun c d=>pt c≠pt d)
 | _,[],_=>⟨by simp,.nil⟩
 | pre,n::l,h=>by
  unfold lK0 at h
  rw[Bool.or_eq_false_iff]at h
  obtain⟨i1,i2⟩:=qB0 (pre++[n]) l h.2
  refine⟨fun c hc d hd=>?_,List.pairwise_cons.2 ⟨fun d hd=>i1 n (by simp) d hd,i2⟩⟩
  rcases List.mem_cons.1 hd with rfl | hd
  ·have:=List.any_eq_false.1 h.1 c hc
   unfold ix0 at this
   intro e
   apply this
   rw[jE0]
   exact e.symm
  ·exact i1 c (by simp[hc]) d hd
theorem ji0:∀ {l:List Pt} {p a b:Pt} {i:Nat},(p::l)[i]?=some a->(p::l)[i+1]?=some b->(a.1,a.2,b.1,b.2)∈aP0 p l
 | [],_,_,_,i,_,h=>by simp at h
 | x::l,p,a,b,0,h1,h2=>by
  simp only[List.getElem?_cons_zero,List.getElem?_cons_succ,Option.some.injEq]at h1 h2
  subst h1;subst h2
  simp[aP0]
 | x::l,p,a,b,i+1,h1,h2=>by
  rw[List.getElem?_cons_succ]at h1 h2
  exact List.mem_cons_of_mem _ (ji0 h1 h2)
section
variable {ns:List Nd} {ars:List Ar} {fs:List Int} (h:O7 ns ars fs)
include h
theorem seg_of{r:List Sg}(hr:L2 ns ars ars=some r){s:Sg}(hs:s∈r):∃ g∈Q3 ns ars ars,sA g=sgA s/\sB g=sgB s:=by
 obtain⟨a,ha,p,hp,hm⟩:=fb0 hr s hs
 obtain⟨i,hi,rfl⟩:=hZ0 hm
 obtain⟨p0,q,hp2,hq,_⟩:=em0 h ha
 rw[hp]at hp2
 have e:=Option.some.inj hp2
 subst e
 have e1:(p0::q)[i]?=some ((p0::q)[i]'(by omega)):=List.getElem?_eq_getElem _
 have e2:(p0::q)[i+1]?=some ((p0::q)[i+1]'hi):=List.getElem?_eq_getElem _
 refine⟨_,List.mem_flatMap.2 ⟨a,ha,by rw[hq];exact ji0 e1 e2⟩,?_,?_⟩
 ·show _=((p0::q)[(i:Int).toNat]?).getD (0,0)
  rw[Int.toNat_natCast,e1];rfl
 ·show _=((p0::q)[(i:Int).toNat+1]?).getD (0,0)
  rw[Int.toNat_natCast,e2];rfl
theorem tX0{r:List Sg}(hr:L2 ns ars ars=some r){s:Sg}(hs:s∈r){n:Nd}(hn:n∈ns)(hd:I4 ars n.1=0):onP (sgA s) (sgB s) (n.2.1,n.2.2)=false:=by
 have hp:=h.plan
 unfold bg0 at hp
 rw[hr]at hp
 have hm:s∈U8 nS0 r:=(O8 (aN0 r)).mem_iff.2 hs
 have hf:=List.all_eq_true.1 (nN0 hp s hm) n hn
 obtain⟨a,ha,p,_,hm⟩:=fb0 hr s hs
 obtain⟨i,_,rfl⟩:=hZ0 hm
 have hda:=eR0 ha
 have h1:¬ a.2.1=n.1:=fun e=>hda.1 (by rw[e];exact hd)
 have h2:¬ a.2.2.1=n.1:=fun e=>hda.2 (by rw[e];exact hd)
 unfold T6 at hf
 simp only[mkLn,h1,h2,decide_false,Bool.and_false,Bool.or_false,Bool.not_eq_true']at hf
 exact hf
theorem pts_ne:∀ c∈ns,∀ d∈ns,c.1≠d.1->pt c≠pt d:=by
 have hc:=h.conn
 unfold T3 at hc
 have hd:lK0 [] ns=false:=by
  cases hx:lK0 [] ns with
  | false=>rfl
  | true=>rw[hx]at hc;simp at hc
 have hp:=(qB0 [] ns hd).2
 intro c hc d hd hne
 have key:∀ {l:List Nd},l.Pairwise (fun c d=>pt c≠pt d)->c∈l->d∈l->c≠d->pt c≠pt d:=by
  intro l hl hcl hdl hcd
  induction l with
  | nil=>simp at hcl
  | cons x l ih =>
   rw[List.pairwise_cons]at hl
   rcases List.mem_cons.1 hcl with rfl | hcl<;>rcases List.mem_cons.1 hdl with rfl | hdl
   ·exact(hcd rfl).elim
   ·exact hl.1 d hdl
   ·exact fun e=>hl.1 c (by assumption) e.symm
   ·exact ih hl.2 hcl hdl
 exact key hp hc hd (fun e=>hne (by rw[e]))
end
theorem nd0{segs:List Seg}{ols:List Ol}{offs:List Pt}{gap:Int}{mov:Int->Bool}(hb:∀ o∈offs,-gap<=o.1/\o.1<=gap/\-gap<=o.2/\o.2<=gap)(hg:0<=gap):∀ (l cur:List Nd),
  Run (gap*gap) (fun q=>segs.any (kg0 gap q)=false) (fun q=>dF0 q ols) (fun n=>mov n.1) l cur (hQ0 segs ols offs gap mov l cur)
 | [],cur=>rfl
 | n::l,cur=>by
  refine⟨bif mov n.1 then sQ0 segs ols offs gap cur n else cur,?_,nd0 hb hg l _⟩
  cases hm:mov n.1 with
  | false=>rw[if_neg (by simp[hm])];rfl
  | true =>
   rw[if_pos hm,cond_true]
   unfold sQ0
   cases hgo:fF0 segs ols offs gap cur n with
   | none=>exact Or.inl rfl
   | some p =>
    obtain⟨h1,h2,o,ho,rfl⟩:=nR0 hgo
    have hbo:=hb o ho
    refine Or.inr ⟨fun hf=>?_,_,?_,rfl⟩
    ·have:=eu0.2 hf
     rw[jd0 (by omega) (by omega) (by omega) (by omega)]at h2
     rw[this]at h2;cases h2
    ·refine eu0.1 ?_
     rw[jd0 (by simp only[pt];omega) (by simp only[pt];omega) (by simp only[pt];omega) (by simp only[pt];omega)]at h1
     exact h1
end Dp
end Go.Ab
