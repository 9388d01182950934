/- A part of the proof; its readable source lies in wip of the prover's repo (squeezed here for the limit of bytes). -/
import Derived.Test.YtlnpfkdodfgdcaaGreatDoorMe
import Derived.Lib.DecodeN
import Derived.KernelRfl
set_option linter.unusedVariables false
set_option linter.unusedSimpArgs false
set_option linter.unusedSectionVars false
namespace Go.Ab
open Go Go.Sort Go.Proofs Go.Shelf
def stepE(at':Pt)(st:Bool×Bool)(a b:Pt):Bool×Bool :=
 bif onP a b at' then (st.1,true)else
 bif (decide (a.2<=at'.2)&&(decide (at'.2<b.2)&&decide (0<S9 a b at')))||(decide (b.2<=at'.2)&&(decide (at'.2<a.2)&&decide (S9 a b at'<0)))then (!st.1,st.2)else st
def li0(at':Pt):Pt->List Pt->Bool×Bool->Bool×Bool
 | _,[],st=>st
 | p,q::r,st=>li0 at' q r (stepE at' st p q)
def pathE(at':Pt)(l:List Pt)(st:Bool×Bool):Bool×Bool:=match l with
 | []=>st
 | p::r=>li0 at' p r st
def mI0(m:List (Int×List Pt))(at':Pt):List Int->Bool×Bool->Bool×Bool
 | [],st=>st
 | d::r,st=>mI0 m at' r (pathE at' ((lkp qI (jo0 d) m).getD []) st)
def encl(m:List (Int×List Pt))(cyc:List Int)(at':Pt):Bool:=bif (mI0 m at' cyc (false,false)).1 then !(mI0 m at' cyc (false,false)).2 else false
theorem pN0{β:Type}(at':Pt)(p0:Pt)(l:List Pt)(hl:l.length<=1000000)(K:Bool×Bool->Option β)(st:Bool×Bool) :
  rounds (α:=Int×Bool×Bool) (β:=β) (fun k14 x14 =>
   bif (decide (x14.1<((p0::l).length:Int)))then (
   b8 (nth (p0::l) (IntKind.i64.wrap (x14.1-(1:Int)))) fun v21 =>
   b8 (nth (p0::l) x14.1) fun v23 =>
   b8 (y4 ((v21.1,v21.2),(v23.1,v23.2),(at'.1,at'.2))) fun v25 =>
   bif v25 then (
    k14 (IntKind.i64.wrap (x14.1+(1:Int)),x14.2.1,true))else (
    bif (decide (v21.2<=at'.2))then (
    bif (decide (at'.2<v23.2))then (
     b8 (u7 ((v21.1,v21.2),(v23.1,v23.2),(at'.1,at'.2))) fun v28 =>
     bif (decide ((0:Int)<v28))then (
     k14 (IntKind.i64.wrap (x14.1+(1:Int)),!(x14.2.1),x14.2.2))else (
     bif (decide (v23.2<=at'.2))then (
      bif (decide (at'.2<v21.2))then (
      b8 (u7 ((v21.1,v21.2),(v23.1,v23.2),(at'.1,at'.2))) fun v32 =>
      bif (decide (v32<(0:Int)))then (
       k14 (IntKind.i64.wrap (x14.1+(1:Int)),!(x14.2.1),x14.2.2))else (
       k14 (IntKind.i64.wrap (x14.1+(1:Int)),x14.2.1,x14.2.2)))else (
      k14 (IntKind.i64.wrap (x14.1+(1:Int)),x14.2.1,x14.2.2)))else (
      k14 (IntKind.i64.wrap (x14.1+(1:Int)),x14.2.1,x14.2.2))))else (
     bif (decide (v23.2<=at'.2))then (
     bif (decide (at'.2<v21.2))then (
      b8 (u7 ((v21.1,v21.2),(v23.1,v23.2),(at'.1,at'.2))) fun v30 =>
      bif (decide (v30<(0:Int)))then (
      k14 (IntKind.i64.wrap (x14.1+(1:Int)),!(x14.2.1),x14.2.2))else (
      k14 (IntKind.i64.wrap (x14.1+(1:Int)),x14.2.1,x14.2.2)))else (
      k14 (IntKind.i64.wrap (x14.1+(1:Int)),x14.2.1,x14.2.2)))else (
     k14 (IntKind.i64.wrap (x14.1+(1:Int)),x14.2.1,x14.2.2))))else (
    bif (decide (v23.2<=at'.2))then (
     bif (decide (at'.2<v21.2))then (
     b8 (u7 ((v21.1,v21.2),(v23.1,v23.2),(at'.1,at'.2))) fun v29 =>
     bif (decide (v29<(0:Int)))then (
      k14 (IntKind.i64.wrap (x14.1+(1:Int)),!(x14.2.1),x14.2.2))else (
      k14 (IntKind.i64.wrap (x14.1+(1:Int)),x14.2.1,x14.2.2)))else (
     k14 (IntKind.i64.wrap (x14.1+(1:Int)),x14.2.1,x14.2.2)))else (
     k14 (IntKind.i64.wrap (x14.1+(1:Int)),x14.2.1,x14.2.2)))))else (
   K x14.2)) ((1:Int),st)=K (li0 at' p0 l st):=by
 refine(p8 (A:=Pt×Bool×Bool) l (fun i a=>(((i+1:Nat):Int),a.2)) (fun a rest=>K (li0 at' a.1 rest a.2)) (fun i a=>(p0::l)[i]?=some a.1) (by omega) ?_ ?_ (p0,st) rfl)
 ·intro rec a hI
  have e:((p0::l).length:Int)=((l.length+1:Nat):Int):=by simp
  simp only[e,A9,cond_false,li0]
 ·intro rec i a x rest hi hI hd hr
  have hx:(p0::l)[i+1]?=some x:=by
   rw[List.getElem?_cons_succ,<-C3];exact l9 hd
  have e:((p0::l).length:Int)=((l.length+1:Nat):Int):=by simp
  have e1:IntKind.i64.wrap (((i+1:Nat):Int)-1)=(i:Int):=by rw[w64 (by omega) (by omega)];omega
  have e2:IntKind.i64.wrap (((i+1:Nat):Int)+1)=((i+1+1:Nat):Int):=w9 (n:=2000000) (by omega) (by omega)
  have f1:∀ a b c:Pt,y4 ((a.1,a.2),(b.1,b.2),(c.1,c.2))=some (onP a b c):=fun a b c=>M0 a b c
  have f2:∀ a b c:Pt,u7 ((a.1,a.2),(b.1,b.2),(c.1,c.2))=some (S9 a b c):=fun a b c=>I5 a b c
  simp only[e,A5 (show i+1<l.length+1 by omega),cond_true,e1,C3,hI,hx,b9,f1,f2,e2]
  have hr':=fun st'=>hr (x,st') hx
  simp only at hr'
  have g:∀ b1 b2:Bool,rec (((i+1+1:Nat):Int),b1,b2)=K (li0 at' x rest (b1,b2)):=fun b1 b2=>hr' (b1,b2)
  simp only[g,li0,stepE]
  obtain⟨p,b1,b2⟩:=a
  simp only
  generalize onP p x at'=c1
  generalize decide (p.2<=at'.2)=c2
  generalize decide (at'.2<x.2)=c3
  generalize decide (x.2<=at'.2)=c4
  generalize decide (at'.2<p.2)=c5
  generalize hs:S9 p x at'=s
  by_cases h1:0<s
  ·have h2:¬ s<0:=by omega
   simp only[h1,h2,decide_true,decide_false,cond_true,cond_false,Bool.and_true,Bool.and_false,Bool.or_false]
   cases c1<;>cases c2<;>cases c3<;>cases c4<;>cases c5<;>rfl
  ·by_cases h2:s<0
   ·simp only[h1,h2,decide_true,decide_false,cond_true,cond_false,Bool.and_true,Bool.and_false,Bool.false_or]
    cases c1<;>cases c2<;>cases c3<;>cases c4<;>cases c5<;>rfl
   ·simp only[h1,h2,decide_true,decide_false,cond_true,cond_false,Bool.and_true,Bool.and_false,Bool.or_false]
    cases c1<;>cases c2<;>cases c3<;>cases c4<;>cases c5<;>rfl
def gu0(m:List (Int×List Pt))(cyc:List Int):Prop:=cyc.length<=1000000/\∀ d∈cyc,md0 d/\∃ p0 l,lkp qI (jo0 d) m=some (p0::l)/\l.length<=1000000
theorem mX0{m:List (Int×List Pt)}{cyc:List Int}(h:gu0 m cyc)(at':Pt):y6 (m,cyc,(at'.1,at'.2))=some (encl m cyc at'):=by
 have sl:=fun (p0:Pt) (l:List Pt) hl K st=>pN0 (β:=Bool) at' p0 l hl K st
 unfold y6
 simp only[b9]
 refine(r9 (A:=Bool×Bool) cyc (fun i a=>((i:Int),a.2,a.1)) (fun a rest=>some (bif (mI0 m at' rest a).1 then !(mI0 m at' rest a).2 else false)) (by have:=h.1;omega) ?_ ?_ (false,false)).trans rfl
 ·intro rec a
  simp only[A9,cond_false,mI0]
  cases a.1<;>rfl
 ·intro rec i a d rest hi hd hr
  have hm:d∈cyc:=by
   have:d∈cyc.drop i:=by rw[hd];simp
   exact List.mem_of_mem_drop this
  obtain⟨⟨d1,d2⟩,p0,l,hlk,hll⟩:=h.2 d hm
  have e1:IntKind.i64.wrap (0-d)=-d:=by rw[w64 (by omega) (by omega)];omega
  have e2:lkp (fun (a b:Int)=>decide (a=b)) (max d (-d)) m=some (p0::l):=hlk
  have e3:orO (some (p0::l)) (none:Option (List Pt))=some (p0::l):=rfl
  simp only[A5 hi,cond_true,l9 hd,b9,e1,eP0,e2,e3,w9 hi (show cyc.length<2^62 by have:=h.1;omega)]
  refine(sl p0 l hll (fun x=>rec (((i+1:Nat):Int),x.2,x.1)) (a.1,a.2)).trans ?_
  have:=hr (li0 at' p0 l (a.1,a.2))
  show rec _=_
  rw[this]
  simp only[mI0,hlk,Option.getD_some,pathE]
end Go.Ab
namespace Go.Ab
open Go Go.Sort Go.Proofs Go.Shelf
def cn0(p q:Pt):Int:=p.1*q.2-q.1*p.2
def L8:Pt->List Pt->Int
 | _,[]=>0
 | p,q::r=>cn0 p q+L8 q r
theorem bA0{a b A:Int}(h1:-A<=a)(h2:a<=A)(h3:-A<=b)(h4:b<=A):-(A*A)<=a*b/\a*b<=A*A:=by
 have h0:0<=A:=by omega
 constructor
 ·have e1:a*b+A*A=(A+a)*b+A*(A-b):=by
   rw[Int.add_mul,Int.mul_sub];omega
  rcases Int.le_total 0 b with hb | hb
  ·have:=Int.mul_nonneg (show 0<=A+a by omega) hb
   have:=Int.mul_nonneg h0 (show 0<=A-b by omega)
   omega
  ·have e2:a*b+A*A=(A-a)*(-b)+A*(A+b):=by
    rw[Int.sub_mul,Int.mul_add,Int.mul_neg,Int.mul_neg];omega
   have:=Int.mul_nonneg (show 0<=A-a by omega) (show 0<=-b by omega)
   have:=Int.mul_nonneg h0 (show 0<=A+b by omega)
   omega
 ·rcases Int.le_total 0 b with hb | hb
  ·have e2:A*A-a*b=(A-a)*b+A*(A-b):=by
    rw[Int.sub_mul,Int.mul_sub];omega
   have:=Int.mul_nonneg (show 0<=A-a by omega) hb
   have:=Int.mul_nonneg h0 (show 0<=A-b by omega)
   omega
  ·have e2:A*A-a*b=(A+a)*(-b)+A*(A+b):=by
    rw[Int.add_mul,Int.mul_add,Int.mul_neg,Int.mul_neg];omega
   have:=Int.mul_nonneg (show 0<=A+a by omega) (show 0<=-b by omega)
   have:=Int.mul_nonneg h0 (show 0<=A+b by omega)
   omega
def rV0(p:Pt):Prop:=-2097152<=p.1/\p.1<=2097152/\-2097152<=p.2/\p.2<=2097152
theorem bW0:∀ (l:List Pt) (p:Pt),rV0 p->(∀ q∈l,rV0 q)->-(8796093022208*(l.length:Int))<=L8 p l/\L8 p l<=8796093022208*(l.length:Int)
 | [],_,_,_=>by simp[L8]
 | q::r,p,hp,hl=>by
  have hq:=hl q (by simp)
  have ih:=bW0 r q hq (fun x hx=>hl x (by simp[hx]))
  obtain⟨a1,a2⟩:=bA0 (A:=2097152) hp.1 hp.2.1 hq.2.2.1 hq.2.2.2
  obtain⟨b1,b2⟩:=bA0 (A:=2097152) hq.1 hq.2.1 hp.2.2.1 hp.2.2.2
  simp only[L8,cn0,List.length_cons]
  omega
theorem pd0{β:Type}(p0:Pt)(l:List Pt)(hl:l.length<=1000)(h0:rV0 p0)(hc:∀ q∈l,rV0 q)(K:Int->Option β) :
  rounds (α:=Int×Int) (β:=β) (fun k27 x27 =>
    bif (decide (x27.2<(l.length:Int)))then (
     b8 (nth (p0::l) x27.2) fun v31 =>
     b8 (nth (p0::l) (IntKind.i64.wrap (x27.2+(1:Int)))) fun v34 =>
     b8 (nth (p0::l) (IntKind.i64.wrap (x27.2+(1:Int)))) fun v38 =>
     b8 (nth (p0::l) x27.2) fun v40 =>
     k27 (IntKind.i64.wrap (x27.1+IntKind.i64.wrap (IntKind.i64.wrap (v31.1*v34.2)-IntKind.i64.wrap (v38.1*v40.2))),IntKind.i64.wrap (x27.2+(1:Int))))else (
     K x27.1)) ((0:Int),(0:Int))=K (L8 p0 l):=by
 refine(p8 (A:=Pt×Int) l (fun i a=>(a.2,(i:Int))) (fun a rest=>K (a.2+L8 a.1 rest)) (fun i a=>(p0::l)[i]?=some a.1/\rV0 a.1/\-(8796093022208*(i:Int))<=a.2/\a.2<=8796093022208*(i:Int)) (by omega) ?_ ?_ (p0,0) ⟨rfl,h0,by simp,by simp⟩).trans (by simp)
 ·intro rec a hI
  simp only[A9,cond_false,L8,Int.add_zero]
 ·intro rec i a x rest hi hI hd hr
  obtain⟨hI,hp,g1,g2⟩:=hI
  have hx:(p0::l)[i+1]?=some x:=by
   rw[List.getElem?_cons_succ,<-C3];exact l9 hd
  have hxm:x∈l:=by
   have:x∈l.drop i:=by rw[hd];simp
   exact List.mem_of_mem_drop this
  have hq:=hc x hxm
  have e2:IntKind.i64.wrap ((i:Int)+1)=((i+1:Nat):Int):=w9 (n:=2000000) (by omega) (by omega)
  simp only[A5 hi,cond_true,e2,C3,hI,hx,b9]
  obtain⟨a1,a2⟩:=bA0 (A:=2097152) hp.1 hp.2.1 hq.2.2.1 hq.2.2.2
  obtain⟨b1,b2⟩:=bA0 (A:=2097152) hq.1 hq.2.1 hp.2.2.1 hp.2.2.2
  have w1:IntKind.i64.wrap (a.1.1*x.2)=a.1.1*x.2:=w64 (by omega) (by omega)
  have w2:IntKind.i64.wrap (x.1*a.1.2)=x.1*a.1.2:=w64 (by omega) (by omega)
  have w3:IntKind.i64.wrap (a.1.1*x.2-x.1*a.1.2)=cn0 a.1 x:=w64 (by omega) (by omega)
  have hcs:cn0 a.1 x=a.1.1*x.2-x.1*a.1.2:=rfl
  have w4:IntKind.i64.wrap (a.2+cn0 a.1 x)=a.2+cn0 a.1 x:=w64 (by omega) (by omega)
  rw[w1,w2,w3,w4]
  have:=hr (x,a.2+cn0 a.1 x) ⟨hx,hq,by simp only;omega,by simp only;omega⟩
  rw[this]
  simp only[L8]
  congr 1
  omega
def vq0(ns:List Nd)(ars:List Ar)(d:Int):Int:=match pathOf ns ars (jo0 d)with
 | some (p::l)=>if d<0 then -(L8 p l)else L8 p l
 | _=>0
def S4(ns:List Nd)(ars:List Ar):List Int->Int
 | []=>0
 | d::r=>vq0 ns ars d+S4 ns ars r
namespace cw0
variable {ns:List Nd} {ars:List Ar} {fs:List Int} (h:cw0 ns ars fs)
include h
theorem dart_path{d:Int}(hd:∃ a∈ars,a.1=jo0 d):∃ p0 l,pathOf ns ars (jo0 d)=some (p0::l)/\l.length<=65/\rV0 p0/\∀ q∈l,rV0 q:=by
 obtain⟨a,ha,hid⟩:=hd
 obtain⟨f,t,_,_,hp,_⟩:=h.path ha
 have hv:a.2.2.2.1.length<=64:=by
  have:=h.sml
  simp only[dK0,Bool.and_eq_true,List.all_eq_true,decide_eq_true_eq]at this
  exact this.2.2.2 a ha
 have hb:=h.pathNear ha hp
 have hcrd:∀ p:Pt,dF0 p=true->rV0 p:=fun p hp=>by
  simp only[dF0,Bool.and_eq_true,decide_eq_true_eq]at hp
  exact⟨by omega,by omega,by omega,by omega⟩
 refine⟨_,_,by rw[<- hid];exact hp,by simp;omega,hcrd _ (hb _ (by simp)),fun q hq=>hcrd _ (hb _ (List.mem_cons_of_mem _ hq))⟩
theorem Twice_eq{cyc:List Int}(hc:cyc.length<=512)(hm:∀ d∈cyc,md0 d/\d≠0/\∃ a∈ars,a.1=jo0 d):ar0 ((ns,ars,fs),cyc)=some (S4 ns ars cyc):=by
 have sl:=fun (p0:Pt) (l:List Pt) hl h0 hc K=>pd0 (β:=Int) p0 l hl h0 hc K
 unfold ar0
 have hlen:decide ((512:Int)<(cyc.length:Int))=false:=by simp only[decide_eq_false_iff_not];omega
 simp only[b9,hlen,cond_false]
 refine(p8 (A:=Int) cyc (fun i a=>(a,(i:Int))) (fun a rest=>some (a+S4 ns ars rest)) (fun i a=>-(571746046443520*(i:Int))<=a/\a<=571746046443520*(i:Int)) (by omega) ?_ ?_ 0 ⟨by simp,by simp⟩).trans (by simp)
 ·intro rec a hI
  simp only[A9,cond_false,S4,Int.add_zero]
 ·intro rec i a d rest hi hI hd hr
  have hdm:d∈cyc:=by
   have:d∈cyc.drop i:=by rw[hd];simp
   exact List.mem_of_mem_drop this
  obtain⟨hD,h0,a1,ha1,hid⟩:=hm d hdm
  obtain⟨d1,d2⟩:=hD
  have harc:ct0 ars (jo0 d)=some a1:=by rw[<- hid];exact h.arcOf_self ha1
  obtain⟨p0,l,hp,hl,c0,cl⟩:=h.dart_path ⟨a1,ha1,hid⟩
  have e1:IntKind.i64.wrap (0-d)=-d:=by rw[w64 (by omega) (by omega)];omega
  have hp':pathOf ns ars (max d (-d))=some (p0::l):=hp
  simp only[A5 hi,cond_true,l9 hd,b9,h.arcOfD_eq ⟨d1,d2⟩,h0,if_false,harc,Bool.not_true,cond_false,e1,eP0,h.Path_eq,hp',decide_true]
  have e3:IntKind.i64.wrap (((p0::l).length:Int)-1)=(l.length:Int):=by rw[w64 (by simp only[List.length_cons];omega) (by simp only[List.length_cons];omega)];simp only[List.length_cons];omega
  simp only[e3]
  refine(sl p0 l (by omega) c0 cl (fun A=>bif decide (d<0)then rec (IntKind.i64.wrap (a+IntKind.i64.wrap (0-A)),IntKind.i64.wrap ((i:Int)+1))else rec (IntKind.i64.wrap (a+A),IntKind.i64.wrap ((i:Int)+1)))).trans ?_
  obtain⟨b1,b2⟩:=bW0 l p0 c0 cl
  have hA:-571746046443520<=L8 p0 l/\L8 p0 l<=571746046443520:=by omega
  have e2:IntKind.i64.wrap ((i:Int)+1)=((i+1:Nat):Int):=w9 (n:=2000000) (by omega) (by omega)
  simp only[e2]
  by_cases hneg:d<0
  ·have w1:IntKind.i64.wrap (0-L8 p0 l)=-(L8 p0 l):=by rw[w64 (by omega) (by omega)];omega
   have w2:IntKind.i64.wrap (a+-(L8 p0 l))=a+-(L8 p0 l):=w64 (by omega) (by omega)
   simp only[hneg,decide_true,cond_true,w1,w2]
   rw[hr (a+-(L8 p0 l)) (by omega)]
   simp only[S4,vq0,hp,hneg,if_true]
   congr 1;omega
  ·have w2:IntKind.i64.wrap (a+L8 p0 l)=a+L8 p0 l:=w64 (by omega) (by omega)
   simp only[hneg,decide_false,cond_false,w2]
   rw[hr (a+L8 p0 l) (by omega)]
   simp only[S4,vq0,hp,hneg,if_false]
   congr 1;omega
end cw0
end Go.Ab
namespace Go.Ab
open Go Go.Sort Go.Proofs Go.Shelf
def twAt(L:List aX0)(b:Nat):Int:=((L[b]?).map (fun x=>x.1)).getD 0
def gO0(m:List (Int×List Pt))(at':Pt)(L:List aX0):List aX0->Nat->Nat->Nat
 | [],_,b=>b
 | x::r,i,b=>gO0 m at' L r (i+1) (bif (decide (b=0)||decide (x.1<twAt L b))&&encl m x.2.1 at' then i else b)
def gj0(m:List (Int×List Pt))(L:List aX0)(at':Pt):Nat:=gO0 m at' L L.tail 1 0
theorem lb0(m:List (Int×List Pt))(at':Pt)(L:List aX0):∀ (r:List aX0) (i b n:Nat),i+r.length<=n->b<n->gO0 m at' L r i b<n
 | [],_,b,n,_,hb=>hb
 | x::r,i,b,n,hi,hb=>by
  simp only[gO0]
  simp only[List.length_cons]at hi
  refine lb0 m at' L r (i+1) _ n (by omega) ?_
  cases (decide (b=0)||decide (x.1<twAt L b))&&encl m x.2.1 at'
  ·exact hb
  ·simp only[cond_true];omega
theorem lu0{β:Type}(m:List (Int×List Pt))(at':Pt)(x0:aX0)(l:List aX0)(hl:l.length<=1000000)(hp:∀ a∈l,gu0 m a.2.1)(K:Int×Int->Option β) :
  rounds (α:=Int×Int) (β:=β) (fun k26 x26 =>
    bif (decide (x26.1<(((x0::l).length:Nat):Int)))then (
    bif (decide (x26.2=(0:Int)))then (
     b8 ((bif decide (0<=x26.1)&&decide (x26.1<(((x0::l).length:Nat):Int))then some ()else none)) fun _ =>
     b8 (((x0::l)[(x26.1).toNat]?).map (fun x=>x.2.1)) fun v32 =>
     b8 (y6 (m,v32,(at'.1,at'.2))) fun v33 =>
     bif v33 then (
     k26 (IntKind.i64.wrap (x26.1+(1:Int)),x26.1))else (
     k26 (IntKind.i64.wrap (x26.1+(1:Int)),x26.2)))else (
     b8 ((bif decide (0<=x26.1)&&decide (x26.1<(((x0::l).length:Nat):Int))then some ()else none)) fun _ =>
     b8 (((x0::l)[(x26.1).toNat]?).map (fun x=>x.1)) fun v32 =>
     b8 ((bif decide (0<=x26.2)&&decide (x26.2<(((x0::l).length:Nat):Int))then some ()else none)) fun _ =>
     b8 (((x0::l)[(x26.2).toNat]?).map (fun x=>x.1)) fun v33 =>
     bif (decide (v32<v33))then (
     b8 ((bif decide (0<=x26.1)&&decide (x26.1<(((x0::l).length:Nat):Int))then some ()else none)) fun _ =>
     b8 (((x0::l)[(x26.1).toNat]?).map (fun x=>x.2.1)) fun v35 =>
     b8 (y6 (m,v35,(at'.1,at'.2))) fun v36 =>
     bif v36 then (
      k26 (IntKind.i64.wrap (x26.1+(1:Int)),x26.1))else (
      k26 (IntKind.i64.wrap (x26.1+(1:Int)),x26.2)))else (
     k26 (IntKind.i64.wrap (x26.1+(1:Int)),x26.2))))else (
    K x26)) ((1:Int),(0:Int))=K (((l.length+1:Nat):Int),((gj0 m (x0::l) at':Nat):Int)):=by
 have e:(((x0::l).length:Nat):Int)=((l.length+1:Nat):Int):=by simp
 refine(p8 (A:=Nat) l (fun i a=>(((i+1:Nat):Int),(a:Int))) (fun a rest=>K (((l.length+1:Nat):Int),((gO0 m at' (x0::l) rest (l.length-rest.length+1) a:Nat):Int))) (fun i a=>a<i+1) (by omega) ?_ ?_ 0 (by omega)).trans ?_
 ·intro rec a hI
  simp only[e,A9,cond_false,gO0]
 ·intro rec i a x rest hi hI hd hr
  have hlr:l.length-(x::rest).length+1=i+1:=by
   have:=congrArg List.length hd
   simp only[List.length_drop,List.length_cons]at this ⊢
   omega
  have hlr2:l.length-rest.length+1=i+1+1:=by
   simp only[List.length_cons]at hlr
   have:=congrArg List.length hd
   simp only[List.length_drop,List.length_cons]at this
   omega
  have hx:(x0::l)[i+1]?=some x:=by
   rw[List.getElem?_cons_succ,<-C3];exact l9 hd
  have hxm:x∈l:=by
   have:x∈l.drop i:=by rw[hd];simp
   exact List.mem_of_mem_drop this
  have ha:a<(x0::l).length:=by simp only[List.length_cons];omega
  have hb:(x0::l)[a]?=some ((x0::l)[a]'ha):=List.getElem?_eq_getElem ha
  have e2:IntKind.i64.wrap (((i+1:Nat):Int)+1)=((i+1+1:Nat):Int):=w9 (n:=2000000) (by omega) (by omega)
  have e3:(decide (0<=((i+1:Nat):Int))&&decide (((i+1:Nat):Int)<((l.length+1:Nat):Int)))=true:=by simp;omega
  have e4:(decide (0<=(a:Int))&&decide ((a:Int)<((l.length+1:Nat):Int)))=true:=by simp;omega
  have e5:decide ((a:Int)=0)=decide (a=0):=by by_cases h:a=0<;>simp[h]
  have hen:=mX0 (hp x hxm) at'
  simp only[e,A5 (show i+1<l.length+1 by omega),cond_true,e2,e3,e4,e5,Int.toNat_natCast,hx,hb,Option.map_some,b9,hen]
  have r1:=hr (i+1) (by omega)
  have r2:=hr a (by omega)
  simp only[hlr2]at r1 r2
  rw[r1,r2,hlr]
  have ht:twAt (x0::l) a=((x0::l)[a]'ha).1:=by simp[twAt,hb]
  simp only[gO0,ht]
  cases h1:decide (a=0)<;>cases h2:decide (x.1<((x0::l)[a]'ha).1)<;>cases h3:encl m x.2.1 at'<;>rfl
 ·simp only[Nat.sub_self,Nat.zero_add,gj0,List.tail_cons]
abbrev tI0:=Int×List Int×Unit×Unit
def addI(L:List aX0)(k:Nat)(c:List Int):List aX0:=match L[k]? with
 | some x=>L.set k (x.1,x.2.1,x.2.2.1++[c],x.2.2.2)
 | none=>L
def addN(L:List aX0)(k:Nat)(n:Int):List aX0:=match L[k]? with
 | some x=>L.set k (x.1,x.2.1,x.2.2.1,x.2.2.2++[n])
 | none=>L
structure pi0(m:List (Int×List Pt))(L:List aX0)(n i j:Nat):Prop where
 len:L.length=n+1
 out:∀ a∈L.tail,gu0 m a.2.1
 inn:∀ a∈L,a.2.2.1.length<=i
 alo:∀ a∈L,a.2.2.2.length<=j
theorem bd0{α:Type}{L:List α}{k:Nat}{y a:α}(h:a∈(L.set k y).tail):a∈L.tail\/(a=y/\1<=k/\k<L.length):=by
 cases L with
 | nil=>simp at h
 | cons x l =>
  cases k with
  | zero=>simp at h;exact .inl (by simpa using h)
  | succ k =>
   simp only[List.set_cons_succ,List.tail_cons]at h ⊢
   by_cases hk:k<l.length
   ·rcases List.mem_or_eq_of_mem_set h with h | h
    ·exact .inl h
    ·exact .inr ⟨h,by omega,by simp;omega⟩
   ·rw[List.set_eq_of_length_le (by omega)]at h;exact .inl h
theorem go0{α:Type}{L:List α}{k:Nat}{x:α}(h:L[k]?=some x)(hk:1<=k):x∈L.tail:=by
 cases L with
 | nil=>simp at h
 | cons y l =>
  cases k with
  | zero=>omega
  | succ k=>rw[List.getElem?_cons_succ]at h;exact List.mem_of_getElem? h
theorem pi0.addI{m:List (Int×List Pt)}{L:List aX0}{n i j k:Nat}(h:pi0 m L n i j)(c:List Int):pi0 m (addI L k c) n (i+1) j:=by
 unfold Go.Ab.addI
 cases hx:L[k]? with
 | none=>exact⟨h.len,h.out,fun a ha=>by have:=h.inn a ha;omega,h.alo⟩
 | some x =>
  have hxm:=List.mem_of_getElem? hx
  refine⟨by simp[h.len],fun a ha=>?_,fun a ha=>?_,fun a ha=>?_⟩
  ·rcases bd0 ha with ha | ⟨rfl,hk,_⟩
   ·exact h.out a ha
   ·exact h.out x (go0 hx hk)
  ·rcases List.mem_or_eq_of_mem_set ha with ha | rfl
   ·have:=h.inn a ha;omega
   ·have:=h.inn x hxm;simp;omega
  ·rcases List.mem_or_eq_of_mem_set ha with ha | rfl
   ·exact h.alo a ha
   ·exact h.alo x hxm
theorem pi0.addN{m:List (Int×List Pt)}{L:List aX0}{n i j k:Nat}(h:pi0 m L n i j)(c:Int):pi0 m (addN L k c) n i (j+1):=by
 unfold Go.Ab.addN
 cases hx:L[k]? with
 | none=>exact⟨h.len,h.out,h.inn,fun a ha=>by have:=h.alo a ha;omega⟩
 | some x =>
  have hxm:=List.mem_of_getElem? hx
  refine⟨by simp[h.len],fun a ha=>?_,fun a ha=>?_,fun a ha=>?_⟩
  ·rcases bd0 ha with ha | ⟨rfl,hk,_⟩
   ·exact h.out a ha
   ·exact h.out x (go0 hx hk)
  ·rcases List.mem_or_eq_of_mem_set ha with ha | rfl
   ·exact h.inn a ha
   ·exact h.inn x hxm
  ·rcases List.mem_or_eq_of_mem_set ha with ha | rfl
   ·have:=h.alo a ha;omega
   ·have:=h.alo x hxm;simp;omega
theorem pi0.cons{m:List (Int×List Pt)}{L:List aX0}{n i j:Nat}(h:pi0 m L n i j):∃ x0 l,L=x0::l:=by
 cases L with
 | nil=>have:=h.len;simp at this
 | cons x l=>exact⟨x,l,rfl⟩
theorem pi0.find_lt{m:List (Int×List Pt)}{L:List aX0}{n i j:Nat}(h:pi0 m L n i j)(p:Pt):gj0 m L p<L.length:=by
 obtain⟨x0,l,rfl⟩:=h.cons
 exact lb0 m p _ l 1 0 _ (by simp;omega) (by simp)
def gQ0(m:List (Int×List Pt))(c:List Int):Pt:=((((lkp qI (jo0 (c.headD 0)) m).getD [])[0]?).getD (0,0))
def inF(m:List (Int×List Pt)):List (List Int)->List aX0->List aX0
 | [],L=>L
 | c::r,L=>inF m r (addI L (gj0 m L (gQ0 m c)) c)
def aloF(ns:List Nd)(ars:List Ar)(m:List (Int×List Pt)):List Nd->List aX0->List aX0
 | [],L=>L
 | n::r,L=>aloF ns ars m r (bif decide (Z3 ars n.1=0)then addN L (gj0 m L (n.2.1,n.2.2)) n.1 else L)
def bigF(ns:List Nd)(ars:List Ar)(cs:List (List Int)):List aX0:=(0,[],[],[])::(cs.filter fun c=>decide (0<S4 ns ars c)).map fun c=>(S4 ns ars c,c,[],[])
def cR0(ns:List Nd)(ars:List Ar)(m:List (Int×List Pt))(cs:List (List Int)):List aX0 :=
 aloF ns ars m ns (inF m (cs.filter fun c=>!decide (0<S4 ns ars c)) (bigF ns ars cs))
structure qH0(ars:List Ar)(cs:List (List Int)):Prop where
 len:cs.length<=512
 cyc:∀ c∈cs,c≠[]/\c.length<=512/\∀ d∈c,md0 d/\d≠0/\∃ a∈ars,a.1=jo0 d
namespace cw0
variable {ns:List Nd} {ars:List Ar} {fs:List Int} (h:cw0 ns ars fs)
include h
theorem dart_look{d:Int}(hd:∃ a∈ars,a.1=jo0 d):∃ p0 l,lkp qI (jo0 d) (H5 ns ars)=some (p0::l)/\l.length<=65:=by
 obtain⟨p0,l,hp,hl,_,_⟩:=h.dart_path hd
 obtain⟨a,ha,hid⟩:=hd
 exact⟨p0,l,by rw[<- hid,h.pathsM_look ha,hid];exact hp,hl⟩
theorem paths_for{cs:List (List Int)}(hc:qH0 ars cs){c:List Int}(hm:c∈cs):gu0 (H5 ns ars) c:=by
 obtain⟨_,h1,h2⟩:=hc.cyc c hm
 refine⟨by omega,fun d hd=>?_⟩
 obtain⟨g1,_,g3⟩:=h2 d hd
 obtain⟨p0,l,hl,hll⟩:=h.dart_look g3
 exact⟨g1,p0,l,hl,by omega⟩
theorem divide_eq{cs:List (List Int)}(hc:qH0 ars cs):T2 ((ns,ars,fs),cs,H5 ns ars)=some (cR0 ns ars (H5 ns ars) cs):=by
 have hlenN:ns.length<=256:=by
  have:=h.sml
  simp only[dK0,Bool.and_eq_true,decide_eq_true_eq]at this
  exact this.1
 unfold T2
 simp only[b9]
 let Z:aX0->tI0:=fun a=>(a.1,a.2.1,(),())
 have hZ:∀ (l:List tI0),l.map (fun x=>((x.1,x.2.1,([]:List (List Int)),([]:List Int)):aX0))=l.map (fun x=>(x.1,x.2.1,[],[])):=fun _=>rfl
 refine(p8 (A:=List (List Int)×List tI0) cs (fun i a=>(a.1,(i:Int),false,a.2))
  (fun a rest=>some (aloF ns ars (H5 ns ars) ns (inF (H5 ns ars) (a.1++rest.filter fun c=>!decide (0<S4 ns ars c)) ((a.2.map fun x=>(x.1,x.2.1,[],[]))++(rest.filter fun c=>decide (0<S4 ns ars c)).map fun c=>(S4 ns ars c,c,[],[])))))
  (fun i a=>a.1.length<=i/\a.2.length<=i+1/\a.2≠[]/\(∀ c∈a.1,c∈cs)/\∀ x∈a.2.tail,x.2.1∈cs) (by have:=hc.len;omega) ?_ ?_ ([],[(0,[],(),())]) ⟨by simp,by simp,by simp,by simp,by simp⟩).trans ?_
 ·intro rec a hI
  obtain⟨i1,i2,i3,i4,i5⟩:=hI
  have hlen:=hc.len
  have hown:ownO (fun x:tI0=>((x.1,x.2.1,([]:List (List Int)),([]:List Int)):aX0)) a.2=some (a.2.map fun x=>(x.1,x.2.1,[],[])):=by
   unfold ownO
   have:decide (16*a.2.length<=O6)=true:=by simp only[decide_eq_true_eq,O6];omega
   rw[this];rfl
  simp only[A9,cond_false,hown,b9,List.filter_nil,List.append_nil,List.map_nil]
  have hA:pi0 (H5 ns ars) (a.2.map fun x=>((x.1,x.2.1,[],[]):aX0)) (a.2.length-1) 0 0:=by
   obtain⟨y,l,hl⟩:∃ y l,a.2=y::l:=by
    cases hq:a.2 with
    | nil=>exact absurd hq i3
    | cons y l=>exact⟨y,l,rfl⟩
   rw[hl]at i5 ⊢
   refine⟨by simp,fun b hb=>?_,fun b hb=>?_,fun b hb=>?_⟩
   ·simp only[List.map_cons,List.tail_cons]at hb
    obtain⟨x,hx,rfl⟩:=List.mem_map.1 hb
    exact h.paths_for hc (i5 x hx)
   ·obtain⟨x,hx,rfl⟩:=List.mem_map.1 hb;simp
   ·obtain⟨x,hx,rfl⟩:=List.mem_map.1 hb;simp
  generalize hL0:(a.2.map fun x=>((x.1,x.2.1,[],[]):aX0))=L0 at *
  have hnl:a.2.length-1<=1000000:=by omega
  generalize a.2.length-1=nL at *
  generalize hR:a.1=R at *
  have hRl:R.length<=512:=by omega
  refine(p8 (A:=List aX0) R (fun i L=>((i:Int),L)) (fun L rest=>some (aloF ns ars (H5 ns ars) ns (inF (H5 ns ars) rest L))) (fun i L=>pi0 (H5 ns ars) L nL i 0) (by omega) ?_ ?_ L0 hA)
  ·intro rec L hL
   simp only[A9,cond_false,inF]
   refine(p8 (A:=List aX0) ns (fun i L=>((i:Int),L)) (fun L rest=>some (aloF ns ars (H5 ns ars) rest L)) (fun i L=>pi0 (H5 ns ars) L nL R.length i) (by omega) ?_ ?_ L hL)
   ·intro rec L hL
    simp only[A9,cond_false,aloF]
   ·intro rec j L n rest hj hL hd hr
    have e2:IntKind.i64.wrap ((j:Int)+1)=((j+1:Nat):Int):=w9 (n:=2000000) (by omega) (by omega)
    have hdeg:=bn0 ns ars fs n.1 (by have:=h.lenA;omega)
    have e3:decide (((Z3 ars n.1:Nat):Int)=0)=decide (Z3 ars n.1=0):=by by_cases hz:Z3 ars n.1=0<;>simp[hz]
    simp only[A5 hj,cond_true,l9 hd,b9,hdeg,e3,e2,aloF]
    cases hz:decide (Z3 ars n.1=0)with
    | false =>
     simp only[cond_false]
     exact hr L ⟨hL.len,hL.out,hL.inn,fun x hx=>by have:=hL.alo x hx;omega⟩
    | true =>
     simp only[cond_true]
     obtain⟨x0,l,hxl⟩:=hL.cons
     have hll:l.length<=1000000:=by have:=hL.len;rw[hxl]at this;simp at this;omega
     have hlt:=hL.find_lt (n.2.1,n.2.2)
     have hr':=hr _ (hL.addN (k:=gj0 (H5 ns ars) L (n.2.1,n.2.2)) n.1)
     have halo:=hL.alo
     have hout:=hL.out
     subst hxl
     refine(lu0 (β:=List aX0) (H5 ns ars) (n.2.1,n.2.2) x0 l hll hout _).trans ?_
     generalize gj0 (H5 ns ars) (x0::l) (n.2.1,n.2.2)=k at *
     have hk:(x0::l)[k]?=some ((x0::l)[k]'hlt):=List.getElem?_eq_getElem hlt
     have hkl:=halo _ (List.getElem_mem hlt)
     generalize (x0::l)[k]'hlt=y at *
     have e4:(decide (0<=(k:Int))&&decide ((k:Int)<(((x0::l).length:Nat):Int)))=true:=by simp only[Bool.and_eq_true,decide_eq_true_eq];omega
     have hcat:Q5 8 y.2.2.2 [n.1]=some (y.2.2.2++[n.1]):=C7 (by omega) (by simp;omega)
     simp only[Int.toNat_natCast,hk,Option.map_some,b9,e4,cond_true,inO,hcat,setO]
     simp only[addN,hk]at hr' ⊢
     exact hr'
  ·intro rec j L c rest hj hL hd hr
   have hcm:c∈cs:=by
    refine i4 c ?_
    have:c∈R.drop j:=by rw[hd];simp
    exact List.mem_of_mem_drop this
   obtain⟨c1,c2,c3⟩:=hc.cyc c hcm
   obtain⟨d,cr,rfl⟩:∃ d cr,c=d::cr:=by
    cases c with
    | nil=>exact absurd rfl c1
    | cons d cr=>exact⟨d,cr,rfl⟩
   obtain⟨⟨d1,d2⟩,_,g3⟩:=c3 d (by simp)
   obtain⟨p0,pl,hlk,_⟩:=h.dart_look g3
   have e1:IntKind.i64.wrap (0-d)=-d:=by rw[w64 (by omega) (by omega)];omega
   have e2:IntKind.i64.wrap ((j:Int)+1)=((j+1:Nat):Int):=w9 (n:=2000000) (by omega) (by omega)
   have e3:(decide (0<=(j:Int))&&decide ((j:Int)<((R.length:Nat):Int)))=true:=by simp only[Bool.and_eq_true,decide_eq_true_eq];omega
   have hRj:R[j]?=some (d::cr):=by rw[<- C3];exact l9 hd
   have n0:nth (d::cr) (0:Int)=some d:=by have:=C3 (d::cr) 0;exact this
   have n1:nth (p0::pl) (0:Int)=some p0:=by have:=C3 (p0::pl) 0;exact this
   have hlk':lkp (fun (a b:Int)=>decide (a=b)) (max d (-d)) (H5 ns ars)=some (p0::pl):=hlk
   have e5:orO (some (p0::pl)) (none:Option (List Pt))=some (p0::pl):=rfl
   have hfp:gQ0 (H5 ns ars) (d::cr)=p0:=by simp[gQ0,hlk]
   simp only[A5 hj,cond_true,e3,b9,Int.toNat_natCast,hRj,Option.map_some,n0,e1,eP0,hlk',e5,n1,e2,inF,hfp]
   obtain⟨x0,l,hxl⟩:=hL.cons
   have hll:l.length<=1000000:=by have:=hL.len;rw[hxl]at this;simp at this;omega
   have hlt:=hL.find_lt p0
   have hr':=hr _ (hL.addI (k:=gj0 (H5 ns ars) L p0) (d::cr))
   have hinn:=hL.inn
   have hout:=hL.out
   subst hxl
   refine(lu0 (β:=List aX0) (H5 ns ars) p0 x0 l hll hout _).trans ?_
   generalize gj0 (H5 ns ars) (x0::l) p0=k at *
   have hk:(x0::l)[k]?=some ((x0::l)[k]'hlt):=List.getElem?_eq_getElem hlt
   have hkl:=hinn _ (List.getElem_mem hlt)
   generalize (x0::l)[k]'hlt=y at *
   have e4:(decide (0<=(k:Int))&&decide ((k:Int)<(((x0::l).length:Nat):Int)))=true:=by simp only[Bool.and_eq_true,decide_eq_true_eq];omega
   have hcat:Q5 24 y.2.2.1 [d::cr]=some (y.2.2.1++[d::cr]):=C7 (by omega) (by simp;omega)
   simp only[Int.toNat_natCast,hk,Option.map_some,b9,e4,cond_true,inO,hcat,setO]
   simp only[addI,hk]at hr' ⊢
   exact hr'
 ·intro rec i a c rest hi hI hd hr
  obtain⟨i1,i2,i3,i4,i5⟩:=hI
  have hcm:c∈cs:=by
   have:c∈cs.drop i:=by rw[hd];simp
   exact List.mem_of_mem_drop this
  obtain⟨c1,c2,c3⟩:=hc.cyc c hcm
  have htw:ar0 ((ns,ars,fs),c)=some (S4 ns ars c):=h.Twice_eq c2 c3
  have e2:IntKind.i64.wrap ((i:Int)+1)=((i+1:Nat):Int):=w9 (n:=2000000) (by have:=hc.len;omega) (by omega)
  have hlen:=hc.len
  simp only[A5 hi,cond_true,l9 hd,b9,htw,e2]
  by_cases ht:0<S4 ns ars c
  ·have hcat:Q5 80 a.2 [(S4 ns ars c,c,(),())]=some (a.2++[(S4 ns ars c,c,(),())]):=C7 (by omega) (by simp;omega)
   simp only[ht,decide_true,cond_true,hcat,b9]
   have:=hr (a.1,a.2++[(S4 ns ars c,c,(),())]) ⟨by show a.1.length<=i+1;omega,by simp;omega,by simp,i4,fun x hx=>?_⟩
   ·rw[this]
    simp[ht,List.filter_cons]
   ·obtain⟨y,l,hl⟩:∃ y l,a.2=y::l:=by
     cases hq:a.2 with
     | nil=>exact absurd hq i3
     | cons y l=>exact⟨y,l,rfl⟩
    simp only[hl,List.cons_append,List.tail_cons]at hx i5
    rcases List.mem_append.1 hx with hx | hx
    ·exact i5 x hx
    ·simp at hx;subst hx;exact hcm
  ·have hcat:Q5 24 a.1 [c]=some (a.1++[c]):=C7 (by omega) (by simp;omega)
   simp only[ht,decide_false,cond_false,hcat,b9]
   have:=hr (a.1++[c],a.2) ⟨by simp;omega,by show a.2.length<=i+1+1;omega,i3,fun x hx=>?_,i5⟩
   ·rw[this]
    simp[ht,List.filter_cons]
   ·rcases List.mem_append.1 hx with hx | hx
    ·exact i4 x hx
    ·simp at hx;subst hx;exact hcm
 ·simp[cR0,bigF]
end cw0
end Go.Ab
namespace Go.Ab
open Go Go.Sort Go.Proofs Go.Shelf
theorem qG0(D S:List Int):S6 D S<=D.length:=List.length_filter_le _ _
theorem fm0{nx:Int->Int}{D:List Int}(hnx:∀ d∈D,nx d∈D):∀ (n:Nat) (S:List Int) (d:Int) (c:List Int),d∈D->(∀ x∈c,x∈D) ->
  (∀ x∈(O9 nx n S d c).1,x∈D)/\(O9 nx n S d c).1.length+S6 D (O9 nx n S d c).2<=c.length+S6 D S/\c.length<=(O9 nx n S d c).1.length
 | 0,S,d,c,_,hc=>by simp only[O9];exact⟨hc,by omega,by omega⟩
 | n+1,S,d,c,hd,hc=>by
  unfold O9
  split
  ·exact⟨hc,Nat.le_refl _,Nat.le_refl _⟩
  ·rename_i hs
   obtain⟨h1,h2,h3⟩:=fm0 hnx n (S++[d]) (nx d) (c++[d]) (hnx d hd) (fun x hx=>by
    rcases List.mem_append.1 hx with hx | hx
    ·exact hc x hx
    ·simp at hx;subst hx;exact hd)
   have:=lE0 hd hs
   simp only[List.length_append,List.length_singleton]at h2 h3
   exact⟨h1,by omega,by omega⟩
theorem fp0{nx:Int->Int}{D:List Int}(hnx:∀ d∈D,nx d∈D):∀ (ds S:List Int) (acc:List (List Int)),(∀ d∈ds,d∈D)->(∀ c∈acc,c≠[]/\c.length<=D.length/\∀ d∈c,d∈D) ->
  (V5 nx D ds S acc).length<=acc.length+ds.length/\∀ c∈V5 nx D ds S acc,c≠[]/\c.length<=D.length/\∀ d∈c,d∈D
 | [],S,acc,_,ha=>by simp only[V5];exact⟨by simp,ha⟩
 | d::ds,S,acc,hd,ha=>by
  unfold V5
  split
  ·obtain⟨h1,h2⟩:=fp0 hnx ds S acc (fun x hx=>hd x (by simp[hx])) ha
   exact⟨by simp only[List.length_cons];omega,h2⟩
  ·rename_i hs
   have hdm:=hd d (by simp)
   obtain⟨g1,g2,g3⟩:=fm0 hnx (S6 D S+1) S d [] hdm (by simp)
   have hne:(O9 nx (S6 D S+1) S d []).1≠[]:=by
    unfold O9
    rw[if_neg hs]
    have:=(fm0 hnx (S6 D S) (S++[d]) (nx d) ([]++[d]) (hnx d hdm) (by simpa using hdm)).2.2
    intro he
    rw[he]at this
    simp at this
   obtain⟨h1,h2⟩:=fp0 hnx ds (O9 nx (S6 D S+1) S d []).2 (acc++[(O9 nx (S6 D S+1) S d []).1]) (fun x hx=>hd x (by simp[hx])) (fun c hc=>by
    rcases List.mem_append.1 hc with hc | hc
    ·exact ha c hc
    ·simp at hc
     subst hc
     have:=qG0 D S
     simp only[List.length_nil]at g2
     exact⟨hne,by omega,g1⟩)
   simp only[List.length_append,List.length_singleton]at h1
   exact⟨by simp only[List.length_cons];omega,h2⟩
namespace cw0
variable {ns:List Nd} {ars:List Ar} {fs:List Int} (h:cw0 ns ars fs)
include h
theorem cycs_ok:qH0 ars (J3 ns ars):=by
 have hD:=h.darts_len
 obtain⟨h1,h2⟩:=fp0 (nx:=pP0 ns ars) (D:=K0 ns ars) (fun d hd=>h.next_mem hd) ((K0 ns ars).mergeSort fun a b=>decide (a<=b)) [] [] (fun d hd=>(List.mergeSort_perm _ _).mem_iff.1 hd) (by simp)
 have hl:((K0 ns ars).mergeSort fun a b=>decide (a<=b)).length=(K0 ns ars).length:=(List.mergeSort_perm _ _).length_eq
 refine⟨by show (V5 ..).length<=_;simp only[List.length_nil]at h1;omega,fun c hc=>?_⟩
 obtain⟨g1,g2,g3⟩:=h2 c hc
 refine⟨g1,by omega,fun d hd=>?_⟩
 obtain⟨a,ha,he⟩:=h.mem_darts.1 (g3 d hd)
 have hn:=h.num ha
 refine⟨?_,?_,a,ha,?_⟩
 ·unfold md0;rcases he with rfl | rfl<;>omega
 ·rcases he with rfl | rfl<;>omega
 ·unfold jo0;rcases he with rfl | rfl<;>omega
end cw0
structure ArQ(L:List aX0)(i:Nat):Prop where
 all:∀ a∈L,((∀ d∈a.2.1,md0 d)/\a.2.1.length<=1000000)/\(∀ c∈a.2.2.1,(∀ d∈c,md0 d)/\c.length<=1000000)/\a.2.2.1.length<=i
 ne:∀ a∈L.tail,a.2.1≠[]
theorem ArQ.addI{L:List aX0}{i k:Nat}(h:ArQ L i){c:List Int}(hc:(∀ d∈c,md0 d)/\c.length<=1000000):ArQ (addI L k c) (i+1):=by
 unfold Go.Ab.addI
 cases hx:L[k]? with
 | none=>exact⟨fun a ha=>by obtain⟨h1,h2,h3⟩:=h.all a ha;exact⟨h1,h2,by omega⟩,h.ne⟩
 | some x =>
  have hxm:=List.mem_of_getElem? hx
  refine⟨fun a ha=>?_,fun a ha=>?_⟩
  ·rcases List.mem_or_eq_of_mem_set ha with ha | rfl
   ·obtain⟨h1,h2,h3⟩:=h.all a ha;exact⟨h1,h2,by omega⟩
   ·obtain⟨h1,h2,h3⟩:=h.all x hxm
    refine⟨h1,fun c' hc'=>?_,by simp;omega⟩
    rcases List.mem_append.1 hc' with hc' | hc'
    ·exact h2 c' hc'
    ·simp at hc';subst hc';exact hc
  ·rcases bd0 ha with ha | ⟨rfl,hk,_⟩
   ·exact h.ne a ha
   ·exact h.ne x (go0 hx hk)
theorem ArQ.addN{L:List aX0}{i k:Nat}(h:ArQ L i)(n:Int):ArQ (addN L k n) i:=by
 unfold Go.Ab.addN
 cases hx:L[k]? with
 | none=>exact h
 | some x =>
  have hxm:=List.mem_of_getElem? hx
  refine⟨fun a ha=>?_,fun a ha=>?_⟩
  ·rcases List.mem_or_eq_of_mem_set ha with ha | rfl
   ·exact h.all a ha
   ·exact h.all x hxm
  ·rcases bd0 ha with ha | ⟨rfl,hk,_⟩
   ·exact h.ne a ha
   ·exact h.ne x (go0 hx hk)
theorem ArQ.inF{m:List (Int×List Pt)}:∀ (r:List (List Int)) (L:List aX0) (i:Nat),ArQ L i->(∀ c∈r,(∀ d∈c,md0 d)/\c.length<=1000000)->ArQ (inF m r L) (i+r.length)
 | [],L,i,h,_=>h
 | c::r,L,i,h,hr=>by
  have:=ArQ.inF (m:=m) r _ (i+1) (h.addI (k:=gj0 m L (gQ0 m c)) (hr c (by simp))) (fun x hx=>hr x (by simp[hx]))
  simp only[Go.Ab.inF,List.length_cons]
  rw[show i+(r.length+1)=i+1+r.length by omega]
  exact this
theorem ArQ.aloF{ns:List Nd}{ars:List Ar}{m:List (Int×List Pt)}{i:Nat}:∀ (r:List Nd) (L:List aX0),ArQ L i->ArQ (aloF ns ars m r L) i
 | [],L,h=>h
 | n::r,L,h=>by
  simp only[Go.Ab.aloF]
  cases decide (Z3 ars n.1=0)with
  | false=>exact ArQ.aloF r L h
  | true=>exact ArQ.aloF r _ (h.addN n.1)
theorem qt0{m:List (Int×List Pt)}:∀ (r:List (List Int)) (L:List aX0),(inF m r L).length=L.length
 | [],L=>rfl
 | c::r,L=>by
  simp only[inF]
  rw[qt0 r]
  unfold addI
  cases L[gj0 m L (gQ0 m c)]?<;>simp
theorem nN0{ns:List Nd}{ars:List Ar}{m:List (Int×List Pt)}:∀ (r:List Nd) (L:List aX0),(aloF ns ars m r L).length=L.length
 | [],L=>rfl
 | n::r,L=>by
  simp only[aloF]
  rw[nN0 r]
  cases decide (Z3 ars n.1=0)with
  | false=>rfl
  | true =>
   simp only[cond_true]
   unfold addN
   cases L[gj0 m L (n.2.1,n.2.2)]?<;>simp
open cw0 (J3)
def L9(ns:List Nd)(ars:List Ar)(fs:List Int):Int:=bif decide (M8 ns ars fs=0)then (bif (ek0 ars fs.length true (cR0 ns ars (H5 ns ars) (J3 ns ars)) [] []).2 then 0 else 12)else M8 ns ars fs
theorem hE0(ns:List Nd)(ars:List Ar)(fs:List Int):Y1 (ns,ars,fs)=some (L9 ns ars fs):=by
 unfold Y1 L9
 by_cases hp:M8 ns ars fs=0
 ·have h:=aI0.1 hp
  have hc:=h.cycs_ok
  have hq:ArQ (cR0 ns ars (H5 ns ars) (J3 ns ars)) 512:=by
   have hcyc:∀ c∈J3 ns ars,(∀ d∈c,md0 d)/\c.length<=1000000:=fun c hcm=>by
    obtain⟨_,g2,g3⟩:=hc.cyc c hcm
    exact⟨fun d hd=>(g3 d hd).1,by omega⟩
   have hbig:ArQ (bigF ns ars (J3 ns ars)) 0:=by
    refine⟨fun a ha=>?_,fun a ha=>?_⟩
    ·rcases List.mem_cons.1 ha with rfl | ha
     ·simp
     ·obtain⟨c,hcm,rfl⟩:=List.mem_map.1 ha
      exact⟨hcyc c (List.mem_filter.1 hcm).1,by simp,by simp⟩
    ·simp only[bigF,List.tail_cons]at ha
     obtain⟨c,hcm,rfl⟩:=List.mem_map.1 ha
     exact(hc.cyc c (List.mem_filter.1 hcm).1).1
   have:=ArQ.aloF (ns:=ns) (ars:=ars) (m:=H5 ns ars) ns _ (ArQ.inF (m:=H5 ns ars) ((J3 ns ars).filter fun c=>!decide (0<S4 ns ars c)) _ 0 hbig (fun c hcm=>hcyc c (List.mem_filter.1 hcm).1))
   refine⟨fun a ha=>?_,this.ne⟩
   obtain⟨h1,h2,h3⟩:=this.all a ha
   have hl:=List.length_filter_le (fun c=>!decide (0<S4 ns ars c)) (J3 ns ars)
   have:=hc.len
   exact⟨h1,h2,by omega⟩
  have hlen:(cR0 ns ars (H5 ns ars) (J3 ns ars)).length<=1000000:=by
   unfold cR0
   rw[nN0,qt0]
   have hl:=List.length_filter_le (fun c=>decide (0<S4 ns ars c)) (J3 ns ars)
   have:=hc.len
   simp only[bigF,List.length_cons,List.length_map]
   omega
  have hf:=h.faces_eq (l:=cR0 ns ars (H5 ns ars) (J3 ns ars)) hlen (fun a ha=>by obtain⟨h1,h2,h3⟩:=hq.all a ha;exact⟨h1,h2,by omega⟩) hq.ne
  simp only[h.Cycles_eq,b9,decide_true,Bool.not_true,cond_false,h.pathsOf_eq,h.divide_eq hc,hf,hp,cond_true]
  cases (ek0 ars fs.length true (cR0 ns ars (H5 ns ars) (J3 ns ars)) [] []).2<;>rfl
 ·simp only[hN0 hp,b9,hp,decide_false,Bool.not_false,cond_true,cond_false]
end Go.Ab
namespace Go.Ab
open Go Go.Sort Go.Proofs Go.Shelf
def fL0:List (Int×Int×Int):=[(32,32,0),(39,41,0),(45,46,0),(48,57,0),(65,90,1),(97,122,1),(192,214,1),(216,246,1),(248,591,1),(880,1023,2),(1024,1279,3),(1488,1514,4),(19968,40959,5)]
def sc0(c:Int):List (Int×Int×Int)->Int
 | []=>-1
 | r::l=>bif decide (r.1<=c)&&decide (c<=r.2.1)then r.2.2 else sc0 c l
def fs0(r:Int):Int:=bif decide (r<0)||decide (1114111<r)then -1 else sc0 r fL0
theorem da0(r:Int):R6 r=some (fs0 r):=by
 unfold R6 fs0
 simp only[b9]
 by_cases h1:r<0
 ·simp[h1]
 by_cases h2:(1114111:Int)<r
 ·simp[h1,h2]
 have h3:IntKind.i32.wrap r=r:=IntWalk.i32_in r ⟨by omega,by omega⟩
 simp only[h1,h2,decide_false,cond_false,Bool.or_self,h3,gl_0,b9]
 refine r9 (A:=Unit) fL0 (fun i _=>(i:Int)) (fun _ rest=>some (sc0 r rest)) (by simp[fL0]) ?_ ?_ ()
 ·intro rec a
  simp[fL0,sc0]
 ·intro rec i a x rest hi hd hr
  have e1:decide ((i:Int)<13)=true:=by simp only[fL0,List.length_cons,List.length_nil]at hi;simp only[decide_eq_true_eq];omega
  have e2:nth fL0 (i:Int)=some x:=l9 hd
  have e3:IntKind.i64.wrap ((i:Int)+1)=((i+1:Nat):Int):=w9 (n:=100) (by simp only[fL0,List.length_cons,List.length_nil]at hi;omega) (by omega)
  simp only[fL0]at e2
  simp only[e1,cond_true,e2,b9,e3,sc0]
  have:=hr ()
  by_cases h4:x.1<=r
  ·by_cases h5:r<=x.2.1
   ·simp[h4,h5]
   ·simp only[h4,h5,decide_true,decide_false,cond_true,cond_false,Bool.and_false,this]
  ·simp only[h4,decide_false,cond_false,Bool.false_and,this]
theorem vP0(b:ByteArray)(n:Nat):1<=(Utf8.decode b n).2/\(Utf8.decode b n).2<=4/\(Utf8.decode b n).1<=2097151:=by
 rw[Lib.decode_at]
 unfold Lib.decodeN
 repeat' split
 all_goals (dsimp only;omega)
theorem sv0{α β:Type}{F:(α->Option β)->α->Option β}(I:α->Prop)(μ:α->Nat)(Q:β->Prop)(h:∀ rec x,I x->(∀ y,I y->μ y<μ x->∃ v,rec y=some v/\Q v)->∃ v,F rec x=some v/\Q v):∀ (n:Nat) (x:α),I x->μ x<n->∃ v,iter F n x=some v/\Q v
 | 0,x,_,hm=>absurd hm (Nat.not_lt_zero _)
 | n+1,x,hi,hm=>by
  show ∃ v,F (iter F n) x=some v/\Q v
  exact h _ x hi fun y hy hlt=>sv0 I μ Q h n y hy (by omega)
theorem L5{α β:Type}{F:(α->Option β)->α->Option β}(I:α->Prop)(μ:α->Nat)(Q:β->Prop)(h:∀ rec x,I x->(∀ y,I y->μ y<μ x->∃ v,rec y=some v/\Q v)->∃ v,F rec x=some v/\Q v){x:α}(hx:I x)(hm:μ x<2^100):∃ v,rounds F x=some v/\Q v :=
 sv0 I μ Q h many x hx (Nat.lt_of_lt_of_le hm ey0)
theorem pZ0(b:ByteArray)(hb:b.size<=1000):∃ r,Y0 b=some r/\(r.2=0\/r.2=4)/\r.1.length<=1000:=by
 unfold Y0
 simp only[b9]
 refine L5 (fun x:List Int×Int=>0<=x.2/\x.2<=(b.size:Int)+4/\(x.1.length:Int)<=x.2/\x.1.length<=1000) (fun x:List Int×Int=>((b.size:Int)+4-x.2).toNat) (fun r:List Int×Int=>(r.2=0\/r.2=4)/\r.1.length<=1000) ?_ ⟨by simp,by simp only;omega,by simp,by simp⟩ (by simp only;omega)
 intro rec x hI hr
 obtain⟨h1,h2,h3,h4⟩:=hI
 by_cases hlt:x.2.toNat<b.size
 ·obtain⟨u1,u2,u3⟩:=vP0 b x.2.toNat
  have hs:rw0 b x.2=some ((x.2.toNat:Int),((Utf8.decode b x.2.toNat).1:Int),((x.2.toNat+(Utf8.decode b x.2.toNat).2:Nat):Int)):=by
   unfold rw0
   simp[hlt]
  have e1:IntKind.i64.wrap (((Utf8.decode b x.2.toNat).1:Nat):Int)=(((Utf8.decode b x.2.toNat).1:Nat):Int):=w64 (by omega) (by omega)
  have hcat:Q5 8 x.1 [(((Utf8.decode b x.2.toNat).1:Nat):Int)]=some (x.1++[(((Utf8.decode b x.2.toNat).1:Nat):Int)]):=C7 (by omega) (by simp;omega)
  simp only[hlt,decide_true,cond_true,hs,b9,e1,da0,hcat]
  by_cases hz:fs0 (((Utf8.decode b x.2.toNat).1:Nat):Int)<0
  ·simp[hz]
  ·simp only[hz,decide_false,cond_false]
   exact hr _ ⟨by omega,by simp only;omega,by simp only[List.length_append,List.length_singleton];omega,by simp only[List.length_append,List.length_singleton];omega⟩ (by simp only;omega)
 ·simp only[hlt,decide_false,cond_false]
  exact⟨_,rfl,.inl rfl,h4⟩
theorem rD0{b:ByteArray}{i:Int}(h0:0<=i)(h:i.toNat<b.size):∃ v,kT0 b i=some v:=by
 unfold kT0
 have:b[i.toNat]?=some b[i.toNat]:=getElem?_pos b i.toNat h
 simp[h0,this]
theorem vn0(b:ByteArray):∃ r,cy0 b=some r:=by
 unfold cy0
 simp only[b9]
 cases he:(b.toList==(ByteArray.mk #[]).toList)with
 | true=>exact⟨_,rfl⟩
 | false =>
  simp only[cond_false]
  by_cases h40:(40:Int)<(b.size:Int)
  ·simp only[h40,decide_true,cond_true];exact⟨_,rfl⟩
  ·have hpos:0<b.size:=by
    refine Nat.pos_of_ne_zero fun hz=>?_
    have hb:b=ByteArray.mk #[]:=by
     cases b with
     | mk d=>cases d with
      | mk l=>cases l with
       | nil=>rfl
       | cons x l=>simp[ByteArray.size]at hz
    rw[hb]at he
    simp at he
   obtain⟨r,hr,hr2,hr3⟩:=pZ0 b (by omega)
   simp only[h40,decide_false,cond_false,hr,b9]
   rcases hr2 with hr2 | hr2
   ·obtain⟨v7,h7⟩:=rD0 (b:=b) (i:=0) (by omega) (by simpa using hpos)
    have e1:IntKind.i64.wrap ((b.size:Int)-1)=(b.size:Int)-1:=w64 (by omega) (by omega)
    obtain⟨v11,h11⟩:=rD0 (b:=b) (i:=(b.size:Int)-1) (by omega) (by omega)
    have hc:∃ v,strings_Contains (b,ByteArray.mk #[32,32])=some v:=by
     unfold strings_Contains
     have:decide (b.size<4294967281)=true:=by simp only[decide_eq_true_eq];omega
     simp only[this,cond_true]
     exact⟨_,rfl⟩
    obtain⟨v13,h13⟩:=hc
    simp only[hr2,decide_true,Bool.not_true,cond_false,h7,b9,e1,h11,h13]
    cases decide (v7=32)with
    | true=>exact⟨_,rfl⟩
    | false =>
     simp only[cond_false]
     cases decide (v11=32)with
     | true=>exact⟨_,rfl⟩
     | false =>
      simp only[cond_false]
      cases v13 with
      | true=>exact⟨_,rfl⟩
      | false =>
       simp only[cond_false,da0,b9]
       have:=r9 (A:=Unit) r.1 (β:=List Int×Int) (F:=fun k15 x15 =>
        bif decide (x15<(r.1.length:Int))then b8 (nth r.1 x15) fun v18=>bif !decide (fs0 v18=0)then some (r.1,0)else k15 (IntKind.i64.wrap (x15+1))else some ([],14)) (fun i _=>(i:Int)) (fun _ rest=>some (bif rest.any (fun c=>!decide (fs0 c=0))then (r.1,0)else ([],14))) (by omega) ?_ ?_ ()
       ·exact⟨_,this⟩
       ·intro rec a
        simp only[A9,cond_false,List.any_nil]
       ·intro rec i a x rest hi hd hr'
        simp only[A5 hi,cond_true,l9 hd,b9,w9 hi (show r.1.length<2^62 by omega),List.any_cons,hr' ()]
        cases !decide (fs0 x=0)<;>rfl
   ·simp only[hr2]
    exact⟨_,rfl⟩
theorem jJ0(b:ByteArray):∃ c,W1 b=some c:=by
 obtain⟨r,hr⟩:=vn0 b
 unfold W1
 rw[hr]
 exact⟨_,rfl⟩
end Go.Ab
namespace Go.Ab
open Go Go.Sort Go.Proofs Go.Shelf
abbrev Ft:=Int×Int×Int×ByteArray×List Int
theorem O4{α:Type}(xs:List α)(hl:xs.length<=1000000)(P:α->Option Bool)(p:α->Bool)(hp:∀ x∈xs,P x=some (p x)) :
  rounds (α:=Int) (β:=Bool) (fun k2 x2 =>
   bif decide (x2<((xs.length:Nat):Int))then b8 (nth xs x2) fun v5=>b8 (P v5) fun v10=>bif v10 then some (decide ((0:Int)<=x2))else k2 (IntKind.i64.wrap (x2+(1:Int)))else some false) (0:Int)=some (xs.any p):=by
 refine r9 (A:=Unit) xs (fun i _=>(i:Int)) (fun _ rest=>some (rest.any p)) (by omega) ?_ ?_ ()
 ·intro rec a
  simp only[A9,cond_false,List.any_nil]
 ·intro rec i a x rest hi hd hr
  have hx:x∈xs:=by
   have:x∈xs.drop i:=by rw[hd];simp
   exact List.mem_of_mem_drop this
  have e:decide ((0:Int)<=(i:Int))=true:=by simp
  simp only[A5 hi,cond_true,l9 hd,b9,hp x hx,w9 hi (show xs.length<2^62 by omega),List.any_cons,hr (),e]
  cases p x<;>rfl
def p1(f:Ft):Bool:=decide ((64:Int)<(f.2.2.2.2.length:Int))
theorem pn0(l:List Ft)(hl:l.length<=1000000):o9 (l,())=some (l.any p1):=by
 unfold o9
 simp only[b9]
 exact O4 l hl _ p1 fun x _=>rfl
def p2(f:Ft):Bool:=decide (f.1<1)||(decide (1073741824<f.1)||(decide (f.2.2.1<1)||decide (9<f.2.2.1)))
theorem pJ0(l:List Ft)(hl:l.length<=1000000):j7 (l,())=some (l.any p2):=by
 unfold j7
 simp only[b9]
 refine O4 l hl _ p2 fun x _=>?_
 unfold T8 p2
 simp only[b9]
 cases decide (x.1<1)<;>cases decide (1073741824<x.1)<;>cases decide (x.2.2.1<1)<;>rfl
theorem sY0(k:Int):∃ s,A3 k=some s:=by
 unfold A3
 simp only[b9]
 repeat' (first | exact⟨_,rfl⟩ | (generalize decide (k=_)=c;cases c<;>simp only[cond_true,cond_false]))
noncomputable def K1(k:Int):Int:=(A3 k).getD 0
theorem bb0(k:Int):A3 k=some (K1 k):=by
 obtain⟨s,hs⟩:=sY0 k
 simp[K1,hs]
noncomputable def p3(f:Ft):Bool:=decide (K1 f.2.1=0)
noncomputable def vI0(b:ByteArray):Int:=(W1 b).getD 0
theorem wl0(b:ByteArray):W1 b=some (vI0 b):=by
 obtain⟨s,hs⟩:=jJ0 b
 simp[vI0,hs]
theorem pK0(l:List Ft)(hl:l.length<=1000000):l5 (l,())=some (l.any p3):=by
 unfold l5
 simp only[b9]
 refine O4 l hl _ p3 fun x _=>?_
 unfold U1 p3
 simp only[bb0,b9]
noncomputable def p4(f:Ft):Bool:=bif !(f.2.2.2.1.toList==(ByteArray.mk #[]).toList)then !decide (vI0 f.2.2.2.1=0)else false
theorem pH0(l:List Ft)(hl:l.length<=1000000):j5 (l,())=some (l.any p4):=by
 unfold j5
 simp only[b9]
 refine O4 l hl _ p4 fun x _=>?_
 unfold T3 p4
 simp only[wl0,b9]
 cases (!(x.2.2.2.1.toList==(ByteArray.mk #[]).toList))<;>rfl
noncomputable def p5(f:Ft):Bool:=bif decide ((f.2.2.2.2.length:Int)=0)then true else bif decide (K1 f.2.1=1)then decide ((1:Int)<(f.2.2.2.2.length:Int))else false
theorem pU0(l:List Ft)(hl:l.length<=1000000):j6 (l,())=some (l.any p5):=by
 unfold j6
 simp only[b9]
 refine O4 l hl _ p5 fun x _=>?_
 unfold T7 p5
 simp only[bb0,b9]
 cases decide ((x.2.2.2.2.length:Int)=0)<;>cases decide (K1 x.2.1=1)<;>rfl
noncomputable def lG0(ns:List Nd)(ars:List Ar)(fs:List Int)(k:Int)(id:Int):Bool :=
 bif decide (K1 k=1)then !(O7 ns id).isSome else bif decide (K1 k=2)then !(ct0 ars id).isSome else bif decide (K1 k=3)then !decide (id∈fs)else true
namespace cw0
variable {ns:List Nd} {ars:List Ar} {fs:List Int} (h:cw0 ns ars fs)
include h
theorem missing_1_eq(id:Int)(f:Ft):J9 (id,(f.1,f.2.1,f.2.2.1,f.2.2.2.1,f.2.2.2.2),(ns,ars,fs))=some (lG0 ns ars fs f.2.1 id):=by
 have hN:=h.lenN
 have hF:=h.lenF
 unfold J9 lG0
 simp only[bb0,b9,cZ0 ns ars fs id (by omega),h.Arc_eq,et0,E1 fs id (by omega)]
 cases decide (K1 f.2.1=1)<;>cases decide (K1 f.2.1=2)<;>cases decide (K1 f.2.1=3)<;>cases O7 ns id<;>cases ct0 ars id<;>rfl
theorem missing_eq(f:Ft)(hl:f.2.2.2.2.length<=1000000):N9 ((ns,ars,fs),(f.1,f.2.1,f.2.2.1,f.2.2.2.1,f.2.2.2.2))=some (f.2.2.2.2.any (lG0 ns ars fs f.2.1)):=by
 unfold N9 y8
 simp only[b9]
 rw[O4 f.2.2.2.2 hl _ (lG0 ns ars fs f.2.1) fun x _=>h.missing_1_eq x f]
 rfl
theorem Check_6_eq(l:List Ft)(l':List Ft)(hl:l.length<=1000000)(hp:∀ f∈l,f.2.2.2.2.length<=1000000):j8 (l,(ns,ars,fs,l'))=some (l.any fun f=>f.2.2.2.2.any (lG0 ns ars fs f.2.1)):=by
 unfold j8
 simp only[b9]
 refine O4 l hl _ _ fun f hf=>?_
 unfold T9
 simp only[h.missing_eq f (hp f hf),b9]
end cw0
def sX0:List Int->Bool
 | []=>true
 | [_]=>true
 | a::b::l=>!decide (b<=a)&&sX0 (b::l)
theorem tD0(l:List Int)(hl:l.length<=1000000):V2 l=some (sX0 l):=by
 unfold V2
 simp only[b9]
 cases l with
 | nil=>exact ff0 fun rec=>rfl
 | cons p0 l =>
  simp only[List.length_cons]at hl
  refine(p8 (A:=Int) l (fun i _=>((i+1:Nat):Int)) (fun a rest=>some (sX0 (a::rest))) (fun i a=>(p0::l)[i]?=some a) (by omega) ?_ ?_ p0 rfl)
  ·intro rec a hI
   have e:((p0::l).length:Int)=((l.length+1:Nat):Int):=by simp
   simp only[e,A9,cond_false,sX0]
  ·intro rec i a x rest hi hI hd hr
   have hx:(p0::l)[i+1]?=some x:=by
    rw[List.getElem?_cons_succ,<-C3];exact l9 hd
   have e:((p0::l).length:Int)=((l.length+1:Nat):Int):=by simp
   have e1:IntKind.i64.wrap (((i+1:Nat):Int)-1)=(i:Int):=by rw[w64 (by omega) (by omega)];omega
   have e2:IntKind.i64.wrap (((i+1:Nat):Int)+1)=((i+1+1:Nat):Int):=w9 (n:=2000000) (by omega) (by omega)
   simp only[e,A5 (show i+1<l.length+1 by omega),cond_true,e1,C3,hI,hx,b9,e2,sX0]
   have:=hr x hx
   rw[this]
   cases decide (x<=a)<;>rfl
end Go.Ab
namespace Go.Ab
open Go Go.Sort Go.Proofs Go.Shelf
abbrev KP:=Int×Int
def qP:KP->KP->Bool:=fun (a b:Int×Int)=>(decide (a.1=b.1)&&decide (a.2=b.2))
def tX0(S:List (KP×Bool))(k:KP):Bool:=(lkp qP k S).getD false
def fH0(k:Int):List Int->List (KP×Bool)->Option (List (KP×Bool))
 | [],S=>some S
 | p::r,S=>bif tX0 S (k,p)then none else fH0 k r (V9 qP (k,p) true S)
noncomputable def gG0:List Ft->List (KP×Bool)->Bool
 | [],_=>false
 | f::r,S=>bif decide (K1 f.2.1=2)then gG0 r S else
  match fH0 (bif decide (K1 f.2.1=3)then f.2.1 else 0) f.2.2.2.2 S with
  | some S'=>gG0 r S'
  | none=>true
theorem ii0(k:Int)(ps:List Int)(hl:ps.length<=1000000)(K:Int×List (KP×Bool)->Option Int)(V:Option Int)(S:List (KP×Bool)) :
  rounds (α:=Int×List (KP×Bool)) (β:=Int) (fun k48 x48 =>
   bif decide (x48.1<((ps.length:Nat):Int))then
    b8 (nth ps x48.1) fun v52 =>
    b8 (orO (lkp (fun (a b:Int×Int)=>(decide (a.1=b.1)&&decide (a.2=b.2))) (k,v52) x48.2) (some false)) fun v53 =>
    bif v53 then V else k48 (IntKind.i64.wrap (x48.1+(1:Int)),V9 (fun (a b:Int×Int)=>(decide (a.1=b.1)&&decide (a.2=b.2))) (k,v52) true x48.2)
   else K x48) ((0:Int),S)=match fH0 k ps S with | some S'=>K (((ps.length:Nat):Int),S') | none=>V:=by
 refine r9 (A:=List (KP×Bool)) ps (fun i a=>((i:Int),a)) (fun a rest=>match fH0 k rest a with | some S'=>K (((ps.length:Nat):Int),S') | none=>V) (by omega) ?_ ?_ S
 ·intro rec a
  simp only[A9,cond_false,fH0]
 ·intro rec i a x rest hi hd hr
  have e:orO (lkp (fun (a b:Int×Int)=>(decide (a.1=b.1)&&decide (a.2=b.2))) (k,x) a) (some false)=some (tX0 a (k,x)):=by
   unfold tX0
   show orO (lkp qP (k,x) a) (some false)=_
   cases lkp qP (k,x) a<;>rfl
  simp only[A5 hi,cond_true,l9 hd,b9,e,w9 hi (show ps.length<2^62 by omega),fH0]
  cases tX0 a (k,x)with
  | true=>rfl
  | false=>exact hr _
def ud0:Option Int->List Ft->Bool
 | _,[]=>false
 | pr,f::r=>bif (match pr with | some p=>decide (f.1<=p) | none=>false)||!(sX0 f.2.2.2.2)then true else ud0 (some f.1) r
noncomputable def X1(ns:List Nd)(ars:List Ar)(fs:List Int)(l:List Ft):Int :=
 bif !decide (L9 ns ars fs=0)then L9 ns ars fs else
 bif decide (128<(l.length:Int))then 3 else
 bif l.any p1 then 3 else
 bif ud0 none l then 10 else
 bif l.any p2 then 2 else
 bif l.any p3 then 9 else
 bif l.any p4 then 14 else
 bif l.any p5 then 1 else
 bif l.any (fun f=>f.2.2.2.2.any (lG0 ns ars fs f.2.1))then 7 else
 bif gG0 l []then 13 else 0
theorem Q3(ns:List Nd)(ars:List Ar)(fs:List Int)(l:List Ft):H9 (ns,ars,fs,l)=some (X1 ns ars fs l):=by
 unfold H9 X1
 simp only[hE0,b9]
 cases hr:decide (L9 ns ars fs=0)with
 | false=>simp
 | true =>
  have hp:cw0 ns ars fs:=by
   refine aI0.1 ?_
   have hz:L9 ns ars fs=0:=by simpa using hr
   unfold L9 at hz
   by_cases h0:M8 ns ars fs=0
   ·exact h0
   ·simp[h0]at hz
  simp only[Bool.not_true,cond_false]
  cases h128:decide ((128:Int)<(l.length:Int))with
  | true=>rfl
  | false =>
   have hl:l.length<=1000000:=by simp only[decide_eq_false_iff_not]at h128;omega
   simp only[cond_false,pn0 l hl,b9]
   cases h1:l.any p1 with
   | true=>rfl
   | false =>
    have hpart:∀ f∈l,f.2.2.2.2.length<=1000000:=fun f hf=>by
     have:=List.any_eq_false.1 h1 f hf
     simp only[p1,decide_eq_true_eq]at this
     omega
    have hlen:l.length<=128:=by simp only[decide_eq_false_iff_not]at h128;omega
    simp only[cond_false,pJ0 l hl,pK0 l hl,pH0 l hl,pU0 l hl,hp.Check_6_eq l l hl hpart,b9]
    refine(p8 (A:=Option Int) l (fun i _=>((i:Int),(i:Int))) (fun a rest=>some (bif ud0 a rest then (10:Int)else bif l.any p2 then 2 else bif l.any p3 then 9 else bif l.any p4 then 14 else bif l.any p5 then 1 else bif l.any (fun f=>f.2.2.2.2.any (lG0 ns ars fs f.2.1))then 7 else bif gG0 l []then 13 else 0))
     (fun i a=>match a with | none=>i=0 | some p=>0<i/\∃ g:Ft,l[i-1]?=some g/\g.1=p) (by omega) ?_ ?_ none rfl).trans ?_
    rotate_left 2
    ·rfl
    ·intro rec a hI
     simp only[A9,cond_false,ud0]
     cases l.any p2 with
     | true=>rfl
     | false =>
      cases l.any p3 with
      | true=>rfl
      | false =>
       cases l.any p4 with
       | true=>rfl
       | false =>
        cases l.any p5 with
        | true=>rfl
        | false =>
         cases l.any (fun f=>f.2.2.2.2.any (lG0 ns ars fs f.2.1))with
         | true=>rfl
         | false =>
          simp only[cond_false]
          refine(r9 (A:=List (KP×Bool)) l (fun i a=>((i:Int),a)) (fun a rest=>some (bif gG0 rest a then (13:Int)else 0)) (by omega) ?_ ?_ [])
          ·intro rec a
           simp only[A9,cond_false,gG0]
          ·intro rec i a x rest hi hd hr
           have hxm:x∈l:=by
            have:x∈l.drop i:=by rw[hd];simp
            exact List.mem_of_mem_drop this
           have e2:IntKind.i64.wrap ((i:Int)+1)=((i+1:Nat):Int):=w9 (n:=2000000) (by omega) (by omega)
           have e0:decide ((0:Int)<=(i:Int))=true:=by simp
           simp only[A5 hi,cond_true,l9 hd,b9,bb0,e2,e0,gG0]
           cases decide (K1 x.2.1=2)with
           | true=>exact hr a
           | false =>
            simp only[cond_false]
            cases decide (K1 x.2.1=3)with
            | true =>
             simp only[cond_true]
             refine(ii0 x.2.1 x.2.2.2.2 (hpart x hxm) _ _ a).trans ?_
             cases fH0 x.2.1 x.2.2.2.2 a with
             | none=>rfl
             | some S'=>exact hr S'
            | false =>
             simp only[cond_false]
             refine(ii0 0 x.2.2.2.2 (hpart x hxm) _ _ a).trans ?_
             cases fH0 0 x.2.2.2.2 a with
             | none=>rfl
             | some S'=>exact hr S'
    ·intro rec i a x rest hi hI hd hr
     have hxm:x∈l:=by
      have:x∈l.drop i:=by rw[hd];simp
      exact List.mem_of_mem_drop this
     have e2:IntKind.i64.wrap ((i:Int)+1)=((i+1:Nat):Int):=w9 (n:=2000000) (by omega) (by omega)
     have e0:decide ((0:Int)<=(i:Int))=true:=by simp
     have hx:l[i]?=some x:=by rw[<- C3];exact l9 hd
     have hn:=hr (some x.1) ⟨by omega,x,by simpa using hx,rfl⟩
     simp only[A5 hi,cond_true,l9 hd,b9,e2,e0,tD0 x.2.2.2.2 (hpart x hxm),hn,ud0]
     cases a with
     | none =>
      have hi0:i=0:=hI
      subst hi0
      have e1:decide ((1:Int)<((0+1:Nat):Int))=false:=by decide
      simp only[e1,cond_false,Bool.false_or]
      cases sX0 x.2.2.2.2<;>rfl
     | some p =>
      obtain⟨hi0,g,hg,rfl⟩:=hI
      have e1:decide ((1:Int)<((i+1:Nat):Int))=true:=by simp only[decide_eq_true_eq];omega
      have e3:IntKind.i64.wrap (((i+1:Nat):Int)-2)=((i-1:Nat):Int):=by rw[w64 (by omega) (by omega)];omega
      simp only[e1,cond_true,e3,C3,hg,b9]
      cases decide (x.1<=g.1)<;>cases sX0 x.2.2.2.2<;>rfl
end Go.Ab
namespace Go.Ab
open Go Go.Sort Go.Proofs Go.Shelf
def eq0(l:List Ft)(id:Int):Option Ft:=l.find? (fun f=>decide (f.1=id))
def noFt:Ft:=(0,0,0,ByteArray.mk #[],[])
theorem vJ0(ns:List Nd)(ars:List Ar)(fs:List Int)(l:List Ft)(id:Int)(hl:l.length<=1000000)(hp:∀ f∈l,f.2.2.2.2.length<=1000000) :
  Y5 ((ns,ars,fs,l),id)=some (match eq0 l id with | some f=>(f,true) | none=>(noFt,false)):=by
 unfold Y5
 simp only[b9]
 refine r9 (A:=Unit) l (fun i _=>(i:Int)) (fun _ rest=>some (match eq0 rest id with | some f=>(f,true) | none=>(noFt,false))) (by omega) ?_ ?_ ()
 ·intro rec a
  simp only[A9,cond_false,eq0,List.find?_nil]
  rfl
 ·intro rec i a x rest hi hd hr
  have hxm:x∈l:=by
   have:x∈l.drop i:=by rw[hd];simp
   exact List.mem_of_mem_drop this
  have hcl:slices_Clone_int x.2.2.2.2=some x.2.2.2.2:=by
   unfold slices_Clone_int
   rw[C7 (by omega) (by have:=hp x hxm;simp;omega)]
   rfl
  simp only[A5 hi,cond_true,l9 hd,b9,w9 hi (show l.length<2^62 by omega),hcl]
  have:=hr ()
  by_cases h:x.1=id
  ·simp[eq0,h]
   exact Prod.ext h.symm rfl
  ·simp only[h,decide_false,cond_false,this,eq0,List.find?_cons]
def sx0(ns:List Nd)(ars:List Ar)(a:Ar):Int:=match pathOf ns ars a.1 with
 | some (p::l)=>L8 p l
 | _=>0
def iz0(ns:List Nd)(ars:List Ar)(ps:List Int):List Ar->Int
 | []=>0
 | a::r=>(bif (decide (a.2.2.2.2.1∈ps)==decide (a.2.2.2.2.2∈ps))then 0 else bif decide (a.2.2.2.2.2∈ps)then -(sx0 ns ars a)else sx0 ns ars a)+iz0 ns ars ps r
theorem mk0{β:Type}(p0:Pt)(l:List Pt)(hl:l.length<=1000)(h0:rV0 p0)(hc:∀ q∈l,rV0 q)(K:Int×Int->Option β) :
  rounds (α:=Int×Int) (β:=β) (fun k27 x27 =>
    bif (decide (x27.2<(((p0::l).length:Nat):Int)))then (
     b8 (nth (p0::l) (IntKind.i64.wrap (x27.2-(1:Int)))) fun v31 =>
     b8 (nth (p0::l) x27.2) fun v34 =>
     b8 (nth (p0::l) x27.2) fun v38 =>
     b8 (nth (p0::l) (IntKind.i64.wrap (x27.2-(1:Int)))) fun v40 =>
     k27 (IntKind.i64.wrap (x27.1+IntKind.i64.wrap (IntKind.i64.wrap (v31.1*v34.2)-IntKind.i64.wrap (v38.1*v40.2))),IntKind.i64.wrap (x27.2+(1:Int))))else (
     K x27)) ((0:Int),(1:Int))=K (L8 p0 l,((l.length+1:Nat):Int)):=by
 have e:(((p0::l).length:Nat):Int)=((l.length+1:Nat):Int):=by simp
 refine(p8 (A:=Pt×Int) l (fun i a=>(a.2,((i+1:Nat):Int))) (fun a rest=>K (a.2+L8 a.1 rest,((l.length+1:Nat):Int))) (fun i a=>(p0::l)[i]?=some a.1/\rV0 a.1/\-(8796093022208*(i:Int))<=a.2/\a.2<=8796093022208*(i:Int)) (by omega) ?_ ?_ (p0,0) ⟨rfl,h0,by simp,by simp⟩).trans (by simp)
 ·intro rec a hI
  simp only[e,A9,cond_false,L8,Int.add_zero]
 ·intro rec i a x rest hi hI hd hr
  obtain⟨hI,hp,g1,g2⟩:=hI
  have hx:(p0::l)[i+1]?=some x:=by
   rw[List.getElem?_cons_succ,<-C3];exact l9 hd
  have hxm:x∈l:=by
   have:x∈l.drop i:=by rw[hd];simp
   exact List.mem_of_mem_drop this
  have hq:=hc x hxm
  have e1:IntKind.i64.wrap (((i+1:Nat):Int)-1)=(i:Int):=by rw[w64 (by omega) (by omega)];omega
  have e2:IntKind.i64.wrap (((i+1:Nat):Int)+1)=((i+1+1:Nat):Int):=w9 (n:=2000000) (by omega) (by omega)
  simp only[e,A5 (show i+1<l.length+1 by omega),cond_true,e1,e2,C3,hI,hx,b9]
  obtain⟨a1,a2⟩:=bA0 (A:=2097152) hp.1 hp.2.1 hq.2.2.1 hq.2.2.2
  obtain⟨b1,b2⟩:=bA0 (A:=2097152) hq.1 hq.2.1 hp.2.2.1 hp.2.2.2
  have w1:IntKind.i64.wrap (a.1.1*x.2)=a.1.1*x.2:=w64 (by omega) (by omega)
  have w2:IntKind.i64.wrap (x.1*a.1.2)=x.1*a.1.2:=w64 (by omega) (by omega)
  have w3:IntKind.i64.wrap (a.1.1*x.2-x.1*a.1.2)=cn0 a.1 x:=w64 (by omega) (by omega)
  have hcs:cn0 a.1 x=a.1.1*x.2-x.1*a.1.2:=rfl
  have w4:IntKind.i64.wrap (a.2+cn0 a.1 x)=a.2+cn0 a.1 x:=w64 (by omega) (by omega)
  rw[w1,w2,w3,w4]
  have:=hr (x,a.2+cn0 a.1 x) ⟨hx,hq,by simp only;omega,by simp only;omega⟩
  rw[this]
  simp only[L8]
  congr 2
  omega
namespace cw0
variable {ns:List Nd} {ars:List Ar} {fs:List Int} (h:cw0 ns ars fs)
include h
theorem Area_eq(l:List Ft)(id:Int)(hl:l.length<=1000000)(hp:∀ f∈l,f.2.2.2.2.length<=1000000) :
  R5 ((ns,ars,fs,l),id)=some (match eq0 l id with | some f=>if K1 f.2.1=3 then iz0 ns ars f.2.2.2.2 ars else 0 | none=>0):=by
 have hA:=h.lenA
 have hcode:M8 ns ars fs=0:=aI0.2 h
 unfold R5
 simp only[vJ0 ns ars fs l id hl hp,b9]
 cases hf:eq0 l id with
 | none=>rfl
 | some f =>
  have hfm:f∈l:=List.mem_of_find?_eq_some hf
  have hps:=hp f hfm
  simp only[Bool.not_true,cond_false,bb0,b9]
  by_cases hs:K1 f.2.1=3
  ·simp only[hs,decide_true,Bool.not_true,cond_false,cc0,hcode,b9,if_true]
   refine(p8 (A:=Int) ars (fun i a=>(a,(i:Int))) (fun a rest=>some (a+iz0 ns ars f.2.2.2.2 rest)) (fun i a=>-(571746046443520*(i:Int))<=a/\a<=571746046443520*(i:Int)) (by omega) ?_ ?_ 0 ⟨by simp,by simp⟩).trans (by simp)
   ·intro rec a hI
    simp only[A9,cond_false,iz0,Int.add_zero]
   ·intro rec i a x rest hi hI hd hr
    have hxm:x∈ars:=by
     have:x∈ars.drop i:=by rw[hd];simp
     exact List.mem_of_mem_drop this
    have hn:=h.num hxm
    have habs:x.1=jo0 x.1:=by unfold jo0;omega
    obtain⟨p0,pl,hpath,hpl,c0,cl⟩:=h.dart_path (d:=x.1) ⟨x,hxm,habs⟩
    rw[<- habs]at hpath
    have e2:IntKind.i64.wrap ((i:Int)+1)=((i+1:Nat):Int):=w9 (n:=2000000) (by omega) (by omega)
    obtain⟨b1,b2⟩:=bW0 pl p0 c0 cl
    have hAr:-571746046443520<=L8 p0 pl/\L8 p0 pl<=571746046443520:=by omega
    have harc:sx0 ns ars x=L8 p0 pl:=by simp only[sx0,hpath]
    simp only[A5 hi,cond_true,l9 hd,b9,E1 _ _ (show f.2.2.2.2.length<2^62 by omega),e2,h.Path_eq,hpath,iz0,harc]
    cases decide (x.2.2.2.2.1∈f.2.2.2.2)==decide (x.2.2.2.2.2∈f.2.2.2.2)with
    | true =>
     simp only[cond_true]
     rw[hr a (by omega)]
     congr 1;omega
    | false =>
     simp only[cond_false]
     refine(mk0 p0 pl (by omega) c0 cl _).trans ?_
     cases decide (x.2.2.2.2.2∈f.2.2.2.2)with
     | true =>
      have w1:IntKind.i64.wrap (0-L8 p0 pl)=-(L8 p0 pl):=by rw[w64 (by omega) (by omega)];omega
      have w2:IntKind.i64.wrap (a+-(L8 p0 pl))=a+-(L8 p0 pl):=w64 (by omega) (by omega)
      simp only[cond_true,w1,w2]
      rw[hr (a+-(L8 p0 pl)) (by omega)]
      congr 1;omega
     | false =>
      have w2:IntKind.i64.wrap (a+L8 p0 pl)=a+L8 p0 pl:=w64 (by omega) (by omega)
      simp only[cond_false,w2]
      rw[hr (a+L8 p0 pl) (by omega)]
      congr 1;omega
  ·simp only[hs,decide_false,Bool.not_false,cond_true,if_false]
end cw0
end Go.Ab
namespace Go.Ab
open Go Go.Sort Go.Proofs Go.Shelf
set_option maxRecDepth 10000
theorem u6{α β:Type}{a:Option α}{f:α->Option β}{P:α->Prop}{Q:β->Prop}(h:∃ v,a=some v/\P v)(hf:∀ v,P v->∃ r,f v=some r/\Q r):∃ r,b8 a f=some r/\Q r:=by
 obtain⟨v,rfl,hv⟩:=h
 exact hf v hv
theorem wu(n:Int):0<=IntKind.u64.wrap n/\IntKind.u64.wrap n<=18446744073709551615:=by
 simp[IntKind.wrap,IntKind.bits,IntKind.signed]
 omega
theorem gd0{n:Int}(h:0<=n/\n<=18446744073709551615):IntKind.u64.wrap n=n:=IntWalk.u64_in n h
theorem wa0{n:Int}(h:0<=n/\n<=255):IntKind.u8.wrap n=n:=IntWalk.u8_in n h
def oz0(i:Nat):Nat:=if i=0 then 0 else if i<2 then 1 else if i<4 then 2 else if i<8 then 3 else if i<16 then 4 else if i<32 then 5 else if i<64 then 6 else if i<128 then 7 else 8
theorem wI0:((List.range 256).all fun i=>kT0 qB0 (i:Int)==some ((oz0 i:Nat):Int))=true:=by decide +kernel
theorem tab_ok{v:Int}(h:0<=v/\v<=255):kT0 qB0 v=some ((oz0 v.toNat:Nat):Int):=by
 have:=List.all_eq_true.1 wI0 v.toNat (List.mem_range.2 (by omega))
 rw[show ((v.toNat:Nat):Int)=v by omega]at this
 simpa using this
theorem oO0{i:Nat}(h:i<=255):(oz0 i=0/\i=0)\/(oz0 i=1/\i=1)\/(oz0 i=2/\2<=i/\i<4)\/(oz0 i=3/\4<=i/\i<8)\/(oz0 i=4/\8<=i/\i<16)\/(oz0 i=5/\16<=i/\i<32)\/(oz0 i=6/\32<=i/\i<64)\/(oz0 i=7/\64<=i/\i<128)\/(oz0 i=8/\128<=i):=by
 unfold oz0
 repeat' split
 all_goals omega
theorem fd{x k:Int}(hk:0<=k):x.fdiv k=x / k:=Int.fdiv_eq_ediv_of_nonneg x hk
theorem sh32:(2:Int)^(min (32:Int).toNat IntKind.u64.bits)=4294967296:=by decide
theorem sh16:(2:Int)^(min (16:Int).toNat IntKind.u64.bits)=65536:=by decide
theorem sh8:(2:Int)^(min (8:Int).toNat IntKind.u64.bits)=256:=by decide
theorem fd32(x:Int):x.fdiv 4294967296=x / 4294967296:=fd (by decide)
theorem fd16(x:Int):x.fdiv 65536=x / 65536:=fd (by decide)
theorem fd8(x:Int):x.fdiv 256=x / 256:=fd (by decide)
theorem fn32:decide ((32:Int)<0)=false:=by decide
theorem fn16:decide ((16:Int)<0)=false:=by decide
theorem fn8:decide ((8:Int)<0)=false:=by decide
theorem eG0{a b:Nat}:(2:Int)^(a+b)=2^a*2^b:=Int.pow_add 2 a b
theorem len_ok{x q K:Int}{k:Nat}(hK:K=2^k)(hq:q=x / K)(h1:1<=q)(h2:q<=255)(hk:k<=56):∃ n:Nat,((k:Int)+((oz0 q.toNat:Nat):Int))=(n:Int)/\1<=n/\n<=64/\(2:Int)^(n-1)<=x/\x<2^n:=by
 have hKp:0<K:=by rw[hK];exact Int.pow_pos (by decide)
 have e:=Int.emod_add_mul_ediv x K
 have m1:=Int.emod_nonneg x (show K≠0 by omega)
 have m2:=Int.emod_lt_of_pos x hKp
 rw[<- hq]at e
 have key:∀ t:Nat,1<=t->t<=8->(2:Int)^(t-1)<=q->q<2^t->∃ n:Nat,((k:Int)+(t:Int))=(n:Int)/\1<=n/\n<=64/\(2:Int)^(n-1)<=x/\x<2^n:=by
  intro t t1 t8 l1 l2
  refine⟨k+t,by omega,by omega,by omega,?_,?_⟩
  ·rw[show k+t-1=(t-1)+k by omega,eG0,<-hK]
   have:(2:Int)^(t-1)*K<=q*K:=Int.mul_le_mul_of_nonneg_right l1 (by omega)
   have:q*K=K*q:=Int.mul_comm _ _
   omega
  ·rw[show k+t=t+k by omega,eG0,<-hK]
   have h3:(q+1)*K<=(2:Int)^t*K:=Int.mul_le_mul_of_nonneg_right (by omega) (by omega)
   rw[Int.add_mul,Int.one_mul]at h3
   have:q*K=K*q:=Int.mul_comm _ _
   omega
 rcases oO0 (i:=q.toNat) (by omega)with h | h | h | h | h | h | h | h | h
 ·omega
 all_goals
  rw[h.1]
  exact key _ (by decide) (by decide) (by simp;omega) (by simp;omega)
theorem tv0{x:Int}(h:1<=x/\x<=18446744073709551615):∃ n:Nat,bits_Len64 x=some (n:Int)/\1<=n/\n<=64/\(2:Int)^(n-1)<=x/\x<2^n:=by
 have fin:∀ (K q:Int) (k:Nat),K=2^k->q=x / K->1<=q->q<=255->k<=56->∃ n:Nat,b8 (kT0 qB0 (IntKind.u8.wrap q)) (fun v8=>some (IntKind.i64.wrap ((k:Int)+IntKind.i64.wrap v8)))=some (n:Int)/\1<=n/\n<=64/\(2:Int)^(n-1)<=x/\x<2^n:=by
  intro K q k hK hq q1 q2 hk
  obtain⟨n,hn,r⟩:=len_ok hK hq q1 q2 hk
  refine⟨n,?_,r⟩
  rw[wa0 ⟨by omega,q2⟩,tab_ok ⟨by omega,q2⟩,b9,w64 (n:=((oz0 q.toNat:Nat):Int)) (by omega) (by omega),hn,w64 (by omega) (by omega)]
 unfold bits_Len64
 simp only[b9,sh32,sh16,sh8,fd32,fd16,fd8,fn32,fn16,fn8,cond_false]
 by_cases c1:(4294967296:Int)<=x
 ·simp only[c1,decide_true,cond_true]
  by_cases c2:(65536:Int)<=x / 4294967296
  ·simp only[c2,decide_true,cond_true]
   by_cases c3:(256:Int)<=x / 4294967296 / 65536
   ·simp only[c3,decide_true,cond_true]
    exact fin 72057594037927936 _ 56 (by decide) (by omega) (by omega) (by omega) (by decide)
   ·simp only[c3,decide_false,cond_false]
    exact fin 281474976710656 _ 48 (by decide) (by omega) (by omega) (by omega) (by decide)
  ·simp only[c2,decide_false,cond_false]
   by_cases c3:(256:Int)<=x / 4294967296
   ·simp only[c3,decide_true,cond_true]
    exact fin 1099511627776 _ 40 (by decide) (by omega) (by omega) (by omega) (by decide)
   ·simp only[c3,decide_false,cond_false]
    exact fin 4294967296 _ 32 (by decide) (by omega) (by omega) (by omega) (by decide)
 ·simp only[c1,decide_false,cond_false]
  by_cases c2:(65536:Int)<=x
  ·simp only[c2,decide_true,cond_true]
   by_cases c3:(256:Int)<=x / 65536
   ·simp only[c3,decide_true,cond_true]
    exact fin 16777216 _ 24 (by decide) (by omega) (by omega) (by omega) (by decide)
   ·simp only[c3,decide_false,cond_false]
    exact fin 65536 _ 16 (by decide) (by omega) (by omega) (by omega) (by decide)
  ·simp only[c2,decide_false,cond_false]
   by_cases c3:(256:Int)<=x
   ·simp only[c3,decide_true,cond_true]
    exact fin 256 _ 8 (by decide) (by omega) (by omega) (by omega) (by decide)
   ·simp only[c3,decide_false,cond_false]
    exact fin 1 _ 0 (by decide) (by omega) (by omega) (by omega) (by decide)
end Go.Ab
namespace Go.Ab
open Go Go.Sort Go.Proofs Go.Shelf
set_option maxRecDepth 10000
theorem c9{α β:Type}{a:Option α}{f:α->Option β}{Q:β->Prop}(e:α)(h:a=some e)(hf:∀ v,v=e->∃ r,f v=some r/\Q r):∃ r,b8 a f=some r/\Q r:=by
  subst h
  exact hf e rfl
theorem gd{α:Type}{c:Bool}{e:α}(h:c=false):(bif c then none else some e)=some e:=by rw[h];rfl
theorem fy0{x:Int}(h:1<=x/\x<=18446744073709551615):∃ v,bits_LeadingZeros64 x=some v/\∃ n:Nat,v=64-(n:Int)/\1<=n/\n<=64/\(2:Int)^(n-1)<=x/\x<2^n:=by
  obtain⟨n,h1,h2,h3,h4⟩:=tv0 h
  unfold bits_LeadingZeros64
  simp only[h1,b9]
  exact⟨_,rfl,n,w64 (by omega) (by omega),h2,h3,h4⟩
theorem vY0{x v:Int}{n:Nat}(hv:v=64-(n:Int))(h1:1<=n)(h2:n<=64)(h3:(2:Int)^(n-1)<=x)(h4:x<2^n):9223372036854775808<=IntKind.u64.wrap (x*2^(min (IntKind.u64.wrap v).toNat IntKind.u64.bits)):=by
  have e:IntKind.u64.wrap v=v:=gd0 (by omega)
  have e2:min v.toNat IntKind.u64.bits=64-n:=by
    show min v.toNat 64=64-n
    omega
  rw[e,e2]
  have p:(0:Int)<=2^(64-n):=Int.le_of_lt (Int.pow_pos (by decide))
  have a1:(2:Int)^(n-1)*2^(64-n)<=x*2^(64-n):=Int.mul_le_mul_of_nonneg_right h3 p
  have a2:x*2^(64-n)<2^n*2^(64-n):=Int.mul_lt_mul_of_pos_right h4 (Int.pow_pos (by decide))
  rw[<- eG0,show n-1+(64-n)=63 by omega]at a1
  rw[<- eG0,show n+(64-n)=64 by omega]at a2
  have b1:(2:Int)^63=9223372036854775808:=by decide
  have b2:(2:Int)^64=18446744073709551616:=by decide
  rw[gd0 (by omega)]
  omega
theorem bc0{a b:Int}(ha:0<=a)(h:0<IntKind.u64.wrap (a*b)):1<=a:=by
  by_cases h1:0<a
  · omega
  · have:a=0:=by omega
    subst this
    rw[Int.zero_mul,gd0 (by omega)]at h
    omega
theorem tH0{x:Int×Int×Int}(g1:0<=x.1)(g2:x.1<x.2.2)(g3:x.2.2<=18446744073709551615):∃ r,bB0 x=some r/\0<=r.1:=by
 unfold bB0
 refine c9 _ rfl ?_;intro v3 h3
 cases c3:v3
 case false =>
  rw[cond_false]
  refine c9 _ rfl ?_;intro v4 h4
  cases c4:v4
  case false =>
   rw[cond_false]
   refine c9 _ rfl ?_;intro v5 h5
   cases c5:v5
   case false =>
    rw[cond_false]
    refine u6 (fy0 ⟨by omega,g3⟩) ?_;intro v6 h6
    refine c9 _ rfl ?_;intro v7 h7
    refine c9 _ (gd (by have:=wu (v6);rw[<- h7]at this;exact decide_eq_false (by omega))) ?_;intro v8 h8
    refine c9 _ (gd (by decide)) ?_;intro v9 h9
    obtain⟨n,hv,hn1,hn2,hn3,hn4⟩:=h6
    have hb8:=vY0 hv hn1 hn2 hn3 hn4
    rw[<- h7,<-h8]at hb8
    rw[sh32,fd32]at h9
    have hz9:v9≠0:=by omega
    clear hv hn1 hn2 hn3 hn4 hb8
    refine c9 _ rfl ?_;intro v10 h10
    refine c9 _ (gd (by have:=wu (v6);rw[<- h7]at this;exact decide_eq_false (by omega))) ?_;intro v11 h11
    refine c9 _ rfl ?_;intro v12 h12
    refine c9 _ (gd (by have:=wu (((64:Int)-v7));rw[<- h12]at this;exact decide_eq_false (by omega))) ?_;intro v13 h13
    refine c9 _ rfl ?_;intro v14 h14
    refine c9 _ (gd (by have:=wu (v6);rw[<- h7]at this;exact decide_eq_false (by omega))) ?_;intro v15 h15
    refine c9 _ (gd (by decide)) ?_;intro v16 h16
    refine c9 _ rfl ?_;intro v17 h17
    refine c9 _ (gd (decide_eq_false (by omega))) ?_;intro v18 h18
    refine c9 _ rfl ?_;intro v19 h19
    refine c9 _ rfl ?_;intro v20 h20
    refine L5 (fun y:Int×Int=>0<=y.1/\y.1<=18446744073709551615) (fun y=>y.1.toNat) _ ?_ (by have a:=wu ((v14.tdiv v9));rw[<- h18]at a;exact a) (by have a:=wu ((v14.tdiv v9));rw[<- h18]at a;show v18.toNat<_;omega);intro k21 x21 ix21 rk21
    refine c9 _ rfl ?_;intro v24 h24
    cases c24:v24
    case false =>
     rw[cond_false]
     refine c9 _ rfl ?_;intro v25 h25
     refine c9 _ rfl ?_;intro v26 h26
     refine c9 _ rfl ?_;intro v27 h27
     refine c9 _ rfl ?_;intro v28 h28
     cases c28:v28
     case false =>
      rw[cond_false]
      refine c9 _ rfl ?_;intro v29 h29
      refine c9 _ rfl ?_;intro v30 h30
      refine c9 _ rfl ?_;intro v31 h31
      refine c9 _ rfl ?_;intro v32 h32
      refine c9 _ (gd (decide_eq_false (by omega))) ?_;intro v33 h33
      refine c9 _ rfl ?_;intro v34 h34
      refine c9 _ rfl ?_;intro v35 h35
      refine L5 (fun y:Int×Int=>0<=y.2/\y.2<=18446744073709551615) (fun y=>y.2.toNat) _ ?_ (by have a:=wu ((v32.tdiv v9));rw[<- h33]at a;exact a) (by have a:=wu ((v32.tdiv v9));rw[<- h33]at a;show v33.toNat<_;omega);intro k36 x36 ix36 rk36
      refine c9 _ rfl ?_;intro v39 h39
      cases c39:v39
      case false =>
       rw[cond_false]
       refine c9 _ rfl ?_;intro v40 h40
       refine c9 _ rfl ?_;intro v41 h41
       refine c9 _ rfl ?_;intro v42 h42
       refine c9 _ rfl ?_;intro v43 h43
       cases c43:v43
       case false =>
        rw[cond_false]
        refine c9 _ rfl ?_;intro v44 h44
        refine c9 _ rfl ?_;intro v45 h45
        refine c9 _ rfl ?_;intro v46 h46
        refine c9 _ rfl ?_;intro v47 h47
        refine c9 _ rfl ?_;intro v48 h48
        refine c9 _ rfl ?_;intro v49 h49
        refine c9 _ (gd (by have:=wu (v6);rw[<- h7]at this;exact decide_eq_false (by omega))) ?_;intro v50 h50
        exact⟨_,rfl,by show 0<=v45;rw[h45];exact(wu _).1⟩
       case true =>
        rw[cond_true]
        refine c9 _ rfl ?_;intro v44 h44
        refine c9 _ rfl ?_;intro v45 h45
        refine c9 _ rfl ?_;intro v46 h46
        cases c46:v46
        case false =>
         rw[cond_false]
         have hq:1<=x36.2:=(bc0 ix36.1 (by rw[<- h40];have a:=of_decide_eq_true (h43.symm.trans c43);have b:=(wu ((v41+v17))).1;rw[<- h42]at b;omega));have e:v44=x36.2-1:=by rw[h44,gd0 ⟨by omega,by omega⟩]
         exact rk36 (v45,v44) ⟨by show 0<=v44;omega,by show v44<=_;omega⟩ (by show v44.toNat<x36.2.toNat;omega)
        case true =>
         rw[cond_true]
         refine c9 _ rfl ?_;intro v47 h47
         refine c9 _ rfl ?_;intro v48 h48
         refine c9 _ rfl ?_;intro v49 h49
         refine c9 _ rfl ?_;intro v50 h50
         refine c9 _ rfl ?_;intro v51 h51
         refine c9 _ rfl ?_;intro v52 h52
         refine c9 _ (gd (by have:=wu (v6);rw[<- h7]at this;exact decide_eq_false (by omega))) ?_;intro v53 h53
         exact⟨_,rfl,by show 0<=v48;rw[h48];exact(wu _).1⟩
      case true =>
       rw[cond_true]
       refine c9 _ rfl ?_;intro v40 h40
       refine c9 _ rfl ?_;intro v41 h41
       refine c9 _ rfl ?_;intro v42 h42
       cases c42:v42
       case false =>
        rw[cond_false]
        have hq:1<=x36.2:=(by have a:=of_decide_eq_true (h39.symm.trans c39);omega);have e:v40=x36.2-1:=by rw[h40,gd0 ⟨by omega,by omega⟩]
        exact rk36 (v41,v40) ⟨by show 0<=v40;omega,by show v40<=_;omega⟩ (by show v40.toNat<x36.2.toNat;omega)
       case true =>
        rw[cond_true]
        refine c9 _ rfl ?_;intro v43 h43
        refine c9 _ rfl ?_;intro v44 h44
        refine c9 _ rfl ?_;intro v45 h45
        refine c9 _ rfl ?_;intro v46 h46
        refine c9 _ rfl ?_;intro v47 h47
        refine c9 _ rfl ?_;intro v48 h48
        refine c9 _ (gd (by have:=wu (v6);rw[<- h7]at this;exact decide_eq_false (by omega))) ?_;intro v49 h49
        exact⟨_,rfl,by show 0<=v44;rw[h44];exact(wu _).1⟩
     case true =>
      rw[cond_true]
      refine c9 _ rfl ?_;intro v29 h29
      refine c9 _ rfl ?_;intro v30 h30
      refine c9 _ rfl ?_;intro v31 h31
      cases c31:v31
      case false =>
       rw[cond_false]
       have hq:1<=x21.1:=(bc0 ix21.1 (by rw[<- h25];have a:=of_decide_eq_true (h28.symm.trans c28);have b:=(wu ((v26+v16))).1;rw[<- h27]at b;omega));have e:v29=x21.1-1:=by rw[h29,gd0 ⟨by omega,by omega⟩]
       exact rk21 (v29,v30) ⟨by show 0<=v29;omega,by show v29<=_;omega⟩ (by show v29.toNat<x21.1.toNat;omega)
      case true =>
       rw[cond_true]
       refine c9 _ rfl ?_;intro v32 h32
       refine c9 _ rfl ?_;intro v33 h33
       refine c9 _ rfl ?_;intro v34 h34
       refine c9 _ rfl ?_;intro v35 h35
       refine c9 _ (gd (decide_eq_false (by omega))) ?_;intro v36 h36
       refine c9 _ rfl ?_;intro v37 h37
       refine c9 _ rfl ?_;intro v38 h38
       refine L5 (fun y:Int×Int=>0<=y.2/\y.2<=18446744073709551615) (fun y=>y.2.toNat) _ ?_ (by have a:=wu ((v35.tdiv v9));rw[<- h36]at a;exact a) (by have a:=wu ((v35.tdiv v9));rw[<- h36]at a;show v36.toNat<_;omega);intro k39 x39 ix39 rk39
       refine c9 _ rfl ?_;intro v42 h42
       cases c42:v42
       case false =>
        rw[cond_false]
        refine c9 _ rfl ?_;intro v43 h43
        refine c9 _ rfl ?_;intro v44 h44
        refine c9 _ rfl ?_;intro v45 h45
        refine c9 _ rfl ?_;intro v46 h46
        cases c46:v46
        case false =>
         rw[cond_false]
         refine c9 _ rfl ?_;intro v47 h47
         refine c9 _ rfl ?_;intro v48 h48
         refine c9 _ rfl ?_;intro v49 h49
         refine c9 _ rfl ?_;intro v50 h50
         refine c9 _ rfl ?_;intro v51 h51
         refine c9 _ rfl ?_;intro v52 h52
         refine c9 _ (gd (by have:=wu (v6);rw[<- h7]at this;exact decide_eq_false (by omega))) ?_;intro v53 h53
         exact⟨_,rfl,by show 0<=v48;rw[h48];exact(wu _).1⟩
        case true =>
         rw[cond_true]
         refine c9 _ rfl ?_;intro v47 h47
         refine c9 _ rfl ?_;intro v48 h48
         refine c9 _ rfl ?_;intro v49 h49
         cases c49:v49
         case false =>
          rw[cond_false]
          have hq:1<=x39.2:=(bc0 ix39.1 (by rw[<- h43];have a:=of_decide_eq_true (h46.symm.trans c46);have b:=(wu ((v44+v17))).1;rw[<- h45]at b;omega));have e:v47=x39.2-1:=by rw[h47,gd0 ⟨by omega,by omega⟩]
          exact rk39 (v48,v47) ⟨by show 0<=v47;omega,by show v47<=_;omega⟩ (by show v47.toNat<x39.2.toNat;omega)
         case true =>
          rw[cond_true]
          refine c9 _ rfl ?_;intro v50 h50
          refine c9 _ rfl ?_;intro v51 h51
          refine c9 _ rfl ?_;intro v52 h52
          refine c9 _ rfl ?_;intro v53 h53
          refine c9 _ rfl ?_;intro v54 h54
          refine c9 _ rfl ?_;intro v55 h55
          refine c9 _ (gd (by have:=wu (v6);rw[<- h7]at this;exact decide_eq_false (by omega))) ?_;intro v56 h56
          exact⟨_,rfl,by show 0<=v51;rw[h51];exact(wu _).1⟩
       case true =>
        rw[cond_true]
        refine c9 _ rfl ?_;intro v43 h43
        refine c9 _ rfl ?_;intro v44 h44
        refine c9 _ rfl ?_;intro v45 h45
        cases c45:v45
        case false =>
         rw[cond_false]
         have hq:1<=x39.2:=(by have a:=of_decide_eq_true (h42.symm.trans c42);omega);have e:v43=x39.2-1:=by rw[h43,gd0 ⟨by omega,by omega⟩]
         exact rk39 (v44,v43) ⟨by show 0<=v43;omega,by show v43<=_;omega⟩ (by show v43.toNat<x39.2.toNat;omega)
        case true =>
         rw[cond_true]
         refine c9 _ rfl ?_;intro v46 h46
         refine c9 _ rfl ?_;intro v47 h47
         refine c9 _ rfl ?_;intro v48 h48
         refine c9 _ rfl ?_;intro v49 h49
         refine c9 _ rfl ?_;intro v50 h50
         refine c9 _ rfl ?_;intro v51 h51
         refine c9 _ (gd (by have:=wu (v6);rw[<- h7]at this;exact decide_eq_false (by omega))) ?_;intro v52 h52
         exact⟨_,rfl,by show 0<=v47;rw[h47];exact(wu _).1⟩
    case true =>
     rw[cond_true]
     refine c9 _ rfl ?_;intro v25 h25
     refine c9 _ rfl ?_;intro v26 h26
     refine c9 _ rfl ?_;intro v27 h27
     cases c27:v27
     case false =>
      rw[cond_false]
      have hq:1<=x21.1:=(by have a:=of_decide_eq_true (h24.symm.trans c24);omega);have e:v25=x21.1-1:=by rw[h25,gd0 ⟨by omega,by omega⟩]
      exact rk21 (v25,v26) ⟨by show 0<=v25;omega,by show v25<=_;omega⟩ (by show v25.toNat<x21.1.toNat;omega)
     case true =>
      rw[cond_true]
      refine c9 _ rfl ?_;intro v28 h28
      refine c9 _ rfl ?_;intro v29 h29
      refine c9 _ rfl ?_;intro v30 h30
      refine c9 _ rfl ?_;intro v31 h31
      refine c9 _ (gd (decide_eq_false (by omega))) ?_;intro v32 h32
      refine c9 _ rfl ?_;intro v33 h33
      refine c9 _ rfl ?_;intro v34 h34
      refine L5 (fun y:Int×Int=>0<=y.2/\y.2<=18446744073709551615) (fun y=>y.2.toNat) _ ?_ (by have a:=wu ((v31.tdiv v9));rw[<- h32]at a;exact a) (by have a:=wu ((v31.tdiv v9));rw[<- h32]at a;show v32.toNat<_;omega);intro k35 x35 ix35 rk35
      refine c9 _ rfl ?_;intro v38 h38
      cases c38:v38
      case false =>
       rw[cond_false]
       refine c9 _ rfl ?_;intro v39 h39
       refine c9 _ rfl ?_;intro v40 h40
       refine c9 _ rfl ?_;intro v41 h41
       refine c9 _ rfl ?_;intro v42 h42
       cases c42:v42
       case false =>
        rw[cond_false]
        refine c9 _ rfl ?_;intro v43 h43
        refine c9 _ rfl ?_;intro v44 h44
        refine c9 _ rfl ?_;intro v45 h45
        refine c9 _ rfl ?_;intro v46 h46
        refine c9 _ rfl ?_;intro v47 h47
        refine c9 _ rfl ?_;intro v48 h48
        refine c9 _ (gd (by have:=wu (v6);rw[<- h7]at this;exact decide_eq_false (by omega))) ?_;intro v49 h49
        exact⟨_,rfl,by show 0<=v44;rw[h44];exact(wu _).1⟩
       case true =>
        rw[cond_true]
        refine c9 _ rfl ?_;intro v43 h43
        refine c9 _ rfl ?_;intro v44 h44
        refine c9 _ rfl ?_;intro v45 h45
        cases c45:v45
        case false =>
         rw[cond_false]
         have hq:1<=x35.2:=(bc0 ix35.1 (by rw[<- h39];have a:=of_decide_eq_true (h42.symm.trans c42);have b:=(wu ((v40+v17))).1;rw[<- h41]at b;omega));have e:v43=x35.2-1:=by rw[h43,gd0 ⟨by omega,by omega⟩]
         exact rk35 (v44,v43) ⟨by show 0<=v43;omega,by show v43<=_;omega⟩ (by show v43.toNat<x35.2.toNat;omega)
        case true =>
         rw[cond_true]
         refine c9 _ rfl ?_;intro v46 h46
         refine c9 _ rfl ?_;intro v47 h47
         refine c9 _ rfl ?_;intro v48 h48
         refine c9 _ rfl ?_;intro v49 h49
         refine c9 _ rfl ?_;intro v50 h50
         refine c9 _ rfl ?_;intro v51 h51
         refine c9 _ (gd (by have:=wu (v6);rw[<- h7]at this;exact decide_eq_false (by omega))) ?_;intro v52 h52
         exact⟨_,rfl,by show 0<=v47;rw[h47];exact(wu _).1⟩
      case true =>
       rw[cond_true]
       refine c9 _ rfl ?_;intro v39 h39
       refine c9 _ rfl ?_;intro v40 h40
       refine c9 _ rfl ?_;intro v41 h41
       cases c41:v41
       case false =>
        rw[cond_false]
        have hq:1<=x35.2:=(by have a:=of_decide_eq_true (h38.symm.trans c38);omega);have e:v39=x35.2-1:=by rw[h39,gd0 ⟨by omega,by omega⟩]
        exact rk35 (v40,v39) ⟨by show 0<=v39;omega,by show v39<=_;omega⟩ (by show v39.toNat<x35.2.toNat;omega)
       case true =>
        rw[cond_true]
        refine c9 _ rfl ?_;intro v42 h42
        refine c9 _ rfl ?_;intro v43 h43
        refine c9 _ rfl ?_;intro v44 h44
        refine c9 _ rfl ?_;intro v45 h45
        refine c9 _ rfl ?_;intro v46 h46
        refine c9 _ rfl ?_;intro v47 h47
        refine c9 _ (gd (by have:=wu (v6);rw[<- h7]at this;exact decide_eq_false (by omega))) ?_;intro v48 h48
        exact⟨_,rfl,by show 0<=v43;rw[h43];exact(wu _).1⟩
   case true =>
    rw[cond_true]
    refine c9 _ (gd (decide_eq_false (by omega))) ?_;intro v6 h6
    refine c9 _ (gd (decide_eq_false (by omega))) ?_;intro v7 h7
    exact⟨_,rfl,by show 0<=v6;rw[h6];exact(wu _).1⟩
  case true =>
   rw[cond_true]
   have:=of_decide_eq_true (h4.symm.trans c4);omega
 case true =>
  rw[cond_true]
  have:=of_decide_eq_true (h3.symm.trans c3);omega
end Go.Ab
namespace Go.Ab
open Go Go.Sort Go.Proofs Go.Shelf
set_option maxRecDepth 10000
theorem fb0(x:Int):∃ v,W5 x=some v/\0<=v/\v<=18446744073709551615/\(-9223372036854775808<=x->x<=9223372036854775807->v=(x.natAbs:Int)):=by
  unfold W5
  simp only[b9]
  by_cases h:x<0
  · simp only[h,decide_true,cond_true]
    refine⟨_,rfl,(wu _).1,(wu _).2,fun h1 h2=>?_⟩
    simp only[IntKind.wrap,IntKind.bits,IntKind.signed]
    simp
    omega
  · simp only[h,decide_false,cond_false]
    refine⟨_,rfl,(wu _).1,(wu _).2,fun h1 h2=>?_⟩
    rw[gd0 (by omega)]
    omega
theorem lx0{n:Int}(h:0<=n):∃ v,M5 (n,false)=some v/\0<=v.1/\v.1<=9223372036854775807/\(n<=9223372036854775807->v=(n,true)):=by
  unfold M5
  simp only[b9,cond_false]
  by_cases h1:9223372036854775807<n
  · simp only[h1,decide_true,cond_true]
    exact⟨_,rfl,by simp,by simp,fun h=>by omega⟩
  · simp only[h1,decide_false,cond_false]
    rw[w64 (by omega) (by omega)]
    exact⟨_,rfl,by simpa using h,by simp only;omega,fun _=>rfl⟩
theorem jc0(n:Int):∃ v,M5 (n,true)=some v/\True:=by
  unfold M5
  simp only[b9,cond_true]
  by_cases h1:9223372036854775808<n
  · simp only[h1,decide_true,cond_true];exact⟨_,rfl,trivial⟩
  · simp only[h1,decide_false,cond_false];exact⟨_,rfl,trivial⟩
theorem pl0(a b:Nat)(hb:b<=18446744073709551615):aE0 ((a:Int),(b:Int))=some ((Nat.gcd a b:Nat):Int):=by
  unfold aE0
  simp only[b9]
  refine(hS0 (fun x:Int×Int=>∃ a b:Nat,x=((a:Int),(b:Int))/\b<=18446744073709551615) (fun x=>x.2.toNat) (fun x=>some ((Nat.gcd x.1.toNat x.2.toNat:Nat):Int)) ?_ ⟨a,b,rfl,hb⟩ (by show ((b:Int)).toNat<_;omega)).trans (by simp)
  rintro rec x ⟨a,b,rfl,hb⟩ hr
  by_cases h0:b=0
  · subst h0
    simp
  · have e:decide ((b:Int)=0)=false:=decide_eq_false (by omega)
    have em:(a:Int).tmod (b:Int)=((a%b:Nat):Int):=by rw[Int.tmod_eq_emod_of_nonneg (by omega)];rfl
    have hlt:a%b<b:=Nat.mod_lt _ (by omega)
    simp only[e,Bool.not_false,cond_true,cond_false,b9,em]
    rw[hr ((b:Int),((a%b:Nat):Int)) ⟨b,a%b,rfl,by omega⟩ (by simp;exact hlt)]
    simp only[Int.toNat_natCast]
    rw[Nat.gcd_comm b (a%b),<-Nat.gcd_rec,Nat.gcd_comm]
theorem Gcd_ex{a b:Int}(h1:-9223372036854775808<=a)(h2:a<=9223372036854775807)(h3:1<=b)(h4:b<=9223372036854775807):∃ v,hB0 (a,b)=some v/\1<=v/\v<=b:=by
  unfold hB0
  obtain⟨u,e1,_,_,e2⟩:=fb0 a
  obtain⟨w,e3,_,_,e4⟩:=fb0 b
  have e2:=e2 h1 h2
  have e4:=e4 (by omega) h4
  have hg:Nat.gcd a.natAbs b.natAbs<=b.natAbs:=Nat.gcd_le_right _ (by omega)
  have hg2:0<Nat.gcd a.natAbs b.natAbs:=Nat.gcd_pos_of_pos_right _ (by omega)
  obtain⟨s,e5,_,_,e6⟩:=lx0 (n:=((Nat.gcd a.natAbs b.natAbs:Nat):Int)) (by omega)
  simp only[e1,e3,b9,e2,e4,pl0 a.natAbs b.natAbs (by omega),e5,e6 (by omega)]
  exact⟨_,rfl,by omega,by omega⟩
theorem mr0(n:Int):-9223372036854775808<=IntKind.i64.wrap n/\IntKind.i64.wrap n<=9223372036854775807:=by rw[IntKind.wrap_i64];omega
theorem tK0{a b:Int}(h1:0<=a)(h2:0<=b):∃ v,bits_Add64 (a,b,0)=some v/\0<=v.1:=by
  unfold bits_Add64
  simp only[h1,h2,decide_true,Bool.true_and,Bool.true_or,cond_true]
  exact⟨_,rfl,by simp only;omega⟩
theorem nM0(x:Int×Int):∃ r,ap0 x=some r/\0<=r.1/\0<=r.2:=by
 unfold ap0
 refine c9 _ rfl ?_;intro v2 h2
 refine c9 _ (gd (by decide)) ?_;intro v3 h3
 refine c9 _ rfl ?_;intro v4 h4
 refine c9 _ (gd (by decide)) ?_;intro v5 h5
 refine c9 _ rfl ?_;intro v6 h6
 refine c9 _ rfl ?_;intro v7 h7
 refine c9 _ (gd (by decide)) ?_;intro v8 h8
 refine c9 _ rfl ?_;intro v9 h9
 refine c9 _ rfl ?_;intro v10 h10
 refine c9 _ (gd (by decide)) ?_;intro v11 h11
 refine c9 _ rfl ?_;intro v12 h12
 refine c9 _ rfl ?_;intro v13 h13
 refine c9 _ rfl ?_;intro v14 h14
 refine c9 _ rfl ?_;intro v15 h15
 refine c9 _ (gd (by decide)) ?_;intro v16 h16
 refine c9 _ rfl ?_;intro v17 h17
 refine c9 _ rfl ?_;intro v18 h18
 exact⟨_,rfl,by show 0<=v17;rw[h17];exact(wu _).1,by show 0<=v18;rw[h18];exact(wu _).1⟩
theorem sj0(t c:Int)(hc:1<=c)(hc2:c<=9223372036854775807):∃ r,bN0 (t,t,c)=some r/\0<=r.1/\r.1<=9223372036854775807:=by
 unfold bN0
 dsimp only
 refine c9 _ rfl ?_;intro v3 h3
 cases c3:v3
 case false =>
  rw[cond_false]
  refine c9 _ rfl ?_;intro v4 h4
  refine c9 _ rfl ?_;intro v5 h5
  refine c9 _ rfl ?_;intro v6 h6
  refine c9 _ rfl ?_;intro v7 h7
  refine c9 _ rfl ?_;intro v8 h8
  refine u6 (fb0 _) ?_;intro v9 h9
  refine u6 (fb0 _) ?_;intro v10 h10
  refine u6 (nM0 _) ?_;intro v11 h11
  refine u6 (fb0 _) ?_;intro v13 h13
  refine c9 _ rfl ?_;intro v14 h14
  cases c14:v14
  case false =>
   rw[cond_false]
   refine u6 (fb0 _) ?_;intro v15 h15
   refine u6 (tH0 h11.1 (by have:=of_decide_eq_false (h14.symm.trans c14);have a:=h13.2.2 (by omega) hc2;have b:=h15.2.2 (by omega) hc2;simp only;omega) h15.2.1) ?_;intro v16 h16
   cases c8:v8
   case false =>
    rw[cond_false]
    refine u6 (lx0 h16) ?_;intro v18 h18
    refine c9 _ rfl ?_;intro v20 h20
    cases c20:v20
    case false =>
     rw[cond_false]
     exact⟨_,rfl,h18.1,h18.2.1⟩
    case true =>
     rw[cond_true]
     exact⟨_,rfl,by simp,by simp⟩
   case true =>
    rw[cond_true]
    refine c9 _ rfl ?_;intro v18 h18
    cases c18:v18
    case false =>
     rw[cond_false]
     refine u6 (jc0 _) ?_;intro v19 h19
     refine c9 _ rfl ?_;intro v21 h21
     cases c21:v21
     case false =>
      rw[cond_false]
      exact absurd (h8.symm.trans c8) (by simp[h6,h7,h4,h5];omega)
     case true =>
      rw[cond_true]
      exact⟨_,rfl,by simp,by simp⟩
    case true =>
     rw[cond_true]
     refine c9 _ rfl ?_;intro v19 h19
     cases c19:v19
     case false =>
      rw[cond_false]
      refine c9 _ rfl ?_;intro v20 h20
      refine u6 (jc0 _) ?_;intro v21 h21
      refine c9 _ rfl ?_;intro v23 h23
      cases c23:v23
      case false =>
       rw[cond_false]
       exact absurd (h8.symm.trans c8) (by simp[h6,h7,h4,h5];omega)
      case true =>
       rw[cond_true]
       exact⟨_,rfl,by simp,by simp⟩
     case true =>
      rw[cond_true]
      exact⟨_,rfl,by simp,by simp⟩
  case true =>
   rw[cond_true]
   exact⟨_,rfl,by simp,by simp⟩
 case true =>
  rw[cond_true]
  exact⟨_,rfl,by simp,by simp⟩
theorem sq_nonneg(x:Int):0<=x*x:=by
  rcases Int.le_total 0 x with h | h
  · exact Int.mul_nonneg h h
  · exact Int.mul_nonneg_of_nonpos_of_nonpos h h
theorem hh0{a b:Pt}(ha:B7 a=true)(hb:B7 b=true):J0 (a,b)=some ((b.1-a.1)*(b.1-a.1)+(b.2-a.2)*(b.2-a.2))/\0<=(b.1-a.1)*(b.1-a.1)+(b.2-a.2)*(b.2-a.2)/\(b.1-a.1)*(b.1-a.1)+(b.2-a.2)*(b.2-a.2)<=35184372088832:=by
  rw[cT0]at ha hb
  obtain⟨m1,m2⟩:=cY0 (a:=b.1-a.1) (b:=b.1-a.1) (m:=4194304) (n:=4194304) (by omega) (by omega) (by omega) (by omega)
  obtain⟨m3,m4⟩:=cY0 (a:=b.2-a.2) (b:=b.2-a.2) (m:=4194304) (n:=4194304) (by omega) (by omega) (by omega) (by omega)
  have p1:0<=(b.1-a.1)*(b.1-a.1):=sq_nonneg _
  have p2:0<=(b.2-a.2)*(b.2-a.2):=sq_nonneg _
  unfold J0
  simp only[b9]
  rw[w64 (n:=b.1-a.1) (by omega) (by omega),w64 (n:=b.2-a.2) (by omega) (by omega),w64 (n:=(b.1-a.1)*(b.1-a.1)) (by omega) (by omega),w64 (n:=(b.2-a.2)*(b.2-a.2)) (by omega) (by omega),w64 (by omega) (by omega)]
  exact⟨rfl,by omega,by omega⟩
theorem nF0{n g:Int}(h1:1<=g)(h2:g<=n)(h3:n<=9223372036854775807):1<=IntKind.i64.wrap (n.tdiv g)/\IntKind.i64.wrap (n.tdiv g)<=9223372036854775807:=by
  rw[IntWalk.i64_quo n g ⟨by omega,h3,h1⟩]
  have a:1<=n / g:=(Int.le_ediv_iff_mul_le (by omega)).2 (by omega)
  have b:n / g<=n:=Int.ediv_le_self _ (by omega)
  omega
theorem wQ0{a b p:Pt}(ha:B7 a=true)(hb:B7 b=true)(hp:B7 p=true):∃ f,Y2 (a,b,p)=some f/\0<=f.1/\f.1<=9223372036854775807/\1<=f.2/\f.2<=9223372036854775807:=by
 unfold Y2
 dsimp only
 obtain⟨s1,s2,s3⟩:=hh0 ha hb
 obtain⟨s4,s5,s6⟩:=hh0 ha hp
 obtain⟨s7,s8,s9⟩:=hh0 hb hp
 have tw:=aj0 a b p ha hb hp
 have nr:=tO0 a b p
 rw[ha,hb,hp]at nr
 refine c9 _ rfl ?_;intro v6 h6
 refine u6 (show ∃ v,L7 _=some v/\v=true from⟨_,nr,rfl⟩) ?_;intro v6 h6
 refine c9 _ rfl ?_;intro v7 h7
 cases c7:v7
 case false =>
  rw[cond_false]
  refine u6 (show ∃ v,J0 _=some v/\v=(b.1-a.1)*(b.1-a.1)+(b.2-a.2)*(b.2-a.2)from⟨_,s1,rfl⟩) ?_;intro v8 h8
  refine c9 _ rfl ?_;intro v9 h9
  refine c9 _ rfl ?_;intro v10 h10
  refine c9 _ rfl ?_;intro v11 h11
  refine c9 _ rfl ?_;intro v12 h12
  refine c9 _ rfl ?_;intro v13 h13
  refine c9 _ rfl ?_;intro v14 h14
  refine c9 _ rfl ?_;intro v15 h15
  refine c9 _ rfl ?_;intro v16 h16
  cases c16:v16
  case false =>
   rw[cond_false]
   refine c9 _ rfl ?_;intro v17 h17
   skip
   cases c17:v17
   case false =>
    rw[cond_false]
    have k1:=of_decide_eq_false (h16.symm.trans c16)
    have k2:=of_decide_eq_false (h17.symm.trans c17)
    refine u6 (show ∃ v,M3 _=some v/\v=cx0 a b p from⟨_,tw,rfl⟩) ?_;intro v18 h18
    refine u6 (sj0 _ _ (by omega) (by omega)) ?_;intro v19 h19
    refine c9 _ rfl ?_;intro v21 h21
    refine c9 _ rfl ?_;intro v22 h22
    refine c9 _ rfl ?_;intro v23 h23
    refine u6 (Gcd_ex (by have:=mr0 (v21-v22);omega) (by have:=mr0 (v21-v22);omega) (by omega) (by omega)) ?_;intro v24 h24
    refine c9 _ rfl ?_;intro v25 h25
    refine c9 _ (gd (decide_eq_false (by omega))) ?_;intro v26 h26
    refine c9 _ rfl ?_;intro v27 h27
    refine u6 (nM0 _) ?_;intro v28 h28
    refine c9 _ (gd (decide_eq_false (by omega))) ?_;intro v30 h30
    refine c9 _ rfl ?_;intro v31 h31
    refine u6 (tK0 h28.2 (by have:=(wu v30).1;omega)) ?_;intro v32 h32
    refine c9 _ rfl ?_;intro v34 h34
    refine c9 _ rfl ?_;intro v35 h35
    cases c35:v35
    case false =>
     rw[cond_false]
     refine c9 _ rfl ?_;intro v36 h36
     cases c36:v36
     case false =>
      rw[cond_false]
      refine c9 _ rfl ?_;intro v37 h37
      refine c9 _ (gd (decide_eq_false (by omega))) ?_;intro v38 h38
      exact⟨_,rfl,by have:=of_decide_eq_false (h36.symm.trans c36);show 0<=v37;rw[h37,w64 (by omega) (by omega)];exact h32,by show v37<=_;have:=mr0 v32.1;omega,by show 1<=v38;rw[h38];exact(nF0 h24.1 h24.2 (by omega)).1,by show v38<=_;rw[h38];exact(nF0 h24.1 h24.2 (by omega)).2⟩
     case true =>
      rw[cond_true]
      exact⟨_,rfl,h19.1,h19.2,by simp,by simp⟩
    case true =>
     rw[cond_true]
     exact⟨_,rfl,h19.1,h19.2,by simp,by simp⟩
   case true =>
    rw[cond_true]
    refine u6 (show ∃ v,J0 _=some v/\v=(p.1-b.1)*(p.1-b.1)+(p.2-b.2)*(p.2-b.2)from⟨_,s7,rfl⟩) ?_;intro v18 h18
    exact⟨_,rfl,by simp only;omega,by simp only;omega,by simp,by simp⟩
  case true =>
   rw[cond_true]
   refine u6 (show ∃ v,J0 _=some v/\v=(p.1-a.1)*(p.1-a.1)+(p.2-a.2)*(p.2-a.2)from⟨_,s4,rfl⟩) ?_;intro v17 h17
   skip
   exact⟨_,rfl,by simp only;omega,by simp only;omega,by simp,by simp⟩
 case true =>
  rw[cond_true]
  rw[h7,h6]at c7;cases c7
theorem sS0{n d:Int}(h1:0<=n)(h2:n<=9223372036854775807)(h3:1<=d):bL0 (n,d)=some (n / d,0):=by
  have hc:cN0 (n,d)=some 0:=by
    unfold cN0
    simp only[b9,show ¬ d=0 by omega,show ¬ n=-9223372036854775808 by omega,decide_false,cond_false]
  have h0:decide (d=0)=false:=decide_eq_false (by omega)
  have em:n.tmod d=n%d:=Int.tmod_eq_emod_of_nonneg h1
  have r1:¬ n%d<0:=by have:=Int.emod_nonneg n (show d≠0 by omega);omega
  have r2:¬ d<0:=by omega
  unfold bL0
  simp only[hc,b9,decide_true,Bool.not_true,cond_false,h0,IntWalk.i64_quo n d ⟨h1,h2,h3⟩,em,r1,r2,decide_false,beq_self_eq_true,Bool.cond_self]
noncomputable def mJ0(a b p:Pt):Int:=((Y2 (a,b,p)).getD (0,0)).1 / ((Y2 (a,b,p)).getD (0,0)).2
theorem nL0{a b p:Pt}(ha:B7 a=true)(hb:B7 b=true)(hp:B7 p=true):∃ f,Y2 (a,b,p)=some f/\bL0 f=some (mJ0 a b p,0)/\0<=mJ0 a b p/\mJ0 a b p<=9223372036854775807:=by
  obtain⟨f,e,f1,f2,f3,f4⟩:=wQ0 ha hb hp
  have ed:mJ0 a b p=f.1 / f.2:=by unfold mJ0;rw[e];rfl
  refine⟨f,e,?_,?_,?_⟩
  · rw[ed];exact sS0 (n:=f.1) (d:=f.2) f1 f2 f3
  · rw[ed];exact Int.ediv_nonneg f1 (by omega)
  · rw[ed];have:=Int.ediv_le_self f.2 f1;omega
end Go.Ab
namespace Go.Ab
open Go Go.Sort Go.Proofs Go.Shelf
set_option maxRecDepth 10000
theorem dy0{α:Type}{xs:List α}{i:Int}(h0:0<=i)(h1:i<(xs.length:Int)):∃ v,nth xs i=some v/\v∈xs:=by
  have hlt:i.toNat<xs.length:=by omega
  refine⟨xs[i.toNat],?_,List.getElem_mem hlt⟩
  rw[mP0 h0]
  exact List.getElem?_eq_getElem hlt
theorem wF0(x:(Int×Int×Int×Int)×(Int×Int)):∃ v,dQ0 x=some v/\True:=by
 unfold dQ0
 refine c9 _ rfl ?_;intro v6 h6
 cases c6:v6
 case false =>
  rw[cond_false]
  exact⟨_,rfl,trivial⟩
 case true =>
  rw[cond_true]
  refine c9 _ rfl ?_;intro v7 h7
  cases c7:v7
  case false =>
   rw[cond_false]
   exact⟨_,rfl,trivial⟩
  case true =>
   rw[cond_true]
   refine c9 _ rfl ?_;intro v8 h8
   cases c8:v8
   case false =>
    rw[cond_false]
    exact⟨_,rfl,trivial⟩
   case true =>
    rw[cond_true]
    refine c9 _ rfl ?_;intro v9 h9
    exact⟨_,rfl,trivial⟩
theorem jT0(x:Int×Int):∃ v,I9 x=some v/\True:=by
 unfold I9
 refine u6 (wF0 _) ?_;intro v2 h2
 exact⟨_,rfl,trivial⟩
theorem kS0(x:Ar×Ar):∃ v,D2 x=some v/\True:=by
 unfold D2
 refine c9 _ rfl ?_;intro v12 h12
 cases c12:v12
 case false =>
  rw[cond_false]
  refine c9 _ rfl ?_;intro v13 h13
  cases c13:v13
  case false =>
   rw[cond_false]
   refine c9 _ rfl ?_;intro v14 h14
   cases c14:v14
   case false =>
    rw[cond_false]
    exact⟨_,rfl,trivial⟩
   case true =>
    rw[cond_true]
    refine c9 _ rfl ?_;intro v15 h15
    refine c9 _ rfl ?_;intro v16 h16
    cases c16:v16
    case false =>
     rw[cond_false]
     exact⟨_,rfl,trivial⟩
    case true =>
     rw[cond_true]
     exact⟨_,rfl,trivial⟩
  case true =>
   rw[cond_true]
   refine c9 _ rfl ?_;intro v14 h14
   refine c9 _ rfl ?_;intro v15 h15
   cases c15:v15
   case false =>
    rw[cond_false]
    exact⟨_,rfl,trivial⟩
   case true =>
    rw[cond_true]
    refine c9 _ rfl ?_;intro v16 h16
    refine c9 _ rfl ?_;intro v17 h17
    cases c17:v17
    case false =>
     rw[cond_false]
     exact⟨_,rfl,trivial⟩
    case true =>
     rw[cond_true]
     exact⟨_,rfl,trivial⟩
 case true =>
  rw[cond_true]
  refine c9 _ rfl ?_;intro v13 h13
  cases c13:v13
  case false =>
   rw[cond_false]
   refine c9 _ rfl ?_;intro v14 h14
   cases c14:v14
   case false =>
    rw[cond_false]
    refine c9 _ rfl ?_;intro v15 h15
    cases c15:v15
    case false =>
     rw[cond_false]
     exact⟨_,rfl,trivial⟩
    case true =>
     rw[cond_true]
     refine c9 _ rfl ?_;intro v16 h16
     refine c9 _ rfl ?_;intro v17 h17
     cases c17:v17
     case false =>
      rw[cond_false]
      exact⟨_,rfl,trivial⟩
     case true =>
      rw[cond_true]
      exact⟨_,rfl,trivial⟩
   case true =>
    rw[cond_true]
    refine c9 _ rfl ?_;intro v15 h15
    refine c9 _ rfl ?_;intro v16 h16
    cases c16:v16
    case false =>
     rw[cond_false]
     exact⟨_,rfl,trivial⟩
    case true =>
     rw[cond_true]
     refine c9 _ rfl ?_;intro v17 h17
     refine c9 _ rfl ?_;intro v18 h18
     cases c18:v18
     case false =>
      rw[cond_false]
      exact⟨_,rfl,trivial⟩
     case true =>
      rw[cond_true]
      exact⟨_,rfl,trivial⟩
  case true =>
   rw[cond_true]
   refine c9 _ rfl ?_;intro v14 h14
   cases c14:v14
   case false =>
    rw[cond_false]
    exact⟨_,rfl,trivial⟩
   case true =>
    rw[cond_true]
    refine c9 _ rfl ?_;intro v15 h15
    refine c9 _ rfl ?_;intro v16 h16
    cases c16:v16
    case false =>
     rw[cond_false]
     exact⟨_,rfl,trivial⟩
    case true =>
     rw[cond_true]
     exact⟨_,rfl,trivial⟩
theorem in0(ns:List Nd)(ars:List Ar)(fs:List Int)(a:Ar)(h:ars.length<=1000000):∃ v,F8 ((ns,ars,fs),a)=some v/\True:=by
  unfold F8
  simp only[b9]
  unfold w7
  simp only[b9]
  rw[O4 ars h _ (fun b=>(D2 (b,a)).getD false) (fun b _=>by
    obtain⟨v,hv,_⟩:=kS0 (b,a)
    rw[show D2 ((b.1,b.2.1,b.2.2.1,b.2.2.2.1,b.2.2.2.2.1,b.2.2.2.2.2),(a.1,a.2.1,a.2.2.1,a.2.2.2.1,a.2.2.2.2.1,a.2.2.2.2.2))=some v from hv]
    rfl)]
  exact⟨_,rfl,trivial⟩
theorem eo0{ns:List Nd}{ars:List Ar}(hn:ns.length<=1000000)(ha:ars.length<=1000000)(hv:∀ a∈ars,a.2.2.2.1.length<=1000000)(v11 v14 v17:Pt):∃ v,oT0 ns ars v11 v14 v17=some v/\True:=by
 unfold oT0
 refine c9 _ rfl ?_;intro v31 h31
 refine c9 _ rfl ?_;intro v32 h32
 refine c9 _ rfl ?_;intro v33 h33
 refine c9 _ rfl ?_;intro v34 h34
 refine u6 (show ∃ v,u7 _=some v/\True from⟨_,I5 _ _ _,trivial⟩) ?_;intro v35 h35
 refine c9 _ rfl ?_;intro v36 h36
 refine L5 (fun y:Int=>0<=y) (fun y:Int=>(v36-y).toNat) _ ?_ (Int.le_refl 0) (by show (v36-0).toNat<_;omega);intro k37 x37 ix37 rk37
 refine c9 _ rfl ?_;intro v39 h39
 cases c39:v39
 case false =>
  rw[cond_false]
  refine c9 _ rfl ?_;intro v40 h40
  refine L5 (fun y:Int=>0<=y) (fun y:Int=>(v40-y).toNat) _ ?_ (Int.le_refl 0) (by show (v40-0).toNat<_;omega);intro k41 x41 ix41 rk41
  refine c9 _ rfl ?_;intro v43 h43
  cases c43:v43
  case false =>
   rw[cond_false]
   exact⟨_,rfl,trivial⟩
  case true =>
   rw[cond_true]
   refine u6 (dy0 ix41 (by have:=of_decide_eq_true (h43.symm.trans c43);rw[h40]at this;exact this)) ?_;intro v44 h44
   have hvia:=hv v44 h44
   refine c9 _ rfl ?_;intro v50 h50
   refine L5 (fun y:Int=>0<=y) (fun y:Int=>(v50-y).toNat) _ ?_ (Int.le_refl 0) (by show (v50-0).toNat<_;omega);intro k51 x51 ix51 rk51
   refine c9 _ rfl ?_;intro v53 h53
   cases c53:v53
   case false =>
    rw[cond_false]
    refine c9 _ rfl ?_;intro v54 h54
    have q:=of_decide_eq_true (h43.symm.trans c43);have e:v54=x41+1:=by rw[h54,w64 (by omega) (by omega)]
    exact rk41 v54 (by show (0:Int)<=v54;omega) (by show (v40-v54).toNat<(v40-x41).toNat;omega)
   case true =>
    rw[cond_true]
    refine u6 (dy0 ix51 (by have:=of_decide_eq_true (h53.symm.trans c53);rw[h50]at this;exact this)) ?_;intro v54 h54
    refine c9 _ rfl ?_;intro v56 h56
    cases c56:v56
    case false =>
     rw[cond_false]
     refine c9 _ rfl ?_;intro v57 h57
     have q:=of_decide_eq_true (h53.symm.trans c53);have e:v57=x51+1:=by rw[h57,w64 (by omega) (by omega)]
     exact rk51 v57 (by show (0:Int)<=v57;omega) (by show (v50-v57).toNat<(v50-x51).toNat;omega)
    case true =>
     rw[cond_true]
     refine c9 _ rfl ?_;intro v57 h57
     cases c57:v57
     case false =>
      rw[cond_false]
      refine c9 _ rfl ?_;intro v58 h58
      have q:=of_decide_eq_true (h53.symm.trans c53);have e:v58=x51+1:=by rw[h58,w64 (by omega) (by omega)]
      exact rk51 v58 (by show (0:Int)<=v58;omega) (by show (v50-v58).toNat<(v50-x51).toNat;omega)
     case true =>
      rw[cond_true]
      refine c9 _ rfl ?_;intro v58 h58
      cases c58:v58
      case false =>
       rw[cond_false]
       refine c9 _ rfl ?_;intro v59 h59
       have q:=of_decide_eq_true (h53.symm.trans c53);have e:v59=x51+1:=by rw[h59,w64 (by omega) (by omega)]
       exact rk51 v59 (by show (0:Int)<=v59;omega) (by show (v50-v59).toNat<(v50-x51).toNat;omega)
      case true =>
       rw[cond_true]
       refine u6 (wF0 _) ?_;intro v59 h59
       refine c9 _ rfl ?_;intro v60 h60
       cases c60:v60
       case false =>
        rw[cond_false]
        refine c9 _ rfl ?_;intro v61 h61
        cases c61:v61
        case false =>
         rw[cond_false]
         refine u6 (show ∃ v,u7 _=some v/\True from⟨_,I5 _ _ _,trivial⟩) ?_;intro v62 h62
         refine c9 _ rfl ?_;intro v63 h63
         refine c9 _ rfl ?_;intro v64 h64
         cases c64:v64
         case false =>
          rw[cond_false]
          refine c9 _ rfl ?_;intro v65 h65
          have q:=of_decide_eq_true (h53.symm.trans c53);have e:v65=x51+1:=by rw[h65,w64 (by omega) (by omega)]
          exact rk51 v65 (by show (0:Int)<=v65;omega) (by show (v50-v65).toNat<(v50-x51).toNat;omega)
         case true =>
          rw[cond_true]
          refine u6 (show ∃ v,u7 _=some v/\True from⟨_,I5 _ _ _,trivial⟩) ?_;intro v65 h65
          refine c9 _ rfl ?_;intro v66 h66
          refine c9 _ rfl ?_;intro v67 h67
          cases c67:v67
          case false =>
           rw[cond_false]
           refine c9 _ rfl ?_;intro v68 h68
           have q:=of_decide_eq_true (h53.symm.trans c53);have e:v68=x51+1:=by rw[h68,w64 (by omega) (by omega)]
           exact rk51 v68 (by show (0:Int)<=v68;omega) (by show (v50-v68).toNat<(v50-x51).toNat;omega)
          case true =>
           rw[cond_true]
           refine u6 (show ∃ v,u7 _=some v/\True from⟨_,I5 _ _ _,trivial⟩) ?_;intro v68 h68
           refine c9 _ rfl ?_;intro v69 h69
           refine c9 _ rfl ?_;intro v70 h70
           cases c70:v70
           case false =>
            rw[cond_false]
            refine c9 _ rfl ?_;intro v71 h71
            have q:=of_decide_eq_true (h53.symm.trans c53);have e:v71=x51+1:=by rw[h71,w64 (by omega) (by omega)]
            exact rk51 v71 (by show (0:Int)<=v71;omega) (by show (v50-v71).toNat<(v50-x51).toNat;omega)
           case true =>
            rw[cond_true]
            exact⟨_,rfl,trivial⟩
        case true =>
         rw[cond_true]
         refine u6 (show ∃ v,y4 _=some v/\True from⟨_,M0 _ _ _,trivial⟩) ?_;intro v62 h62
         cases c62:v62
         case false =>
          rw[cond_false]
          refine u6 (show ∃ v,y4 _=some v/\True from⟨_,M0 _ _ _,trivial⟩) ?_;intro v63 h63
          cases c63:v63
          case false =>
           rw[cond_false]
           refine u6 (show ∃ v,y4 _=some v/\True from⟨_,M0 _ _ _,trivial⟩) ?_;intro v64 h64
           cases c64:v64
           case false =>
            rw[cond_false]
            refine c9 _ rfl ?_;intro v65 h65
            have q:=of_decide_eq_true (h53.symm.trans c53);have e:v65=x51+1:=by rw[h65,w64 (by omega) (by omega)]
            exact rk51 v65 (by show (0:Int)<=v65;omega) (by show (v50-v65).toNat<(v50-x51).toNat;omega)
           case true =>
            rw[cond_true]
            exact⟨_,rfl,trivial⟩
          case true =>
           rw[cond_true]
           exact⟨_,rfl,trivial⟩
         case true =>
          rw[cond_true]
          exact⟨_,rfl,trivial⟩
       case true =>
        rw[cond_true]
        refine c9 _ rfl ?_;intro v61 h61
        have q:=of_decide_eq_true (h53.symm.trans c53);have e:v61=x51+1:=by rw[h61,w64 (by omega) (by omega)]
        exact rk51 v61 (by show (0:Int)<=v61;omega) (by show (v50-v61).toNat<(v50-x51).toNat;omega)
 case true =>
  rw[cond_true]
  refine u6 (dy0 ix37 (by have:=of_decide_eq_true (h39.symm.trans c39);rw[h36]at this;exact this)) ?_;intro v40 h40
  refine c9 _ rfl ?_;intro v43 h43
  cases c43:v43
  case false =>
   rw[cond_false]
   refine c9 _ rfl ?_;intro v44 h44
   have q:=of_decide_eq_true (h39.symm.trans c39);have e:v44=x37+1:=by rw[h44,w64 (by omega) (by omega)]
   exact rk37 v44 (by show (0:Int)<=v44;omega) (by show (v36-v44).toNat<(v36-x37).toNat;omega)
  case true =>
   rw[cond_true]
   refine c9 _ rfl ?_;intro v44 h44
   cases c44:v44
   case false =>
    rw[cond_false]
    refine c9 _ rfl ?_;intro v45 h45
    have q:=of_decide_eq_true (h39.symm.trans c39);have e:v45=x37+1:=by rw[h45,w64 (by omega) (by omega)]
    exact rk37 v45 (by show (0:Int)<=v45;omega) (by show (v36-v45).toNat<(v36-x37).toNat;omega)
   case true =>
    rw[cond_true]
    refine c9 _ rfl ?_;intro v45 h45
    cases c45:v45
    case false =>
     rw[cond_false]
     refine c9 _ rfl ?_;intro v46 h46
     have q:=of_decide_eq_true (h39.symm.trans c39);have e:v46=x37+1:=by rw[h46,w64 (by omega) (by omega)]
     exact rk37 v46 (by show (0:Int)<=v46;omega) (by show (v36-v46).toNat<(v36-x37).toNat;omega)
    case true =>
     rw[cond_true]
     refine u6 (wF0 _) ?_;intro v46 h46
     refine c9 _ rfl ?_;intro v47 h47
     cases c47:v47
     case false =>
      rw[cond_false]
      refine c9 _ rfl ?_;intro v48 h48
      cases c48:v48
      case false =>
       rw[cond_false]
       refine u6 (show ∃ v,u7 _=some v/\True from⟨_,I5 _ _ _,trivial⟩) ?_;intro v49 h49
       refine c9 _ rfl ?_;intro v50 h50
       refine c9 _ rfl ?_;intro v51 h51
       cases c51:v51
       case false =>
        rw[cond_false]
        refine c9 _ rfl ?_;intro v52 h52
        have q:=of_decide_eq_true (h39.symm.trans c39);have e:v52=x37+1:=by rw[h52,w64 (by omega) (by omega)]
        exact rk37 v52 (by show (0:Int)<=v52;omega) (by show (v36-v52).toNat<(v36-x37).toNat;omega)
       case true =>
        rw[cond_true]
        refine u6 (show ∃ v,u7 _=some v/\True from⟨_,I5 _ _ _,trivial⟩) ?_;intro v52 h52
        refine c9 _ rfl ?_;intro v53 h53
        refine c9 _ rfl ?_;intro v54 h54
        cases c54:v54
        case false =>
         rw[cond_false]
         refine c9 _ rfl ?_;intro v55 h55
         have q:=of_decide_eq_true (h39.symm.trans c39);have e:v55=x37+1:=by rw[h55,w64 (by omega) (by omega)]
         exact rk37 v55 (by show (0:Int)<=v55;omega) (by show (v36-v55).toNat<(v36-x37).toNat;omega)
        case true =>
         rw[cond_true]
         refine u6 (show ∃ v,u7 _=some v/\True from⟨_,I5 _ _ _,trivial⟩) ?_;intro v55 h55
         refine c9 _ rfl ?_;intro v56 h56
         refine c9 _ rfl ?_;intro v57 h57
         cases c57:v57
         case false =>
          rw[cond_false]
          refine c9 _ rfl ?_;intro v58 h58
          have q:=of_decide_eq_true (h39.symm.trans c39);have e:v58=x37+1:=by rw[h58,w64 (by omega) (by omega)]
          exact rk37 v58 (by show (0:Int)<=v58;omega) (by show (v36-v58).toNat<(v36-x37).toNat;omega)
         case true =>
          rw[cond_true]
          exact⟨_,rfl,trivial⟩
      case true =>
       rw[cond_true]
       refine u6 (show ∃ v,y4 _=some v/\True from⟨_,M0 _ _ _,trivial⟩) ?_;intro v49 h49
       cases c49:v49
       case false =>
        rw[cond_false]
        refine u6 (show ∃ v,y4 _=some v/\True from⟨_,M0 _ _ _,trivial⟩) ?_;intro v50 h50
        cases c50:v50
        case false =>
         rw[cond_false]
         refine u6 (show ∃ v,y4 _=some v/\True from⟨_,M0 _ _ _,trivial⟩) ?_;intro v51 h51
         cases c51:v51
         case false =>
          rw[cond_false]
          refine c9 _ rfl ?_;intro v52 h52
          have q:=of_decide_eq_true (h39.symm.trans c39);have e:v52=x37+1:=by rw[h52,w64 (by omega) (by omega)]
          exact rk37 v52 (by show (0:Int)<=v52;omega) (by show (v36-v52).toNat<(v36-x37).toNat;omega)
         case true =>
          rw[cond_true]
          exact⟨_,rfl,trivial⟩
        case true =>
         rw[cond_true]
         exact⟨_,rfl,trivial⟩
       case true =>
        rw[cond_true]
        exact⟨_,rfl,trivial⟩
     case true =>
      rw[cond_true]
      refine c9 _ rfl ?_;intro v48 h48
      have q:=of_decide_eq_true (h39.symm.trans c39);have e:v48=x37+1:=by rw[h48,w64 (by omega) (by omega)]
      exact rk37 v48 (by show (0:Int)<=v48;omega) (by show (v36-v48).toNat<(v36-x37).toNat;omega)
theorem wc0{ns:List Nd}{ars:List Ar}{fs:List Int}{a:Ar}{l:List Pt}{i:Int}(hn:ns.length<=1000000)(ha:ars.length<=1000000)(hv:∀ a∈ars,a.2.2.2.1.length<=1000000)(h0:0<=i)(h1:i+2<(l.length:Int))(hl:l.length<=1000000):∃ v,U2 ((ns,ars,fs),a,l,i)=some v/\True:=by
 unfold U2
 dsimp only
 refine u6 (dy0 h0 (by omega)) ?_;intro v11 h11
 refine c9 _ rfl ?_;intro v13 h13
 refine u6 (dy0 (xs:=l) (i:=v13) (by rw[h13,w64 (by omega) (by omega)];omega) (by rw[h13,w64 (by omega) (by omega)];omega)) ?_;intro v14 h14
 refine c9 _ rfl ?_;intro v16 h16
 refine u6 (dy0 (xs:=l) (i:=v16) (by rw[h16,w64 (by omega) (by omega)];omega) (by rw[h16,w64 (by omega) (by omega)];omega)) ?_;intro v17 h17
 refine u6 (jT0 _) ?_;intro v19 h19
 refine c9 _ rfl ?_;intro v20 h20
 cases c20:v20
 case false =>
  rw[cond_false]
  refine u6 (jT0 _) ?_;intro v21 h21
  refine c9 _ rfl ?_;intro v22 h22
  cases c22:v22
  case false =>
   rw[cond_false]
   refine u6 (jT0 _) ?_;intro v23 h23
   refine c9 _ rfl ?_;intro v24 h24
   cases c24:v24
   case false =>
    rw[cond_false]
    refine c9 _ rfl ?_;intro v25 h25
    cases c25:v25
    case false =>
     rw[cond_false]
     refine c9 _ rfl ?_;intro v26 h26
     refine c9 _ rfl ?_;intro v27 h27
     cases c27:v27
     case false =>
      rw[cond_false]
      exact eo0 hn ha hv v11 v14 v17
     case true =>
      rw[cond_true]
      refine u6 (in0 _ _ _ _ ha) ?_;intro v28 h28
      cases c28:v28
      case false =>
       rw[cond_false]
       exact eo0 hn ha hv v11 v14 v17
      case true =>
       rw[cond_true]
       exact⟨_,rfl,trivial⟩
    case true =>
     rw[cond_true]
     refine c9 _ rfl ?_;intro v26 h26
     refine c9 _ rfl ?_;intro v27 h27
     cases c27:v27
     case false =>
      rw[cond_false]
      refine c9 _ rfl ?_;intro v28 h28
      refine c9 _ rfl ?_;intro v29 h29
      cases c29:v29
      case false =>
       rw[cond_false]
       exact eo0 hn ha hv v11 v14 v17
      case true =>
       rw[cond_true]
       refine u6 (in0 _ _ _ _ ha) ?_;intro v30 h30
       cases c30:v30
       case false =>
        rw[cond_false]
        exact eo0 hn ha hv v11 v14 v17
       case true =>
        rw[cond_true]
        exact⟨_,rfl,trivial⟩
     case true =>
      rw[cond_true]
      exact⟨_,rfl,trivial⟩
   case true =>
    rw[cond_true]
    exact⟨_,rfl,trivial⟩
  case true =>
   rw[cond_true]
   exact⟨_,rfl,trivial⟩
 case true =>
  rw[cond_true]
  exact⟨_,rfl,trivial⟩
end Go.Ab
namespace Go.Ab
open Go Go.Sort Go.Proofs Go.Shelf
set_option maxRecDepth 10000
abbrev Vi:=Int×Int×Int×Int
theorem od0{X V β:Type}(xs:List X){F:(Int×List V->Option β)->Int×List V->Option β}(g:X->List V)(c N:Nat)(hl:xs.length<2^60)(hg:∀ x∈xs,(g x).length<=c)(K:Int×List V->Option β){acc0:List V}(hacc:acc0.length<=N)
  (hnil:∀ rec acc,F rec ((xs.length:Int),acc)=K ((xs.length:Int),acc))
  (hcons:∀ rec (i:Nat) acc x,i<xs.length->xs[i]?=some x->x∈xs->acc.length<=N+c*i->F rec ((i:Int),acc)=rec (((i+1:Nat):Int),acc++g x)) :
  rounds F ((0:Int),acc0)=K ((xs.length:Int),acc0++xs.flatMap g):=by
 refine(p8 (A:=List V) xs (fun i a=>((i:Int),a)) (fun a rest=>K ((xs.length:Int),a++rest.flatMap g)) (fun i a=>a.length<=N+c*i) (Nat.lt_of_lt_of_le hl (by decide)) ?_ ?_ acc0 (by simpa using hacc))
 ·intro rec a _
  rw[hnil,List.flatMap_nil,List.append_nil]
 ·intro rec i a x rest hi hI hd hr
  have hxm:x∈xs:=by
   have:x∈xs.drop i:=by rw[hd];simp
   exact List.mem_of_mem_drop this
  have hx:xs[i]?=some x:=by
   have:=congrArg List.head? hd
   simpa[List.head?_drop]using this
  have:=hg x hxm
  rw[hcons rec i a x hi hx hxm hI,hr _ (by rw[List.length_append,Nat.mul_add];omega),List.flatMap_cons,List.append_assoc]
theorem K7{X V:Type}{g:X->List V}{c:Nat}:∀ {xs:List X},(∀ x∈xs,(g x).length<=c)->(xs.flatMap g).length<=c*xs.length
 | [],_=>by simp
 | x::xs,h=>by
  have h1:=h x (by simp)
  have h2:=K7 (g:=g) (c:=c) (xs:=xs) fun y hy=>h y (by simp[hy])
  rw[List.flatMap_cons,List.length_append,List.length_cons,Nat.mul_succ]
  omega
def jk0(m:Int)(vs:List Int):Int:=vs.foldl min m
theorem vM0(vs:List Int):∀ m,jk0 m vs<=m:=by
 induction vs with
 | nil=>intro m;exact Int.le_refl m
 | cons v vs ih=>intro m;have:=ih (min m v);show jk0 (min m v) vs<=m;omega
theorem mL0{b:Int}:∀ {vs:List Int} {m:Int},b<=m->(∀ v∈vs,b<=v)->b<=jk0 m vs
 | [],m,h,_=>h
 | v::vs,m,h,hv=>by
  show b<=jk0 (min m v) vs
  have:=hv v (by simp)
  exact mL0 (by omega) fun x hx=>hv x (by simp[hx])
theorem kU0(vs:List Int):∀ {m m':Int},m<=m'->jk0 m vs=min m (jk0 m' vs):=by
 induction vs with
 | nil=>intro m m' h;show m=min m m';omega
 | cons v vs ih =>
  intro m m' h
  show jk0 (min m v) vs=min m (jk0 (min m' v) vs)
  have h1:=ih (m:=min m v) (m':=min m' v) (by omega)
  have h2:=vM0 vs (min m' v)
  omega
theorem aF0{α:Type}{xs:List α}{i:Nat}{x:α}(h:xs[i]?=some x):nth xs (i:Int)=some x:=by rw[C3,h]
theorem dx0{i n:Nat}(h:i<n)(hn:n<=1000000):IntKind.i64.wrap ((i:Int)+1)=((i+1:Nat):Int):=w9 h (by omega)
noncomputable def lw0(a:Ar)(f:Ft):Bool:=bif decide (K1 f.2.1=2)then decide (a.1∈f.2.2.2.2)else bif decide (K1 f.2.1=3)then !(decide (a.2.2.2.2.1∈f.2.2.2.2)==decide (a.2.2.2.2.2∈f.2.2.2.2))else false
noncomputable def P2(ars:List Ar)(l:List Ft):List Int:=ars.flatMap fun a=>if l.any (lw0 a)then []else [a.1]
theorem wW0(l:List Ft)(a:Ar)(hl:l.length<=1000000)(hp:∀ f∈l,f.2.2.2.2.length<=1000000):o8 (l,(a.1,a.2.1,a.2.2.1,a.2.2.2.1,a.2.2.2.2.1,a.2.2.2.2.2))=some (l.any (lw0 a)):=by
 unfold o8
 simp only[b9]
 refine O4 l hl _ (lw0 a) fun f hf=>?_
 have h:=hp f hf
 unfold O5 lw0
 simp only[bb0,b9,E1 f.2.2.2.2 _ (show f.2.2.2.2.length<2^62 by omega)]
 cases decide (K1 f.2.1=2)<;>cases decide (K1 f.2.1=3)<;>rfl
theorem qo0(ns:List Nd)(ars:List Ar)(fs:List Int)(l:List Ft)(ha:ars.length<=1000)(hl:l.length<=1000000)(hp:∀ f∈l,f.2.2.2.2.length<=1000000):N3 (ns,ars,fs,l)=some (P2 ars l):=by
 unfold N3
 simp only[b9]
 refine(od0 ars (fun a=>if l.any (lw0 a)then []else [a.1]) 1 0 (by omega) (fun a _=>by split<;>simp) (fun s=>some s.2) (acc0:=[]) (by simp) ?_ ?_).trans (by simp only[List.nil_append];rfl)
 ·intro rec acc
  simp only[A9,cond_false]
 ·intro rec i acc a hi hx hm hlen
  simp only[A5 hi,cond_true,aF0 hx,b9,wW0 l a hl hp,dx0 hi (show ars.length<=1000000 by omega)]
  cases l.any (lw0 a)with
  | true=>simp
  | false =>
   simp only[Bool.not_false,cond_true]
   rw[C7 (by omega) (by simp;omega)]
   simp
theorem rY0{ns:List Nd}{ars:List Ar}{fs:List Int}{l:List Ft}(h0:X1 ns ars fs l=0)(ha:ars.length<=1000)(hl:l.length<=1000000)(hp:∀ f∈l,f.2.2.2.2.length<=1000000):G8 (ns,ars,fs,l)=some (P2 ars l):=by
 unfold G8
 simp only[Q3,h0,b9,decide_true,Bool.not_true,cond_false,qo0 ns ars fs l ha hl hp]
noncomputable def tT0(p:List Pt)(at':Pt):List Int:=(List.range (p.length-1)).map fun i=>mJ0 ((p[i]?).getD (0,0)) ((p[i+1]?).getD (0,0)) at'
theorem vd0(a b:Int):List.foldl mnI a [b]=min a b:=qO0 a b
theorem no0{ns:List Nd}{ars:List Ar}{fs:List Int}{id most:Int}{at':Pt}{p:List Pt}(hP:E9 ((ns,ars,fs),id)=some (p,0))(hl:p.length<=1000)(hn:∀ q∈p,B7 q=true)(ha:B7 at'=true):Q0 ((ns,ars,fs),id,at',most)=some (jk0 most (tT0 p at')):=by
 unfold Q0
 simp only[hP,b9]
 have hr:(List.range (p.length-1)).length=p.length-1:=List.length_range
 refine(p8 (A:=Int) (List.range (p.length-1)) (fun i a=>(((i+1:Nat):Int),a)) (fun a rest=>some (jk0 a (rest.map fun i=>mJ0 ((p[i]?).getD (0,0)) ((p[i+1]?).getD (0,0)) at'))) (fun _ _=>True) (by omega) ?_ ?_ most trivial)
 ·intro rec a _
  rw[hr]
  have e:decide (((p.length-1+1:Nat):Int)<(p.length:Int))=false:=decide_eq_false (by omega)
  simp only[e,cond_false,List.map_nil]
  rfl
 ·intro rec i a x rest hi _ hd hrec
  rw[hr]at hi
  have hx:x=i:=by
   have:=congrArg List.head? hd
   simp only[List.head?_drop,List.head?_cons]at this
   rw[List.getElem?_range hi]at this
   exact(Option.some.inj this).symm
  subst hx
  have e1:IntKind.i64.wrap (((x+1:Nat):Int)-1)=(x:Int):=by rw[w64 (by omega) (by omega)];omega
  have e2:IntKind.i64.wrap (((x+1:Nat):Int)+1)=((x+1+1:Nat):Int):=by rw[w64 (by omega) (by omega)];omega
  have hlt:x+1<p.length:=by omega
  have g1:p[x]?=some p[x]:=List.getElem?_eq_getElem (by omega)
  have g2:p[x+1]?=some p[x+1]:=List.getElem?_eq_getElem hlt
  obtain⟨f,d1,d2,_,_⟩:=nL0 (hn _ (List.getElem_mem (show x<p.length by omega))) (hn _ (List.getElem_mem hlt)) ha
  simp only[A5 hlt,cond_true,e1,b9,C3,g1,g2,d1,d2,decide_true,vd0,e2]
  rw[hrec _ trivial]
  simp only[List.map_cons,g1,g2,Option.getD_some]
  rfl
theorem tM0{p:List Pt}{at':Pt}(hn:∀ q∈p,B7 q=true)(ha:B7 at'=true):∀ v∈tT0 p at',0<=v:=by
 intro v hv
 obtain⟨i,hi,rfl⟩:=List.mem_map.1 hv
 have hi:=List.mem_range.1 hi
 rw[List.getElem?_eq_getElem (show i<p.length by omega),List.getElem?_eq_getElem (show i+1<p.length by omega)]
 obtain⟨f,_,_,h,_⟩:=nL0 (hn _ (List.getElem_mem (show i<p.length by omega))) (hn _ (List.getElem_mem (show i+1<p.length by omega))) ha
 exact h
noncomputable def oU0(ns:List Nd)(ars:List Ar)(fs:List Int)(id:Int)(i:Nat):Bool:=(I3 ((ns,ars,fs),id,(i:Int))).getD false
def tw3(p:List Pt)(i:Nat):Int:=cU0 ((p[i]?).getD (0,0)) ((p[i+1]?).getD (0,0)) ((p[i+2]?).getD (0,0))
def abI(v:Int):Int:=max v (-v)
noncomputable def co0(ns:List Nd)(ars:List Ar)(fs:List Int)(a:Ar)(p:List Pt):List Nat->List Int
 | []=>[]
 | i::r=>if oU0 ns ars fs a.1 i then abI (tw3 p i)::co0 ns ars fs a p r else co0 ns ars fs a p r
theorem pa0(a b c:Pt):-35184372088832<=cU0 a b c/\cU0 a b c<=35184372088832:=by
 unfold cU0
 split
 ·rename_i h
  simp only[Bool.and_eq_true]at h
  exact lN0 h.1.1 h.1.2 h.2
 ·omega
theorem ie0{ns:List Nd}{ars:List Ar}{fs:List Int}{a:Ar}{p:List Pt}:∀ {r:List Nat},∀ v∈co0 ns ars fs a p r,0<=v
 | [],v,h=>by simp[co0]at h
 | i::r,v,h=>by
  unfold co0 at h
  split at h
  ·rcases List.mem_cons.1 h with rfl | h
   ·unfold abI;omega
   ·exact ie0 v h
  ·exact ie0 v h
theorem wx0{ns:List Nd}{ars:List Ar}{fs:List Int}(h:cw0 ns ars fs){a:Ar}(ha:a∈ars){i:Nat}(hi:i<a.2.2.2.1.length):I3 ((ns,ars,fs),a.1,(i:Int))=some (oU0 ns ars fs a.1 i):=by
 have hex:∃ v,I3 ((ns,ars,fs),a.1,(i:Int))=some v:=by
  obtain⟨f,t,_,_,hp,_,_⟩:=h.path ha
  have hv:=h.lenV ha
  obtain⟨v,hv2,_⟩:=wc0 (ns:=ns) (ars:=ars) (fs:=fs) (a:=a) (l:=(f.2.1,f.2.2)::(a.2.2.2.1++[(t.2.1,t.2.2)])) (i:=(i:Int)) (by have:=h.lenN;omega) (by have:=h.lenA;omega) (fun b hb=>by have:=h.lenV hb;omega) (by omega) (by simp;omega) (by simp;omega)
  unfold I3
  have c1:decide ((i:Int)<0)=false:=decide_eq_false (by omega)
  have c2:decide (((a.2.2.2.1.length:Nat):Int)<=(i:Int))=false:=decide_eq_false (by omega)
  simp only[h.Arc_eq,h.arcOf_self ha,b9,Bool.not_true,cond_false,c1,c2,h.Path_eq,hp,decide_true,cond_true,hv2]
  exact⟨_,rfl⟩
 obtain⟨v,hv⟩:=hex
 simp[oU0,hv]
end Go.Ab
namespace Go.Ab
open Go Go.Sort Go.Proofs Go.Shelf
set_option maxRecDepth 10000
theorem sq0:∀ {l:List Ft} {o:Option Int},ud0 o l=false->(∀ p,o=some p->∀ f∈l,p<f.1)/\l.Pairwise (fun f g=>f.1<g.1)
 | [],_,_=>⟨fun _ _ f hf=>by simp at hf,List.Pairwise.nil⟩
 | f::r,o,h=>by
  unfold ud0 at h
  have h2:ud0 (some f.1) r=false:=by
   revert h
   cases ((match o with | some p=>decide (f.1<=p) | none=>false)||!(sX0 f.2.2.2.2))<;>simp
  have h1:∀ p,o=some p->p<f.1:=by
   intro p hp
   subst hp
   by_cases hq:f.1<=p
   ·simp[hq]at h
   ·omega
  obtain⟨a,b⟩:=sq0 h2
  have a:=a f.1 rfl
  refine⟨?_,List.pairwise_cons.2 ⟨a,b⟩⟩
  intro p hp g hg
  have hpf:=h1 p hp
  rcases List.mem_cons.1 hg with rfl | hg
  ·exact hpf
  ·have:=a g hg;omega
structure FtOk(ns:List Nd)(ars:List Ar)(fs:List Int)(l:List Ft):Prop where
 pl:cw0 ns ars fs
 len:l.length<=128
 parts:∀ f∈l,f.2.2.2.2.length<=64
 asc:l.Pairwise (fun f g=>f.1<g.1)
 num:∀ f∈l,1<=f.1/\f.1<=1073741824
 some:∀ f∈l,f.2.2.2.2≠[]
theorem np0{c:Bool}{a b:Int}(ha:a≠0)(h:(bif c then a else b)=0):c=false/\b=0:=by
 cases c with
 | true=>exact absurd h ha
 | false=>exact⟨rfl,h⟩
theorem cX0{ns:List Nd}{ars:List Ar}{fs:List Int}{l:List Ft}(h0:X1 ns ars fs l=0):FtOk ns ars fs l:=by
 unfold X1 at h0
 have hr:L9 ns ars fs=0:=by
  by_cases h:L9 ns ars fs=0
  ·exact h
  ·simp[h]at h0
 rw[hr]at h0
 simp only[decide_true,Bool.not_true,cond_false]at h0
 have hp:cw0 ns ars fs:=by
  refine aI0.1 ?_
  unfold L9 at hr
  by_cases h0:M8 ns ars fs=0
  ·exact h0
  ·simp[h0]at hr
 obtain⟨h1,h0⟩:=np0 (by decide) h0
 obtain⟨h2,h0⟩:=np0 (by decide) h0
 obtain⟨h3,h0⟩:=np0 (by decide) h0
 obtain⟨h4,h0⟩:=np0 (by decide) h0
 obtain⟨h5,h0⟩:=np0 (by decide) h0
 obtain⟨h6,h0⟩:=np0 (by decide) h0
 obtain⟨h7,h0⟩:=np0 (by decide) h0
 refine⟨hp,by have:=of_decide_eq_false h1;omega,fun f hf=>?_,(sq0 h3).2,fun f hf=>?_,fun f hf=>?_⟩
 ·have:=List.any_eq_false.1 h2 f hf
  simp[p1]at this
  omega
 ·have:=List.any_eq_false.1 h4 f hf
  simp[p2]at this
  omega
 ·have:=List.any_eq_false.1 h7 f hf
  intro he
  rw[p5,he]at this
  simp at this
noncomputable def lI0(ns:List Nd)(ars:List Ar)(l:List Ft)(id:Int):Int:=match eq0 l id with
 | some f=>if K1 f.2.1=3 then iz0 ns ars f.2.2.2.2 ars else 0
 | none=>0
noncomputable def X3(ns:List Nd)(ars:List Ar)(l:List Ft)(least:Int)(f:Ft):List Vi:=if K1 f.2.1=3/\lI0 ns ars l f.1<least then [(1,f.1,0,least-lI0 ns ars l f.1)]else []
noncomputable def it0(ns:List Nd)(ars:List Ar)(fs:List Int)(a:Ar)(tol:Int):Int:=match pathOf ns ars a.1 with
 | some p=>jk0 tol (co0 ns ars fs a p (List.range a.2.2.2.1.length))
 | none=>tol
noncomputable def dp0(ns:List Nd)(ars:List Ar)(fs:List Int)(tol:Int)(a:Ar):List Vi:=if it0 ns ars fs a tol<tol then [(2,a.1,0,tol-it0 ns ars fs a tol)]else []
def nodeAt(ns:List Nd)(id:Int):Nd:=match O7 ns id with | some n=>n | none=>(0,0,0)
noncomputable def iD0(ns:List Nd)(ars:List Ar)(a:Ar)(at':Pt)(most:Int):Int:=match pathOf ns ars a.1 with
 | some p=>jk0 most (tT0 p at')
 | none=>most
noncomputable def ge0(ns:List Nd)(ars:List Ar)(least:Int)(f:Ft)(n:Nd)(a:Ar):List Vi:=if iD0 ns ars a (n.2.1,n.2.2) least<least then [(3,f.1,a.1,least-iD0 ns ars a (n.2.1,n.2.2) least)]else []
def sqD(m n:Nd):Int:=(m.2.1-n.2.1)*(m.2.1-n.2.1)+(m.2.2-n.2.2)*(m.2.2-n.2.2)
def hQ0(least:Int)(f:Ft)(n m:Nd):List Vi:=if m.1≠n.1/\sqD m n<least then [(3,f.1,-m.1,least-sqD m n)]else []
def dB0(ns:List Nd)(ars:List Ar):List Nd:=ns.flatMap fun n=>if Z3 ars n.1=0 then [n]else []
def fk0(f:Ft):Int:=f.2.2.2.2.headD 0
noncomputable def cD0(ns:List Nd)(ars:List Ar)(least:Int)(f:Ft):List Vi :=
 if K1 f.2.1=1/\Z3 ars (fk0 f)=0 then ars.flatMap (ge0 ns ars least f (nodeAt ns (fk0 f)))++(dB0 ns ars).flatMap (hQ0 least f (nodeAt ns (fk0 f)))else []
def manyN(l:List Ft)(mc most:Int):Int:=((l.countP fun f=>decide (mc<f.2.2.1):Nat):Int)+max ((l.length:Int)-(l.countP fun f=>decide (mc<f.2.2.1):Nat)-most) 0
def eW0(l:List Ft)(mc most:Int):List Vi:=if 0<manyN l mc most then [(4,0,0,manyN l mc most*257)]else []
noncomputable def cH0(ns:List Nd)(ars:List Ar)(fs:List Int)(l:List Ft)(mc mA tol gap most:Int):List Vi :=
 (((l.flatMap (X3 ns ars l mA)++ars.flatMap (dp0 ns ars fs tol))++l.flatMap (cD0 ns ars (gap*gap)))++eW0 l mc most)++(P2 ars l).flatMap (fun i=>[(5,i,0,1)])
theorem uY0(a b c:Int):J6 [a,b,c]=some (if a=0 then (if b=0 then c else b)else a):=by
 unfold J6
 simp only[b9]
 refine(r9 (A:=Unit) [a,b,c] (fun i _=>(i:Int)) (fun _ rest=>some (match rest.find? (fun v=>decide (v≠0))with | some v=>v | none=>0)) (by simp) ?_ ?_ ()).trans ?_
 ·intro rec _
  simp
 ·intro rec i _ x rest hi hd hr
  simp only[A5 hi,cond_true,l9 hd,b9,w9 hi (show [a,b,c].length<2^62 by simp),List.find?_cons]
  by_cases h:x=0
  ·subst h
   simpa using hr ()
  ·simp[h]
 ·by_cases h1:a=0
  ·by_cases h2:b=0
   ·by_cases h3:c=0
    ·simp[h1,h2,h3]
    ·simp[h1,h2,h3,List.find?_cons]
   ·simp[h1,h2,List.find?_cons]
  ·simp[h1,List.find?_cons]
def mi0(a b:Vi):Int:=if pV0 a.1 b.1=0 then (if pV0 a.2.1 b.2.1=0 then pV0 a.2.2.1 b.2.2.1 else pV0 a.2.1 b.2.1)else pV0 a.1 b.1
theorem vV0(a b:Vi):F1 (a,b)=some (mi0 a b):=by
 unfold F1
 simp only[cmp_eq,b9,uY0]
 rfl
theorem ew0{a b:Int}:pV0 a b=0↔a=b:=by
 unfold pV0
 constructor
 ·intro h
  split at h
  ·omega
  ·split at h
   ·omega
   ·omega
 ·intro h
  subst h
  simp
theorem ej0{a b:Vi}:mi0 a b<0↔a.1<b.1\/(a.1=b.1/\(a.2.1<b.2.1\/(a.2.1=b.2.1/\a.2.2.1<b.2.2.1))):=by
 unfold mi0
 split
 ·rename_i h
  rw[ew0]at h
  split
  ·rename_i h2
   rw[ew0]at h2
   rw[df0]
   omega
  ·rename_i h2
   rw[ew0]at h2
   rw[df0]
   omega
 ·rename_i h
  rw[ew0]at h
  rw[df0]
  omega
theorem R7(l:List Vi):Ordered mi0 l :=
 fh0 (fun x _=>by rw[ej0];omega) (fun x _ y _ z _=>by simp only[ej0];omega) (fun x _ y _ z _=>by simp only[ej0];omega)
theorem sA0{l:List Vi}(hl:l.length<=1000000):slices_SortFunc_api_Violation_rules_Violations_2 (l,4,())=some (Z0 mi0 l):=by
 unfold slices_SortFunc_api_Violation_rules_Violations_2
 simp only[decide_true,cond_true]
 exact kk0 (fun x _ y _=>vV0 x y) (R7 l) (by omega)
end Go.Ab
namespace Go.Ab
open Go Go.Sort Go.Proofs Go.Shelf
set_option maxRecDepth 10000
theorem av0{X V β:Type}(xs:List X){S:(Int×List V->Option β)->Int×List V->Option β}{K:Int×List V->Option β}(g:X->List V)(c N:Nat)(hl:xs.length<2^60)(hg:∀ x∈xs,(g x).length<=c){acc0:List V}(hacc:acc0.length<=N)
  (hcons:∀ rec (i:Nat) acc x,i<xs.length->xs[i]?=some x->x∈xs->acc.length<=N+c*i->S rec ((i:Int),acc)=rec (((i+1:Nat):Int),acc++g x)) :
  rounds (fun k x=>bif decide (x.1<(xs.length:Int))then S k x else K x) ((0:Int),acc0)=K ((xs.length:Int),acc0++xs.flatMap g):=by
 refine od0 xs g c N hl hg K hacc ?_ ?_
 ·intro rec acc
  simp only[A9,cond_false]
 ·intro rec i acc x hi hx hm hlen
  simp only[A5 hi,cond_true]
  exact hcons rec i acc x hi hx hm hlen
theorem mx_ab{v:Int}(h1:-35184372088832<=v)(h2:v<=35184372088832):List.foldl mxI v [IntKind.i64.wrap (0-v)]=abI v:=by
 rw[eP0,w64 (by omega) (by omega)]
 unfold abI
 omega
theorem sn0{ns:List Nd}{ars:List Ar}{fs:List Int}(h:cw0 ns ars fs){a:Ar}(ha:a∈ars){p:List Pt}(hp:p.length=a.2.2.2.1.length+2){β:Type}{K:Int×Int->Option β}(m0:Int) :
  rounds (α:=Int×Int) (β:=β) (fun k34 x34=>bif decide (x34.1<(a.2.2.2.1.length:Int))then
   b8 (nth p x34.1) fun v38=>b8 (nth p (IntKind.i64.wrap (x34.1+(1:Int)))) fun v41=>b8 (nth p (IntKind.i64.wrap (x34.1+(2:Int)))) fun v44 =>
   b8 (V3 ((v38.1,v38.2),(v41.1,v41.2),(v44.1,v44.2))) fun v46 =>
   bif decide (List.foldl mxI v46 [IntKind.i64.wrap (0-v46)]<x34.2)then
    b8 (I3 ((ns,ars,fs),a.1,x34.1)) fun v50 =>
    bif v50 then k34 (IntKind.i64.wrap (x34.1+(1:Int)),List.foldl mxI v46 [IntKind.i64.wrap (0-v46)])else k34 (IntKind.i64.wrap (x34.1+(1:Int)),x34.2)
   else k34 (IntKind.i64.wrap (x34.1+(1:Int)),x34.2)
  else K x34) ((0:Int),m0)=K ((a.2.2.2.1.length:Int),jk0 m0 (co0 ns ars fs a p (List.range a.2.2.2.1.length))):=by
 have hr:(List.range a.2.2.2.1.length).length=a.2.2.2.1.length:=List.length_range
 have hv:=h.lenV ha
 refine(p8 (A:=Int) (List.range a.2.2.2.1.length) (fun i m=>((i:Int),m)) (fun m rest=>K ((a.2.2.2.1.length:Int),jk0 m (co0 ns ars fs a p rest))) (fun _ _=>True) (by omega) ?_ ?_ m0 trivial)
 ·intro rec m _
  rw[hr]
  simp only[A9,cond_false]
  rfl
 ·intro rec i m x rest hi _ hd hrec
  rw[hr]at hi
  have hx:x=i:=by
   have:=congrArg List.head? hd
   simp only[List.head?_drop,List.head?_cons]at this
   rw[List.getElem?_range hi]at this
   exact(Option.some.inj this).symm
  subst hx
  have e1:IntKind.i64.wrap ((x:Int)+1)=((x+1:Nat):Int):=by rw[w64 (by omega) (by omega)];omega
  have e2:IntKind.i64.wrap ((x:Int)+2)=((x+2:Nat):Int):=by rw[w64 (by omega) (by omega)];omega
  have g1:p[x]?=some p[x]:=List.getElem?_eq_getElem (by omega)
  have g2:p[x+1]?=some p[x+1]:=List.getElem?_eq_getElem (by omega)
  have g3:p[x+2]?=some p[x+2]:=List.getElem?_eq_getElem (by omega)
  have et:cU0 (p[x].1,p[x].2) (p[x+1].1,p[x+1].2) (p[x+2].1,p[x+2].2)=tw3 p x:=by
   unfold tw3
   rw[g1,g2,g3]
   rfl
  obtain⟨b1,b2⟩:=pa0 (p[x].1,p[x].2) (p[x+1].1,p[x+1].2) (p[x+2].1,p[x+2].2)
  simp only[A5 hi,cond_true,e1,e2,C3,g1,g2,g3,b9,eh0]
  rw[mx_ab b1 b2,et]
  have hf:=wx0 h ha hi
  have r1:=hrec m trivial
  have r2:=hrec (abI (tw3 p x)) trivial
  have hc:co0 ns ars fs a p (x::rest)=if oU0 ns ars fs a.1 x then abI (tw3 p x)::co0 ns ars fs a p rest else co0 ns ars fs a p rest:=rfl
  rw[hc]
  by_cases c1:abI (tw3 p x)<m
  ·simp only[c1,decide_true,cond_true,hf,b9]
   cases hb:oU0 ns ars fs a.1 x with
   | true =>
    simp only[cond_true,r2,if_true]
    congr 2
    show jk0 _ _=jk0 (min m (abI (tw3 p x))) _
    rw[show min m (abI (tw3 p x))=abI (tw3 p x)by omega]
   | false =>
    simp only[cond_false,r1]
    rfl
  ·simp only[c1,decide_false,cond_false,r1]
   cases hb:oU0 ns ars fs a.1 x with
   | true =>
    simp only[if_true]
    congr 2
    show jk0 _ _=jk0 (min m (abI (tw3 p x))) _
    rw[show min m (abI (tw3 p x))=m by omega]
   | false=>rfl
theorem lD0{ns:List Nd}{ars:List Ar}{ps:List Int}{B:Int}(hB:0<=B):∀ {r:List Ar},(∀ a∈r,-B<=sx0 ns ars a/\sx0 ns ars a<=B)->-(B*(r.length:Int))<=iz0 ns ars ps r/\iz0 ns ars ps r<=B*(r.length:Int)
 | [],_=>by simp[iz0]
 | a::r,h=>by
  have h1:=h a (by simp)
  have h2:=lD0 (ns:=ns) (ars:=ars) (ps:=ps) hB (r:=r) fun b hb=>h b (by simp[hb])
  unfold iz0
  rw[List.length_cons,Int.natCast_add,Int.mul_add]
  cases decide (a.2.2.2.2.1∈ps)==decide (a.2.2.2.2.2∈ps)<;>cases decide (a.2.2.2.2.2∈ps)<;>simp only[cond_true,cond_false]<;>omega
theorem tV0{ns:List Nd}{ars:List Ar}{fs:List Int}(h:cw0 ns ars fs){a:Ar}(ha:a∈ars):-571746046443520<=sx0 ns ars a/\sx0 ns ars a<=571746046443520:=by
 have hn:=h.num ha
 have habs:a.1=jo0 a.1:=by unfold jo0;omega
 obtain⟨p0,pl,hpath,hpl,c0,cl⟩:=h.dart_path (d:=a.1) ⟨a,ha,habs⟩
 rw[<- habs]at hpath
 obtain⟨b1,b2⟩:=bW0 pl p0 c0 cl
 have harc:sx0 ns ars a=L8 p0 pl:=by simp only[sx0,hpath]
 rw[harc]
 omega
theorem qN0{ns:List Nd}{ars:List Ar}{fs:List Int}(h:cw0 ns ars fs)(l:List Ft)(id:Int):-146366987889541120<=lI0 ns ars l id/\lI0 ns ars l id<=146366987889541120:=by
 have hA:=h.lenA
 unfold lI0
 cases eq0 l id with
 | none=>simp
 | some f =>
  dsimp only
  split
  ·obtain⟨b1,b2⟩:=lD0 (ns:=ns) (ars:=ars) (ps:=f.2.2.2.2) (B:=571746046443520) (by decide) (r:=ars) fun a ha=>tV0 h ha
   omega
  ·omega
end Go.Ab
namespace Go.Ab
open Go Go.Sort Go.Proofs Go.Shelf
set_option maxRecDepth 10000
theorem nw0{p:Pt}(h:dF0 p=true):-1048576<=p.1/\p.1<=1048576/\-1048576<=p.2/\p.2<=1048576:=by
 simpa[dF0,and_assoc]using h
theorem jq0(ns:List Nd)(ars:List Ar):(dB0 ns ars).length<=ns.length:=by
 have:=K7 (g:=fun n:Nd=>if Z3 ars n.1=0 then [n]else []) (c:=1) (xs:=ns) (fun f _=>by split<;>simp)
 show (ns.flatMap _).length<=_
 omega
theorem eZ0{ns:List Nd}{ars:List Ar}{n:Nd}(h:n∈dB0 ns ars):n∈ns:=by
 obtain⟨m,hm,h⟩:=List.mem_flatMap.1 h
 split at h
 ·simp only[List.mem_singleton]at h;rw[h];exact hm
 ·simp at h
theorem hY0{ns:List Nd}{ars:List Ar}(h1:ns.length<=256)(h2:ars.length<=256)(least:Int)(f:Ft):(cD0 ns ars least f).length<=512:=by
 unfold cD0
 split
 ·have l1:=K7 (g:=ge0 ns ars least f (nodeAt ns (fk0 f))) (c:=1) (xs:=ars) (fun f _=>by unfold ge0;split<;>simp)
  have l2:=K7 (g:=hQ0 least f (nodeAt ns (fk0 f))) (c:=1) (xs:=dB0 ns ars) (fun f _=>by unfold hQ0;split<;>simp)
  have l3:=jq0 ns ars
  rw[List.length_append]
  omega
 ·simp
theorem numN{ns:List Nd}{ars:List Ar}{fs:List Int}(h:cw0 ns ars fs){n:Nd}(hn:n∈ns):1<=n.1/\n.1<=1073741824:=by
 have:=List.all_eq_true.1 h.numN n.1 (List.mem_map_of_mem hn)
 simpa[hD0]using this
theorem rM0(l:List Ft)(mc:Int)(hl:l.length<=128){β:Type}{K:Int×Int->Option β} :
  rounds (α:=Int×Int) (β:=β) (fun k x=>bif decide (x.1<(l.length:Int))then
   b8 (nth l x.1) fun v40=>bif decide (mc<v40.2.2.1)then k (IntKind.i64.wrap (x.1+(1:Int)),IntKind.i64.wrap (x.2+(1:Int)))else k (IntKind.i64.wrap (x.1+(1:Int)),x.2)
   else K x) ((0:Int),(0:Int))=K ((l.length:Int),((l.countP fun f=>decide (mc<f.2.2.1):Nat):Int)):=by
 refine(p8 (A:=Nat) l (fun i a=>((i:Int),(a:Int))) (fun a rest=>K ((l.length:Int),((a+rest.countP (fun f=>decide (mc<f.2.2.1)):Nat):Int))) (fun i a=>a<=i) (by omega) ?_ ?_ 0 (by simp)).trans (by simp)
 ·intro rec a _
  simp only[A9,cond_false,List.countP_nil,Nat.add_zero]
 ·intro rec i a x rest hi hI hd hr
  simp only[A5 hi,cond_true,l9 hd,b9,dx0 hi (show l.length<=1000000 by omega),List.countP_cons]
  by_cases c:mc<x.2.2.1
  ·have e:IntKind.i64.wrap ((a:Int)+1)=((a+1:Nat):Int):=by rw[w64 (by omega) (by omega)];omega
   simp only[c,decide_true,cond_true,e,if_true]
   rw[hr (a+1) (by omega)]
   congr 3
   omega
  ·simp only[c,decide_false,cond_false,Bool.false_eq_true,if_false,Nat.add_zero]
   exact hr a (by omega)
theorem bY0{ns:List Nd}{ars:List Ar}{fs:List Int}{l:List Ft}{sc mc mA tol gap most:Int}(hA:0<=mA/\mA<=4398046511104)(hT:0<=tol/\tol<=4398046511104)(hG:0<=gap/\gap<=64)(hM:0<=most/\most<=128)
  (hc:D6 (sc,mc,mA,tol,gap,most)=some 0) (h0:X1 ns ars fs l=0) :
  A7 ((ns,ars,fs,l),(sc,mc,mA,tol,gap,most))=some (Z0 mi0 (cH0 ns ars fs l mc mA tol gap most),0):=by
 have h:=(cX0 h0).pl
 have hl:=(cX0 h0).len
 have hpt:=(cX0 h0).parts
 have lN:=h.lenN
 have lA:=h.lenA
 have hgg:0<=gap*gap/\gap*gap<=4096:=by
  refine⟨Int.mul_nonneg hG.1 hG.1,?_⟩
  have:=Int.mul_le_mul hG.2 hG.2 hG.1 (by decide)
  simpa using this
 unfold A7
 simp only[b9,hc,Q3,h0,decide_true,Bool.not_true,cond_false]
 refine(av0 l (X3 ns ars l mA) 1 0 (by omega) (fun f _=>by unfold X3;split<;>simp) (by simp) ?_).trans ?_
 ·intro rec i acc f hi hx hm hlen
  have hpl:∀ f∈l,f.2.2.2.2.length<=1000000:=fun f hf=>by have:=hpt f hf;omega
  have hAr:=h.Area_eq l f.1 (by omega) hpl
  obtain⟨b1,b2⟩:=qN0 h l f.1
  have hAr:R5 ((ns,ars,fs,l),f.1)=some (lI0 ns ars l f.1):=hAr
  simp only[aF0 hx,b9,bb0,hAr,dx0 hi (show l.length<=1000000 by omega)]
  by_cases c1:K1 f.2.1=3
  ·simp only[c1,decide_true,Bool.not_true,cond_false]
   by_cases c2:lI0 ns ars l f.1<mA
   ·simp only[c2,decide_true,cond_true]
    rw[C7 (by omega) (by simp;omega),w64 (by omega) (by omega)]
    simp only[b9,X3,c1,c2,true_and,if_true]
   ·simp only[c2,decide_false,cond_false]
    simp only[X3,c1,c2,true_and,if_false,List.append_nil]
  ·simp only[c1,decide_false,Bool.not_false,cond_true]
   simp only[X3,c1,false_and,if_false,List.append_nil]
 dsimp only
 have len1:=K7 (g:=X3 ns ars l mA) (c:=1) (xs:=l) (fun f _=>by unfold X3;split<;>simp)
 refine(av0 ars (dp0 ns ars fs tol) 1 128 (by omega) (fun f _=>by unfold dp0;split<;>simp) (by rw[List.nil_append];omega) ?_).trans ?_
 ·intro rec i acc a hi hx hm hlen
  obtain⟨f,t,_,_,hp,_,_⟩:=h.path hm
  simp only[aF0 hx,b9,h.Path_eq,hp,decide_true,Bool.not_true,cond_false,dx0 hi (show ars.length<=1000000 by omega)]
  refine(sn0 h hm (by simp) tol).trans ?_
  have e:it0 ns ars fs a tol=jk0 tol (co0 ns ars fs a ((f.2.1,f.2.2)::(a.2.2.2.1++[(t.2.1,t.2.2)])) (List.range a.2.2.2.1.length)):=by unfold it0;rw[hp]
  rw[<- e]
  have lb:0<=it0 ns ars fs a tol:=by rw[e];exact mL0 hT.1 ie0
  dsimp only
  by_cases c:it0 ns ars fs a tol<tol
  ·simp only[c,decide_true,cond_true]
   rw[C7 (by omega) (by simp;omega),w64 (by omega) (by omega)]
   simp only[b9,dp0,c,if_true]
  ·simp only[c,decide_false,cond_false,dp0,if_false,List.append_nil]
 dsimp only
 have len2:=K7 (g:=dp0 ns ars fs tol) (c:=1) (xs:=ars) (fun f _=>by unfold dp0;split<;>simp)
 refine(av0 ns (fun n=>if Z3 ars n.1=0 then [n]else []) 1 0 (by omega) (fun f _=>by split<;>simp) (by simp) ?_).trans ?_
 ·intro rec i acc n hi hx hm hlen
  simp only[aF0 hx,b9,bn0 ns ars fs n.1 (show ars.length<=1000000 by omega),dx0 hi (show ns.length<=1000000 by omega)]
  by_cases c:Z3 ars n.1=0
  ·have c':decide (((Z3 ars n.1:Nat):Int)=0)=true:=by simp[c]
   simp only[c',cond_true]
   rw[C7 (by omega) (by simp;omega)]
   simp only[b9,c,if_true]
  ·have c':decide (((Z3 ars n.1:Nat):Int)=0)=false:=decide_eq_false (by omega)
   simp only[c',cond_false,c,if_false,List.append_nil]
 dsimp only
 rw[show ([]++ns.flatMap (fun n=>if Z3 ars n.1=0 then [n]else []))=dB0 ns ars from rfl]
 have lenAl:=jq0 ns ars
 have wg:IntKind.i64.wrap (gap*gap)=gap*gap:=w64 (by omega) (by omega)
 simp only[wg]
 refine(av0 l (cD0 ns ars (gap*gap)) 512 384 (by omega) (fun f _=>hY0 (by omega) (by omega) (gap*gap) f) (by rw[List.nil_append,List.length_append];omega) ?_).trans ?_
 ·intro rec i acc f hi hx hm hlen
  simp only[aF0 hx,b9,bb0,dx0 hi (show l.length<=1000000 by omega)]
  by_cases c1:K1 f.2.1=1
  rotate_left
  ·simp only[c1,decide_false,Bool.not_false,cond_true,cD0,false_and,if_false,List.append_nil]
  obtain⟨p0,pr,hp0⟩:∃ p0 pr,f.2.2.2.2=p0::pr:=by
   cases hq:f.2.2.2.2 with
   | nil=>exact absurd hq ((cX0 h0).some f hm)
   | cons p0 pr=>exact⟨p0,pr,rfl⟩
  have hpart:fk0 f=p0:=by unfold fk0;rw[hp0];rfl
  have n0:nth (p0::pr) (0:Int)=some p0:=rfl
  simp only[c1,decide_true,Bool.not_true,cond_false,hp0,n0,b9,bn0 ns ars fs p0 (show ars.length<=1000000 by omega)]
  by_cases c2:Z3 ars p0=0
  rotate_left
  ·have c2':decide ((0:Int)<((Z3 ars p0:Nat):Int))=true:=decide_eq_true (by omega)
   simp only[c2',cond_true,cD0,hpart,c2,and_false,if_false,List.append_nil]
  have c2':decide ((0:Int)<((Z3 ars p0:Nat):Int))=false:=decide_eq_false (by omega)
  obtain⟨b,hb⟩:∃ b,N7 ((ns,ars,fs),p0)=some (nodeAt ns p0,b):=by
   rw[h.Node_eq]
   unfold nodeAt
   cases O7 ns p0 with
   | none=>exact⟨false,rfl⟩
   | some n=>exact⟨true,rfl⟩
  have hpos:dF0 ((nodeAt ns p0).2.1,(nodeAt ns p0).2.2)=true:=by
   unfold nodeAt
   cases hq:O7 ns p0 with
   | none=>rfl
   | some n=>exact h.nodePos (List.mem_of_find?_eq_some hq)
  simp only[c2',cond_false,hb,b9]
  generalize hnd:nodeAt ns p0=nd at hpos
  have hnear:=cA0 hpos
  have hpb:=nw0 hpos
  have hi128:acc.length<=65920:=by omega
  refine(av0 ars (ge0 ns ars (gap*gap) f nd) 1 acc.length (by omega) (fun f _=>by unfold ge0;split<;>simp) (Nat.le_refl _) ?_).trans ?_
  ·intro rec i acc2 a hi hx hma hlen2
   obtain⟨f',t',_,_,hp,_,_⟩:=h.path hma
   have hPe:E9 ((ns,ars,fs),a.1)=some ((f'.2.1,f'.2.2)::(a.2.2.2.1++[(t'.2.1,t'.2.2)]),0):=by rw[h.Path_eq,hp]
   have hnl:∀ q∈(f'.2.1,f'.2.2)::(a.2.2.2.1++[(t'.2.1,t'.2.2)]),B7 q=true:=fun q hq=>cA0 (h.pathNear hma hp q hq)
   have hd:=no0 (most:=gap*gap) (at':=(nd.2.1,nd.2.2)) hPe (by have:=h.lenV hma;simp;omega) hnl hnear
   have hdn:=tM0 hnl hnear
   have e:iD0 ns ars a (nd.2.1,nd.2.2) (gap*gap)=jk0 (gap*gap) (tT0 ((f'.2.1,f'.2.2)::(a.2.2.2.1++[(t'.2.1,t'.2.2)])) (nd.2.1,nd.2.2)):=by unfold iD0;rw[hp]
   rw[<- e]at hd
   have lb:0<=iD0 ns ars a (nd.2.1,nd.2.2) (gap*gap):=by rw[e];exact mL0 hgg.1 hdn
   simp only[aF0 hx,b9,hd,dx0 hi (show ars.length<=1000000 by omega)]
   by_cases c:iD0 ns ars a (nd.2.1,nd.2.2) (gap*gap)<gap*gap
   ·simp only[c,decide_true,cond_true]
    rw[C7 (by omega) (by simp;omega),w64 (by omega) (by omega)]
    simp only[b9,ge0,c,if_true]
   ·simp only[c,decide_false,cond_false,ge0,if_false,List.append_nil]
  dsimp only
  have len3:=K7 (g:=ge0 ns ars (gap*gap) f nd) (c:=1) (xs:=ars) (fun f _=>by unfold ge0;split<;>simp)
  refine(av0 (dB0 ns ars) (hQ0 (gap*gap) f nd) 1 66500 (by omega) (fun f _=>by unfold hQ0;split<;>simp) (by rw[List.length_append];omega) ?_).trans ?_
  ·intro rec i acc2 m hi hx hmm hlen2
   have hmp:=nw0 (h.nodePos (eZ0 hmm))
   dsimp only at hmp
   have q1:(decide ((0:Int)<=(i:Int))&&decide ((i:Int)<((dB0 ns ars).length:Int)))=true:=by simp;omega
   have w1:IntKind.i64.wrap (m.2.1-nd.2.1)=m.2.1-nd.2.1:=w64 (by omega) (by omega)
   have w2:IntKind.i64.wrap (m.2.2-nd.2.2)=m.2.2-nd.2.2:=w64 (by omega) (by omega)
   obtain⟨m1,m2⟩:=cY0 (a:=m.2.1-nd.2.1) (b:=m.2.1-nd.2.1) (m:=2097152) (n:=2097152) (by omega) (by omega) (by omega) (by omega)
   obtain⟨m3,m4⟩:=cY0 (a:=m.2.2-nd.2.2) (b:=m.2.2-nd.2.2) (m:=2097152) (n:=2097152) (by omega) (by omega) (by omega) (by omega)
   have p1:=sq_nonneg (m.2.1-nd.2.1)
   have p2:=sq_nonneg (m.2.2-nd.2.2)
   have w3:IntKind.i64.wrap ((m.2.1-nd.2.1)*(m.2.1-nd.2.1))=(m.2.1-nd.2.1)*(m.2.1-nd.2.1):=w64 (by omega) (by omega)
   have w4:IntKind.i64.wrap ((m.2.2-nd.2.2)*(m.2.2-nd.2.2))=(m.2.2-nd.2.2)*(m.2.2-nd.2.2):=w64 (by omega) (by omega)
   have w5:IntKind.i64.wrap ((m.2.1-nd.2.1)*(m.2.1-nd.2.1)+(m.2.2-nd.2.2)*(m.2.2-nd.2.2))=sqD m nd:=w64 (by omega) (by omega)
   have esq:sqD m nd=(m.2.1-nd.2.1)*(m.2.1-nd.2.1)+(m.2.2-nd.2.2)*(m.2.2-nd.2.2):=rfl
   simp only[q1,cond_true,b9,Int.toNat_natCast,hx,Option.map_some,w1,w2,w3,w4,w5,dx0 hi (show (dB0 ns ars).length<=1000000 by omega)]
   by_cases c:m.1=nd.1
   ·simp only[c,decide_true,Bool.not_true,cond_false,hQ0,ne_eq,not_true_eq_false,false_and,if_false,List.append_nil]
   ·simp only[c,decide_false,Bool.not_false,cond_true]
    by_cases c5:sqD m nd<gap*gap
    ·have hmn:=numN h (eZ0 hmm)
     simp only[c5,decide_true,cond_true]
     rw[C7 (by omega) (by simp;omega),w64 (n:=0-m.1) (by omega) (by omega),w64 (by omega) (by omega)]
     simp only[b9,hQ0,c,c5,ne_eq,not_false_eq_true,true_and,if_true,Int.zero_sub]
    ·simp only[c5,decide_false,cond_false,hQ0,and_false,if_false,List.append_nil]
  simp only[dx0 hi (show l.length<=1000000 by omega),cD0,hpart,c1,c2,and_self,if_true,hnd,List.append_assoc]
 dsimp only
 have len4:=K7 (g:=cD0 ns ars (gap*gap)) (c:=512) (xs:=l) (fun f _=>hY0 (by omega) (by omega) (gap*gap) f)
 refine(rM0 l mc hl).trans ?_
 dsimp only
 have hcnt:l.countP (fun f=>decide (mc<f.2.2.1))<=l.length:=List.countP_le_length
 generalize hk:l.countP (fun f=>decide (mc<f.2.2.1))=k at hcnt
 have w1:IntKind.i64.wrap ((l.length:Int)-(k:Int))=(l.length:Int)-(k:Int):=w64 (by omega) (by omega)
 have w2:IntKind.i64.wrap ((l.length:Int)-(k:Int)-most)=(l.length:Int)-(k:Int)-most:=w64 (by omega) (by omega)
 have w3:IntKind.i64.wrap ((k:Int)+max ((l.length:Int)-(k:Int)-most) 0)=manyN l mc most:=by
  unfold manyN
  rw[hk]
  exact w64 (by omega) (by omega)
 have hmn:manyN l mc most=(k:Int)+max ((l.length:Int)-(k:Int)-most) 0:=by unfold manyN;rw[hk]
 have hun:=rY0 h0 (show ars.length<=1000 by omega) (show l.length<=1000000 by omega) (fun f hf=>by have:=hpt f hf;omega)
 have hul:=K7 (g:=fun a:Ar=>if l.any (lw0 a)then []else [a.1]) (c:=1) (xs:=ars) (fun a _=>by split<;>simp)
 have hul:(P2 ars l).length<=1*ars.length:=hul
 have tail:∀ acc:List Vi,acc.length<=70000->rounds (α:=Int×List Vi) (β:=List Vi×Int) (fun k x=>bif decide (x.1<((P2 ars l).length:Int))then
   b8 (nth (P2 ars l) x.1) fun v54=>b8 (Q5 32 x.2 [((5:Int),v54,(0:Int),(1:Int))]) fun v55=>k (IntKind.i64.wrap (x.1+(1:Int)),v55)
   else b8 (slices_SortFunc_api_Violation_rules_Violations_2 (x.2,(4:Int),())) fun v54=>some (v54,(0:Int))) ((0:Int),acc)=some (Z0 mi0 (acc++(P2 ars l).flatMap (fun i=>[(5,i,0,1)])),0):=by
  intro acc hacc
  refine(av0 (P2 ars l) (fun i=>[((5:Int),i,(0:Int),(1:Int))]) 1 70000 (by omega) (fun f _=>by simp) hacc ?_).trans ?_
  ·intro rec i acc2 m hi hx hmm hlen2
   simp only[aF0 hx,b9,dx0 hi (show (P2 ars l).length<=1000000 by omega)]
   rw[C7 (by omega) (by simp;omega)]
   rfl
  ·dsimp only
   have len5:=K7 (g:=fun i:Int=>[((5:Int),i,(0:Int),(1:Int))]) (c:=1) (xs:=P2 ars l) (fun f _=>by simp)
   rw[sA0 (by rw[List.length_append];omega)]
   rfl
 simp only[w1,w2,eP0,w3,hun,b9]
 by_cases c:0<manyN l mc most
 ·have hml:eW0 l mc most=[(4,0,0,manyN l mc most*257)]:=by unfold eW0;rw[if_pos c]
  simp only[c,decide_true,cond_true]
  rw[C7 (by omega) (by simp only[List.length_append,List.length_nil,List.length_cons,List.nil_append];omega),w64 (by omega) (by omega)]
  simp only[b9]
  refine(tail _ (by simp only[List.length_append,List.length_nil,List.length_cons,List.nil_append];omega)).trans ?_
  unfold cH0
  rw[hml]
  rfl
 ·have hml:eW0 l mc most=[]:=by unfold eW0;rw[if_neg c]
  simp only[c,decide_false,cond_false]
  refine(tail _ (by simp only[List.length_append,List.length_nil,List.nil_append];omega)).trans ?_
  unfold cH0
  rw[hml,List.append_nil]
  rfl
end Go.Ab
namespace Go.Ab
open Go Go.Sort Go.Proofs Go.Shelf
set_option maxRecDepth 10000
theorem qg0(l:List Pt)(hl:l.length<=1000000):∃ v,E6 l=some v/\True:=by
 unfold E6
 simp only[b9]
 cases l with
 | nil=>exact⟨_,rfl,trivial⟩
 | cons p l =>
  have h0:decide ((((p::l).length:Nat):Int)=0)=false:=decide_eq_false (by simp;omega)
  have n0:nth (p::l) (0:Int)=some p:=rfl
  simp only[h0,cond_false,n0,b9]
  refine L5 (fun y:Int×Int×Int×Int×Int=>0<=y.1) (fun y=>((((p::l).length:Nat):Int)-y.1).toNat) _ ?_ (by simp) (by first | omega | (simp only;omega))
  intro rec x hx hr
  by_cases c:x.1<(((p::l).length:Nat):Int)
  ·obtain⟨q,hq,_⟩:=dy0 (xs:=p::l) hx c
   have e:IntKind.i64.wrap (x.1+1)=x.1+1:=w64 (by omega) (by omega)
   simp only[c,decide_true,cond_true,hq,b9,e]
   exact hr _ (by simp only;omega) (by simp only;omega)
  ·simp only[c,decide_false,cond_false]
   exact⟨_,rfl,trivial⟩
theorem pM0(ns:List Nd)(ars:List Ar)(fs:List Int)(hv:∀ a∈ars,a.2.2.2.1.length<=4611686018427387904):∃ v,F5 (ns,ars,fs)=some v/\True:=by
 unfold F5
 simp only[b9]
 by_cases h1:(30:Int)<(ns.length:Int)
 ·simp only[h1,decide_true,cond_true];exact⟨_,rfl,trivial⟩
 by_cases h2:(30:Int)<(ars.length:Int)
 ·simp only[h1,h2,decide_true,decide_false,cond_true,cond_false];exact⟨_,rfl,trivial⟩
 by_cases h3:(30:Int)<(fs.length:Int)
 ·simp only[h1,h2,h3,decide_true,decide_false,cond_true,cond_false];exact⟨_,rfl,trivial⟩
 simp only[h1,h2,h3,decide_false,cond_false]
 refine L5 (fun y:List Pt×Int=>0<=y.2/\y.2<=(ns.length:Int)/\(y.1.length:Int)<=y.2) (fun y=>((ns.length:Int)-y.2).toNat) _ ?_ ⟨by decide,by simp only;omega,by simp⟩ (by simp only;omega)
 intro rec x hx hr
 obtain⟨x1,x2,x3⟩:=hx
 by_cases c:x.2<(ns.length:Int)
 ·obtain⟨q,hq,_⟩:=dy0 (xs:=ns) x1 c
  have e:IntKind.i64.wrap (x.2+1)=x.2+1:=w64 (by omega) (by omega)
  simp only[c,decide_true,cond_true,hq,b9,e]
  rw[C7 (by omega) (by simp;omega),b9]
  exact hr _ ⟨by simp only;omega,by simp only;omega,by simp;omega⟩ (by simp only;omega)
 ·simp only[c,decide_false,cond_false]
  refine L5 (fun y:List Pt×Int=>0<=y.2/\y.1.length<=180) (fun y=>((ars.length:Int)-y.2).toNat) _ ?_ ⟨by simp,by simp only;omega⟩ (by simp only;omega)
  intro rec2 y hy hr2
  obtain⟨y1,y2⟩:=hy
  by_cases c2:y.2<(ars.length:Int)
  ·obtain⟨q,hq,hqm⟩:=dy0 (xs:=ars) y1 c2
   have hvq:=hv q hqm
   have e:IntKind.i64.wrap (y.2+1)=y.2+1:=w64 (by omega) (by omega)
   have e2:IntKind.i64.wrap ((y.1.length:Int)+(q.2.2.2.1.length:Int))=(y.1.length:Int)+(q.2.2.2.1.length:Int):=w64 (by omega) (by omega)
   simp only[c2,decide_true,cond_true,hq,b9,e,e2]
   by_cases c3:(180:Int)<(y.1.length:Int)+(q.2.2.2.1.length:Int)
   ·simp only[c3,decide_true,cond_true];exact⟨_,rfl,trivial⟩
   ·simp only[c3,decide_false,cond_false]
    rw[C7 (by omega) (by omega),b9]
    exact hr2 _ ⟨by simp only;omega,by simp;omega⟩ (by simp only;omega)
  ·obtain⟨v,hb,_⟩:=qg0 y.1 (by omega)
   simp only[c2,decide_false,cond_false,hb,b9]
   cases decide ((-1073741824:Int)<=v.1)<;>cases decide ((-1073741824:Int)<=v.2.1)<;>cases decide (v.2.2.1<=(1073741824:Int))<;>cases decide (v.2.2.2<=(1073741824:Int))<;>cases decide (IntKind.i64.wrap (v.2.2.1-v.1)<=(3000:Int))<;>exact⟨_,rfl,trivial⟩
theorem ju0(ns:List Nd)(ars:List Ar)(fs:List Int)(l:List Ft)(hv:∀ a∈ars,a.2.2.2.1.length<=4611686018427387904):∃ v,C4 (ns,ars,fs,l)=some v/\True:=by
 obtain⟨b,hb,_⟩:=pM0 ns ars fs hv
 unfold C4
 simp only[hb,b9]
 cases b with
 | false=>exact⟨_,rfl,trivial⟩
 | true =>
  simp only[Bool.not_true,cond_false]
  by_cases h1:(20:Int)<(l.length:Int)
  ·simp only[h1,decide_true,cond_true];exact⟨_,rfl,trivial⟩
  ·simp only[h1,decide_false,cond_false]
   refine L5 (fun y:Int=>0<=y) (fun y=>((l.length:Int)-y).toNat) _ ?_ (by simp) (by first | omega | (simp only;omega))
   intro rec x hx hr
   by_cases c:x<(l.length:Int)
   ·obtain⟨q,hq,_⟩:=dy0 (xs:=l) hx c
    have e:IntKind.i64.wrap (x+1)=x+1:=w64 (by omega) (by omega)
    simp only[c,decide_true,cond_true,hq,b9,e]
    cases decide ((40:Int)<(q.2.2.2.2.length:Int))with
    | true=>exact⟨_,rfl,trivial⟩
    | false =>
     cases decide ((100:Int)<(q.2.2.2.1.size:Int))with
     | true=>exact⟨_,rfl,trivial⟩
     | false=>exact hr _ (by omega) (by omega)
   ·simp only[c,decide_false,cond_false]
    exact⟨_,rfl,trivial⟩
theorem qn0(n lo hi:Int):E5 (n,lo,hi)=some (decide (lo<=n)&&decide (n<=hi)):=by
 unfold E5
 simp only[b9]
 cases decide (lo<=n)<;>rfl
theorem bT0(x:Int×Int×Int×Int×Int×Int):∃ c,D6 x=some c/\(c=0->1<=x.2.1/\x.2.1<=9/\0<=x.2.2.1/\x.2.2.1<=4398046511104/\0<=x.2.2.2.1/\x.2.2.2.1<=4398046511104/\0<=x.2.2.2.2.1/\x.2.2.2.2.1<=64/\0<=x.2.2.2.2.2/\x.2.2.2.2.2<=128):=by
 unfold D6
 simp only[qn0,b9]
 cases h1:(decide (1<=x.1)&&decide (x.1<=1073741824))with
 | false=>exact⟨2,rfl,fun h=>absurd h (by decide)⟩
 | true =>
 cases h2:(decide (1<=x.2.1)&&decide (x.2.1<=9))with
 | false=>exact⟨2,rfl,fun h=>absurd h (by decide)⟩
 | true =>
 cases h3:(decide (0<=x.2.2.1)&&decide (x.2.2.1<=4398046511104))with
 | false=>exact⟨2,rfl,fun h=>absurd h (by decide)⟩
 | true =>
 cases h4:(decide (0<=x.2.2.2.1)&&decide (x.2.2.2.1<=4398046511104))with
 | false=>exact⟨2,rfl,fun h=>absurd h (by decide)⟩
 | true =>
 cases h5:(decide (0<=x.2.2.2.2.1)&&decide (x.2.2.2.2.1<=64))with
 | false=>exact⟨2,rfl,fun h=>absurd h (by decide)⟩
 | true =>
 cases h6:(decide (0<=x.2.2.2.2.2)&&decide (x.2.2.2.2.2<=128))with
 | false=>exact⟨2,rfl,fun h=>absurd h (by decide)⟩
 | true =>
  refine⟨0,rfl,fun _=>?_⟩
  simp only[Bool.and_eq_true,decide_eq_true_eq]at h1 h2 h3 h4 h5 h6
  omega
theorem hK0{ns:List Nd}{ars:List Ar}{fs:List Int}{l:List Ft}{s:Int×Int×Int×Int×Int×Int}{c:Int}(hc:D6 s=some c)(h:c≠0):A7 ((ns,ars,fs,l),s)=some ([],c):=by
 unfold A7
 have hc:D6 (s.1,s.2.1,s.2.2.1,s.2.2.2.1,s.2.2.2.2.1,s.2.2.2.2.2)=some c:=hc
 simp only[b9,hc,h,decide_false,Bool.not_false,cond_true]
theorem aB0{ns:List Nd}{ars:List Ar}{fs:List Int}{l:List Ft}{s:Int×Int×Int×Int×Int×Int}(hc:D6 s=some 0)(h:X1 ns ars fs l≠0):A7 ((ns,ars,fs,l),s)=some ([],X1 ns ars fs l):=by
 unfold A7
 have hc:D6 (s.1,s.2.1,s.2.2.1,s.2.2.2.1,s.2.2.2.2.1,s.2.2.2.2.2)=some 0:=hc
 simp only[b9,hc,decide_true,Bool.not_true,cond_false,Q3,h,decide_false,Bool.not_false,cond_true]
end Go.Ab
namespace Go.Ab
open Go Go.Sort Go.Proofs Go.Shelf
set_option maxRecDepth 10000
def vp0(v:Vi):Prop:=1<=v.2.2.2/\1<=v.1/\v.1<=5
def Ky(a b:Vi):Prop:=a.1≠b.1\/a.2.1≠b.2.1\/a.2.2.1≠b.2.2.1
theorem eU0{ns:List Nd}{ars:List Ar}{l:List Ft}{mA:Int}{f:Ft}{v:Vi}(h:v∈X3 ns ars l mA f):v.1=1/\v.2.1=f.1/\v.2.2.1=0/\1<=v.2.2.2:=by
 unfold X3 at h
 split at h
 ·rename_i hc
  simp only[List.mem_singleton]at h
  subst h
  exact⟨rfl,rfl,rfl,by show 1<=mA-_;omega⟩
 ·simp at h
theorem gq0{ns:List Nd}{ars:List Ar}{fs:List Int}{tol:Int}{a:Ar}{v:Vi}(h:v∈dp0 ns ars fs tol a):v.1=2/\v.2.1=a.1/\v.2.2.1=0/\1<=v.2.2.2:=by
 unfold dp0 at h
 split at h
 ·rename_i hc
  simp only[List.mem_singleton]at h
  subst h
  exact⟨rfl,rfl,rfl,by show 1<=tol-_;omega⟩
 ·simp at h
theorem eL0{ns:List Nd}{ars:List Ar}{least:Int}{f:Ft}{n:Nd}{a:Ar}{v:Vi}(h:v∈ge0 ns ars least f n a):v.1=3/\v.2.1=f.1/\v.2.2.1=a.1/\1<=v.2.2.2:=by
 unfold ge0 at h
 split at h
 ·rename_i hc
  simp only[List.mem_singleton]at h
  subst h
  exact⟨rfl,rfl,rfl,by show 1<=least-_;omega⟩
 ·simp at h
theorem eN0{least:Int}{f:Ft}{n m:Nd}{v:Vi}(h:v∈hQ0 least f n m):v.1=3/\v.2.1=f.1/\v.2.2.1=-m.1/\1<=v.2.2.2:=by
 unfold hQ0 at h
 split at h
 ·rename_i hc
  simp only[List.mem_singleton]at h
  subst h
  exact⟨rfl,rfl,rfl,by show 1<=least-_;omega⟩
 ·simp at h
theorem gx0{ns:List Nd}{ars:List Ar}{least:Int}{f:Ft}{v:Vi}(h:v∈cD0 ns ars least f):v.1=3/\v.2.1=f.1/\1<=v.2.2.2:=by
 unfold cD0 at h
 split at h
 ·rcases List.mem_append.1 h with h | h
  ·obtain⟨a,_,h⟩:=List.mem_flatMap.1 h
   have:=eL0 h
   exact⟨this.1,this.2.1,this.2.2.2⟩
  ·obtain⟨a,_,h⟩:=List.mem_flatMap.1 h
   have:=eN0 h
   exact⟨this.1,this.2.1,this.2.2.2⟩
 ·simp at h
theorem os0{l:List Ft}{mc most:Int}{v:Vi}(h:v∈eW0 l mc most):v.1=4/\1<=v.2.2.2:=by
 unfold eW0 at h
 split at h
 ·simp only[List.mem_singleton]at h
  subst h
  exact⟨rfl,by show 1<=manyN l mc most*257;omega⟩
 ·simp at h
theorem jy0{ars:List Ar}{l:List Ft}{v:Vi}(h:v∈(P2 ars l).flatMap (fun i=>[((5:Int),i,(0:Int),(1:Int))])):v.1=5/\v.2.2.2=1:=by
 obtain⟨i,_,h⟩:=List.mem_flatMap.1 h
 simp only[List.mem_singleton]at h
 subst h
 exact⟨rfl,rfl⟩
theorem pO0{ns:List Nd}{ars:List Ar}{fs:List Int}{l:List Ft}{mc mA tol gap most:Int}{v:Vi}(h:v∈cH0 ns ars fs l mc mA tol gap most):vp0 v:=by
 unfold cH0 at h
 unfold vp0
 simp only[List.mem_append]at h
 rcases h with (((h | h) | h) | h) | h
 ·obtain⟨a,_,h⟩:=List.mem_flatMap.1 h
  have:=eU0 h
  omega
 ·obtain⟨a,_,h⟩:=List.mem_flatMap.1 h
  have:=gq0 h
  omega
 ·obtain⟨a,_,h⟩:=List.mem_flatMap.1 h
  have:=gx0 h
  omega
 ·have:=os0 h
  omega
 ·have:=jy0 h
  omega
theorem ja0{V:Type}{R:V->V->Prop}{c:Prop}[Decidable c]{v:V}:(if c then [v]else ([]:List V)).Pairwise R:=by
 split<;>simp
theorem ph0{ns:List Nd}{ars:List Ar}{fs:List Int}{l:List Ft}{mc mA tol gap most:Int}(hF:FtOk ns ars fs l):(cH0 ns ars fs l mc mA tol gap most).Pairwise Ky:=by
 have hP:=hF.pl
 have pA:ars.Pairwise (fun a b=>a.1<b.1):=List.pairwise_map.1 (I2 hP.ascA)
 have pN:ns.Pairwise (fun a b=>a.1<b.1):=List.pairwise_map.1 (I2 hP.ascN)
 have k1:(l.flatMap (X3 ns ars l mA)).Pairwise Ky:=by
  rw[List.pairwise_flatMap]
  refine⟨fun f _=>ja0,hF.asc.imp fun {f g} h a ha b hb=>?_⟩
  have a1:=eU0 ha
  have b1:=eU0 hb
  unfold Ky
  omega
 have k2:(ars.flatMap (dp0 ns ars fs tol)).Pairwise Ky:=by
  rw[List.pairwise_flatMap]
  refine⟨fun f _=>ja0,pA.imp fun {f g} h a ha b hb=>?_⟩
  have a1:=gq0 ha
  have b1:=gq0 hb
  unfold Ky
  omega
 have k3:(l.flatMap (cD0 ns ars (gap*gap))).Pairwise Ky:=by
  rw[List.pairwise_flatMap]
  refine⟨fun f _=>?_,hF.asc.imp fun {f g} h a ha b hb=>?_⟩
  ·unfold cD0
   split
   ·rw[List.pairwise_append]
    refine⟨?_,?_,?_⟩
    ·rw[List.pairwise_flatMap]
     refine⟨fun f _=>ja0,pA.imp fun {f g} h a ha b hb=>?_⟩
     have a1:=eL0 ha
     have b1:=eL0 hb
     unfold Ky
     omega
    ·rw[List.pairwise_flatMap]
     have pAl:(dB0 ns ars).Pairwise (fun a b=>a.1<b.1):=by
      unfold dB0
      rw[List.pairwise_flatMap]
      refine⟨fun f _=>ja0,pN.imp fun {f g} h a ha b hb=>?_⟩
      split at ha
      ·split at hb
       ·simp only[List.mem_singleton]at ha hb
        rw[ha,hb]
        exact h
       ·simp at hb
      ·simp at ha
     refine⟨fun f _=>ja0,pAl.imp fun {f g} h a ha b hb=>?_⟩
     have a1:=eN0 ha
     have b1:=eN0 hb
     unfold Ky
     omega
    ·intro a ha b hb
     obtain⟨x,hx,ha⟩:=List.mem_flatMap.1 ha
     obtain⟨y,hy,hb⟩:=List.mem_flatMap.1 hb
     have a1:=eL0 ha
     have b1:=eN0 hb
     have a2:=hP.num hx
     have b2:=numN hP (eZ0 hy)
     unfold Ky
     omega
   ·simp
  ·have a1:=gx0 ha
   have b1:=gx0 hb
   unfold Ky
   omega
 have k4:(eW0 l mc most).Pairwise Ky:=ja0
 have k5:((P2 ars l).flatMap (fun i=>[((5:Int),i,(0:Int),(1:Int))])).Pairwise Ky:=by
  rw[List.pairwise_flatMap]
  refine⟨fun f _=>by simp,?_⟩
  unfold P2
  rw[List.pairwise_flatMap]
  refine⟨fun f _=>by split<;>simp,pA.imp fun {f g} h a ha b hb=>?_⟩
  intro x hx y hy
  split at ha
  ·simp at ha
  ·split at hb
   ·simp at hb
   ·simp only[List.mem_singleton]at ha hb hx hy
    subst ha hb hx hy
    unfold Ky
    right;left
    show f.1≠g.1
    omega
 unfold cH0
 have s1:∀ v∈l.flatMap (X3 ns ars l mA),v.1=1:=fun v h=>by obtain⟨a,_,h⟩:=List.mem_flatMap.1 h;exact(eU0 h).1
 have s2:∀ v∈ars.flatMap (dp0 ns ars fs tol),v.1=2:=fun v h=>by obtain⟨a,_,h⟩:=List.mem_flatMap.1 h;exact(gq0 h).1
 have s3:∀ v∈l.flatMap (cD0 ns ars (gap*gap)),v.1=3:=fun v h=>by obtain⟨a,_,h⟩:=List.mem_flatMap.1 h;exact(gx0 h).1
 have s4:∀ v∈eW0 l mc most,v.1=4:=fun v h=>(os0 h).1
 have s5:∀ v∈(P2 ars l).flatMap (fun i=>[((5:Int),i,(0:Int),(1:Int))]),v.1=5:=fun v h=>(jy0 h).1
 refine List.pairwise_append.2 ⟨List.pairwise_append.2 ⟨List.pairwise_append.2 ⟨List.pairwise_append.2 ⟨k1,k2,?_⟩,k3,?_⟩,k4,?_⟩,k5,?_⟩
 ·intro a ha b hb
  have:=s1 a ha;have:=s2 b hb
  unfold Ky;omega
 ·intro a ha b hb
  have:=s3 b hb
  unfold Ky
  rcases List.mem_append.1 ha with ha | ha
  ·have:=s1 a ha;omega
  ·have:=s2 a ha;omega
 ·intro a ha b hb
  have:=s4 b hb
  unfold Ky
  rcases List.mem_append.1 ha with ha | ha
  ·rcases List.mem_append.1 ha with ha | ha
   ·have:=s1 a ha;omega
   ·have:=s2 a ha;omega
  ·have:=s3 a ha;omega
 ·intro a ha b hb
  have:=s5 b hb
  unfold Ky
  rcases List.mem_append.1 ha with ha | ha
  ·rcases List.mem_append.1 ha with ha | ha
   ·rcases List.mem_append.1 ha with ha | ha
    ·have:=s1 a ha;omega
    ·have:=s2 a ha;omega
   ·have:=s3 a ha;omega
  ·have:=s4 a ha;omega
theorem ww0{a b:Vi}(h:Ky a b):Ky b a:=by unfold Ky at *;omega
theorem kf0{L:List Vi}(hk:L.Pairwise Ky):(Z0 mi0 L).Pairwise (fun a b=>mi0 a b<0):=by
 have hp:(Z0 mi0 L).Perm L:=S5 (R7 L)
 have h1:=kD0 (R7 L)
 have h2:(Z0 mi0 L).Pairwise Ky:=(hp.pairwise_iff (fun h=>ww0 h)).2 hk
 refine(h1.and h2).imp fun {a b} h=>?_
 obtain⟨h3,h4⟩:=h
 rw[ej0]at h3 ⊢
 unfold Ky at h4
 omega
end Go.Ab
namespace Go.Ab
open Go Go.Sort Go.Proofs Go.Shelf
set_option maxRecDepth 10000
theorem vD0{α:Type}{xs:List α}{i:Nat}{x:α}(h:xs[i]?=some x)(h0:0<i):∃ y,xs[i-1]?=some y:=by
 have:i<xs.length:=by
  rcases Nat.lt_or_ge i xs.length with h' | h'
  ·exact h'
  ·rw[List.getElem?_eq_none h']at h;cases h
 exact⟨xs[i-1],List.getElem?_eq_getElem (by omega)⟩
theorem pw_get{α:Type}{R:α->α->Prop}{xs:List α}(h:xs.Pairwise R){i j:Nat}{x y:α}(hij:i<j)(hx:xs[i]?=some x)(hy:xs[j]?=some y):R x y:=by
 have hj:j<xs.length:=by
  rcases Nat.lt_or_ge j xs.length with h' | h'
  ·exact h'
  ·rw[List.getElem?_eq_none h']at hy;cases hy
 have:=List.pairwise_iff_getElem.1 h i j (by omega) hj hij
 rw[List.getElem?_eq_getElem (by omega)]at hx
 rw[List.getElem?_eq_getElem hj]at hy
 cases hx;cases hy
 exact this
theorem ha0{ns:List Nd}{ars:List Ar}{fs:List Int}{l:List Ft}{mc mA tol gap most:Int}(hF:FtOk ns ars fs l):(cH0 ns ars fs l mc mA tol gap most).length<=100000:=by
 have lN:=hF.pl.lenN
 have lA:=hF.pl.lenA
 have hl:=hF.len
 have len1:=K7 (g:=X3 ns ars l mA) (c:=1) (xs:=l) (fun f _=>by unfold X3;split<;>simp)
 have len2:=K7 (g:=dp0 ns ars fs tol) (c:=1) (xs:=ars) (fun f _=>by unfold dp0;split<;>simp)
 have len4:=K7 (g:=cD0 ns ars (gap*gap)) (c:=512) (xs:=l) (fun f _=>hY0 (by omega) (by omega) (gap*gap) f)
 have hul:=K7 (g:=fun a:Ar=>if l.any (lw0 a)then []else [a.1]) (c:=1) (xs:=ars) (fun a _=>by split<;>simp)
 have hul:(P2 ars l).length<=1*ars.length:=hul
 have len5:=K7 (g:=fun i:Int=>[((5:Int),i,(0:Int),(1:Int))]) (c:=1) (xs:=P2 ars l) (fun f _=>by simp)
 have len6:(eW0 l mc most).length<=1:=by unfold eW0;split<;>simp
 unfold cH0
 simp only[List.length_append]
 omega
theorem kr0(ns:List Nd)(ars:List Ar)(fs:List Int)(l:List Ft)(s:Int×Int×Int×Int×Int×Int)(hv:∀ a∈ars,a.2.2.2.1.length<=4611686018427387904):C6 ((ns,ars,fs,l),s)=some true:=by
 obtain⟨b,hb,_⟩:=ju0 ns ars fs l hv
 have haw:mapsheetslaw36_awake ()=some true:=rfl
 unfold C6
 simp only[hb,haw,b9]
 cases b with
 | false=>rfl
 | true =>
 simp only[Bool.not_true,cond_false]
 obtain⟨c,hc,hcr⟩:=bT0 s
 have hc':D6 (s.1,s.2.1,s.2.2.1,s.2.2.2.1,s.2.2.2.2.1,s.2.2.2.2.2)=some c:=hc
 have es:(s.1,s.2.1,s.2.2.1,s.2.2.2.1,s.2.2.2.2.1,s.2.2.2.2.2)=s:=rfl
 by_cases h0:c=0
 rotate_left
 ·simp only[es,hK0 hc h0,b9,h0,decide_false,Bool.not_false,cond_true,List.length_nil,hc,decide_true]
  simp
 subst h0
 by_cases hf:X1 ns ars fs l=0
 rotate_left
 ·simp only[es,aB0 hc hf,b9,hf,decide_false,Bool.not_false,cond_true,List.length_nil,hc,Q3,decide_true]
  simp
 obtain⟨_,_,r1,r2,r3,r4,r5,r6,r7,r8⟩:=hcr rfl
 have hV:=bY0 ⟨r1,r2⟩ ⟨r3,r4⟩ ⟨r5,r6⟩ ⟨r7,r8⟩ hc hf
 rw[hV]
 have hlen:=ha0 (mc:=s.2.1) (mA:=s.2.2.1) (tol:=s.2.2.2.1) (gap:=s.2.2.2.2.1) (most:=s.2.2.2.2.2) (cX0 hf)
 have hg:=fun v=>@pO0 ns ars fs l s.2.1 s.2.2.1 s.2.2.2.1 s.2.2.2.2.1 s.2.2.2.2.2 v
 have hk:=kf0 (ph0 (mc:=s.2.1) (mA:=s.2.2.1) (tol:=s.2.2.2.1) (gap:=s.2.2.2.2.1) (most:=s.2.2.2.2.2) (cX0 hf))
 have hp:(Z0 mi0 (cH0 ns ars fs l s.2.1 s.2.2.1 s.2.2.2.1 s.2.2.2.2.1 s.2.2.2.2.2)).Perm _:=S5 (R7 _)
 generalize Z0 mi0 (cH0 ns ars fs l s.2.1 s.2.2.1 s.2.2.2.1 s.2.2.2.2.1 s.2.2.2.2.2)=L at hk hp
 have hg:∀ v∈L,vp0 v:=fun v hv=>hg v (hp.mem_iff.1 hv)
 simp only[b9,decide_true,Bool.not_true,cond_false]
 have hL:L.length<=100000:=by rw[hp.length_eq];exact hlen
 refine r9 (A:=Unit) L (fun i _=>(i:Int)) (fun _ _=>some true) (by omega) ?_ ?_ ()
 ·intro rec _
  simp only[A9,cond_false]
 ·intro rec i _ x rest hi hd hr
  have hx:L[i]?=some x:=by
   have:=congrArg List.head? hd
   simpa[List.head?_drop]using this
  have hxm:x∈L:=List.mem_of_getElem? hx
  obtain⟨g1,g2,g3⟩:=hg x hxm
  have e1:IntKind.i64.wrap ((i:Int)+1)=((i+1:Nat):Int):=w9 hi (by omega)
  have c1:decide (x.2.2.2<1)=false:=decide_eq_false (by omega)
  have c2:decide (x.1<1)=false:=decide_eq_false (by omega)
  have c3:decide (5<x.1)=false:=decide_eq_false (by omega)
  simp only[A5 hi,cond_true,aF0 hx,b9,c1,c2,c3,cond_false,e1]
  by_cases c4:i=0
  ·have:decide ((i:Int)=0)=true:=decide_eq_true (by omega)
   simp only[this,cond_true]
   exact hr ()
  ·have:decide ((i:Int)=0)=false:=decide_eq_false (by omega)
   obtain⟨y,hy⟩:=vD0 hx (by omega)
   have e2:IntKind.i64.wrap ((i:Int)-1)=((i-1:Nat):Int):=by rw[w64 (by omega) (by omega)];omega
   have hlt:=pw_get hk (show i-1<i by omega) hy hx
   rw[ej0]at hlt
   simp only[this,cond_false,e2,aF0 hy,b9,hr ()]
   have d1:decide (x.1<y.1)=false:=decide_eq_false (by omega)
   simp only[d1,cond_false]
   by_cases c5:y.1=x.1
   ·have d2:decide (x.2.1<y.2.1)=false:=decide_eq_false (by omega)
    simp only[c5,decide_true,cond_true,d2,cond_false]
    by_cases c6:y.2.1=x.2.1
    ·have d3:decide (x.2.2.1<=y.2.2.1)=false:=decide_eq_false (by omega)
     simp only[c6,decide_true,cond_true,d3,cond_false]
    ·simp only[c6,decide_false,cond_false]
   ·simp only[c5,decide_false,cond_false]
end Go.Ab
namespace Go.Ab
open Go Go.Sort Go.Proofs Go.Shelf
set_option maxRecDepth 10000
def jz0:List Vi->Int
 | []=>0
 | v::r=>max v.2.2.2 0+jz0 r
theorem mZ0:∀ l:List Vi,0<=jz0 l
 | []=>Int.le_refl 0
 | v::r=>by have:=mZ0 r;unfold jz0;omega
theorem ec0:∀ l m:List Vi,jz0 (l++m)=jz0 l+jz0 m
 | [],m=>by simp[jz0]
 | v::r,m=>by have:=ec0 r m;simp only[List.cons_append,jz0,this];omega
theorem lC0{l m:List Vi}(h:l.Perm m):jz0 l=jz0 m:=by
 induction h with
 | nil=>rfl
 | cons x _ ih=>simp only[jz0,ih]
 | swap x y l=>simp only[jz0];omega
 | trans _ _ h1 h2=>exact h1.trans h2
theorem jA0(L:List Vi)(hl:L.length<2^61):K9 L=some (min 4611686018427387904 (jz0 L)):=by
 unfold K9
 simp only[b9]
 refine(p8 (A:=Int) L (fun i a=>(a,(i:Int))) (fun a rest=>some (min 4611686018427387904 (a+jz0 rest))) (fun _ a=>0<=a/\a<=4611686018427387904) (by omega) ?_ ?_ 0 (by decide)).trans (by simp)
 ·intro rec a hI
  simp only[A9,cond_false,jz0]
  congr 1
  omega
 ·intro rec i a x rest hi hI hd hr
  have e1:IntKind.i64.wrap ((i:Int)+1)=((i+1:Nat):Int):=w9 hi (by omega)
  have e2:IntKind.i64.wrap (4611686018427387904-a)=4611686018427387904-a:=w64 (by omega) (by omega)
  have hn:=mZ0 rest
  simp only[A5 hi,cond_true,l9 hd,b9,e1,e2,eP0,jz0]
  by_cases c:4611686018427387904-a<max x.2.2.2 0
  ·simp only[c,decide_true,cond_true]
   congr 1
   omega
  ·have e3:IntKind.i64.wrap (a+max x.2.2.2 0)=a+max x.2.2.2 0:=w64 (by omega) (by omega)
   simp only[c,decide_false,cond_false,e3]
   rw[hr _ (by omega)]
   congr 1
   omega
def Gr(A B:List Vi):Prop:=(∀ v∈A,∃ w∈B,w.1=v.1/\w.2.1=v.2.1/\w.2.2.1=v.2.2.1/\v.2.2.2<=w.2.2.2)/\jz0 A<=jz0 B
theorem Gr.refl(A:List Vi):Gr A A:=⟨fun v h=>⟨v,h,rfl,rfl,rfl,Int.le_refl _⟩,Int.le_refl _⟩
theorem Gr.nil(B:List Vi):Gr [] B:=⟨fun v h=>by simp at h,mZ0 B⟩
theorem Gr.one{k a b s t:Int}(h:s<=t):Gr [(k,a,b,s)] [(k,a,b,t)] :=
 ⟨fun v hv=>by simp only[List.mem_singleton]at hv;subst hv;exact⟨_,List.mem_singleton.2 rfl,rfl,rfl,rfl,h⟩,by simp only[jz0];omega⟩
theorem Gr.app{A B A' B':List Vi}(h:Gr A B)(h':Gr A' B'):Gr (A++A') (B++B'):=by
 refine⟨fun v hv=>?_,by rw[ec0,ec0];have:=h.2;have:=h'.2;omega⟩
 rcases List.mem_append.1 hv with hv | hv
 ·obtain⟨w,hw,r⟩:=h.1 v hv
  exact⟨w,List.mem_append_left _ hw,r⟩
 ·obtain⟨w,hw,r⟩:=h'.1 v hv
  exact⟨w,List.mem_append_right _ hw,r⟩
theorem Gr.flat{X:Type}{g g':X->List Vi}:∀ {xs:List X},(∀ x∈xs,Gr (g x) (g' x))->Gr (xs.flatMap g) (xs.flatMap g')
 | [],_=>Gr.refl []
 | x::xs,h=>by
  rw[List.flatMap_cons,List.flatMap_cons]
  exact(h x (by simp)).app (Gr.flat fun y hy=>h y (by simp[hy]))
theorem Gr.perm{A B A' B':List Vi}(h:Gr A B)(hA:A'.Perm A)(hB:B'.Perm B):Gr A' B' :=
 ⟨fun v hv=>by
  obtain⟨w,hw,r⟩:=h.1 v (hA.mem_iff.1 hv)
  exact⟨w,hB.mem_iff.2 hw,r⟩,by rw[lC0 hA,lC0 hB];exact h.2⟩
theorem sJ0{ns:List Nd}{ars:List Ar}{l:List Ft}{m m':Int}(h:m<=m')(f:Ft):Gr (X3 ns ars l m f) (X3 ns ars l m' f):=by
 unfold X3
 by_cases c:K1 f.2.1=3/\lI0 ns ars l f.1<m
 ·rw[if_pos c,if_pos ⟨c.1,by omega⟩]
  exact Gr.one (by omega)
 ·rw[if_neg c]
  exact Gr.nil _
theorem oI0{ns:List Nd}{ars:List Ar}{fs:List Int}{a:Ar}{t t':Int}(h:t<=t'):it0 ns ars fs a t=min t (it0 ns ars fs a t'):=by
 unfold it0
 split
 ·exact kU0 _ h
 ·omega
theorem vZ0{ns:List Nd}{ars:List Ar}{fs:List Int}{t t':Int}(h:t<=t')(a:Ar):Gr (dp0 ns ars fs t a) (dp0 ns ars fs t' a):=by
 have hm:=oI0 (ns:=ns) (ars:=ars) (fs:=fs) (a:=a) h
 unfold dp0
 by_cases c:it0 ns ars fs a t<t
 ·rw[if_pos c,if_pos (by omega)]
  exact Gr.one (by omega)
 ·rw[if_neg c]
  exact Gr.nil _
theorem pc0{ns:List Nd}{ars:List Ar}{a:Ar}{p:Pt}{t t':Int}(h:t<=t'):iD0 ns ars a p t=min t (iD0 ns ars a p t'):=by
 unfold iD0
 split
 ·exact kU0 _ h
 ·omega
theorem wb0{ns:List Nd}{ars:List Ar}{t t':Int}(h:t<=t')(f:Ft):Gr (cD0 ns ars t f) (cD0 ns ars t' f):=by
 unfold cD0
 split
 ·refine Gr.app (Gr.flat fun a _=>?_) (Gr.flat fun m _=>?_)
  ·have hm:=pc0 (ns:=ns) (ars:=ars) (a:=a) (p:=((nodeAt ns (fk0 f)).2.1,(nodeAt ns (fk0 f)).2.2)) h
   unfold ge0
   by_cases c:iD0 ns ars a ((nodeAt ns (fk0 f)).2.1,(nodeAt ns (fk0 f)).2.2) t<t
   ·rw[if_pos c,if_pos (by omega)]
    exact Gr.one (by omega)
   ·rw[if_neg c]
    exact Gr.nil _
  ·unfold hQ0
   by_cases c:m.1≠(nodeAt ns (fk0 f)).1/\sqD m (nodeAt ns (fk0 f))<t
   ·rw[if_pos c,if_pos ⟨c.1,by omega⟩]
    exact Gr.one (by omega)
   ·rw[if_neg c]
    exact Gr.nil _
 ·exact Gr.nil _
theorem ib0{α:Type}{p q:α->Bool}(h:∀ x,p x=true->q x=true):∀ l:List α,l.countP p<=l.countP q
 | []=>Nat.le_refl _
 | x::l=>by
  have ih:=ib0 h l
  rw[List.countP_cons,List.countP_cons]
  by_cases hp:p x=true
  ·rw[if_pos hp,if_pos (h x hp)];omega
  ·rw[if_neg hp];omega
theorem wg0{l:List Ft}{mc mc' mo mo':Int}(h:mc'<=mc)(h2:mo'<=mo):Gr (eW0 l mc mo) (eW0 l mc' mo'):=by
 have hc:l.countP (fun f=>decide (mc<f.2.2.1))<=l.countP (fun f=>decide (mc'<f.2.2.1)):=ib0 (fun x hx=>by simp only[decide_eq_true_eq]at *;omega) l
 have hc2:l.countP (fun f=>decide (mc'<f.2.2.1))<=l.length:=List.countP_le_length
 have hm:manyN l mc mo<=manyN l mc' mo':=by unfold manyN;omega
 unfold eW0
 by_cases c:0<manyN l mc mo
 ·rw[if_pos c,if_pos (by omega)]
  exact Gr.one (by omega)
 ·rw[if_neg c]
  exact Gr.nil _
theorem tJ0{ns:List Nd}{ars:List Ar}{fs:List Int}{l:List Ft}{mc mA tol gap most mc' mA' tol' gap' most':Int}(h1:mc'<=mc)(h2:mA<=mA')(h3:tol<=tol')(h4:gap<=gap')(h5:most'<=most)(hg:0<=gap):Gr (cH0 ns ars fs l mc mA tol gap most) (cH0 ns ars fs l mc' mA' tol' gap' most'):=by
 have hgg:gap*gap<=gap'*gap':=Int.mul_le_mul h4 h4 hg (by omega)
 exact((((Gr.flat fun f _=>sJ0 h2 f).app (Gr.flat fun a _=>vZ0 h3 a)).app (Gr.flat fun f _=>wb0 hgg f)).app (wg0 h1 h5)).app (Gr.refl _)
def hitB(v w:Vi):Bool:=decide (w.1=v.1)&&(decide (w.2.1=v.2.1)&&(decide (w.2.2.1=v.2.2.1)&&decide (v.2.2.2<=w.2.2.2)))
theorem kM0(ns:List Nd)(ars:List Ar)(fs:List Int)(l:List Ft)(s:Int×Int×Int×Int×Int×Int)(ar to ga mo:Int)(hv:∀ a∈ars,a.2.2.2.1.length<=4611686018427387904)
  (ha:0<=ar/\ar<=65535) (ht:0<=to/\to<=65535) (hg:0<=ga/\ga<=65535) (hm:0<=mo/\mo<=65535):D3 ((ns,ars,fs,l),s,ar,to,ga,mo)=some true:=by
 obtain⟨b,hb,_⟩:=ju0 ns ars fs l hv
 have haw:mapsheetslaw36_awake ()=some true:=rfl
 have z8:decide ((8:Int)=0)=false:=by decide
 have z3:decide ((3:Int)=0)=false:=by decide
 unfold D3
 simp only[hb,haw,b9,z8,z3,cond_false]
 cases b with
 | false=>rfl
 | true =>
 have es:(s.1,s.2.1,s.2.2.1,s.2.2.2.1,s.2.2.2.2.1,s.2.2.2.2.2)=s:=rfl
 obtain⟨c,hc,hcr⟩:=bT0 s
 simp only[Bool.not_true,cond_false,es,hc,b9]
 by_cases h0:c=0
 rotate_left
 ·simp only[h0,decide_false,Bool.not_false,cond_true]
 subst h0
 simp only[decide_true,Bool.not_true,cond_false]
 obtain⟨r1',r2',r1,r2,r3,r4,r5,r6,r7,r8⟩:=hcr rfl
 have w1:IntKind.i64.wrap ar=ar:=w64 (by omega) (by omega)
 have w2:IntKind.i64.wrap to=to:=w64 (by omega) (by omega)
 have w3:IntKind.i64.wrap ga=ga:=w64 (by omega) (by omega)
 have w4:IntKind.i64.wrap mo=mo:=w64 (by omega) (by omega)
 have t1:ga.tmod 8=ga%8:=Int.tmod_eq_emod_of_nonneg hg.1
 have t2:mo.tmod 8=mo%8:=Int.tmod_eq_emod_of_nonneg hm.1
 have t3:IntKind.i64.wrap (mo.tdiv 8)=mo / 8:=IntWalk.i64_quo mo 8 ⟨hm.1,by omega,by decide⟩
 have t4:(mo / 8).tmod 3=mo / 8%3:=Int.tmod_eq_emod_of_nonneg (by omega)
 simp only[w1,w2,w3,w4,t1,t2,t3,t4]
 rw[w64 (n:=s.2.2.1+ar) (by omega) (by omega),w64 (n:=s.2.2.2.1+to) (by omega) (by omega),w64 (n:=s.2.2.2.2.1+ga%8) (by omega) (by omega),w64 (n:=s.2.2.2.2.2-mo%8) (by omega) (by omega),w64 (n:=s.2.1-mo / 8%3) (by omega) (by omega)]
 obtain⟨c',hc',hcr'⟩:=bT0 (s.1,s.2.1-mo / 8%3,s.2.2.1+ar,s.2.2.2.1+to,s.2.2.2.2.1+ga%8,s.2.2.2.2.2-mo%8)
 simp only[hc',b9]
 by_cases h0:c'=0
 rotate_left
 ·simp only[h0,decide_false,Bool.not_false,cond_true]
 subst h0
 simp only[decide_true,Bool.not_true,cond_false]
 obtain⟨q1',q2',q1,q2,q3,q4,q5,q6,q7,q8⟩:=hcr' rfl
 by_cases hf:X1 ns ars fs l=0
 rotate_left
 ·have sc:K9 []=some 0:=by rw[jA0 [] (by decide)];rfl
  simp only[aB0 hc hf,aB0 hc' hf,b9,decide_true,Bool.not_true,cond_false]
  refine ff0 fun rec=>?_
  simp[sc]
 have hV:=bY0 ⟨r1,r2⟩ ⟨r3,r4⟩ ⟨r5,r6⟩ ⟨r7,r8⟩ hc hf
 have hW:=bY0 ⟨q1,q2⟩ ⟨q3,q4⟩ ⟨q5,q6⟩ ⟨q7,q8⟩ hc' hf
 dsimp only at hV hW q1 q2 q3 q4 q5 q6 q7 q8
 have hgr:=tJ0 (ns:=ns) (ars:=ars) (fs:=fs) (l:=l) (mc:=s.2.1) (mA:=s.2.2.1) (tol:=s.2.2.2.1) (gap:=s.2.2.2.2.1) (most:=s.2.2.2.2.2) (mc':=s.2.1-mo / 8%3) (mA':=s.2.2.1+ar) (tol':=s.2.2.2.1+to) (gap':=s.2.2.2.2.1+ga%8) (most':=s.2.2.2.2.2-mo%8) (by omega) (by omega) (by omega) (by omega) (by omega) r5
 have l1:=ha0 (mc:=s.2.1) (mA:=s.2.2.1) (tol:=s.2.2.2.1) (gap:=s.2.2.2.2.1) (most:=s.2.2.2.2.2) (cX0 hf)
 have l2:=ha0 (mc:=s.2.1-mo / 8%3) (mA:=s.2.2.1+ar) (tol:=s.2.2.2.1+to) (gap:=s.2.2.2.2.1+ga%8) (most:=s.2.2.2.2.2-mo%8) (cX0 hf)
 rw[show ((ns,ars,fs,l),s)=((ns,ars,fs,l),(s.1,s.2.1,s.2.2.1,s.2.2.2.1,s.2.2.2.2.1,s.2.2.2.2.2))from rfl,hV,hW]
 have p1:=S5 (R7 (cH0 ns ars fs l s.2.1 s.2.2.1 s.2.2.2.1 s.2.2.2.2.1 s.2.2.2.2.2))
 have p2:=S5 (R7 (cH0 ns ars fs l (s.2.1-mo / 8%3) (s.2.2.1+ar) (s.2.2.2.1+to) (s.2.2.2.2.1+ga%8) (s.2.2.2.2.2-mo%8)))
 have hgr:=hgr.perm p1 p2
 have l1:=p1.length_eq▸l1
 have l2:=p2.length_eq▸l2
 generalize Z0 mi0 (cH0 ns ars fs l s.2.1 s.2.2.1 s.2.2.2.1 s.2.2.2.2.1 s.2.2.2.2.2)=L at hgr l1
 generalize Z0 mi0 (cH0 ns ars fs l (s.2.1-mo / 8%3) (s.2.2.1+ar) (s.2.2.2.1+to) (s.2.2.2.2.1+ga%8) (s.2.2.2.2.2-mo%8))=M at hgr l2
 simp only[b9,decide_true,Bool.not_true,cond_false,jA0 L (by omega),jA0 M (by omega)]
 refine r9 (A:=Unit) L (fun i _=>(i:Int)) (fun _ _=>some true) (by omega) ?_ ?_ ()
 ·intro rec _
  have:=hgr.2
  simp only[A9,cond_false,cond_true]
  congr 1
  exact decide_eq_true (by omega)
 ·intro rec i _ v rest hi hd hr
  have hx:L[i]?=some v:=by
   have:=congrArg List.head? hd
   simpa[List.head?_drop]using this
  have e1:IntKind.i64.wrap ((i:Int)+1)=((i+1:Nat):Int):=w9 hi (by omega)
  simp only[A5 hi,cond_true,aF0 hx,b9,e1,hr ()]
  refine(r9 (A:=Bool) M (fun k a=>((k:Int),a)) (fun a rest=>some (a||rest.any (hitB v))) (by omega) ?_ ?_ false).trans ?_
  ·intro rec a
   simp only[A9,cond_false,List.any_nil,Bool.or_false]
   cases a with
   | true=>rfl
   | false=>rfl
  ·intro rec k a w rest hk hd hr2
   have hxw:M[k]?=some w:=by
    have:=congrArg List.head? hd
    simpa[List.head?_drop]using this
   have e2:IntKind.i64.wrap ((k:Int)+1)=((k+1:Nat):Int):=w9 hk (by omega)
   simp only[A5 hk,cond_true,aF0 hxw,b9,e2,hr2,List.any_cons]
   unfold hitB
   cases a<;>cases decide (w.1=v.1)<;>cases decide (w.2.1=v.2.1)<;>cases decide (w.2.2.1=v.2.2.1)<;>simp
  ·obtain⟨w,hw,a1,a2,a3,a4⟩:=hgr.1 v (List.mem_of_getElem? hx)
   have:M.any (hitB v)=true:=List.any_eq_true.2 ⟨w,hw,by simp[hitB,a1,a2,a3,a4]⟩
   rw[this]
   rfl
end Go.Ab
