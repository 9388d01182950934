/- A part of the proof; its readable source lies in wip of the prover's repo (squeezed here for the limit of bytes). -/
import Derived.Test.YtenigicdlmagjaaGreatDoorMe
import Derived.Lib.DecodeN
import Derived.KernelRfl
set_option linter.unusedVariables false
set_option linter.unusedSimpArgs false
set_option linter.unusedSectionVars false
open BEq renaming rfl->jl
open Bool renaming and_eq_true->ab,and_true->eG,false_eq_true->au,not_eq_true'->bL,not_false->aP,not_true->aw
open ByteArray renaming mk->cG
open Function renaming comp->gZ
open Go.IntKind renaming i64->aa,u64->bU
open Go.Utf8 renaming decode->bS
open Int renaming add_zero->fF,fdiv_eq_ediv_of_nonneg->fX,neg_neg->gT,toNat_natCast->da
open List renaming all_eq_true->ak,any_cons->iP,any_eq_false->dp,append_assoc->df,append_nil->dv,cons_append->eY,countP_cons->ik,drop->iz,drop_drop->dn,drop_set_of_lt->gL,eq_nil_of_length_eq_zero->bJ,filter_append->gU,filter_cons->bI,filter_eq_self->cy,filter_nil->eD,find?_cons->fK,find?_some->dV,flatten_append->ft,flatten_cons->bN,foldl->a_,foldl_append->fN,foldl_cons->fB,getElem?_cons_succ->aI,getElem?_cons_zero->bX,getElem?_eq_getElem->ae,getElem?_eq_none->bz,getElem?_eq_some_iff->an,getElem?_map->aM,getElem?_set->bW,getElem?_set_self->eu,getElem_inj->c_,getElem_map->cd,getElem_mem->aq,getElem_of_mem->aJ,length->gB,length_append->aH,length_cons->ax,length_drop->ij,length_filter_le->ck,length_map->aB,length_nil->aU,length_singleton->eQ,map_append->cF,map_cons->ay,map_nil->bA,map_tail->iR,mem_append->aK,mem_append_left->dO,mem_append_right->eP,mem_cons->aC,mem_cons_of_mem->bC,mem_cons_self->ch,mem_filter->bc,mem_flatMap->eI,mem_flatten->bD,mem_map->aY,mem_map_of_mem->bm,mem_of_find?_eq_some->bj,mem_of_getElem?->aD,mem_of_mem_drop->aX,mem_or_eq_of_mem_set->br,mem_singleton->aT,mergeSort_perm->dJ,nil_append->bG,nodup_append->dq,nodup_cons->eE,not_mem_nil->dM,pairwise_append->eJ,pairwise_cons->cI,pairwise_flatten->dx,pairwise_iff_getElem->cX,pairwise_map->fj,perm_ext_iff_of_nodup->fO,range->bE,replicate->ba,tail_cons->dQ,take_add_one->bh,take_append_drop->cL,take_length->bM,take_set_of_le->gK
open List.Pairwise renaming imp->ja,nil->ec
open List.cons renaming injEq->b_
open Nat renaming add_comm->d_,le_refl->ar,le_succ_of_le->fA,le_trans->bo,lt_of_lt_of_le->db,lt_or_ge->cE,lt_or_gt_of_ne->e_,mod_eq_of_lt->iy,mod_lt->gN
open Ne renaming symm->gO
open Option renaming map_map->dU,map_some->aj,toList_some->gE
open Option.some renaming inj->bd,injEq->ai
open Or renaming inl->jo,inr->iQ
open Prod.mk renaming injEq->bV
namespace Go.Ab
open Go Go.Sort Go.Proofs Go.Shelf
def yx0(L:List Q2)(b:Nat):Int:=((L[b]?).map (fun x=>x.1)).getD 0
def dC0(m:List (Int×List Pt))(at':Pt)(L:List Q2):List Q2->Nat->Nat->Nat
 | [],_,b=>b
 | x::r,i,b=>dC0 m at' L r (i+1) (bif (decide (b=0)||decide (x.1<yx0 L b))&&encl m x.2.1 at' then i else b)
def cq0(m:List (Int×List Pt))(L:List Q2)(at':Pt):Nat:=dC0 m at' L L.tail 1 0
theorem ii0(m:List (Int×List Pt))(at':Pt)(L:List Q2):∀ (r:List Q2) (i b n:Nat),i+r.length<=n->b<n->dC0 m at' L r i b<n
 | [],_,b,n,_,a=>a
 | x::r,i,b,n,hi,a=>by
  simp only[dC0];simp only[ax]at hi;refine ii0 m at' L r (i+1) _ n (by omega) ?_;cases (decide (b=0)||decide (x.1<yx0 L b))&&encl m x.2.1 at'
  ·exact a
  simp only[Ac];omega
theorem md0{β:Type}(m:List (Int×List Pt))(at':Pt)(c:Q2)(l:List Q2)(hl:l.length<=1000000)(hp:∀ a∈l,gr0 m a.2.1)(K:Int×Int->Option β) :
  rounds (α:=Int×Int) (β:=β) (fun d b=>
    bif (decide (b.1<(((c::l).length:Nat):Int)))then (
    bif (decide (b.2=(0:Int)))then (
     b8 ((bif decide (0<=b.1)&&decide (b.1<(((c::l).length:Nat):Int))then some ()else none)) fun _=>
     b8 (((c::l)[(b.1).toNat]?).map (fun x=>x.2.1)) fun v32=>
     b8 (y5 (m,v32,(at'.1,at'.2))) fun v33=>
     bif v33 then (
     d (aa.wrap (b.1+(1:Int)),b.1))else (
     d (aa.wrap (b.1+(1:Int)),b.2)))else (
     b8 ((bif decide (0<=b.1)&&decide (b.1<(((c::l).length:Nat):Int))then some ()else none)) fun _=>
     b8 (((c::l)[(b.1).toNat]?).map (fun x=>x.1)) fun v32=>
     b8 ((bif decide (0<=b.2)&&decide (b.2<(((c::l).length:Nat):Int))then some ()else none)) fun _=>
     b8 (((c::l)[(b.2).toNat]?).map (fun x=>x.1)) fun v33=>
     bif (decide (v32<v33))then (
     b8 ((bif decide (0<=b.1)&&decide (b.1<(((c::l).length:Nat):Int))then some ()else none)) fun _=>
     b8 (((c::l)[(b.1).toNat]?).map (fun x=>x.2.1)) fun v35=>
     b8 (y5 (m,v35,(at'.1,at'.2))) fun v36=>
     bif v36 then (
      d (aa.wrap (b.1+(1:Int)),b.1))else (
      d (aa.wrap (b.1+(1:Int)),b.2)))else (
     d (aa.wrap (b.1+(1:Int)),b.2))))else (
    K b)) ((1:Int),(0:Int))=K (((l.length+1:Nat):Int),((cq0 m (c::l) at':Nat):Int)):=by
 have e:(((c::l).length:Nat):Int)=((l.length+1:Nat):Int):=by simp
 refine(p6 (A:=Nat) l (fun i a=>(((i+1:Nat):Int),(a:Int))) (fun a rest=>K (((l.length+1:Nat):Int),((dC0 m at' (c::l) rest (l.length-rest.length+1) a:Nat):Int))) (fun i a=>a<i+1) (by omega) ?_ ?_ 0 (by omega)).trans ?_
 ·intro rec a t
  simp only[e,r9,Aa,dC0]
 ·intro rec i a x rest hi t j p
  have f:l.length-(x::rest).length+1=i+1:=by have:=Ap gB j;simp only[ij,ax]at this ⊢;omega
  have g:l.length-rest.length+1=i+1+1:=by simp only[ax]at f;have:=Ap gB j;simp only[ij,ax]at this;omega
  have u:(c::l)[i+1]?=some x:=by rw[aI,<-r7];exact l9 j
  have k:x∈l:=by
   have:x∈l.drop i:=by rw[j];simp
   exact aX this
  have ha:a<(c::l).length:=by simp only[ax];omega
  have q:(c::l)[a]?=some ((c::l)[a]'ha):=ae ha;have e2:aa.wrap (((i+1:Nat):Int)+1)=((i+1+1:Nat):Int):=l6 (n:=2000000) (by omega) (by omega);have e3:(decide (0<=((i+1:Nat):Int))&&decide (((i+1:Nat):Int)<((l.length+1:Nat):Int)))=true:=by simp;omega
  have e4:(decide (0<=(a:Int))&&decide ((a:Int)<((l.length+1:Nat):Int)))=true:=by simp;omega
  have e5:decide ((a:Int)=0)=decide (a=0):=by by_cases h:a=0<;>simp[h]
  have o:=mx0 (hp x k) at';simp only[e,o9 (show i+1<l.length+1 by omega),Ac,e2,e3,e4,e5,da,u,q,aj,b9,o];have r:=p (i+1) (by omega);have s:=p a (by omega);simp only[g]at r s;rw[r,s,f];have v:yx0 (c::l) a=((c::l)[a]'ha).1:=by simp[yx0,q]
  simp only[dC0,v];cases h1:decide (a=0)<;>cases h2:decide (x.1<((c::l)[a]'ha).1)<;>cases w:encl m x.2.1 at'<;>rfl
 simp only[Nat.sub_self,Nat.zero_add,cq0,dQ]
abbrev tk0:=Int×List Int×Unit×Unit
def addI(L:List Q2)(k:Nat)(c:List Int):List Q2:=match L[k]? with
 | some x=>L.set k (x.1,x.2.1,x.2.2.1++[c],x.2.2.2)
 | none=>L
def addN(L:List Q2)(k:Nat)(n:Int):List Q2:=match L[k]? with
 | some x=>L.set k (x.1,x.2.1,x.2.2.1,x.2.2.2++[n])
 | none=>L
structure oW0(m:List (Int×List Pt))(L:List Q2)(n i j:Nat):Prop where
 len:L.length=n+1
 out:∀ a∈L.tail,gr0 m a.2.1
 inn:∀ a∈L,a.2.2.1.length<=i
 alo:∀ a∈L,a.2.2.2.length<=j
theorem bh0{α:Type}{L:List α}{k:Nat}{y a:α}(h:a∈(L.set k y).tail):a∈L.tail\/(a=y/\1<=k/\k<L.length):=by
 cases L with
 | nil=>simp at h
 | cons x l=>
  cases k with
  | zero=>simp at h;exact .inl (by simpa using h)
  | succ k=>
   simp only[List.set_cons_succ,dQ]at h ⊢;by_cases hk:k<l.length
   ·rcases br h with h | h
    ·exact .inl h
    exact .inr ⟨h,by omega,by simp;omega⟩
   rw[List.set_eq_of_length_le (by omega)]at h;exact .inl h
theorem gG0{α:Type}{L:List α}{k:Nat}{x:α}(h:L[k]?=some x)(hk:1<=k):x∈L.tail:=by
 cases L with
 | nil=>simp at h
 | cons y l=>
  cases k with
  | zero=>omega
  | succ k=>rw[aI]at h;exact aD h
theorem oW0.addI{m:List (Int×List Pt)}{L:List Q2}{n i j k:Nat}(h:oW0 m L n i j)(c:List Int):oW0 m (addI L k c) n (i+1) j:=by
 unfold Go.Ab.addI;cases d:L[k]? with
 | none=>exact⟨h.len,h.out,fun a ha=>by have:=h.inn a ha;omega,h.alo⟩
 | some x=>
  have b:=aD d;refine⟨by simp[h.len],fun a ha=>?_,fun a ha=>?_,fun a ha=>?_⟩
  ·rcases bh0 ha with ha | ⟨rfl,hk,_⟩
   ·exact h.out a ha
   exact h.out x (gG0 d hk)
  ·rcases br ha with ha | rfl
   ·have:=h.inn a ha;omega
   have:=h.inn x b;simp;omega
  rcases br ha with ha | rfl
  ·exact h.alo a ha
  exact h.alo x b
theorem oW0.addN{m:List (Int×List Pt)}{L:List Q2}{n i j k:Nat}(h:oW0 m L n i j)(c:Int):oW0 m (addN L k c) n i (j+1):=by
 unfold Go.Ab.addN;cases d:L[k]? with
 | none=>exact⟨h.len,h.out,h.inn,fun a ha=>by have:=h.alo a ha;omega⟩
 | some x=>
  have b:=aD d;refine⟨by simp[h.len],fun a ha=>?_,fun a ha=>?_,fun a ha=>?_⟩
  ·rcases bh0 ha with ha | ⟨rfl,hk,_⟩
   ·exact h.out a ha
   exact h.out x (gG0 d hk)
  ·rcases br ha with ha | rfl
   ·exact h.inn a ha
   exact h.inn x b
  rcases br ha with ha | rfl
  ·have:=h.alo a ha;omega
  have:=h.alo x b;simp;omega
theorem oW0.cons{m:List (Int×List Pt)}{L:List Q2}{n i j:Nat}(h:oW0 m L n i j):∃ a l,L=a::l:=by
 cases L with
 | nil=>have:=h.len;simp at this
 | cons x l=>exact⟨x,l,rfl⟩
theorem oW0.find_lt{m:List (Int×List Pt)}{L:List Q2}{n i j:Nat}(h:oW0 m L n i j)(p:Pt):cq0 m L p<L.length:=by obtain⟨a,l,rfl⟩:=h.cons;exact ii0 m p _ l 1 0 _ (by simp;omega) (by simp)
def bA0(m:List (Int×List Pt))(c:List Int):Pt:=((((lkp qI (aZ0 (c.headD 0)) m).getD [])[0]?).getD (0,0))
def inF(m:List (Int×List Pt)):List (List Int)->List Q2->List Q2
 | [],L=>L
 | c::r,L=>inF m r (addI L (cq0 m L (bA0 m c)) c)
def aloF(ns:List Nd)(ars:List Ar)(m:List (Int×List Pt)):List Nd->List Q2->List Q2
 | [],L=>L
 | n::r,L=>aloF ns ars m r (bif decide (db0 ars n.1=0)then addN L (cq0 m L (n.2.1,n.2.2)) n.1 else L)
def iB0(ns:List Nd)(ars:List Ar)(cs:List (List Int)):List Q2:=(0,[],[],[])::(cs.filter fun c=>decide (0<G8 ns ars c)).map fun c=>(G8 ns ars c,c,[],[])
def T4(ns:List Nd)(ars:List Ar)(m:List (Int×List Pt))(cs:List (List Int)):List Q2 :=aloF ns ars m ns (inF m (cs.filter fun c=>!decide (0<G8 ns ars c)) (iB0 ns ars cs))
structure sy0(ars:List Ar)(cs:List (List Int)):Prop where
 len:cs.length<=512
 cyc:∀ c∈cs,c≠[]/\c.length<=512/\∀ d∈c,kw0 d/\d≠0/\∃ a∈ars,a.1=aZ0 d
namespace J0
variable {ns:List Nd} {ars:List Ar} {fs:List Int} (h:J0 ns ars fs)
include h
theorem dart_look{d:Int}(b:∃ a∈ars,a.1=aZ0 d):∃ p0 l,lkp qI (aZ0 d) (B8 ns ars)=some (p0::l)/\l.length<=65:=by obtain⟨p0,l,hp,hl,_,_⟩:=h.dart_path b;obtain⟨a,ha,hid⟩:=b;exact⟨p0,l,by rw[<- hid,h.pathsM_look ha,hid];exact hp,hl⟩
theorem paths_for{cs:List (List Int)}(hc:sy0 ars cs){c:List Int}(hm:c∈cs):gr0 (B8 ns ars) c:=by obtain⟨_,h1,h2⟩:=hc.cyc c hm;refine⟨by omega,fun d a=>?_⟩;obtain⟨g1,_,g3⟩:=h2 d a;obtain⟨p0,l,hl,b⟩:=h.dart_look g3;exact⟨g1,p0,l,hl,by omega⟩
theorem divide_eq{cs:List (List Int)}(hc:sy0 ars cs):D5 ((ns,ars,fs),cs,B8 ns ars)=some (T4 ns ars (B8 ns ars) cs):=by
 have I:ns.length<=256:=by have:=h.sml;simp only[dJ0,ab,Ad]at this;exact this.1
 unfold D5;simp only[b9];let Z:Q2->tk0:=fun a=>(a.1,a.2.1,(),());have hZ:∀ (l:List tk0),l.map (fun x=>((x.1,x.2.1,([]:List (List Int)),([]:List Int)):Q2))=l.map (fun x=>(x.1,x.2.1,[],[])):=fun _=>rfl;refine(p6 (A:=List (List Int)×List tk0) cs (fun i a=>(a.1,(i:Int),false,a.2))
  (fun a rest=>some (aloF ns ars (B8 ns ars) ns (inF (B8 ns ars) (a.1++rest.filter fun c=>!decide (0<G8 ns ars c)) ((a.2.map fun x=>(x.1,x.2.1,[],[]))++(rest.filter fun c=>decide (0<G8 ns ars c)).map fun c=>(G8 ns ars c,c,[],[])))))
  (fun i a=>a.1.length<=i/\a.2.length<=i+1/\a.2≠[]/\(∀ c∈a.1,c∈cs)/\∀ x∈a.2.tail,x.2.1∈cs) (by have:=hc.len;omega) ?_ ?_ ([],[(0,[],(),())]) ⟨by simp,by simp,by simp,by simp,by simp⟩).trans ?_
 ·intro rec a J
  obtain⟨i1,i2,i3,i4,i5⟩:=J;have hlen:=hc.len;have z:ownO (fun x:tk0=>((x.1,x.2.1,([]:List (List Int)),([]:List Int)):Q2)) a.2=some (a.2.map fun x=>(x.1,x.2.1,[],[])):=by
   unfold ownO;have:decide (16*a.2.length<=R2)=true:=by simp only[Ad,R2];omega
   rw[this];rfl
  simp only[r9,Aa,z,b9,eD,dv,bA];have U:oW0 (B8 ns ars) (a.2.map fun x=>((x.1,x.2.1,[],[]):Q2)) (a.2.length-1) 0 0:=by
   obtain⟨y,l,hl⟩:∃ y l,a.2=y::l:=by
    cases K:a.2 with
    | nil=>exact Am K i3
    | cons y l=>exact⟨y,l,rfl⟩
   rw[hl]at i5 ⊢;refine⟨by simp,fun b w=>?_,fun b w=>?_,fun b w=>?_⟩
   ·simp only[ay,dQ]at w
    obtain⟨x,f,rfl⟩:=aY.1 w;exact h.paths_for hc (i5 x f)
   ·obtain⟨x,f,rfl⟩:=aY.1 w;simp
   obtain⟨x,f,rfl⟩:=aY.1 w;simp
  generalize V:(a.2.map fun x=>((x.1,x.2.1,[],[]):Q2))=W at *;have X:a.2.length-1<=1000000:=by omega
  generalize a.2.length-1=S at *;generalize hR:a.1=R at *;have Y:R.length<=512:=by omega
  refine(p6 (A:=List Q2) R (fun i L=>((i:Int),L)) (fun L rest=>some (aloF ns ars (B8 ns ars) ns (inF (B8 ns ars) rest L))) (fun i L=>oW0 (B8 ns ars) L S i 0) (by omega) ?_ ?_ W U)
  ·intro rec L g
   simp only[r9,Aa,inF];refine(p6 (A:=List Q2) ns (fun i L=>((i:Int),L)) (fun L rest=>some (aloF ns ars (B8 ns ars) rest L)) (fun i L=>oW0 (B8 ns ars) L S R.length i) (by omega) ?_ ?_ L g)
   ·intro rec L g
    simp only[r9,Aa,aloF]
   intro rec j L n rest hj g t u;have e2:aa.wrap ((j:Int)+1)=((j+1:Nat):Int):=l6 (n:=2000000) (by omega) (by omega);have B:=dH0 ns ars fs n.1 (by have:=h.lenA;omega);have e3:decide (((db0 ars n.1:Nat):Int)=0)=decide (db0 ars n.1=0):=by by_cases hz:db0 ars n.1=0<;>simp[hz]
   simp only[o9 hj,Ac,l9 t,b9,B,e3,e2,aloF];cases hz:decide (db0 ars n.1=0)with
   | false=>simp only[Aa];exact u L ⟨g.len,g.out,g.inn,fun x f=>by have:=g.alo x f;omega⟩
   | true=>
    simp only[Ac];obtain⟨o,l,p⟩:=g.cons;have v:l.length<=1000000:=by have:=g.len;rw[p]at this;simp at this;omega
    have m:=g.find_lt (n.2.1,n.2.2);have q:=u _ (g.addN (k:=cq0 (B8 ns ars) L (n.2.1,n.2.2)) n.1);have C:=g.alo;have r:=g.out;subst p;refine(md0 (β:=List Q2) (B8 ns ars) (n.2.1,n.2.2) o l v r _).trans ?_;generalize cq0 (B8 ns ars) (o::l) (n.2.1,n.2.2)=k at *;have hk:(o::l)[k]?=some ((o::l)[k]'m):=ae m;have M:=C _ (aq m);generalize (o::l)[k]'m=y at *;have e4:(decide (0<=(k:Int))&&decide ((k:Int)<(((o::l).length:Nat):Int)))=true:=by simp only[ab,Ad];omega
    have e:G5 8 y.2.2.2 [n.1]=some (y.2.2.2++[n.1]):=y7 (by omega) (by simp;omega);simp only[da,hk,aj,b9,e4,Ac,inO,e,kP0];simp only[addN,hk]at q ⊢;exact q
  intro rec j L c rest hj g t u;have s:c∈cs:=by
   refine i4 c ?_;have:c∈R.drop j:=by rw[t];simp
   exact aX this
  obtain⟨c1,c2,N⟩:=hc.cyc c s;obtain⟨d,cr,rfl⟩:∃ d cr,c=d::cr:=by
   cases c with
   | nil=>exact Am rfl c1
   | cons d cr=>exact⟨d,cr,rfl⟩
  obtain⟨⟨d1,d2⟩,_,g3⟩:=N d (by simp);obtain⟨p0,pl,D,_⟩:=h.dart_look g3;have e1:aa.wrap (0-d)=-d:=by rw[w64 (by omega) (by omega)];omega
  have e2:aa.wrap ((j:Int)+1)=((j+1:Nat):Int):=l6 (n:=2000000) (by omega) (by omega);have e3:(decide (0<=(j:Int))&&decide ((j:Int)<((R.length:Nat):Int)))=true:=by simp only[ab,Ad];omega
  have O:R[j]?=some (d::cr):=by rw[<- r7];exact l9 t
  have n0:nth (d::cr) (0:Int)=some d:=by have:=r7 (d::cr) 0;exact this
  have n1:nth (p0::pl) (0:Int)=some p0:=by have:=r7 (p0::pl) 0;exact this
  have E:lkp (fun (a b:Int)=>decide (a=b)) (max d (-d)) (B8 ns ars)=some (p0::pl):=D;have e5:orO (some (p0::pl)) (none:Option (List Pt))=some (p0::pl):=rfl;have P:bA0 (B8 ns ars) (d::cr)=p0:=by simp[bA0,D]
  simp only[o9 hj,Ac,e3,b9,da,O,aj,n0,e1,eC0,E,e5,n1,e2,inF,P];obtain⟨o,l,p⟩:=g.cons;have v:l.length<=1000000:=by have:=g.len;rw[p]at this;simp at this;omega
  have m:=g.find_lt p0;have q:=u _ (g.addI (k:=cq0 (B8 ns ars) L p0) (d::cr));have G:=g.inn;have r:=g.out;subst p;refine(md0 (β:=List Q2) (B8 ns ars) p0 o l v r _).trans ?_;generalize cq0 (B8 ns ars) (o::l) p0=k at *;have hk:(o::l)[k]?=some ((o::l)[k]'m):=ae m;have M:=G _ (aq m);generalize (o::l)[k]'m=y at *;have e4:(decide (0<=(k:Int))&&decide ((k:Int)<(((o::l).length:Nat):Int)))=true:=by simp only[ab,Ad];omega
  have e:G5 24 y.2.2.1 [d::cr]=some (y.2.2.1++[d::cr]):=y7 (by omega) (by simp;omega);simp only[da,hk,aj,b9,e4,Ac,inO,e,kP0];simp only[addI,hk]at q ⊢;exact q
 ·intro rec i a c rest hi J t u
  obtain⟨i1,i2,i3,i4,i5⟩:=J;have s:c∈cs:=by
   have:c∈cs.drop i:=by rw[t];simp
   exact aX this
  obtain⟨c1,c2,N⟩:=hc.cyc c s;have Q:N8 ((ns,ars,fs),c)=some (G8 ns ars c):=h.Twice_eq c2 N;have e2:aa.wrap ((i:Int)+1)=((i+1:Nat):Int):=l6 (n:=2000000) (by have:=hc.len;omega) (by omega);have hlen:=hc.len;simp only[o9 hi,Ac,l9 t,b9,Q,e2];by_cases H:0<G8 ns ars c
  ·have e:G5 80 a.2 [(G8 ns ars c,c,(),())]=some (a.2++[(G8 ns ars c,c,(),())]):=y7 (by omega) (by simp;omega)
   simp only[H,Ai,Ac,e,b9];have:=u (a.1,a.2++[(G8 ns ars c,c,(),())]) ⟨by show a.1.length<=i+1;omega,by simp;omega,by simp,i4,fun x f=>?_⟩
   ·rw[this]
    simp[H,bI]
   obtain⟨y,l,hl⟩:∃ y l,a.2=y::l:=by
    cases K:a.2 with
    | nil=>exact Am K i3
    | cons y l=>exact⟨y,l,rfl⟩
   simp only[hl,eY,dQ]at f i5;rcases aK.1 f with f | f
   ·exact i5 x f
   simp at f;subst f;exact s
  have e:G5 24 a.1 [c]=some (a.1++[c]):=y7 (by omega) (by simp;omega);simp only[H,Ag,Aa,e,b9];have:=u (a.1++[c],a.2) ⟨by simp;omega,by show a.2.length<=i+1+1;omega,i3,fun x f=>?_,i5⟩
  ·rw[this]
   simp[H,bI]
  rcases aK.1 f with f | f
  ·exact i4 x f
  simp at f;subst f;exact s
 simp[T4,iB0]
end J0
theorem qr0(D S:List Int):P2 D S<=D.length:=ck _ _
theorem fy0{nx:Int->Int}{D:List Int}(b:∀ d∈D,nx d∈D):∀ (n:Nat) (S:List Int) (d:Int) (c:List Int),d∈D->(∀ x∈c,x∈D) ->
  (∀ x∈(M6 nx n S d c).1,x∈D)/\(M6 nx n S d c).1.length+P2 D (M6 nx n S d c).2<=c.length+P2 D S/\c.length<=(M6 nx n S d c).1.length
 | 0,S,d,c,_,hc=>by simp only[M6];exact⟨hc,by omega,by omega⟩
 | n+1,S,d,c,e,hc=>by
  unfold M6;split
  ·exact⟨hc,ar _,ar _⟩
  rename_i hs;obtain⟨h1,h2,f⟩:=fy0 b n (S++[d]) (nx d) (c++[d]) (b d e) (fun x a=>by
   rcases aK.1 a with a | a
   ·exact hc x a
   simp at a;subst a;exact e)
  have:=gU0 e hs;simp only[aH,eQ]at h2 f;exact⟨h1,by omega,by omega⟩
theorem fl0{nx:Int->Int}{D:List Int}(a:∀ d∈D,nx d∈D):∀ (b S:List Int) (acc:List (List Int)),(∀ d∈b,d∈D)->(∀ c∈acc,c≠[]/\c.length<=D.length/\∀ d∈c,d∈D) ->
  (R3 nx D b S acc).length<=acc.length+b.length/\∀ c∈R3 nx D b S acc,c≠[]/\c.length<=D.length/\∀ d∈c,d∈D
 | [],S,acc,_,ha=>by simp only[R3];exact⟨by simp,ha⟩
 | d::b,S,acc,f,ha=>by
  unfold R3;split
  ·obtain⟨h1,h2⟩:=fl0 a b S acc (fun x g=>f x (by simp[g])) ha
   exact⟨by simp only[ax];omega,h2⟩
  rename_i hs;have e:=f d (by simp);obtain⟨g1,g2,g3⟩:=fy0 a (P2 D S+1) S d [] e (by simp);have h:(M6 nx (P2 D S+1) S d []).1≠[]:=by unfold M6;rw[Ae hs];have:=(fy0 a (P2 D S) (S++[d]) (nx d) ([]++[d]) (a d e) (by simpa using e)).2.2;intro he;rw[he]at this;simp at this
  obtain⟨h1,h2⟩:=fl0 a b (M6 nx (P2 D S+1) S d []).2 (acc++[(M6 nx (P2 D S+1) S d []).1]) (fun x g=>f x (by simp[g])) (fun c hc=>by
   rcases aK.1 hc with hc | hc
   ·exact ha c hc
   simp at hc;subst hc;have:=qr0 D S;simp only[aU]at g2;exact⟨h,by omega,g1⟩)
  simp only[aH,eQ]at h1;exact⟨by simp only[ax];omega,h2⟩
namespace J0
variable {ns:List Nd} {ars:List Ar} {fs:List Int} (h:J0 ns ars fs)
include h
theorem cycs_ok:sy0 ars (cyclesOf ns ars):=by
 have f:=h.darts_len;obtain⟨h1,h2⟩:=fl0 (nx:=gn0 ns ars) (D:=dartsL ns ars) (fun d e=>h.next_mem e) ((dartsL ns ars).mergeSort fun a b=>decide (a<=b)) [] [] (fun d e=>(dJ _ _).mem_iff.1 e) (by simp);have hl:((dartsL ns ars).mergeSort fun a b=>decide (a<=b)).length=(dartsL ns ars).length:=(dJ _ _).length_eq;refine⟨by show (R3 ..).length<=_;simp only[aU]at h1;omega,fun c hc=>?_⟩;obtain⟨g1,g2,g3⟩:=h2 c hc;refine⟨g1,by omega,fun d e=>?_⟩;obtain⟨a,ha,he⟩:=h.mem_darts.1 (g3 d e);have g:=h.num ha;refine⟨?_,?_,a,ha,?_⟩
 ·unfold kw0;rcases he with rfl | rfl<;>omega
 ·rcases he with rfl | rfl<;>omega
 unfold aZ0;rcases he with rfl | rfl<;>omega
end J0
structure ArQ(L:List Q2)(i:Nat):Prop where
 all:∀ a∈L,((∀ d∈a.2.1,kw0 d)/\a.2.1.length<=1000000)/\(∀ c∈a.2.2.1,(∀ d∈c,kw0 d)/\c.length<=1000000)/\a.2.2.1.length<=i
 ne:∀ a∈L.tail,a.2.1≠[]
theorem ArQ.addI{L:List Q2}{i k:Nat}(h:ArQ L i){c:List Int}(hc:(∀ d∈c,kw0 d)/\c.length<=1000000):ArQ (addI L k c) (i+1):=by
 unfold Go.Ab.addI;cases f:L[k]? with
 | none=>exact⟨fun a ha=>by obtain⟨h1,h2,g⟩:=h.all a ha;exact⟨h1,h2,by omega⟩,h.ne⟩
 | some x=>
  have e:=aD f;refine⟨fun a ha=>?_,fun a ha=>?_⟩
  ·rcases br ha with ha | rfl
   ·obtain⟨h1,h2,g⟩:=h.all a ha;exact⟨h1,h2,by omega⟩
   obtain⟨h1,h2,g⟩:=h.all x e;refine⟨h1,fun c' b=>?_,by simp;omega⟩;rcases aK.1 b with b | b
   ·exact h2 c' b
   simp at b;subst b;exact hc
  rcases bh0 ha with ha | ⟨rfl,hk,_⟩
  ·exact h.ne a ha
  exact h.ne x (gG0 f hk)
theorem ArQ.addN{L:List Q2}{i k:Nat}(h:ArQ L i)(n:Int):ArQ (addN L k n) i:=by
 unfold Go.Ab.addN;cases c:L[k]? with
 | none=>exact h
 | some x=>
  have b:=aD c;refine⟨fun a ha=>?_,fun a ha=>?_⟩
  ·rcases br ha with ha | rfl
   ·exact h.all a ha
   exact h.all x b
  rcases bh0 ha with ha | ⟨rfl,hk,_⟩
  ·exact h.ne a ha
  exact h.ne x (gG0 c hk)
theorem ArQ.inF{m:List (Int×List Pt)}:∀ (r:List (List Int)) (L:List Q2) (i:Nat),ArQ L i->(∀ c∈r,(∀ d∈c,kw0 d)/\c.length<=1000000)->ArQ (inF m r L) (i+r.length)
 | [],L,i,h,_=>h
 | c::r,L,i,h,a=>by have:=ArQ.inF (m:=m) r _ (i+1) (h.addI (k:=cq0 m L (bA0 m c)) (a c (by simp))) (fun x b=>a x (by simp[b]));simp only[Go.Ab.inF,ax];rw[show i+(r.length+1)=i+1+r.length by omega];exact this
theorem ArQ.aloF{ns:List Nd}{ars:List Ar}{m:List (Int×List Pt)}{i:Nat}:∀ (r:List Nd) (L:List Q2),ArQ L i->ArQ (aloF ns ars m r L) i
 | [],L,h=>h
 | n::r,L,h=>by
  simp only[Go.Ab.aloF];cases decide (db0 ars n.1=0)with
  | false=>exact ArQ.aloF r L h
  | true=>exact ArQ.aloF r _ (h.addN n.1)
theorem qL0{m:List (Int×List Pt)}:∀ (r:List (List Int)) (L:List Q2),(inF m r L).length=L.length
 | [],L=>rfl
 | c::r,L=>by simp only[inF];rw[qL0 r];unfold addI;cases L[cq0 m L (bA0 m c)]?<;>simp
theorem ol0{ns:List Nd}{ars:List Ar}{m:List (Int×List Pt)}:∀ (r:List Nd) (L:List Q2),(aloF ns ars m r L).length=L.length
 | [],L=>rfl
 | n::r,L=>by
  simp only[aloF];rw[ol0 r];cases decide (db0 ars n.1=0)with
  | false=>rfl
  | true=>simp only[Ac];unfold addN;cases L[cq0 m L (n.2.1,n.2.2)]?<;>simp
open J0 (cyclesOf)
theorem J0.areas_ok{ns:List Nd}{ars:List Ar}{fs:List Int}(h:J0 ns ars fs):ArQ (T4 ns ars (B8 ns ars) (cyclesOf ns ars)) 512/\(T4 ns ars (B8 ns ars) (cyclesOf ns ars)).length<=1000000:=by
  have hc:=h.cycs_ok;have g:ArQ (T4 ns ars (B8 ns ars) (cyclesOf ns ars)) 512:=by
   have e:∀ c∈cyclesOf ns ars,(∀ d∈c,kw0 d)/\c.length<=1000000:=fun c b=>by obtain⟨_,g2,g3⟩:=hc.cyc c b;exact⟨fun d i=>(g3 d i).1,by omega⟩
   have f:ArQ (iB0 ns ars (cyclesOf ns ars)) 0:=by
    refine⟨fun a ha=>?_,fun a ha=>?_⟩
    ·rcases aC.1 ha with rfl | ha
     ·simp
     obtain⟨c,b,rfl⟩:=aY.1 ha;exact⟨e c (bc.1 b).1,by simp,by simp⟩
    simp only[iB0,dQ]at ha;obtain⟨c,b,rfl⟩:=aY.1 ha;exact(hc.cyc c (bc.1 b).1).1
   have:=ArQ.aloF (ns:=ns) (ars:=ars) (m:=B8 ns ars) ns _ (ArQ.inF (m:=B8 ns ars) ((cyclesOf ns ars).filter fun c=>!decide (0<G8 ns ars c)) _ 0 f (fun c b=>e c (bc.1 b).1));refine⟨fun a ha=>?_,this.ne⟩;obtain⟨h1,h2,j⟩:=this.all a ha;have hl:=ck (fun c=>!decide (0<G8 ns ars c)) (cyclesOf ns ars);have:=hc.len;exact⟨h1,h2,by omega⟩
  have hlen:(T4 ns ars (B8 ns ars) (cyclesOf ns ars)).length<=1000000:=by unfold T4;rw[ol0,qL0];have hl:=ck (fun c=>decide (0<G8 ns ars c)) (cyclesOf ns ars);have:=hc.len;simp only[iB0,ax,aB];omega
  exact⟨g,hlen⟩
def Q8(ns:List Nd)(ars:List Ar)(fs:List Int):Int:=bif decide (H4 ns ars fs=0)then (bif (F5 ars fs.length true (T4 ns ars (B8 ns ars) (cyclesOf ns ars)) [] []).2 then 0 else 12)else H4 ns ars fs
theorem hN0(ns:List Nd)(ars:List Ar)(fs:List Int):Z8 (ns,ars,fs)=some (Q8 ns ars fs):=by
 unfold Z8 Q8;by_cases hp:H4 ns ars fs=0
 ·have h:=T6.1 hp
  have hc:=h.cycs_ok;obtain⟨b,hlen⟩:=h.areas_ok;have hf:=h.faces_eq (l:=T4 ns ars (B8 ns ars) (cyclesOf ns ars)) hlen (fun a ha=>by obtain⟨h1,h2,c⟩:=b.all a ha;exact⟨h1,h2,by omega⟩) b.ne;simp only[h.Cycles_eq,b9,Ai,aw,Aa,h.pathsOf_eq,h.divide_eq hc,hf,hp,Ac];cases (F5 ars fs.length true (T4 ns ars (B8 ns ars) (cyclesOf ns ars)) [] []).2<;>rfl
 simp only[aB0 hp,b9,hp,Ag,aP,Ac,Aa]
end Go.Ab
namespace Go.Ab
open Go Go.Sort Go.Proofs Go.Shelf
def he0:List (Int×Int×Int):=[(32,32,0),(39,41,0),(45,46,0),(48,57,0),(65,90,1),(97,122,1),(192,214,1),(216,246,1),(248,591,1),(880,1023,2),(1024,1279,3),(1488,1514,4),(19968,40959,5)]
def sx0(c:Int):List (Int×Int×Int)->Int
 | []=>-1
 | r::l=>bif decide (r.1<=c)&&decide (c<=r.2.1)then r.2.2 else sx0 c l
def il0(r:Int):Int:=bif decide (r<0)||decide (1114111<r)then -1 else sx0 r he0
theorem de0(r:Int):U1 r=some (il0 r):=by
 unfold U1 il0;by_cases h1:r<0
 ·simp[h1]
 by_cases h2:(1114111:Int)<r
 ·simp[h1,h2]
 have b:IntKind.i32.wrap r=r:=IntWalk.i32_in r ⟨by omega,by omega⟩;simp only[h1,h2,Ag,Aa,Bool.or_self,b,gl_0,b9];refine r8 (A:=Unit) he0 (fun i _=>(i:Int)) (fun _ rest=>some (sx0 r rest)) (by simp[he0]) ?_ ?_ ()
 ·intro rec a
  simp[he0,sx0]
 intro rec i a x rest hi c d;have e1:decide ((i:Int)<13)=true:=by grind [he0,ax,aU]
 have e2:nth he0 (i:Int)=some x:=l9 c;have e3:aa.wrap ((i:Int)+1)=((i+1:Nat):Int):=l6 (n:=100) (by grind) (by omega);simp only[he0]at e2;simp only[e1,Ac,e2,b9,e3,sx0];have:=d ()
 grind
theorem wC0(b:ByteArray)(n:Nat):1<=(bS b n).2/\(bS b n).2<=4/\(bS b n).1<=2097151:=by grind [Lib.decode_at,Lib.decodeN]
theorem se0{α β:Type}{F:(α->Option β)->α->Option β}(I:α->Prop)(a:α->Nat)(Q:β->Prop)(h:∀ rec x,I x->(∀ y,I y->a y<a x->∃ v,rec y=some v/\Q v)->∃ v,F rec x=some v/\Q v):∀ (n:Nat) (x:α),I x->a x<n->∃ v,iter F n x=some v/\Q v
 | 0,x,_,hm=>Am hm (Nat.not_lt_zero _)
 | n+1,x,hi,hm=>by show ∃ v,F (iter F n) x=some v/\Q v;exact h _ x hi fun y b c=>se0 I a Q h n y b (by omega)
theorem u4{α β:Type}{F:(α->Option β)->α->Option β}(I:α->Prop)(a:α->Nat)(Q:β->Prop)(h:∀ rec x,I x->(∀ y,I y->a y<a x->∃ v,rec y=some v/\Q v)->∃ v,F rec x=some v/\Q v){x:α}(b:I x)(hm:a x<2^100):∃ v,rounds F x=some v/\Q v :=se0 I a Q h many x b (db hm dn0)
theorem qT0(b:ByteArray)(f:b.size<=1000):∃ r,Z7 b=some r/\(r.2=0\/r.2=4)/\r.1.length<=1000:=by
 unfold Z7;refine u4 (fun x:List Int×Int=>0<=x.2/\x.2<=(b.size:Int)+4/\(x.1.length:Int)<=x.2/\x.1.length<=1000) (fun x:List Int×Int=>((b.size:Int)+4-x.2).toNat) (fun r:List Int×Int=>(r.2=0\/r.2=4)/\r.1.length<=1000) ?_ ⟨by simp,by simp only;omega,by simp,by simp⟩ (by simp only;omega);intro rec x d e;obtain⟨h1,h2,g,h⟩:=d;by_cases a:x.2.toNat<b.size
 ·obtain⟨i,j,k⟩:=wC0 b x.2.toNat
  have hs:pY0 b x.2=some ((x.2.toNat:Int),((bS b x.2.toNat).1:Int),((x.2.toNat+(bS b x.2.toNat).2:Nat):Int)):=by unfold pY0;simp[a]
  have e1:aa.wrap (((bS b x.2.toNat).1:Nat):Int)=(((bS b x.2.toNat).1:Nat):Int):=w64 (by omega) (by omega);have c:G5 8 x.1 [(((bS b x.2.toNat).1:Nat):Int)]=some (x.1++[(((bS b x.2.toNat).1:Nat):Int)]):=y7 (by omega) (by simp;omega);simp only[a,Ai,Ac,hs,b9,e1,de0,c];by_cases hz:il0 (((bS b x.2.toNat).1:Nat):Int)<0
  ·simp[hz]
  simp only[hz,Ag,Aa];exact e _ ⟨by omega,by simp only;omega,by grind,by grind⟩ (by simp only;omega)
 grind
theorem qG0{b:ByteArray}{i:Int}(a:0<=i)(h:i.toNat<b.size):∃ v,oH0 b i=some v:=by unfold oH0;have:b[i.toNat]?=some b[i.toNat]:=getElem?_pos b i.toNat h;simp[a,this]
theorem xA0(b:ByteArray):∃ r,cL0 b=some r:=by
 unfold cL0;cases he:(b.toList==(cG #[]).toList)with
 | true=>exact⟨_,rfl⟩
 | false=>
  simp only[Aa];by_cases g:(40:Int)<(b.size:Int)
  ·simp only[g,Ai,Ac];exact⟨_,rfl⟩
  have h:0<b.size:=by
   refine Nat.pos_of_ne_zero fun hz=>?_;have q:b=cG #[]:=by
    cases b with
    | mk d=>cases d with
     | mk l=>cases l with
      | nil=>rfl
      | cons x l=>simp[ByteArray.size]at hz
   rw[q]at he;simp at he
  obtain⟨r,s,e,t⟩:=qT0 b (by omega);simp only[g,Ag,Aa,s,b9];rcases e with e | e
  ·obtain⟨u,w⟩:=qG0 (b:=b) (i:=0) (by omega) (by simpa using h)
   have e1:aa.wrap ((b.size:Int)-1)=(b.size:Int)-1:=w64 (by omega) (by omega);obtain⟨v11,j⟩:=qG0 (b:=b) (i:=(b.size:Int)-1) (by omega) (by omega);have hc:∃ v,strings_Contains (b,cG #[32,32])=some v:=by
    unfold strings_Contains;have:decide (b.size<4294967281)=true:=by grind
    simp only[this,Ac];exact⟨_,rfl⟩
   obtain⟨k,m⟩:=hc;simp only[e,Ai,aw,Aa,w,b9,e1,j,m];cases decide (u=32)with
   | true=>exact⟨_,rfl⟩
   | false=>
    simp only[Aa];cases decide (v11=32)with
    | true=>exact⟨_,rfl⟩
    | false=>
     simp only[Aa];cases k with
     | true=>exact⟨_,rfl⟩
     | false=>
      simp only[Aa,de0,b9];have:=r8 (A:=Unit) r.1 (β:=List Int×Int) (F:=fun n f=>
       bif decide (f<(r.1.length:Int))then b8 (nth r.1 f) fun o=>bif !decide (il0 o=0)then some (r.1,0)else n (aa.wrap (f+1))else some ([],14)) (fun i _=>(i:Int)) (fun _ rest=>some (bif rest.any (fun c=>!decide (il0 c=0))then (r.1,0)else ([],14))) (by omega) ?_ ?_ ()
      ·exact⟨_,this⟩
      ·grind
      intro rec i a x rest hi z p;simp only[o9 hi,Ac,l9 z,b9,l6 hi (show r.1.length<2^62 by omega),iP,p ()]
      grind
  grind
theorem jT0(b:ByteArray):∃ c,X9 b=some c:=by obtain⟨r,a⟩:=xA0 b;unfold X9;rw[a];exact⟨_,rfl⟩
abbrev Ft:=Int×Int×Int×ByteArray×List Int
theorem Y1{α:Type}(xs:List α)(hl:xs.length<=1000000)(P:α->Option Bool)(p:α->Bool)(hp:∀ x∈xs,P x=some (p x)) :
  rounds (α:=Int) (β:=Bool) (fun c b=>
   bif decide (b<((xs.length:Nat):Int))then b8 (nth xs b) fun v5=>b8 (P v5) fun v10=>bif v10 then some (decide ((0:Int)<=b))else c (aa.wrap (b+(1:Int)))else some false) (0:Int)=some (xs.any p):=by
 refine r8 (A:=Unit) xs (fun i _=>(i:Int)) (fun _ rest=>some (rest.any p)) (by omega) ?_ ?_ ()
 ·grind
 intro rec i a x rest hi d f;have g:x∈xs:=by grind [aX]
 have e:decide ((0:Int)<=(i:Int))=true:=by simp
 simp only[o9 hi,Ac,l9 d,b9,hp x g,l6 hi (show xs.length<2^62 by omega),iP,f (),e];cases p x<;>rfl
def p1(f:Ft):Bool:=decide ((64:Int)<(f.2.2.2.2.length:Int))
theorem pl0(l:List Ft)(hl:l.length<=1000000):p9 (l,())=some (l.any p1):=by unfold p9;simp only[b9];exact Y1 l hl _ p1 fun x _=>rfl
def p2(f:Ft):Bool:=decide (f.1<1)||(decide (1073741824<f.1)||(decide (f.2.2.1<1)||decide (9<f.2.2.1)))
theorem px0(l:List Ft)(hl:l.length<=1000000):j7 (l,())=some (l.any p2):=by
 unfold j7;simp only[b9];refine Y1 l hl _ p2 fun x _=>?_;unfold V1 p2
 grind
theorem tN0(k:Int):∃ s,w6 k=some s:=by
 unfold w6
 repeat' (first | exact⟨_,rfl⟩ | (generalize decide (k=_)=c;cases c<;>simp only[Ac,Aa]))
noncomputable def R0(k:Int):Int:=(w6 k).getD 0
theorem au0(k:Int):w6 k=some (R0 k):=by obtain⟨s,hs⟩:=tN0 k;simp[R0,hs]
noncomputable def p3(f:Ft):Bool:=decide (R0 f.2.1=0)
noncomputable def wN0(b:ByteArray):Int:=(X9 b).getD 0
theorem ye0(b:ByteArray):X9 b=some (wN0 b):=by obtain⟨s,hs⟩:=jT0 b;simp[wN0,hs]
theorem pJ0(l:List Ft)(hl:l.length<=1000000):l5 (l,())=some (l.any p3):=by unfold l5;simp only[b9];refine Y1 l hl _ p3 fun x _=>?_;unfold W4 p3;simp only[au0,b9]
noncomputable def p4(f:Ft):Bool:=bif !(f.2.2.2.1.toList==(cG #[]).toList)then !decide (wN0 f.2.2.2.1=0)else false
theorem pM0(l:List Ft)(hl:l.length<=1000000):j6 (l,())=some (l.any p4):=by
 unfold j6;simp only[b9];refine Y1 l hl _ p4 fun x _=>?_;unfold U9 p4
 grind [ye0,b9]
noncomputable def p5(f:Ft):Bool:=bif decide ((f.2.2.2.2.length:Int)=0)then true else bif decide (R0 f.2.1=1)then decide ((1:Int)<(f.2.2.2.2.length:Int))else false
theorem pb0(l:List Ft)(hl:l.length<=1000000):j8 (l,())=some (l.any p5):=by
 unfold j8;simp only[b9];refine Y1 l hl _ p5 fun x _=>?_;unfold W6 p5
 grind [au0,b9,R0]
noncomputable def lP0(ns:List Nd)(ars:List Ar)(fs:List Int)(k:Int)(id:Int):Bool :=bif decide (R0 k=1)then !(S3 ns id).isSome else bif decide (R0 k=2)then !(cH0 ars id).isSome else bif decide (R0 k=3)then !decide (id∈fs)else true
namespace J0
variable {ns:List Nd} {ars:List Ar} {fs:List Int} (h:J0 ns ars fs)
include h
theorem missing_1_eq(id:Int)(f:Ft):K8 (id,(f.1,f.2.1,f.2.2.1,f.2.2.2.1,f.2.2.2.2),(ns,ars,fs))=some (lP0 ns ars fs f.2.1 id):=by
 have a:=h.lenN;have hF:=h.lenF;unfold K8 lP0;simp only[au0,b9,cR0 ns ars fs id (by omega),h.Arc_eq,eV0,B0 fs id (by omega)]
 grind
theorem missing_eq(f:Ft)(hl:f.2.2.2.2.length<=1000000):O8 ((ns,ars,fs),(f.1,f.2.1,f.2.2.1,f.2.2.2.1,f.2.2.2.2))=some (f.2.2.2.2.any (lP0 ns ars fs f.2.1)):=by unfold O8 y6;simp only[b9];rw[Y1 f.2.2.2.2 hl _ (lP0 ns ars fs f.2.1) fun x _=>h.missing_1_eq x f];rfl
theorem Check_6_eq(l:List Ft)(a:List Ft)(hl:l.length<=1000000)(hp:∀ f∈l,f.2.2.2.2.length<=1000000):j9 (l,(ns,ars,fs,a))=some (l.any fun f=>f.2.2.2.2.any (lP0 ns ars fs f.2.1)):=by unfold j9;simp only[b9];refine Y1 l hl _ _ fun f hf=>?_;unfold W0;simp only[h.missing_eq f (hp f hf),b9]
end J0
def wc0:List Int->Bool
 | []=>true
 | [_]=>true
 | a::b::l=>!decide (b<=a)&&wc0 (b::l)
theorem sU0(l:List Int)(hl:l.length<=1000000):Y5 l=some (wc0 l):=by
 unfold Y5;cases l with
 | nil=>exact bS0 fun rec=>rfl
 | cons p0 l=>
  simp only[ax]at hl;refine(p6 (A:=Int) l (fun i _=>((i+1:Nat):Int)) (fun a rest=>some (wc0 (a::rest))) (fun i a=>(p0::l)[i]?=some a) (by omega) ?_ ?_ p0 rfl)
  ·grind [wc0]
  intro rec i a x rest hi b c f;have d:(p0::l)[i+1]?=some x:=by rw[aI,<-r7];exact l9 c
  have e:((p0::l).length:Int)=((l.length+1:Nat):Int):=by simp
  have e1:aa.wrap (((i+1:Nat):Int)-1)=(i:Int):=by grind [w64]
  have e2:aa.wrap (((i+1:Nat):Int)+1)=((i+1+1:Nat):Int):=l6 (n:=2000000) (by omega) (by omega);simp only[e,o9 (show i+1<l.length+1 by omega),Ac,e1,r7,b,d,b9,e2,wc0]
  grind
abbrev KP:=Int×Int
def qP:KP->KP->Bool:=fun (a b:Int×Int)=>(decide (a.1=b.1)&&decide (a.2=b.2))
def tT0(S:List (KP×Bool))(k:KP):Bool:=(lkp qP k S).getD false
def jv0(k:Int):List Int->List (KP×Bool)->Option (List (KP×Bool))
 | [],S=>some S
 | p::r,S=>bif tT0 S (k,p)then none else jv0 k r (I9 qP (k,p) true S)
noncomputable def hU0:List Ft->List (KP×Bool)->Bool
 | [],_=>false
 | f::r,S=>bif decide (R0 f.2.1=2)then hU0 r S else
  match jv0 (bif decide (R0 f.2.1=3)then f.2.1 else 0) f.2.2.2.2 S with
  | some a=>hU0 r a
  | none=>true
theorem hV0(k:Int)(d:List Int)(hl:d.length<=1000000)(K:Int×List (KP×Bool)->Option Int)(V:Option Int)(S:List (KP×Bool)) :
  rounds (α:=Int×List (KP×Bool)) (β:=Int) (fun g c=>
   bif decide (c.1<((d.length:Nat):Int))then
    b8 (nth d c.1) fun f=>
    b8 (orO (lkp (fun (a b:Int×Int)=>(decide (a.1=b.1)&&decide (a.2=b.2))) (k,f) c.2) (some false)) fun v53=>
    bif v53 then V else g (aa.wrap (c.1+(1:Int)),I9 (fun (a b:Int×Int)=>(decide (a.1=b.1)&&decide (a.2=b.2))) (k,f) true c.2)else K c) ((0:Int),S)=match jv0 k d S with | some h=>K (((d.length:Nat):Int),h) | none=>V:=by
 refine r8 (A:=List (KP×Bool)) d (fun i a=>((i:Int),a)) (fun a rest=>match jv0 k rest a with | some h=>K (((d.length:Nat):Int),h) | none=>V) (by omega) ?_ ?_ S
 ·grind [jv0]
 intro rec i a x rest hi j l;have e:orO (lkp (fun (a b:Int×Int)=>(decide (a.1=b.1)&&decide (a.2=b.2))) (k,x) a) (some false)=some (tT0 a (k,x)):=by unfold tT0;show orO (lkp qP (k,x) a) (some false)=_;cases lkp qP (k,x) a<;>rfl
 simp only[o9 hi,Ac,l9 j,b9,e,l6 hi (show d.length<2^62 by omega),jv0];cases tT0 a (k,x)with
 | true=>rfl
 | false=>exact l _
def wa0:Option Int->List Ft->Bool
 | _,[]=>false
 | a,f::r=>bif (match a with | some p=>decide (f.1<=p) | none=>false)||!(wc0 f.2.2.2.2)then true else wa0 (some f.1) r
noncomputable def cm0(ns:List Nd)(ars:List Ar)(fs:List Int)(l:List Ft):Int :=
 bif !decide (Q8 ns ars fs=0)then Q8 ns ars fs else
 bif decide (128<(l.length:Int))then 3 else
 bif l.any p1 then 3 else
 bif wa0 none l then 10 else
 bif l.any p2 then 2 else
 bif l.any p3 then 9 else
 bif l.any p4 then 14 else
 bif l.any p5 then 1 else
 bif l.any (fun f=>f.2.2.2.2.any (lP0 ns ars fs f.2.1))then 7 else
 bif hU0 l []then 13 else 0
theorem cB0(ns:List Nd)(ars:List Ar)(fs:List Int)(l:List Ft):J3 (ns,ars,fs,l)=some (cm0 ns ars fs l):=by
 unfold J3 cm0;simp only[hN0,b9];cases d:decide (Q8 ns ars fs=0)with
 | false=>simp
 | true=>
  have hp:J0 ns ars fs:=by grind [T6,Q8,H4]
  simp only[aw,Aa];cases h:decide ((128:Int)<(l.length:Int))with
  | true=>rfl
  | false=>
   have hl:l.length<=1000000:=by grind
   simp only[Aa,pl0 l hl,b9];cases h1:l.any p1 with
   | true=>rfl
   | false=>
    have b:∀ f∈l,f.2.2.2.2.length<=1000000:=fun f hf=>by have:=dp.1 h1 f hf;simp only[p1,Ad]at this;omega
    have hlen:l.length<=128:=by grind
    simp only[Aa,px0 l hl,pJ0 l hl,pM0 l hl,pb0 l hl,hp.Check_6_eq l l hl b,b9];refine(p6 (A:=Option Int) l (fun i _=>((i:Int),(i:Int))) (fun a rest=>some (bif wa0 a rest then (10:Int)else bif l.any p2 then 2 else bif l.any p3 then 9 else bif l.any p4 then 14 else bif l.any p5 then 1 else bif l.any (fun f=>f.2.2.2.2.any (lP0 ns ars fs f.2.1))then 7 else bif hU0 l []then 13 else 0))
     (fun i a=>match a with | none=>i=0 | some p=>0<i/\∃ g:Ft,l[i-1]?=some g/\g.1=p) (by omega) ?_ ?_ none rfl).trans ?_
    rotate_left 2
    ·rfl
    ·intro rec a j
     simp only[r9,Aa,wa0];cases l.any p2 with
     | true=>rfl
     | false=>
      cases l.any p3 with
      | true=>rfl
      | false=>
       cases l.any p4 with
       | true=>rfl
       | false=>
        cases l.any p5 with
        | true=>rfl
        | false=>
         cases l.any (fun f=>f.2.2.2.2.any (lP0 ns ars fs f.2.1))with
         | true=>rfl
         | false=>
          simp only[Aa];refine(r8 (A:=List (KP×Bool)) l (fun i a=>((i:Int),a)) (fun a rest=>some (bif hU0 rest a then (13:Int)else 0)) (by omega) ?_ ?_ [])
          ·grind [hU0]
          intro rec i a x rest hi e d;have c:x∈l:=by grind [aX]
          have e2:aa.wrap ((i:Int)+1)=((i+1:Nat):Int):=l6 (n:=2000000) (by omega) (by omega);have e0:decide ((0:Int)<=(i:Int))=true:=by simp
          simp only[o9 hi,Ac,l9 e,b9,au0,e2,e0,hU0];cases decide (R0 x.2.1=2)with
          | true=>exact d a
          | false=>
           simp only[Aa];cases decide (R0 x.2.1=3)with
           | true=>
            simp only[Ac];refine(hV0 x.2.1 x.2.2.2.2 (b x c) _ _ a).trans ?_
            grind
           | false=>
            simp only[Aa];refine(hV0 0 x.2.2.2.2 (b x c) _ _ a).trans ?_
            grind
    intro rec i a x rest hi j e d;have c:x∈l:=by grind [aX]
    have e2:aa.wrap ((i:Int)+1)=((i+1:Nat):Int):=l6 (n:=2000000) (by omega) (by omega);have e0:decide ((0:Int)<=(i:Int))=true:=by simp
    have k:l[i]?=some x:=by rw[<- r7];exact l9 e
    grind [o9,l9,b9,sU0,wa0,wc0,w64,r7]
def eF0(l:List Ft)(id:Int):Option Ft:=l.find? (fun f=>decide (f.1=id))
def noFt:Ft:=(0,0,0,cG #[],[])
theorem yl0(ns:List Nd)(ars:List Ar)(fs:List Int)(l:List Ft)(id:Int)(hl:l.length<=1000000)(hp:∀ f∈l,f.2.2.2.2.length<=1000000) :
  P3 ((ns,ars,fs,l),id)=some (match eF0 l id with | some f=>(f,true) | none=>(noFt,false)):=by
 unfold P3;simp only[b9];refine r8 (A:=Unit) l (fun i _=>(i:Int)) (fun _ rest=>some (match eF0 rest id with | some f=>(f,true) | none=>(noFt,false))) (by omega) ?_ ?_ ()
 ·intro rec a
  simp only[r9,Aa,eF0,List.find?_nil];rfl
 intro rec i a x rest hi d e;have b:x∈l:=by
  have:x∈l.drop i:=by rw[d];simp
  exact aX this
 have c:slices_Clone_int x.2.2.2.2=some x.2.2.2.2:=by unfold slices_Clone_int;rw[y7 (by omega) (by have:=hp x b;simp;omega)];rfl
 simp only[o9 hi,Ac,l9 d,b9,l6 hi (show l.length<2^62 by omega),c];have:=e ();by_cases h:x.1=id
 ·simp[eF0,h]
  exact Prod.ext h.symm rfl
 simp only[h,Ag,Aa,this,eF0,fK]
def mT0(ns:List Nd)(ars:List Ar)(a:Ar):Int:=match pathOf ns ars a.1 with
 | some (p::l)=>L3 p l
 | _=>0
def W7(ns:List Nd)(ars:List Ar)(b:List Int):List Ar->Int
 | []=>0
 | a::r=>(bif (decide (a.2.2.2.2.1∈b)==decide (a.2.2.2.2.2∈b))then 0 else bif decide (a.2.2.2.2.2∈b)then -(mT0 ns ars a)else mT0 ns ars a)+W7 ns ars b r
theorem mY0{β:Type}(p0:Pt)(l:List Pt)(hl:l.length<=1000)(o:nx0 p0)(hc:∀ q∈l,nx0 q)(K:Int×Int->Option β) :
  rounds (α:=Int×Int) (β:=β) (fun f b=>
    bif (decide (b.2<(((p0::l).length:Nat):Int)))then (
     b8 (nth (p0::l) (aa.wrap (b.2-(1:Int)))) fun v31=>
     b8 (nth (p0::l) b.2) fun g=>
     b8 (nth (p0::l) b.2) fun h=>
     b8 (nth (p0::l) (aa.wrap (b.2-(1:Int)))) fun v40=>
     f (aa.wrap (b.1+aa.wrap (aa.wrap (v31.1*g.2)-aa.wrap (h.1*v40.2))),aa.wrap (b.2+(1:Int))))else (
     K b)) ((0:Int),(1:Int))=K (L3 p0 l,((l.length+1:Nat):Int)):=by
 have e:(((p0::l).length:Nat):Int)=((l.length+1:Nat):Int):=by simp
 refine(p6 (A:=Pt×Int) l (fun i a=>(a.2,((i+1:Nat):Int))) (fun a rest=>K (a.2+L3 a.1 rest,((l.length+1:Nat):Int))) (fun i a=>(p0::l)[i]?=some a.1/\nx0 a.1/\-(8796093022208*(i:Int))<=a.2/\a.2<=8796093022208*(i:Int)) (by omega) ?_ ?_ (p0,0) ⟨rfl,o,by simp,by simp⟩).trans (by simp)
 ·intro rec a d
  simp only[e,r9,Aa,L3,fF]
 intro rec i a x rest hi d k p;obtain⟨d,hp,g1,g2⟩:=d;have m:(p0::l)[i+1]?=some x:=by rw[aI,<-r7];exact l9 k
 have j:x∈l:=by
  have:x∈l.drop i:=by rw[k];simp
  exact aX this
 have c:=hc x j;have e1:aa.wrap (((i+1:Nat):Int)-1)=(i:Int):=by rw[w64 (by omega) (by omega)];omega
 have e2:aa.wrap (((i+1:Nat):Int)+1)=((i+1+1:Nat):Int):=l6 (n:=2000000) (by omega) (by omega);simp only[e,o9 (show i+1<l.length+1 by omega),Ac,e1,e2,r7,d,m,b9];obtain⟨w,a2⟩:=bX0 (A:=2097152) hp.1 hp.2.1 c.2.2.1 c.2.2.2;obtain⟨z,B⟩:=bX0 (A:=2097152) c.1 c.2.1 hp.2.2.1 hp.2.2.2;have r:aa.wrap (a.1.1*x.2)=a.1.1*x.2:=w64 (by omega) (by omega);have s:aa.wrap (x.1*a.1.2)=x.1*a.1.2:=w64 (by omega) (by omega);have t:aa.wrap (a.1.1*x.2-x.1*a.1.2)=cA0 a.1 x:=w64 (by omega) (by omega);have u:cA0 a.1 x=a.1.1*x.2-x.1*a.1.2:=rfl;have v:aa.wrap (a.2+cA0 a.1 x)=a.2+cA0 a.1 x:=w64 (by omega) (by omega);rw[r,s,t,v];have:=p (x,a.2+cA0 a.1 x) ⟨m,c,by simp only;omega,by simp only;omega⟩;rw[this];simp only[L3];congr 2;omega
namespace J0
variable {ns:List Nd} {ars:List Ar} {fs:List Int} (h:J0 ns ars fs)
include h
theorem Area_eq(l:List Ft)(id:Int)(hl:l.length<=1000000)(hp:∀ f∈l,f.2.2.2.2.length<=1000000) :
  Z3 ((ns,ars,fs,l),id)=some (match eF0 l id with | some f=>if R0 f.2.1=3 then W7 ns ars f.2.2.2.2 ars else 0 | none=>0):=by
 have w:=h.lenA;have e:H4 ns ars fs=0:=T6.2 h;unfold Z3;simp only[yl0 ns ars fs l id hl hp,b9];cases hf:eF0 l id with
 | none=>rfl
 | some f=>
  have k:f∈l:=bj hf;have r:=hp f k;simp only[aw,Aa,au0,b9];by_cases hs:R0 f.2.1=3
  ·simp only[hs,Ai,aw,Aa,cn0,e,b9,Al]
   refine(p6 (A:=Int) ars (fun i a=>(a,(i:Int))) (fun a rest=>some (a+W7 ns ars f.2.2.2.2 rest)) (fun i a=>-(571746046443520*(i:Int))<=a/\a<=571746046443520*(i:Int)) (by omega) ?_ ?_ 0 ⟨by simp,by simp⟩).trans (by simp)
   ·intro rec a s
    simp only[r9,Aa,W7,fF]
   intro rec i a x rest hi s p m;have g:x∈ars:=by
    have:x∈ars.drop i:=by rw[p];simp
    exact aX this
   have z:=h.num g;have c:x.1=aZ0 x.1:=by unfold aZ0;omega
   obtain⟨p0,pl,b,t,q,cl⟩:=h.dart_path (d:=x.1) ⟨x,g,c⟩;rw[<- c]at b;have e2:aa.wrap ((i:Int)+1)=((i+1:Nat):Int):=l6 (n:=2000000) (by omega) (by omega);obtain⟨B,C⟩:=cf0 pl p0 q cl;have u:-571746046443520<=L3 p0 pl/\L3 p0 pl<=571746046443520:=by omega
   have j:mT0 ns ars x=L3 p0 pl:=by simp only[mT0,b]
   simp only[o9 hi,Ac,l9 p,b9,B0 _ _ (show f.2.2.2.2.length<2^62 by omega),e2,h.Path_eq,b,W7,j];cases decide (x.2.2.2.2.1∈f.2.2.2.2)==decide (x.2.2.2.2.2∈f.2.2.2.2)with
   | true=>simp only[Ac];rw[m a (by omega)];congr 1;omega
   | false=>
    simp only[Aa];refine(mY0 p0 pl (by omega) q cl _).trans ?_;cases decide (x.2.2.2.2.2∈f.2.2.2.2)with
    | true=>
     have v:aa.wrap (0-L3 p0 pl)=-(L3 p0 pl):=by rw[w64 (by omega) (by omega)];omega
     have o:aa.wrap (a+-(L3 p0 pl))=a+-(L3 p0 pl):=w64 (by omega) (by omega);simp only[Ac,v,o];rw[m (a+-(L3 p0 pl)) (by omega)];congr 1;omega
    | false=>have o:aa.wrap (a+L3 p0 pl)=a+L3 p0 pl:=w64 (by omega) (by omega);simp only[Aa,o];rw[m (a+L3 p0 pl) (by omega)];congr 1;omega
  simp only[hs,Ag,aP,Ac,Ah]
end J0
abbrev Rg:=Int×List Int×List (List Int)×List Int
namespace Dp
variable (ns:List Nd) (ars:List Ar)
def C7:List Q2:=T4 ns ars (B8 ns ars) (J0.cyclesOf ns ars)
def bf0(fs:List Int):List Int:=(F5 ars fs.length true (C7 ns ars) [] []).1
def vl0(l:List Int)(L:List Q2):List Rg:=l.zipWith (fun f x=>(f,x.2.1,x.2.2.1,x.2.2.2)) L
def yD0(x y:Rg):Int:=nz0 x.1 y.1
def mM0(fs:List Int):List Rg:=Z9 yD0 (vl0 (bf0 ns ars fs) (C7 ns ars))
end Dp
variable {ars:List Ar} {ns ns':List Nd}
namespace Dp
end Dp
end Go.Ab
namespace Go.Pg
def sm{α:Type}:List α->(α->Int)->Int
 | [],_=>0
 | a::l,f=>f a+sm l f
section
variable {α β:Type}
theorem eM0{f g:α->Int}:∀ {l:List α},(∀ a∈l,f a=g a)->sm l f=sm l g
 | [],_=>rfl
 | a::l,h=>by have h1:=h a (by simp);have h2:=eM0 (f:=f) (g:=g) (l:=l) fun b c=>h b (by simp[c]);simp only[sm,h1,h2]
theorem vN0(f g:α->Int):∀ l:List α,sm l (fun a=>f a+g a)=sm l f+sm l g
 | []=>by simp[sm]
 | a::l=>by have:=vN0 f g l;simp only[sm,this];omega
theorem kb0{f:α->Int}{l:List α}(h:∀ a∈l,f a=0):sm l f=0:=by
 induction l with
 | nil=>rfl
 | cons a l c=>simp only[sm,h a (by simp),c fun b d=>h b (by simp[d])];rfl
theorem hZ0(f:α->Int):∀ l m:List α,sm (l++m) f=sm l f+sm m f
 | [],m=>by simp[sm]
 | a::l,m=>by have:=hZ0 f l m;simp only[eY,sm,this];omega
theorem xn0{f:α->Int}{l m:List α}(h:l.Perm m):sm l f=sm m f:=by
 induction h with
 | nil=>rfl
 | cons x _ a=>simp only[sm,a]
 | swap x y l=>simp only[sm];omega
 | trans _ _ h1 h2=>exact h1.trans h2
theorem hF0(p:α->Bool)(f:α->Int):∀ l:List α,sm (l.filter p) f=sm l (fun a=>if p a then f a else 0)
 | []=>rfl
 | a::l=>by
  have:=hF0 p f l;by_cases h:p a=true
  ·simp only[bI,h,Al,sm,this]
  simp only[bI,h,Ah,sm];simp only[au,Ah];omega
end
end Go.Pg
namespace Go.Ab
open Go Go.Pg
namespace J0
variable {ns:List Nd} {ars:List Ar} {fs:List Int} (h:J0 ns ars fs)
include h
theorem arc_pos{a:Ar}(ha:a∈ars):0<a.1:=by have:=ak.1 h.numA a.1 (bm ha);unfold jo0 at this;simp only[ab,Ad]at this;omega
variable {r:List Sg} (hr:V6 ns ars ars=some r)
include hr
end J0
section
end
namespace J0
variable {ns:List Nd} {ars:List Ar} {fs:List Int} (h:J0 ns ars fs)
variable {r:List Sg} (hr:V6 ns ars ars=some r)
include h hr
end J0
theorem lm0{l:List Int}(a:l.Nodup){i:Nat}(hi:i<l.length):bb0 l l[i]=l[(i+l.length-1)%l.length]'(gN _ (by omega)):=by
 have hm:l[i]∈l:=aq hi;have e:l.idxOf l[i]=i:=by have h1:l.idxOf l[i]<l.length:=List.idxOf_lt_length_iff.2 hm;have h2:l[l.idxOf l[i]]=l[i]:=List.getElem_idxOf h1;exact(c_ a).1 h2
 unfold bb0;rw[Af hm,e,ae (gN _ (by omega))];rfl
theorem dT0(l:List Int):∀ (x:List Int) (m:List (Int×Int)) (d:Int),lkp qI (-d) (x.foldl (fun m d=>I9 (fun (a b:Int)=>decide (a=b)) (-d) (bb0 l d) m) m)=if d∈x then some (bb0 l d)else lkp qI (-d) m
 | [],m,d=>by simp
 | y::x,m,d=>by
  have c:=dT0 l x (I9 qI (-y) (bb0 l y) m) d;show lkp qI (-d) (x.foldl _ (I9 qI (-y) (bb0 l y) m))=_;rw[c,W5];by_cases h1:d∈x
  ·rw[Af h1,Af (bC _ h1)]
  rw[Ae h1];by_cases h2:d=y
  ·subst h2
   rw[Af rfl,Af (ch ..)]
  rw[Ae (by omega),Ae (by simp[h1,h2])]
theorem iq0{d:Int}{l:List Int}(j:d∈l):∀ (L:List (List Int)) (m:List (Int×Int)),l∈L->(∀ k∈L,d∈k->k=l)->lkp qI (-d) (V2 L m)=some (bb0 l d)
 | [],m,hl,_=>by simp at hl
 | k::L,m,hl,hu=>by
  show lkp qI (-d) (V2 L (dZ0 k m))=_;by_cases g:l∈L
  ·exact iq0 j L _ g (fun a hk=>hu a (by simp[hk]))
  have hk:k=l:=by
   rcases aC.1 hl with e | e
   ·exact e.symm
   exact(g e).elim
  subst hk;have no:∀ a∈L,d∉a:=fun a hk h=>g (by have:=hu a (by simp[hk]) h;exact this▸hk);have rest:∀ (b:List (List Int)) (c:List (Int×Int)),(∀ a∈b,d∉a)->lkp qI (-d) (V2 b c)=lkp qI (-d) c:=by
   intro b
   induction b with
   | nil=>intro c _;rfl
   | cons a b n=>intro c f;show lkp qI (-d) (V2 b (dZ0 a c))=_;rw[n _ (fun i hk=>f i (by simp[hk]))];unfold dZ0;rw[dT0,Ae (f a (by simp))]
  rw[rest L _ no];unfold dZ0;rw[dT0,Af j]
namespace J0
variable {ns:List Nd} {ars:List Ar} {fs:List Int} (h:J0 ns ars fs)
include h
theorem around_arc{n:Nd}(c:n∈ns){e:Int}:e∈D3 ns ars n↔∃ a∈ars,(a.2.1=n.1/\e=a.1)\/(a.2.2.1=n.1/\e=-a.1):=by
 rw[(h.around_perm c).mem_iff];constructor
 ·intro he
  obtain⟨p,hp,rfl⟩:=aY.1 he;obtain⟨a,ha,q,i,hc⟩:=h.raw_mem (fun _ ha=>ha) hp;rcases hc with ⟨e,rfl⟩ | ⟨e,rfl⟩
  ·exact⟨a,ha,jo ⟨e,rfl⟩⟩
  exact⟨a,ha,iQ ⟨e,rfl⟩⟩
 rintro ⟨a,ha,hc⟩;obtain⟨f,t,h1,h2,d,_⟩:=h.path ha;have mk:e∈(gw0 ns ars n.1 a).map (·.1)->e∈(R5 ns ars n.1 ars).map (·.1):=fun b=>by obtain⟨x,g,e⟩:=aY.1 b;exact e▸bm (eI.2 ⟨a,ha,g⟩)
 apply mk;unfold gw0;rw[d];rcases hc with ⟨e1,rfl⟩ | ⟨e1,rfl⟩<;>simp[e1]
theorem arc_id{a b:Ar}(ha:a∈ars)(c:b∈ars)(e:a.1=b.1):a=b:=by have h1:=h.arcOf_self ha;rw[e,h.arcOf_self c]at h1;exact(bd h1).symm
theorem node_id{a b:Nd}(ha:a∈ns)(c:b∈ns)(e:a.1=b.1):a=b:=by have h1:=h.nodeOf_self ha;rw[e,h.nodeOf_self c]at h1;exact(bd h1).symm
theorem around_one{n m:Nd}(d:n∈ns)(hm:m∈ns){e:Int}(h1:e∈D3 ns ars n)(h2:e∈D3 ns ars m):n=m:=by
 obtain⟨a,ha,c⟩:=(h.around_arc d).1 h1;obtain⟨b,f,c'⟩:=(h.around_arc hm).1 h2;have p1:=h.arc_pos ha;have p2:=h.arc_pos f;rcases c with ⟨c,rfl⟩ | ⟨c,rfl⟩<;>rcases c' with ⟨c',e⟩ | ⟨c',e⟩
 ·have:=h.arc_id ha f e;subst this;exact h.node_id d hm (c.symm.trans c')
 ·omega
 ·omega
 have:=h.arc_id ha f (by omega);subst this;exact h.node_id d hm (c.symm.trans c')
theorem next_eq{n:Nd}(b:n∈ns){e:Int}(he:e∈D3 ns ars n):gn0 ns ars (-e)=bb0 (D3 ns ars n) e:=by
 unfold gn0 qe0;rw[iq0 he (jc0 ns ars) [] (bm b) (fun k hk a=>by
  obtain⟨m,hm,rfl⟩:=aY.1 hk;rw[h.around_one b hm he a])]
 rfl
theorem around_nodup{n:Nd}(a:n∈ns):(D3 ns ars n).Nodup:=(h.around_perm a).nodup_iff.2 (h.raw_nodup n.1 (fun _ ha=>ha) (F1 h.ascA))
variable {r:List Sg} (hr:V6 ns ars ars=some r)
include hr
end J0
theorem qO0{l:List Int}(a:l.Nodup){x y:Int}(c:x∈l)(d:y∈l)(e:bb0 l x=bb0 l y):x=y:=by
 obtain⟨i,hi,rfl⟩:=aJ c;obtain⟨j,hj,rfl⟩:=aJ d;rw[lm0 a hi,lm0 a hj]at e;have b:=(c_ a).1 e;have md:∀ n,n<l.length->(n+l.length-1)%l.length=if n=0 then l.length-1 else n-1:=by
  intro n a;split
  ·rw[iy (by omega)];omega
  rw[show n+l.length-1=(n-1)+l.length by omega,Nat.add_mod_right,iy (by omega)]
 rw[md i hi,md j hj]at b;have:i=j:=by (repeat' split at b)<;>omega
 subst this;rfl
namespace J0
variable {ns:List Nd} {ars:List Ar} {fs:List Int} (h:J0 ns ars fs)
include h
theorem next_inj{d e:Int}(f:d∈dartsL ns ars)(he:e∈dartsL ns ars)(a:gn0 ns ars d=gn0 ns ars e):d=e:=by
 have find:∀ x,x∈dartsL ns ars->∃ n∈ns,-x∈D3 ns ars n:=fun x g=>by have:=h.neg_darts g;obtain⟨l,hl,c⟩:=bD.1 this;obtain⟨n,b,rfl⟩:=aY.1 hl;exact⟨n,b,c⟩
 obtain⟨n,b,h1⟩:=find d f;obtain⟨m,hm,h2⟩:=find e he;have e1:=h.next_eq b h1;have e2:=h.next_eq hm h2;rw[gT]at e1 e2;have q1:=ig0 h1;have q2:=ig0 h2;rw[<- e1,a,e2]at q1;have:=h.around_one b hm q1 q2;subst this;rw[e1,e2]at a;have:=qO0 (h.around_nodup b) h1 h2 a;omega
variable {r:List Sg} (hr:V6 ns ars ars=some r)
include hr
end J0
end Go.Ab
namespace Go.Ab
open Go
def itD(nx:Int->Int)(d:Int):Nat->Int
 | 0=>d
 | n+1=>nx (itD nx d n)
def gi0(nx:Int->Int)(d:Int)(m:Nat):List Int:=(bE m).map (itD nx d)
theorem lt0(nx:Int->Int)(d:Int)(m:Nat):gi0 nx d (m+1)=gi0 nx d m++[itD nx d m]:=by unfold gi0;rw[List.range_succ,cF];rfl
theorem at0{nx:Int->Int}{d:Int}{m:Nat}{x:Int}:x∈gi0 nx d m↔∃ i,i<m/\itD nx d i=x:=by unfold gi0;simp
theorem tA0{nx:Int->Int}{d:Int}{m:Nat}(a:(gi0 nx d m).Nodup){i j:Nat}(hi:i<m)(hj:j<m)(e:itD nx d i=itD nx d j):i=j:=by
 unfold gi0 at a;have h1:i<((bE m).map (itD nx d)).length:=by simpa using hi
 have h2:j<((bE m).map (itD nx d)).length:=by simpa using hj
 exact(c_ (h₀:=h1) (h₁:=h2) a).1 (by simpa using e)
section
variable {nx:Int->Int} {D:List Int} (hD:∀ d∈D,nx d∈D) (inj:∀ d∈D,∀ e∈D,nx d=nx e->d=e)
theorem ec0(hD:∀ d∈D,nx d∈D){d:Int}(a:d∈D):∀ n,itD nx d n∈D
 | 0=>a
 | n+1=>hD _ (ec0 hD a n)
include hD inj
theorem hB0{d:Int}(f:d∈D){c:List Int}(g:∀ y∈c,∃ x∈c,nx x=y)(s0:∀ x∈c,x∈D)(h:d∉c):∀ (n m:Nat),(c++gi0 nx d m).Nodup->P2 D (c++gi0 nx d m)<n ->
  ∃ i,0<i/\itD nx d i=d/\M6 nx n (c++gi0 nx d m) (itD nx d m) (gi0 nx d m)=(gi0 nx d i,c++gi0 nx d i)/\(c++gi0 nx d i).Nodup
 | 0,m,_,hu=>by omega
 | n+1,m,l,hu=>by
  unfold M6;have k:=(dq.1 l).2.2;by_cases hm:itD nx d m∈c++gi0 nx d m
  ·rw[Af hm]
   have key:0<m/\itD nx d m=d:=by
    rcases aK.1 hm with h1 | h1
    ·exfalso
     cases m with
     | zero=>exact h h1
     | succ m=>obtain⟨x,q,e⟩:=g _ h1;have:=inj x (s0 x q) _ (ec0 hD f m) e;exact k x q x (at0.2 ⟨m,by omega,this.symm⟩) rfl
    obtain⟨j,hj,e⟩:=at0.1 h1;refine⟨by omega,?_⟩;cases j with
    | zero=>exact e.symm
    | succ j=>
     exfalso;cases m with
     | zero=>omega
     | succ m=>have:=inj _ (ec0 hD f j) _ (ec0 hD f m) e;have:=tA0 (dq.1 l).2.1 (by omega) (by omega) this;omega
   exact⟨m,key.1,key.2,rfl,l⟩
  rw[Ae hm];have e:c++gi0 nx d m++[itD nx d m]=c++gi0 nx d (m+1):=by rw[lt0,df]
  have o:=gU0 (ec0 hD f m) hm;rw[e]at o ⊢;rw[<- lt0];refine hB0 f g s0 h n (m+1) ?_ (by omega);rw[<- e];refine dq.2 ⟨l,by simp,?_⟩;intro a ha b r p;simp at r;exact hm (r▸p▸ha)
structure Cyc(nx:Int->Int)(D:List Int)(cs:List (List Int)):Prop where
 orb:∀ c∈cs,∃ d m,d∈D/\0<m/\itD nx d m=d/\c=gi0 nx d m
 nodup:cs.flatten.Nodup
theorem xo0{cs:List (List Int)}(hc:Cyc nx D cs):∀ y∈cs.flatten,∃ x∈cs.flatten,nx x=y:=by
 intro y b;obtain⟨c,a,b⟩:=bD.1 b;obtain⟨d,m,f,hm,he,rfl⟩:=hc.orb c a;obtain⟨i,hi,rfl⟩:=at0.1 b;cases i with
 | zero=>exact⟨itD nx d (m-1),bD.2 ⟨_,a,at0.2 ⟨m-1,by omega,rfl⟩⟩,by
   have:itD nx d (m-1+1)=d:=by rw[show m-1+1=m by omega];exact he
   exact this⟩
 | succ i=>exact⟨itD nx d i,bD.2 ⟨_,a,at0.2 ⟨i,by omega,rfl⟩⟩,rfl⟩
theorem xx0{cs:List (List Int)}(hc:Cyc nx D cs):∀ y∈cs.flatten,y∈D:=by intro y a;obtain⟨c,b,a⟩:=bD.1 a;obtain⟨d,m,f,hm,he,rfl⟩:=hc.orb c b;obtain⟨i,hi,rfl⟩:=at0.1 a;exact ec0 hD f i
theorem ej0:∀ (b:List Int) (acc:List (List Int)),(∀ d∈b,d∈D)->Cyc nx D acc->Cyc nx D (R3 nx D b acc.flatten acc)/\∀ d,(d∈b\/d∈acc.flatten)->d∈(R3 nx D b acc.flatten acc).flatten
 | [],acc,_,hc=>⟨hc,fun d a=>by
   rcases a with a | a
   ·simp at a
   exact a⟩
 | d::b,acc,f,hc=>by
  have a:=f d (by simp);unfold R3;by_cases hs:d∈acc.flatten
  ·rw[Af hs]
   obtain⟨i1,i2⟩:=ej0 b acc (fun e he=>f e (by simp[he])) hc;refine⟨i1,fun e he=>i2 e ?_⟩;rcases he with he | he
   ·rcases aC.1 he with rfl | he
    ·exact iQ hs
    exact jo he
   exact iQ he
  rw[Ae hs];have hz:acc.flatten++gi0 nx d 0=acc.flatten:=by simp[gi0]
  obtain⟨m,hm,he,hf,k⟩:=hB0 hD inj a (xo0 hD inj hc) (xx0 hD inj hc) hs (P2 D acc.flatten+1) 0 (by rw[hz];exact hc.nodup) (by rw[hz];omega);rw[hz]at hf;have i:M6 nx (P2 D acc.flatten+1) acc.flatten d []=(gi0 nx d m,acc.flatten++gi0 nx d m):=hf;simp only[i];have e:acc.flatten++gi0 nx d m=(acc++[gi0 nx d m]).flatten:=by simp
  have j:Cyc nx D (acc++[gi0 nx d m]):=by
   refine⟨fun c h=>?_,by rw[<- e];exact k⟩;rcases aK.1 h with h | h
   ·exact hc.orb c h
   simp at h;exact⟨d,m,a,hm,he,h⟩
  rw[e];obtain⟨i1,i2⟩:=ej0 b _ (fun e he=>f e (by simp[he])) j;refine⟨i1,fun x g=>i2 x ?_⟩;rcases g with g | g
  ·rcases aC.1 g with rfl | g
   ·exact iQ (by rw[<- e];exact eP _ (at0.2 ⟨0,hm,rfl⟩))
   exact jo g
  exact iQ (by rw[<- e];exact dO _ g)
end
open Go.Pg
namespace J0
variable {ns:List Nd} {ars:List Ar} {fs:List Int} (h:J0 ns ars fs)
include h
theorem cyc_all:Cyc (gn0 ns ars) (dartsL ns ars) (cyclesOf ns ars)/\∀ d∈dartsL ns ars,d∈(cyclesOf ns ars).flatten:=by have hp:=dJ (dartsL ns ars) (fun a b=>decide (a<=b));obtain⟨i1,i2⟩:=ej0 (nx:=gn0 ns ars) (D:=dartsL ns ars) (fun d f=>h.next_mem f) (fun d f e he x=>h.next_inj f he x) ((dartsL ns ars).mergeSort fun a b=>decide (a<=b)) [] (fun d f=>hp.mem_iff.1 f) ⟨fun c hc=>by simp at hc,by simp⟩;exact⟨i1,fun d f=>i2 d (jo (hp.mem_iff.2 f))⟩
theorem cyc_dart{c:List Int}(hc:c∈cyclesOf ns ars){d:Int}(a:d∈c):d∈dartsL ns ars:=by obtain⟨e,m,he,hm,_,rfl⟩:=h.cyc_all.1.orb c hc;obtain⟨i,_,rfl⟩:=at0.1 a;exact ec0 (fun d a=>h.next_mem a) he i
variable {r:List Sg} (hr:V6 ns ars ars=some r)
end J0
open Classical
theorem kS0(ns:List Nd)(ars:List Ar):∀ c:List Int,G8 ns ars c=sm c (ha0 ns ars)
 | []=>rfl
 | d::c=>by show ha0 ns ars d+G8 ns ars c=_;rw[kS0 ns ars c];rfl
namespace J0
variable {ns:List Nd} {ars:List Ar} {fs:List Int} (h:J0 ns ars fs)
variable {r:List Sg} (hr:V6 ns ars ars=some r)
include h
end J0
namespace J0
variable {ns:List Nd} {ars:List Ar} {fs:List Int} (h:J0 ns ars fs)
variable {r:List Sg} (hr:V6 ns ars ars=some r)
include h
theorem cyc_ne{c:List Int}(hc:c∈cyclesOf ns ars):∃ d,d∈c:=by obtain⟨e,m,he,hm,_,rfl⟩:=h.cyc_all.1.orb c hc;exact⟨_,at0.2 ⟨0,hm,rfl⟩⟩
end J0
namespace J0
variable {ns:List Nd} {ars:List Ar} {fs:List Int} (h:J0 ns ars fs)
variable {r:List Sg} (hr:V6 ns ars ars=some r)
include h
theorem cycles_nodup:(cyclesOf ns ars).Nodup:=by have hp:=(dx.1 h.cyc_all.1.nodup).2;refine hp.imp_of_mem fun {c c'} hc b f e=>?_;obtain⟨d,a⟩:=h.cyc_ne hc;exact f d a d (e▸a) rfl
end J0
def fxA(x:Q2):Int×List Int:=(x.1,x.2.1)
theorem gc0{m:List (Int×List Pt)}{at':Pt}{L c:List Q2}(d:L.map fxA=c.map fxA):∀ (r a:List Q2) (i b:Nat),r.map fxA=a.map fxA->dC0 m at' L r i b=dC0 m at' c a i b
 | [],[],_,_,_=>rfl
 | [],_::_,_,_,h=>by simp at h
 | _::_,[],_,_,h=>by simp at h
 | x::r,y::a,i,b,h=>by
  simp only[ay,b_,fxA,bV]at h;have f:yx0 L b=yx0 c b:=by have:=Ap (fun l=>(l[b]?).map Prod.fst) d;simp only[aM,dU]at this;have e:(Prod.fst ∘ fxA)=fun x:Q2=>x.1:=rfl;rw[e]at this;unfold yx0;rw[this]
  simp only[dC0];rw[h.1.1,h.1.2,f];exact gc0 d r a _ _ (by simpa[fxA]using h.2)
theorem mw0{m:List (Int×List Pt)}{L a:List Q2}(b:L.map fxA=a.map fxA)(at':Pt):cq0 m L at'=cq0 m a at':=by unfold cq0;refine gc0 b _ _ _ _ ?_;rw[iR,iR,b]
theorem yq0(L:List Q2)(k:Nat)(c:List Int):(addI L k c).map fxA=L.map fxA:=by
 unfold addI;cases a:L[k]? with
 | none=>rfl
 | some x=>
  simp only[List.map_set];refine List.ext_getElem? fun i=>?_;rw[bW];by_cases e:k=i
  ·subst e
   have hk:k<L.length:=by
    rcases cE k L.length with q | q
    ·exact q
    rw[bz q]at a;cases a
   rw[Af rfl,Af (by simpa using hk),aM,a];rfl
  rw[Ae e]
theorem tP0(L:List Q2)(k:Nat)(c:List Int)(i:Nat):(addI L k c)[i]?=(L[i]?).map (fun x=>(x.1,x.2.1,x.2.2.1++(if k=i then [c]else []),x.2.2.2)):=by
 unfold addI;cases a:L[k]? with
 | none=>
  by_cases e:k=i
  ·subst e;rw[a];rfl
  simp[e]
 | some x=>
  have hk:k<L.length:=by
   rcases cE k L.length with q | q
   ·exact q
   rw[bz q]at a;cases a
  simp only;rw[bW];by_cases e:k=i
  ·subst e
   rw[Af rfl,Af hk,a];simp
  rw[Ae e];simp[e]
theorem nt0{m:List (Int×List Pt)}{a:List Q2}:∀ (R:List (List Int)) (L:List Q2),L.map fxA=a.map fxA->∀ (k:Nat),(inF m R L)[k]?=(L[k]?).map (fun x=>(x.1,x.2.1,x.2.2.1++R.filter (fun c=>decide (cq0 m a (bA0 m c)=k)),x.2.2.2))
 | [],L,_,k=>by simp[inF]
 | c::R,L,b,k=>by
  have e:=mw0 (m:=m) b (bA0 m c);simp only[inF];rw[nt0 R _ ((yq0 L _ c).trans b) k,tP0,dU,e];congr 1;funext x;simp only[gZ,df,bI];by_cases q:cq0 m a (bA0 m c)=k
  ·simp[q]
  simp[q]
theorem ur0(L:List Q2)(k:Nat)(c:Int)(i:Nat):((addN L k c)[i]?).map (fun x=>(x.1,x.2.1,x.2.2.1))=(L[i]?).map (fun x=>(x.1,x.2.1,x.2.2.1)):=by
 unfold addN;cases a:L[k]? with
 | none=>rfl
 | some x=>
  have hk:k<L.length:=by
   rcases cE k L.length with q | q
   ·exact q
   rw[bz q]at a;cases a
  simp only;rw[bW];by_cases e:k=i
  ·subst e
   rw[Af rfl,Af hk,a];rfl
  rw[Ae e]
theorem kK0{ns:List Nd}{ars:List Ar}{m:List (Int×List Pt)}:∀ (R:List Nd) (L:List Q2) (i:Nat),((aloF ns ars m R L)[i]?).map (fun x=>(x.1,x.2.1,x.2.2.1))=(L[i]?).map (fun x=>(x.1,x.2.1,x.2.2.1))
 | [],_,_=>rfl
 | n::R,L,i=>by
  simp only[aloF];rw[kK0 R];cases decide (db0 ars n.1=0)
  ·rfl
  exact ur0 L _ _ i
theorem je0{ars:List Ar}{k:Nat}:∀ {l:List Q2} {seen out:List Int},(F5 ars k false l seen out).2=true->∀ a∈l,∃ f,∀ c∈N2 a,∀ d∈c,C8 ars d=f
 | [],_,_,_,a,ha=>by simp at ha
 | x::l,seen,out,h,a,ha=>by
  simp only[F5]at h;cases h1:decide (C8 ars (x.2.1.headD 0)=0)||decide (C8 ars (x.2.1.headD 0)∈seen)with
  | true=>rw[h1,Ac]at h;cases h
  | false=>
   rw[h1,Aa]at h;cases h2:(N2 x).all (fun c=>c.all fun d=>decide (C8 ars d=C8 ars (x.2.1.headD 0)))with
   | false=>rw[h2,Aa]at h;cases h
   | true=>
    rw[h2,Ac]at h;rcases aC.1 ha with rfl | ha
    ·refine⟨C8 ars (a.2.1.headD 0),fun c hc d b=>?_⟩
     exact Aj (ak.1 (ak.1 h2 c hc) d b)
    exact je0 h a ha
theorem mg0{ars:List Ar}{k:Nat}{a:Q2}{l:List Q2}(h:(F5 ars k true (a::l) [] []).2=true):(∀ c∈N2 a,∀ d∈c,C8 ars d=0)/\∀ b∈l,∃ f,∀ c∈N2 b,∀ d∈c,C8 ars d=f:=by
 simp only[F5]at h;cases h2:(N2 a).all (fun c=>c.all fun d=>decide (C8 ars d=0))with
 | false=>rw[h2,Aa]at h;cases h
 | true=>rw[h2,Ac]at h;exact⟨fun c hc d e=>Aj (ak.1 (ak.1 h2 c hc) d e),je0 h⟩
theorem nH0{α:Type}(p:α->Bool)(f:α->Int)(l:List α):sm l f=sm (l.filter p) f+sm (l.filter (fun a=>!p a)) f:=by rw[hF0,hF0,<-vN0];refine eM0 fun a _=>?_;cases p a<;>simp
theorem qA0{α:Type}(g:α->Int):∀ cs:List (List α),sm cs.flatten g=sm cs (fun c=>sm c g)
 | []=>rfl
 | c::cs=>by rw[bN,hZ0,qA0 g cs];rfl
noncomputable def qX0(ns:List Nd)(ars:List Ar)(a:List Int)(d:Int):Int:=if C8 ars d∈a then ha0 ns ars d else 0
namespace J0
variable {ns:List Nd} {ars:List Ar} {fs:List Int} (h:J0 ns ars fs)
include h
theorem areaS_darts(c:List Int):∀ l:List Ar,(∀ a∈l,a∈ars)->W7 ns ars c l=sm (l.flatMap fun a=>[a.1,-a.1]) (qX0 ns ars c)
 | [],_=>rfl
 | a::l,hl=>by
  have ha:=hl a (by simp);have f:=h.num ha;have d:=areaS_darts c l fun b e=>hl b (by simp[e]);rw[List.flatMap_cons,hZ0,<-d];have e1:aZ0 a.1=a.1:=by unfold aZ0;omega
  have e2:aZ0 (-a.1)=a.1:=by unfold aZ0;omega
  have s1:C8 ars a.1=a.2.2.2.2.1:=by unfold C8;rw[Ae (by omega),e1,h.arcOf_self ha];simp only;rw[Af (by omega)]
  have s2:C8 ars (-a.1)=a.2.2.2.2.2:=by unfold C8;rw[Ae (by omega),e2,h.arcOf_self ha];simp only;rw[Ae (by omega)]
  have d1:ha0 ns ars a.1=mT0 ns ars a:=by
   unfold ha0 mT0;rw[e1];cases pathOf ns ars a.1 with
   | none=>rfl
   | some p=>cases p with
    | nil=>rfl
    | cons p l=>simp only;rw[Ae (by omega)]
  have d2:ha0 ns ars (-a.1)=-(mT0 ns ars a):=by
   unfold ha0 mT0;rw[e2];cases pathOf ns ars a.1 with
   | none=>rfl
   | some p=>cases p with
    | nil=>rfl
    | cons p l=>simp only;rw[Af (by omega)]
  simp only[W7,sm];unfold qX0;rw[s1,s2,d1,d2];by_cases q1:a.2.2.2.2.1∈c<;>by_cases q2:a.2.2.2.2.2∈c<;>simp[q1,q2]<;>omega
theorem areaS_cycles(g:List Int):W7 ns ars g ars=sm (cyclesOf ns ars) (fun c=>sm c (qX0 ns ars g)):=by
 rw[h.areaS_darts g ars (fun _ ha=>ha),<-qA0];refine xn0 ((fO ?_ h.cyc_all.1.nodup).2 fun d=>?_)
 ·refine List.pairwise_flatMap.2 ⟨fun a ha=>?_,?_⟩
  ·have:=h.num ha
   simp only[cI,aT,dM,ec,and_true];exact⟨fun b f=>by omega,fun b f=>f.elim⟩
  have hp:ars.Pairwise (fun a b=>a.1<b.1):=fj.1 (F1 h.ascA);refine hp.imp_of_mem fun {a b} ha f l x j y k=>?_;have:=h.num ha;have:=h.num f;simp only[aC,dM,or_false]at j k;rcases j with rfl | rfl<;>rcases k with rfl | rfl<;>omega
 have e:d∈(cyclesOf ns ars).flatten↔d∈dartsL ns ars:=by
  constructor
  ·intro i
   obtain⟨c,hc,i⟩:=bD.1 i;exact h.cyc_dart hc i
  exact h.cyc_all.2 d
 rw[e,h.mem_darts];simp[eI]
end J0
end Go.Ab
namespace Go.Ab
open Go Go.Sort Go.Proofs Go.Shelf
theorem fz0{ars:List Ar}{k:Nat}:∀ (L:List Q2) (b:Bool) (seen out:List Int),(F5 ars k b L seen out).2=true->(F5 ars k b L seen out).1.length=out.length+L.length
 | [],b,seen,out,_=>by cases b<;>rfl
 | x::L,true,seen,out,h=>by
  simp only[F5]at h ⊢;cases hc:(N2 x).all (fun c=>c.all fun d=>decide (C8 ars d=0))with
  | false=>rw[hc]at h;simp at h
  | true=>rw[hc,Ac]at h;rw[Ac,fz0 L _ _ _ h];simp only[aH,ax,aU];omega
 | x::L,false,seen,out,h=>by
  simp only[F5]at h ⊢;generalize C8 ars (x.2.1.headD 0)=f at h ⊢;cases a:decide (f=0)||decide (f∈seen)with
  | true=>rw[a]at h;simp at h
  | false=>
   rw[a,Aa]at h;rw[Aa];cases hc:(N2 x).all (fun c=>c.all fun d=>decide (C8 ars d=f))with
   | false=>rw[hc]at h;simp at h
   | true=>rw[hc,Ac]at h;rw[Ac,fz0 L _ _ _ h];simp only[aH,ax,aU];omega
namespace Dp
theorem cS0(l:List Rg):Ordered yD0 l :=ax0 (fun x _=>by grind [yD0,O4]) (fun x _ y _ z _ a b=>by unfold yD0 at *;rw[O4]at *;omega) (fun x _ y _ z _ a b=>by unfold yD0 at *;rw[O4]at *;omega)
theorem tq0{l:List Rg}(hl:l.length<=1000000):slices_SortFunc_api_Region_region_Regions_1 (l,4,())=some (Z9 yD0 l):=by unfold slices_SortFunc_api_Region_region_Regions_1;simp only[Ai,Ac];refine dr0 (fun x _ y _=>?_) (cS0 l) (by omega);unfold M9;simp only[cmp_eq,b9];rfl
section
variable {ns:List Nd} {ars:List Ar} {fs:List Int} (h:J0 ns ars fs) (hf:(F5 ars fs.length true (C7 ns ars) [] []).2=true)
include h hf
theorem sh0:(bf0 ns ars fs).length=(C7 ns ars).length:=by grind [bf0,fz0]
theorem rD0:(vl0 (bf0 ns ars fs) (C7 ns ars)).length=(C7 ns ars).length:=by unfold vl0;rw[List.length_zipWith,sh0 h hf,Nat.min_self]
theorem pT0:H5 (ns,ars,fs)=some (mM0 ns ars fs,0):=by
 obtain⟨d,hlen⟩:=h.areas_ok;have b:=h.faces_eq (l:=C7 ns ars) hlen (fun a ha=>by obtain⟨h1,h2,g⟩:=d.all a ha;exact⟨h1,h2,by omega⟩) d.ne;have hdiv:D5 ((ns,ars,fs),J0.cyclesOf ns ars,B8 ns ars)=some (C7 ns ars):=h.divide_eq h.cycs_ok;have hz:=rD0 h hf;have hl:=sh0 h hf;unfold H5;simp only[h.Cycles_eq,b9,Ai,aw,Aa,h.pathsOf_eq,hdiv,b,hf];have c:(C7 ns ars).length<=1000000:=hlen;refine(p6 (A:=List Rg) (vl0 (bf0 ns ars fs) (C7 ns ars)) (fun i a=>(a,(i:Int))) (fun a rest=>some (Z9 yD0 (a++rest),0)) (fun i a=>a.length=i) (by omega) ?_ ?_ [] rfl).trans rfl
 ·grind [tq0,b9]
 intro rec i a x rest hi j f k;rw[hz]at hi;have e:(vl0 (bf0 ns ars fs) (C7 ns ars))[i]?=some x:=by rw[<- r7];exact l9 f
 unfold vl0 at e;rw[List.getElem?_zipWith]at e
 grind [bf0,ae,C7,bd,F5,o9,r7,b9,y7,l6]
end
end Dp
end Go.Ab
namespace Go.Ab
open Go Go.Pg
def fcA(ars:List Ar)(a:Q2):Int:=C8 ars (a.2.1.headD 0)
theorem gZ0{ars:List Ar}{k:Nat}:∀ {l:List Q2} {seen out:List Int},(F5 ars k false l seen out).2=true->seen.Nodup ->
  (F5 ars k false l seen out).1=out++l.map (fcA ars)/\(seen++l.map (fcA ars)).Nodup/\(0:Int)∉l.map (fcA ars)/\seen.length+l.length=k/\∀ a∈l,∀ c∈N2 a,∀ d∈c,C8 ars d=fcA ars a
 | [],seen,out,h,f=>by simp only[F5,Ad]at h;refine⟨by simp[F5],by simpa using f,by simp,?_,by simp⟩;simp only[aU];omega
 | x::l,seen,out,h,f=>by
  simp only[F5]at h ⊢;cases h1:decide (C8 ars (x.2.1.headD 0)=0)||decide (C8 ars (x.2.1.headD 0)∈seen)with
  | true=>rw[h1,Ac]at h;cases h
  | false=>
   rw[h1,Aa]at h;rw[Aa];cases h2:(N2 x).all (fun c=>c.all fun d=>decide (C8 ars d=C8 ars (x.2.1.headD 0)))with
   | false=>rw[h2,Aa]at h;cases h
   | true=>
    rw[h2,Ac]at h;rw[Ac];simp only[Bool.or_eq_false_iff,An]at h1;have g:(seen++[C8 ars (x.2.1.headD 0)]).Nodup:=by rw[dq];exact⟨f,by simp,fun a ha b j=>by rw[aT.1 j];exact fun e=>h1.2 (e▸ha)⟩
    obtain⟨q1,q2,q3,q4,q5⟩:=gZ0 h g;refine⟨by rw[q1];simp[fcA],by simpa[fcA]using q2,?_,by simp only[aH,ax,aU]at q4 ⊢;omega,fun a ha c hc d i=>?_⟩
    ·simp only[ay,aC,not_or]
     exact⟨fun e=>h1.1 e.symm,q3⟩
    rcases aC.1 ha with rfl | ha
    ·exact Aj (ak.1 (ak.1 h2 c hc) d i)
    exact q5 a ha c hc d i
namespace Dp
section
variable {ns:List Nd} {ars:List Ar} {fs:List Int} (h:J0 ns ars fs) (hf:(F5 ars fs.length true (C7 ns ars) [] []).2=true)
include h hf
theorem gH0{r:Rg}(X:r∈mM0 ns ars fs)(E:r.2.1≠[])(hi:r.2.2.1=[]):r.1≠0/\r.2.1∈J0.cyclesOf ns ars/\0<G8 ns ars r.2.1/\(∀ d∈r.2.1,C8 ars d=r.1)/\∀ d∈J0.dartsL ns ars,C8 ars d=r.1->d∈r.2.1:=by
 have hz:r∈vl0 (bf0 ns ars fs) (C7 ns ars):=(L1 (cS0 _)).mem_iff.1 X;have G:∃ cs,cs=J0.cyclesOf ns ars:=⟨_,rfl⟩;obtain⟨cs,p⟩:=G;have Y:C7 ns ars=T4 ns ars (B8 ns ars) cs:=by rw[p];rfl
 let m:=B8 ns ars
 let outs:=cs.filter fun c=>decide (0<G8 ns ars c)
 let q:=cs.filter fun c=>!decide (0<G8 ns ars c)
 let fd:List Int->Nat:=fun c=>cq0 m (iB0 ns ars cs) (bA0 m c)
 have N6:∀ k,((C7 ns ars)[k]?).map (fun x=>(x.1,x.2.1,x.2.2.1))=((iB0 ns ars cs)[k]?).map (fun x=>(x.1,x.2.1,x.2.2.1++q.filter (fun c=>decide (fd c=k)))):=fun k=>by rw[Y];unfold T4;rw[kK0,nt0 _ _ rfl k,dU];rfl
 have o:(iB0 ns ars cs).length=outs.length+1:=by unfold iB0;simp[outs]
 have H:∀ c,fd c<outs.length+1:=fun c=>by
  rw[<- o];refine ii0 m _ _ _ 1 0 _ ?_ ?_
  ·rw[List.length_tail];omega
  omega
 cases f:C7 ns ars with
 | nil=>have h1:=N6 0;rw[f]at h1;simp[iB0]at h1
 | cons a0 l=>
  have w:∀ c∈N2 a0,∀ d∈c,C8 ars d=0:=by rw[f]at hf;exact(mg0 hf).1
  have I:(F5 ars fs.length false l [] [0]).2=true:=by
   rw[f]at hf;simp only[F5]at hf;cases h2:(N2 a0).all (fun c=>c.all fun d=>decide (C8 ars d=0))with
   | false=>rw[h2,Aa]at hf;cases hf
   | true=>rw[h2,Ac]at hf;exact hf
  obtain⟨q1,q2,q3,q4,q5⟩:=gZ0 I .nil;have J:bf0 ns ars fs=0::l.map (fcA ars):=by
   unfold bf0;rw[f];simp only[F5];have h2:(N2 a0).all (fun c=>c.all fun d=>decide (C8 ars d=0))=true:=by rw[ak];intro c hc;rw[ak];intro d f;exact Ao (w c hc d f)
   rw[h2,Ac];exact q1
  have s:a0.2.1=[]:=by have h1:=N6 0;rw[f]at h1;simp only[iB0,bX,aj,ai,bV]at h1;exact h1.2.1
  have K:∃ a∈l,r=(fcA ars a,a.2.1,a.2.2.1,a.2.2.2):=by
   rw[J,f]at hz;unfold vl0 at hz;rw[List.zipWith_cons_cons]at hz;rcases aC.1 hz with e | hz
   ·rw[e]at E;exact(E s).elim
   rw[List.zipWith_map_left]at hz;obtain⟨i,hi,e⟩:=aJ hz;rw[List.getElem_zipWith]at e;exact⟨_,aq _,e.symm⟩
  obtain⟨a,ha,rfl⟩:=K;simp only at E hi ⊢;have z:fcA ars a≠0:=fun e=>q3 (e▸bm ha);obtain⟨k,hk,t⟩:=aJ ha;have L:(C7 ns ars)[k+1]?=some a:=by rw[f,aI,ae hk,t]
  have B:∃ C,outs[k]?=some C/\a.2.1=C/\a.2.2.1=q.filter (fun c=>decide (fd c=k+1)):=by
   have h1:=N6 (k+1);rw[L]at h1;unfold iB0 at h1;rw[aI,aM]at h1;cases D:(cs.filter fun c=>decide (0<G8 ns ars c))[k]? with
   | none=>rw[D]at h1;simp at h1
   | some C=>rw[D]at h1;simp only[aj,ai,bV,bG]at h1;exact⟨C,rfl,h1.2.1,h1.2.2⟩
  obtain⟨C,D,e1,e2⟩:=B;obtain⟨M,N⟩:=bc.1 (aD D);refine⟨z,by rw[e1,<-p];exact M,by rw[e1];exact Aj N,fun d f=>q5 a ha _ (ch ..) d f,fun d O hs=>?_⟩;obtain⟨c,hc,u⟩:=bD.1 (h.cyc_all.2 d O);rw[<- p]at hc;have P:∃ i:Nat,∃ b,(C7 ns ars)[i]?=some b/\c∈N2 b:=by
   by_cases hp:0<G8 ns ars c
   ·obtain⟨j,hj,Q⟩:=aJ (show c∈outs from bc.2 ⟨hc,Ao hp⟩)
    have h1:=N6 (j+1);have n:(iB0 ns ars cs)[j+1]?=some (G8 ns ars c,c,[],[]):=by
     unfold iB0;rw[aI,aM];have:(cs.filter fun c=>decide (0<G8 ns ars c))[j]?=some c:=by rw[<- Q];exact ae hj
     rw[this];rfl
    rw[n]at h1;cases v:(C7 ns ars)[j+1]? with
    | none=>rw[v]at h1;simp at h1
    | some b=>rw[v]at h1;simp only[aj,ai,bV]at h1;exact⟨j+1,b,v,by unfold N2;rw[h1.2.1];exact ch ..⟩
   have R:c∈q:=bc.2 ⟨hc,by simp[hp]⟩;have h1:=N6 (fd c);have S:fd c<(iB0 ns ars cs).length:=by rw[o];exact H c
   rw[ae S]at h1;cases v:(C7 ns ars)[fd c]? with
   | none=>rw[v]at h1;simp at h1
   | some b=>rw[v]at h1;simp only[aj,ai,bV]at h1;exact⟨fd c,b,v,by unfold N2;rw[h1.2.2];exact bC _ (eP _ (bc.2 ⟨R,by simp⟩))⟩
  obtain⟨i,b,n,g⟩:=P;rw[f]at n;cases i with
  | zero=>rw[bX]at n;cases n;exact(z (by rw[<- hs];exact w c g d u)).elim
  | succ i=>
   rw[aI]at n;have o:=aD n;have e3:fcA ars b=fcA ars a:=by rw[<- q5 b o c g d u,hs]
   have U:i=k:=by
    obtain⟨hi,V⟩:=an.1 n;have W:(l.map (fcA ars)).Nodup:=by simpa using q2
    refine(c_ (h₀:=by simpa using hi) (h₁:=by simpa using hk) W).1 ?_;simp only[cd,V,t,e3]
   subst U;have:b=a:=by rw[ae hk]at n;rw[<- t];exact(bd n).symm
   subst this;unfold N2 at g;rw[hi]at g;rw[<- aT.1 g];exact u
end
end Dp
def nK0(ns:List Nd)(ars:List Ar)(b:List Int)(a:Ar):Int:=bif (decide (a.2.2.2.2.1∈b)==decide (a.2.2.2.2.2∈b))then 0 else bif decide (a.2.2.2.2.2∈b)then -(mT0 ns ars a)else mT0 ns ars a
theorem jK0(ns:List Nd)(ars:List Ar)(b:List Int):∀ l:List Ar,W7 ns ars b l=sm l (nK0 ns ars b)
 | []=>rfl
 | a::l=>by simp only[W7,sm,jK0 ns ars b l];rfl
theorem sG0{α:Type}{f:α->Int}:∀ {l:List α} {x:α},l.Nodup->x∈l->(∀ y∈l,y≠x->f y=0)->sm l f=f x
 | [],x,_,b,_=>by simp at b
 | a::l,x,c,b,g=>by
  rw[eE]at c;simp only[sm];rcases aC.1 b with rfl | b
  ·have:sm l f=0:=kb0 fun y d=>g y (bC _ d) fun e=>c.1 (e▸d)
   omega
  have h1:f a=0:=g a (ch ..) fun e=>c.1 (e▸b);have:=sG0 c.2 b fun y d=>g y (bC _ d);omega
theorem uI0{α:Type}(f:α->Int):∀ l:List α,sm l (fun a=>-f a)=-sm l f
 | []=>rfl
 | a::l=>by simp only[sm,uI0 f l];omega
def O0(p:Int)(a:Ar):Bool:=!decide (a.2.2.2.2.1=p)&&!decide (a.2.2.2.2.2=p)
namespace Dp
section
variable {ns:List Nd} {ars:List Ar} {fs:List Int} (h:J0 ns ars fs)
include h
theorem uj0{a:Ar}(ha:a∈ars):C8 ars a.1=a.2.2.2.2.1/\C8 ars (-a.1)=a.2.2.2.2.2:=by
 have c:=h.num ha;have b:=h.arcOf_self ha;constructor
 ·unfold C8
  have e:aZ0 a.1=a.1:=by unfold aZ0;omega
  rw[Ae (by omega),e,b];simp only;rw[Af (by omega)]
 unfold C8;have e:aZ0 (-a.1)=a.1:=by unfold aZ0;omega
 rw[Ae (by omega),e,b];simp only;rw[Ae (by omega)]
theorem wm0{d:Int}(b:C8 ars d≠0):C8 ars d∈fs:=by
 have hc:=h.conn;unfold as0 at hc;have e:ars.any (fun a=>!((decide (a.2.2.2.2.1=0)||decide (a.2.2.2.2.1∈fs))&&(decide (a.2.2.2.2.2=0)||decide (a.2.2.2.2.2∈fs))))=false:=by
  cases g:ars.any (fun a=>!((decide (a.2.2.2.2.1=0)||decide (a.2.2.2.2.1∈fs))&&(decide (a.2.2.2.2.2=0)||decide (a.2.2.2.2.2∈fs))))with
  | false=>rfl
  | true=>rw[g]at hc;generalize xa0 [] ns=i at hc;generalize (ars.any fun a=>!(decide (a.2.1∈ns.map (·.1))&&decide (a.2.2.1∈ns.map (·.1))))=j at hc;revert hc;cases i<;>cases j<;>decide
 have c:∀ a∈ars,(a.2.2.2.2.1=0\/a.2.2.2.2.1∈fs)/\(a.2.2.2.2.2=0\/a.2.2.2.2.2∈fs):=fun a ha=>by have:=dp.1 e a ha;simp only[bL,Bool.not_eq_false,ab,Bool.or_eq_true,Ad]at this;exact this
 unfold C8 at b ⊢;split at b
 ·exact(b rfl).elim
 rename_i k;rw[Ae k];split at b
 ·rename_i a f
  have ha:a∈ars:=bj f;split at b
  ·rename_i hp;rw[Af hp];exact(c a ha).1.resolve_left b
  rename_i hp;rw[Ae hp];exact(c a ha).2.resolve_left b
 exact(b rfl).elim
variable (hf:(F5 ars fs.length true (C7 ns ars) [] []).2=true)
include hf
theorem sY0{r:Rg}(s:r∈mM0 ns ars fs)(t:r.2.1≠[])(hi:r.2.2.1=[]):W7 ns ars [r.1] ars=G8 ns ars r.2.1:=by
 obtain⟨u,hc,hp,hs,b⟩:=gH0 h hf s t hi;rw[h.areaS_cycles,sG0 h.cycles_nodup hc fun c f o=>?_]
 ·rw[kS0]
  exact eM0 fun d g=>by unfold qX0;rw[hs d g];simp
 refine kb0 fun d g=>?_;unfold qX0;rw[Ae];intro hm;rw[aT]at hm;have k:=b d (h.cyc_dart f g) hm;have p:=dx.1 h.cyc_all.1.nodup;obtain⟨i,l,e1⟩:=aJ f;obtain⟨j,m,e2⟩:=aJ hc;have q:i≠j:=fun e=>by subst e;exact o (e1.symm.trans e2)
 have n:=cX.1 p.2;rcases e_ q with a | a
 ·have:=n i j l m a
  rw[e1,e2]at this;exact this d g d k rfl
 have:=n j i m l a;rw[e1,e2]at this;exact this d k d g rfl
theorem rv0{r:Rg}(l:r∈mM0 ns ars fs)(m:r.2.1≠[])(hi:r.2.2.1=[]){g:Int}(j:∀ d∈r.2.1,C8 ars (-d)=g)(k:∀ d∈r.2.1,-d∉r.2.1){a:Ar}(ha:a∈ars)(hk:O0 r.1 a=false) :
  g≠r.1/\(a.2.2.2.2.1=r.1/\a.2.2.2.2.2=g\/a.2.2.2.2.1=g/\a.2.2.2.2.2=r.1):=by
 obtain⟨n,hc,hp,hs,b⟩:=gH0 h hf l m hi;obtain⟨s1,s2⟩:=uj0 h ha;have m1:a.1∈J0.dartsL ns ars:=h.mem_darts.2 ⟨a,ha,.inl rfl⟩;have m2:-a.1∈J0.dartsL ns ars:=h.mem_darts.2 ⟨a,ha,.inr rfl⟩;have i:a.2.2.2.2.1=r.1\/a.2.2.2.2.2=r.1:=by
  unfold O0 at hk;by_cases q1:a.2.2.2.2.1=r.1
  ·exact .inl q1
  by_cases q2:a.2.2.2.2.2=r.1
  ·exact .inr q2
  simp[q1,q2]at hk
 rcases i with q | q
 ·have f:=b a.1 m1 (s1.trans q)
  have c:=j _ f;rw[s2]at c;refine⟨fun e=>?_,.inl ⟨q,c⟩⟩;exact k _ f (b _ m2 (by rw[s2,c,e]))
 have f:=b (-a.1) m2 (s2.trans q);have c:=j _ f;rw[gT,s1]at c;refine⟨fun e=>?_,.inr ⟨c,q⟩⟩;have:=k _ f;rw[gT]at this;exact this (b _ m1 (by rw[s1,c,e]))
theorem gain{r:Rg}(c:r∈mM0 ns ars fs)(e:r.2.1≠[])(hi:r.2.2.1=[]){g:Int}(i:∀ d∈r.2.1,C8 ars (-d)=g)(j:∀ d∈r.2.1,-d∉r.2.1){p:Int}(hp:p≠r.1) :
  W7 ns ars [p] ars<=sm (ars.filter (O0 r.1)) (nK0 ns ars [p]):=by
 have ha:=sY0 h hf c e hi;obtain⟨_,_,f,_,_⟩:=gH0 h hf c e hi;rw[jK0]at ha ⊢;rw[nH0 (O0 r.1) (nK0 ns ars [p])];rw[nH0 (O0 r.1) (nK0 ns ars [r.1])]at ha;have hz:sm (ars.filter (O0 r.1)) (nK0 ns ars [r.1])=0:=kb0 fun a hm=>by have hk:=(bc.1 hm).2;unfold O0 at hk;simp only[ab,bL,An]at hk;unfold nK0;simp[hk.1,hk.2]
 have b:∀ a∈ars.filter (fun a=>!O0 r.1 a),g≠r.1/\(a.2.2.2.2.1=r.1/\a.2.2.2.2.2=g\/a.2.2.2.2.1=g/\a.2.2.2.2.2=r.1):=fun a hm=>by obtain⟨h1,h2⟩:=bc.1 hm;exact rv0 h hf c e hi i j h1 (by simpa using h2)
 have hle:sm (ars.filter (fun a=>!O0 r.1 a)) (nK0 ns ars [p])<=0:=by
  by_cases q:p=g
  ·have:sm (ars.filter (fun a=>!O0 r.1 a)) (nK0 ns ars [p])=sm (ars.filter (fun a=>!O0 r.1 a)) (fun a=>-nK0 ns ars [r.1] a):=eM0 fun a hm=>by obtain⟨g1,g2⟩:=b a hm;subst q;unfold nK0;rcases g2 with ⟨e1,e2⟩ | ⟨e1,e2⟩<;>simp[e1,e2,g1,gO g1]
   rw[this,uI0];omega
  have:sm (ars.filter (fun a=>!O0 r.1 a)) (nK0 ns ars [p])=0:=kb0 fun a hm=>by obtain⟨g1,g2⟩:=b a hm;unfold nK0;rcases g2 with ⟨e1,e2⟩ | ⟨e1,e2⟩<;>simp[e1,e2,gO hp,gO q]
  omega
 omega
end
theorem tl0{ns c:List Nd}{ars b:List Ar}{fs l:List Int}(h:J0 ns ars fs)(h1:J0 c b l)(ha:∀ a∈b,a∈ars)(r:∀ n∈c,n∈ns\/n.1∉ns.map (·.1))(o:List Int):W7 c b o b=sm b (nK0 ns ars o):=by
 rw[jK0];refine eM0 fun a hm=>?_;have e:mT0 c b a=mT0 ns ars a:=by
  obtain⟨f,t,q1,q2,q3,_⟩:=h.path (ha a hm);obtain⟨f1,t1,s,u,v,_⟩:=h1.path hm;have key:∀ {i:Int} {x y:Nd},S3 ns i=some x->S3 c i=some y->x=y:=fun {i x y} p q=>by
   have k:=bj p;have d:=dV p;have m:=bj q;have g:=dV q;simp only[Ad]at d g;rcases r y m with j | j
   ·have e1:=h.nodeOf_self k
    have e2:=h.nodeOf_self j;rw[d]at e1;rw[g]at e2;exact bd (e1.symm.trans e2)
   exact(j (aY.2 ⟨x,k,by rw[d,g]⟩)).elim
  have w:=key q1 s;have z:=key q2 u;subst w;subst z;unfold mT0;rw[q3,v]
 unfold nK0;rw[e]
end Dp
end Go.Ab
namespace Go.Ab
open Go Go.Sort Go.Proofs Go.Shelf
set_option maxRecDepth 10000
theorem en0{α β:Type}{F:(α->Option β)->α->Option β}{x y:α}{v:Option β}(h1:∀ rec,rec y=v->F rec x=v)(h2:∀ rec,F rec y=v):rounds F x=v:=by obtain⟨n,a⟩:∃ n,many=n+2:=⟨many-2,by have:=kx0;omega⟩;show iter F many x=v;rw[a];exact h1 _ (h2 _)
theorem del2{S β α M:Type}(l:List α)(b:α->Bool)(c:M->α->M){F:(S->Option β)->S->Option β}(st:Nat->M->List α->Nat->S)(R:Option β)(hl:l.length<2^62){i:Nat}(m0:M)
  (hi:i<l.length) (f:∀ x∈l.take i,b x=true) (v:∀ x,l[i]?=some x->b x=false)
  (g:∀ rec row w,row.length=l.length->w<=l.length->row.take w=l.filter b->F rec (st l.length ((l.drop (i+1)).foldl (fun m a=>if b a=true then m else c m a) m0) row w)=R)
  (e:∀ rec j m row w x,j<l.length->w<j->row.length=l.length->row[j]?=some x->rec (st (j+1) (if b x=true then m else c m x) (if b x=true then row.set w x else row) (if b x=true then w+1 else w))=R->F rec (st j m row w)=R) :
  rounds F (st (i+1) m0 l i)=R:=by
 have p:(l.take (i+1)).filter b=l.take i:=by rw[bh,ae hi,gU];have h2:b l[i]=false:=v _ (ae hi);simp only[gE,bI,h2,au,Ah,eD,dv];exact cy.2 f
 have key:∀ (d j n:Nat) (m:M) (row:List α) (w:Nat),j+d=l.length->w<j->row.length=l.length->row.take w=(l.take j).filter b->row.drop j=l.drop j->m=((l.take j).drop (i+1)).foldl (fun m a=>if b a=true then m else c m a) m0->i+1<=j->d<n->iter F n (st j m row w)=R:=by
  intro d
  induction d with
  | zero=>
   intro j n m row w hj hw o h1 h2 hm r z;have:j=l.length:=by omega
   subst this;cases n with
   | zero=>omega
   | succ n=>rw[bM]at h1 hm;rw[hm];exact g _ row w o (by omega) h1
  | succ d B=>
   intro j n m row w hj hw o h1 h2 hm r z;cases n with
   | zero=>omega
   | succ n=>
    have h:j<l.length:=by omega
    have s:row[j]?=l[j]?:=by have:=Ap (fun q:List α=>q[0]?) h2;simpa using this
    have e1:l[j]?=some l[j]:=ae h;have u:l.take (j+1)=l.take j++[l[j]]:=by rw[bh,e1];rfl
    have k:row.drop (j+1)=l.drop (j+1):=by have:=Ap (iz 1) h2;simpa[dn,d_]using this
    have t:(l.take (j+1)).drop (i+1)=(l.take j).drop (i+1)++[l[j]]:=by rw[u,List.drop_append_of_le_length (by simp;omega)]
    refine e (iter F n) j m row w l[j] h hw o (by rw[s,e1]) ?_;refine B (j+1) n _ _ _ (by omega) ?_ ?_ ?_ ?_ ?_ (by omega) (by omega)
    ·split<;>omega
    ·split<;>simp[o]
    ·rw[u,gU,<-h1]
     by_cases hk:b l[j]=true
     ·simp only[hk,Al,bI,eD]
      rw[bh,eu (by omega),gK (ar w)];rfl
     simp only[hk,Ah,au,bI,eD,dv]
    ·split
     ·rw[gL (by omega)];exact k
     exact k
    rw[t,fN,<-hm];rfl
 refine key (l.length-(i+1)) (i+1) many m0 l i (by omega) (by omega) rfl p.symm rfl ?_ (ar _) (db (show l.length-(i+1)<2^100 by omega) dn0);rw[List.drop_of_length_le (by simp;omega)];rfl
namespace Dp
def V9(p:Int)(l:List Ar)(m:List (Int×Bool)):List (Int×Bool):=l.foldl (fun m a=>if O0 p a=true then m else I9 qI a.2.2.1 true (I9 qI a.2.1 true m)) m
def fv0:List Nd->Int->Int
 | [],c=>c
 | n::r,c=>fv0 r (bif decide (n.1=c)then c+1 else c)
def upF(id c:Int)(f:Ft):Ft:=bif decide (f.1=id)then (f.1,8,f.2.2.1,f.2.2.2.1,[c])else f
def xB0(x y:Nd):Int:=nz0 x.1 y.1
def ix0(m:List (Int×Bool))(n:Nd):Bool:=!((lkp qI n.1 m).getD false)
def P0(ns:List Nd)(ars:List Ar)(fs:List Int)(l:List Ft)(id p:Int)(at':Pt):List Nd×List Ar×List Int×List Ft :=(Z9 xB0 (ns.filter (ix0 (V9 p ars []))++[(fv0 ns 1,at'.1,at'.2)]),ars.filter (O0 p),fs.filter (fun f=>!decide (f=p)),l.map (upF id (fv0 ns 1)))
theorem dd0(l:List Nd):Ordered xB0 l :=ax0 (fun x _=>by grind [xB0,O4]) (fun x _ y _ z _ a b=>by unfold xB0 at *;rw[O4]at *;omega) (fun x _ y _ z _ a b=>by unfold xB0 at *;rw[O4]at *;omega)
theorem uo0{l:List Nd}(hl:l.length<=1000000):slices_SortFunc_api_Node_collapse_shrink_4 (l,3,())=some (Z9 xB0 l):=by unfold slices_SortFunc_api_Node_collapse_shrink_4;simp only[Ai,Ac];refine dr0 (fun x _ y _=>?_) (dd0 l) (by omega);unfold K3;simp only[cmp_eq,b9];rfl
end Dp
namespace Dp
theorem vH0{l:List Nd}(h:l.length<=1000000):slices_Clone_api_Node l=some l:=by unfold slices_Clone_api_Node;rw[y7 (by decide) (by simp;omega),bG]
theorem vF0{l:List Pt}(h:l.length<=1000000):slices_Clone_api_Point l=some l:=by unfold slices_Clone_api_Point;rw[y7 (by decide) (by simp;omega),bG]
theorem nQ0{l:List Int}(h:l.length<=1000000):slices_Clone_int l=some l:=by unfold slices_Clone_int;rw[y7 (by decide) (by simp;omega),bG]
theorem O3{i n:Nat}(h:i<n):(bif decide (0<=(i:Int))&&decide ((i:Int)<(n:Int))then some ()else none)=some ():=by
 have h1:decide (0<=(i:Int))=true:=by simp
 rw[h1,o9 h];rfl
theorem O7{α:Type}(l:List α)(i:Nat):l[((i:Nat):Int).toNat]?=l[i]?:=rfl
theorem neg1(i:Nat):decide ((i:Int)=-1)=false:=by rw[An];omega
theorem fd0{α:Type}{l:List α}{i:Nat}{x:α}{rest:List α}(h:l.drop i=x::rest):l[i]?=some x:=by rw[<- r7];exact l9 h
theorem bw0{α β:Type}{row:List α}{n w:Nat}(b:row.length=n)(hw:w<=n)(K:List α->Option β) :
  (b8 (cQ0 (row.length:Int) (w:Int)) fun v=>b8 (pu0 row v.1 v.2) fun u=>b8 (oX0 (row.length:Int) (u.length:Int) (w:Int)) fun _=>K u)=K (row.take w):=by
 have h1:cQ0 (row.length:Int) (w:Int)=some ((w:Int),(row.length:Int)-(w:Int)):=by
  unfold cQ0;have:(decide (0<=(w:Int))&&decide ((w:Int)<=(row.length:Int)))=true:=by simp;omega
  rw[this];rfl
 have h2:pu0 row (w:Int) ((row.length:Int)-(w:Int))=some (row.take w):=by
  unfold pu0;have:(decide (0<=(w:Int))&&(decide (0<=(row.length:Int)-(w:Int))&&decide ((w:Int)+((row.length:Int)-(w:Int))=(row.length:Int))))=true:=by simp;omega
  rw[this];simp
 have a:oX0 (row.length:Int) ((row.take w).length:Int) (w:Int)=some true:=by
  unfold oX0;have:(decide (0<=(w:Int))&&(decide ((w:Int)<=(row.length:Int))&&decide ((w:Int)=((row.take w).length:Int))))=true:=by simp;omega
  rw[this];rfl
 rw[h1,b9];simp only;rw[h2,b9,a,b9]
theorem em0{α β:Type}{xs:List α}{i:Nat}{f:α->β->α}{v:β}{x:α}(h:xs[i]?=some x):kP0 xs ((i:Nat):Int).toNat f v=some (xs.set i (f x v)):=by
 unfold kP0;have e:((i:Nat):Int).toNat=i:=by simp
 rw[e,h]
theorem del1{β α:Type}(l:List α)(a:α->Bool){F:(Int->Option β)->Int->Option β}(R:Option β)(hl:l.length<2^62)
  (d:∀ rec,(∀ x∈l,a x=true)->F rec (l.length:Int)=R)
  (f:∀ rec i x,i<l.length->l[i]?=some x->a x=true->rec ((i+1:Nat):Int)=R->F rec (i:Int)=R)
  (b:∀ rec i x,i<l.length->l[i]?=some x->a x=false->(∀ y∈l.take i,a y=true)->F rec (i:Int)=R):rounds F 0=R:=by
 refine p6 (A:=Unit) l (fun i _=>(i:Int)) (fun _ _=>R) (fun i _=>∀ y∈l.take i,a y=true) (by omega) ?_ ?_ () (by simp)
 ·intro rec _ e
  rw[bM]at e;exact d rec e
 intro rec i _ x rest hi e h j;have g:=fd0 h;by_cases hk:a x=true
 ·refine f rec i x hi g hk (j () ?_)
  intro y c;rw[bh,g]at c;rcases aK.1 c with c | c
  ·exact e y c
  simp at c;rw[c];exact hk
 exact b rec i x hi g (by simpa using hk) e
theorem ft0{M α:Type}(b:α->Bool)(c:M->α->M):∀ (l:List α) (m:M),(∀ x∈l,b x=true)->l.foldl (fun m a=>if b a=true then m else c m a) m=m
 | [],_,_=>rfl
 | a::l,m,h=>by rw[fB,Af (h a (ch ..))];exact ft0 b c l m fun x d=>h x (bC _ d)
theorem uf0{M α:Type}(b:α->Bool)(c:M->α->M){l:List α}{i:Nat}{x:α}(m:M)(d:l[i]?=some x)(hk:b x=false)(hp:∀ y∈l.take i,b y=true) :
  l.foldl (fun m a=>if b a=true then m else c m a) m=(l.drop (i+1)).foldl (fun m a=>if b a=true then m else c m a) (c m x):=by
 obtain⟨hi,e⟩:=an.1 d;have:l=l.take i++x::l.drop (i+1):=by rw[<- e,List.getElem_cons_drop,cL]
 rw[this,fN,ft0 b c _ _ hp,fB,<-this];rw[hk];rfl
end Dp
namespace Dp
theorem ym0{β:Type}(l:List Ft)(hl:l.length<=1000000)(id c:Int){F:(Int×List Ft->Option β)->Int×List Ft->Option β}(R:Option β)
  (d:∀ rec,F rec ((l.length:Int),l.map (upF id c))=R)
  (b:∀ rec i row x,i<l.length->row.length=l.length->row[i]?=some x->rec (((i+1:Nat):Int),row.set i (upF id c x))=R->F rec ((i:Int),row)=R):rounds F (0,l)=R:=by
 refine p6 (A:=List Ft) l (fun i a=>((i:Int),a)) (fun _ _=>R) (fun i row=>row.length=l.length/\row.take i=(l.take i).map (upF id c)/\row.drop i=l.drop i) (by omega) ?_ ?_ l ⟨rfl,by simp,by simp⟩
 ·rintro rec row ⟨h1,h2,_⟩
  rw[bM,<-h1,bM]at h2;rw[h2];exact d rec
 rintro rec i row x rest hi ⟨h1,h2,f⟩ h j;have g:=fd0 h;have e:row[i]?=some x:=by have:=Ap (fun q:List Ft=>q[0]?) f;simp only[List.getElem?_drop,Nat.add_zero]at this;rw[this,g]
 refine b rec i row x hi h1 e (j _ ⟨by simp[h1],?_,?_⟩)
 ·rw[bh,eu (by omega),gK (ar i),h2,bh,g]
  simp
 rw[gL (by omega)];have:=Ap (iz 1) f;simpa[dn,d_]using this
theorem qP0{β:Type}(ns:List Nd)(j:ns.length<=1000000){F:(Int×Int->Option β)->Int×Int->Option β}(R:Option β)
  (d:∀ rec,F rec ((ns.length:Int),fv0 ns 1)=R)
  (b:∀ rec i c n,i<ns.length->ns[i]?=some n->1<=c->c<=1000001->rec (((i+1:Nat):Int),bif decide (n.1=c)then c+1 else c)=R->F rec ((i:Int),c)=R):rounds F (0,1)=R:=by
 refine p6 (A:=Int) ns (fun i a=>((i:Int),a)) (fun _ _=>R) (fun i c=>1<=c/\c<=1+(i:Int)/\fv0 (ns.drop i) c=fv0 ns 1) (by omega) ?_ ?_ 1 ⟨by omega,by omega,by simp⟩
 ·rintro rec c ⟨_,_,e⟩
  rw[List.drop_length]at e;have:c=fv0 ns 1:=e;rw[this];exact d rec
 rintro rec i c n rest hi ⟨h1,h2,e⟩ f h;refine b rec i c n hi (fd0 f) h1 (by omega) (h _ ?_);have g:ns.drop (i+1)=rest:=by have:=Ap (iz 1) f;simpa[dn,d_]using this
 rw[f]at e;rw[g];refine⟨?_,?_,e⟩
 ·cases decide (n.1=c)<;>simp only[Ac,Aa]<;>omega
 cases decide (n.1=c)<;>simp only[Ac,Aa]<;>omega
theorem _root_.List.set_getElem?_self'{α:Type}{l:List α}{i:Nat}{x:α}(h:l[i]?=some x):l.set i x=l:=by obtain⟨hi,rfl⟩:=an.1 h;exact List.set_getElem_self hi
section
variable {ns:List Nd} {ars:List Ar} {fs:List Int} {l:List Ft} (hn:ns.length<=1000) (ha:ars.length<=1000) (hv:∀ a∈ars,a.2.2.2.1.length<=1000) (hf:fs.length<=1000) (hl:l.length<=1000) (hp:∀ f∈l,f.2.2.2.2.length<=1000)
include hn ha hv hf hl hp
theorem sb0(id p:Int)(at':Pt):K2 ((ns,ars,fs,l),id,p,at')=some (P0 ns ars fs l id p at'):=by
 unfold K2;simp only[vH0 (show ns.length<=1000000 by omega),nQ0 (show fs.length<=1000000 by omega),b9];refine p6 (A:=List Ar) ars (fun i a=>((i:Int),a)) (fun _ _=>some (P0 ns ars fs l id p at')) (fun i a=>a=ars.take i) (by omega) ?_ ?_ [] (by simp)
 ·intro rec a C
  rw[bM]at C;subst C;simp only[r9,Aa];refine p6 (A:=List Ft) l (fun i a=>((i:Int),a)) (fun _ _=>some (P0 ns a fs l id p at')) (fun i b=>b=l.take i) (by omega) ?_ ?_ [] (by simp)
  ·intro rec b C
   rw[bM]at C;subst C;simp only[r9,Aa];refine en0 (y:=(a.filter (O0 p),V9 p a [],true)) ?_ ?_
   ·intro rec g
    simp only[Aa];refine del1 a (O0 p) _ (by omega) ?_ ?_ ?_
    ·intro k r
     simp only[r9,Aa];rw[cy.2 r]at g;have:V9 p a []=[]:=ft0 (O0 p) (fun m a=>I9 qI a.2.2.1 true (I9 qI a.2.1 true m)) a [] r;rw[this]at g;exact g
    ·intro k i x hi h hk q
     unfold O0 at hk;simp only[ab,bL,An]at hk;simp only[o9 hi,O3 hi,O7,h,aj,b9,Ac,hk.1,hk.2,Ag,aP,l6 hi (by omega:a.length<2^62)];exact q
    intro k i x hi h hk s;have I:=uf0 (O0 p) (fun m a=>I9 qI a.2.2.1 true (I9 qI a.2.1 true m)) ([]:List (Int×Bool)) h hk s;have D:∀ y,a[i]?=some y->O0 p y=false:=fun y E=>by rw[h]at E;cases E;exact hk
    have fin:∀ (m0:List (Int×Bool)),m0=I9 qI x.2.2.1 true (I9 qI x.2.1 true [])->∀ {G:(Int×List (Int×Bool)×List Ar×Int->Option (List Nd×List Ar×List Int×List Ft))->Int×List (Int×Bool)×List Ar×Int->Option (List Nd×List Ar×List Int×List Ft)},
      (∀ d row w,row.length=a.length->w<=a.length->row.take w=a.filter (O0 p)->G d ((a.length:Int),V9 p a [],row,(w:Int))=some (P0 ns a fs b id p at')) ->
      (∀ d j m row w y,j<a.length->w<j->row.length=a.length->row[j]?=some y->d (((j+1:Nat):Int),(if O0 p y=true then m else I9 qI y.2.2.1 true (I9 qI y.2.1 true m)),(if O0 p y=true then row.set w y else row),(((if O0 p y=true then w+1 else w):Nat):Int))=some (P0 ns a fs b id p at')->G d ((j:Int),m,row,(w:Int))=some (P0 ns a fs b id p at')) ->
      rounds G (((i+1:Nat):Int),m0,a,(i:Int))=some (P0 ns a fs b id p at'):=by
     intro m0 P G g1 g2;refine del2 a (O0 p) (fun m a=>I9 qI a.2.2.1 true (I9 qI a.2.1 true m)) (fun j m row w=>((j:Int),m,row,(w:Int))) _ (by omega) m0 hi s D ?_ ?_
     ·intro d row w h1 h2 t
      have:=g1 d row w h1 h2 t;unfold V9 at this;rw[I,<-P]at this;exact this
     intro d j m row w y h1 h2 t B o;exact g2 d j m row w y h1 h2 t B o
    have step:∀ (d:Int×List (Int×Bool)×List Ar×Int->Option (List Nd×List Ar×List Int×List Ft)) (j:Nat) (m:List (Int×Bool)) (row:List Ar) (w:Nat) (y:Ar),j<a.length->w<j->row.length=a.length->row[j]?=some y ->
      d (((j+1:Nat):Int),(if O0 p y=true then m else I9 qI y.2.2.1 true (I9 qI y.2.1 true m)),(if O0 p y=true then row.set w y else row),(((if O0 p y=true then w+1 else w):Nat):Int))=some (P0 ns a fs b id p at') ->
      (bif (!decide (y.2.2.2.2.1=p))then (
       bif (!decide (y.2.2.2.2.2=p))then (
        b8 (bif decide (0<=(w:Int))&&decide ((w:Int)<(row.length:Int))then some ()else none) fun _=>
        b8 (kP0 row ((w:Int)).toNat (fun x y=>(y.1,y.2.1,y.2.2.1,y.2.2.2.1,y.2.2.2.2.1,y.2.2.2.2.2)) y) fun v55=>
        d (((j+1:Nat):Int),m,v55,(aa.wrap ((w:Int)+(1:Int)))))else (
        d (((j+1:Nat):Int),(I9 qI y.2.2.1 true (I9 qI y.2.1 true m)),row,(w:Int))))else (
       d (((j+1:Nat):Int),(I9 qI y.2.2.1 true (I9 qI y.2.1 true m)),row,(w:Int))))=some (P0 ns a fs b id p at'):=by
     intro d j m row w y h1 h2 t B o;have hw:w<row.length:=by omega
     by_cases c1:y.2.2.2.2.1=p
     ·have hk:O0 p y=false:=by simp[O0,c1]
      simp only[hk,au,Ah]at o;simp only[c1,Ai,aw,Aa];exact o
     by_cases c2:y.2.2.2.2.2=p
     ·have hk:O0 p y=false:=by simp[O0,c2]
      simp only[hk,au,Ah]at o;simp only[c1,c2,Ai,Ag,aw,aP,Ac,Aa];exact o
     have hk:O0 p y=true:=by simp[O0,c1,c2]
     simp only[hk,Al]at o;simp only[c1,c2,Ag,aP,Ac,O3 hw,b9,em0 (ae hw),l6 hw (by omega:row.length<2^62)];exact o
    have ends:∀ (row:List Ar) (w:Nat),row.length=a.length->w<=a.length->row.take w=a.filter (O0 p)->(b8 (cQ0 (row.length:Int) (w:Int)) fun v=>b8 (pu0 row v.1 v.2) fun u=>b8 (oX0 (row.length:Int) (u.length:Int) (w:Int)) fun _=>rec (u,V9 p a [],true))=some (P0 ns a fs b id p at'):=by intro row w h1 h2 t;rw[bw0 h1 h2 (fun u=>rec (u,V9 p a [],true)),t];exact g
    by_cases c1:x.2.2.2.2.1=p
    ·simp only[o9 hi,O3 hi,O7,h,aj,b9,Ac,c1,Ai,aw,Aa,neg1,l6 hi (by omega:a.length<2^62)]
     refine fin _ rfl ?_ ?_
     ·intro d row w h1 h2 t
      simp only[h1,r9,Aa];have:=ends row w h1 h2 t;rw[h1]at this;exact this
     intro d j m row w y h1 h2 t B o;have hj:j<row.length:=by omega
     simp only[o9 hj,O3 hj,O7,B,aj,b9,Ac,l6 hj (by omega:row.length<2^62)];exact step d j m row w y h1 h2 t B o
    have c2:x.2.2.2.2.2=p:=by unfold O0 at hk;simpa[c1]using hk
    simp only[o9 hi,O3 hi,O7,h,aj,b9,Ac,c1,c2,Ai,Ag,aw,aP,Aa,neg1,l6 hi (by omega:a.length<2^62)];refine fin _ rfl ?_ ?_
    ·intro d row w h1 h2 t
     simp only[h1,r9,Aa];have:=ends row w h1 h2 t;rw[h1]at this;exact this
    intro d j m row w y h1 h2 t B o;have hj:j<row.length:=by omega
    simp only[o9 hj,O3 hj,O7,B,aj,b9,Ac,l6 hj (by omega:row.length<2^62)];exact step d j m row w y h1 h2 t B o
   intro rec;simp only[Ac];refine en0 (y:=(fs.filter (fun f=>!decide (f=p)),true)) ?_ ?_
   ·intro H g
    simp only[Aa];refine del1 fs (fun f=>!decide (f=p)) _ (by omega) ?_ ?_ ?_
    ·intro k r
     simp only[r9,Aa];rw[cy.2 r]at g;exact g
    ·intro k i x hi h hk q
     simp only[bL,An]at hk;simp only[o9 hi,O3 hi,O7,h,aj,b9,Ac,hk,Ag,Aa,l6 hi (by omega:fs.length<2^62)];exact q
    intro k i x hi h hk s;have D:∀ y,fs[i]?=some y->(fun f=>!decide (f=p)) y=false:=fun y E=>by rw[h]at E;cases E;exact hk
    have Q:x=p:=by simpa using hk
    simp only[o9 hi,O3 hi,O7,h,aj,b9,Ac,Q,Ai,neg1,Aa,l6 hi (by omega:fs.length<2^62)];refine del2 (M:=Unit) fs (fun f=>!decide (f=p)) (fun m _=>m) (fun j _ row w=>((j:Int),row,(w:Int))) _ (by omega) () hi s D ?_ ?_
    ·intro d row w h1 h2 t
     simp only[h1,r9,Aa];have:=bw0 h1 h2 (fun u=>H (u,true));rw[t,g,h1]at this;exact this
    intro d j _ row w y h1 h2 t B o;have hj:j<row.length:=by omega
    have hw:w<row.length:=by omega
    simp only[o9 hj,O3 hj,O7,B,aj,b9,Ac,l6 hj (by omega:row.length<2^62)];by_cases c:y=p
    ·simp only[c,Ai,aw,au,Ah,Aa]at o ⊢
     exact o
    simp only[c,Ag,aP,Al,Ac]at o ⊢;simp only[O3 hw,b9,em0 (ae hw),l6 hw (by omega:row.length<2^62)];exact o
   intro H;simp only[Ac];refine qP0 ns (by omega) _ ?_ ?_
   ·intro k
    simp only[r9,Aa];refine en0 (y:=(ns.filter (ix0 (V9 p a [])),true)) ?_ ?_
    ·intro d g
     simp only[Aa];have J:∀ (n:Nd),orO (lkp (fun (a b:Int)=>decide (a=b)) n.1 (V9 p a [])) (some false)=some (!ix0 (V9 p a []) n):=fun n=>by unfold ix0;rw[Bool.not_not];show orO (lkp qI n.1 (V9 p a [])) (some false)=_;cases lkp qI n.1 (V9 p a [])<;>rfl
     refine del1 ns (ix0 (V9 p a [])) _ (by omega) ?_ ?_ ?_
     ·intro z r
      simp only[r9,Aa];rw[cy.2 r]at g;exact g
     ·intro z i x hi h hk q
      simp only[o9 hi,O3 hi,O7,h,aj,b9,Ac,J,hk,aw,Aa,l6 hi (by omega:ns.length<2^62)];exact q
     intro z i x hi h hk s;have D:∀ y,ns[i]?=some y->ix0 (V9 p a []) y=false:=fun y E=>by rw[h]at E;cases E;exact hk
     simp only[o9 hi,O3 hi,O7,h,aj,b9,Ac,J,hk,aP,neg1,Aa,l6 hi (by omega:ns.length<2^62)];refine del2 (M:=Unit) ns (ix0 (V9 p a [])) (fun m _=>m) (fun j _ row w=>((j:Int),row,(w:Int))) _ (by omega) () hi s D ?_ ?_
     ·intro L row w h1 h2 t
      simp only[h1,r9,Aa];have:=bw0 h1 h2 (fun u=>d (u,true));rw[t,g,h1]at this;exact this
     intro L j _ row w y h1 h2 t B o;have hj:j<row.length:=by omega
     have hw:w<row.length:=by omega
     simp only[o9 hj,O3 hj,O7,B,aj,b9,Ac,J,l6 hj (by omega:row.length<2^62)];cases c:ix0 (V9 p a []) y with
     | false=>simp only[c,au,Ah,aP,aw,Aa]at o ⊢;exact o
     | true=>simp only[c,Al,aw,aP,Ac]at o ⊢;simp only[O3 hw,b9,em0 (ae hw),l6 hw (by omega:row.length<2^62)];exact o
    intro d;simp only[Ac];have U:(ns.filter (ix0 (V9 p a []))).length<=1000:=bo (ck _ _) hn;rw[y7 (by decide) (by simp;omega),b9,uo0 (by simp;omega),b9];refine ym0 b (by omega) id (fv0 ns 1) _ ?_ ?_
    ·intro z
     simp only[r9,Aa];rfl
    intro z i row x hi V K q;have N:i<row.length:=by omega
    simp only[o9 hi,O3 N,O7,K,aj,b9,Ac,l6 hi (by omega:b.length<2^62)];unfold upF at q;by_cases c:x.1=id
    ·simp only[c,Ai,Ac]at q ⊢
     rw[em0 K,b9,em0 (eu N),b9,List.set_set];simp only;rw[c];exact q
    simp only[c,Ag,Aa]at q ⊢;rw[List.set_getElem?_self' K]at q;exact q
   intro k i c n hi h h1 h2 q;simp only[o9 hi,r7,h,b9,Ac,l6 hi (by omega:ns.length<2^62)];by_cases e:n.1=c
   ·simp only[e,Ai,Ac]at q ⊢
    rw[w64 (by omega) (by omega)];exact q
   simp only[e,Ag,Aa]at q ⊢;exact q
  intro rec i b x rest hi C O q;have h:=fd0 O;have R:x∈l:=aD h;have S:=hp x R;simp only[o9 hi,l9 O,b9,Ac,nQ0 (show x.2.2.2.2.length<=1000000 by omega),l6 hi (by omega:l.length<2^62)];rw[y7 (by decide) (by rw[C];simp;omega),b9];exact q _ (by rw[C,bh,h];rfl)
 intro rec i a x rest hi C O q;have h:=fd0 O;have S:=hv x (aD h);simp only[o9 hi,l9 O,b9,Ac,vF0 (show x.2.2.2.1.length<=1000000 by omega),l6 hi (by omega:ars.length<2^62)];rw[y7 (by decide) (by rw[C];simp;omega),b9];exact q _ (by rw[C,bh,h];rfl)
end
end Dp
namespace Dp
theorem tf0(a:Int)(l:List Int):(um0 a l).length=l.length+1:=(eX0 a l).length_eq
theorem gD0:∀ l:List Int,(js0 l).length=l.length
 | []=>rfl
 | a::l=>by show (um0 a (js0 l)).length=_;rw[tf0,gD0 l];rfl
theorem sj0{l:List Int}(hl:l.length<=1000000):slices_Sort_int (l,1)=some (js0 l):=by
 unfold slices_Sort_int;have:decide (l.length<4611686018427387904)=true:=by simp only[Ad];omega
 simp[this]
theorem vM0{n x k:Nat}(h:x+k<n)(a:x<=n):qB0 (x:Int) ((n:Int)-(x:Int)) (k:Int)=some ((x+k:Nat):Int):=by
 unfold qB0;have:(decide (0<=(x:Int))&&(decide (0<=(k:Int))&&decide ((k:Int)<(n:Int)-(x:Int))))=true:=by simp;omega
 rw[this];simp
theorem ji0{l:List Int}(hl:l.length<=1000):∃ v,Q9 [l]=some v/\v.length<=1000:=by
 unfold Q9;refine u4 (fun y:Int×Int=>(y.2=0/\y.1=0)\/(y.2=1/\y.1=(l.length:Int))) (fun y=>(1-y.2).toNat) _ ?_ (.inl ⟨rfl,rfl⟩) (by simp);rintro rec ⟨s,i⟩ d e;simp only at d;rcases d with ⟨rfl,rfl⟩ | ⟨rfl,rfl⟩
 ·have e1:decide ((0:Int)<(([l]:List (List Int)).length:Int))=true:=by simp
  have e2:nth [l] (0:Int)=some l:=rfl;have e3:aa.wrap (0+(l.length:Int))=(l.length:Int):=by rw[w64 (by omega) (by omega)];omega
  have e4:decide ((l.length:Int)<0)=false:=by simp
  have e5:aa.wrap (0+1)=1:=by decide
  simp only[e1,e2,e3,e4,e5,Ac,Aa,b9];exact e _ (.inr ⟨rfl,rfl⟩) (by simp)
 have e1:decide ((1:Int)<(([l]:List (List Int)).length:Int))=false:=by simp
 have e4:decide ((l.length:Int)<0)=false:=by simp
 have e3:aa.wrap ((l.length:Int)-0)=(l.length:Int):=by rw[w64 (by omega) (by omega)];omega
 simp only[e1,e4,e3,Aa,b9];have b:∀ {F:(List Int×Int->Option (List Int))->List Int×Int->Option (List Int)},(∀ rec x,F rec x=(bif (decide (x.2<(([l]:List (List Int)).length:Int)))then (
   b8 (nth [l] x.2) fun h=>b8 (G5 8 x.1 h) fun j=>rec (j,(aa.wrap (x.2+(1:Int)))))else F (fun _=>none) (x.1,1)))->(∀ rec,∃ v,F rec (l,1)=some v/\v.length<=1000)->∃ v,rounds F ([],0)=some v/\v.length<=1000:=by
  intro F hF C;refine u4 (fun y:List Int×Int=>(y.2=0/\y.1=[])\/(y.2=1/\y.1=l)) (fun y=>(1-y.2).toNat) _ ?_ (.inl ⟨rfl,rfl⟩) (by simp);rintro rec ⟨a,i⟩ d e;simp only at d;rcases d with ⟨rfl,rfl⟩ | ⟨rfl,rfl⟩
  ·rw[hF]
   have e1:decide ((0:Int)<(([l]:List (List Int)).length:Int))=true:=by simp
   have e2:nth [l] (0:Int)=some l:=rfl;have e5:aa.wrap (0+1)=1:=by decide
   simp only[e1,e2,e5,Ac,b9];rw[y7 (by decide) (by simp;omega),b9,bG];exact e _ (.inr ⟨rfl,rfl⟩) (by simp)
  exact C rec
 cases c:decide ((0:Int)<(l.length:Int))with
 | false=>
  have f:l=[]:=by rw[An]at c;exact bJ (by omega)
  subst f;simp only[Aa];refine b (fun rec x=>?_) (fun rec=>?_)
  ·cases hc:decide (x.2<(([([]:List Int)]:List (List Int)).length:Int))with
   | true=>simp only[Ac]
   | false=>simp only[Aa];rfl
  exact⟨[],rfl,by simp⟩
 | true=>
  have hz:uZ0 8 ((0:Int):Int) (l.length:Int)=some (ba l.length 0):=by
   unfold uZ0;have:(decide (aa.wrap (l.length:Int)=(l.length:Int))&&(decide (0<(l.length:Int))&&(decide ((2*((l.length:Int)).toNat+1000)*8<=2^48)&&decide (((l.length:Int)).toNat<=2^62))))=true:=by rw[w64 (by omega) (by omega),c];simp;omega
   rw[this];simp
  simp only[Ac,hz,b9];refine b (fun rec x=>?_) (fun rec=>?_)
  ·cases hc:decide (x.2<(([l]:List (List Int)).length:Int))with
   | true=>simp only[Ac]
   | false=>simp only[Aa];rfl
  simp only[e1,Aa,sj0 (show l.length<=1000000 by omega),b9];have m:=gD0 l;generalize js0 l=s at m ⊢;cases h2:decide ((s.length:Int)<2)with
  | true=>exact⟨s,rfl,by omega⟩
  | false=>
   rw[An]at h2;simp only[Aa];refine u4 (fun y:Int=>1<=y/\y<=(s.length:Int)) (fun y=>((s.length:Int)-y).toNat) _ ?_ ⟨by omega,by omega⟩ (by first | omega | (simp only;omega));rintro u y ⟨J,K⟩ e;obtain⟨k,rfl⟩:∃ k:Nat,y=k:=⟨y.toNat,by omega⟩;by_cases hk:k<s.length
   ·have D:aa.wrap ((k:Int)-1)=((k-1:Nat):Int):=by rw[w64 (by omega) (by omega)];omega
    simp only[o9 hk,O3 hk,O7,ae hk,aj,b9,Ac,D,O3 (show k-1<s.length by omega),ae (show k-1<s.length by omega),l6 hk (by omega:s.length<2^62)];cases heq:decide (s[k]=s[k-1])with
    | false=>simp only[Aa];exact e _ ⟨by omega,by omega⟩ (by first | omega | (simp only;omega))
    | true=>
     simp only[Ac];have E:cQ0 (s.length:Int) (k:Int)=some ((k:Int),(s.length:Int)-(k:Int)):=by
      unfold cQ0;have:(decide (0<=(k:Int))&&decide ((k:Int)<=(s.length:Int)))=true:=by simp;omega
      rw[this];rfl
     rw[E,b9];refine u4 (fun z:Int×List Int×Int=>z.2.1.length=s.length/\1<=z.1/\z.1<=(s.length:Int)-k/\0<=z.2.2/\z.2.2<=k+z.1-1) (fun z=>((s.length:Int)-k-z.1).toNat) _ ?_ ⟨rfl,by first | omega | (simp only;omega),by first | omega | (simp only;omega),by first | omega | (simp only;omega),by first | omega | (simp only;omega)⟩ (by first | omega | (simp only;omega));rintro B ⟨q,row,w⟩ ⟨g1,g2,g3,g4,g5⟩ g;simp only at g1 g2 g3 g4 g5;obtain⟨q,rfl⟩:∃ G:Nat,q=G:=⟨q.toNat,by omega⟩;obtain⟨w,rfl⟩:∃ w':Nat,w=w':=⟨w.toNat,by omega⟩;have H:nngO ((s.length:Int)-(k:Int))=some ():=by
      unfold nngO;have:decide (0<=(s.length:Int)-(k:Int))=true:=by simp;omega
      rw[this];rfl
     simp only[H,b9];cases I:decide ((q:Int)<(s.length:Int)-(k:Int))with
     | true=>
      rw[Ad]at I;have o:k+q<s.length:=by omega
      have p:aa.wrap ((q:Int)-1)=((q-1:Nat):Int):=by rw[w64 (by omega) (by omega)];omega
      have hw:w<row.length:=by omega
      have r:aa.wrap ((q:Int)+1)=((q+1:Nat):Int):=by rw[w64 (by omega) (by omega)];omega
      have t:aa.wrap ((w:Int)+1)=((w+1:Nat):Int):=by rw[w64 (by omega) (by omega)];omega
      simp only[vM0 o (by omega),b9,O7,ae (show k+q<row.length by omega),aj,p,vM0 (show k+(q-1)<s.length by omega) (by omega),ae (show k+(q-1)<row.length by omega),O3 hw,em0 (ae hw),r,t,Ac];cases (!decide (row[k+q]=row[k+(q-1)]))with
      | true=>simp only[Ac];exact g _ ⟨by simp[g1],by first | omega | (simp only;omega),by first | omega | (simp only;omega),by first | omega | (simp only;omega),by first | omega | (simp only;omega)⟩ (by first | omega | (simp only;omega))
      | false=>simp only[Aa];exact g _ ⟨g1,by first | omega | (simp only;omega),by first | omega | (simp only;omega),by first | omega | (simp only;omega),by first | omega | (simp only;omega)⟩ (by first | omega | (simp only;omega))
     | false=>simp only[Aa];rw[bw0 (n:=s.length) g1 (by omega) some];exact⟨_,rfl,by simp;omega⟩
   have:k=s.length:=by omega
   subst this;simp only[r9,Aa];exact⟨s,rfl,by omega⟩
end Dp
namespace Dp
theorem xY0(a b:Int):∃ v,F4 (a,b)=some v:=by unfold F4 y4;simp
theorem half{a b:Int}(c:0<=a)(h1:a<=b)(d:b<=1000000):aa.wrap ((bU.wrap (aa.wrap (a+b))).fdiv (2^(min (1:Int).toNat bU.bits)))=(a+b) / 2:=by
 rw[w64 (n:=a+b) (by omega) (by omega)];have e1:bU.wrap (a+b)=a+b:=IntWalk.u64_in (a+b) ⟨by omega,by omega⟩;rw[e1];have e2:(2^(min (1:Int).toNat bU.bits):Int)=2:=by decide
 rw[e2,fX _ (by decide)];exact w64 (by omega) (by omega)
theorem tB0{a b:List Int}(ha:a.length<=1000)(g:b.length<=1000):∃ v,aR0 (a,b)=some v/\v.length<=1000:=by
 unfold aR0;obtain⟨u,hu,n⟩:=ji0 g;obtain⟨w,hw,o⟩:=ji0 ha;simp only[hu,hw,b9];refine u4 (fun y:Int×List Int=>0<=y.1/\y.1<=(w.length:Int)/\(y.2.length:Int)<=y.1) (fun y=>((w.length:Int)-y.1).toNat) _ ?_ ⟨by simp,by simp,by simp⟩ (by first | omega | (simp only;omega));rintro rec ⟨i,acc⟩ ⟨h1,h2,p⟩ k;simp only at h1 h2 p;obtain⟨i,rfl⟩:∃ q:Nat,i=q:=⟨i.toNat,by omega⟩;by_cases hi:i<w.length
 ·simp only[o9 hi,r7,ae hi,b9,Ac]
  have next:∀ c:Bool,∃ v,(bif c then b8 (G5 8 acc [w[i]]) fun h=>rec (aa.wrap ((i:Int)+1),h)else rec (aa.wrap ((i:Int)+1),acc))=some v/\v.length<=1000:=fun c=>by
   rw[l6 hi (by omega)];cases c with
   | true=>rw[y7 (by decide) (by simp;omega)];simp only[b9,Ac];exact k _ ⟨by simp only;omega,by simp only;omega,by simp;omega⟩ (by simp only;omega)
   | false=>simp only[Aa];exact k _ ⟨by simp only;omega,by simp only;omega,by simp only;omega⟩ (by simp only;omega)
  refine u4 (fun y:Int×Int=>0<=y.2/\y.2<=y.1/\y.1<=(u.length:Int)) (fun y=>(y.1-y.2).toNat) _ ?_ ⟨by simp,by simp,by simp⟩ (by first | omega | (simp only;omega));rintro l ⟨d,lo⟩ ⟨g1,g2,g3⟩ f;simp only at g1 g2 g3;cases hc:decide (lo<d)with
  | true=>
   rw[Ad]at hc;have e0:(bif decide ((1:Int)<0)then none else some ((bU.wrap (aa.wrap (lo+d))).fdiv (2^(min (1:Int).toNat bU.bits))))=some ((bU.wrap (aa.wrap (lo+d))).fdiv (2^(min (1:Int).toNat bU.bits))):=rfl;simp only[Ac,e0,b9,half g1 g2 (by omega)];obtain⟨m,hm⟩:∃ m:Nat,(lo+d) / 2=m:=⟨((lo+d) / 2).toNat,by omega⟩;have e:m<u.length:=by omega
   rw[hm];simp only[r7,ae e,b9];obtain⟨r,j⟩:=xY0 u[m] w[i];rw[j,b9,l6 e (by omega)];cases r with
   | true=>simp only[Ac];exact f _ ⟨by simp only;omega,by simp only;omega,by simp only;omega⟩ (by simp only;omega)
   | false=>simp only[Aa];exact f _ ⟨by simp only;omega,by simp only;omega,by simp only;omega⟩ (by simp only;omega)
  | false=>
   rw[An]at hc;simp only[Aa];cases hl:decide (lo<(u.length:Int))with
   | false=>simp only[Aa];exact next false
   | true=>
    rw[Ad]at hl;obtain⟨m,rfl⟩:∃ m:Nat,lo=m:=⟨lo.toNat,by omega⟩;have e:m<u.length:=by omega
    simp only[Ac,r7,ae e,b9,Ai,aw,Aa];have:=next (decide (u[m]=w[i]))
    cases g:decide (u[m]=w[i])<;>rw[g]at this<;>exact this
 have:i=w.length:=by omega
 subst this;simp only[r9,Aa];exact⟨acc,rfl,by omega⟩
theorem kD0{l:List Ft}(hl:l.length<=1000000)(hv:∀ f∈l,f.2.2.2.2.length<=900000)(ns:List Nd)(ars:List Ar)(fs:List Int)(k id:Int):∃ v,M5 ((ns,ars,fs,l),k,id)=some v/\v.length<=1000000:=by
 unfold M5;cases decide (k<1)with
 | true=>exact⟨[],rfl,by simp⟩
 | false=>
  cases decide ((3:Int)<k)with
  | true=>exact⟨[],rfl,by simp⟩
  | false=>
   simp only[Aa];refine u4 (fun y:Int×List Int=>0<=y.1/\y.1<=(l.length:Int)/\(y.2.length:Int)<=y.1) (fun y=>((l.length:Int)-y.1).toNat) _ ?_ ⟨by simp,by simp,by simp⟩ (by first | omega | (simp only;omega));rintro rec ⟨i,acc⟩ ⟨h1,h2,b⟩ a;simp only at h1 h2 b;obtain⟨i,rfl⟩:∃ c:Nat,i=c:=⟨i.toNat,by omega⟩;by_cases hi:i<l.length
   ·have d:=hv l[i] (aq hi)
    simp only[o9 hi,r7,ae hi,b9,Ac,au0,B0 _ _ (show l[i].2.2.2.2.length<2^62 by omega),l6 hi (by omega:l.length<2^62)];cases decide (R0 l[i].2.1=k)with
    | false=>simp only[Aa];exact a _ ⟨by simp only;omega,by simp only;omega,by simp only;omega⟩ (by simp only;omega)
    | true=>
     cases decide (id∈l[i].2.2.2.2)with
     | false=>simp only[Ac,Aa];exact a _ ⟨by simp only;omega,by simp only;omega,by simp only;omega⟩ (by simp only;omega)
     | true=>simp only[Ac];rw[y7 (by decide) (by simp;omega),b9];exact a _ ⟨by simp only;omega,by simp only;omega,by simp;omega⟩ (by simp only;omega)
   have:i=l.length:=by omega
   subst this;simp only[r9,Aa];exact⟨acc,rfl,by omega⟩
theorem sV0(a b:List Int)(ha:a.length<=1000000):∃ v,N0 (a,b)=some v:=by
 unfold N0;cases hc:decide ((a.length:Int)=(b.length:Int))with
 | false=>exact⟨false,rfl⟩
 | true=>
  rw[Ad]at hc;simp only[aw,Aa];have:=u4 (F:=fun (d:Int->Option Bool) c=>bif (decide (c<((a).length:Int)))then (b8 (nth a c) fun v9=>b8 (nth b c) fun v10=>bif (!decide (v9=v10))then (some false)else (d (aa.wrap (c+(1:Int)))))else (some true)) (x:=(0:Int)) (fun y:Int=>0<=y/\y<=(a.length:Int)) (fun y=>((a.length:Int)-y).toNat) (fun _=>True) ?_ ⟨by simp,by simp⟩ (by first | omega | (simp only;omega))
  ·obtain⟨v,hv,_⟩:=this
   exact⟨v,hv⟩
  rintro rec i ⟨h1,h2⟩ e;obtain⟨i,rfl⟩:∃ f:Nat,i=f:=⟨i.toNat,by omega⟩;by_cases hi:i<a.length
  ·simp only[o9 hi,r7,ae hi,ae (show i<b.length by omega),b9,Ac,l6 hi (by omega:a.length<2^62)]
   cases decide (a[i]=b[i])with
   | false=>exact⟨false,rfl,trivial⟩
   | true=>exact e _ ⟨by omega,by omega⟩ (by omega)
  have:i=a.length:=by omega
  subst this;simp only[r9,Aa];exact⟨true,rfl,trivial⟩
theorem sI0{ns:List Nd}{ars:List Ar}{fs:List Int}{l:List Ft}(ha:ars.length<=1000)(hl:l.length<=1000)(hp:∀ f∈l,f.2.2.2.2.length<=1000)(id g:Int)(m:List (Int×Bool)):∃ v:Bool,P4 ((ns,ars,fs,l),id,g,m)=some v/\True:=by
 unfold P4;refine u4 (fun y:Int=>0<=y/\y<=(l.length:Int)) (fun y=>((l.length:Int)-y).toNat) _ ?_ ⟨by simp,by simp⟩ (by first | omega | (simp only;omega));rintro rec i ⟨h1,h2⟩ r;obtain⟨i,rfl⟩:∃ s:Nat,i=s:=⟨i.toNat,by omega⟩;by_cases hi:i<l.length
 ·have t:=hp l[i] (aq hi)
  have next:=r ((i+1:Nat):Int) ⟨by omega,by omega⟩ (by omega)
  simp only[o9 hi,r7,ae hi,b9,Ac,au0,B0 _ _ (show l[i].2.2.2.2.length<2^62 by omega),l6 hi (by omega:l.length<2^62)];cases decide (l[i].1=id)with
  | true=>exact next
  | false=>
   cases decide (R0 l[i].2.1=3)with
   | false=>exact next
   | true=>
    cases decide (g∈l[i].2.2.2.2)with
    | false=>exact next
    | true=>
     simp only[aw,Aa];refine u4 (fun y:Int=>0<=y/\y<=(l.length:Int)) (fun y=>((l.length:Int)-y).toNat) _ ?_ ⟨by simp,by simp⟩ (by first | omega | (simp only;omega));rintro o j ⟨g1,g2⟩ e;obtain⟨j,rfl⟩:∃ u:Nat,j=u:=⟨j.toNat,by omega⟩;by_cases hj:j<l.length
     ·have w:=hp l[j] (aq hj)
      have c:=e ((j+1:Nat):Int) ⟨by omega,by omega⟩ (by omega);obtain⟨v,hv,_⟩:=tB0 t w;simp only[o9 hj,r7,ae hj,b9,Ac,hv,B0 _ _ (show l[j].2.2.2.2.length<2^62 by omega),l6 hj (by omega:l.length<2^62)];cases decide (l[j].1=id)with
      | true=>exact c
      | false=>
       cases decide (R0 l[j].2.1=3)with
       | false=>exact c
       | true=>
        cases decide ((0:Int)<(v.length:Int))with
        | true=>exact c
        | false=>
         simp only[aw,Aa];refine u4 (fun y:Int=>0<=y/\y<=(ars.length:Int)) (fun y=>((ars.length:Int)-y).toNat) _ ?_ ⟨by simp,by simp⟩ (by first | omega | (simp only;omega));rintro p q ⟨f1,f2⟩ h;obtain⟨q,rfl⟩:∃ x:Nat,q=x:=⟨q.toNat,by omega⟩;by_cases k:q<ars.length
         ·have d:=h ((q+1:Nat):Int) ⟨by omega,by omega⟩ (by omega)
          have n:∃ b:Bool,orO (lkp (fun (a b:Int)=>decide (a=b)) ars[q].1 m) (some false)=some b:=by
           cases lkp (fun (a b:Int)=>decide (a=b)) ars[q].1 m with
           | none=>exact⟨false,rfl⟩
           | some b=>exact⟨b,rfl⟩
          obtain⟨b,z⟩:=n;simp only[o9 k,r7,ae k,b9,Ac,z,l6 k (by omega:ars.length<2^62)];cases decide (ars[q].2.2.2.2.1∈l[i].2.2.2.2)<;>cases decide (ars[q].2.2.2.2.2∈l[i].2.2.2.2)<;>cases b<;>cases decide (ars[q].2.2.2.2.2∈l[j].2.2.2.2)<;>cases decide (ars[q].2.2.2.2.1∈l[j].2.2.2.2)<;>first | exact d | exact c
         have:q=ars.length:=by omega
         subst this;simp only[r9,Aa];exact⟨true,rfl,trivial⟩
     have:j=l.length:=by omega
     subst this;simp only[r9,Aa];exact next
 have:i=l.length:=by omega
 subst this;simp only[r9,Aa];exact⟨false,rfl,trivial⟩
end Dp
namespace Dp
theorem ki0{α:Type}(a:α)(z:Option α):orO (some a) z=some a:=rfl
def pX0(ns:List Nd)(ars:List Ar)(fs:List Int)(p:Int)(r:Rg):Prop:=J0 ns ars fs/\(F5 ars fs.length true (C7 ns ars) [] []).2=true/\r∈mM0 ns ars fs/\r.1=p
theorem pr0(ns:List Nd)(ars:List Ar)(fs:List Int):∃ R e,H5 (ns,ars,fs)=some (R,e)/\R.length<=1000000/\∀ r∈R,pX0 ns ars fs r.1 r:=by
 by_cases hp:H4 ns ars fs=0
 ·have h:=T6.1 hp
  cases hf:(F5 ars fs.length true (C7 ns ars) [] []).2 with
  | true=>refine⟨_,_,pT0 h hf,?_,fun r d=>⟨h,hf,d,rfl⟩⟩;unfold mM0;rw[(L1 (cS0 _)).length_eq,rD0 h hf];exact h.areas_ok.2
  | false=>obtain⟨c,hlen⟩:=h.areas_ok;have b:=h.faces_eq (l:=C7 ns ars) hlen (fun a ha=>by obtain⟨h1,h2,f⟩:=c.all a ha;exact⟨h1,h2,by omega⟩) c.ne;have hdiv:D5 ((ns,ars,fs),J0.cyclesOf ns ars,B8 ns ars)=some (C7 ns ars):=h.divide_eq h.cycs_ok;refine⟨[],12,?_,by simp,by simp⟩;unfold H5;simp only[h.Cycles_eq,b9,Ai,aw,Aa,h.pathsOf_eq,hdiv,b,hf,aP,Ac]
 refine⟨[],H4 ns ars fs,?_,by simp,by simp⟩;unfold H5;have e:decide (H4 ns ars fs=0)=false:=by simpa using hp
 simp only[aB0 hp,b9,e,aP,Ac]
theorem xS0(ns:List Nd)(ars:List Ar)(fs:List Int):∃ m,G4 (ns,ars,fs)=some m/\∀ p r,lkp qI p m=some r->pX0 ns ars fs p r:=by
 obtain⟨R,e,d,hl,a⟩:=pr0 ns ars fs;unfold G4;simp only[d,b9];refine u4 (fun y:Int×List (Int×Rg)=>0<=y.1/\y.1<=(R.length:Int)/\∀ p r,lkp qI p y.2=some r->pX0 ns ars fs p r) (fun y=>((R.length:Int)-y.1).toNat) _ ?_ ⟨by simp,by simp,fun p r h=>by cases h⟩ (by first | omega | (simp only;omega));rintro rec ⟨i,m⟩ ⟨h1,h2,b⟩ f;simp only at h1 h2 b;obtain⟨i,rfl⟩:∃ g:Nat,i=g:=⟨i.toNat,by omega⟩;by_cases hi:i<R.length
 ·simp only[o9 hi,r7,ae hi,b9,Ac,l6 hi (by omega:R.length<2^62)]
  refine f _ ⟨by simp only;omega,by simp only;omega,fun p r c=>?_⟩ (by simp only;omega);have hk:lkp qI p (I9 qI R[i].1 R[i] m)=some r:=c;rw[W5]at hk;split at hk
  ·rename_i e
   cases hk;rw[e];exact a _ (aq hi)
  exact b p r hk
 have:i=R.length:=by omega
 subst this;simp only[r9,Aa];exact⟨m,rfl,b⟩
def EncP(ns:List Nd)(ars:List Ar)(fs:List Int)(f:Ft)(p g:Int):Prop:=R0 f.2.1=3/\f.2.2.2.2=[p]/\∃ r,pX0 ns ars fs p r/\r.2.1≠[]/\r.2.2.1=[]/\(∀ d∈r.2.1,C8 ars (-d)=g)/\∀ d∈r.2.1,-d∉r.2.1
theorem sR0{ns:List Nd}{ars:List Ar}{fs:List Int}(h:J0 ns ars fs){d:Int}(b:kw0 d):∃ v,bP0 ((ns,ars,fs),d)=some v:=by
 unfold bP0;simp only[h.arcOfD_eq b,b9];generalize (if d=0 then (((0,0,0,[],0,0):Ar),false)else match cH0 ars (aZ0 d)with | some a=>(a,true) | none=>((0,0,0,[],0,0),false))=q;cases q.2 with
 | false=>exact⟨_,rfl⟩
 | true=>cases decide (0<d)<;>exact⟨_,rfl⟩
section
variable {ns:List Nd} {ars:List Ar} {fs:List Int} {l:List Ft} (ha:ars.length<=1000) (hl:l.length<=1000) (hp:∀ f∈l,f.2.2.2.2.length<=1000)
include ha hl hp
theorem enc_ex{m:List (Int×Rg)}(hm:∀ p r,lkp qI p m=some r->pX0 ns ars fs p r)(f:Ft):∃ v:Int×Bool,D7 ((ns,ars,fs,l),m,f)=some v/\(v.2=true->∃ p,EncP ns ars fs f p v.1):=by
 have no:∀ g:Int,∃ v:Int×Bool,some (g,false)=some v/\(v.2=true->∃ p,EncP ns ars fs f p v.1):=fun g=>⟨(g,false),rfl,fun h=>by cases h⟩;unfold D7;simp only[au0,b9];cases hs:decide (R0 f.2.1=3)with
 | false=>exact no 0
 | true=>
  rw[Ad]at hs;cases R:decide ((f.2.2.2.2.length:Int)=1)with
  | false=>exact no 0
  | true=>
   rw[Ad]at R;obtain⟨p,z⟩:∃ p,f.2.2.2.2=[p]:=List.length_eq_one_iff.1 (by omega);have u:nth f.2.2.2.2 0=some p:=by rw[z];rfl
   simp only[aw,Aa,u,b9];cases U:lkp (fun (a b:Int)=>decide (a=b)) p m with
   | none=>exact no 0
   | some r=>
    obtain⟨h,hf,hr,V⟩:=hm p r U;simp only[Option.isSome_some,Ac,ki0,b9];cases ho:decide ((r.2.1.length:Int)=0)with
    | true=>exact no 0
    | false=>
     rw[An]at ho;have B:r.2.1≠[]:=fun e=>ho (by rw[e];rfl);cases hi:decide ((0:Int)<(r.2.2.1.length:Int))with
     | true=>exact no 0
     | false=>
      rw[An]at hi;have C:r.2.2.1=[]:=bJ (by omega);cases hal:decide ((0:Int)<(r.2.2.2.length:Int))with
      | true=>exact no 0
      | false=>
       simp only[Aa];obtain⟨us,W,D⟩:=kD0 (l:=l) (by omega) (fun f hf=>by have:=hp f hf;omega) ns ars fs 3 r.1;obtain⟨q,hq⟩:=sV0 us [f.1] D;simp only[W,hq,b9];cases q with
       | false=>exact no 0
       | true=>
        obtain⟨_,hc,_,_,_⟩:=gH0 h hf hr B C;have E:=h.cycs_ok.cyc _ hc;have X:∀ d∈r.2.1,kw0 d/\kw0 (-d)/\d≠0/\aa.wrap (0-d)=-d/\a_ mxI d [-d]=aZ0 d:=fun d x=>by obtain⟨q1,q2,a,qa,q3⟩:=E.2.2 d x;have O:=h.num qa;have hab:aZ0 d=max d (-d):=rfl;refine⟨q1,⟨by omega,by omega⟩,q2,by rw[w64 (by omega) (by omega)];omega,?_⟩;rw[eC0];rfl
        have k:0<r.2.1.length:=by omega
        have h0:=X _ (aq k);have u:nth r.2.1 0=some r.2.1[0]:=by show nth r.2.1 ((0:Nat):Int)=_;rw[r7,ae k]
        simp only[aw,Aa,u,b9,h0.2.2.2.1,h.Side_eq h0.2.1];generalize hg:C8 ars (-r.2.1[0])=g;have hlen:r.2.1.length<=512:=E.2.1;refine u4 (fun y:Int×List (Int×Bool)=>0<=y.1/\y.1<=(r.2.1.length:Int)/\(∀ d∈r.2.1.take y.1.toNat,C8 ars (-d)=g/\lkp qI (aZ0 d) y.2=some true)/\(r.2.1.take y.1.toNat).Pairwise (fun a b=>aZ0 a≠aZ0 b)) (fun y=>((r.2.1.length:Int)-y.1).toNat) _ ?_ ⟨by simp,by simp,by simp,by simp⟩ (by first | omega | (simp only;omega));rintro rec ⟨i,S⟩ ⟨g1,g2,g3,g4⟩ G;simp only at g1 g2 g3 g4;obtain⟨i,rfl⟩:∃ i':Nat,i=i':=⟨i.toNat,by omega⟩;have ei:((i:Nat):Int).toNat=i:=by simp
        rw[ei]at g3 g4;by_cases o:i<r.2.1.length
        ·have P:=ae o
         have H:=aq o;generalize r.2.1[i]=d at P H;obtain⟨q1,q2,q3,q4,q5⟩:=X d H;obtain⟨n,hn⟩:=sR0 h q1;simp only[o9 o,r7,P,b9,Ac,q4,q5,hn,h.Side_eq q2];obtain⟨Q,I,Y⟩:∃ Q:Bool,orO (lkp (fun (a b:Int)=>decide (a=b)) (aZ0 d) S) (some false)=some Q/\(Q=false->lkp qI (aZ0 d) S≠some true):=by
          cases s:lkp (fun (a b:Int)=>decide (a=b)) (aZ0 d) S with
          | none=>exact⟨false,rfl,fun _ e=>by cases e⟩
          | some b=>exact⟨b,rfl,fun O e=>by rw[O]at e;cases e⟩
         cases Q with
         | true=>simp only[I,b9,Ac];exact no 0
         | false=>
          have s:=Y rfl;simp only[I,b9,Aa];cases J:decide (C8 ars (-d)=g)with
          | false=>exact no 0
          | true=>
           rw[Ad]at J;simp only[aw,Aa,dH0 ns ars fs n (show ars.length<=1000000 by omega),b9];cases decide (((db0 ars n:Nat):Int)=2)with
           | false=>exact no 0
           | true=>
            obtain⟨u1,Z,_⟩:=kD0 (l:=l) (by omega) (fun f hf=>by have:=hp f hf;omega) ns ars fs 1 n;obtain⟨u2,hu2,_⟩:=kD0 (l:=l) (by omega) (fun f hf=>by have:=hp f hf;omega) ns ars fs 2 (aZ0 d);simp only[aw,Aa,Z,hu2,b9];cases decide ((0:Int)<(u1.length:Int))with
            | true=>exact no 0
            | false=>
             cases decide ((0:Int)<(u2.length:Int))with
             | true=>exact no 0
             | false=>
              simp only[Aa,l6 o (by omega:r.2.1.length<2^62)];refine G _ ⟨by simp only;omega,by simp only;omega,?_,?_⟩ (by simp only;omega)
              ·have e1:(((i+1:Nat):Int)).toNat=i+1:=by simp
               simp only[e1];intro d2 c;rw[bh,P]at c;show _/\lkp qI (aZ0 d2) (I9 qI (aZ0 d) true S)=some true;rw[W5];rcases aK.1 c with c | c
               ·obtain⟨z1,z2⟩:=g3 d2 c
                refine⟨z1,?_⟩;split
                ·rfl
                exact z2
               simp at c;subst c;exact⟨J,by simp⟩
              have e1:(((i+1:Nat):Int)).toNat=i+1:=by simp
              simp only[e1];rw[bh,P,eJ];refine⟨g4,by simp,fun a hha b K e=>?_⟩;simp at K;subst K;have:=(g3 a hha).2;rw[e]at this;exact s this
        have:i=r.2.1.length:=by omega
        subst this;obtain⟨b,O,_⟩:=sI0 (ns:=ns) (fs:=fs) ha hl hp f.1 g S;simp only[r9,Aa,O,b9];cases b with
        | true=>exact no 0
        | false=>
         rw[bM]at g3 g4;refine⟨(g,true),rfl,fun _=>⟨p,hs,z,r,⟨h,hf,hr,V⟩,B,C,fun d x=>(g3 d x).1,fun d x hnd=>?_⟩⟩;obtain⟨i,L,e1⟩:=aJ x;obtain⟨j,M,e2⟩:=aJ hnd;have hne:i≠j:=fun e=>by subst e;rw[e1]at e2;have:=(X d x).2.2.1;omega
         have t:aZ0 d=aZ0 (-d):=by unfold aZ0;omega
         have N:=cX.1 g4;rcases e_ hne with w | w
         ·have:=N i j L M w
          rw[e1,e2]at this;exact this t
         have:=N j i M L w;rw[e1,e2]at this;exact this t.symm
end
end Dp
set_option maxRecDepth 10000
namespace Dp
theorem tW0{ns:List Nd}{ars:List Ar}{fs:List Int}(h:J0 ns ars fs)(p:Int):S9 ((ns,ars,fs),p)=some (W7 ns ars [p] ars):=by
 have s:=h.lenA;unfold S9;refine(p6 (A:=Int) ars (fun i a=>((i:Int),a)) (fun a rest=>some (a+W7 ns ars [p] rest)) (fun i a=>-(571746046443520*(i:Int))<=a/\a<=571746046443520*(i:Int)) (by omega) ?_ ?_ 0 ⟨by simp,by simp⟩).trans (by simp)
 ·intro rec a m
  simp only[r9,Aa,W7,fF]
 intro rec i a x rest hi m j k;have f:x∈ars:=by
  have:x∈ars.drop i:=by rw[j];simp
  exact aX this
 have t:=h.num f;have c:x.1=aZ0 x.1:=by unfold aZ0;omega
 obtain⟨p0,pl,b,n,o,cl⟩:=h.dart_path (d:=x.1) ⟨x,f,c⟩;rw[<- c]at b;obtain⟨u,v⟩:=cf0 pl p0 o cl;have q:-571746046443520<=L3 p0 pl/\L3 p0 pl<=571746046443520:=by omega
 have e:mT0 ns ars x=L3 p0 pl:=by simp only[mT0,b]
 have l:N8 ((ns,ars,fs),[x.1])=some (L3 p0 pl):=by
  rw[h.Twice_eq (by simp) (fun d j=>by rw[aT.1 j];exact⟨⟨by omega,by omega⟩,by omega,x,f,c⟩)];have:ha0 ns ars x.1=L3 p0 pl:=by unfold ha0;rw[<- c,b];simp only;rw[Ae (by omega)]
  simp only[G8,this,fF]
 simp only[o9 hi,Ac,l9 j,b9,l6 hi (by omega:ars.length<2^62),l];by_cases c1:x.2.2.2.2.1=p<;>by_cases c2:x.2.2.2.2.2=p
 ·simp only[c1,c2,Ai,Ac]
  have g:aa.wrap (a+L3 p0 pl)=a+L3 p0 pl:=w64 (by omega) (by omega);have r:aa.wrap (a+L3 p0 pl-L3 p0 pl)=a:=by rw[w64 (by omega) (by omega)];omega
  rw[g,r,k a (by omega)];simp[W7,c1,c2]
 ·simp only[c1,c2,Ai,Ag,Ac,Aa]
  have g:aa.wrap (a+L3 p0 pl)=a+L3 p0 pl:=w64 (by omega) (by omega);rw[g,k _ (by omega)];simp[W7,c1,c2,e];omega
 ·simp only[c1,c2,Ai,Ag,Ac,Aa]
  have g:aa.wrap (a-L3 p0 pl)=a-L3 p0 pl:=w64 (by omega) (by omega);rw[g,k _ (by omega)];simp[W7,c1,c2,e];omega
 simp only[c1,c2,Ag,Aa];rw[k a (by omega)];simp[W7,c1,c2]
abbrev Cd:=Int×Int×Int
def cmpC(x y:Cd):Int:=if nz0 x.2.2 y.2.2≠0 then nz0 x.2.2 y.2.2 else nz0 x.1 y.1
theorem lz0{x y:Int}:nz0 x y=0↔x=y:=by unfold nz0;grind
theorem jJ0{x y:Cd}:cmpC x y<0↔x.2.2<y.2.2\/x.2.2=y.2.2/\x.1<y.1:=by
 unfold cmpC;by_cases h:nz0 x.2.2 y.2.2=0
 ·rw[Ae (by simp[h]),O4]
  rw[lz0]at h;omega
 rw[Af h,O4];rw[lz0]at h;omega
theorem dh0(l:List Cd):Ordered cmpC l :=ax0 (fun x _=>by rw[jJ0];omega) (fun x _ y _ z _ a b=>by rw[jJ0]at *;omega) (fun x _ y _ z _ a b=>by rw[jJ0]at *;omega)
end Dp
namespace Dp
theorem xb0(a b:Int):K9 [a,b]=some (if a≠0 then a else b):=by
 unfold K9;refine(r8 (A:=Unit) [a,b] (fun i _=>(i:Int)) (fun _ rest=>some ((rest.find? fun x=>!decide (x=0)).getD 0)) (by simp) ?_ ?_ ()).trans ?_
 ·intro rec _
  simp only[r9,Aa];rfl
 ·intro rec i _ x rest hi c d
  simp only[o9 hi,Ac,l9 c,b9,l6 hi (by simp:[a,b].length<2^62)];by_cases h:x=0
  ·simp only[h,Ai,aw,Aa,fK]
   exact d ()
  simp only[h,Ag,aP,Ac,fK];rfl
 by_cases h:a=0
 ·subst h
  by_cases h2:b=0<;>simp[h2]
 simp[h]
theorem tv0{l:List Cd}(hl:l.length<=1000000):slices_SortFunc_collapse_candidate_collapse_candidates_1 (l,3,())=some (Z9 cmpC l):=by unfold slices_SortFunc_collapse_candidate_collapse_candidates_1;simp only[Ai,Ac];refine dr0 (fun x _ y _=>?_) (dh0 l) (by omega);unfold F6;simp only[cmp_eq,b9,xb0];rfl
section
variable {ns:List Nd} {ars:List Ar} {fs:List Int} {l:List Ft} (ha:ars.length<=1000) (hl:l.length<=1000) (hp:∀ f∈l,f.2.2.2.2.length<=1000)
include ha hl hp
theorem wK0(least:Int):∃ L,E7 ((ns,ars,fs,l),least)=some L/\L.length<=1000000/\∀ c∈L,∃ f∈l,∃ g,f.1=c.1/\EncP ns ars fs f c.2.1 g/\W7 ns ars [c.2.1] ars<least:=by
 obtain⟨m,e,h⟩:=xS0 ns ars fs;unfold E7;simp only[e,b9];refine u4 (fun y:Int×List Cd=>0<=y.1/\y.1<=(l.length:Int)/\(y.2.length:Int)<=y.1/\∀ c∈y.2,∃ f∈l,∃ g,f.1=c.1/\EncP ns ars fs f c.2.1 g/\W7 ns ars [c.2.1] ars<least) (fun y=>((l.length:Int)-y.1).toNat) _ ?_ ⟨by simp,by simp,by simp,by simp⟩ (by first | omega | (simp only;omega));rintro rec ⟨i,acc⟩ ⟨h1,h2,s,d⟩ n;simp only at h1 h2 s d;obtain⟨i,rfl⟩:∃ t:Nat,i=t:=⟨i.toNat,by omega⟩;by_cases hi:i<l.length
 ·have o:=ae hi
  have a:=aq hi;generalize l[i]=f at o a;obtain⟨v,hv,j⟩:=enc_ex ha hl hp h f;have next:=n (((i+1:Nat):Int),acc) ⟨by simp only;omega,by simp only;omega,by simp only;omega,d⟩ (by simp only;omega)
  simp only[o9 hi,r7,o,b9,Ac,hv,l6 hi (by omega:l.length<2^62)];cases u:v.2 with
  | false=>exact next
  | true=>
   obtain⟨p,q⟩:=j u;obtain⟨q1,q2,r,w,q3⟩:=id q;have k:nth f.2.2.2.2 0=some p:=by rw[q2];rfl
   simp only[aw,Aa,k,b9,tW0 w.1];cases b:decide (W7 ns ars [p] ars<least)with
   | false=>exact next
   | true=>
    rw[Ad]at b;simp only[Ac];rw[y7 (by decide) (by simp;omega),b9];refine n _ ⟨by simp only;omega,by simp only;omega,by simp;omega,fun c hc=>?_⟩ (by simp only;omega);rcases aK.1 hc with hc | hc
    ·exact d c hc
    rw[aT.1 hc];exact⟨f,a,v.1,rfl,q,b⟩
 have:i=l.length:=by omega
 subst this;simp only[r9,Aa,tv0 (show acc.length<=1000000 by omega),b9];exact⟨_,rfl,by rw[(L1 (dh0 _)).length_eq];omega,fun c hc=>d c ((L1 (dh0 _)).mem_iff.1 hc)⟩
end
end Dp
open Go.Pg
theorem lf0{α:Type}[DecidableEq α]:∀ {l D:List α},l.Nodup->(∀ x∈l,x∈D)->l.length<=D.length
 | [],D,_,_=>Nat.zero_le _
 | x::l,D,a,hs=>by rw[eE]at a;have b:=hs x (ch ..);have:=lf0 (D:=D.erase x) a.2 fun y c=>(List.mem_erase_of_ne (fun e:y=x=>a.1 (by rw[<- e];exact c))).2 (hs y (bC _ c));rw[List.length_erase_of_mem b]at this;have hp:=List.length_pos_of_mem b;simp only[ax];omega
theorem tR0{B:Nat}{L:List Q2}(k:Nat)(c:List Int)(h:∀ a∈L,a.2.2.2.length<=B):∀ a∈addI L k c,a.2.2.2.length<=B:=by
 unfold addI;cases b:L[k]? with
 | none=>exact h
 | some x=>
  intro a ha;rcases br ha with ha | rfl
  ·exact h a ha
  exact h x (aD b)
theorem qw0{m:List (Int×List Pt)}{B:Nat}:∀ (R:List (List Int)) (L:List Q2),(∀ a∈L,a.2.2.2.length<=B)->∀ a∈inF m R L,a.2.2.2.length<=B
 | [],L,h=>h
 | c::R,L,h=>qw0 R _ (tR0 _ c h)
theorem tG0{B:Nat}{L:List Q2}(k:Nat)(c:Int)(h:∀ a∈L,a.2.2.2.length<=B):∀ a∈addN L k c,a.2.2.2.length<=B+1:=by
 unfold addN;cases b:L[k]? with
 | none=>exact fun a ha=>fA (h a ha)
 | some x=>
  intro a ha;rcases br ha with ha | rfl
  ·exact fA (h a ha)
  have:=h x (aD b);simp only[aH,ax,aU];omega
theorem oE0{ns:List Nd}{ars:List Ar}{m:List (Int×List Pt)}:∀ (R:List Nd) (L:List Q2) (B:Nat),(∀ a∈L,a.2.2.2.length<=B)->∀ a∈aloF ns ars m R L,a.2.2.2.length<=B+R.length
 | [],L,B,h=>h
 | n::R,L,B,h=>by
  intro a ha;unfold aloF at ha;have:=oE0 R _ (B+1) (by
   cases decide (db0 ars n.1=0)with
   | true=>exact tG0 _ _ h
   | false=>exact fun a ha=>fA (h a ha)) a ha
  simp only[ax];omega
namespace Dp
section
variable {ns:List Nd} {ars:List Ar} {fs:List Int} (h:J0 ns ars fs)
include h
theorem pO0:∀ a∈C7 ns ars,a.2.2.2.length<=256:=by
 have:=h.lenN;intro a ha;have h1:∀ a∈iB0 ns ars (J0.cyclesOf ns ars),a.2.2.2.length<=0:=by
  intro a ha;unfold iB0 at ha;rcases aC.1 ha with rfl | ha
  ·simp
  obtain⟨c,_,rfl⟩:=aY.1 ha;simp
 have h2:=oE0 ns (inF (B8 ns ars) ((J0.cyclesOf ns ars).filter fun c=>!decide (0<G8 ns ars c)) (iB0 ns ars (J0.cyclesOf ns ars))) 0 (qw0 _ _ h1) a ha;omega
theorem lN0{k:Nat}{a:Q2}(hk:(C7 ns ars)[k+1]?=some a):(∀ c∈N2 a,c∈J0.cyclesOf ns ars)/\(N2 a).flatten.length<=512:=by
 obtain⟨cs,f⟩:∃ cs,cs=J0.cyclesOf ns ars:=⟨_,rfl⟩;have E:C7 ns ars=T4 ns ars (B8 ns ars) cs:=by rw[f];rfl
 have h1:((C7 ns ars)[k+1]?).map (fun x=>(x.1,x.2.1,x.2.2.1))=((iB0 ns ars cs)[k+1]?).map (fun x=>(x.1,x.2.1,x.2.2.1++(cs.filter fun c=>!decide (0<G8 ns ars c)).filter (fun c=>decide (cq0 (B8 ns ars) (iB0 ns ars cs) (bA0 (B8 ns ars) c)=k+1)))):=by rw[E];unfold T4;rw[kK0,nt0 _ _ rfl,dU];rfl
 rw[hk]at h1;unfold iB0 at h1;rw[aI,aM]at h1;cases o:(cs.filter fun c=>decide (0<G8 ns ars c))[k]? with
 | none=>rw[o]at h1;simp at h1
 | some C=>
  rw[o]at h1;simp only[aj,ai,bV,bG]at h1;obtain⟨_,e1,e2⟩:=h1;obtain⟨p,q⟩:=bc.1 (aD o);have b:∀ c∈N2 a,c∈cs:=fun c hc=>by
   unfold N2 at hc;rcases aC.1 hc with rfl | hc
   ·rw[e1];exact p
   rw[e2]at hc;exact(bc.1 (bc.1 hc).1).1
  refine⟨fun c hc=>f▸b c hc,?_⟩;have r:cs.Nodup:=f▸h.cycles_nodup;have m:(N2 a).Nodup:=by unfold N2;rw[e1,e2,eE];refine⟨fun hm=>?_,(r.filter _).filter _⟩;have:=(bc.1 (bc.1 hm).1).2;rw[q]at this;cases this
  have g:=dx.1 h.cyc_all.1.nodup;rw[<- f]at g;have s:(N2 a).flatten.Nodup:=by
   refine dx.2 ⟨fun c hc=>g.1 c (b c hc),?_⟩;refine m.imp_of_mem fun {c c'} hc t u x z y B e=>?_;obtain⟨i,hi,e3⟩:=aJ (b c hc);obtain⟨j,hj,e4⟩:=aJ (b c' t);have v:i≠j:=fun e=>by subst e;exact u (e3.symm.trans e4)
   have n:=cX.1 g.2;rcases e_ v with l | l
   ·have:=n i j hi hj l
    rw[e3,e4]at this;exact this x z y B e
   have:=n j i hj hi l;rw[e3,e4]at this;exact this y B x z e.symm
  have hle:=lf0 s (D:=J0.dartsL ns ars) fun d G=>by obtain⟨c,hc,w⟩:=bD.1 G;exact h.cyc_dart (f▸b c hc) w
  have:=h.darts_len;omega
end
end Dp
end Go.Ab
namespace Go.Ab
open Go Go.Sort Go.Proofs Go.Shelf
set_option maxRecDepth 10000
namespace Dp
theorem catB{α:Type}{b:Nat}{xs ys:List α}(a:b<=16)(h:xs.length+ys.length<=5000000000000):G5 b xs ys=some (xs++ys):=by
 unfold G5;have:(decide ((2*(xs.length+ys.length)+1000)*b<=2^48)&&decide (xs.length+ys.length<=2^62))=true:=by simp only[ab,Ad];refine⟨?_,by omega⟩;have h1:(2*(xs.length+ys.length)+1000)*b<=(2*(xs.length+ys.length)+1000)*16:=Nat.mul_le_mul_left _ a;omega
 rw[this];rfl
theorem sl0(i:Nat):decide (0<=(i:Int))=true:=by simp
abbrev Rn:=Int×Int
def xG0(x y:Rn):Int:=nz0 x.1 y.1
theorem fM0(l:List Rn):Ordered xG0 l :=ax0 (fun x _=>by grind [xG0,O4]) (fun x _ y _ z _ a b=>by unfold xG0 at *;rw[O4]at *;omega) (fun x _ y _ z _ a b=>by unfold xG0 at *;rw[O4]at *;omega)
theorem to0{l:List Rn}(hl:l.length<=1000000):slices_SortFunc_api_Range_span_Normal_1 (l,2,())=some (Z9 xG0 l):=by unfold slices_SortFunc_api_Range_span_Normal_1;simp only[Ai,Ac];refine dr0 (fun x _ y _=>?_) (fM0 l) (by omega);unfold V8;simp only[cmp_eq,b9];rfl
theorem lp0{l:List Rn}(hl:l.length<=1000000):∃ v,Y4 l=some v/\v.length<=l.length:=by
 unfold Y4;have hm:mksO 16 (((0:Int),(0:Int)):Int×Int) (l.length:Int)=some (ba l.length (0,0)):=by
  unfold mksO;have:(decide (0<=(l.length:Int))&&(decide (aa.wrap (l.length:Int)=(l.length:Int))&&decide (16*((l.length:Int)).toNat<=2^48)))=true:=by rw[w64 (by omega) (by omega)];simp;omega
  rw[this];simp
 have hc:cpyO (ba l.length ((0:Int),(0:Int))) l=some l:=by unfold cpyO;simp
 simp only[hm,hc,b9,to0 hl];have b:(Z9 xG0 l).length=l.length:=(L1 (fM0 _)).length_eq;generalize Z9 xG0 l=s at b ⊢;refine u4 (fun y:List Rn×Int=>0<=y.2/\y.2<=(s.length:Int)/\(y.1.length:Int)<=y.2) (fun y=>((s.length:Int)-y.2).toNat) _ ?_ ⟨by simp,by simp,by simp⟩ (by first | omega | (simp only;omega));rintro rec ⟨acc,i⟩ ⟨h1,h2,e⟩ c;simp only at h1 h2 e;obtain⟨i,rfl⟩:∃ f:Nat,i=f:=⟨i.toNat,by omega⟩;by_cases hi:i<s.length
 ·have e13:aa.wrap ((acc.length:Int)-1)=(acc.length:Int)-1:=w64 (by omega) (by omega)
  simp only[o9 hi,sl0,eG,O7,ae hi,aj,b9,Ac,e13,l6 hi (by omega:s.length<2^62)];cases decide (s[i].2<=s[i].1)with
  | true=>simp only[Ac];exact c _ ⟨by simp only;omega,by simp only;omega,by simp only;omega⟩ (by simp only;omega)
  | false=>
   simp only[Aa];have app:∃ v,(b8 (G5 16 acc [(s[i].1,s[i].2)]) fun d=>rec (d,((i+1:Nat):Int)))=some v/\v.length<=l.length:=by rw[y7 (by decide) (by simp;omega),b9];exact c _ ⟨by simp only;omega,by simp only;omega,by simp;omega⟩ (by simp only;omega)
   cases hz:decide ((0:Int)<=(acc.length:Int)-1)with
   | false=>simp only[Aa];exact app
   | true=>
    rw[Ad]at hz;obtain⟨k,hk⟩:∃ k:Nat,(acc.length:Int)-1=k:=⟨((acc.length:Int)-1).toNat,by omega⟩;have a:k<acc.length:=by omega
    simp only[Ac,hk,o9 a,sl0,eG,Bool.true_and,O7,ae a,aj,b9,em0 (ae a)];cases decide (s[i].1<=acc[k].2)with
    | false=>simp only[Aa];exact app
    | true=>simp only[Ac];exact c _ ⟨by simp only;omega,by simp only;omega,by simp;omega⟩ (by simp only;omega)
 have:i=s.length:=by omega
 subst this;simp only[r9,Aa];exact⟨acc,rfl,by omega⟩
theorem ua0{a b:List Rn}(ha:a.length<=1000000)(s:b.length<=1000000):∃ v,bZ0 (a,b)=some v/\v.length<=2000000000000:=by
 unfold bZ0;obtain⟨nb,f,k⟩:=lp0 s;obtain⟨d,g,l⟩:=lp0 ha;simp only[f,g,b9];refine u4 (fun y:List Rn×Int×List Rn=>0<=y.2.1/\y.2.1<=(d.length:Int)/\y.1.length<=1000000/\(y.2.2.length:Int)<=1000002*y.2.1) (fun y=>((d.length:Int)-y.2.1).toNat) _ ?_ ⟨by simp,by simp,by simp only;omega,by simp⟩ (by first | omega | (simp only;omega));rintro rec ⟨bs,i,out⟩ ⟨h1,h2,m,t⟩ n;simp only at h1 h2 m t;obtain⟨i,rfl⟩:∃ u:Nat,i=u:=⟨i.toNat,by omega⟩;by_cases hi:i<d.length
 ·simp only[o9 hi,r7,ae hi,b9,Ac,l6 hi (by omega:d.length<2^62)]
  refine u4 (fun y:List Rn=>y.length<=1000000) (fun y=>y.length) _ ?_ m (by first | omega | (simp only;omega));rintro p c hc h;have fin:∀ (lo:Int) (o:List Rn),(o.length:Int)<=1000002*(i:Int)+1000001->∃ v,(bif decide (lo<d[i].2)then (b8 (G5 16 o [(lo,d[i].2)]) fun v29=>rec (c,((i+1:Nat):Int),v29))else rec (c,((i+1:Nat):Int),o))=some v/\v.length<=2000000000000:=by
   intro lo o B;cases decide (lo<d[i].2)with
   | false=>simp only[Aa];exact n _ ⟨by simp only;omega,by simp only;omega,hc,by simp only;omega⟩ (by simp only;omega)
   | true=>simp only[Ac];rw[catB (by decide) (by simp;omega),b9];exact n _ ⟨by simp only;omega,by simp only;omega,hc,by simp;omega⟩ (by simp only;omega)
  have body:∀ {F:(Int×Int×List Rn->Option (List Rn))->Int×Int×List Rn->Option (List Rn)},(∀ r x,F r x=(bif (decide (x.2.1<((c).length:Int)))then (
     b8 (nth c x.2.1) fun v25=>
     bif (decide (v25.1<d[i].2))then (
     b8 (nth c x.2.1) fun v28=>
     bif (decide (x.1<v28.1))then (
      b8 (G5 16 x.2.2 [(x.1,v28.1)]) fun v31=>
      b8 (nth c x.2.1) fun v32=>
      r (v32.2,(aa.wrap (x.2.1+(1:Int))),v31))else (
      b8 (nth c x.2.1) fun v31=>
      r (v31.2,(aa.wrap (x.2.1+(1:Int))),x.2.2)))else (
     bif (decide (x.1<d[i].2))then (
      b8 (G5 16 x.2.2 [(x.1,d[i].2)]) fun v29=>
      rec (c,((i+1:Nat):Int),v29))else (
      rec (c,((i+1:Nat):Int),x.2.2))))else (
     bif (decide (x.1<d[i].2))then (
     b8 (G5 16 x.2.2 [(x.1,d[i].2)]) fun v26=>
     rec (c,((i+1:Nat):Int),v26))else (
     rec (c,((i+1:Nat):Int),x.2.2)))))->∃ v,rounds F (d[i].1,0,out)=some v/\v.length<=2000000000000:=by
   intro F hF;refine u4 (fun y:Int×Int×List Rn=>0<=y.2.1/\y.2.1<=(c.length:Int)/\(y.2.2.length:Int)<=1000002*(i:Int)+y.2.1) (fun y=>((c.length:Int)-y.2.1).toNat) _ ?_ ⟨by simp,by simp,by simp only;omega⟩ (by first | omega | (simp only;omega));rintro q ⟨lo,j,o⟩ ⟨g1,g2,g3⟩ e;simp only at g1 g2 g3;rw[hF];obtain⟨j,rfl⟩:∃ w:Nat,j=w:=⟨j.toNat,by omega⟩;by_cases hj:j<c.length
   ·simp only[o9 hj,r7,ae hj,b9,Ac,l6 hj (by omega:c.length<2^62)]
    cases decide (c[j].1<d[i].2)with
    | false=>simp only[Aa];exact fin lo o (by omega)
    | true=>
     simp only[Ac];cases decide (lo<c[j].1)with
     | false=>simp only[Aa];exact e _ ⟨by simp only;omega,by simp only;omega,by simp only;omega⟩ (by simp only;omega)
     | true=>simp only[Ac];rw[catB (by decide) (by simp;omega),b9];exact e _ ⟨by simp only;omega,by simp only;omega,by simp;omega⟩ (by simp only;omega)
   have:j=c.length:=by omega
   subst this;simp only[r9,Aa];exact fin lo o (by omega)
  cases hp:decide ((0:Int)<(c.length:Int))with
  | false=>simp only[Aa];exact body fun r x=>rfl
  | true=>
   rw[Ad]at hp;have z:nth c (0:Int)=some c[0]:=by show nth c ((0:Nat):Int)=_;rw[r7,ae (by omega)]
   simp only[Ac,z,b9];cases decide (c[0].2<=d[i].1)with
   | true=>simp only[Ac];have:=mc0 (xs:=c) (i:=1) (by decide) (by omega);rw[this,b9];exact h _ (by simp;omega) (by simp;omega)
   | false=>simp only[Aa];exact body fun r x=>rfl
 have:i=d.length:=by omega
 subst this;simp only[r9,Aa];exact⟨out,rfl,by omega⟩
end Dp
namespace Dp
theorem xc0(a b:Int):∃ v,ci0 (a,b)=some v:=by
 unfold ci0 ew0;simp only[b9];by_cases c:b=0
 ·simp[c]
 simp only[c,Ag,Aa];generalize (bif decide (a=-9223372036854775808)then b8 (some (decide (b=-1))) fun v4=>bif v4 then some (15:Int)else some 0 else some 0)=q;cases decide (a=-9223372036854775808)<;>cases decide (b=-1)<;>simp only[Ac,Aa,b9]<;>(try exact⟨_,rfl⟩)
 all_goals
  cases (!decide (a.tmod b=0))<;>cases (decide (a.tmod b<0)==decide (b<0))<;>exact⟨_,rfl⟩
theorem tZ0{l:List Int}(hl:l.length<4611686018427387904):slices_Sort_int (l,1)=some (js0 l):=by
 unfold slices_Sort_int;have:decide (l.length<4611686018427387904)=true:=by simp only[Ad];omega
 simp[this]
section
variable {ns:List Nd} {ars:List Ar} {fs:List Int} (h:J0 ns ars fs)
include h
theorem uH0{c:List Int}(hc:c∈J0.cyclesOf ns ars){d:Int}(i:d∈c):a_ mxI d [aa.wrap (0-d)]=aZ0 d/\∃ path,lkp (fun (a b:Int)=>decide (a=b)) (aZ0 d) (B8 ns ars)=some path/\path.length<=66/\∀ q∈path,nx0 q:=by
 obtain⟨q1,q2,a,f,q3⟩:=(h.cycs_ok.cyc c hc).2.2 d i;have m:=h.num f;have j:aZ0 d=max d (-d):=rfl;have hw:aa.wrap (0-d)=-d:=by rw[w64 (by omega) (by omega)];omega
 refine⟨by rw[hw,eC0];rfl,?_⟩;obtain⟨p0,pl,e,k,l,cl⟩:=h.dart_path (d:=d) ⟨a,f,q3⟩;refine⟨p0::pl,?_,by simp only[ax];omega,fun q g=>?_⟩
 ·have:=h.pathsM_look f
  rw[q3,e]at this;exact this
 rcases aC.1 g with rfl | g
 ·exact l
 exact cl q g
theorem xq0{k:Nat}{a:Q2}(hk:(C7 ns ars)[k+1]?=some a)(y:Int):∃ v,K6 (B8 ns ars,(ns,ars,fs),(a.1,a.2.1,a.2.2.1,a.2.2.2),y)=some v/\v.length<=2000000000000:=by
 obtain⟨t,E⟩:=lN0 h hk;have hal:=pO0 h a (aD hk);have hq:=(h.areas_ok.1.all a (aD hk)).2.2;have hlN:=h.lenN;unfold K6;have K:B2 (a.1,a.2.1,a.2.2.1,a.2.2.2)=some (N2 a):=h.cycles_eq (show a.2.2.1.length<=1000000 by omega);simp only[K,b9];generalize N2 a=cs at t E;have G:∀ i,(cs.take i).flatten.length<=512:=fun i=>by
  have e:cs.flatten=(cs.take i).flatten++(cs.drop i).flatten:=by rw[<- ft,cL]
  rw[e,aH]at E;omega
 have hcl:cs.length<=1000000:=by
  have:∀ l:List (List Int),(∀ c∈l,c∈J0.cyclesOf ns ars)->l.length<=l.flatten.length:=by
   intro l
   induction l with
   | nil=>simp
   | cons c l ih=>intro hl;have h1:=ih fun c hc=>hl c (bC _ hc);have h2:=(h.cycs_ok.cyc c (hl c (ch ..))).1;have L:0<c.length:=List.length_pos_iff.2 h2;simp only[ax,bN,aH];omega
  have:=this cs t;omega
 refine u4 (fun x:Int×List Int×List Rn=>0<=x.1/\x.1<=(cs.length:Int)/\x.2.1.length<=66*(cs.take x.1.toNat).flatten.length/\x.2.2.length<=66*(cs.take x.1.toNat).flatten.length) (fun x=>((cs.length:Int)-x.1).toNat) _ ?_ ⟨by simp,by simp,by simp,by simp⟩ (by first | omega | (simp only;omega));rintro rec ⟨i,cr,tk⟩ ⟨h1,h2,L,X⟩ hr;simp only at h1 h2 L X;obtain⟨i,rfl⟩:∃ i':Nat,i=i':=⟨i.toNat,by omega⟩;have ei:((i:Nat):Int).toNat=i:=by simp
 rw[ei]at L X;by_cases hi:i<cs.length
 ·have M:=ae hi
  have u:=t _ (aq hi);have H:(cs.take (i+1)).flatten.length=(cs.take i).flatten.length+cs[i].length:=by rw[bh,M];simp only[gE,ft,bN,List.flatten_nil,dv,aH]
  have Y:=G (i+1);generalize cs[i]=c at M u H;have J:=(h.cycs_ok.cyc c u).2.1;simp only[o9 hi,r7,M,b9,Ac,l6 hi (by omega:cs.length<2^62)];refine u4 (fun x:Int×List Int×List Rn=>0<=x.1/\x.1<=(c.length:Int)/\(x.2.1.length:Int)<=66*((cs.take i).flatten.length+x.1)/\(x.2.2.length:Int)<=66*((cs.take i).flatten.length+x.1)) (fun x=>((c.length:Int)-x.1).toNat) _ ?_ ⟨by simp,by simp,by simp only;omega,by simp only;omega⟩ (by first | omega | (simp only;omega));rintro I ⟨j,cr2,tk2⟩ ⟨g1,g2,g3,g4⟩ p;simp only at g1 g2 g3 g4;obtain⟨j,rfl⟩:∃ N:Nat,j=N:=⟨j.toNat,by omega⟩;by_cases hj:j<c.length
  ·have Z:=ae hj
   obtain⟨d1,path,d2,d3,_⟩:=uH0 h u (aq hj);generalize c[j]=d at Z d1 d2;simp only[o9 hj,r7,Z,b9,Ac,d1,d2,ki0,l6 hj (by omega:c.length<2^62)];refine u4 (fun x:Int×List Int×List Rn=>1<=x.1/\x.1<=(path.length:Int)+1/\(x.2.1.length:Int)<=66*((cs.take i).flatten.length+j)+(x.1-1)/\(x.2.2.length:Int)<=66*((cs.take i).flatten.length+j)+(x.1-1)) (fun x=>((path.length:Int)+1-x.1).toNat) _ ?_ ⟨by simp,by simp only;omega,by simp only;omega,by simp only;omega⟩ (by first | omega | (simp only;omega));rintro g ⟨q,f,m⟩ ⟨f1,f2,f3,f4⟩ n;simp only at f1 f2 f3 f4;obtain⟨q,rfl⟩:∃ O:Nat,q=O:=⟨q.toNat,by omega⟩;cases r:decide ((q:Int)<(path.length:Int))with
   | false=>rw[An]at r;simp only[Aa];exact p _ ⟨by simp only;omega,by simp only;omega,by simp only;omega,by simp only;omega⟩ (by simp only;omega)
   | true=>
    rw[Ad]at r;have o:q<path.length:=by omega
    have C:aa.wrap ((q:Int)-1)=((q-1:Nat):Int):=by rw[w64 (by omega) (by omega)];omega
    simp only[Ac,C,r7,ae o,ae (show q-1<path.length by omega),b9,l6 o (by omega:path.length<2^62)];have c1:∀ z:Rn,G5 16 m [z]=some (m++[z]):=fun z=>y7 (by decide) (by simp;omega);have c2:∀ z:Int,G5 8 f [z]=some (f++[z]):=fun z=>y7 (by decide) (by simp;omega);have D:=n (((q+1:Nat):Int),f,m) ⟨by simp only;omega,by simp only;omega,by simp only;omega,by simp only;omega⟩ (by simp only;omega);have n2:=fun z:Rn=>n (((q+1:Nat):Int),f,m++[z]) ⟨by simp only;omega,by simp only;omega,by simp only;omega,by simp only[aH,ax,aU];omega⟩ (by simp only;omega);have n3:=fun z:Int=>n (((q+1:Nat):Int),f++[z],m) ⟨by simp only;omega,by simp only;omega,by simp only[aH,ax,aU];omega,by simp only;omega⟩ (by simp only;omega);have n4:=fun (z:Int) (w:Rn)=>n (((q+1:Nat):Int),f++[z],m++[w]) ⟨by simp only;omega,by simp only;omega,by simp only[aH,ax,aU];omega,by simp only[aH,ax,aU];omega⟩ (by simp only;omega);generalize path[q-1]=P at *;generalize path[q]=Q at *;have half:∀ (A B:Pt),∃ v,(bif decide (y<A.2)then g (((q+1:Nat):Int),f,m)else
      bif decide (B.2<y)then g (((q+1:Nat):Int),f,m)else
      bif decide (A.2=B.2)then (b8 (G5 16 m [((a_ mnI A.1 [B.1]),(aa.wrap ((a_ mxI A.1 [B.1])+(1:Int))))]) fun v45=>g (((q+1:Nat):Int),f,v45))else
      b8 (ci0 ((aa.wrap ((aa.wrap (y-A.2))*(aa.wrap (B.1-A.1)))),(aa.wrap (B.2-A.2)))) fun v46=>
      bif (decide ((aa.wrap (v46.1*(aa.wrap (B.2-A.2))))=(aa.wrap ((aa.wrap (y-A.2))*(aa.wrap (B.1-A.1))))))then (
       b8 (G5 16 m [((aa.wrap (A.1+v46.1)),(aa.wrap ((aa.wrap (A.1+v46.1))+(1:Int))))]) fun v53=>
       bif (decide (y<B.2))then (
       b8 (G5 8 f [(aa.wrap (A.1+v46.1))]) fun R=>
       g (((q+1:Nat):Int),R,v53))else (
       g (((q+1:Nat):Int),f,v53)))else (
       bif (decide (y<B.2))then (
       b8 (G5 8 f [(aa.wrap (A.1+v46.1))]) fun S=>
       g (((q+1:Nat):Int),S,m))else (
       g (((q+1:Nat):Int),f,m))))=some v/\v.length<=2000000000000:=by
     intro A B;obtain⟨v,hv⟩:=xc0 (aa.wrap ((aa.wrap (y-A.2))*(aa.wrap (B.1-A.1)))) (aa.wrap (B.2-A.2));simp only[hv,c1,c2,b9];cases decide (y<A.2)with
     | true=>exact D
     | false=>
      cases decide (B.2<y)with
      | true=>exact D
      | false=>
       cases decide (A.2=B.2)with
       | true=>exact n2 _
       | false=>
        simp only[Aa];cases (decide ((aa.wrap (v.1*(aa.wrap (B.2-A.2))))=(aa.wrap ((aa.wrap (y-A.2))*(aa.wrap (B.1-A.1))))))<;>cases (decide (y<B.2))
        ·exact D
        ·exact n3 _
        ·exact n2 _
        exact n4 _ _
    cases decide (Q.2<P.2)with
    | true=>exact half Q P
    | false=>exact half P Q
  have:j=c.length:=by omega
  subst this;simp only[r9,Aa];refine hr _ ⟨by simp only;omega,by simp only;omega,?_,?_⟩ (by simp only;omega)
  ·have e1:(((i+1:Nat):Int)).toNat=i+1:=by simp
   simp only[e1];omega
  have e1:(((i+1:Nat):Int)).toNat=i+1:=by simp
  simp only[e1];omega
 have:i=cs.length:=by omega
 subst this;have hT:=G cs.length;simp only[r9,Aa];refine u4 (fun x:Int×List Rn=>0<=x.1/\x.1<=(a.2.2.2.length:Int)/\(x.2.length:Int)<=33792+x.1) (fun x=>((a.2.2.2.length:Int)-x.1).toNat) _ ?_ ⟨by simp,by simp,by simp only;omega⟩ (by first | omega | (simp only;omega));rintro I ⟨j,t2⟩ ⟨g1,g2,g3⟩ p;simp only at g1 g2 g3;obtain⟨j,rfl⟩:∃ N:Nat,j=N:=⟨j.toNat,by omega⟩;by_cases hj:j<a.2.2.2.length
 ·simp only[o9 hj,r7,ae hj,b9,Ac,h.Node_eq,l6 hj (by omega:a.2.2.2.length<2^62)]
  have D:=p (((j+1:Nat):Int),t2) ⟨by simp only;omega,by simp only;omega,by simp only;omega⟩ (by simp only;omega);cases S3 ns a.2.2.2[j]with
  | none=>exact D
  | some w=>
   simp only[Ac];cases decide (w.2.2=y)with
   | false=>exact D
   | true=>simp only[Ac];rw[y7 (by decide) (by simp;omega),b9];exact p _ ⟨by simp only;omega,by simp only;omega,by simp;omega⟩ (by simp only;omega)
 have:j=a.2.2.2.length:=by omega
 subst this;simp only[r9,Aa,tZ0 (show cr.length<4611686018427387904 by omega),b9];have U:=gD0 cr;generalize js0 cr=s at U;refine u4 (fun x:Int×List Rn=>1<=x.1/\x.1<=(s.length:Int)+2/\(x.2.length:Int)<=x.1) (fun x=>((s.length:Int)+2-x.1).toNat) _ ?_ ⟨by simp,by simp only;omega,by simp⟩ (by first | omega | (simp only;omega));rintro g ⟨q,op⟩ ⟨f1,f2,f3⟩ n;simp only at f1 f2 f3;obtain⟨q,rfl⟩:∃ O:Nat,q=O:=⟨q.toNat,by omega⟩;cases r:decide ((q:Int)<(s.length:Int))with
 | true=>
  rw[Ad]at r;have o:q<s.length:=by omega
  have C:aa.wrap ((q:Int)-1)=((q-1:Nat):Int):=by rw[w64 (by omega) (by omega)];omega
  have V:aa.wrap ((q:Int)+2)=((q+2:Nat):Int):=by rw[w64 (by omega) (by omega)];omega
  simp only[Ac,C,V,o9 o,o9 (show q-1<s.length by omega),sl0,eG,O7,ae o,ae (show q-1<s.length by omega),aj,b9];cases decide (s[q-1]<s[q])with
  | false=>simp only[Aa];exact n _ ⟨by simp only;omega,by simp only;omega,by simp only;omega⟩ (by simp only;omega)
  | true=>simp only[Ac];rw[y7 (by decide) (by simp;omega),b9];exact n _ ⟨by simp only;omega,by simp only;omega,by simp;omega⟩ (by simp only;omega)
 | false=>
  simp only[Aa];cases decide ((op.length:Int)=0)with
  | true=>exact⟨[],rfl,by simp⟩
  | false=>obtain⟨v,hv,W⟩:=ua0 (a:=op) (b:=t2) (by omega) (by omega);simp only[Aa,hv,b9];exact⟨v,rfl,W⟩
end
end Dp
namespace Dp
theorem ff0{α β:Type}(a:α)(f:α->Option β):b8 (some a) f=f a:=Eq.trans (Eq.symm (Eq.refl _)) rfl
def yB(v:Int×Int×Int×Int):Prop:=-2097152<=v.2.1/\v.2.1<=2097152/\-2097152<=v.2.2.2/\v.2.2.2<=2097152
theorem gO0{l:List Pt}(hl:l.length<=1000000)(a:∀ q∈l,nx0 q):∃ v,aT0 l=some v/\yB v:=by
 unfold aT0;cases hz:decide ((l.length:Int)=0)with
 | true=>exact⟨_,rfl,by simp[yB]⟩
 | false=>
  rw[An]at hz;have h:nth l (0:Int)=some l[0]:=by show nth l ((0:Nat):Int)=_;rw[r7,ae (by omega)]
  obtain⟨m,n,b,c⟩:=a _ (aq (show 0<l.length by omega));simp only[Aa,h,b9];refine u4 (fun x:Int×Int×Int×Int×Int=>0<=x.1/\x.1<=(l.length:Int)/\-2097152<=x.2.2.1/\x.2.2.1<=2097152/\-2097152<=x.2.2.2.2/\x.2.2.2.2<=2097152) (fun x=>((l.length:Int)-x.1).toNat) _ ?_ ⟨by simp,by simp,b,c,b,c⟩ (by first | omega | (simp only;omega));rintro rec ⟨i,o,p,r,s⟩ ⟨h1,h2,d,e,f,g⟩ j;simp only at h1 h2 d e f g;obtain⟨i,rfl⟩:∃ k:Nat,i=k:=⟨i.toNat,by omega⟩;by_cases hi:i<l.length
  ·obtain⟨c1,c2,t,u⟩:=a _ (aq hi)
   simp only[o9 hi,r7,ae hi,b9,Ac,l6 hi (by omega:l.length<2^62),rt0,eC0];exact j _ ⟨by simp only;omega,by simp only;omega,by simp only;omega,by simp only;omega,by simp only;omega,by simp only;omega⟩ (by simp only;omega)
  have:i=l.length:=by omega
  subst this;simp only[r9,Aa];exact⟨_,rfl,d,e,f,g⟩
section
variable {ns:List Nd} {ars:List Ar} {fs:List Int} (h:J0 ns ars fs)
include h
theorem rX0{k:Nat}{a:Q2}(hk:(C7 ns ars)[k+1]?=some a)(y:Int):∃ v:Pt×Bool,w9 (B8 ns ars,(ns,ars,fs),(a.1,a.2.1,a.2.2.1,a.2.2.2),y)=some v/\True:=by
 obtain⟨rs,c,e⟩:=xq0 h hk y;unfold w9;simp only[c,b9];refine u4 (fun x:Int×Bool×Int×Int×Int=>0<=x.1/\x.1<=(rs.length:Int)) (fun x=>((rs.length:Int)-x.1).toNat) _ ?_ ⟨by simp,by simp⟩ (by first | omega | (simp only;omega));rintro rec ⟨i,b,f,x,j⟩ ⟨h1,h2⟩ d;simp only at h1 h2;obtain⟨i,rfl⟩:∃ g:Nat,i=g:=⟨i.toNat,by omega⟩;by_cases hi:i<rs.length
 ·have e0:decide ((1:Int)<0)=false:=rfl
  simp only[o9 hi,r7,ae hi,b9,Ac,e0,Aa,l6 hi (by omega:rs.length<2^62)];cases decide (f<aa.wrap (rs[i].2-rs[i].1))with
  | true=>simp only[Ac];exact d _ ⟨by simp only;omega,by simp only;omega⟩ (by simp only;omega)
  | false=>simp only[Aa];exact d _ ⟨by simp only;omega,by simp only;omega⟩ (by simp only;omega)
 have:i=rs.length:=by omega
 subst this;simp only[r9,Aa];exact⟨_,rfl,trivial⟩
variable (hf:(F5 ars fs.length true (C7 ns ars) [] []).2=true)
include hf
theorem qM0(p:Int):∃ v:Pt×Bool,E0 ((ns,ars,fs),p)=some v/\True:=by
 obtain⟨N,hlen⟩:=h.areas_ok;have B:=h.faces_eq (l:=C7 ns ars) hlen (fun a ha=>by obtain⟨h1,h2,O⟩:=N.all a ha;exact⟨h1,h2,by omega⟩) N.ne;have hdiv:D5 ((ns,ars,fs),J0.cyclesOf ns ars,B8 ns ars)=some (C7 ns ars):=h.divide_eq h.cycs_ok;have C:(C7 ns ars).length<=1000000:=hlen;have hle:=sh0 h hf;unfold E0;simp only[h.Cycles_eq,ff0,Ai,aw,Aa,h.pathsOf_eq,hdiv,B,hf];have D:(F5 ars fs.length true (C7 ns ars) [] []).1=bf0 ns ars fs:=rfl;rw[D,T8 _ _ (by omega),b9];by_cases hm:p∈bf0 ns ars fs
 ·rw[Af hm]
  have m:(bf0 ns ars fs).idxOf p<(C7 ns ars).length:=by rw[<- hle];exact List.idxOf_lt_length_of_mem hm
  generalize (bf0 ns ars fs).idxOf p=j at m;cases hj:decide ((j:Int)<1)with
  | true=>exact⟨_,rfl,trivial⟩
  | false=>
   rw[An]at hj;obtain⟨k,rfl⟩:∃ k,j=k+1:=⟨j-1,by omega⟩;have hk:=ae m;generalize (C7 ns ars)[k+1]=a at hk;obtain⟨E,s⟩:=lN0 h hk;have e:a.2.1∈J0.cyclesOf ns ars:=E _ (by unfold N2;exact ch ..);have Q:a.2.1.length<=512:=(h.cycs_ok.cyc _ e).2.1;simp only[Aa,r7,hk,b9];have f:=rX0 h hk;refine u4 (fun x:Int×List Pt=>0<=x.1/\x.1<=(a.2.1.length:Int)/\(x.2.length:Int)<=132*x.1/\∀ q∈x.2,nx0 q) (fun x=>((a.2.1.length:Int)-x.1).toNat) _ ?_ ⟨by simp,by simp,by simp,by simp⟩ (by first | omega | (simp only;omega));rintro rec ⟨i,G⟩ ⟨h1,h2,O,H⟩ R;simp only at h1 h2 O H;obtain⟨i,rfl⟩:∃ S:Nat,i=S:=⟨i.toNat,by omega⟩;by_cases hi:i<a.2.1.length
   ·have P:=ae hi
    obtain⟨d1,path,d2,d3,d4⟩:=uH0 h e (aq hi);generalize a.2.1[i]=d at P d1 d2;simp only[o9 hi,r7,P,b9,Ac,d1,d2,ki0,l6 hi (by omega:a.2.1.length<2^62)];refine u4 (fun x:Int×List Pt=>1<=x.1/\x.1<=(path.length:Int)+1/\(x.2.length:Int)<=132*i+2*(x.1-1)/\∀ q∈x.2,nx0 q) (fun x=>((path.length:Int)+1-x.1).toNat) _ ?_ ⟨by simp,by simp only;omega,by simp only;omega,H⟩ (by first | omega | (simp only;omega));rintro n ⟨q,U⟩ ⟨g1,g2,g3,g4⟩ g;simp only at g1 g2 g3 g4;obtain⟨q,rfl⟩:∃ V:Nat,q=V:=⟨q.toNat,by omega⟩;cases o:decide ((q:Int)<(path.length:Int))with
    | false=>rw[An]at o;simp only[Aa];exact R _ ⟨by simp only;omega,by simp only;omega,by simp only;omega,g4⟩ (by simp only;omega)
    | true=>
     rw[Ad]at o;have r:q<path.length:=by omega
     have I:aa.wrap ((q:Int)-1)=((q-1:Nat):Int):=by rw[w64 (by omega) (by omega)];omega
     simp only[Ac,I,r7,ae r,ae (show q-1<path.length by omega),b9,l6 r (by omega:path.length<2^62)];rw[y7 (by decide) (by simp only[ax,aU];omega),b9];refine g _ ⟨by simp only;omega,by simp only;omega,by simp only[aH,ax,aU];omega,fun z hz=>?_⟩ (by simp only;omega);rcases aK.1 hz with hz | hz
     ·exact g4 z hz
     simp only[aC,dM,or_false]at hz;rcases hz with rfl | rfl
     ·exact d4 _ (aq _)
     exact d4 _ (aq _)
   have:i=a.2.1.length:=by omega
   subst this;obtain⟨c,J,b1,b2,b3,b4⟩:=gO0 (l:=G) (by omega) H;have e0:decide ((1:Int)<0)=false:=rfl;have e2:(2^(min (1:Int).toNat aa.bits):Int)=2:=by decide
   simp only[r9,Aa,J,b9,e0,e2];have K:-2097152<=(aa.wrap (c.2.1+c.2.2.2)).fdiv 2/\(aa.wrap (c.2.1+c.2.2.2)).fdiv 2<=2097152:=by rw[w64 (by omega) (by omega),fX _ (by decide)];omega
   generalize (aa.wrap (c.2.1+c.2.2.2)).fdiv 2=b at K;refine u4 (fun x:Int×Int×Int=>0<=x.1/\x.1<=8388608) (fun x=>(8388609-x.1).toNat) _ ?_ ⟨by simp,by simp⟩ (by first | omega | (simp only;omega));rintro n ⟨d,u,w⟩ ⟨g1,g2⟩ g;simp only at g1 g2;have W:aa.wrap (b+d)=b+d:=w64 (by omega) (by omega);have X:aa.wrap (b-d)=b-d:=w64 (by omega) (by omega);have Y:aa.wrap (d+1)=d+1:=w64 (by omega) (by omega);simp only[W,X,Y,b9];by_cases Z:b+d<=c.2.2.2\/c.2.1<=b-d
   ·have t:=fun u w=>g (d+1,u,w) ⟨by simp only;omega,by simp only;omega⟩ (by simp only;omega)
    obtain⟨v1,L,_⟩:=f (b+d);obtain⟨v2,M,_⟩:=f (b-d);have fin:∀ (z:Pt×Bool),∃ v:Pt×Bool,some z=some v/\True:=fun z=>⟨z,rfl,trivial⟩;simp only[L,M,b9];cases decide (b+d<=c.2.2.2)<;>cases hc2:decide (c.2.1<=b-d)<;>cases decide (b+d<c.2.1)<;>cases decide (b-d<c.2.1)<;>cases decide (c.2.2.2<b+d)<;>cases decide (c.2.2.2<b-d)<;>simp only[Ac,Aa] <;>
     first
     | exact t _ _
     | exact fin _
     | (cases v1.2<;>simp only[Ac,Aa]<;>first | exact t _ _ | exact fin _ | (cases v2.2<;>simp only[Ac,Aa]<;>first | exact t _ _ | exact fin _))
     | (cases v2.2<;>simp only[Ac,Aa]<;>first | exact t _ _ | exact fin _)
   have c1:decide (b+d<=c.2.2.2)=false:=by rw[An];omega
   have c2:decide (c.2.1<=b-d)=false:=by rw[An];omega
   simp only[c1,c2,Aa];exact⟨_,rfl,trivial⟩
 rw[Ae hm];exact⟨_,rfl,trivial⟩
end
theorem rm0(ns:List Nd)(ars:List Ar)(fs:List Int)(p:Int):∃ v:Pt×Bool,E0 ((ns,ars,fs),p)=some v:=by
 by_cases hp:H4 ns ars fs=0
 ·have h:=T6.1 hp
  cases hf:(F5 ars fs.length true (C7 ns ars) [] []).2 with
  | true=>obtain⟨v,hv,_⟩:=qM0 h hf p;exact⟨v,hv⟩
  | false=>obtain⟨c,hlen⟩:=h.areas_ok;have b:=h.faces_eq (l:=C7 ns ars) hlen (fun a ha=>by obtain⟨h1,h2,d⟩:=c.all a ha;exact⟨h1,h2,by omega⟩) c.ne;have hdiv:D5 ((ns,ars,fs),J0.cyclesOf ns ars,B8 ns ars)=some (C7 ns ars):=h.divide_eq h.cycs_ok;refine⟨((0,0),false),?_⟩;unfold E0;simp only[h.Cycles_eq,ff0,Ai,aw,Aa,h.pathsOf_eq,hdiv,b,hf,aP,Ac]
 refine⟨((0,0),false),?_⟩;unfold E0;have e:decide (H4 ns ars fs=0)=false:=by simpa using hp
 simp only[aB0 hp,ff0,e,aP,Ac]
end Dp
open Go.Pg
namespace Dp
theorem shape8:R0 8=1:=by unfold R0 w6;simp
theorem lG0:∀ {l pre:List Nd} {c:Int},((pre++l).map (·.1)).Pairwise (·<·)->c∉pre.map (·.1)->fv0 l c∉(pre++l).map (·.1)
 | [],pre,c,_,hc=>by simpa[fv0]using hc
 | n::l,pre,c,hp,hc=>by
  have e:pre++n::l=(pre++[n])++l:=by simp
  rw[e]at hp ⊢;unfold fv0;refine lG0 (pre:=pre++[n]) hp ?_;rw[cF,cF,eJ]at hp;have a:=(eJ.1 hp.1).2.2;rw[cF];intro hm;rcases aK.1 hm with hm | hm
  ·by_cases h:n.1=c
   ·simp only[h,Ai,Ac]at hm
    have:=a _ hm n.1 (by simp);omega
   simp only[h,Ag,Aa]at hm;exact hc hm
  by_cases h:n.1=c
  ·simp only[h,Ai,Ac,ay,bA,aT]at hm
   omega
  simp only[h,Ag,Aa,ay,bA,aT]at hm;exact h hm.symm
theorem kA0{l:List Int}{p:Int}(b:l.Nodup)(hp:p∈l):(l.filter (fun f=>!decide (f=p))).length+1=l.length:=by
 induction l with
 | nil=>simp at hp
 | cons a l c=>
  rw[eE]at b;by_cases h:a=p
  ·subst h
   have:l.filter (fun f=>!decide (f=a))=l:=cy.2 fun x d=>by have:x≠a:=fun e=>b.1 (e▸d);simp[this]
   simp[this]
  rcases aC.1 hp with e | hp
  ·exact(h e.symm).elim
  have:=c b.2 hp;simp only[bI,h,Ag,aP,Al,ax];omega
def wl0(ns0:List Nd)(ars0:List Ar)(least:Int)(C:List Int)(f0 f:Ft):Prop :=(f0.1∈C/\R0 f0.2.1=3/\(∃ p,f0.2.2.2.2=[p]/\W7 ns0 ars0 [p] ars0<least)/\∃ c,f=(f0.1,8,f0.2.2.1,f0.2.2.2.1,[c]))\/(f0.1∉C/\f=f0)
theorem wl0.id{ns0:List Nd}{ars0:List Ar}{least:Int}{C:List Int}{f0 f:Ft}(h:wl0 ns0 ars0 least C f0 f):f.1=f0.1:=by rcases h with ⟨_,_,_,c,rfl⟩ | ⟨_,rfl⟩<;>rfl
structure CInv(ns0:List Nd)(ars0:List Ar)(fs0:List Int)(l0:List Ft)(least:Int)(ns:List Nd)(ars:List Ar)(fs:List Int)(l:List Ft)(C:List Int):Prop where
 lenN:ns.length<=ns0.length+C.length
 subA:∀ a∈ars,a∈ars0
 lenA:ars.length<=ars0.length
 lenF:fs.length+C.length=fs0.length
 lenL:l.length=l0.length
 rel:∀ (i:Nat) (f0 f:Ft),l0[i]?=some f0->l[i]?=some f->wl0 ns0 ars0 least C f0 f
 nd:C.Nodup
 sub:∀ c∈C,c∈l0.map (·.1)
 mono:J0 ns ars fs->∀ p∈fs,W7 ns0 ars0 [p] ars0<=W7 ns ars [p] ars
section
variable {ns0:List Nd} {ars0:List Ar} {fs0:List Int} {l0:List Ft} {least:Int} (hid:(l0.map (·.1)).Nodup)
include hid
theorem CInv.step{ns:List Nd}{ars:List Ar}{fs:List Int}{l:List Ft}{C:List Int}(m:CInv ns0 ars0 fs0 l0 least ns ars fs l C){f:Ft}(hf:f∈l){p g:Int}(hE:EncP ns ars fs f p g)(hlt:W7 ns ars [p] ars<least)(at':Pt) :
  CInv ns0 ars0 fs0 l0 least (P0 ns ars fs l f.1 p at').1 (P0 ns ars fs l f.1 p at').2.1 (P0 ns ars fs l f.1 p at').2.2.1 (P0 ns ars fs l f.1 p at').2.2.2 (C++[f.1]):=by
 obtain⟨hs,K,r,⟨h,D,Y,z⟩,L,hi,hg,hn⟩:=hE;obtain⟨M,hcy,Z,o,hall⟩:=gH0 h D Y L hi;have E:p∈fs:=by obtain⟨d,hd⟩:=List.exists_mem_of_ne_nil _ L;have:=wm0 h (d:=d) (by rw[o d hd];exact M);rw[o d hd,z]at this;exact this
 have N:fs.Nodup:=ja (fun h=>by omega) (F1 h.ascF);obtain⟨i,B,G⟩:=aJ hf;have v:i<l0.length:=by rw[<- m.lenL];exact B
 have x:=m.rel i _ _ (ae v) (ae B);rw[G]at x;have s:l0[i].1∉C/\f=l0[i]:=by
  rcases x with ⟨_,_,_,c,e⟩ | h2
  ·rw[e,shape8]at hs;omega
  exact h2
 have O:f.1∉C:=by rw[s.2];exact s.1
 have H:∀ n∈(P0 ns ars fs l f.1 p at').1,n∈ns\/n.1∉ns.map (·.1):=fun n hm=>by
  have t:=(L1 (dd0 _)).mem_iff.1 hm;rcases aK.1 t with t | t
  ·exact .inl (bc.1 t).1
  right;rw[aT.1 t];exact lG0 (l:=ns) (pre:=[]) (F1 h.ascN) (by simp)
 refine⟨?_,fun a ha=>m.subA a (bc.1 ha).1,bo (ck _ _) m.lenA,?_,?_,?_,?_,?_,?_⟩
 ·have h1:(P0 ns ars fs l f.1 p at').1.length=(ns.filter (ix0 (V9 p ars []))).length+1:=by show (Z9 xB0 _).length=_;rw[(L1 (dd0 _)).length_eq];simp
  have h2:(ns.filter (ix0 (V9 p ars []))).length<=ns.length:=ck _ _;have:=m.lenN;simp only[aH,ax,aU];omega
 ·have h1:=kA0 N E
  have:=m.lenF;show (fs.filter (fun f=>!decide (f=p))).length+_=_;simp only[aH,ax,aU];omega
 ·show (l.map _).length=_
  rw[aB];exact m.lenL
 ·intro j f1 f2 w P
  have k:((l.map (upF f.1 (fv0 ns 1)))[j]?)=some f2:=P;rw[aM]at k;cases u:l[j]? with
  | none=>rw[u]at k;cases k
  | some f3=>
   rw[u]at k;simp only[aj,ai]at k;have I:=m.rel j f1 f3 w u;have J:=I.id;by_cases hc:f1.1=f.1
   ·
    have Q:j=i:=by obtain⟨R,S⟩:=an.1 w;refine(c_ (h₀:=by simpa using R) (h₁:=by simpa using v) hid).1 ?_;simp only[cd,S];rw[hc,s.2]
    subst Q;have e1:f1=l0[j]:=by rw[ae v]at w;exact(bd w).symm
    have e3:f3=f:=by rw[ae B]at u;rw[<- G];exact(bd u).symm
    have e4:f=f1:=by rw[e1];exact s.2
    left;refine⟨by rw[hc];simp,by rw[<- e4];exact hs,⟨p,by rw[<- e4];exact K,?_⟩,fv0 ns 1,?_⟩
    ·have:=m.mono h p E
     omega
    rw[<- k,e3,e4];unfold upF;simp
   have U:f3.1≠f.1:=by rw[J];exact hc
   have e2:f2=f3:=by rw[<- k];unfold upF;simp[U]
   rw[e2];rcases I with ⟨q1,q2⟩ | ⟨q1,q2⟩
   ·exact .inl ⟨dO _ q1,q2⟩
   refine .inr ⟨fun hm=>?_,q2⟩;rcases aK.1 hm with hm | hm
   ·exact q1 hm
   exact hc (aT.1 hm)
 ·rw[dq]
  exact⟨m.nd,by simp,fun a ha b hb=>by rw[aT.1 hb];exact fun e=>O (e▸ha)⟩
 ·intro c hc
  rcases aK.1 hc with hc | hc
  ·exact m.sub c hc
  rw[aT.1 hc,s.2];exact bm (aq v)
 intro h1 q hq;obtain⟨V,W⟩:=bc.1 (show q∈fs.filter (fun f=>!decide (f=p))from hq);have X:q≠r.1:=by rw[z];simpa using W
 have g1:=m.mono h q V;have g2:=gain h D Y L hi hg hn X;rw[z]at g2;have g3:=tl0 h h1 (fun a ha=>(bc.1 ha).1) H [q];have e:(P0 ns ars fs l f.1 p at').2.1=ars.filter (O0 p):=rfl;rw[e]at g3 ⊢;omega
end
end Dp
end Go.Ab
namespace Go.Ab
open Go Go.Sort Go.Proofs Go.Shelf
set_option maxRecDepth 10000
theorem qx0:∀ {l:List Ft} {o:Option Int},wa0 o l=false->(∀ p,o=some p->∀ f∈l,p<f.1)/\l.Pairwise (fun f g=>f.1<g.1)
 | [],_,_=>⟨fun _ _ f hf=>by simp at hf,ec⟩
 | f::r,o,h=>by
  unfold wa0 at h;have h2:wa0 (some f.1) r=false:=by revert h;cases ((match o with | some p=>decide (f.1<=p) | none=>false)||!(wc0 f.2.2.2.2))<;>simp
  have h1:∀ p,o=some p->p<f.1:=by
   intro p hp;subst hp;by_cases e:f.1<=p
   ·simp[e]at h
   omega
  obtain⟨a,b⟩:=qx0 h2;have a:=a f.1 rfl;refine⟨?_,cI.2 ⟨a,b⟩⟩;intro p hp g c;have d:=h1 p hp;rcases aC.1 c with rfl | c
  ·exact d
  have:=a g c;omega
structure FtOk(ns:List Nd)(ars:List Ar)(fs:List Int)(l:List Ft):Prop where
 pl:J0 ns ars fs
 len:l.length<=128
 parts:∀ f∈l,f.2.2.2.2.length<=64
 asc:l.Pairwise (fun f g=>f.1<g.1)
 num:∀ f∈l,1<=f.1/\f.1<=1073741824
 some:∀ f∈l,f.2.2.2.2≠[]
theorem ng0{c:Bool}{a b:Int}(ha:a≠0)(h:(bif c then a else b)=0):c=false/\b=0:=by
 cases c with
 | true=>exact Am h ha
 | false=>exact⟨rfl,h⟩
theorem qS0{ns:List Nd}{ars:List Ar}{fs:List Int}{l:List Ft}(a:cm0 ns ars fs l=0):FtOk ns ars fs l:=by
 unfold cm0 at a;have b:Q8 ns ars fs=0:=by
  by_cases h:Q8 ns ars fs=0
  ·exact h
  simp[h]at a
 rw[b]at a;simp only[Ai,aw,Aa]at a;have hp:J0 ns ars fs:=by
  refine T6.1 ?_;unfold Q8 at b;by_cases a:H4 ns ars fs=0
  ·exact a
  simp[a]at b
 obtain⟨h1,a⟩:=ng0 (by decide) a;obtain⟨h2,a⟩:=ng0 (by decide) a;obtain⟨c,a⟩:=ng0 (by decide) a;obtain⟨d,a⟩:=ng0 (by decide) a;obtain⟨g,a⟩:=ng0 (by decide) a;obtain⟨i,a⟩:=ng0 (by decide) a;obtain⟨e,a⟩:=ng0 (by decide) a;refine⟨hp,by have:=of_decide_eq_false h1;omega,fun f hf=>?_,(qx0 c).2,fun f hf=>?_,fun f hf=>?_⟩
 ·have:=dp.1 h2 f hf
  simp[p1]at this;omega
 ·have:=dp.1 d f hf
  simp[p2]at this;omega
 have:=dp.1 e f hf;intro he;rw[p5,he]at this;simp at this
theorem nU0{α:Type}{xs:List α}{i:Int}(b:0<=i)(h1:i<(xs.length:Int)):∃ v,nth xs i=some v/\v∈xs:=by
 have a:i.toNat<xs.length:=by omega
 refine⟨xs[i.toNat],?_,aq a⟩;rw[ml0 b];exact ae a
theorem gO0(l:List Pt)(hl:l.length<=1000000):∃ v,F2 l=some v/\True:=by
 unfold F2;cases l with
 | nil=>exact⟨_,rfl,trivial⟩
 | cons p l=>
  have a:decide ((((p::l).length:Nat):Int)=0)=false:=Ak (by simp;omega);have n0:nth (p::l) (0:Int)=some p:=rfl;simp only[a,Aa,n0,b9];refine u4 (fun y:Int×Int×Int×Int×Int=>0<=y.1) (fun y=>((((p::l).length:Nat):Int)-y.1).toNat) _ ?_ (by simp) (by first | omega | (simp only;omega));intro rec x b d;by_cases c:x.1<(((p::l).length:Nat):Int)
  ·obtain⟨q,f,_⟩:=nU0 (xs:=p::l) b c
   have e:aa.wrap (x.1+1)=x.1+1:=w64 (by omega) (by omega);simp only[c,Ai,Ac,f,b9,e];exact d _ (by simp only;omega) (by simp only;omega)
  simp only[c,Ag,Aa];exact⟨_,rfl,trivial⟩
theorem pv0(ns:List Nd)(ars:List Ar)(fs:List Int)(hv:∀ a∈ars,a.2.2.2.1.length<=4611686018427387904):∃ v,G9 (ns,ars,fs)=some v/\True:=by
 unfold G9;simp only[b9];by_cases h1:(30:Int)<(ns.length:Int)
 ·simp only[h1,Ai,Ac];exact⟨_,rfl,trivial⟩
 by_cases h2:(30:Int)<(ars.length:Int)
 ·simp only[h1,h2,Ai,Ag,Ac,Aa];exact⟨_,rfl,trivial⟩
 by_cases g:(30:Int)<(fs.length:Int)
 ·simp only[h1,h2,g,Ai,Ag,Ac,Aa];exact⟨_,rfl,trivial⟩
 simp only[h1,h2,g,Ag,Aa];refine u4 (fun y:List Pt×Int=>0<=y.2/\y.2<=(ns.length:Int)/\(y.1.length:Int)<=y.2) (fun y=>((ns.length:Int)-y.2).toNat) _ ?_ ⟨by decide,by simp only;omega,by simp⟩ (by simp only;omega);intro rec x j k;obtain⟨l,r,s⟩:=j;by_cases c:x.2<(ns.length:Int)
 ·obtain⟨q,b,_⟩:=nU0 (xs:=ns) l c
  have e:aa.wrap (x.2+1)=x.2+1:=w64 (by omega) (by omega);simp only[c,Ai,Ac,b,b9,e];rw[y7 (by omega) (by simp;omega),b9];exact k _ ⟨by simp only;omega,by simp only;omega,by simp;omega⟩ (by simp only;omega)
 simp only[c,Ag,Aa];refine u4 (fun y:List Pt×Int=>0<=y.2/\y.1.length<=180) (fun y=>((ars.length:Int)-y.2).toNat) _ ?_ ⟨by simp,by simp only;omega⟩ (by simp only;omega);intro h y m d;obtain⟨n,t⟩:=m;by_cases c2:y.2<(ars.length:Int)
 ·obtain⟨q,b,f⟩:=nU0 (xs:=ars) n c2
  have o:=hv q f;have e:aa.wrap (y.2+1)=y.2+1:=w64 (by omega) (by omega);have e2:aa.wrap ((y.1.length:Int)+(q.2.2.2.1.length:Int))=(y.1.length:Int)+(q.2.2.2.1.length:Int):=w64 (by omega) (by omega);simp only[c2,Ai,Ac,b,b9,e,e2];by_cases i:(180:Int)<(y.1.length:Int)+(q.2.2.2.1.length:Int)
  ·simp only[i,Ai,Ac];exact⟨_,rfl,trivial⟩
  simp only[i,Ag,Aa];rw[y7 (by omega) (by omega),b9];exact d _ ⟨by simp only;omega,by simp;omega⟩ (by simp only;omega)
 obtain⟨v,p,_⟩:=gO0 y.1 (by omega);simp only[c2,Ag,Aa,p,b9];cases decide ((-1073741824:Int)<=v.1)<;>cases decide ((-1073741824:Int)<=v.2.1)<;>cases decide (v.2.2.1<=(1073741824:Int))<;>cases decide (v.2.2.2<=(1073741824:Int))<;>cases decide (aa.wrap (v.2.2.1-v.1)<=(3000:Int))<;>exact⟨_,rfl,trivial⟩
theorem pn0(ns:List Nd)(ars:List Ar)(fs:List Int)(l:List Ft)(hv:∀ a∈ars,a.2.2.2.1.length<=4611686018427387904):∃ v,G7 (ns,ars,fs,l)=some v/\True:=by
 obtain⟨b,d,_⟩:=pv0 ns ars fs hv;unfold G7;simp only[d,b9];cases b with
 | false=>exact⟨_,rfl,trivial⟩
 | true=>
  simp only[aw,Aa];by_cases h1:(20:Int)<(l.length:Int)
  ·simp only[h1,Ai,Ac];exact⟨_,rfl,trivial⟩
  simp only[h1,Ag,Aa];refine u4 (fun y:Int=>0<=y) (fun y=>((l.length:Int)-y).toNat) _ ?_ (by simp) (by first | omega | (simp only;omega));intro rec x f g;by_cases c:x<(l.length:Int)
  ·obtain⟨q,h,_⟩:=nU0 (xs:=l) f c
   have e:aa.wrap (x+1)=x+1:=w64 (by omega) (by omega);simp only[c,Ai,Ac,h,b9,e];cases decide ((40:Int)<(q.2.2.2.2.length:Int))with
   | true=>exact⟨_,rfl,trivial⟩
   | false=>
    cases decide ((100:Int)<(q.2.2.2.1.size:Int))with
    | true=>exact⟨_,rfl,trivial⟩
    | false=>exact g _ (by omega) (by omega)
  simp only[c,Ag,Aa];exact⟨_,rfl,trivial⟩
open Go.Pg
namespace Dp
section
variable {ns0:List Nd} {ars0:List Ar} {fs0:List Int} {l0:List Ft} (hc:cm0 ns0 ars0 fs0 l0=0)
include hc
theorem nw0(s:Int×Int×Int×Int×Int×Int):∃ v,C9 ((ns0,ars0,fs0,l0),s)=some v/\v.2=0/\∃ C,v.1.2.2.2.2=js0 C/\CInv ns0 ars0 fs0 l0 s.2.2.1 v.1.1 v.1.2.1 v.1.2.2.1 v.1.2.2.2.1 C:=by
 have hF:=qS0 hc;have h:=hF.pl;have hN:=h.lenN;have hA:=h.lenA;have R:=h.lenF;have hL:=hF.len;have K:∀ a∈ars0,a.2.2.2.1.length<=64:=fun a ha=>h.lenV ha;have hid:(l0.map (·.1)).Nodup:=(fj.2 hF.asc).imp fun h=>by omega
 unfold C9;simp only[cB0,hc,b9,Ai,aw,Aa,vH0 (show ns0.length<=1000000 by omega),nQ0 (show fs0.length<=1000000 by omega)];refine u4 (fun x:Int×List Ar=>0<=x.1/\x.1<=(ars0.length:Int)/\x.2=ars0.take x.1.toNat) (fun x=>((ars0.length:Int)-x.1).toNat) _ ?_ ⟨by simp,by simp,by simp⟩ (by first | omega | (simp only;omega));rintro rec ⟨i,a⟩ ⟨h1,h2,o⟩ S;simp only at h1 h2 o;obtain⟨i,rfl⟩:∃ U:Nat,i=U:=⟨i.toNat,by omega⟩;have V:((i:Nat):Int).toNat=i:=by simp
 rw[V]at o;by_cases hi:i<ars0.length
 ·have d:=ae hi
  have n:=K _ (aq hi);generalize ars0[i]=x at d n;simp only[o9 hi,r7,d,b9,Ac,vF0 (show x.2.2.2.1.length<=1000000 by omega),l6 hi (by omega:ars0.length<2^62)];rw[y7 (by decide) (by rw[o];simp;omega),b9];refine S _ ⟨by simp only;omega,by simp only;omega,?_⟩ (by simp only;omega);have e1:(((i+1:Nat):Int)).toNat=i+1:=by simp
  simp only[e1];rw[o,bh,d];rfl
 have:i=ars0.length:=by omega
 subst this;rw[bM]at o;subst o;simp only[r9,Aa];refine u4 (fun x:Int×List Ft=>0<=x.1/\x.1<=(l0.length:Int)/\x.2=l0.take x.1.toNat) (fun x=>((l0.length:Int)-x.1).toNat) _ ?_ ⟨by simp,by simp,by simp⟩ (by first | omega | (simp only;omega));rintro M ⟨j,b⟩ ⟨g1,g2,g3⟩ B;simp only at g1 g2 g3;obtain⟨j,rfl⟩:∃ W:Nat,j=W:=⟨j.toNat,by omega⟩;have X:((j:Nat):Int).toNat=j:=by simp
 rw[X]at g3;by_cases hj:j<l0.length
 ·have d:=ae hj
  have n:=hF.parts _ (aq hj);generalize l0[j]=x at d n;simp only[o9 hj,r7,d,b9,Ac,nQ0 (show x.2.2.2.2.length<=1000000 by omega),l6 hj (by omega:l0.length<2^62)];rw[y7 (by decide) (by rw[g3];simp;omega),b9];refine B _ ⟨by simp only;omega,by simp only;omega,?_⟩ (by simp only;omega);have e1:(((j+1:Nat):Int)).toNat=j+1:=by simp
  simp only[e1];rw[g3,bh,d];rfl
 have:j=l0.length:=by omega
 subst this;rw[bM]at g3;subst g3;simp only[r9,Aa];have D:CInv ns0 a fs0 b s.2.2.1 ns0 a fs0 b []:=by refine⟨by simp,fun _ ha=>ha,ar _,by simp,rfl,fun i f0 f e1 e2=>?_,ec,by simp,fun _ p _=>Int.le_refl _⟩;rw[e1]at e2;cases e2;exact .inr ⟨by simp,rfl⟩
 refine u4 (fun x:List Nd×List Ar×List Int×List Ft×List Int=>CInv ns0 a fs0 b s.2.2.1 x.1 x.2.1 x.2.2.1 x.2.2.2.1 x.2.2.2.2) (fun x=>fs0.length-x.2.2.2.2.length) _ ?_ D (by first | omega | (simp only;omega));rintro N ⟨ns,ars,fs,l,C⟩ m q;simp only at m q;have lN:=m.lenN;have lA:=m.lenA;have lF:=m.lenF;have lL:=m.lenL;have O:∀ f∈l,f.2.2.2.2.length<=64:=fun f hf=>by
  obtain⟨i,E,r⟩:=aJ hf;have t:i<b.length:=by omega
  rcases m.rel i _ _ (ae t) (ae E)with ⟨_,_,_,c,e⟩ | ⟨_,e⟩
  ·rw[<- r,e];simp
  rw[<- r,e];exact hF.parts _ (aq t)
 obtain⟨L,G,Y,H⟩:=wK0 (ns:=ns) (ars:=ars) (fs:=fs) (l:=l) (by omega) (by omega) (fun f hf=>by have:=O f hf;omega) s.2.2.1;simp only[G,b9];refine u4 (fun x:Int=>0<=x/\x<=(L.length:Int)) (fun x=>((L.length:Int)-x).toNat) _ ?_ ⟨by simp,by simp⟩ (by first | omega | (simp only;omega));rintro P k ⟨f1,f2⟩ I;obtain⟨k,rfl⟩:∃ Z:Nat,k=Z:=⟨k.toNat,by omega⟩;by_cases hk:k<L.length
 ·have d:=ae hk
  obtain⟨f,J,g,u,Q,w⟩:=H _ (aq hk);generalize L[k]=c at d u Q w;obtain⟨v,hv⟩:=rm0 ns ars fs c.2.1;simp only[o9 hk,r7,d,b9,Ac,hv,l6 hk (by omega:L.length<2^62)];cases v.2 with
  | false=>simp only[Aa];exact I _ ⟨by omega,by omega⟩ (by omega)
  | true=>have hs:=sb0 (ns:=ns) (ars:=ars) (fs:=fs) (l:=l) (by omega) (by omega) (fun a ha=>by have:=K a (m.subA a ha);omega) (by omega) (by omega) (fun f hf=>by have:=O f hf;omega) c.1 c.2.1 (v.1.1,v.1.2);simp only[Ac,hs,b9];rw[y7 (by decide) (by simp;omega),b9];have hst:=m.step hid J Q w (v.1.1,v.1.2);rw[u]at hst;have z:=hst.lenF;refine q _ hst ?_;simp only[aH,ax,aU]at z ⊢;omega
 have:k=L.length:=by omega
 subst this;simp only[r9,Aa,sj0 (show C.length<=1000000 by omega),b9];exact⟨_,rfl,rfl,C,rfl,m⟩
end
end Dp
end Go.Ab
namespace Go.Ab
open Go
set_option maxRecDepth 100000
@[instance_reducible] def fm (m:Nat):Fuel:=⟨m+1000⟩
theorem oK0(m:Nat):@C3 (fm m) ()=some true:=by kernel_rfl
theorem ws0:∃ m,fuel0=fm m:=by obtain⟨m,hm⟩:∃ m,many=m+1000:=⟨many-1000,by have:=kx0;omega⟩;exact⟨m,by unfold fuel0 fm;rw[hm]⟩
theorem xv0:C3 ()=some true:=by obtain⟨m,hm⟩:=ws0;rw[hm];exact oK0 m
open Go.Pg Go.Proofs Go.Shelf Go.Sort
namespace Dp
theorem rs0{o:Option Bool}(h:∃ v,o=some v/\v=true):o=some true:=by obtain⟨v,h1,rfl⟩:=h;exact h1
theorem tn0{xs:List Int}(hp:xs.Pairwise (·<·))(hl:xs.length<=1000000):H2 xs=some true:=by
 unfold H2;refine rs0 (u4 (fun x:Int=>1<=x) (fun x=>((xs.length:Int)-x).toNat) (fun v:Bool=>v=true) ?_ (by simp) (by omega));intro rec i h1 a;obtain⟨i,rfl⟩:∃ b:Nat,i=((b+1:Nat):Int):=⟨(i-1).toNat,by omega⟩;by_cases hi:i+1<xs.length
 ·have e1:aa.wrap (((i+1:Nat):Int)-1)=(i:Int):=by rw[w64 (by omega) (by omega)];omega
  have c:=cX.1 hp i (i+1) (by omega) hi (by omega);simp only[o9 hi,Ac,r7,e1,ae hi,ae (show i<xs.length by omega),b9,Ak (show ¬ xs[i+1]<=xs[i]by omega),Aa,l6 hi (by omega:xs.length<2^62)];exact a _ (by omega) (by omega)
 have:decide (((i+1:Nat):Int)<(xs.length:Int))=false:=Ak (by omega);simp only[this,Aa];exact⟨_,rfl,rfl⟩
theorem Has_eq{xs:List Int}{y:Int}(hl:xs.length<=1000000):J6 (xs,y)=some (decide (y∈xs)):=by
 unfold J6;refine r8 (A:=Unit) xs (fun i _=>(i:Int)) (fun _ r=>some (decide (y∈r))) (by omega) ?_ ?_ ()
 ·intro rec _
  simp only[r9,Aa,dM,Ag]
 intro rec i _ x rest hi a b;simp only[o9 hi,Ac,l9 a,b9,l6 hi (by omega:xs.length<2^62)];by_cases h:x=y
 ·simp[h]
 have:(y∈x::rest)↔y∈rest:=by simp[gO h]
 simp only[h,Ag,Aa,b (),this]
theorem km0{xs:List Int}(hl:xs.length<=1000000):D9 (xs,xs)=some true:=by
 unfold D9;simp only[Ai,aw,Aa];refine r8 (A:=Unit) xs (fun i _=>(i:Int)) (fun _ _=>some true) (by omega) ?_ ?_ ()
 ·intro rec _
  simp only[r9,Aa]
 intro rec i _ x rest hi a b;simp only[o9 hi,Ac,l9 a,b9,Ai,aw,Aa,l6 hi (by omega:xs.length<2^62)];exact b ()
theorem mk0{f:Ft}(hl:f.2.2.2.2.length<=1000000):I1 (([],[],[],[f]),([],[],[],[f]))=some true:=by
 have a:H9 (([],[],[]),([],[],[]))=some true:=by unfold H9;simp only[Ai,aw,Aa];exact bS0 fun _=>bS0 fun _=>bS0 fun _=>rfl
 have hF:C1 (f,f)=some true:=by unfold C1;simp only[Ai,Ac,km0 hl,b9,jl]
 unfold I1;simp only[a,b9,Ai,aw,Aa];refine r8 (A:=Unit) [f] (fun i _=>(i:Int)) (fun _ _=>some true) (by simp) ?_ ?_ ()
 ·intro rec _
  simp only[r9,Aa]
 intro rec i _ x rest hi b c;have d:x=f:=by
  have:x∈[f].drop i:=by rw[b];simp
  exact aT.1 (aX this)
 subst d;simp only[o9 hi,Ac,l9 b,b9,hF,aw,Aa,l6 hi (by simp:[x].length<2^62)];exact c ()
theorem rx0{L C:List Int}(b:L.Nodup)(d:C.Nodup)(hs:∀ c∈C,c∈L):L.countP (fun i=>decide (i∈C))=C.length:=by rw[List.countP_eq_length_filter];refine List.Perm.length_eq ((fO (b.filter _) d).2 fun a=>?_);simp only[bc,Ad];exact⟨fun h=>h.2,fun h=>⟨hs a h,h⟩⟩
theorem ly0(l:List Int):(js0 l).Perm l:=by rw[jD0];exact dJ _ _
theorem yr0{l:List Int}(h:l.Nodup):(js0 l).Pairwise (·<·):=by
 have h1:(js0 l).Nodup:=(ly0 l).nodup_iff.2 h;have h2:(js0 l).Pairwise (·<=·):=by rw[jD0];have:=List.pairwise_mergeSort (le:=fun a b:Int=>decide (a<=b)) (by simp;omega) (by simp;omega) l;exact this.imp (by simp)
 exact(h2.and h1).imp fun h=>by omega
theorem CollapseOthers_eq(ns:List Nd)(ars:List Ar)(fs:List Int)(l:List Ft)(s:Int×Int×Int×Int×Int×Int)(hv:∀ a∈ars,a.2.2.2.1.length<=4611686018427387904):A7 ((ns,ars,fs,l),s)=some true:=by
 obtain⟨b,M,_⟩:=pn0 ns ars fs l hv;unfold A7;simp only[M,xv0,b9];cases b with
 | false=>rfl
 | true=>
 simp only[aw,Aa];by_cases hc:cm0 ns ars fs l=0;rotate_left
 ·have:C9 ((ns,ars,fs,l),s)=some (([],[],[],[],[]),cm0 ns ars fs l):=by unfold C9;simp only[cB0,b9,hc,Ag,aP,Ac]
  simp only[this,b9,hc,Ag,aP,Ac]
 have hF:=qS0 hc;have h:=hF.pl;have N:=hF.len;have O:=h.lenF;obtain⟨v,u,w,C,P,m⟩:=nw0 hc s;have hid:(l.map (·.1)).Nodup:=(fj.2 hF.asc).imp fun h=>by omega
 have Y:=m.lenF;have Q:=m.lenL;have K:(js0 C).length=C.length:=gD0 C;have R:aa.wrap ((v.1.2.2.1.length:Int)+((js0 C).length:Int))=(fs.length:Int):=by rw[K,w64 (by omega) (by omega)];omega
 simp only[u,b9,w,Ai,aw,Aa,Q,P,R,tn0 (yr0 m.nd) (by omega)];refine rs0 (u4 (fun x:Int×Int=>0<=x.2/\x.2<=(l.length:Int)/\x.1=(((l.take x.2.toNat).map (·.1)).countP (fun i=>decide (i∈C)):Nat)) (fun x=>((l.length:Int)-x.2).toNat) (fun v:Bool=>v=true) ?_ ⟨by simp,by simp,by simp⟩ (by simp only;omega));rintro rec ⟨n,i⟩ ⟨h1,h2,o⟩ L;simp only at h1 h2 o;obtain⟨i,rfl⟩:∃ S:Nat,i=S:=⟨i.toNat,by omega⟩;have U:((i:Nat):Int).toNat=i:=by simp
 rw[U]at o;have Z:n<=(l.length:Int):=by have V:=List.countP_le_length (p:=fun i=>decide (i∈C)) (l:=(l.take i).map (·.1));rw[aB,List.length_take]at V;omega
 have W:0<=n:=by omega
 by_cases hi:i<l.length
 ·have d:=ae hi
  have g:=aq hi;have B:=hF.parts _ g;have D:i<v.1.2.2.2.1.length:=by omega
  have E:=ae D;have e:=m.rel i _ _ d E;generalize l[i]=x at d g B e;generalize v.1.2.2.2.1[i]=y at E e;have e1:(((i+1:Nat):Int)).toNat=i+1:=by simp
  have q:(x.1∈js0 C)=(x.1∈C):=propext (ly0 C).mem_iff;simp only[o9 hi,Ac,r7,d,E,b9,Has_eq (show (js0 C).length<=1000000 by omega),q,l6 hi (by omega:l.length<2^62)];rcases e with ⟨g1,g2,⟨p,g3,g4⟩,c,rfl⟩ | ⟨g1,rfl⟩
  ·have G:eF0 l x.1=some x:=by
    unfold eF0;obtain⟨z,hz⟩:∃ z,l.find? (fun f=>decide (f.1=x.1))=some z:=by
     cases X:l.find? (fun f=>decide (f.1=x.1))with
     | none=>exact Am (List.find?_eq_none.1 X x g) (by simp)
     | some z=>exact⟨z,rfl⟩
    rw[hz];have H:z.1=x.1:=by simpa using dV hz
    have I:=bj hz;obtain⟨j,hj,r⟩:=aJ I;obtain⟨k,hk,t⟩:=aJ g;have:j=k:=(c_ (h₀:=by simpa using hj) (h₁:=by simpa using hk) hid).1 (by simp only[cd,r,t];exact H);subst this;rw[<- r,t]
   have J:=h.Area_eq l x.1 (by omega) (fun f hf=>by have:=hF.parts f hf;omega);rw[G]at J;simp only[g2,Al,g3]at J;have hle:¬ s.2.2.1<=W7 ns ars [p] ars:=by omega
   have hw:aa.wrap (n+1)=n+1:=w64 (by omega) (by omega);simp only[g1,Ai,aw,Aa,au0,b9,g2,J,hle,Ag,jl,hw];refine L _ ⟨by simp only;omega,by simp only;omega,?_⟩ (by simp only;omega);simp only[e1];rw[bh,d,o];simp[g1,ik]
  simp only[g1,Ag,aP,Ac,mk0 (show y.2.2.2.2.length<=1000000 by omega),b9,aw,Aa];refine L _ ⟨by simp only;omega,by simp only;omega,?_⟩ (by simp only;omega);simp only[e1];rw[bh,d,o];simp[g1,ik]
 have:i=l.length:=by omega
 subst this;rw[bM,rx0 hid m.nd m.sub]at o;simp only[r9,Aa,Ac,K,o,Ai];exact⟨_,rfl,rfl⟩
end Dp
end Go.Ab
