/- A part of the proof; its readable source lies in wip of the prover's repo (squeezed here for the limit of bytes). -/
import Derived.Test.YtiogbkenmjdkoaaGreatDoorMf
import Derived.Test.YtiogbkenmjdkoaaGreatDoorMe
import Derived.KernelRfl
set_option linter.all false
open Bool renaming and_eq_false_iff->dv,and_eq_true->ab,and_true->fZ,false_or->dt,not_eq_false'->gv,not_eq_true'->bS,not_eq_true->dS,not_false->aW,not_true->ax,or_eq_false_iff->bU,or_eq_true->bD,true_and->dX,true->IN,false->IS
open Classical renaming byContradiction->dO
open Decidable renaming decide->IT
open Eq renaming trans->jX
open Exists renaming imp->kS
open Function renaming comp->gY
open Go.IntKind renaming i64->aa,u64->cA
open Int renaming ediv_le_self->kg,ediv_nonneg->kA,emod_nonneg->kz,fdiv_eq_ediv_of_nonneg->fq,le_of_lt->dm,le_of_mul_le_mul_left->bV,le_refl->bJ,lt_of_mul_lt_mul_left->dA,lt_or_le->eE,mul_comm->dy,mul_eq_zero->fJ,mul_le_mul_of_nonneg_left->bd,mul_le_mul_of_nonneg_right->dJ,mul_neg->ez,mul_nonneg->aK,mul_one->gh,mul_sub->cP,mul_zero->d_,natCast_add->kB,neg_neg->dM,neg_tmod->lf,not_lt->lz,tdiv_eq_ediv_of_nonneg->ir,tmod_eq_emod_of_nonneg->iq,tmod_lt_of_pos->jP
open List renaming all_eq_true->ak,all_map->dV,any_eq_false->bC,append_assoc->cx,append_nil->cM,countP_append->gw,eq_nil_of_length_eq_zero->bu,ext_getElem?->gZ,filter_cons->bw,filter_eq_nil_iff->iO,filter_eq_self->di,filter_filter->jD,filter_sublist->cW,find?_cons->kh,find?_some->dI,flatMap_append->gk,flatMap_cons->dF,foldl->bh,getElem?_cons_succ->aM,getElem?_eq_getElem->ae,getElem?_eq_some_iff->ao,getElem?_map->aX,getElem?_set->cS,getElem_drop->jM,getElem_inj->dL,getElem_mem->au,getElem_of_mem->aH,getElem_take->jN,getElem_zipWith->ga,length->eT,length_append->aT,length_cons->aA,length_drop->eY,length_filter_le->cV,length_map->aF,length_nil->bL,length_take->dK,length_zipWith->gj,map_append->cL,map_congr_left->bp,map_cons->ay,map_id->k_,map_map->dB,map_nil->bO,mem_append->aO,mem_append_left->bX,mem_append_right->cC,mem_cons->aI,mem_cons_of_mem->bB,mem_cons_self->cn,mem_filter->aD,mem_flatMap->cY,mem_flatten->br,mem_map->aP,mem_map_of_mem->aC,mem_of_find?_eq_some->bj,mem_of_getElem?->aJ,mem_of_mem_drop->bn,mem_of_mem_take->jk,mem_singleton->aG,mergeSort_perm->cy,nil_append->bq,nodup_append->bQ,nodup_cons->cF,pairwise_append->dT,pairwise_cons->ba,pairwise_flatten->cQ,pairwise_iff_getElem->bE,pairwise_map->ch,pairwise_mergeSort->iF,replicate->bA,singleton_append->iU,sublist_append_right->im,take_add_one->bR,take_append_drop->cJ,take_length->cB,take_of_length_le->iN
open List.Pairwise renaming imp->kR,nil->gJ
open List.Sublist renaming append->gU,refl->fX
open Nat renaming eq_zero_or_pos->jO,le_trans->bI,lt_or_ge->dc,lt_or_gt_of_ne->jL
open Option renaming getD_some->cg,map->kQ,map_map->dw,map_some->aj,some->U,none->No
open Option.some renaming inj->aQ,injEq->ai
open Prod renaming ext->fg
open Prod.mk renaming injEq->cq
namespace Go.Ab
open Go Go.Sort Go.Proofs Go.Shelf
set_option maxRecDepth 10000
namespace Dp
def ZB(a b:Int):∃v,DM (a,b)=U v:=by unfold DM xm;simp
def half{a b:Int}(d:0<=a)(h1:a<=b)(e:b<=1000000):aa.wrap ((cA.wrap (aa.wrap (a+b))).fdiv (2^(min (1:Int).toNat cA.bits)))=(a+b) / 2:=by
 rw[lR (n:=a+b) (by omega) (by omega)];have c:cA.wrap (a+b)=a+b:=IntWalk.u64_in (a+b) ⟨by omega,by omega⟩;rw[c];have f:(2^(min (1:Int).toNat cA.bits):Int)=2:=by decide
 grind[fq,lR]
theorem bq6{a b:List Int}(ha:a.length<=1000)(l:b.length<=1000):∃v,El (a,b)=U v/\v.length<=1000:=by
 unfold El;obtain⟨u,hu,n⟩:=Tp l;obtain⟨w,hw,o⟩:=Tp ha;simp only[hu,hw,cr];refine oa (λy:Int×List Int=>0<=y.1/\y.1<=(w.length:Int)/\(y.2.length:Int)<=y.1) (λy=>((w.length:Int)-y.1).toNat) _ ?_ ⟨by simp,by simp,by simp⟩ (by grind);rintro rec ⟨i,acc⟩ ⟨h1,h2,p⟩ j;simp only at h1 h2 p;obtain⟨i,rfl⟩:∃q:Nat,i=q:=⟨i.toNat,by omega⟩;by_cases a7:i<w.length
 .simp only[lJ a7,mJ,ae a7,cr,dn]
  have next:∀c:Bool,∃v,(bif c then a8 (la 8 acc [w[i]]) λg=>rec (aa.wrap ((i:Int)+1),g)else rec (aa.wrap ((i:Int)+1),acc))=U v/\v.length<=1000:=λc=>by
   rw[lG a7 (by omega)];cases c with
   |true=>rw[nE (by decide) (by simp;omega)];simp only[cr,dn];exact j _ ⟨by simp only;omega,by simp only;omega,by simp;omega⟩ (by simp only;omega)
   |false=>simp only[ct];exact j _ ⟨by simp only;omega,by simp only;omega,by simp only;omega⟩ (by simp only;omega)
  refine oa (λy:Int×Int=>0<=y.2/\y.2<=y.1/\y.1<=(u.length:Int)) (λy=>(y.1-y.2).toNat) _ ?_ ⟨by simp,by simp,by simp⟩ (by grind);rintro k ⟨d,b5⟩ ⟨g1,g2,g3⟩ f;simp only at g1 g2 g3;cases hc:IT (b5<d)with
  |true=>
   rw[gb]at hc;have r:(bif IT ((1:Int)<0)then No else U ((cA.wrap (aa.wrap (b5+d))).fdiv (2^(min (1:Int).toNat cA.bits))))=U ((cA.wrap (aa.wrap (b5+d))).fdiv (2^(min (1:Int).toNat cA.bits))):=rfl;simp only[dn,r,cr,half g1 g2 (by omega)];obtain⟨m,hm⟩:∃m:Nat,(b5+d) / 2=m:=⟨((b5+d) / 2).toNat,by omega⟩;have e:m<u.length:=by omega
   rw[hm];simp only[mJ,ae e,cr];obtain⟨s,h⟩:=ZB u[m] w[i];rw[h,cr,lG e (by omega)];cases s with
   |true=>simp only[dn];exact f _ ⟨by simp only;omega,by simp only;omega,by simp only;omega⟩ (by simp only;omega)
   |false=>simp only[ct];exact f _ ⟨by simp only;omega,by simp only;omega,by simp only;omega⟩ (by simp only;omega)
  |false=>
   rw[nu]at hc;simp only[ct];cases hl:IT (b5<(u.length:Int))with
   |false=>simp only[ct];exact next IS
   |true=>
    rw[gb]at hl;obtain⟨m,rfl⟩:∃m:Nat,b5=m:=⟨b5.toNat,by omega⟩;have e:m<u.length:=by omega
    simp only[dn,mJ,ae e,cr,lV,ax,ct];have:=next (IT (u[m]=w[i]))
    grind
 grind
noncomputable def ql(k id:Int)(f:l9):Bool:=IT (ow f.2.1=k)&&IT (id∈f.2.2.2.2)
def bl3{l:List l9}(hl:l.length<=1000000)(hv:∀f∈l,f.2.2.2.2.length<=900000)(a6:List ef)(al:List dk)(fs:List Int){k:Int}(hk:1<=k/\k<=3)(id:Int):Ah ((a6,al,fs,l),k,id)=U ((l.filter (ql k id)).map (·.1)):=by
 unfold Ah;simp only[show IT (k<1)=IS from mN (by omega),show IT ((3:Int)<k)=IS from mN (by omega),ct];refine(oU (A:=List Int) l (λi a=>((i:Int),a)) (λa rest=>U (a++(rest.filter (ql k id)).map (·.1))) (λi a=>a.length<=i) (by omega) ?_ ?_ [] (by simp)).trans (by simp)
 .grind
 intro rec i a x rest a7 d c e;have b:x∈l:=by grind[bn]
 have:=hv x b;simp only[lJ a7,dn,mq c,cr,AP,BO _ _ (show x.2.2.2.2.length<2^62 by omega),lG a7 (show l.length<2^62 by omega),bw]
 grind[la,nE,cr,ql,ow]
def bp9(a b:List Int)(ha:a.length<=1000000):∃v,DZ (a,b)=U v/\(v=IN->a=b):=by
 unfold DZ;cases hc:IT ((a.length:Int)=(b.length:Int))with
 |false=>exact⟨IS,rfl,λh=>by cases h⟩
 |true=>
  rw[gb]at hc;simp only[ax,ct];refine oa (λy:Int=>0<=y/\y<=(a.length:Int)/\a.take y.toNat=b.take y.toNat) (λy=>((a.length:Int)-y).toNat) _ ?_ ⟨by simp,by simp,by simp⟩ (by grind);rintro rec i ⟨h1,h2,c⟩ d;obtain⟨i,rfl⟩:∃e:Nat,i=e:=⟨i.toNat,by omega⟩;have f:((i:Nat):Int).toNat=i:=by simp
  rw[f]at c;by_cases a7:i<a.length
  .have g:i<b.length:=by omega
   simp only[lJ a7,mJ,ae a7,ae g,cr,dn,lG a7 (by omega:a.length<2^62)];cases j:IT (a[i]=b[i])with
   |false=>exact⟨IS,rfl,λh=>by cases h⟩
   |true=>
    rw[gb]at j;refine d _ ⟨by omega,by omega,?_⟩ (by omega);have k:(((i+1:Nat):Int)).toNat=i+1:=by simp
    grind[bR,ae]
  have:i=a.length:=by omega
  subst this
  grind[cB,iN]
def bl7{a6:List ef}{al:List dk}{fs:List Int}{l:List l9}(ha:al.length<=1000)(hl:l.length<=1000)(hp:∀f∈l,f.2.2.2.2.length<=1000)(id g:Int)(m:List (Int×Bool)):∃v:Bool,D4 ((a6,al,fs,l),id,g,m)=U v/\True:=by
 unfold D4;refine oa (λy:Int=>0<=y/\y<=(l.length:Int)) (λy=>((l.length:Int)-y).toNat) _ ?_ ⟨by simp,by simp⟩ (by grind);rintro rec i ⟨h1,h2⟩ r;obtain⟨i,rfl⟩:∃s:Nat,i=s:=⟨i.toNat,by omega⟩;by_cases a7:i<l.length
 .have t:=hp l[i] (au a7)
  have next:=r ((i+1:Nat):Int) ⟨by omega,by omega⟩ (by omega)
  simp only[lJ a7,mJ,ae a7,cr,dn,AP,BO _ _ (show l[i].2.2.2.2.length<2^62 by omega),lG a7 (by omega:l.length<2^62)];cases IT (l[i].1=id)with
  |true=>exact next
  |false=>
   cases IT (ow l[i].2.1=3)with
   |false=>exact next
   |true=>
    cases IT (g∈l[i].2.2.2.2)with
    |false=>exact next
    |true=>
     simp only[ax,ct];refine oa (λy:Int=>0<=y/\y<=(l.length:Int)) (λy=>((l.length:Int)-y).toNat) _ ?_ ⟨by simp,by simp⟩ (by grind);rintro o j ⟨g1,g2⟩ d;obtain⟨j,rfl⟩:∃u:Nat,j=u:=⟨j.toNat,by omega⟩;by_cases hj:j<l.length
     .have w:=hp l[j] (au hj)
      have c:=d ((j+1:Nat):Int) ⟨by omega,by omega⟩ (by omega);obtain⟨v,hv,_⟩:=bq6 t w;simp only[lJ hj,mJ,ae hj,cr,dn,hv,BO _ _ (show l[j].2.2.2.2.length<2^62 by omega),lG hj (by omega:l.length<2^62)];cases IT (l[j].1=id)with
      |true=>exact c
      |false=>
       cases IT (ow l[j].2.1=3)with
       |false=>exact c
       |true=>
        cases IT ((0:Int)<(v.length:Int))with
        |true=>exact c
        |false=>
         simp only[ax,ct];refine oa (λy:Int=>0<=y/\y<=(al.length:Int)) (λy=>((al.length:Int)-y).toNat) _ ?_ ⟨by simp,by simp⟩ (by grind);rintro p q ⟨f1,f2⟩ e;obtain⟨q,rfl⟩:∃x:Nat,q=x:=⟨q.toNat,by omega⟩;by_cases h:q<al.length
         .have k:=e ((q+1:Nat):Int) ⟨by omega,by omega⟩ (by omega)
          have n:∃b:Bool,mH (ff (λ(a b:Int)=>IT (a=b)) al[q].1 m) (U IS)=U b:=by
           cases ff (λ(a b:Int)=>IT (a=b)) al[q].1 m with
           |none=>exact⟨IS,rfl⟩
           |some b=>exact⟨b,rfl⟩
          obtain⟨b,z⟩:=n;simp only[lJ h,mJ,ae h,cr,dn,z,lG h (by omega:al.length<2^62)]
          grind
         grind
     grind
 have:i=l.length:=by omega
 subst this
 grind
end Dp
namespace Dp
def Nx{α:Type}(a:α)(z:Option α):mH (U a) z=U a:=rfl
def Dy(a6:List ef)(al:List dk)(fs:List Int)(p:Int)(r:t'):Prop:=eS a6 al fs/\(ns al fs.length IN (nw a6 al) [] []).2=IN/\r∈Gl a6 al fs/\r.1=p
def ba6(a6:List ef)(al:List dk)(fs:List Int):∃R e,yx (a6,al,fs)=U (R,e)/\R.length<=1000000/\∀r∈R,Dy a6 al fs r.1 r:=by
 by_cases hp:so a6 al fs=0
 .have h:=B'.1 hp
  cases hf:(ns al fs.length IN (nw a6 al) [] []).2 with
  |true=>refine⟨_,_,aZ0 h hf,?_,λr d=>⟨h,hf,d,rfl⟩⟩;unfold Gl;rw[(q4 (G5 _)).length_eq,Xg h hf];exact h.Eg.2
  |false=>obtain⟨c,hlen⟩:=h.Eg;have b:=h.Hk (l:=nw a6 al) hlen (λa ha=>by obtain⟨h1,h2,f⟩:=c.all a ha;exact⟨h1,h2,by omega⟩) c.ne;have hdiv:wo ((a6,al,fs),eS.lT a6 al,j9 a6 al)=U (nw a6 al):=h.Hf h.xH;refine⟨[],12,?_,by simp,by simp⟩;unfold yx;simp only[h.Gy,cr,lV,ax,ct,h.IJ,hdiv,b,hf,aW,dn]
 refine⟨[],so a6 al fs,?_,by simp,by simp⟩
 grind[yx,so,Rg,cr,aW]
def ZI(a6:List ef)(al:List dk)(fs:List Int):∃m,Aa (a6,al,fs)=U m/\∀p r,ff fx p m=U r->Dy a6 al fs p r:=by
 obtain⟨R,e,b,hl,a⟩:=ba6 a6 al fs;unfold Aa;simp only[b,cr];refine oa (λy:Int×List (Int×t')=>0<=y.1/\y.1<=(R.length:Int)/\∀p r,ff fx p y.2=U r->Dy a6 al fs p r) (λy=>((R.length:Int)-y.1).toNat) _ ?_ ⟨by simp,by simp,λp r h=>by cases h⟩ (by grind);rintro rec ⟨i,m⟩ ⟨h1,h2,c⟩ d;simp only at h1 h2 c;obtain⟨i,rfl⟩:∃f:Nat,i=f:=⟨i.toNat,by omega⟩;by_cases a7:i<R.length
 .simp only[lJ a7,mJ,ae a7,cr,dn,lG a7 (by omega:R.length<2^62)]
  refine d _ ⟨by simp only;omega,by simp only;omega,λp r g=>?_⟩ (by simp only;omega)
  grind[ff,k7,sL,au]
 have:i=R.length:=by omega
 subst this
 grind
structure PV(a6:List ef)(al:List dk)(fs:List Int)(l:List l9)(f:l9)(p:Int)(r:t'):Prop where
 alone:r.2.2.2=[]
 bi1:(l.filter (ql 3 p)).map (·.1)=[f.1]
 EH:∀d∈r.2.1,∃n,xy ((a6,al,fs),d)=U n/\oP al n=2/\l.filter (ql 1 n)=[]/\l.filter (ql 2 (lN d))=[]
def xk(a6:List ef)(al:List dk)(fs:List Int)(l:List l9)(f:l9)(p g:Int):Prop:=ow f.2.1=3/\f.2.2.2.2=[p]/\∃r,Dy a6 al fs p r/\r.2.1≠[]/\r.2.2.1=[]/\(∀d∈r.2.1,l5 al (-d)=g)/\(∀d∈r.2.1,-d∉r.2.1)/\PV a6 al fs l f p r
def br4{a6:List ef}{al:List dk}{fs:List Int}(h:eS a6 al fs){d:Int}(b:qY d):∃v,xy ((a6,al,fs),d)=U v:=by
 unfold xy;simp only[h.GW b,cr];generalize(if d=0 then(((0,0,0,[],0,0):dk),IS)else match qC al (lN d)with|some a=>(a,IN)|none=>((0,0,0,[],0,0),IS))=q;cases q.2 with
 |false=>exact⟨_,rfl⟩
 |true=>cases IT (0<d)<;>exact⟨_,rfl⟩
section
variable {a6:List ef} {al:List dk} {fs:List Int} {l:List l9} (ha:al.length<=1000) (hl:l.length<=1000) (hp:∀f∈l,f.2.2.2.2.length<=1000)
include ha hl hp
theorem as6{m:List (Int×t')}(hm:∀p r,ff fx p m=U r->Dy a6 al fs p r)(f:l9):∃v:Int×Bool,z8 ((a6,al,fs,l),m,f)=U v/\(v.2=IN->∃p,xk a6 al fs l f p v.1):=by
 have no:∀g:Int,∃v:Int×Bool,U (g,IS)=U v/\(v.2=IN->∃p,xk a6 al fs l f p v.1):=λg=>⟨(g,IS),rfl,λh=>by cases h⟩;unfold z8;simp only[AP,cr];cases hs:IT (ow f.2.1=3)with
 |false=>exact no 0
 |true=>
  rw[gb]at hs;cases N:IT ((f.2.2.2.2.length:Int)=1)with
  |false=>exact no 0
  |true=>
   rw[gb]at N;obtain⟨p,x⟩:∃p,f.2.2.2.2=[p]:=List.length_eq_one_iff.1 (by omega);have s:nth f.2.2.2.2 0=U p:=by rw[x];rfl
   simp only[ax,ct,s,cr];cases O:ff (λ(a b:Int)=>IT (a=b)) p m with
   |none=>exact no 0
   |some r=>
    obtain⟨h,hf,hr,z⟩:=hm p r O;simp only[Option.isSome_some,dn,Nx,cr];cases ho:IT ((r.2.1.length:Int)=0)with
    |true=>exact no 0
    |false=>
     rw[nu]at ho;have B:r.2.1≠[]:=λe=>ho (by rw[e];rfl);cases a7:IT ((0:Int)<(r.2.2.1.length:Int))with
     |true=>exact no 0
     |false=>
      rw[nu]at a7;have C:r.2.2.1=[]:=bu (by omega);cases P:IT ((0:Int)<(r.2.2.2.length:Int))with
      |true=>exact no 0
      |false=>
       simp only[ct];rw[nu]at P;have D:r.2.2.2=[]:=bu (by omega);have t:=λ{k:Int} (hk:1<=k/\k<=3) (id:Int)=>bl3 (l:=l) (by omega) (λf hf=>by have:=hp f hf;omega) a6 al fs hk id;obtain⟨q,hq,c⟩:=bp9 ((l.filter (ql 3 r.1)).map (·.1)) [f.1] (by grind[aF,cV,ql]);simp only[t (show(1:Int)<=3/\(3:Int)<=3 by omega),hq,cr];cases q with
       |false=>exact no 0
       |true=>
        replace c:=c rfl;rw[z]at c;obtain⟨_,hc,_,_,_⟩:=Xl h hf hr B C;have E:=h.xH.nc _ hc;have hD:∀d∈r.2.1,qY d/\qY (-d)/\d≠0/\aa.wrap (0-d)=-d/\bh py d [-d]=lN d:=λd u=>by obtain⟨lL,fa,a,qa,j7⟩:=E.2.2 d u;have K:=h.num qa;have hab:lN d=max d (-d):=rfl;refine⟨lL,⟨by omega,by omega⟩,fa,by grind[lR],?_⟩;rw[vJ];rfl
        have w:0<r.2.1.length:=by omega
        have h0:=hD _ (au w);have s:nth r.2.1 0=U r.2.1[0]:=by grind[nth,mJ,ae]
        simp only[ax,ct,s,cr,h0.2.2.2.1,h.GH h0.2.1];generalize hg:l5 al (-r.2.1[0])=g;have hlen:r.2.1.length<=512:=E.2.1;refine oa (λy:Int×List (Int×Bool)=>0<=y.1/\y.1<=(r.2.1.length:Int)/\(∀d∈r.2.1.take y.1.toNat,l5 al (-d)=g/\ff fx (lN d) y.2=U IN/\∃n,xy ((a6,al,fs),d)=U n/\oP al n=2/\l.filter (ql 1 n)=[]/\l.filter (ql 2 (lN d))=[])/\(r.2.1.take y.1.toNat).Pairwise (λa b=>lN a≠lN b)) (λy=>((r.2.1.length:Int)-y.1).toNat) _ ?_ ⟨by simp,by simp,by simp,by simp⟩ (by grind);rintro rec ⟨i,S⟩ ⟨g1,g2,g3,g4⟩ G;simp only at g1 g2 g3 g4;obtain⟨i,rfl⟩:∃i':Nat,i=i':=⟨i.toNat,by omega⟩;have ei:((i:Nat):Int).toNat=i:=by simp
        rw[ei]at g3 g4;by_cases o:i<r.2.1.length
        .have Q:=ae o
         have H:=au o;generalize r.2.1[i]=d at Q H;obtain⟨lL,fa,j7,lP,nA⟩:=hD d H;obtain⟨n,hn⟩:=br4 h lL;simp only[lJ o,mJ,Q,cr,dn,lP,nA,hn,h.GH fa];obtain⟨M,I,R⟩:∃M:Bool,mH (ff (λ(a b:Int)=>IT (a=b)) (lN d) S) (U IS)=U M/\(M=IS->ff fx (lN d) S≠U IN):=by
          cases J:ff (λ(a b:Int)=>IT (a=b)) (lN d) S with
          |none=>exact⟨IS,rfl,λ_ e=>by cases e⟩
          |some b=>exact⟨b,rfl,λK e=>by rw[K]at e;cases e⟩
         cases M with
         |true=>simp only[I,cr,dn];exact no 0
         |false=>
          have J:=R rfl;simp only[I,cr,ct];cases V:IT (l5 al (-d)=g)with
          |false=>exact no 0
          |true=>
           rw[gb]at V;simp only[ax,ct,Ry a6 al fs n (show al.length<=1000000 by omega),cr];cases hdg:IT (((oP al n:Nat):Int)=2)with
           |false=>exact no 0
           |true=>
            rw[gb]at hdg;simp only[ax,ct,t (show(1:Int)<=1/\(1:Int)<=3 by omega),t (show(1:Int)<=2/\(2:Int)<=3 by omega),cr,aF];cases hu1:IT ((0:Int)<((l.filter (ql 1 n)).length:Int))with
            |true=>exact no 0
            |false=>
             cases hu2:IT ((0:Int)<((l.filter (ql 2 (lN d))).length:Int))with
             |true=>exact no 0
             |false=>
              rw[nu]at hu1 hu2;have ni:l.filter (ql 1 n)=[]:=bu (by omega);have z2:l.filter (ql 2 (lN d))=[]:=bu (by omega);simp only[ct,lG o (by omega:r.2.1.length<2^62)];refine G _ ⟨by simp only;omega,by simp only;omega,?_,?_⟩ (by simp only;omega)
              .have e1:(((i+1:Nat):Int)).toNat=i+1:=by simp
               simp only[e1];intro d2 Dk;rw[bR,Q]at Dk;show _/\ff fx (lN d2) (k7 fx (lN d) IN S)=U IN/\_
               grind[sL]
              have e1:(((i+1:Nat):Int)).toNat=i+1:=by simp
              grind[bR]
        have:i=r.2.1.length:=by omega
        subst this;obtain⟨b,K,_⟩:=bl7 (a6:=a6) (fs:=fs) ha hl hp f.1 g S;simp only[mG,ct,K,cr];cases b with
        |true=>exact no 0
        |false=>
         rw[cB]at g3 g4;refine⟨(g,IN),rfl,λ_=>⟨p,hs,x,r,⟨h,hf,hr,z⟩,B,C,λd u=>(g3 d u).1,λd u hnd=>?_,D,c,λd u=>(g3 d u).2.2⟩⟩;obtain⟨i,hi1,e1⟩:=aH u;obtain⟨j,hj1,e2⟩:=aH hnd
         grind[lN,bE,jL]
end
end Dp
open Go.Pg
namespace Dp
theorem JZ:ow 8=1:=by unfold ow qM;simp
def MO:∀ {l pre:List ef} {c:Int},((pre++l).map (·.1)).Pairwise (·<·)->c∉pre.map (·.1)->nj l c∉(pre++l).map (·.1)
 | [],pre,c,_,hc=>by simpa[nj]using hc
 |n::l,pre,c,hp,hc=>by
  have e:pre++n::l=(pre++[n])++l:=by simp
  rw[e]at hp⊢;unfold nj;refine MO (pre:=pre++[n]) hp ?_;rw[cL,cL,dT]at hp;have a:=(dT.1 hp.1).2.2;rw[cL];intro hm;rcases aO.1 hm with hm|hm
  .by_cases h:n.1=c
   .simp only[h,lV,dn]at hm
    have:=a _ hm n.1 (by simp);omega
   simp only[h,mD,ct]at hm;exact hc hm
  by_cases h:n.1=c
  .simp only[h,lV,dn,ay,bO,aG]at hm
   omega
  simp only[h,mD,ct,ay,bO,aG]at hm;exact h hm.symm
def RU{l:List Int}{p:Int}(b:l.Nodup)(hp:p∈l):(l.filter (λf=>!decide (f=p))).length+1=l.length:=by
 induction l with
 |nil=>simp at hp
 |cons a l c=>
  rw[cF]at b;by_cases h:a=p
  .subst h
   have:l.filter (λf=>!decide (f=a))=l:=di.2 λx d=>by have:x≠a:=λe=>b.1 (e▸d);simp[this]
   simp[this]
  rcases aI.1 hp with e|hp
  .exact(h e.symm).elim
  have:=c b.2 hp;simp only[bw,h,mD,aW,jj,aA];omega
section
variable {ns0:List ef} {ars0:List dk} {fs0:List Int} {l0:List l9} {least:Int} (hid:(l0.map (·.1)).Nodup)
include hid
end
end Dp
def Ol:∀ {l:List l9} {o:Option Int},wg o l=IS->(∀p,o=U p->∀f∈l,p<f.1)/\l.Pairwise (λf g=>f.1<g.1)
 | [],_,_=>⟨λ_ _ f hf=>by simp at hf,gJ⟩
 |f::r,o,h=>by
  unfold wg at h;have h2:wg (U f.1) r=IS:=by grind[wa]
  have h1:∀p,o=U p->p<f.1:=by grind
  obtain⟨a,b⟩:=Ol h2
  grind[ba]
structure ZO(a6:List ef)(al:List dk)(fs:List Int)(l:List l9):Prop where
 pl:eS a6 al fs
 len:l.length<=128
 parts:∀f∈l,f.2.2.2.2.length<=64
 Ei:l.Pairwise (λf g=>f.1<g.1)
 num:∀f∈l,1<=f.1/\f.1<=1073741824
 U:∀f∈l,f.2.2.2.2≠[]
def sy{c:Bool}{a b:Int}(ha:a≠0)(h:(bif c then a else b)=0):c=IS/\b=0:=by grind[absurd]
def Of{a6:List ef}{al:List dk}{fs:List Int}{l:List l9}(a:sN a6 al fs l=0):ZO a6 al fs l:=by
 unfold sN at a;have b:t_ a6 al fs=0:=by grind[t_]
 rw[b]at a;simp only[lV,ax,ct]at a;have hp:eS a6 al fs:=by grind[B',t_,so]
 obtain⟨h1,a⟩:=sy (by decide) a;obtain⟨h2,a⟩:=sy (by decide) a;obtain⟨c,a⟩:=sy (by decide) a;obtain⟨d,a⟩:=sy (by decide) a;obtain⟨g,a⟩:=sy (by decide) a;obtain⟨h,a⟩:=sy (by decide) a;obtain⟨e,a⟩:=sy (by decide) a;refine⟨hp,by grind[of_decide_eq_false],λf hf=>?_,(Ol c).2,λf hf=>?_,λf hf=>?_⟩
 .have:=bC.1 h2 f hf
  simp[mb]at this;omega
 .have:=bC.1 d f hf
  simp[mn]at this;omega
 have:=bC.1 e f hf;intro he;rw[xd,he]at this;simp at this
def Kf{α:Type}{xs:List α}{i:Int}(b:0<=i)(h1:i<(xs.length:Int)):∃v,nth xs i=U v/\v∈xs:=by
 have a:i.toNat<xs.length:=by omega
 refine⟨xs[i.toNat],?_,au a⟩;rw[N' b]
 grind
def MK(l:List b6)(hl:l.length<=1000000):∃v,DL l=U v/\True:=by
 unfold DL;cases l with
 |nil=>exact⟨_,rfl,trivial⟩
 |cons p l=>
  have a:IT ((((p::l).length:Nat):Int)=0)=IS:=mN (by simp;omega);have n0:nth (p::l) (0:Int)=U p:=rfl;simp only[a,ct,n0,cr];refine oa (λy:Int×Int×Int×Int×Int=>0<=y.1) (λy=>((((p::l).length:Nat):Int)-y.1).toNat) _ ?_ (by simp) (by grind);intro rec x b d;by_cases c:x.1<(((p::l).length:Nat):Int)
  .obtain⟨q,f,_⟩:=Kf (xs:=p::l) b c
   have e:aa.wrap (x.1+1)=x.1+1:=lR (by omega) (by omega);simp only[c,lV,dn,f,cr,e];exact d _ (by simp only;omega) (by simp only;omega)
  simp only[c,mD,ct];exact⟨_,rfl,trivial⟩
def bf0(a6:List ef)(al:List dk)(fs:List Int)(hv:∀a∈al,a.2.2.2.1.length<=4611686018427387904):∃v,DP (a6,al,fs)=U v/\True:=by
 unfold DP;simp only[cr];by_cases h1:(30:Int)<(a6.length:Int)
 .simp only[h1,lV,dn];exact⟨_,rfl,trivial⟩
 by_cases h2:(30:Int)<(al.length:Int)
 .simp only[h1,h2,lV,mD,dn,ct];exact⟨_,rfl,trivial⟩
 by_cases g:(30:Int)<(fs.length:Int)
 .simp only[h1,h2,g,lV,mD,dn,ct];exact⟨_,rfl,trivial⟩
 simp only[h1,h2,g,mD,ct];refine oa (λy:List b6×Int=>0<=y.2/\y.2<=(a6.length:Int)/\(y.1.length:Int)<=y.2) (λy=>((a6.length:Int)-y.2).toNat) _ ?_ ⟨by decide,by simp only;omega,by simp⟩ (by simp only;omega);intro rec x j k;obtain⟨l,s,t⟩:=j;by_cases c:x.2<(a6.length:Int)
 .obtain⟨q,b,_⟩:=Kf (xs:=a6) l c
  have e:aa.wrap (x.2+1)=x.2+1:=lR (by omega) (by omega);simp only[c,lV,dn,b,cr,e];rw[nE (by omega) (by simp;omega),cr];exact k _ ⟨by simp only;omega,by simp only;omega,by simp;omega⟩ (by simp only;omega)
 simp only[c,mD,ct];refine oa (λy:List b6×Int=>0<=y.2/\y.1.length<=180) (λy=>((al.length:Int)-y.2).toNat) _ ?_ ⟨by simp,by simp only;omega⟩ (by simp only;omega);intro h y m d;obtain⟨n,u⟩:=m;by_cases c2:y.2<(al.length:Int)
 .obtain⟨q,b,f⟩:=Kf (xs:=al) n c2
  have o:=hv q f;have e:aa.wrap (y.2+1)=y.2+1:=lR (by omega) (by omega);have p:aa.wrap ((y.1.length:Int)+(q.2.2.2.1.length:Int))=(y.1.length:Int)+(q.2.2.2.1.length:Int):=lR (by omega) (by omega);simp only[c2,lV,dn,b,cr,e,p];by_cases i:(180:Int)<(y.1.length:Int)+(q.2.2.2.1.length:Int)
  .simp only[i,lV,dn];exact⟨_,rfl,trivial⟩
  simp only[i,mD,ct];rw[nE (by omega) (by omega),cr];exact d _ ⟨by simp only;omega,by simp;omega⟩ (by simp only;omega)
 obtain⟨v,r,_⟩:=MK y.1 (by omega);simp only[c2,mD,ct,r,cr];cases IT ((-1073741824:Int)<=v.1)<;>cases IT ((-1073741824:Int)<=v.2.1)<;>cases IT (v.2.2.1<=(1073741824:Int))<;>cases IT (v.2.2.2<=(1073741824:Int))<;>cases IT (aa.wrap (v.2.2.1-v.1)<=(3000:Int))<;>exact⟨_,rfl,trivial⟩
def bb0(a6:List ef)(al:List dk)(fs:List Int)(l:List l9)(hv:∀a∈al,a.2.2.2.1.length<=4611686018427387904):∃v,DQ (a6,al,fs,l)=U v/\True:=by
 obtain⟨b,d,_⟩:=bf0 a6 al fs hv;unfold DQ;simp only[d,cr];cases b with
 |false=>exact⟨_,rfl,trivial⟩
 |true=>
  simp only[ax,ct];by_cases h1:(20:Int)<(l.length:Int)
  .grind[decide_true]
  simp only[h1,mD,ct];refine oa (λy:Int=>0<=y) (λy=>((l.length:Int)-y).toNat) _ ?_ (by simp) (by grind);intro rec x f g;by_cases c:x<(l.length:Int)
  .obtain⟨q,h,_⟩:=Kf (xs:=l) f c
   have e:aa.wrap (x+1)=x+1:=lR (by omega) (by omega);simp only[c,lV,dn,h,cr,e];cases IT ((40:Int)<(q.2.2.2.2.length:Int))with
   |true=>exact⟨_,rfl,trivial⟩
   |false=>
    cases IT ((100:Int)<(q.2.2.2.1.size:Int))with
    |true=>exact⟨_,rfl,trivial⟩
    |false=>exact g _ (by omega) (by omega)
  grind[decide_false]
open Go
set_option maxRecDepth 100000
@[instance_reducible] def Mb (m:Nat):Fuel:=⟨m+1000⟩
def aW0(m:Nat):@z1 (Mb m) ()=U IN:=by kernel_rfl
def YI:∃m,RE=Mb m:=by obtain⟨m,hm⟩:∃m,many=m+1000:=⟨many-1000,by have:=Nq;omega⟩;exact⟨m,by unfold RE Mb;rw[hm]⟩
def Y9:z1 ()=U IN:=by obtain⟨m,hm⟩:=YI;rw[hm];exact aW0 m
open Go.Proofs Go.Shelf Go.Sort
def Uy{a b c d:b6}(e:a≠b)(h1:kj a b c=0)(h2:kj a b d=0):kj c d a=0/\kj c d b=0:=by
 have key:kj a c d=0:=by
  have f:(b.1-a.1)*kj a c d=(c.1-a.1)*kj a b d-(d.1-a.1)*kj a b c:=by unfold kj;grind
  have g:(b.2-a.2)*kj a c d=(c.2-a.2)*kj a b d-(d.2-a.2)*kj a b c:=by unfold kj;grind
  rw[h1,h2,d_,d_,Int.sub_zero]at f g;rcases fJ.1 f with q|q
  .rcases fJ.1 g with fa|fa
   .exact(e (fg (by omega) (by omega))).elim
   exact fa
  exact q
 have h:kj c d a=kj a c d:=by unfold kj;grind
 have i:kj c d b=kj a c d+kj a b c-kj a b d:=by unfold kj;grind
 omega
def H0{a b c:b6}(ha:fc a=IN)(d:fc b=IN)(hc:fc c=IN):lK a b c=0↔kj a b c=0:=by rw[Co];unfold rY;rw[ha,d,hc];simp
def aQ3(a b c d:b6):qx a b c d=qx c d a b:=by
 have f:∀(x y:b6),lo x y=IN->lo y x=IS:=λx y h=>by unfold lo at *;simp only[bD,ab,gb,bU,dv,nu]at *;omega
 have eqs:∀(x y:b6),lo x y=IS->lo y x=IS->x=y:=λx y h h'=>by unfold lo at *;simp only[bU,dv,nu]at *;exact fg (by omega) (by omega)
 have pick:∀(x y:b6),(if lo x y then y else x)=(if lo y x then x else y):=λx y=>by
  cases h1:lo x y with
  |true=>simp[f x y h1]
  |false=>
   cases h2:lo y x with
   |true=>simp
   |false=>simpa using eqs x y h1 h2
 have e:∀(x y:b6),(if lo x y then x else y)=(if lo y x then y else x):=λx y=>by
  cases h1:lo x y with
  |true=>simp[f x y h1]
  |false=>
   cases h2:lo y x with
   |true=>simp
   |false=>simpa using(eqs x y h1 h2).symm
 unfold qx;simp only;rw[pick (if lo b a then b else a) (if lo d c then d else c),e (if lo d c then c else d) (if lo b a then a else b)]
def meet_comm{a b c d:b6}(e:a≠b)(f:c≠d):oZ a b c d=oZ c d a b:=by
 unfold oZ;have k:mz a b=IS:=by rw[<-dS,pR];exact e
 have l:mz c d=IS:=by rw[<-dS,pR];exact f
 have m:(fc c&&fc d&&fc a&&fc b)=(fc a&&fc b&&fc c&&fc d):=by cases fc a<;>cases fc b<;>cases fc c<;>cases fc d<;>rfl
 rw[m];split
 next j=>
  simp only[ab]at j;obtain⟨⟨⟨g,pY⟩,i⟩,CU⟩:=j;simp only[k,l,Bool.false_eq_true,j2];have mb:(lK a b c=0/\lK a b d=0)↔(lK c d a=0/\lK c d b=0):=by rw[H0 g pY i,H0 g pY CU,H0 i CU g,H0 i CU pY];exact⟨λh=>Uy e h.1 h.2,λh=>Uy f h.1 h.2⟩
  have mn:(lK a b c*lK a b d<=0/\lK c d a*lK c d b<=0)↔(lK c d a*lK c d b<=0/\lK a b c*lK a b d<=0):=And.comm;simp only[mb,mn,aQ3 a b c d]
 rfl
def aQ0{s t:fy}(m:List (Int×b6))(hs:hT s≠hF s)(a:hT t≠hF t)(b:s.1.1=t.1.1->s.2≠t.2/\s.1.2.1=t.1.2.1/\s.1.2.2.1=t.1.2.2.1):oH s t m=oH t s m:=by
 unfold oH;simp only[meet_comm a hs];by_cases e:s.1.1=t.1.1
 .obtain⟨h1,h2,c⟩:=b e
  simp only[mw e,mw e.symm,dn];rcases Int.lt_or_gt_of_ne h1 with q|q
  .simp[q,show ¬t.2<s.2 by omega]
  simp[q,show ¬s.2<t.2 by omega]
 have d:¬t.1.1=s.1.1:=λh=>e h.symm;simp only[mN e,mN d,ct];cases IT (oZ (hT s) (hF s) (hT t) (hF t)=1)with
 |false=>rfl
 |true=>
  simp only[dn];have key:∀(x y u v:Int) (p q:Int->Bool),(((IT (x=u)||IT (x=v))&&(p x&&q x))||((IT (y=u)||IT (y=v))&&(p y&&q y)))=(((IT (u=x)||IT (u=y))&&(q u&&p u))||((IT (v=x)||IT (v=y))&&(q v&&p v))):=by
   intro x y u v p q;by_cases h1:x=u<;>by_cases h2:x=v<;>by_cases c:y=u<;>by_cases f:y=v<;>simp_all [Bool.and_comm]
   all_goals first| (cases p u<;>cases q u<;>cases p v<;>cases q v<;>rfl)|grind
  exact key s.1.2.1 s.1.2.2.1 t.1.2.1 t.1.2.2.1 (λi=>l_ (hT s) (hF s) (nI m i)) (λi=>l_ (hT t) (hF t) (nI m i))
def Un{s:fy}{m:List (Int×b6)}:∀ {r:List fy},(∀t∈r,oH s t m=IN\/sk s<oh t)->wU s m r=IN
 | [],_=>rfl
 |t::r,h=>by
  unfold wU;by_cases q:sk s<oh t
  .simp[q]
  simp only[q,mD,ct,ab];exact⟨(h t (by simp)).resolve_right q,Un λu hu=>h u (by simp[hu])⟩
def XX{a6:List ef}{m:List (Int×b6)}:∀ {l:List fy},l.Pairwise (λs t=>oH s t m=IN\/sk s<oh t)->(∀s∈l,∀n∈a6,rp s n=IN)->u3 a6 m l=IN
 | [],_,_=>rfl
 |s::l,h1,h2=>by rw[ba]at h1;unfold u3;rw[Un h1.1,ak.2 (h2 s (by simp)),XX h1.2 λt a=>h2 t (by simp[a])];rfl
structure rF(a6:List ef)(al:List dk)(fs:List Int)(ns':List ef)(ars':List dk)(fs':List Int)(v:ef)(K:dk->Bool):Prop where
 h:eS a6 al fs
 wH:ars'=al.filter K
 nodes:∀n∈ns',n∈a6\/n=v
 Ei:(ns'.map (·.1)).Pairwise (·<·)
 len:ns'.length<=256
 ends:∀a∈ars',∀n∈a6,n.1=a.2.1\/n.1=a.2.2.1->n∈ns'
 fresh:v.1∉a6.map (·.1)
 num:qp v.1=IN
 pos:mQ (v.2.1,v.2.2)=IN
 dup:∀n∈ns',n.1≠v.1->vK v n=IS
 free:∀r,mE a6 al al=U r->∀s∈r,(∃a∈ars',s.1.1=a.1)->l_ (hT s) (hF s) (v.2.1,v.2.2)=IS
 L_:fs'.Sublist fs
 aY3:∀a∈ars',(a.2.2.2.2.1=0\/a.2.2.2.2.1∈fs')/\(a.2.2.2.2.2=0\/a.2.2.2.2.2∈fs')
open Go.Pg
def Ip:∀ {l:List Int},l.Pairwise (·<·)->qc l=IN
 | [],_=>rfl
 | [_],_=>rfl
 |a::b::l,h=>by rw[ba]at h;unfold qc;rw[mw (h.1 b (by simp)),Ip h.2];rfl
def NB:∀(l pre:List ef),uz pre l=IS↔(∀n∈l,∀p∈pre,vK n p=IS)/\l.Pairwise (λa b=>vK b a=IS)
 | [],pre=>by simp[uz]
 |n::l,pre=>by
  unfold uz;rw[bU,NB l (pre++[n]),bC,ba]
  grind[aG]
theorem L7(a b:ef):vK a b=vK b a:=by grind[vK,mz]
namespace eS
variable {a6:List ef} {al:List dk} {fs:List Int} (h:eS a6 al fs)
include h
theorem aB4:uz [] a6=IS:=by
 have:=h.conn
 grind[vt,uz]
theorem aP5{a b:ef}(ha:a∈a6)(e:b∈a6)(c:a.1≠b.1):vK a b=IS:=by have h1:=((NB a6 []).1 h.aB4).2;exact CP (R:=λa b:ef=>a.1≠b.1->vK a b=IS) (λx y f d=>by grind[L7]) (λx d=>(d rfl).elim) (h1.imp λ{a b} h _=>by rw[L7];exact h) ha e c
theorem aO7{r:List fy}(f:mE a6 al al=U r){s t:fy}(hs:s∈r)(m:t∈r)(g:s≠t):oH s t (mkMap a6 [])=IN\/sk s<oh t\/sk t<oh s:=by
 have hp:=h.C2;unfold uQ at hp;rw[f]at hp;simp only at hp;have k:=yE (uJ r);have c:=q4 (uJ r);have d:(nG pv r).Pairwise (λa b=>oh a<=oh b):=k.imp λ{a b} x=>by unfold pv at x;rw[qu]at x;omega
 obtain⟨g1,g2⟩:=ET d hp;have g3:(nG pv r).Pairwise (λs t=>s=t\/(oH s t (mkMap a6 [])=IN\/oH t s (mkMap a6 [])=IN)\/(sk s<oh t\/sk t<oh s)):=g1.imp λ{x y} l=>by grind
 have g4:=CP (R:=λs t=>s=t\/(oH s t (mkMap a6 [])=IN\/oH t s (mkMap a6 [])=IN)\/(sk s<oh t\/sk t<oh s)) (λx y l=>by grind) (λx=>Or.inl rfl) g3 (c.mem_iff.2 hs) (c.mem_iff.2 m);obtain⟨a,p,i,o⟩:=h.sj f hs;obtain⟨b,q,j,o'⟩:=h.sj f m;have n:oH s t (mkMap a6 [])=oH t s (mkMap a6 []):=aQ0 _ (h.vV o) (h.vV o') λe=>by
  obtain⟨rfl,rfl⟩:=h.Ou o o' e;refine⟨λu=>g ?_,by rw[o.eq,o'.eq],by rw[o.eq,o'.eq]⟩;rw[o.eq,o'.eq]at u⊢
  grind[Int.natCast_inj]
 grind
end eS
section
variable {a6 ns':List ef} {al ars':List dk} {fs fs':List Int} {v:ef} {K:dk->Bool} (L:rF a6 al fs ns' ars' fs' v K)
include L
theorem rF.nb{a:dk}(ha:a∈ars'):a∈al:=by have:=L.wH▸ha;exact(aD.1 this).1
theorem rF.QQ{a:dk}(ha:a∈ars'):qC ars' a.1=U a:=by
 refine Eb (f:=λa:dk=>a.1) ?_ a ha;have:=pA L.h.tz;rw[L.wH]
 grind
theorem rF.It{n:ef}(a:n∈ns'):pq ns' n.1=U n:=Eb (f:=λn:ef=>n.1) L.Ei n a
theorem rF.Ty{a:dk}(ha:a∈ars'):pq ns' a.2.1=pq a6 a.2.1/\pq ns' a.2.2.1=pq a6 a.2.2.1:=by obtain⟨⟨b,m1,lL⟩,c,m2,fa⟩:=L.h.xb (L.nb ha);have d:=L.It (L.ends a ha b m1 (.inl lL));have e:=L.It (L.ends a ha c m2 (.inr fa));rw[<-lL,<-fa];exact⟨d.trans (L.h.x3 m1).symm,e.trans (L.h.x3 m2).symm⟩
theorem rF.N0{a:dk}(ha:a∈ars'):pathOf ns' ars' a.1=pathOf a6 al a.1:=by unfold pathOf;rw[L.QQ ha,L.h.vA (L.nb ha)];simp only;rw[(L.Ty ha).1,(L.Ty ha).2]
theorem rF.x_:∀ {l:List dk} {r:List fy},(∀a∈l,a∈al)->mE a6 al l=U r->∃c,mE ns' ars' (l.filter K)=U c/\c.Sublist r/\∀s∈c,∃a∈ars',s.1.1=a.1/\s.1.2.1=a.2.1/\s.1.2.2.1=a.2.2.1
 | [],r,_,h=>by grind[mE,ai]
 |a::l,r,hl,h=>by
  simp only[mE]at h;cases hp:pathOf a6 al a.1 with
  |none=>rw[hp]at h;cases h
  |some p=>
   rw[hp]at h;simp only at h;cases hc:(IT (a.2.1=a.2.2.1)&&IT (p.length<4))||!(re p)with
   |true=>rw[hc]at h;cases h
   |false=>
    rw[hc,ct]at h;cases d:mE a6 al l with
    |none=>rw[d]at h;cases h
    |some g=>
     rw[d]at h;simp only[ai]at h;subst h;obtain⟨e,g1,g2,g3⟩:=rF.x_ (λb f=>hl b (by simp[f])) d;cases hk:K a with
     |false=>grind[im]
     |true=>
      have ha:a∈ars':=by rw[L.wH];exact aD.2 ⟨hl a (by simp),hk⟩
      rw[bw,hk,b9 rfl];refine⟨pV a p++e,?_,gU (fX _) g2,λs hs=>?_⟩
      .simp only[mE]
       rw[L.N0 ha,hp];simp only;rw[hc,ct,g1]
      rcases aO.1 hs with q|q
      .obtain⟨i,_,rfl⟩:=aP.1 q
       exact⟨a,ha,rfl,rfl,rfl⟩
      exact g3 s q
theorem rF.ok:eS ns' ars' fs':=by
 have h:=L.h;have d:∀a∈ars',a∈al:=λa ha=>L.nb ha;have C:∀n∈a6,n.1≠v.1:=λn i e=>L.fresh (e▸aC i);refine⟨?_,Ip L.Ei,?_,Ip ((pA h.GX).sublist L.L_),?_,?_,?_,?_,?_,?_,?_⟩
 .have:=h.zB
  unfold vI at this⊢;simp only[ab,gb,ak]at this⊢;refine⟨L.len,?_,bI L.L_.length_le this.2.2.1,λa ha=>this.2.2.2 a (d a ha)⟩;rw[L.wH]
  grind[bI,cV]
 .rw[L.wH]
  exact Ip ((pA h.tz).sublist (cW.map _))
 .rw[dV]
  refine ak.2 λn i=>?_;rcases L.nodes n i with q|rfl
  .exact ak.1 h.TD n.1 (aC q)
  exact L.num
 .rw[dV]
  exact ak.2 λa ha=>ak.1 h.Iv a.1 (aC (d a ha))
 .exact ak.2 λf hf=>ak.1 h.TC f (L.L_.subset hf)
 .refine ak.2 λn i=>?_
  rcases L.nodes n i with q|rfl
  .exact ak.1 h.IK n q
  exact L.pos
 .exact ak.2 λa ha=>ak.1 h.N1 a (d a ha)
 .have M:uz [] ns'=IS:=by
   rw[NB];refine⟨by simp,?_⟩;refine(ch.1 L.Ei).imp_of_mem λ{a b} ha D I=>?_;rcases L.nodes a ha with q|rfl
   .rcases L.nodes b D with fa|rfl
    .exact h.aP5 fa q (by omega)
    exact L.dup a ha (by omega)
   rw[L7];exact L.dup b D (by omega)
  have N:ars'.any (λa=>!(IT (a.2.1∈ns'.map (·.1))&&IT (a.2.2.1∈ns'.map (·.1))))=IS:=by
   refine bC.2 λa ha=>?_;obtain⟨⟨m,m1,lL⟩,o,m2,fa⟩:=h.xb (d a ha);have E:a.2.1∈ns'.map (·.1):=lL▸aC (L.ends a ha m m1 (.inl lL));have G:a.2.2.1∈ns'.map (·.1):=fa▸aC (L.ends a ha o m2 (.inr fa))
   grind[decide_eq_true]
  have O:ars'.any (λa=>!((IT (a.2.2.2.2.1=0)||IT (a.2.2.2.2.1∈fs'))&&(IT (a.2.2.2.2.2=0)||IT (a.2.2.2.2.2∈fs'))))=IS:=by
   refine bC.2 λa ha=>?_;obtain⟨E,G⟩:=L.aY3 a ha
   grind[gv]
  grind[vt]
 obtain⟨r,k⟩:=h.x_;obtain⟨j,g1,g2,g3⟩:=L.x_ (λ_ h=>h) k;unfold uQ;have p:mE ns' ars' ars'=U j:=by rw[<-g1,L.wH]
 rw[p];simp only;have c:(nG pv j).Perm j:=q4 (uJ j);have u:(nG pv j).Pairwise (λa b=>oh a<=oh b):=(yE (uJ j)).imp λ{a b} x=>by unfold pv at x;rw[qu]at x;omega
 have w:(nG pv j).Nodup:=c.nodup_iff.2 ((LN (pA h.tz) k).sublist g2);have l:∀n∈ns',n∈a6->nI (mkMap ns' []) n.1=nI (mkMap a6 []) n.1:=λn i z=>by unfold nI;rw[E2 [] L.Ei i,E2 [] (pA h.wK) z]
 refine XX ((u.and w).imp_of_mem λ{s t} hs J l4=>?_) λs hs n i=>?_
 .have g:=c.mem_iff.1 hs
  have B:=c.mem_iff.1 J;obtain⟨a,ha,H,a2,a3⟩:=g3 s g;have hc:oH s t (mkMap ns' [])=oH s t (mkMap a6 []):=by
   obtain⟨⟨m,m1,lL⟩,o,m2,fa⟩:=h.xb (d a ha);have E:=l m (L.ends a ha m m1 (.inl lL)) m1;have G:=l o (L.ends a ha o m2 (.inr fa)) m2
   grind[oH]
  rw[hc];rcases h.aO7 k (g2.subset g) (g2.subset B) l4.2 with q|q|q<;>grind[sk,oh]
 have g:=c.mem_iff.1 hs;rcases L.nodes n i with q|rfl
 .exact h.free k (g2.subset g) n q
 obtain⟨a,ha,H,_⟩:=g3 s g;unfold rp;rw[L.free r k s (g2.subset g) ⟨a,ha,H⟩];rfl
end
def Ik(lC:Int->Int)(d:Int)(i:Nat):∀j,mX lC d (i+j)=mX lC (mX lC d i) j
 | 0=>rfl
 |j+1=>by show lC (mX lC d (i+j))=lC (mX lC (mX lC d i) j);rw[Ik lC d i j]
def Hq{α:Type}(p:List α->Bool):∀acc:List (List α),(acc.filter p).flatten.Sublist acc.flatten
 | []=>fX _
 |c::acc=>by
  rw[bw];cases p c with
  |true=>exact gU (fX _) (Hq p acc)
  |false=>exact(Hq p acc).trans (im _ _)
theorem aL5{lC:Int->Int}{d:Int}{m a:Nat}(h1:0<m)(h2:0<a)(c:mX lC d m=d)(f:mX lC d a=d)(g:(mT lC d m).Nodup)(e:(mT lC d a).Nodup):m=a:=by
 have key:∀ {m a:Nat},0<m->mX lC d m=d->(mT lC d a).Nodup->¬m<a:=λ{m a} h1 c e b=>by have:=VK e b (by omega:0<a) c;omega
 grind
section
variable {lC nx':Int->Int} {D D':List Int} (hD:∀d∈D,lC d∈D) (inj:∀d∈D,∀e∈D,lC d=lC e->d=e) (hD':∀d∈D',nx' d∈D') (inj':∀d∈D',∀e∈D',nx' d=nx' e->d=e) (sub:∀d∈D',d∈D) (agree:∀d∈D',nx' d=lC d)
include hD' agree
theorem E5{d:Int}(a:d∈D'):∀n,mX nx' d n=mX lC d n/\mX lC d n∈D'
 | 0=>⟨rfl,a⟩
 |n+1=>by
  obtain⟨h1,h2⟩:=E5 a n
  grind[mX]
theorem MG{d:Int}(a:d∈D')(m:Nat):mT nx' d m=mT lC d m:=by unfold mT;exact bp λi _=>(E5 hD' agree a i).1
omit hD' agree in
def ot(D':List Int)(c:List Int):Bool:=IT (c.headD 0∈D')
omit hD' agree in
theorem HW{d:Int}{m:Nat}(hm:0<m):(mT lC d m).headD 0=d:=by obtain⟨m,rfl⟩:∃k,m=k+1:=⟨m-1,by omega⟩;unfold mT;rw[List.range_succ_eq_map];rfl
theorem bm9{acc:List (List Int)}(hc:wk lC D acc){d:Int}(b:d∈D')(a:d∈acc.flatten):d∈(acc.filter (ot D')).flatten:=by obtain⟨c,h1,h2⟩:=br.1 a;refine br.2 ⟨c,aD.2 ⟨h1,?_⟩,h2⟩;obtain⟨e,m,he,hm,hit,rfl⟩:=hc.u9 c h1;obtain⟨i,a7,rfl⟩:=qP.1 h2;unfold ot;rw[HW hm];have:=(E5 hD' agree b (m-i)).2;rw[<-Ik,show i+(m-i)=m by omega,hit]at this;exact mw this
include hD inj inj' sub
theorem Ls:∀(b:List Int) (acc:List (List Int)),(∀d∈b,d∈D)->wk lC D acc ->
  qg nx' D' (b.filter λd=>IT (d∈D')) (acc.filter (ot D')).flatten (acc.filter (ot D'))=(qg lC D b acc.flatten acc).filter (ot D')
 | [],acc,_,_=>rfl
 |d::b,acc,k,hc=>by
  have t:=k d (by simp);have a:∀e∈b,e∈D:=λe he=>k e (by simp[he]);have f:wk nx' D' (acc.filter (ot D')):=by refine⟨λc h=>?_,hc.nodup.sublist (Hq _ _)⟩;obtain⟨h1,h2⟩:=aD.1 h;obtain⟨e,m,he,hm,hit,rfl⟩:=hc.u9 c h1;unfold ot at h2;rw[HW hm,gb]at h2;exact⟨e,m,h2,hm,by rw[(E5 hD' agree h2 m).1];exact hit,(MG hD' agree h2 m).symm⟩
  by_cases hs:d∈acc.flatten
  .conv=>rhs;unfold qg
   rw[b9 hs,<-Ls b acc a hc];by_cases hk:d∈D'
   .have g:=bm9 hD' agree hc hk hs
    grind[decide_eq_true,qg]
   grind
  have hz:acc.flatten++mT lC d 0=acc.flatten:=by simp[mT]
  obtain⟨m,hm,he,hf,u⟩:=Hc hD inj t (Oj hD inj hc) (Ob hD inj hc) hs (pe D acc.flatten+1) 0 (by rw[hz];exact hc.nodup) (by rw[hz];omega);rw[hz]at hf;have o:qw lC (pe D acc.flatten+1) acc.flatten d []=(mT lC d m,acc.flatten++mT lC d m):=hf;have e:acc.flatten++mT lC d m=(acc++[mT lC d m]).flatten:=by simp
  have p:wk lC D (acc++[mT lC d m]):=by
   refine⟨λc h=>?_,by rw[<-e];exact u⟩;rcases aO.1 h with h|h
   .exact hc.u9 c h
   grind
  have v:=Ls b _ a p
  conv=>rhs;unfold qg
  rw[b8 hs];simp only[o];rw[e,<-v];by_cases hk:d∈D'
  .have g:d∉(acc.filter (ot D')).flatten:=λh=>hs ((Hq _ _).subset h)
   have i:(acc.filter (ot D')).flatten++mT nx' d 0=(acc.filter (ot D')).flatten:=by simp[mT]
   obtain⟨j,w,q,l,r⟩:=Hc hD' inj' hk (Oj hD' inj' f) (Ob hD' inj' f) g (pe D' (acc.filter (ot D')).flatten+1) 0 (by rw[i];exact f.nodup) (by rw[i];omega);rw[i]at l;have n:qw nx' (pe D' (acc.filter (ot D')).flatten+1) (acc.filter (ot D')).flatten d []=(mT nx' d j,(acc.filter (ot D')).flatten++mT nx' d j):=l;have s:j=m:=by
    rw[(E5 hD' agree hk j).1]at q;rw[MG hD' agree hk]at r
    grind[aL5,bQ]
   subst s;rw[bw,b9 (mw hk)]
   conv=>lhs;unfold qg
   rw[b8 g];simp only[n];have x:(acc++[mT lC d j]).filter (ot D')=acc.filter (ot D')++[mT nx' d j]:=by
    rw[List.filter_append,MG hD' agree hk]
    grind[ot,mT,HW,decide_eq_true]
   rw[x];congr 1;simp
  grind[mT,ot,HW,decide_eq_false]
end
def X9:∀ {l c:List Int},l.Pairwise (·<·)->c.Pairwise (·<·)->(∀x,x∈l↔x∈c)->l=c
 | [],[],_,_,_=>rfl
 | [],b::c,_,_,h=>by have:=(h b).2 (by simp);simp at this
 |a::l,[],_,_,h=>by have:=(h a).1 (by simp);simp at this
 |a::l,b::c,h1,h2,h=>by
  rw[ba]at h1 h2;have d:a=b:=by
   have ha:=(h a).1 (by simp);have e:=(h b).2 (by simp)
   grind
  subst d;rw[X9 h1.2 h2.2 λx=>?_]
  grind
def eS.Rc{a6:List ef}{al:List dk}{fs:List Int}(h:eS a6 al fs):(eS.l3 a6 al).Nodup:=by
 unfold eS.l3 eS.wI;rw[List.nodup_iff_pairwise_ne];refine cQ.2 ⟨λl hl=>?_,ch.2 ?_⟩
 .obtain⟨n,c,rfl⟩:=aP.1 hl
  exact h.Eh c
 refine(ch.1 (pA h.wK)).imp_of_mem λ{a b} ha d f=>λx g y i e=>?_;subst e;have:=h.Cb ha d g i;subst this;omega
def V8{l:List Int}(h:l.Nodup):(l.mergeSort λa b=>IT (a<=b)).Pairwise (·<·):=by have h1:=(cy l (λa b=>IT (a<=b))).nodup_iff.2 h;have h2:=iF (le:=λa b:Int=>IT (a<=b)) (by simp;omega) (by simp;omega) l;exact(h2.and h1).imp λ{a b} h=>by grind
section
variable {a6 ns':List ef} {al ars':List dk} {fs fs':List Int} {v:ef} {K:dk->Bool} (L:rF a6 al fs ns' ars' fs' v K) (cut:∀a∈al,K a=IS->∀n∈ns',n.1≠a.2.1/\n.1≠a.2.2.1)
include L
theorem rF.raw(cut:∀a∈al,K a=IS->∀n∈ns',n.1≠a.2.1/\n.1≠a.2.2.1){n:ef}(g:n∈ns'):rj ns' ars' n.1 ars'=rj a6 al n.1 al:=by
 unfold rj;have key:∀l:List dk,(∀a∈l,a∈al)->(l.filter K).flatMap (nY ns' ars' n.1)=l.flatMap (nY a6 al n.1):=by
  intro l
  induction l with
  |nil=>intro _;rfl
  |cons a l d=>
   intro hl;have ha:=hl a (by simp);rw[bw,dF];cases hk:K a with
   |true=>
    have c:a∈ars':=by rw[L.wH];exact aD.2 ⟨ha,hk⟩
    rw[b9 rfl,dF,d λb e=>hl b (by simp[e])];congr 1;unfold nY;rw[L.N0 c]
   |false=>grind[nY,pathOf]
 conv=>lhs;rw[L.wH]
 exact(show ∀(x:List dk),x=al.filter K->x.flatMap (nY ns' (al.filter K) n.1)=al.flatMap (nY a6 al n.1)from λx f=>by rw[f];have:=key al λ_ h=>h;rw[L.wH]at this;exact this) _ rfl
include cut
theorem rF.wI{n:ef}(b:n∈ns'):eS.l2 ns' ars' n=eS.l2 a6 al n:=by unfold eS.l2;rw[L.raw cut b]
theorem rF.next{d:Int}(j:d∈eS.l3 ns' ars'):eS.mC ns' ars' d=eS.mC a6 al d:=by
 have h:=L.h;have h':=L.ok;obtain⟨l,hl,hm⟩:=br.1 (h'.Fq j);obtain⟨n,b,rfl⟩:=aP.1 hl;have e:=hm;rw[L.wI cut b]at e;have f:n∈a6:=by
  rcases L.nodes n b with q|rfl
  .exact q
  exfalso;obtain⟨a,ha,c⟩:=(h'.su b).1 hm;obtain⟨⟨k,m1,lL⟩,m,m2,fa⟩:=h.xb (L.nb ha);rcases c with⟨c,_⟩|⟨c,_⟩
  .exact L.fresh (by grind[aC])
  exact L.fresh (by grind[aC])
 have g:=h'.xa b hm;have i:=h.xa f e;rw[dM]at g i;rw[g,i,L.wI cut b]
theorem rF.Ra{d:Int}(b:d∈eS.l3 ns' ars'):d∈eS.l3 a6 al:=by obtain⟨a,ha,c⟩:=L.ok.qZ.1 b;exact L.h.qZ.2 ⟨a,L.nb ha,c⟩
theorem rF.Q7:eS.lT ns' ars'=(eS.lT a6 al).filter (ot (eS.l3 ns' ars')):=by
 have h:=L.h;have h':=L.ok;have mb:=cy (eS.l3 a6 al) (λa b=>IT (a<=b));have mn:=cy (eS.l3 ns' ars') (λa b=>IT (a<=b));have:=Ls (lC:=eS.mC a6 al) (nx':=eS.mC ns' ars') (D:=eS.l3 a6 al) (D':=eS.l3 ns' ars') (λd c=>h.qK c) (λd c e he x=>h.CV c he x) (λd c=>h'.qK c) (λd c e he x=>h'.CV c he x) (λd c=>L.Ra cut c) (λd c=>L.next cut c)
  ((eS.l3 a6 al).mergeSort λa b=>IT (a<=b)) [] (λd c=>mb.mem_iff.1 c) ⟨by simp,by simp⟩
 unfold eS.lT;rw[<-show [].filter (ot (eS.l3 ns' ars'))=([]:List (List Int))from rfl,<-show([].filter (ot (eS.l3 ns' ars'))).flatten=([]:List Int)from rfl];refine jX ?_ this;congr 1;refine X9 (V8 h'.Rc) ((V8 h.Rc).sublist cW) λx=>?_;rw[mn.mem_iff,aD,mb.mem_iff,gb];exact⟨λf=>⟨L.Ra cut f,f⟩,λf=>f.2⟩
end
namespace Dp
def nS(a6:List ef)(al:List dk):List (List Int):=(eS.lT a6 al).filter λc=>IT (0<mK a6 al c)
def sW(a6:List ef)(al:List dk):List (List Int):=(eS.lT a6 al).filter λc=>!decide (0<mK a6 al c)
def uZ(a6:List ef)(al:List dk)(p:b6):Nat:=p_ (j9 a6 al) (oR a6 al (eS.lT a6 al)) p
def p2(a6:List ef)(al:List dk)(p:b6):Option (List Int)->Prop
 |none=>∀c∈nS a6 al,pd (j9 a6 al) c p=IS
 |some y=>y∈nS a6 al/\pd (j9 a6 al) y p=IN/\∀x∈nS a6 al,pd (j9 a6 al) x p=IN->mK a6 al y<=mK a6 al x
def tF(al:List dk)(C:List Int):Int:=l5 al (C.headD 0)
structure GJ(a6:List ef)(al:List dk)(fs:List Int):Prop where
 zero:∀c∈sW a6 al,p2 a6 al (oo (j9 a6 al) c) No->∀d∈c,l5 al d=0
 out:∀C∈nS a6 al,tF al C≠0/\∀d∈C,l5 al d=tF al C
 vN:∀c∈sW a6 al,∀C,p2 a6 al (oo (j9 a6 al) c) (U C)->∀d∈c,l5 al d=tF al C
 CU:((nS a6 al).map (tF al)).Nodup
 len:(nS a6 al).length=fs.length
def MY(a6:List ef)(al:List dk)(k:Nat):((nw a6 al)[k]?).map (λx=>(x.1,x.2.1,x.2.2.1))=((oR a6 al (eS.lT a6 al))[k]?).map (λx=>(x.1,x.2.1,x.2.2.1++(sW a6 al).filter (λc=>IT (uZ a6 al (oo (j9 a6 al) c)=k)))):=by unfold nw tv;rw[Nn,H9 _ _ rfl k,dw];rfl
theorem M'(a6:List ef)(al:List dk):(oR a6 al (eS.lT a6 al)).tail=(nS a6 al).map λc=>(mK a6 al c,c,[],[]):=rfl
theorem xR(a6:List ef)(al:List dk)(p:b6):(uZ a6 al p=0/\p2 a6 al p No)\/∃k y,uZ a6 al p=k+1/\(nS a6 al)[k]?=U y/\p2 a6 al p (U y):=by
 have a7:=Td (m:=j9 a6 al) (at':=p) (L:=oR a6 al (eS.lT a6 al)) (oR a6 al (eS.lT a6 al)).tail [] 0 rfl (Or.inl ⟨rfl,by simp⟩);rw[bq,show ug (j9 a6 al) p (oR a6 al (eS.lT a6 al)) (oR a6 al (eS.lT a6 al)).tail (([]:List l6).length+1) 0=uZ a6 al p from rfl,M']at a7;rcases a7 with⟨h1,h2⟩|⟨y,h1,h2,b,d⟩
 .exact .inl ⟨h1,λc hc=>h2 _ (aC hc)⟩
 right;obtain⟨k,hk⟩:∃k,uZ a6 al p=k+1:=⟨uZ a6 al p-1,by omega⟩;rw[hk]at h1;have a:((nS a6 al).map λc=>((mK a6 al c,c,[],[]):l6))[k]?=U y:=by grind[M']
 rw[aX]at a;cases hc:(nS a6 al)[k]? with
 |none=>rw[hc]at a;cases a
 |some c=>rw[hc]at a;simp only[aj,ai]at a;subst a;exact⟨k,c,hk,hc,aJ hc,b,λx e he=>d _ (aC e) he⟩
def pn{a6:List ef}{al:List dk}{c:List Int}:c∈nS a6 al↔c∈eS.lT a6 al/\0<mK a6 al c:=by grind[nS]
theorem vB{a6:List ef}{al:List dk}{c:List Int}:c∈sW a6 al↔c∈eS.lT a6 al/\¬ 0<mK a6 al c:=by grind[sW]
section
variable {a6:List ef} {al:List dk} {fs:List Int} (h:eS a6 al fs)
include h
theorem Ao:∀a∈al,ff fx a.1 (j9 a6 al)=pathOf a6 al a.1:=λ_ ha=>h.FE ha
theorem p2.uniq{p:b6}(b:fc p=IN):∀ {o o':Option (List Int)},p2 a6 al p o->p2 a6 al p o'->o=o'
 |none,No,_,_=>rfl
 |none,U y,h1,h2=>by have:=h1 y h2.1;rw[h2.2.1]at this;cases this
 |some y,No,h1,h2=>by have:=h2 y h1.1;rw[h1.2.1]at this;cases this
 |some y,U z,h1,h2=>by
  by_cases e:y=z
  .rw[e]
  exfalso;have a:=pn.1 h1.1;have a2:=pn.1 h2.1;have:=h.as7 b (Ao h) a.1 a2.1 e a.2 a2.2 h1.2.1 h2.2.1;have:=h1.2.2 z h2.1 h2.2.1;have:=h2.2.2 y h1.1 h1.2.1;omega
theorem EJ{c:List Int}(hc:c∈eS.lT a6 al):fc (oo (j9 a6 al) c)=IN:=by obtain⟨r,a⟩:=h.x_;obtain⟨_,_,n,b,_,_,_,e,_⟩:=h.Rx a (Ao h) hc;exact e
end
def Ex(a6:List ef)(al:List dk):∃a0 l,nw a6 al=a0::l/\a0.2.1=[]/\a0.2.2.1=(sW a6 al).filter (λc=>IT (uZ a6 al (oo (j9 a6 al) c)=0))/\l.map (λx=>x.2.1)=nS a6 al /\
  ∀(k:Nat) (a:l6),l[k]?=U a->(nS a6 al)[k]?=U a.2.1/\a.2.2.1=(sW a6 al).filter (λc=>IT (uZ a6 al (oo (j9 a6 al) c)=k+1)):=by
 cases d:nw a6 al with
 |nil=>have h1:=MY a6 al 0;rw[d]at h1;simp[oR]at h1
 |cons a0 l=>
  have b:=MY a6 al 0;rw[d]at b;simp only[oR,List.getElem?_cons_zero,aj,ai,cq,bq]at b;have hk:∀k,(l[k]?).map (λx=>(x.1,x.2.1,x.2.2.1))=((nS a6 al)[k]?).map (λc=>(mK a6 al c,c,(sW a6 al).filter (λc=>IT (uZ a6 al (oo (j9 a6 al) c)=k+1)))):=λk=>by have h1:=MY a6 al (k+1);rw[d,aM,<-List.getElem?_tail,M',aX,dw]at h1;rw[h1];rfl
  refine⟨a0,l,rfl,b.2.1,b.2.2,?_,λk a ha=>?_⟩
  .refine gZ λk=>?_
   grind[kQ,dw,nS]
  grind[nS,ai,cq]
def Uw{al:List dk}{k:Nat}:∀ {l:List l6} {seen out:List Int},(∀a∈l,rD al a≠0/\∀c∈nM a,∀d∈c,l5 al d=rD al a)->(seen++l.map (rD al)).Nodup->seen.length+l.length=k->(ns al k IS l seen out).2=IN
 | [],seen,out,_,_,hk=>by grind[ns,bL]
 |x::l,seen,out,h1,h2,h=>by
  obtain⟨g1,g2⟩:=h1 x (by simp);have b:l5 al (x.2.1.headD 0)∉seen:=λhm=>(bQ.1 h2).2.2 _ hm _ (cn ..) rfl;simp only[ns];have e:(IT (l5 al (x.2.1.headD 0)=0)||IT (l5 al (x.2.1.headD 0)∈seen))=IS:=by rw[mN (show ¬l5 al (x.2.1.headD 0)=0 from g1),mN b];rfl
  have f:(nM x).all (λc=>c.all λd=>IT (l5 al d=l5 al (x.2.1.headD 0)))=IN:=by rw[ak];intro c hc;rw[ak];intro d g;exact mw (g2 c hc d g)
  rw[e,ct,f,dn];refine Uw (λa ha=>h1 a (by simp[ha])) ?_ (by grind[aT,aA,bL]);rw[cx];exact h2
theorem HA{a6:List ef}{al:List dk}{fs:List Int}(h:eS a6 al fs):(ns al fs.length IN (nw a6 al) [] []).2=IN↔GJ a6 al fs:=by
 obtain⟨a0,l,r,s,a7,hl,hk⟩:=Ex a6 al;have f:l.map (rD al)=(nS a6 al).map (tF al):=by rw[<-hl,dB];rfl
 have i:l.length=(nS a6 al).length:=by rw[<-hl,aF]
 rw[r];constructor
 .intro hf
  obtain⟨f0,f1⟩:=R1 hf;have o:(ns al fs.length IS l [] [0]).2=IN:=by grind[ns,nM,l5]
  obtain⟨lL,fa,j7,lP,nA⟩:=Hi o .nil;refine⟨λc hc p d b=>?_,λC u=>?_,λc hc C p d b=>?_,by rw[<-f];simpa using fa,by rw[<-i];simpa using lP⟩
  .grind[nM,bB,decide_eq_true,xR,oo,j9,p2.uniq,EJ,vB]
  .grind[rD,tF,aC,nM,cn]
  rcases xR a6 al (oo (j9 a6 al) c)with⟨_,g⟩|⟨k,y,g1,g2,g⟩
  .grind[p2.uniq,EJ,vB]
  cases p2.uniq h (EJ h (vB.1 hc).1) p g;have j:k<l.length:=by grind[ao]
  have m:=ae j;obtain⟨n,q⟩:=hk k _ m;rw[g2]at n;have e:C=l[k].2.1:=aQ n;rw[e];refine nA l[k] (au _) c ?_ d b
  grind[nM,bB,decide_eq_true]
 intro V;have t:(nM a0).all (λc=>c.all λd=>IT (l5 al d=0))=IN:=by
  rw[ak];intro c hc;rw[ak];intro d b;unfold nM at hc;rw[s]at hc;rcases aI.1 hc with rfl|hc
  .simp at b
  rw[a7]at hc;obtain⟨c1,c2⟩:=aD.1 hc;rw[gb]at c2;refine mw (V.zero c c1 ?_ d b)
  grind[xR,oo,j9]
 simp only[ns];rw[t,dn];refine Uw (λa ha=>?_) (by rw[bq,f];exact V.CU) (by rw[i,V.len];simp);obtain⟨k,j,m⟩:=aH ha;obtain⟨n,q⟩:=hk k a (by grind);obtain⟨v1,v2⟩:=V.out a.2.1 (aJ n);refine⟨v1,λc hc d b=>?_⟩;unfold nM at hc;rcases aI.1 hc with rfl|hc
 .exact v2 d b
 rw[q]at hc;obtain⟨c1,c2⟩:=aD.1 hc;rw[gb]at c2;refine V.vN c c1 a.2.1 ?_ d b
 grind[xR,oo,j9]
end Dp
def Wd(lC:Int->Int)(x:Int):∀k,mX lC x (k+1)=mX lC (lC x) k
 | 0=>rfl
 |k+1=>by show lC (mX lC x (k+1))=lC (mX lC (lC x) k);rw[Wd lC x k]
def bl6{lC:Int->Int}{d:Int}{m:Nat}(he:mX lC d m=d){x y:Int}(a:x∈mT lC d m)(b:y∈mT lC d m):∃k,y=mX lC x k:=by obtain⟨i,a7,rfl⟩:=qP.1 a;obtain⟨j,hj,rfl⟩:=qP.1 b;refine⟨m-i+j,?_⟩;rw[Ik lC (mX lC d i) (m-i) j,<-Ik lC d i (m-i),show i+(m-i)=m by omega,he]
def bq7{L:List Int}(hl:L.length=2)(d:L.Nodup){a b:Int}(ha:a∈L)(e:b∈L)(c:a≠b):pf L b=a/\∀x∈L,x=a\/x=b:=by
 match L,hl with
 | [x,y],_=>grind[pf]
namespace eS
variable {a6:List ef} {al:List dk} {fs:List Int} (h:eS a6 al fs)
include h
theorem QR{n:ef}(b:n∈a6):(l2 a6 al n).length=oP al n.1:=by
 rw[(h.wJ b).length_eq,aF];have key:∀l:List dk,(∀a∈l,a∈al)->(rj a6 al n.1 l).length=oP l n.1:=by
  intro l
  induction l with
  |nil=>intro _;rfl
  |cons a l c=>
   intro hl;obtain⟨f,t,_,_,d,_⟩:=h.path (hl a (by simp))
   grind[rj,nY,oP,aT]
 exact key al λ_ h=>h
theorem ag9{d:Int}(b:d∈l3 a6 al):tH a6 al (-d)=-tH a6 al d:=by
 obtain⟨a,ha,c⟩:=h.qZ.1 b;have hp:=h.p7 ha
 grind[lN,tH]
theorem as8{d:Int}(a:d∈l3 a6 al):∃n∈a6,-d∈l2 a6 al n/\mC a6 al d∈l2 a6 al n/\mC a6 al d=pf (l2 a6 al n) (-d):=by
 obtain⟨l,hl,hm⟩:=br.1 (h.Fq a);obtain⟨n,b,rfl⟩:=aP.1 hl;have e:=h.xa b hm
 grind[Cm]
theorem Q6{c:List Int}(hc:c∈lT a6 al){x y:Int}(a:x∈c)(b:y∈c):∃k,y=mX (mC a6 al) x k:=by obtain⟨e,m,_,_,he,rfl⟩:=h.sS.1.u9 c hc;exact bl6 he a b
theorem LC{c:List Int}(hc:c∈lT a6 al){x:Int}(a:x∈c):∀k,mX (mC a6 al) x k∈c
 | 0=>a
 |k+1=>h.yV hc (LC hc a k)
theorem G9{c:List Int}(hc:c∈lT a6 al){x:Int}(a:x∈c):∃y∈c,mC a6 al y=x:=by
 obtain⟨e,m,_,hm,he,rfl⟩:=h.sS.1.u9 c hc;obtain⟨i,a7,rfl⟩:=qP.1 a;cases i with
 |zero=>exact⟨_,qP.2 ⟨m-1,by omega,rfl⟩,by
   show mX (mC a6 al) e (m-1+1)=e
   grind⟩
 |succ i=>exact⟨_,qP.2 ⟨i,by omega,rfl⟩,rfl⟩
theorem ag6{c c':List Int}(hc:c∈lT a6 al)(a:c'∈lT a6 al){x:Int}(d:x∈c)(b:x∈c'):c=c':=by
 have hp:=(cQ.1 h.sS.1.nodup).2
 grind[aH,bE,jL]
theorem Q5{c:List Int}(hc:c∈lT a6 al):c.Nodup:=(cQ.1 h.sS.1.nodup).1 c hc
end eS
namespace Dp
structure Ring(a6:List ef)(al:List dk)(fs:List Int)(C:List Int)(p g:Int):Prop where
 h:eS a6 al fs
 val:GJ a6 al fs
 out:C∈nS a6 al
 side:∀d∈C,l5 al d=p
 all:∀d∈eS.l3 a6 al,l5 al d=p->d∈C
 aC1:p≠0
 bv2:∀d∈C,l5 al (-d)=g
 once:∀d∈C,-d∉C
 EH:∀d∈C,∀n∈a6,d∈eS.l2 a6 al n->oP al n.1=2
 hole:∀c∈sW a6 al,¬p2 a6 al (oo (j9 a6 al) c) (U C)
 alone:∀n∈a6,oP al n.1=0->¬p2 a6 al (n.2.1,n.2.2) (U C)
namespace Ring
variable {a6:List ef} {al:List dk} {fs:List Int} {C:List Int} {p g:Int} (R:Ring a6 al fs C p g)
include R
theorem nc:C∈eS.lT a6 al:=(pn.1 R.out).1
theorem ne:∃d,d∈C:=R.h.vF R.nc
theorem Tc:p∈fs:=by obtain⟨d,a⟩:=R.ne;have:=N5 R.h (d:=d) (by rw[R.side d a];exact R.aC1);rw[R.side d a]at this;exact this
theorem wR{d:Int}(a:d∈C):d∈eS.l3 a6 al:=R.h.o_ R.nc a
theorem CZ{a:dk}(ha:a∈al):nB p a=IS↔a.1∈C\/-a.1∈C:=by
 obtain⟨s1,s2⟩:=HS R.h ha;unfold nB;rw[dv,gv,gv,gb,gb];constructor
 .rintro (e|e)
  .exact .inl (R.all _ (R.h.qZ.2 ⟨a,ha,.inl rfl⟩) (s1.trans e))
  exact .inr (R.all _ (R.h.qZ.2 ⟨a,ha,.inr rfl⟩) (s2.trans e))
 rintro (e|e)
 .exact .inl (s1.symm.trans (R.side _ e))
 exact .inr (s2.symm.trans (R.side _ e))
theorem yT{d:Int}(b:d∈C):∃n∈a6,-d∈eS.l2 a6 al n/\eS.mC a6 al d∈eS.l2 a6 al n/\eS.mC a6 al (-(eS.mC a6 al d))=-d/\∀x∈eS.l2 a6 al n,x=-d\/x=eS.mC a6 al d:=by
 obtain⟨n,a,h1,h2,l⟩:=R.h.as8 (R.wR b);have i:=R.h.yV R.nc b;have c:-d≠eS.mC a6 al d:=λe=>R.once d b (e▸i);have hl:(eS.l2 a6 al n).length=2:=by rw[R.h.QR a];exact R.EH _ i n a h2
 have f:=R.h.Eh a;obtain⟨j,k⟩:=bq7 hl f h1 h2 c;exact⟨n,a,h1,h2,by rw[R.h.xa a h2,j],k⟩
theorem af3{n:ef}(f:n∈a6){y:Int}(i:y∈eS.l2 a6 al n)(b:y∈C\/-y∈C):∀x∈eS.l2 a6 al n,x∈C\/-x∈C:=by
 obtain⟨d,a,c⟩:∃d∈C,-d∈eS.l2 a6 al n:=by
  rcases b with q|q
  .obtain⟨d,a,e⟩:=R.h.G9 R.nc q
   obtain⟨m,hm,g1,g2,_⟩:=R.yT a;rw[e]at g2;have:=R.h.Cb f hm i g2;subst this;exact⟨d,a,g1⟩
  grind
 obtain⟨m,hm,g1,_,_,g4⟩:=R.yT a;have:=R.h.Cb f hm c g1;subst this;intro x j;rcases g4 x j with rfl|rfl
 .grind
 exact .inl (R.h.yV R.nc a)
theorem back{d:Int}(a:d∈C):∀k,mX (eS.mC a6 al) (-(mX (eS.mC a6 al) d k)) k=-d
 | 0=>rfl
 |k+1=>by rw[Wd];obtain⟨_,_,_,_,b,_⟩:=R.yT (R.h.LC R.nc a k);show mX (eS.mC a6 al) (eS.mC a6 al (-(eS.mC a6 al (mX (eS.mC a6 al) d k)))) k=-d;rw[b];exact back a k
theorem rev{c:List Int}(hc:c∈eS.lT a6 al){x:Int}(j:x∈c)(i:-x∈C):(∀y,y∈c↔-y∈C)/\mK a6 al c=-mK a6 al C:=by
 have lC:∀y,-y∈C->-(eS.mC a6 al y)∈C:=λy f=>by
  obtain⟨e,he,n⟩:=R.h.G9 R.nc f;obtain⟨_,_,_,_,o,_⟩:=R.yT he
  grind
 have it:∀k,-(mX (eS.mC a6 al) x k)∈C:=λk=>by
  induction k with
  |zero=>exact i
  |succ k l=>exact lC _ l
 have mem:∀y,y∈c↔-y∈C:=λy=>by
  constructor
  .intro f
   obtain⟨k,rfl⟩:=R.h.Q6 hc j f;exact it k
  intro f;obtain⟨k,hk⟩:=R.h.Q6 R.nc f i;have:=R.back f k;rw[<-hk,dM,dM]at this;rw[<-this];exact R.h.LC hc j k
 refine⟨mem,?_⟩;have hp:c.Perm (C.map λd=>-d):=by
  refine(List.perm_ext_iff_of_nodup (R.h.Q5 hc) ?_).2 λy=>?_
  .refine ch.2 ((R.h.Q5 R.nc).imp λ{a b} h e=>h (by omega))
  grind
 rw[Cl,Cl,Io hp,Ba,<-y'];exact mu λd m=>R.h.ag9 (R.wR m)
theorem Uj{c:List Int}(hc:c∈nS a6 al)(a:c≠C){x:Int}(b:x∈c):x∉C/\-x∉C:=by obtain⟨h1,h2⟩:=pn.1 hc;refine⟨λhm=>a (R.h.ag6 h1 R.nc b hm),λhm=>?_⟩;have:=(R.rev h1 b hm).2;have:=(pn.1 R.out).2;omega
end Ring
end Dp
namespace Dp
def Uz(p id:Int):∀(l:List dk) (m:List (Int×Bool)),(ff fx id (ob p l m)).getD IS=((ff fx id m).getD IS||l.any λa=>!(nB p a)&&(IT (a.2.1=id)||IT (a.2.2.1=id)))
 | [],m=>by simp[ob]
 |a::l,m=>by
  have e:ob p (a::l) m=ob p l (if nB p a=IN then m else k7 fx a.2.2.1 IN (k7 fx a.2.1 IN m)):=rfl;rw[e,Uz p id l,List.any_cons,<-Bool.or_assoc];congr 1;cases hk:nB p a with
  |true=>simp
  |false=>
   rw[b8 (by simp),sL,sL];by_cases h1:a.2.2.1=id
   .simp[h1]
   by_cases h2:a.2.1=id
   .simp[h2]
   have b:¬id=a.2.2.1:=λe=>h1 e.symm;have c:¬id=a.2.1:=λe=>h2 e.symm;simp[h1,h2,b,c]
def Hz(p:Int)(al:List dk)(n:ef):pU (ob p al []) n=IN↔∀a∈al,nB p a=IS->a.2.1≠n.1/\a.2.2.1≠n.1:=by unfold pU;rw[bS,Uz];simp only[ff,Option.getD_none,dt,bC,ab,bS,bD,gb,not_and,not_or]
def Ny:∀(l:List ef) (c:Int),c<=nj l c/\nj l c<=c+l.length
 | [],c=>by simp[nj]
 |n::l,c=>by
  have h1:=Ny l c;have h2:=Ny l (c+1);have e:nj (n::l) c=nj l (bif IT (n.1=c)then c+1 else c):=rfl;rw[e,aA];by_cases q:n.1=c
  .rw[mw q,dn];omega
  rw[mN q,ct];omega
structure DY(a6:List ef)(al:List dk)(q:b6):Prop where
 pos:mQ q=IN
 node:∀n∈a6,mz q (n.2.1,n.2.2)=IS
 aX3:∀r,mE a6 al al=U r->∀s∈r,l_ (hT s) (hF s) q=IS
namespace Ring
variable {a6:List ef} {al:List dk} {fs:List Int} {C:List Int} {p g:Int} (R:Ring a6 al fs C p g) {q:b6} (O:DY a6 al q) {l:List l9} {id:Int}
include R O
theorem less:rF a6 al fs (nU a6 al fs l id p q).1 (nU a6 al fs l id p q).2.1 (nU a6 al fs l id p q).2.2.1 (nj a6 1,q.1,q.2) (nB p)/\∀a∈al,nB p a=IS->∀n∈(nU a6 al fs l id p q).1,n.1≠a.2.1/\n.1≠a.2.2.1:=by
 have h:=R.h;have j:∀n,n∈(nU a6 al fs l id p q).1↔(n∈a6/\pU (ob p al []) n=IN)\/n=(nj a6 1,q.1,q.2):=λn=>by show n∈nG we (a6.filter (pU (ob p al []))++[(nj a6 1,q.1,q.2)])↔_;rw[(q4 (B4 _)).mem_iff,aO,aD,aG]
 have k:nj a6 1∉a6.map (·.1):=MO (l:=a6) (pre:=[]) (pA h.wK) (by simp);have w:((a6.filter (pU (ob p al []))++[(nj a6 1,q.1,q.2)]).map (·.1)).Nodup:=by rw[cL,bQ];refine⟨((pA h.wK).imp λh=>by omega:(a6.map (·.1)).Nodup).sublist (cW.map _),by simp,λa ha b v=>?_⟩;obtain⟨n,i,rfl⟩:=aP.1 ha;simp only[ay,bO,aG]at v;subst v;exact λe=>k (e▸aC (aD.1 i).1)
 have Q:=Ny a6 1;have S:=h.zo;obtain⟨d,N⟩:=R.ne;obtain⟨n0,B,V,_⟩:=R.yT N;have t:∀n∈a6,∀y∈eS.l2 a6 al n,(y∈C\/-y∈C)->pU (ob p al []) n=IS:=λn i y D u=>by
  obtain⟨a,ha,c⟩:=(h.su i).1 D;have hk:nB p a=IS:=(R.CZ ha).2 (by rcases c with⟨_,rfl⟩|⟨_,rfl⟩<;>rcases u with z|z<;>simp_all);cases E:pU (ob p al []) n with
  |false=>rfl
  |true=>
   have:=(Hz p al n).1 E a ha hk;rcases c with⟨c,_⟩|⟨c,_⟩
   .exact(this.1 c).elim
   exact(this.2 c).elim
 refine⟨⟨h,rfl,λn i=>((j n).1 i).imp And.left λe=>e,?_,?_,λa ha n i he=>?_,k,?_,O.pos,λn i G=>?_,λr hr s hs _=>O.aX3 r hr s hs,cW,λa ha=>?_⟩,λa ha hk n i=>?_⟩
 .have hs:=yE (B4 (a6.filter (pU (ob p al []))++[(nj a6 1,q.1,q.2)]))
  have hp:=q4 (B4 (a6.filter (pU (ob p al []))++[(nj a6 1,q.1,q.2)]));have H:((nG we (a6.filter (pU (ob p al []))++[(nj a6 1,q.1,q.2)])).map (·.1)).Nodup:=(hp.map _).nodup_iff.2 w;refine ch.2 ((hs.and (ch.1 H)).imp λ{a b} x=>?_);have P:=x.1;have x2:=x.2;unfold we at P;rw[qu]at P;omega
 .have h1:(nU a6 al fs l id p q).1.length=(a6.filter (pU (ob p al []))).length+1:=by show(nG we _).length=_;rw[(q4 (B4 _)).length_eq];simp
  have h2:(a6.filter (pU (ob p al []))).length<a6.length:=by rw[List.length_filter_lt_length_iff_exists];exact⟨n0,B,by rw[t n0 B _ V (.inr (by rw[dM];exact N))];simp⟩
  omega
 .refine(j n).2 (.inl ⟨i,?_⟩)
  obtain⟨o,m⟩:=aD.1 (show a∈al.filter (nB p)from ha);have I:∃x∈eS.l2 a6 al n,x=a.1\/x=-a.1:=by
   rcases he with e|e
   .exact⟨a.1,(h.su i).2 ⟨a,o,.inl ⟨e.symm,rfl⟩⟩,.inl rfl⟩
   exact⟨-a.1,(h.su i).2 ⟨a,o,.inr ⟨e.symm,rfl⟩⟩,.inr rfl⟩
  obtain⟨x,I,J⟩:=I;refine(Hz p al n).2 λb v hk=>?_;have no:∀y∈eS.l2 a6 al n,(y=b.1\/y=-b.1)->False:=λy D K=>by
   have u:y∈C\/-y∈C:=by rcases(R.CZ v).1 hk with z|z<;>rcases K with rfl|rfl<;>simp_all
   have M:=R.af3 i D u x I;have:nB p a=IS:=(R.CZ o).2 (by rcases M with z|z<;>rcases J with rfl|rfl<;>simp_all);rw[m]at this;cases this
  exact⟨λe=>no b.1 ((h.su i).2 ⟨b,v,.inl ⟨e,rfl⟩⟩) (.inl rfl),λe=>no (-b.1) ((h.su i).2 ⟨b,v,.inr ⟨e,rfl⟩⟩) (.inr rfl)⟩
 .unfold qp
  rw[mw (by show(1:Int)<=nj a6 1;omega),mw (by show nj a6 1<=1073741824;omega)];rfl
 .rcases(j n).1 i with⟨z,_⟩|z
  .exact O.node n z
  exact(G (by rw[z])).elim
 .obtain⟨o,m⟩:=aD.1 (show a∈al.filter (nB p)from ha)
  obtain⟨s1,s2⟩:=HS h o;unfold nB at m;simp only[ab,bS,nu]at m;have key:∀f,f≠p->(f≠0->f∈fs)->f=0\/f∈fs.filter (λf=>!decide (f=p)):=λf h1 h2=>by
   by_cases e:f=0
   .exact .inl e
   exact .inr (aD.2 ⟨h2 e,by simpa using h1⟩)
  refine⟨key _ m.1 λe=>?_,key _ m.2 λe=>?_⟩
  .rw[<-s1]at e⊢;exact N5 h e
  rw[<-s2]at e⊢;exact N5 h e
 rcases(j n).1 i with⟨ni,z2⟩|rfl
 .have:=(Hz p al n).1 z2 a ha hk
  exact⟨λe=>this.1 e.symm,λe=>this.2 e.symm⟩
 obtain⟨⟨n1,m1,lL⟩,n2,m2,fa⟩:=h.xb ha;exact⟨λe=>k (by rw[show nj a6 1=a.2.1 from e,<-lL];exact aC m1),λe=>k (by rw[show nj a6 1=a.2.2.1 from e,<-fa];exact aC m2)⟩
end Ring
end Dp
def S3{m a:List (Int×List b6)}(q:b6):∀(c:List Int) (st:Bool×Bool),(∀d∈c,ff fx (lN d) a=ff fx (lN d) m)->q6 a q c st=q6 m q c st
 | [],_,_=>rfl
 |d::c,st,h=>by unfold q6;rw[h d (by simp)];exact S3 q c _ λe he=>h e (by simp[he])
def ba5{m a:List (Int×List b6)}(q:b6){c:List Int}(h:∀d∈c,ff fx (lN d) a=ff fx (lN d) m):pd a c q=pd m c q:=by unfold pd;rw[S3 q c _ h]
def ay5{α:Type}{l:List α}{p:α}{f:α->Bool}(b:l.Nodup)(hp:p∈l)(hf:∀x∈l,f x=IS↔x=p):(l.filter f).length+1=l.length:=by
 induction l with
 |nil=>simp at hp
 |cons a l e=>
  rw[cF]at b;rcases aI.1 hp with rfl|hp
  .have h1:f p=IS:=(hf p (by simp)).2 rfl
   have h2:l.filter f=l:=di.2 λx c=>by
    cases d:f x with
    |true=>rfl
    |false=>exact(b.1 ((hf x (by simp[c])).1 d▸c)).elim
   rw[bw,h1,b8 (by simp),h2,aA]
  have h1:f a=IN:=by
   cases d:f a with
   |true=>rfl
   |false=>exact(b.1 ((hf a (by simp)).1 d▸hp)).elim
  have:=e b.2 hp λx c=>hf x (by simp[c]);rw[bw,h1,b9 rfl,aA,aA];omega
namespace Dp
section
variable {a6 ns':List ef} {al ars':List dk} {fs fs':List Int} {v:ef} {K:dk->Bool} (L:rF a6 al fs ns' ars' fs' v K) (cut:∀a∈al,K a=IS->∀n∈ns',n.1≠a.2.1/\n.1≠a.2.2.1)
include L
theorem Ax{d:Int}(i:d∈eS.l3 ns' ars'):l5 ars' d=l5 al d/\l5 ars' (-d)=l5 al (-d)/\pathOf ns' ars' (lN d)=pathOf a6 al (lN d)/\ff fx (lN d) (j9 ns' ars')=ff fx (lN d) (j9 a6 al):=by
 obtain⟨a,ha,c⟩:=L.ok.qZ.1 i;have b:=L.nb ha;have hp:=L.h.p7 b;have e:lN d=a.1:=by unfold lN;rcases c with rfl|rfl<;>omega
 obtain⟨s1,s2⟩:=HS L.ok ha;obtain⟨t1,t2⟩:=HS L.h b;have f:=L.N0 ha;have g:ff fx a.1 (j9 ns' ars')=ff fx a.1 (j9 a6 al):=by rw[L.ok.FE ha,L.h.FE b,f]
 rw[e];rcases c with rfl|rfl
 .exact⟨s1.trans t1.symm,s2.trans t2.symm,f,g⟩
 exact⟨s2.trans t2.symm,by rw[dM];exact s1.trans t1.symm,f,g⟩
theorem An{c:List Int}(hc:∀d∈c,d∈eS.l3 ns' ars'):mK ns' ars' c=mK a6 al c:=by rw[Cl,Cl];exact mu λd b=>by unfold tH;rw[(Ax L (hc d b)).2.2.1]
include cut
theorem AF{c:List Int}:c∈eS.lT ns' ars'↔c∈eS.lT a6 al/\ot (eS.l3 ns' ars') c=IN:=by rw[L.Q7 cut,aD]
theorem HN{c:List Int}:c∈nS ns' ars'↔c∈nS a6 al/\ot (eS.l3 ns' ars') c=IN:=by
 rw[pn,pn,AF L cut];constructor
 .rintro ⟨⟨h1,h2⟩,b⟩
  rw[An L λd e=>L.ok.o_ ((AF L cut).2 ⟨h1,h2⟩) e]at b;exact⟨⟨h1,b⟩,h2⟩
 rintro ⟨⟨h1,b⟩,h2⟩;rw[An L λd e=>L.ok.o_ ((AF L cut).2 ⟨h1,h2⟩) e];exact⟨⟨h1,h2⟩,b⟩
theorem Ni{c:List Int}:c∈sW ns' ars'↔c∈sW a6 al/\ot (eS.l3 ns' ars') c=IN:=by
 rw[vB,vB,AF L cut];constructor
 .rintro ⟨⟨h1,h2⟩,b⟩
  rw[An L λd e=>L.ok.o_ ((AF L cut).2 ⟨h1,h2⟩) e]at b;exact⟨⟨h1,b⟩,h2⟩
 rintro ⟨⟨h1,b⟩,h2⟩;rw[An L λd e=>L.ok.o_ ((AF L cut).2 ⟨h1,h2⟩) e];exact⟨⟨h1,h2⟩,b⟩
theorem M7{c:List Int}(hc:c∈eS.lT ns' ars')(q:b6):pd (j9 ns' ars') c q=pd (j9 a6 al) c q :=ba5 q λ_ b=>(Ax L (L.ok.o_ hc b)).2.2.2
theorem aW5{c:List Int}(hc:c∈eS.lT ns' ars'):oo (j9 ns' ars') c=oo (j9 a6 al) c:=by
 obtain⟨d,b⟩:=L.ok.vF hc;have e:c.headD 0∈c:=by
  cases c with
  |nil=>simp at b
  |cons x c=>simp
 unfold oo;rw[(Ax L (L.ok.o_ hc e)).2.2.2]
theorem bp7{q:b6}{o:Option (List Int)}(hf:p2 a6 al q o)(g:∀y,o=U y->ot (eS.l3 ns' ars') y=IN):p2 ns' ars' q o:=by
 cases o with
 |none=>exact λc hc=>by rw[M7 L cut (pn.1 hc).1];exact hf c ((HN L cut).1 hc).1
 |some y=>obtain⟨h1,h2,h⟩:=hf;have b:=(HN L cut).2 ⟨h1,g y rfl⟩;refine⟨b,by rw[M7 L cut (pn.1 b).1];exact h2,λx e he=>?_⟩;rw[M7 L cut (pn.1 e).1]at he;rw[An L λd f=>L.ok.o_ (pn.1 b).1 f,An L λd f=>L.ok.o_ (pn.1 e).1 f];exact h x ((HN L cut).1 e).1 he
end
def head_mem{c:List Int}{d:Int}(a:d∈c):c.headD 0∈c:=by
 cases c with
 |nil=>simp at a
 |cons x c=>simp
namespace Ring
variable {a6:List ef} {al:List dk} {fs:List Int} {C:List Int} {p g:Int} (R:Ring a6 al fs C p g)
include R
theorem kept{ns':List ef}{ars':List dk}{fs':List Int}{v:ef}(L:rF a6 al fs ns' ars' fs' v (nB p)){d:Int}(i:d∈eS.l3 a6 al):d∈eS.l3 ns' ars'↔d∉C/\-d∉C:=by
 obtain⟨a,ha,c⟩:=R.h.qZ.1 i;have hk:=R.CZ ha;have hm:a∈ars'↔nB p a=IN:=by rw[L.wH,aD];exact⟨λh=>h.2,λh=>⟨ha,h⟩⟩
 have j:d∈eS.l3 ns' ars'↔a∈ars':=by
  rw[L.ok.qZ];constructor
  .rintro ⟨b,f,c'⟩
   have:=R.h.p7 ha;have:=R.h.p7 (L.nb f);have:=R.h.xB (L.nb f) ha (by rcases c with rfl|rfl<;>rcases c' with e|e<;>omega);rw[<-this];exact f
  exact λh=>⟨a,h,c⟩
 rw[j,hm];cases h2:nB p a with
 |true=>
  rw[h2]at hk;have:¬(a.1∈C\/-a.1∈C):=λh=>by cases hk.2 h
  rcases c with rfl|rfl<;>simp_all
 |false=>have:=hk.1 h2;rcases c with rfl|rfl<;>rcases this with z|z<;>simp_all
theorem aY2{q:b6}(O:DY a6 al q){l:List l9}{id:Int}:eS (nU a6 al fs l id p q).1 (nU a6 al fs l id p q).2.1 (nU a6 al fs l id p q).2.2.1/\GJ (nU a6 al fs l id p q).1 (nU a6 al fs l id p q).2.1 (nU a6 al fs l id p q).2.2.1:=by
 obtain⟨L,cut⟩:=R.less O (l:=l) (id:=id);have cu:(nU a6 al fs l id p q).2.2.1=fs.filter λf=>!decide (f=p):=rfl;generalize(nU a6 al fs l id p q).1=ns' at L cut⊢;generalize(nU a6 al fs l id p q).2.1=ars' at L cut⊢;generalize(nU a6 al fs l id p q).2.2.1=fs' at L cut cu⊢;have h:=R.h;have h':=L.ok;have V:=R.val;have j:∀c∈nS a6 al,ot (eS.l3 ns' ars') c=IS↔c=C:=λc hc=>by
  obtain⟨d,a⟩:=h.vF (pn.1 hc).1;have r:=head_mem a;have hk:=R.kept L (h.o_ (pn.1 hc).1 r);unfold ot;rw[nu,hk];constructor
  .intro e
   exact dO λs=>e (R.Uj hc s r)
  rintro rfl e;exact e.1 r
 have k:∀c∈sW ns' ars',∀o,p2 ns' ars' (oo (j9 ns' ars') c) o->p2 a6 al (oo (j9 a6 al) c) o:=λc hc o u=>by
  have m:=((Ni L cut).1 hc).1;have t:=(vB.1 hc).1;rw[aW5 L cut t]at u;have e:=EJ h (vB.1 m).1;have key:∀o0,p2 a6 al (oo (j9 a6 al) c) o0->p2 a6 al (oo (j9 a6 al) c) o:=λo0 b=>by
   have:=bp7 L cut b λy w=>by
    subst w;cases hk:ot (eS.l3 ns' ars') y with
    |true=>rfl
    |false=>have:=(j y b.1).1 hk;subst this;exact(R.hole c m b).elim
   have:=p2.uniq h' e this u;subst this;exact b
  rcases xR a6 al (oo (j9 a6 al) c)with⟨_,b⟩|⟨_,y,_,_,b⟩
  .exact key _ b
  exact key _ b
 have i:∀c∈nS ns' ars',tF ars' c=tF al c:=λc hc=>by obtain⟨d,a⟩:=h'.vF (pn.1 hc).1;exact(Ax L (h'.o_ (pn.1 hc).1 (head_mem a))).1
 have n:nS ns' ars'=(nS a6 al).filter (ot (eS.l3 ns' ars')):=by
  unfold nS;rw[L.Q7 cut,jD,jD];refine List.filter_congr λc hc=>?_;cases hk:ot (eS.l3 ns' ars') c with
  |false=>simp
  |true=>have:mK ns' ars' c=mK a6 al c:=An L λd a=>h'.o_ ((AF L cut).2 ⟨hc,hk⟩) a;rw[this];simp
 refine⟨h',λc hc hf d a=>?_,λc hc=>?_,λc hc v hf d a=>?_,?_,?_⟩
 .rw[(Ax L (h'.o_ (vB.1 hc).1 a)).1]
  exact V.zero c ((Ni L cut).1 hc).1 (k c hc _ hf) d a
 .obtain⟨v1,v2⟩:=V.out c ((HN L cut).1 hc).1
  rw[i c hc];refine⟨v1,λd a=>?_⟩;rw[(Ax L (h'.o_ (pn.1 hc).1 a)).1];exact v2 d a
 .rw[(Ax L (h'.o_ (vB.1 hc).1 a)).1,i v hf.1]
  exact V.vN c ((Ni L cut).1 hc).1 v (k c hc _ hf) d a
 .have:(nS ns' ars').map (tF ars')=(nS ns' ars').map (tF al):=bp i
  rw[this,n];exact V.CU.sublist (cW.map _)
 have e:(nS a6 al).Nodup:=h.Q9.sublist cW;have x:=ay5 e R.out j;have z:=RU (kR (λh=>by omega) (pA h.GX)) R.Tc;rw[n,cu];have:=V.len;omega
end Ring
end Dp
def Zs(L:List l6)(k:Nat)(c:Int):(rX L k c).map q8=L.map q8:=by
 unfold rX;cases a:L[k]? with
 |none=>rfl
 |some x=>
  simp only[List.map_set];refine gZ λi=>?_;rw[cS];by_cases e:k=i
  .subst e
   have hk:k<L.length:=(ao.1 a).1;rw[b9 rfl,b9 (by simpa using hk),aX,a];rfl
  rw[b8 e]
def aW7(L:List l6)(k:Nat)(c:Int)(i:Nat):((rX L k c)[i]?).map (λx=>x.2.2.2)=(L[i]?).map (λx=>x.2.2.2++(if k=i then [c]else [])):=by
 unfold rX;cases a:L[k]? with
 |none=>
  by_cases e:k=i
  .subst e
   simp[a]
  simp[e]
 |some x=>
  have hk:k<L.length:=(ao.1 a).1;simp only;rw[cS];by_cases e:k=i
  .subst e
   rw[b9 rfl,b9 hk,a];simp
  rw[b8 e];simp[e]
def Mr{a6:List ef}{al:List dk}{m:List (Int×List b6)}{L0:List l6}:∀(R:List ef) (L:List l6),L.map q8=L0.map q8->∀(k:Nat),((qB a6 al m R L)[k]?).map (λx=>x.2.2.2)=(L[k]?).map (λx=>x.2.2.2++(R.filter (λn=>IT (oP al n.1=0)&&IT (p_ m L0 (n.2.1,n.2.2)=k))).map (·.1))
 | [],L,_,k=>by simp[qB]
 |n::R,L,b,k=>by
  have e:=Sw (m:=m) b (n.2.1,n.2.2);simp only[qB];by_cases a:oP al n.1=0
  .rw[mw a,dn,Mr R _ ((Zs L _ n.1).trans b) k]
   have h1:=aW7 L (p_ m L (n.2.1,n.2.2)) n.1 k;rw[e]at h1⊢;have h2:=mP (kQ λl=>l++(R.filter (λn=>IT (oP al n.1=0)&&IT (p_ m L0 (n.2.1,n.2.2)=k))).map (·.1)) h1;rw[dw,dw]at h2;refine jX h2 ?_;congr 1;funext x;simp only[gY,cx,bw];by_cases q:p_ m L0 (n.2.1,n.2.2)=k<;>simp[q,a]
  rw[mN a,ct,Mr R L b k];congr 1;funext x;simp[bw,a]
def XA{m:List (Int×List b6)}:∀(R:List (List Int)) (L:List l6),(qW m R L).map q8=L.map q8
 | [],_=>rfl
 |c::R,L=>by simp only[qW];rw[XA R,WD]
namespace Dp
def S0(a6:List ef)(al:List dk){k:Nat}{a:l6}(ha:(nw a6 al)[k]?=U a):a.2.2.2=(a6.filter (λn=>IT (oP al n.1=0)&&IT (uZ a6 al (n.2.1,n.2.2)=k))).map (·.1):=by
 have h1:=Mr (a6:=a6) (al:=al) (m:=j9 a6 al) (L0:=oR a6 al (eS.lT a6 al)) a6 (qW (j9 a6 al) (sW a6 al) (oR a6 al (eS.lT a6 al))) (XA _ _) k;have h2:(qB a6 al (j9 a6 al) a6 (qW (j9 a6 al) (sW a6 al) (oR a6 al (eS.lT a6 al))))[k]?=U a:=ha;rw[h2,H9 _ _ rfl k,dw]at h1;cases c:(oR a6 al (eS.lT a6 al))[k]? with
 |none=>rw[c]at h1;cases h1
 |some b=>
  rw[c]at h1;have d:b.2.2.2=[]:=by
   have:=aJ c;unfold oR at this;rcases aI.1 this with rfl|this
   .rfl
   obtain⟨_,_,rfl⟩:=aP.1 this;rfl
  simp only[aj,gY,ai,d,bq]at h1;exact h1
def Zn{a6:List ef}{al:List dk}{fs:List Int}{r:t'}(c:r∈Gl a6 al fs)(d:r.2.1≠[]):∃k a,(nw a6 al)[k+1]?=U a/\r.2.1=a.2.1/\r.2.2.1=a.2.2.1/\r.2.2.2=a.2.2.2:=by
 have hz:r∈xh (rz a6 al fs) (nw a6 al):=(q4 (G5 _)).mem_iff.1 c;obtain⟨i,a7,e⟩:=aH hz;unfold xh at e a7;rw[gj]at a7;rw[ga]at e;have b:i<(nw a6 al).length:=by omega
 obtain⟨a0,l,f,g,_⟩:=Ex a6 al;cases i with
 |zero=>exfalso;apply d;rw[<-e];simp only[f,List.getElem_cons_zero];exact g
 |succ i=>exact⟨i,(nw a6 al)[i+1],ae b,by rw[<-e],by rw[<-e],by rw[<-e]⟩
def Vy{a6:List ef}{al:List dk}{fs:List Int}(h:eS a6 al fs){n:ef}(b:n∈a6){d:Int}(f:d∈eS.l2 a6 al n):xy ((a6,al,fs),d)=U n.1:=by
 obtain⟨a,ha,c⟩:=(h.su b).1 f;have i:=h.num ha;have a7:qY d:=by rcases c with⟨_,rfl⟩|⟨_,rfl⟩<;>exact⟨by omega,by omega⟩
 have g:d≠0:=by rcases c with⟨_,rfl⟩|⟨_,rfl⟩<;>omega
 have e:lN d=a.1:=by unfold lN;rcases c with⟨_,rfl⟩|⟨_,rfl⟩<;>omega
 unfold xy;simp only[h.GW a7,cr,g,j2,e,h.vA ha,dn];rcases c with⟨c,rfl⟩|⟨c,rfl⟩
 .rw[mw (by omega:0<a.1)]
  simp[c]
 rw[mN (by omega:¬ 0 < -a.1)];simp[c]
def N8{a6:List ef}{al:List dk}{fs:List Int}{l:List l9}{f:l9}{p g:Int}(z:xk a6 al fs l f p g):∃r:t',Dy a6 al fs p r/\r.2.1≠[]/\Ring a6 al fs r.2.1 p g/\PV a6 al fs l f p r:=by
 obtain⟨_,_,r,⟨h,hf,i,e⟩,j,a7,B,b,m⟩:=z;obtain⟨lL,fa,j7,lP,nA⟩:=Xl h hf i j a7;rw[e]at lL lP nA;obtain⟨k,a,ha,C,a2,a3⟩:=Zn i j;obtain⟨a0,l0,o,_,_,_,hk⟩:=Ex a6 al;have s:l0[k]?=U a:=by rw[o,aM]at ha;exact ha
 obtain⟨w,D⟩:=hk k a s;have t:(nS a6 al).Nodup:=h.Q9.sublist cW;have key:∀q,fc q=IN->p2 a6 al q (U r.2.1)->uZ a6 al q=k+1:=λq x cu=>by
  rcases xR a6 al q with⟨_,g0⟩|⟨E,y,g1,g2,g3⟩
  .cases p2.uniq h x cu g0
  cases p2.uniq h x cu g3;rw[<-C]at w;have:E=k:=by obtain⟨i1,G⟩:=ao.1 g2;obtain⟨i2,H⟩:=ao.1 w;exact(dL (h₀:=i1) (h₁:=i2) t).1 (G.trans H.symm)
  omega
 refine⟨r,⟨h,hf,i,e⟩,j,⟨h,(HA h).1 hf,pn.2 ⟨fa,j7⟩,lP,nA,lL,B,b,λd o n b u=>?_,λc hc cu=>?_,λn b v cu=>?_⟩,m⟩
 .obtain⟨I,s1,s2,_⟩:=m.EH d o
  rw[Vy h b u]at s1;cases s1;exact s2
 .have:=key _ (EJ h (vB.1 hc).1) cu
  have hm:c∈r.2.2.1:=by rw[a2,D];exact aD.2 ⟨hc,mw this⟩
  rw[a7]at hm;simp at hm
 have:=key _ (vl (ak.1 h.IK n b)) cu;have hm:n.1∈r.2.2.2:=by rw[a3,S0 a6 al ha];exact aC (aD.2 ⟨b,by simp[v,this]⟩)
 rw[m.alone]at hm;simp at hm
end Dp
theorem KV(a b:rn):x8 a b=IT (a=b):=by
 unfold x8
 grind[fg,decide_eq_false,dv]
theorem HR(x k:rn):∀S:List (rn×Bool),sV (k7 x8 k IN S) x=(IT (x=k)||sV S x)
 | []=>by grind[sV,k7,ff,KV]
 |s::S=>by
  have a:=HR x k S
  grind[sV,k7,ff,KV]
noncomputable def w0(f:l9):List rn:=if ow f.2.1=2 then []else f.2.2.2.2.map λx=>(bif IT (ow f.2.1=3)then f.2.1 else 0,x)
def SV(k:Int):∀(a:List Int) (S:List (rn×Bool)),match vL k a S with
  |some b=>(∀x∈a.map (λx=>(k,x)),sV S x=IS)/\(a.map λx=>(k,x)).Nodup/\∀x,sV b x=(sV S x||IT (x∈a.map λx=>(k,x)))
  |none=>¬((∀x∈a.map (λx=>(k,x)),sV S x=IS)/\(a.map λx=>(k,x)).Nodup)
 | [],S=>by simp[vL]
 |p::a,S=>by
  have c:=SV k a (k7 x8 (k,p) IN S)
  grind[vL,sV,k7,HR,bU,decide_eq_false_iff_not,cF,bB]
def Mp:∀(l:List l9) (S:List (rn×Bool)),wW l S=IS↔(∀x∈l.flatMap w0,sV S x=IS)/\(l.flatMap w0).Nodup
 | [],S=>by simp[wW]
 |f::l,S=>by
  simp only[wW,dF];by_cases h2:ow f.2.1=2
  .have e:w0 f=[]:=by unfold w0;rw[b9 h2]
   rw[mw h2,dn,Mp l S,e,bq]
  have e:w0 f=f.2.2.2.2.map λx=>(bif IT (ow f.2.1=3)then f.2.1 else 0,x):=by unfold w0;rw[b8 h2]
  rw[mN h2,ct];have hp:=SV (bif IT (ow f.2.1=3)then f.2.1 else 0) f.2.2.2.2 S;rw[<-e]at hp;cases hs:vL (bif IT (ow f.2.1=3)then f.2.1 else 0) f.2.2.2.2 S with
  |some a =>
   rw[hs]at hp;simp only at hp⊢;rw[Mp l a,bQ]
   grind[bU,decide_eq_false_iff_not,cC]
  |none=>grind[bX,bQ]
def VN{g:l9->l9}(c:∀f,(g f).1=f.1):∀ {l:List l9} {o:Option Int},(∀f∈l,wa f.2.2.2.2=IN->wa (g f).2.2.2.2=IN)->wg o l=IS->wg o (l.map g)=IS
 | [],_,_,_=>rfl
 |f::l,o,h1,h2=>by
  unfold wg at h2⊢;have e:∀ {a b:Bool},(bif a then IN else b)=IS->a=IS/\b=IS:=λ{a b} h=>by cases a<;>simp_all
  obtain⟨lL,fa⟩:=e h2;rw[bU]at lL;have j7:wa f.2.2.2.2=IN:=by simpa using lL.2
  rw[ay];simp only;rw[c f,lL.1,h1 f (by simp) j7,ax,dt,ct];exact VN c (λx d=>h1 x (by simp[d])) fa
theorem aY1:ow 0=0:=by unfold ow qM;simp
def xJ{c:Bool}{a b:Int}(hc:c=IS)(h:b=0):(bif c then a else b)=0:=by rw[hc];exact h
namespace Dp
section
variable {a6:List ef} {al:List dk} {fs:List Int} {l:List l9} (hc:sN a6 al fs l=0) {f:l9} (hf:f∈l) {p g:Int} (hE:xk a6 al fs l f p g) {q:b6} (O:DY a6 al q)
include hc hf hE O
theorem aQ7:sN (nU a6 al fs l f.1 p q).1 (nU a6 al fs l f.1 p q).2.1 (nU a6 al fs l f.1 p q).2.2.1 (nU a6 al fs l f.1 p q).2.2.2=0:=by
 obtain⟨hs3,hpp,_⟩:=id hE;obtain⟨r,⟨h,hfc,hr,hr1⟩,ho,R,hX⟩:=N8 hE;obtain⟨L,cut⟩:=R.less O (l:=l) (id:=f.1);obtain⟨h',V⟩:=R.aY2 O (l:=l) (id:=f.1);have o:∀n,n∈(nU a6 al fs l f.1 p q).1↔(n∈a6/\pU (ob p al []) n=IN)\/n=(nj a6 1,q.1,q.2):=λn=>by
  show n∈nG we (a6.filter (pU (ob p al []))++[(nj a6 1,q.1,q.2)])↔_
  grind[q4,B4,aG]
 have hA:(nU a6 al fs l f.1 p q).2.1=al.filter (nB p):=rfl;have hFs:(nU a6 al fs l f.1 p q).2.2.1=fs.filter λf=>!decide (f=p):=rfl;have hL:(nU a6 al fs l f.1 p q).2.2.2=l.map (tl f.1 (nj a6 1)):=rfl;rw[hL];generalize(nU a6 al fs l f.1 p q).1=ns' at L cut h' V o⊢;generalize(nU a6 al fs l f.1 p q).2.1=ars' at L cut h' V hA⊢;generalize(nU a6 al fs l f.1 p q).2.2.1=fs' at L cut h' V hFs⊢;have C:t_ ns' ars' fs'=0:=by
  unfold t_;rw[B'.2 h'];have:=(HA h').2 V
  grind[nw]
 unfold sN at hc;have hr0:t_ a6 al fs=0:=by grind[t_]
 rw[hr0]at hc;simp only[lV,ax,ct]at hc;obtain⟨c1,hc⟩:=sy (by decide) hc;obtain⟨c2,hc⟩:=sy (by decide) hc;obtain⟨c3,hc⟩:=sy (by decide) hc;obtain⟨c4,hc⟩:=sy (by decide) hc;obtain⟨c5,hc⟩:=sy (by decide) hc;obtain⟨c6,hc⟩:=sy (by decide) hc;obtain⟨c7,hc⟩:=sy (by decide) hc;obtain⟨c8,hc⟩:=sy (by decide) hc;obtain⟨c9,_⟩:=sy (by decide) hc;have D:=(Ol c3).2;have E:∀f2∈l,f2.1=f.1->f2=f:=λf2 h2 e=>by
  obtain⟨i,a7,e1⟩:=aH h2;obtain⟨j,hj,t⟩:=aH hf;have m:(l.map (·.1)).Nodup:=(ch.2 D).imp λh=>by omega
  have:i=j:=(dL (h₀:=by simpa using a7) (h₁:=by simpa using hj) m).1 (by grind);subst this;rw[<-e1,t]
 have up1:∀f2,(tl f.1 (nj a6 1) f2).1=f2.1:=λf2=>by grind[tl]
 have G:tl f.1 (nj a6 1) f=(f.1,8,f.2.2.1,f.2.2.2.1,[nj a6 1]):=by unfold tl;simp
 have H:∀f2∈l,f2≠f->tl f.1 (nj a6 1) f2=f2:=λf2 h2 I=>by grind[tl,decide_eq_false]
 have all:∀ {P:l9->Bool},l.any P=IS->P (f.1,8,f.2.2.1,f.2.2.2.1,[nj a6 1])=IS->(l.map (tl f.1 (nj a6 1))).any P=IS:=λ{P} h1 h2=>by refine bC.2 λx c=>?_;obtain⟨y,hy,rfl⟩:=aP.1 c;by_cases e:y=f<;>grind[bC]
 have s:∀f2∈l,∀x∈f2.2.2.2.2,uu a6 al fs f2.2.1 x=IS:=λf2 h2 x c=>by grind[bC]
 have keep:∀f2∈l,f2≠f->∀x∈f2.2.2.2.2,uu ns' ars' fs' f2.2.1 x=IS:=λf2 h2 I x c=>by
  have hm:=s f2 h2 x c;unfold uu at hm⊢;by_cases s1:ow f2.2.1=1
  .rw[mw s1,dn]at hm⊢
   cases m:pq a6 x with
   |none=>rw[m]at hm;cases hm
   |some n=>
    have k:n∈a6:=bj m;have u:n.1=x:=by have:=dI m;simpa using this
    have hu:ql 1 n.1 f2=IN:=by grind[ql]
    have hkn:pU (ob p al []) n=IN:=by
     refine(Hz p al n).2 λa ha hk=>?_;have no:∀y∈eS.l2 a6 al n,(y∈r.2.1\/-y∈r.2.1)->False:=λy hy hyC=>by
      have:∃d∈r.2.1,d∈eS.l2 a6 al n:=by
       rcases hyC with z|z
       .exact⟨y,z,hy⟩
       obtain⟨n2,hn2,g1,g2,_⟩:=R.yT z;rw[dM]at g1;have:=h.Cb k hn2 hy g1;subst this;exact⟨_,h.yV R.nc z,g2⟩
      obtain⟨d,hd,hdn⟩:=this;obtain⟨n3,t1,_,t2,_⟩:=hX.EH d hd;rw[Vy h k hdn]at t1;cases t1;have:f2∈l.filter (ql 1 n.1):=aD.2 ⟨h2,hu⟩;rw[t2]at this;simp at this
     have J:=(R.CZ ha).1 hk;refine⟨λe=>no a.1 ((h.su k).2 ⟨a,ha,.inl ⟨e,rfl⟩⟩) J,λe=>no (-a.1) ((h.su k).2 ⟨a,ha,.inr ⟨e,rfl⟩⟩) ?_⟩;rw[dM];exact J.symm
    have:=L.It ((o n).2 (.inl ⟨k,hkn⟩));rw[u]at this;rw[this];rfl
  rw[mN s1,ct]at hm⊢;by_cases s2:ow f2.2.1=2
  .rw[mw s2,dn]at hm⊢
   cases v:qC al x with
   |none=>rw[v]at hm;cases hm
   |some a=>
    have K:a∈al:=bj v;have hax:a.1=x:=by have:=dI v;simpa using this
    have hpos:=h.p7 K;have hk:nB p a=IN:=by
     cases hk:nB p a with
     |true=>rfl
     |false=>
      exfalso;have no:∀d∈r.2.1,lN d=x->False:=λd hd e=>by
       obtain⟨_,_,_,_,t3⟩:=hX.EH d hd;have hu:ql 2 (lN d) f2=IN:=by grind[ql]
       have:f2∈l.filter (ql 2 (lN d)):=aD.2 ⟨h2,hu⟩;rw[t3]at this;simp at this
      rcases(R.CZ K).1 hk with z|z<;>grind[lN]
    have:=L.QQ (show a∈ars' by grind);rw[hax]at this;rw[this];rfl
  rw[mN s2,ct]at hm⊢;by_cases s3:ow f2.2.1=3
  .rw[mw s3,dn]at hm⊢
   have hxf:x∈fs:=by simpa using hm
   have hxp:x≠p:=λe=>by have hu:f2.1∈(l.filter (ql 3 p)).map (·.1):=aC (aD.2 ⟨h2,by grind[ql]⟩);rw[hX.bi1,aG]at hu;exact I (E f2 h2 hu)
   grind[decide_eq_true]
  grind[decide_eq_false]
 unfold sN;rw[C,aF];simp only[lV,ax,ct];refine xJ c1 (xJ (all c2 rfl) (xJ ?_ (xJ (all c4 ?_) (xJ (all c5 ?_) (xJ (all c6 ?_) (xJ (all c7 ?_) (xJ ?_ (xJ ?_ rfl))))))))
 .refine VN up1 (λf2 _ hs=>?_) c3
  unfold tl;cases IT (f2.1=f.1)with
  |false=>exact hs
  |true=>rfl
 .have:=bC.1 c4 f hf
  simpa[mn]using this
 .unfold pN
  rw[JZ];rfl
 .have:=bC.1 c6 f hf
  simpa[sf]using this
 .unfold xd
  rw[JZ];rfl
 .refine bC.2 λx c=>?_
  obtain⟨y,hy,rfl⟩:=aP.1 c;rw[dS];refine bC.2 λz hz=>?_;by_cases e:y=f
  .subst e
   rw[G]at hz⊢;simp only[aG]at hz;subst hz;have:=L.It ((o _).2 (.inr rfl))
   grind[uu,JZ,decide_true,pq,nj]
  grind
 rw[Mp]at c9⊢;refine⟨λ_ _=>rfl,?_⟩;obtain⟨pre,post,e⟩:=List.append_of_mem hf;have m:(l.map (·.1)).Nodup:=(ch.2 D).imp λh=>by omega
 rw[e,cL,ay,bQ,cF]at m;have M:∀x∈pre,x≠f:=λx c t=>m.2.2 x.1 (aC c) f.1 (by simp) (by rw[t]);have w:∀x∈post,x≠f:=λx c t=>m.2.1.1 (by grind[aC]);have B:∀x,(x∈pre\/x∈post)->x∈l:=λx c=>by grind
 have e1:l.map (tl f.1 (nj a6 1))=pre++(f.1,8,f.2.2.1,f.2.2.2.1,[nj a6 1])::post:=by
  rw[e,cL,ay,G];congr 1
  .exact(bp λx c=>H x (B x (.inl c)) (M x c)).trans (k_ _)
  congr 1;exact(bp λx c=>H x (B x (.inr c)) (w x c)).trans (k_ _)
 have hk8:w0 (f.1,8,f.2.2.1,f.2.2.2.1,[nj a6 1])=[(0,nj a6 1)]:=by unfold w0;rw[JZ];rfl
 have N:∀x,(x∈pre\/x∈post)->(0,nj a6 1)∉w0 x:=λx c hk=>by
  have hxl:=B x c;unfold w0 at hk;split at hk
  .simp at hk
  rename_i s2;obtain⟨z,hz,t⟩:=aP.1 hk;simp only[cq]at t;obtain⟨e3,rfl⟩:=t;have hm:=s x hxl _ hz;unfold uu at hm;by_cases s3:ow x.2.1=3
  .grind[decide_eq_true,aY1]
  rw[mN s2,mN s3]at hm;by_cases s1:ow x.2.1=1
  .rw[mw s1,dn]at hm
   cases m:pq a6 (nj a6 1)with
   |none=>rw[m]at hm;cases hm
   |some n=>
    have k:n∈a6:=bj m;have u:n.1=nj a6 1:=by have:=dI m;simpa using this
    exact MO (l:=a6) (pre:=[]) (pA h.wK) (by simp) (by rw[bq,<-u];exact aC k)
  grind[decide_eq_false]
 have Q:=c9.2;rw[e,gk,dF,bQ]at Q;obtain⟨d1,d2,d3⟩:=Q;rw[e1,gk,dF,hk8,bQ];refine⟨d1,?_,λa ha b S t=>?_⟩
 .rw[iU,cF]
  refine⟨λhm=>?_,(bQ.1 d2).2.1⟩;obtain⟨x,c,hk⟩:=cY.1 hm;exact N x (.inr c) hk
 subst t;rcases aO.1 S with S|S
 .rw[aG]at S
  subst S;obtain⟨x,c,hk⟩:=cY.1 ha;exact N x (.inl c) hk
 grind[cC]
end
end Dp
end Go.Ab
namespace Go.Pg
open Classical
namespace Net
variable {ι:Type} {N:Net ι} (hP:N.PY)
include hP
theorem af5{d:ι->Int}(i:N.qO d){s:ι}(hs:s∈N.E){x y:Int}
  (on:(N.up s/\(N.b5 s).2<=y/\y<=(N.a7 s).2/\N.X s y=N.M*x)\/(¬N.up s/\(N.b5 s).2=y/\(N.b5 s).1<=x/\x<=(N.a7 s).1))
  (a:∀t∈N.E,d t≠0->N.up t->(N.b5 t).2<=y->y<=(N.a7 t).2->N.X t y≠N.M*x)
  (f:∀t∈N.E,d t≠0->¬N.up t->(N.b5 t).2=y->(N.b5 t).1<=x->x<=(N.a7 t).1->False):N.L d (s,IN)=N.rW d y (N.M*x):=by
 have j:=N.line i y (N.M*x);have l:N.sZ d y (N.M*x)=0:=sq λe he=>by
  by_cases z:d e=0
  .rw[z];split<;>rfl
  rw[b8];rintro ⟨c1,c2,k,m⟩;exact f e he z c1 c2 (dm (dA k (dm N.oC))) (bV m N.oC)
 rcases on with⟨hu,h1,h2,v⟩|⟨hu,h1,h2,n⟩
 .rcases eE y (N.a7 s).2 with q|q
  .have hc:N.lA s y:=⟨h1,q⟩
   rw[my.yz hP d i hs hc];unfold W rW;refine mu λe he=>?_;by_cases z:d e=0
   .rw[z];split<;>split<;>rfl
   by_cases c:N.lA e y
   .have b:=a e he z (qk hP c) c.1 (by have:=c.2;omega)
    have hl:=HP hP he hs c hc;by_cases c2:N.X e y<N.M*x
    .rw[b9 ⟨c,hl.2 (.inl (by omega))⟩,b9 ⟨c,c2⟩]
    rw[b8 (λh=>by have:=hl.1 h.2;omega),b8 (λh=>c2 h.2)]
   rw[b8 (λh=>c h.1),b8 (λh=>c h.1)]
  have w:y=(N.a7 s).2:=by omega
  have hc:N.lA s (y-1):=⟨by unfold up at hu;omega,by omega⟩;have o:y-1+1=y:=by omega
  have B:N.L d (s,IN)=N.below d y (N.M*x):=by
   rw[my.yz hP d i hs hc];unfold W below;refine mu λe he=>?_;by_cases z:d e=0
   .rw[z];split<;>split<;>rfl
   by_cases c:N.lA e (y-1)
   .have b:=a e he z (qk hP c) (by have:=c.1;omega) (by have:=c.2;omega)
    have hl:=UI hP he hs c hc;rw[o]at hl⊢;by_cases c2:N.X e y<N.M*x
    .rw[b9 ⟨c,hl.2 (.inl (by omega))⟩,b9 ⟨c,c2⟩]
    rw[b8 (λh=>by have:=hl.1 h.2;omega),b8 (λh=>c2 h.2)]
   rw[b8 (λh=>c h.1),b8 (λh=>c h.1)]
  omega
 have p:N.L d (s,IN)=N.rW d (N.b5 s).2 (N.M*(N.a7 s).1):=by simp only[L,hu,j2,dn]
 obtain⟨C,D⟩:=wT hs hu;rw[p,h1];unfold rW;have G:N.M*x<=N.M*(N.a7 s).1:=bd n (dm N.oC);have r:N.M*(N.b5 s).1<=N.M*x:=bd h2 (dm N.oC);refine mu λe he=>?_;by_cases z:d e=0
 .rw[z];split<;>split<;>rfl
 by_cases c:N.lA e y
 .have b:=a e he z (qk hP c) c.1 (by have:=c.2;omega)
  by_cases c2:N.X e y<N.M*x
  .rw[b9 ⟨c,by omega⟩,b9 ⟨c,c2⟩]
  by_cases k:N.X e y<N.M*(N.a7 s).1
  .exfalso
   have:=hP.flat e he s hs (qk hP c) hu (by rw[h1];exact c.1) (by rw[h1];have:=c.2;omega) (by rw[h1];omega) (by rw[h1];omega);rw[h1]at this;rcases this.2 with g|g
   .rw[g]at c2
    have:=bV (show N.M*x<=N.M*(N.b5 s).1 by omega) N.oC;have u:x=(N.b5 s).1:=by omega
    exact b (by rw[g,u])
   omega
  rw[b8 (λh=>k h.2),b8 (λh=>c2 h.2)]
 rw[b8 (λh=>c h.1),b8 (λh=>c h.1)]
end Net
end Go.Pg
namespace Go.Ab
open Go Go.Pg
open Classical
namespace pk
variable {ι:Type} (F:pk ι) (cu:F.Ok)
include cu
theorem aL2(e:ι)(q:b6):l_ (F.b5 e) (F.a7 e) q=l_ (F.src e) (F.dst e) q:=by
 unfold b5 a7;cases F.fwd e
 .exact WC F cu _ _ _
 rfl
theorem NP{e:ι}(he:e∈F.E){q:b6}(k:fc q=IN):l_ (F.src e) (F.dst e) q=IN↔((F.dC cu).up e/\(F.b5 e).2<=q.2/\q.2<=(F.a7 e).2/\(F.dC cu).X e q.2=(F.dC cu).M*q.1)\/(¬(F.dC cu).up e/\(F.b5 e).2=q.2/\(F.b5 e).1<=q.1/\q.1<=(F.a7 e).1):=by
 have o:=w7 cu he;have h:=ph cu he;rw[<-F.aL2 cu e q];have c:l_ (F.b5 e) (F.a7 e) q=IN↔kj (F.b5 e) (F.a7 e) q=0/\min (F.b5 e).1 (F.a7 e).1<=q.1/\q.1<=max (F.b5 e).1 (F.a7 e).1/\min (F.b5 e).2 (F.a7 e).2<=q.2/\q.2<=max (F.b5 e).2 (F.a7 e).2:=by unfold l_ sU;simp only[h.1,h.2,k,Bool.and_self,dX,ab,gb]
 rw[c];have d:(F.dC cu).up e↔(F.b5 e).2<(F.a7 e).2:=Iff.rfl;rw[d];rcases eE (F.b5 e).2 (F.a7 e).2 with hu|hu
 .have hs:=vn (p:=q) (F.dC cu).oC hu ((F.dC cu).x' e he hu)
  have f:(F.dC cu).X e q.2=ou (F.dC cu).M ((F.dC cu).s e) (F.b5 e) q.2:=rfl;constructor
  .rintro ⟨h1,h2,a,l,m⟩
   refine .inl ⟨hu,by omega,by omega,?_⟩;have s1:=λz=>hs.1.2 z;have s2:=λz=>hs.2.2 z;rw[f];rcases Int.lt_trichotomy (ou (F.dC cu).M ((F.dC cu).s e) (F.b5 e) q.2) ((F.dC cu).M*q.1)with z|z|z
   .have:=s2 z;omega
   .exact z
   have:=s1 z;omega
  rintro (⟨_,h1,h2,a⟩|⟨i,_⟩)
  .rw[f]at a
   have z:kj (F.b5 e) (F.a7 e) q=0:=by
    have s1:¬ 0<kj (F.b5 e) (F.a7 e) q:=λz=>by have:=hs.1.1 z;omega
    have s2:¬kj (F.b5 e) (F.a7 e) q<0:=λz=>by have:=hs.2.1 z;omega
    omega
   have b:=F.D9 cu he hu h1 h2;have j:=F.zw F.E;rw[f]at b;have g:ou (F.dC cu).M ((F.dC cu).s e) (F.b5 e) q.2=F.prod F.E*q.1:=a;rw[g]at b;have n:=bV b.1 j;have r:=bV b.2 j;exact⟨z,n,r,by omega,by omega⟩
  exact(i hu).elim
 have t:(F.b5 e).2=(F.a7 e).2/\(F.b5 e).1<(F.a7 e).1:=by omega
 constructor
 .rintro ⟨h1,h2,a,l,m⟩
  exact .inr ⟨by omega,by omega,by omega,by omega⟩
 rintro (⟨i,_⟩|⟨_,h1,h2,a⟩)
 .omega
 refine⟨?_,by omega,by omega,by omega,by omega⟩;unfold kj;rw[<-t.1,h1];simp
end pk
namespace eS
variable {a6:List ef} {al:List dk} {fs:List Int} (h:eS a6 al fs)
variable {r:List fy} (hr:mE a6 al al=U r)
include h
theorem aX5{q:b6}(g:fc q=IN){s:fy}(hs:s∈r)(on:l_ (hT s) (hF s) q=IN){m:List (Int×List b6)}(hm:∀a∈al,ff fx a.1 m=pathOf a6 al a.1){c:List Int}(hc:c∈lT a6 al)(hoff:∀d∈c,tL q ((ff fx (lN d) m).getD [])=IS) :
  ((fh r).dC (h.fm hr)).L ((h.j0 hr).lF c) (s,IN)=(h.j0 hr).oM c (λt=>((fh r).dC (h.fm hr)).lA t q.2/\((fh r).dC (h.fm hr)).X t q.2<((fh r).dC (h.fm hr)).M*q.1):=by
 have cu:=h.fm hr;have l:=(fh r).tM cu;have off:∀t∈r,(h.j0 hr).lF c t≠0->l_ (hT t) (hF t) q=IS:=λt f hz=>by have:∃b,(h.j0 hr).c (t,b)=c:=dO λi=>hz ((h.j0 hr).xI λb j=>i ⟨b,j⟩);obtain⟨b,j⟩:=this;exact h.G8 hr q hm hc hoff (k:=(t,b)) f j
 have h1:=Net.af5 l ((h.j0 hr).sw c) (s:=s) hs (x:=q.1) (y:=q.2) (((fh r).NP cu hs g).1 on)
  (λt f hz hu g1 g2 g3=>by
   have:=((fh r).NP cu f g).2 (.inl ⟨hu,g1,g2,g3⟩);have e:=off t f hz;rw[show l_ (hT t) (hF t) q=IN from this]at e;cases e)
  (λt f hz hu g1 g2 g3=>by
   have:=((fh r).NP cu f g).2 (.inr ⟨hu,g1,g2,g3⟩);have e:=off t f hz;rw[show l_ (hT t) (hF t) q=IN from this]at e;cases e)
 rw[h1];unfold Net.rW Net.my.oM;refine mu λt _=>?_;by_cases z:((fh r).dC (h.fm hr)).lA t q.2/\((fh r).dC (h.fm hr)).X t q.2<((fh r).dC (h.fm hr)).M*q.1
 .rw[b9 z,b9 z]
 rw[b8 z,b8 z]
end eS
open Go.Proofs Go.Shelf Go.Sort
def XH{α:Type}(f:α->Int):∀ {l:List α},l≠[]->∃u∈l,∀t∈l,f t<=f u
 | [],h=>(h rfl).elim
 | [a],_=>⟨a,by simp,λt c=>by grind[aG]⟩
 |a::b::l,_=>by
  obtain⟨u,hu,hm⟩:=XH f (l:=b::l) (by simp)
  grind[eE,bB]
namespace Dp
namespace Ring
variable {a6:List ef} {al:List dk} {fs:List Int} {C:List Int} {p g0:Int} (R:Ring a6 al fs C p g0) {r:List fy} (hr:mE a6 al al=U r)
include R
theorem part{a k:Net.lS fy}(ha:k5 a∈C\/-k5 a∈C)(hk:a.1∈r)(hc:(R.h.j0 hr).lI a k):(k5 k∈C\/-k5 k∈C):=by
 have lC:∀y,(y∈C\/-y∈C)->(eS.mC a6 al y∈C\/-eS.mC a6 al y∈C):=λy f=>by
  rcases f with f|f
  .exact .inl (R.h.yV R.nc f)
  right;obtain⟨e,he,n⟩:=R.h.G9 R.nc f;obtain⟨_,_,_,_,l,_⟩:=R.yT he
  grind
 induction hc with
 |refl=>exact ha
 | @lC d hm _ g=>
  have b:d.1∈r:=hm;have m:=R.h.Bl hr b;have i:=(R.h.uw hr b).1;show k5 (oe a6 al d)∈C\/-k5 (oe a6 al d)∈C;rcases m.2.2.2 with e|e
  .rw[e];exact g
  rw[e,R.h.ue (R.h.qK i)];exact lC _ g
 | @BL d hm _ g=>
  have b:d.1∈r:=hm;have m:=R.h.Bl hr b;have i:=(R.h.uw hr b).1;have c:k5 (oe a6 al d)∈C\/-k5 (oe a6 al d)∈C:=g;rcases m.2.2.2 with e|e
  .rw[e]at c;exact c
  rw[e,R.h.ue (R.h.qK i)]at c;rcases c with z|z
  .obtain⟨o,j,n⟩:=R.h.G9 R.nc z
   have:=R.h.CV (R.wR j) i n;exact .inl (this▸j)
  obtain⟨_,_,_,_,l,_⟩:=R.yT z;rw[dM]at l;have:=R.h.CV (R.h.Fq (R.wR (R.h.yV R.nc z))) i l
  grind
 | @rev d _ g=>grind[eS.LI]
def DO(R:Ring a6 al fs C p g0)(hr:mE a6 al al=U r)(E:List Int):Prop:=E∈nS a6 al/\∃d0∈C,∃a∈E,¬(R.h.j0 hr).lI (lY a6 al d0) (lY a6 al a)/\((fh r).dC (R.h.fm hr)).L ((R.h.j0 hr).lF C) (lY a6 al a)=1
theorem TB{E:List Int}(e:E∈nS a6 al)(b:E≠C){d0 f:Int}(c:d0∈C)(he:f∈E):¬(R.h.j0 hr).lI (lY a6 al d0) (lY a6 al f):=λhc=>by have h:=R.h;have d:=pn.1 e;have:=R.part hr (a:=lY a6 al d0) (by rw[h.ue (R.wR c)];exact .inl c) (h.AX (R.wR c) hr) hc;rw[h.ue (h.o_ d.1 he)]at this;have h2:=R.Uj e b he;exact this.elim h2.1 h2.2
theorem Sc{q:b6}(t:fc q=IN)(v:pd (j9 a6 al) C q=IN){E:List Int}(m:E∈nS a6 al)(e:E≠C)(w:pd (j9 a6 al) E q=IN)(hle:mK a6 al E<=mK a6 al C):R.DO hr E:=by
 have h:=R.h;have u:=(fh r).tM (h.fm hr);have hm:=Ao h;have a:=pn.1 R.out;have b:=pn.1 m;obtain⟨d0,pJ⟩:=R.ne;obtain⟨x,c⟩:=h.vF b.1;have f:=h.outer hr a.1 a.2 pJ;have o:=h.outer hr b.1 b.2 c;have g:=R.TB hr m e pJ c;refine⟨m,d0,pJ,x,c,g,?_⟩;have B:=(fh r).Kq (h.fm hr) q.1 q.2;have s1:=h.Cz hr t hm a.1 a.2 v;have s2:=h.Cz hr t hm b.1 b.2 w;obtain⟨l,hl,i⟩:=br.1 (h.o_ b.1 c);obtain⟨n,j,rfl⟩:=aP.1 hl;have hoff:=h.TZ hr j i hm a.1 λd D hc=>R.TB hr m e D c hc;have s:=h.Is hr j i λk hk hs=>(h.j0 hr).xI (h.Fw hr hm a.1 hoff k hk hs);rcases(h.j0 hr).FA u f ((fh r).Kq (h.fm hr) n.2.1 n.2.2)with z|z
 .exfalso
  rw[z]at s;have:=(h.j0 hr).inside u f o g s B s1 s2;rw[h.zD hr a.1,h.zD hr b.1]at this;omega
 rw[s];exact z
theorem QY{d0:Int}(pJ:d0∈C){k:Net.lS fy}(hk:k.1∈r)(x:¬(R.h.j0 hr).lI (lY a6 al d0) k)(hL:((fh r).dC (R.h.fm hr)).L ((R.h.j0 hr).lF C) k=1) :
  ∃E,R.DO hr E/\∀e∈E,¬(R.h.j0 hr).lI (lY a6 al e) k/\((fh r).dC (R.h.fm hr)).L ((R.h.j0 hr).lF E) k=1:=by
 have h:=R.h;have hP:=(fh r).tM (h.fm hr);have hm:=Ao h;have g:=pn.1 R.out;have z:=h.outer hr g.1 g.2 pJ;obtain⟨h0,B,s,G⟩:=(h.j0 hr).Um hP hk;have hx:=(h.uw hr s).1;obtain⟨o,t⟩:=h.yY hx;generalize hDe:sF a6 al (k5 h0)=D at o t;have H:(h.j0 hr).c h0=D:=hDe;have I:∀a,(h.j0 hr).c a=D->a.1∈((fh r).dC (h.fm hr)).E->(h.j0 hr).lI k a:=λa j e2=>by have c1:=h.R' hr o t a j e2;have c2:=(h.AD hr s).1;exact Net.my.nn _ B (Net.my.nn _ (Net.my.r7 _ c2) c1)
 have J:D∈sW a6 al:=vB.2 ⟨o,λK=>by
  have hO:=h.outer hr o K t;have j:=hO.own h0 (h.AD hr s).1;have e2:=G D I h0 B;rw[H,Sb rfl]at j e2;omega⟩
 obtain⟨d1,va,n,u,e,b,w,f,M⟩:=h.Rx hr hm o;have N:(h.j0 hr).lI k (lY a6 al d1):=I _ (by
  show sF a6 al (k5 (lY a6 al d1))=D;rw[h.ue (h.o_ o va)];exact h.yX o va) (h.AX (h.o_ o va) hr)
 have i:(h.j0 hr).lI k (lY a6 al e):=Net.my.nn _ N (Net.my.r7 _ M);have hoff:=h.TZ hr u b hm g.1 λd hd hc=>by
  have c1:=z.part (lY a6 al d) (by
   show sF a6 al (k5 (lY a6 al d))=C;rw[h.ue (R.wR hd)];exact h.yX g.1 hd) (h.AX (R.wR hd) hr)
  exact x (Net.my.nn _ c1 (Net.my.nn _ hc (Net.my.r7 _ i)))
 have O:∀a,(h.j0 hr).lI k a->a.1∈r->(h.j0 hr).c a≠C:=λa c1 c2 j=>x (Net.my.nn _ (z.part a j c2) (Net.my.r7 _ c1));have hLe:((fh r).dC (h.fm hr)).L ((h.j0 hr).lF C) (lY a6 al e)=1:=by have v:=(h.j0 hr).wy hP C i hk;rw[qo (O k (.refl _) hk),qo (O _ i (h.tx hr u b).1)]at v;omega
 have hwC:=hLe;rw[h.Is hr u b λk hk hs=>(h.j0 hr).xI (h.Fw hr hm g.1 hoff k hk hs)]at hwC;have hnr:fc (n.2.1,n.2.2)=IN:=by rw[<-w];exact f
 have m:pd (j9 a6 al) C (n.2.1,n.2.2)=IN:=(h.Rj hr hnr hm g.1 hoff).2 (by grind[fh]);rw[<-w]at m;rcases xR a6 al (oo (j9 a6 al) D)with⟨_,cu⟩|⟨_,E,_,_,cu⟩
 .have:=cu C R.out
  rw[m]at this;cases this
 have hne:E≠C:=λj=>R.hole D J (j▸cu);obtain⟨hE,P,Q⟩:=cu;have l:=pn.1 hE;refine⟨E,R.Sc hr f m hE hne P (Q C R.out m),λj he1=>?_⟩;have S:=h.outer hr l.1 l.2 he1;have hoE:∀d∈E,tL (n.2.1,n.2.2) ((ff fx (lN d) (j9 a6 al)).getD [])=IS:=by grind[EY]
 have zE:=h.Fw hr hm l.1 hoE;have hwE:((fh r).dC (h.fm hr)).L ((h.j0 hr).lF E) (lY a6 al e)=1:=by rw[h.Is hr u b λk hk hs=>(h.j0 hr).xI (zE k hk hs)];have:=h.Cz hr f hm l.1 l.2 P;rw[w]at this;exact this
 have hnE:¬(h.j0 hr).lI (lY a6 al j) (lY a6 al e):=λhc=>by
  have:=S.own _ hc;rw[hwE]at this;have hl2:(h.j0 hr).c (lY a6 al e)=E:=by
   by_cases q:(h.j0 hr).c (lY a6 al e)=E
   .exact q
   rw[qo q]at this;cases this
  exact zE _ (h.tx hr u b).1 (h.tx hr u b).2.1 (lY a6 al e).2 hl2
 have V:¬(h.j0 hr).lI (lY a6 al j) k:=λhc=>hnE (Net.my.nn _ hc i);refine⟨V,?_⟩;have noE:∀a,(h.j0 hr).lI k a->a.1∈r->(h.j0 hr).c a≠E:=λa c1 c2 j=>V (Net.my.nn _ (S.part a j c2) (Net.my.r7 _ c1));have v:=(h.j0 hr).wy hP E i hk;rw[qo (noE k (.refl _) hk),qo (noE _ i (h.tx hr u b).1)]at v;omega
theorem Tx(E:List Int):¬R.DO hr E:=λK=>by
 have h:=R.h;have i:=(fh r).tM (h.fm hr);have H:(nS a6 al).filter (λE=>IT (R.DO hr E))≠[]:=λe=>by have:E∈(nS a6 al).filter (λE=>IT (R.DO hr E)):=aD.2 ⟨K.1,mw K⟩;rw[e]at this;simp at this
 obtain⟨m,G,s⟩:=XH (mK a6 al) H;obtain⟨_,G⟩:=aD.1 G;rw[gb]at G;obtain⟨I,d0,pJ,O,t,J,P⟩:=G;have b:=pn.1 I;obtain⟨Q,o,hw⟩:=R.QY hr pJ (h.AX (h.o_ b.1 t) hr) J P;have hle:=s Q (aD.2 ⟨o.1,mw o⟩);have d:=pn.1 o.1;obtain⟨v,w⟩:=h.vF d.1;obtain⟨V,w2⟩:=hw v w;have f:=h.outer hr b.1 b.2 t;have l:=h.outer hr d.1 d.2 w;have g:¬(h.j0 hr).lI (lY a6 al O) (lY a6 al v):=λc=>V (Net.my.r7 _ c);have z:((fh r).dC (h.fm hr)).L ((h.j0 hr).lF m) (lY a6 al v)=0:=by
  rcases(h.j0 hr).TA i f.mem l.mem f.part l.part g with q|q
  .exact q
  omega
 have x:0<Net.ss (h.j0 hr) m:=by rw[h.zD hr b.1];exact b.2
 obtain⟨k,S,M,hs⟩:∃(k:Int) (S:fy->Prop),Net.my.vp ((fh r).dC (h.fm hr)) k S/\(h.j0 hr).oM m S=1:=by
  refine dO λhno=>?_;have B:∀e∈((fh r).dC (h.fm hr)).E,((fh r).dC (h.fm hr)).up e->((fh r).dC (h.fm hr)).L ((h.j0 hr).lF m) (e,IS)=0:=λe he hu=>by
   have hc:((fh r).dC (h.fm hr)).lA e (((fh r).dC (h.fm hr)).b5 e).2:=⟨bJ _,hu⟩;have hW:=Net.my.Pt (N:=(fh r).dC (h.fm hr)) (((fh r).dC (h.fm hr)).b5 e).2 (((fh r).dC (h.fm hr)).key (((fh r).dC (h.fm hr)).b5 e).2 e);rw[(h.j0 hr).BT i he hc m];rcases(h.j0 hr).FA i f hW with q|q
   .exact q
   grind
  obtain⟨a,n,_,hs⟩:=Net.Lj i;have v:=hs (h.j0 hr) m;have e2:eu (List.range n) (λj:Nat=>q0 (((fh r).dC (h.fm hr)).key (a+j)) (λu=>((fh r).dC (h.fm hr)).L ((h.j0 hr).lF m) (u,IS)) (Net.yb i (a+j)))=0:=sq λj _=>by rw[<-MA (((fh r).dC (h.fm hr)).key (a+j)) (Net.yb i (a+j))];refine Tb λu hu=>?_;have hm:=(Net.Kj i).1 hu;exact B u hm.1 (Net.qk i hm.2)
  rw[e2]at v;have:=Int.mul_pos ((fh r).dC (h.fm hr)).oC x;omega
 have D:=(h.j0 hr).bl1 i f l g z M hs;rw[w2]at D;have:=(h.j0 hr).inside i f l g z M hs D;rw[h.zD hr b.1,h.zD hr d.1]at this;omega
theorem aB6{d0:Int}(pJ:d0∈C){k:Net.lS fy}(hk:¬(k5 k∈C\/-k5 k∈C)):¬(R.h.j0 hr).lI (lY a6 al d0) k:=λhc=>hk (R.part hr (a:=lY a6 al d0) (by rw[R.h.ue (R.wR pJ)];exact .inl pJ) (R.h.AX (R.wR pJ) hr) hc)
omit hr in
theorem aD1{q:b6}(hp:mQ q=IN)(m:pd (j9 a6 al) C q=IN):DY a6 al q:=by
 have h:=R.h;obtain⟨r,hr⟩:=h.x_;have hm:=Ao h;have a:=pn.1 R.out;have d:=vl hp;obtain⟨d0,pJ⟩:=R.ne;have hoff:=((EY _ q C).1 m).1;have j:=h.Cz hr d hm a.1 a.2 m;have f:∀k:Net.lS fy,k.1∈r->¬(k5 k∈C\/-k5 k∈C)->((fh r).dC (h.fm hr)).L ((h.j0 hr).lF C) k≠1:=λk hk u x=>by obtain⟨E,B,_⟩:=R.QY hr pJ hk (R.aB6 hr pJ u) x;exact R.Tx hr E B
 have own:∀k:Net.lS fy,k.1∈r->(k5 k∈C\/-k5 k∈C)->∃b,(h.j0 hr).c (k.1,b)=C:=λk hk D=>by
  rcases D with z|z
  .exact⟨k.2,h.yX a.1 z⟩
  refine⟨!k.2,?_⟩;show sF a6 al (k5 (Net.rev k))=C;rw[eS.LI];exact h.yX a.1 z
 refine⟨hp,λn o=>?_,λK t s hs=>?_⟩
 .cases he:mz q (n.2.1,n.2.2)with
  |false=>rfl
  |true=>
   exfalso;have G:q=(n.2.1,n.2.2):=(pR _ _).1 he;subst G;by_cases v:oP al n.1=0
   .rcases xR a6 al (n.2.1,n.2.2)with⟨_,cu⟩|⟨_,E,_,_,cu⟩
    .have:=cu C R.out
     rw[m]at this;cases this
    have w:E≠C:=λe=>R.alone n o v (e▸cu);exact R.Tx hr E (R.Sc hr d m cu.1 w cu.2.1 (cu.2.2 C R.out m))
   have hl:=h.QR o;have hlen:0<(eS.l2 a6 al n).length:=by omega
   have g:=au hlen;generalize(eS.l2 a6 al n)[0]=e at g;have H:e∈eS.l3 a6 al:=br.2 ⟨_,aC o,g⟩;have l:=h.tx hr o g;have M:=h.Fw hr hm a.1 hoff _ l.1 l.2.1;by_cases i:k5 (lY a6 al e)∈C\/-k5 (lY a6 al e)∈C
   .grind
   refine f _ l.1 i ?_;rw[h.Is hr o g λk hk hs=>(h.j0 hr).xI (h.Fw hr hm a.1 hoff k hk hs)];exact j
 rw[hr]at t;cases t;cases I:l_ (hT s) (hF s) q with
 |false=>rfl
 |true=>
  exfalso;by_cases i:k5 (s,IN)∈C\/-k5 (s,IN)∈C
  .obtain⟨b,J⟩:=own (s,IN) hs i
   have:=h.G8 hr q hm a.1 hoff (k:=(s,b)) hs J
   grind[l_,hT,hF]
  refine f (s,IN) hs i ?_;rw[h.aX5 hr d hs I hm a.1 hoff];exact j
end Ring
end Dp
end Go.Ab
namespace Go.Ab
open Go Go.Sort Go.Proofs Go.Shelf
set_option maxRecDepth 10000
namespace Dp
def QX{α:Type}{b:Nat}{xs ys:List α}(a:b<=16)(h:xs.length+ys.length<=5000000000000):la b xs ys=U (xs++ys):=by
 unfold la;have:(IT ((2*(xs.length+ys.length)+1000)*b<=2^48)&&IT (xs.length+ys.length<=2^62))=IN:=by simp only[ab,gb];refine⟨?_,by omega⟩;have h1:(2*(xs.length+ys.length)+1000)*b<=(2*(xs.length+ys.length)+1000)*16:=Nat.mul_le_mul_left _ a;omega
 rw[this];rfl
def Pq(i:Nat):IT (0<=(i:Int))=IN:=by simp
abbrev nX:=Int×Int
def xj(x y:nX):Int:=tR x.1 y.1
def LO(l:List nX):Ordered xj l :=Cd (λx _=>by grind[xj,qu]) (λx _ y _ z _ a b=>by unfold xj at *;rw[qu]at *;omega) (λx _ y _ z _ a b=>by unfold xj at *;rw[qu]at *;omega)
def bp2{l:List nX}(hl:l.length<=1000000):Ga (l,2,())=U (nG xj l):=by unfold Ga;simp only[lV,dn];refine Cy (λx _ y _=>?_) (LO l) (by omega);unfold Ec;simp only[cmp_eq,cr];rfl
def xU(x:Int)(r:nX):Prop:=r.1<=x/\x<r.2
def qX(x:Int)(l:List nX):Prop:=∃r∈l,xU x r
def yD(v:List nX):Prop:=v.Pairwise (λa b=>a.2<b.1)/\∀r∈v,r.1<r.2
theorem Ch{x:Int}{a b:List nX}:qX x (a++b)↔qX x a\/qX x b:=by grind[qX,bX,cC]
theorem CI{x:Int}{r:nX}:qX x [r]↔xU x r:=by unfold qX;simp
def Tr{l:List nX}(hl:l.length<=1000000):∃v,B9 l=U v/\v.length<=l.length/\yD v/\∀x,qX x v↔qX x l:=by
 unfold B9;have hm:Fo 16 (((0:Int),(0:Int)):Int×Int) (l.length:Int)=U (bA l.length (0,0)):=by grind[Fo,lR]
 have hc:EC (bA l.length ((0:Int),(0:Int))) l=U l:=by unfold EC;simp
 simp only[hm,hc,cr,bp2 hl];have f:=q4 (LO l);have n:(nG xj l).length=l.length:=f.length_eq;have o:∀x,qX x (nG xj l)↔qX x l:=λx=>by grind[qX]
 have p:(nG xj l).Pairwise (λa b=>a.1<=b.1):=(yE (LO l)).imp λ{a b} x=>by unfold xj at x;rw[qu]at x;omega
 generalize nG xj l=s at n o p⊢;refine oa (λy:List nX×Int=>0<=y.2/\y.2<=(s.length:Int)/\(y.1.length:Int)<=y.2/\yD y.1/\(∀x,qX x y.1↔qX x (s.take y.2.toNat))/\∀r∈y.1,∃t∈s.take y.2.toNat,r.1=t.1) (λy=>((s.length:Int)-y.2).toNat) _ ?_ ⟨by simp,by simp,by simp,⟨by simp,by simp⟩,by simp,by simp⟩ (by grind);rintro rec ⟨acc,i⟩ ⟨h1,h2,H,h,I,g⟩ u;simp only at h1 h2 H h I g;obtain⟨i,rfl⟩:∃J:Nat,i=J:=⟨i.toNat,by omega⟩;have K:((i:Nat):Int).toNat=i:=by simp
 rw[K]at I g;by_cases a7:i<s.length
 .have w:aa.wrap ((acc.length:Int)-1)=(acc.length:Int)-1:=lR (by omega) (by omega)
  have z:=ae a7;have hle:∀t∈s.take i,t.1<=s[i].1:=λt m=>by grind[aH,dK,bE]
  have B:s.take (i+1)=s.take i++[s[i]]:=by rw[bR,z];rfl
  have C:(((i+1:Nat):Int)).toNat=i+1:=by simp
  simp only[lJ a7,Pq,fZ,rS,z,aj,cr,dn,w,lG a7 (by omega:s.length<2^62)];generalize s[i]=r at z hle B;cases d:IT (r.2<=r.1)with
  |true=>
   rw[gb]at d;simp only[dn];refine u _ ⟨by simp only;omega,by simp only;omega,by simp only;omega,h,λx=>?_,λq c=>?_⟩ (by simp only;omega)
   .grind[Ch,CI,xU]
   simp only[C];obtain⟨t,m,e⟩:=g q c
   grind[bX]
  |false=>
   rw[nu]at d;simp only[ct];have app:(∀q∈acc,q.2<r.1)->∃v,(a8 (la 16 acc [(r.1,r.2)]) λD=>rec (D,((i+1:Nat):Int)))=U v/\v.length<=l.length/\yD v/\∀x,qX x v↔qX x l:=λM=>by
    rw[nE (by decide) (by simp;omega),cr];refine u _ ⟨by simp only;omega,by simp only;omega,by simp;omega,⟨?_,?_⟩,λx=>?_,λq c=>?_⟩ (by simp only;omega)
    .simp only
     rw[dT];exact⟨h.1,by simp,λa ha b Q=>by grind[aG]⟩
    .simp only
     intro q c;rcases aO.1 c with c|c
     .exact h.2 q c
     grind[aG]
    .grind[Ch]
    simp only[C];rcases aO.1 c with c|c
    .obtain⟨t,m,e⟩:=g q c
     grind[bX]
    grind[aG]
   rcases List.eq_nil_or_concat acc with rfl|⟨pre,e,rfl⟩
   .grind
   rw[List.concat_eq_append]at *;have E:pre.length<(pre++[e]).length:=by simp
   have hk:(((pre++[e]).length:Nat):Int)-1=((pre.length:Nat):Int):=by simp
   have hz:IT ((0:Int)<=((pre.length:Nat):Int))=IN:=by simp
   have j:(pre++[e])[pre.length]?=U e:=by simp
   simp only[hk,hz,dn,lJ E,Pq,fZ,dX,rS,j,aj,cr,AW j];obtain⟨mb,mn⟩:=h;rw[dT]at mb;have N:=mn e (by simp);cases G:IT (r.1<=e.2)with
   |false=>grind[decide_eq_false_iff_not,aG]
   |true=>
    rw[gb]at G;have k:(pre++[e]).set pre.length (e.1,bh py e.2 [r.2])=pre++[(e.1,max e.2 r.2)]:=by grind[List.set_append_right,vJ]
    simp only[dn,k];have O:e.1<=r.1:=by grind
    refine u _ ⟨by simp only;omega,by simp only;omega,by simp at H⊢;omega,⟨?_,?_⟩,λx=>?_,λq c=>?_⟩ (by simp only;omega)
    .grind[aG]
    .grind[aG]
    .grind[Ch,CI,xU]
    simp only[C];rcases aO.1 c with c|c
    .obtain⟨t,m,P⟩:=g q (by simp[c])
     grind[bX]
    rw[aG.1 c];obtain⟨t,m,P⟩:=g e (by simp)
    grind[bX]
 grind[cB]
def yD.lt{v:List nX}(h:yD v){i j:Nat}(a:i<j)(hj:j<v.length):(v[i]'(by omega)).2<v[j].1:=bE.1 h.1 i j (by omega) hj a
def yD.le{v:List nX}(h:yD v){i j:Nat}(a:i<=j)(hj:j<v.length):(v[i]'(by omega)).1<=v[j].1:=by
 rcases dc i j with q|q
 .have:=h.lt q hj
  have:=h.2 _ (au (show i<v.length by omega));omega
 grind
def wm(a b:List nX)(q:nX):Prop:=q.1<q.2/\∀x,xU x q->qX x a/\¬qX x b
def bl8{a b:List nX}(ha:a.length<=1000000)(hb:b.length<=1000000):∃v,EL (a,b)=U v/\v.length<=2000000000000/\∀r∈v,wm a b r:=by
 unfold EL;obtain⟨pY,E,hnbl,G,H⟩:=Tr hb;obtain⟨f,I,hnal,J,K⟩:=Tr ha;simp only[E,I,cr];have wZ:∀(o:List nX) (i:Nat) (a7:i<f.length) (r:nX),(∀q∈o,wm a b q)->r.1<r.2->(∀x,xU x r->f[i].1<=x/\x<f[i].2/\∀q∈pY,¬xU x q)->∀q∈o++[r],wm a b q:=by
  intro o i a7 r h1 M h2 q d;rcases aO.1 d with d|d
  .exact h1 q d
  rw[aG.1 d];refine⟨M,λx s=>?_⟩;obtain⟨g1,g2,g3⟩:=h2 x s;refine⟨(K x).1 ⟨_,au a7,g1,g2⟩,λhn=>?_⟩;obtain⟨fa,N,O⟩:=(H x).2 hn;exact g3 fa N O
 refine oa (λy:List nX×Int×List nX=>0<=y.2.1/\y.2.1<=(f.length:Int)/\(∃q7,pY=q7++y.1/\∀q∈q7,∀j (hj:j<f.length),y.2.1.toNat<=j->q.2<=f[j].1)/\(y.2.2.length:Int)<=1000002*y.2.1/\∀q∈y.2.2,wm a b q) (λy=>((f.length:Int)-y.2.1).toNat) _ ?_ ⟨by simp,by simp,⟨[],rfl,by simp⟩,by simp,by simp⟩ (by grind);rintro rec ⟨bs,i,out⟩ ⟨h1,h2,P,h4,h5⟩ hr;simp only at h1 h2 P h4 h5;obtain⟨i,rfl⟩:∃i':Nat,i=i':=⟨i.toNat,by omega⟩;have ei:((i:Nat):Int).toNat=i:=by simp
 rw[ei]at P;by_cases a7:i<f.length
 .simp only[lJ a7,mJ,ae a7,cr,dn,lG a7 (by omega:f.length<2^62)]
  have hbsl:bs.length<=1000000:=by grind[eT,aT]
  refine oa (λy:List nX=>∃q7,pY=q7++y/\∀q∈q7,∀j (hj:j<f.length),i<=j->q.2<=f[j].1) (λy=>y.length) _ ?_ P (by grind);rintro rec2 c ⟨q7,h,Dk⟩ Q;have hcl:c.length<=1000000:=by grind[eT,aT]
  have g:yD c:=by obtain⟨n1,n2⟩:=G;rw[h]at n1 n2;exact⟨(dT.1 n1).2.1,λq d=>n2 q (cC _ d)⟩
  have next:∀(o:List nX),(o.length:Int)<=1000002*((i:Int)+1)->(∀q∈o,wm a b q)->∃v,rec (c,((i+1:Nat):Int),o)=U v/\v.length<=2000000000000/\∀r∈v,wm a b r:=by
   intro o ho C;refine hr _ ⟨by simp only;omega,by simp only;omega,⟨q7,h,λq d j hj l=>Dk q d j hj ?_⟩,by grind,C⟩ (by simp only;omega)
   grind
  have fin:∀(b5:Int) (j:Nat) (o:List nX),(o.length:Int)<=1000002*(i:Int)+1000001->(∀q∈o,wm a b q)->f[i].1<=b5->(∀q∈c.take j,q.2<=b5)->(∀q∈c.drop j,f[i].2<=q.1) ->
    ∃v,(bif IT (b5<f[i].2)then(a8 (la 16 o [(b5,f[i].2)]) λv29=>rec (c,((i+1:Nat):Int),v29))else rec (c,((i+1:Nat):Int),o))=U v/\v.length<=2000000000000/\∀r∈v,wm a b r:=by
   intro b5 j o ho C g1 g2 g3;cases t:IT (b5<f[i].2)with
   |false=>simp only[ct];exact next o (by omega) C
   |true=>
    rw[gb]at t;simp only[dn];rw[QX (by decide) (by simp;omega),cr];refine next _ (by simp;omega) (wZ o i a7 _ C t λx s=>?_)
    obtain⟨R,D⟩:=s;simp only at R D;refine⟨by omega,D,λq d m=>?_⟩;rw[h]at d;obtain⟨y1,y2⟩:=m
    grind[cJ]
  have body:(∀q∈c,f[i].1<q.2)->∀ {F:(Int×Int×List nX->Option (List nX))->Int×Int×List nX->Option (List nX)},(∀r x,F r x=(bif (IT (x.2.1<((c).length:Int)))then(
     a8 (nth c x.2.1) λv25=>
     bif (IT (v25.1<f[i].2))then(
     a8 (nth c x.2.1) λv28=>
     bif (IT (x.1<v28.1))then(
      a8 (la 16 x.2.2 [(x.1,v28.1)]) λv31=>
      a8 (nth c x.2.1) λv32=>
      r (v32.2,(aa.wrap (x.2.1+(1:Int))),v31))else(
      a8 (nth c x.2.1) λv31=>
      r (v31.2,(aa.wrap (x.2.1+(1:Int))),x.2.2)))else(
     bif (IT (x.1<f[i].2))then(
      a8 (la 16 x.2.2 [(x.1,f[i].2)]) λv29=>
      rec (c,((i+1:Nat):Int),v29))else(
      rec (c,((i+1:Nat):Int),x.2.2))))else(
     bif (IT (x.1<f[i].2))then(
     a8 (la 16 x.2.2 [(x.1,f[i].2)]) λv26=>
     rec (c,((i+1:Nat):Int),v26))else(
     rec (c,((i+1:Nat):Int),x.2.2)))))->∃v,rounds F (f[i].1,0,out)=U v/\v.length<=2000000000000/\∀r∈v,wm a b r:=by
   intro n F cu;refine oa (λy:Int×Int×List nX=>0<=y.2.1/\y.2.1<=(c.length:Int)/\(y.2.2.length:Int)<=1000002*(i:Int)+y.2.1/\(∀q∈y.2.2,wm a b q)/\f[i].1<=y.1/\∀q∈c.take y.2.1.toNat,q.2<=y.1) (λy=>((c.length:Int)-y.2.1).toNat) _ ?_ ⟨by simp,by simp,by simp only;omega,h5,bJ _,by simp⟩ (by grind);rintro rec3 ⟨b5,j,o⟩ ⟨g1,g2,g3,g4,g5,g6⟩ u;simp only at g1 g2 g3 g4 g5 g6;rw[cu];obtain⟨j,rfl⟩:∃j':Nat,j=j':=⟨j.toNat,by omega⟩;have ej:((j:Nat):Int).toNat=j:=by simp
   rw[ej]at g6;by_cases hj:j<c.length
   .have p:∀q∈c.drop j,c[j].1<=q.1:=λq d=>by obtain⟨k,hk,e⟩:=aH d;rw[eY]at hk;rw[jM]at e;rw[<-e];exact g.le (by omega) (by omega)
    have hlj:=n _ (au hj);have hlt:=g.2 _ (au hj);have htk:c.take (j+1)=c.take j++[c[j]]:=by rw[bR,ae hj];rfl
    have S:∀q∈c.take j,q.2<=c[j].2:=λq d=>by obtain⟨k,hk,e⟩:=aH d;rw[dK]at hk;rw[jN]at e;have:=g.lt (i:=k) (j:=j) (by omega) hj;rw[e]at this;omega
    simp only[lJ hj,mJ,ae hj,cr,dn,lG hj (by omega:c.length<2^62)];have e1:(((j+1:Nat):Int)).toNat=j+1:=by simp
    have w:∀q∈c.take (j+1),q.2<=c[j].2:=λq d=>by grind[aG]
    cases hs:IT (c[j].1<f[i].2)with
    |false=>rw[nu]at hs;simp only[ct];exact fin b5 j o (by omega) g4 g5 g6 λq d=>by have:=p q d;omega
    |true=>
     rw[gb]at hs;simp only[dn];cases hl:IT (b5<c[j].1)with
     |false=>simp only[ct];exact u _ ⟨by simp only;omega,by simp only;omega,by simp only;omega,g4,by simp only;omega,by simp only[e1];exact w⟩ (by simp only;omega)
     |true=>
      rw[gb]at hl;simp only[dn];rw[QX (by decide) (by simp;omega),cr];refine u _ ⟨by simp only;omega,by simp only;omega,by simp;omega,wZ o i a7 _ g4 hl λx s=>?_,by simp only;omega,by simp only[e1];exact w⟩ (by simp only;omega);obtain⟨R,D⟩:=s;simp only at R D;refine⟨by omega,by omega,λq d m=>?_⟩;rw[h]at d;obtain⟨y1,y2⟩:=m
      grind[cJ]
   have:j=c.length:=by omega
   subst this;simp only[mG,ct];exact fin b5 c.length o (by omega) g4 g5 g6 (by simp)
  cases hp:IT ((0:Int)<(c.length:Int))with
  |false=>rw[nu]at hp;simp only[ct];have:c=[]:=bu (by omega);exact body (by rw[this];simp) λr x=>rfl
  |true=>
   rw[gb]at hp;have V:0<c.length:=by omega
   have M:nth c (0:Int)=U c[0]:=by grind[nth,mJ,ae]
   simp only[dn,M,cr];cases B:IT (c[0].2<=f[i].1)with
   |true=>
    rw[gb]at B;simp only[dn];have:=TH (xs:=c) (i:=1) (by decide) (by omega);rw[this,cr];refine Q _ ⟨q7++[c[0]],?_,λq d j hj l=>?_⟩ (by simp;omega)
    .have e:c[0]::c.drop 1=c:=(List.drop_eq_getElem_cons V).symm
     grind[cx,iU]
    rcases aO.1 d with d|d
    .exact Dk q d j hj l
    rw[aG.1 d];have:=J.le l hj;omega
   |false=>
    rw[nu]at B;simp only[ct];refine body (λq d=>?_) λr x=>rfl;obtain⟨k,hk,e⟩:=aH d;rw[<-e];have:=g.le (Nat.zero_le k) hk;have:=g.2 _ (au hk);rcases jO k with z|z
    .subst z;omega
    have:=g.lt z hk;omega
 grind
end Dp
namespace Dp
noncomputable section
def Yt{a b:Int}(c:0<b)(h1:-1000000000000000000<=a)(h2:a<=1000000000000000000):∃q,xG (a,b)=U (q,0)/\b*(q-1)<a/\a<=b*q/\-1000000000000000000<=q/\q<=1000000000000000000:=by
 have f:a=b*a.tdiv b+a.tmod b:=(Int.mul_tdiv_add_tmod a b).symm;have d:(0<=a->0<=a.tmod b/\0<=a.tdiv b/\a.tdiv b<=a)/\(a<0->a.tmod b<=0/\a.tdiv b<=0/\a<=a.tdiv b):=by
  constructor
  .intro h
   rw[iq h,ir h];exact⟨kz _ (by omega),kA h (by omega),kg _ h⟩
  intro h;obtain⟨n,rfl⟩:∃n,a=-n:=⟨-a,by omega⟩;rw[lf,Int.neg_tdiv,iq (by omega),ir (by omega)];have:=kz n (show b≠0 by omega);have:=kA (show 0<=n by omega) (show 0<=b by omega);have:=kg (a:=n) b (by omega);omega
 have g:a.tmod b<b/\-b<a.tmod b:=by
  have:=jP a c;refine⟨this,?_⟩;by_cases h:0<=a
  .have:=(d.1 h).1;omega
  obtain⟨n,rfl⟩:∃n,a=-n:=⟨-a,by omega⟩;rw[lf];have:=jP n c;omega
 have i:-1000000000000000000<=a.tdiv b/\a.tdiv b<1000000000000000001/\(a.tdiv b=1000000000000000000->a.tmod b<=0):=by grind[dJ]
 unfold xG HG;simp only[cr,show ¬b=0 by omega,mD,ct,show ¬a=-9223372036854775808 by omega,lV,ax,lR (n:=a.tdiv b) (by omega) (by omega)];have em:∀k:Int,b*(k-1)=b*k-b:=λk=>by rw[cP,gh]
 by_cases hz:a.tmod b=0
 .simp only[hz,lV,ax,ct]
  grind
 simp only[hz,mD,aW,dn];by_cases j:a.tmod b<0
 .have e:(IT (a.tmod b<0)==IT (b<0))=IS:=by grind[decide_eq_true,decide_eq_false]
  rw[e,ct]
  grind
 have e:(IT (a.tmod b<0)==IT (b<0))=IN:=by grind[decide_eq_false]
 rw[e,dn,lR (by omega) (by omega)]
 grind[Int.mul_add]
def oT(y:Int)(A B:b6):Int:=((xG ((y-A.2)*(B.1-A.1),B.2-A.2)).getD (0,0)).1
def r8(y:Int)(A B:b6):List Int:=if A.2<=y/\y<B.2 then [A.1+oT y A B]else []
def tT(y:Int)(A B:b6):List nX:=if y<A.2\/B.2<y then []else if A.2=B.2 then [(min A.1 B.1,max A.1 B.1+1)]else if(B.2-A.2)*oT y A B=(y-A.2)*(B.1-A.1)then [(A.1+oT y A B,A.1+oT y A B+1)]else []
def oL(y:Int)(P a:b6):List Int:=if a.2<P.2 then r8 y a P else r8 y P a
def tj(y:Int)(P a:b6):List nX:=if a.2<P.2 then tT y a P else tT y P a
def pc{β:Type}(g:b6->b6->List β):List b6->List β
 |p::q::l=>g p q++pc g (q::l)
 |_=>[]
def MT{β:Type}(g:b6->b6->List β):∀(l:List b6) (i:Nat) (a7:i+1<l.length),pc g (l.take (i+2))=pc g (l.take (i+1))++g (l[i]'(by omega)) l[i+1]
 |p::q::l,0,_=>by simp[pc]
 |p::q::l,i+1,a7=>by
  have a:=MT g (q::l) i (by simpa using a7)
  grind[pc,cx]
def pL{β:Type}(m:List (Int×List b6))(g:b6->b6->List β)(c:List Int):List β:=c.flatMap λd=>pc g ((ff fx (lN d) m).getD [])
def br2{l:List Int}(hl:l.length<4611686018427387904):vO (l,1)=U (uG l):=by grind[vO]
def Kw{y:Int}{A B:b6}(c:sG A)(d:sG B)(g:-2097152<=y/\y<=2097152)(f:A.2<B.2):xG ((y-A.2)*(B.1-A.1),B.2-A.2)=U (oT y A B,0)/\(B.2-A.2)*(oT y A B-1)<(y-A.2)*(B.1-A.1)/\(y-A.2)*(B.1-A.1)<=(B.2-A.2)*oT y A B/\-1000000000000000000<=oT y A B/\oT y A B<=1000000000000000000/\-17592186044416<=(y-A.2)*(B.1-A.1)/\(y-A.2)*(B.1-A.1)<=17592186044416:=by
 obtain⟨h,a2,a3,a4⟩:=c;obtain⟨i,j,k,l⟩:=d;obtain⟨m1,m2⟩:=Fk (a:=y-A.2) (b:=B.1-A.1) (m:=4194304) (n:=4194304) (by omega) (by omega) (by omega) (by omega);obtain⟨q,g1,g2,g3,g4,g5⟩:=Yt (a:=(y-A.2)*(B.1-A.1)) (b:=B.2-A.2) (by omega) (by omega) (by omega);have e:oT y A B=q:=by unfold oT;rw[g1];rfl
 grind
def GG(m:List (Int×List b6))(C:List Int)(y x:Int):Prop:=¬qX x (pL m (tj y) C)/\(pL m (oL y) C).countP (λc=>IT (c<=x))%2=1/\∃c∈pL m (oL y) C,x<c
section
variable {a6:List ef} {al:List dk} {fs:List Int} (h:eS a6 al fs)
include h
theorem Pn{c:List Int}(hc:c∈eS.lT a6 al){d:Int}(g:d∈c):bh py d [aa.wrap (0-d)]=lN d/\∃path,ff (λ(a b:Int)=>IT (a=b)) (lN d) (j9 a6 al)=U path/\path.length<=66/\∀q∈path,sG q:=by
 obtain⟨lL,fa,a,f,j7⟩:=(h.xH.nc c hc).2.2 d g;have k:=h.num f;have i:lN d=max d (-d):=rfl;have hw:aa.wrap (0-d)=-d:=by grind[lR]
 refine⟨by rw[hw,vJ];rfl,?_⟩;obtain⟨p0,pl,e,j,l,cl⟩:=h.He (d:=d) ⟨a,f,j7⟩;refine⟨p0::pl,?_,by grind[aA],λq m=>?_⟩
 .have:=h.FE f
  rw[j7,e]at this;exact this
 grind
theorem Ys{C:List Int}(hC:C∈eS.lT a6 al)(tw:Int){y:Int}(hy:-2097152<=y/\y<=2097152):∃v,DV (j9 a6 al,(a6,al,fs),(tw,C,[],[]),y)=U v/\v.length<=2000000000000/\∀r∈v,r.1<r.2/\∀x,xU x r->GG (j9 a6 al) C y x:=by
 have hcl512:=(h.xH.nc C hC).2.1;unfold DV;have hce:xn (tw,C,[],[])=U (nM (tw,C,[],[])):=h.Q8 (a:=(tw,C,[],[])) (by simp);have hce2:nM ((tw,C,[],[]):l6)=[C]:=rfl;simp only[hce,hce2,cr];have E:∀(y:Int) (A B:b6),(oL y A B).length<=1/\(tj y A B).length<=1:=λy A B=>by unfold oL tj r8 tT;constructor<;>(repeat' split)<;>simp
 have G:∀ {β:Type} (g:b6->b6->List β),(∀a b,(g a b).length<=1)->∀l:List b6,(pc g l).length<=l.length:=by
  intro β g hg l
  induction l with
  |nil=>simp[pc]
  |cons p l ih=>
   cases l with
   |nil=>simp[pc]
   |cons q l=>have:=hg p q;simp only[pc,aT,aA]at ih⊢;omega
 have D:∀ {β:Type} (g:b6->b6->List β),(∀a b,(g a b).length<=1)->∀l:List Int,(∀d∈l,d∈C)->(pL (j9 a6 al) g l).length<=66*l.length:=by
  intro β g hg l
  induction l with
  |nil=>simp[pL]
  |cons d l ih=>
   intro hl;have i1:=ih λe he=>hl e (by simp[he]);obtain⟨_,path,d2,d3,_⟩:=Pn h hC (hl d (by simp));have O:ff fx (lN d) (j9 a6 al)=U path:=d2;have e:pL (j9 a6 al) g (d::l)=pc g path++pL (j9 a6 al) g l:=by unfold pL;rw[dF,O];rfl
   have:=G g hg path;rw[e,aT,aA];omega
 generalize hX:pL (j9 a6 al) (oL y) C=X;generalize ca:pL (j9 a6 al) (tj y) C=T;have hXl:X.length<=66*512:=by have:=D (oL y) (λa b=>(E y a b).1) C (λ_ h=>h);rw[hX]at this;omega
 have hTl:T.length<=66*512:=by have:=D (tj y) (λa b=>(E y a b).2) C (λ_ h=>h);rw[ca]at this;omega
 refine oa (λx:Int×List Int×List nX=>(x.1=0/\x.2.1=[]/\x.2.2=[])\/(x.1=1/\x.2.1=X/\x.2.2=T)) (λx=>(1-x.1).toNat) _ ?_ (.inl ⟨rfl,rfl,rfl⟩) (by first|omega| (simp only;omega)|decide);rintro rec ⟨i,lA,uH⟩ hI I;simp only at hI;rcases hI with⟨rfl,rfl,rfl⟩|⟨rfl,rfl,rfl⟩
 .have e0:IT ((0:Int)<(([C].length:Nat):Int))=IN:=by simp
  have u:nth [C] (0:Int)=U C:=rfl;have J:aa.wrap ((0:Int)+1)=1:=lR (by omega) (by omega);simp only[e0,u,J,dn,cr];refine oa (λx:Int×List Int×List nX=>0<=x.1/\x.1<=(C.length:Int)/\x.2.1=pL (j9 a6 al) (oL y) (C.take x.1.toNat)/\x.2.2=pL (j9 a6 al) (tj y) (C.take x.1.toNat)) (λx=>((C.length:Int)-x.1).toNat) _ ?_ ⟨by simp,by simp,by simp[pL],by simp[pL]⟩ (by first|omega| (simp only;omega));rintro rec2 ⟨j,cr2,tk2⟩ ⟨g1,g2,g3,g4⟩ hr2;simp only at g1 g2 g3 g4;obtain⟨j,rfl⟩:∃j':Nat,j=j':=⟨j.toNat,by omega⟩;have ej:((j:Nat):Int).toNat=j:=by simp
  rw[ej]at g3 g4;by_cases hj:j<C.length
  .have Q:=ae hj
   have hdm:=au hj;obtain⟨d1,path,d2,d3,d4⟩:=Pn h hC hdm;have htk:C.take (j+1)=C.take j++[C[j]]:=by rw[bR,Q];rfl
   have H:∀ {β:Type} (g:b6->b6->List β),pL (j9 a6 al) g (C.take (j+1))=pL (j9 a6 al) g (C.take j)++pc g path:=by intro β g;have O:ff fx (lN C[j]) (j9 a6 al)=U path:=d2;unfold pL;rw[htk,gk];simp[O]
   have hl1:=D (oL y) (λa b=>(E y a b).1) (C.take j) (λd hd=>jk hd);have hl2:=D (tj y) (λa b=>(E y a b).2) (C.take j) (λd hd=>jk hd);rw[dK]at hl1 hl2;generalize C[j]=d at Q hdm d1 d2 htk;simp only[lJ hj,mJ,Q,cr,dn,d1,d2,Nx,lG hj (by omega:C.length<2^62)];refine oa (λx:Int×List Int×List nX=>1<=x.1/\x.1<=(path.length:Int)+1/\x.2.1=cr2++pc (oL y) (path.take x.1.toNat)/\x.2.2=tk2++pc (tj y) (path.take x.1.toNat)) (λx=>((path.length:Int)+1-x.1).toNat) _ ?_ ⟨by simp,by simp only;omega,by cases path<;>simp[pc],by cases path<;>simp[pc]⟩ (by first|omega| (simp only;omega));rintro f ⟨q,m,o⟩ ⟨f1,f2,f3,f4⟩ K;simp only at f1 f2 f3 f4;obtain⟨q,rfl⟩:∃q':Nat,q=((q'+1:Nat):Int):=⟨(q-1).toNat,by omega⟩;have eq':(((q+1:Nat):Int)).toNat=q+1:=by simp
   rw[eq']at f3 f4;have hl3:=G (oL y) (λa b=>(E y a b).1) (path.take (q+1));have hl4:=G (tj y) (λa b=>(E y a b).2) (path.take (q+1));rw[dK]at hl3 hl4;have hc3:m.length<=34000:=by rw[f3,aT,g3];omega
   have ht3:o.length<=34000:=by rw[f4,aT,g4];omega
   cases M:IT ((((q+1:Nat):Int))<(path.length:Int))with
   |false=>
    rw[nu]at M;simp only[ct];have u:(((j+1:Nat):Int)).toNat=j+1:=by simp
    rw[iN (by omega)]at f3 f4;exact hr2 _ ⟨by simp only;omega,by simp only;omega,by simp only[u];rw[H,f3,g3],by simp only[u];rw[H,f4,g4]⟩ (by simp only;omega)
   |true=>
    rw[gb]at M;have t:q+1<path.length:=by omega
    have R:aa.wrap (((q+1:Nat):Int)-1)=(q:Int):=by rw[lR (by omega) (by omega)];omega
    simp only[dn,R,mJ,ae t,ae (show q<path.length by omega),cr,lG t (by omega:path.length<2^62)];have mb:=MT (oL y) path q t;have mn:=MT (tj y) path q t;have k1:=d4 _ (au (show q<path.length by omega));have k2:=d4 _ (au t);generalize path[q]=P at *;generalize path[q+1]=P' at *;have c1:∀z:nX,la 16 o [z]=U (o++[z]):=λz=>nE (by decide) (by simp;omega);have c2:∀z:Int,la 8 m [z]=U (m++[z]):=λz=>nE (by decide) (by simp;omega);have half:∀(A B:b6),sG A->sG B->A.2<=B.2->(bif IT (y<A.2)then f (((q+1+1:Nat):Int),m,o)else
      bif IT (B.2<y)then f (((q+1+1:Nat):Int),m,o)else
      bif IT (A.2=B.2)then(a8 (la 16 o [((bh s8 A.1 [B.1]),(aa.wrap ((bh py A.1 [B.1])+(1:Int))))]) λv45=>f (((q+1+1:Nat):Int),m,v45))else
      a8 (xG ((aa.wrap ((aa.wrap (y-A.2))*(aa.wrap (B.1-A.1)))),(aa.wrap (B.2-A.2)))) λv46=>
      bif (IT ((aa.wrap (v46.1*(aa.wrap (B.2-A.2))))=(aa.wrap ((aa.wrap (y-A.2))*(aa.wrap (B.1-A.1))))))then(
       a8 (la 16 o [((aa.wrap (A.1+v46.1)),(aa.wrap ((aa.wrap (A.1+v46.1))+(1:Int))))]) λv53=>
       bif (IT (y<B.2))then(
       a8 (la 8 m [(aa.wrap (A.1+v46.1))]) λv56=>
       f (((q+1+1:Nat):Int),v56,v53))else(
       f (((q+1+1:Nat):Int),m,v53)))else(
       bif (IT (y<B.2))then(
       a8 (la 8 m [(aa.wrap (A.1+v46.1))]) λv52=>
       f (((q+1+1:Nat):Int),v52,o))else(
       f (((q+1+1:Nat):Int),m,o))))=f (((q+1+1:Nat):Int),m++r8 y A B,o++tT y A B):=by
     intro A B hA hB hAB;obtain⟨a1,a2,a3,a4⟩:=id hA;obtain⟨b1,b2,b3,b4⟩:=id hB;have w1:aa.wrap (y-A.2)=y-A.2:=lR (by omega) (by omega);have w2:aa.wrap (B.1-A.1)=B.1-A.1:=lR (by omega) (by omega);have w3:aa.wrap (B.2-A.2)=B.2-A.2:=lR (by omega) (by omega);by_cases ni:y<A.2
     .have u:r8 y A B=[]:=by unfold r8;rw[b8 (by omega)]
      have J:tT y A B=[]:=by unfold tT;rw[b9 (.inl ni)]
      rw[u,J,mw ni,dn,cM,cM]
     rw[mN ni,ct];by_cases z2:B.2<y
     .have u:r8 y A B=[]:=by unfold r8;rw[b8 (by omega)]
      have J:tT y A B=[]:=by unfold tT;rw[b9 (.inr z2)]
      rw[u,J,mw z2,dn,cM,cM]
     rw[mN z2,ct];by_cases z3:A.2=B.2
     .have u:r8 y A B=[]:=by unfold r8;rw[b8 (by omega)]
      have J:tT y A B=[(min A.1 B.1,max A.1 B.1+1)]:=by unfold tT;rw[b8 (by omega),b9 z3]
      rw[u,J,mw z3,dn,cM,c1,cr,J',vJ,lR (by omega) (by omega)]
     have w:A.2<B.2:=by omega
     obtain⟨lL,fa,j7,lP,nA,lU,tN⟩:=Kw hA hB hy w;have u:r8 y A B=if y<B.2 then [A.1+oT y A B]else []:=by
      unfold r8;by_cases z4:y<B.2
      .rw[b9 ⟨by omega,z4⟩,b9 z4]
      rw[b8 (λh=>z4 h.2),b8 z4]
     have J:tT y A B=if(B.2-A.2)*oT y A B=(y-A.2)*(B.1-A.1)then [(A.1+oT y A B,A.1+oT y A B+1)]else []:=by unfold tT;rw[b8 (by omega),b8 z3]
     rw[u,J,mN z3,ct,w1,w2,w3,lR (n:=(y-A.2)*(B.1-A.1)) (by omega) (by omega),lL,cr];simp only;generalize(y-A.2)*(B.1-A.1)=u_ at fa j7 lU tN;have em:(B.2-A.2)*(oT y A B-1)=(B.2-A.2)*oT y A B-(B.2-A.2):=by rw[cP,gh]
     have ec:oT y A B*(B.2-A.2)=(B.2-A.2)*oT y A B:=dy _ _;rw[ec,lR (n:=(B.2-A.2)*oT y A B) (by omega) (by omega),lR (n:=A.1+oT y A B) (by omega) (by omega),lR (n:=A.1+oT y A B+1) (by omega) (by omega),c1,c2,cr,cr,cr];by_cases z4:y<B.2<;>by_cases z5:(B.2-A.2)*oT y A B=u_<;>simp only[z4,z5,lV,mD,dn,ct,jj,j2,cM]
    have n1:∀S V,S=m++oL y P P'->V=o++tj y P P'->∃v,f (((q+1+1:Nat):Int),S,V)=U v/\v.length<=2000000000000/\∀r∈v,r.1<r.2/\∀x,xU x r->GG (j9 a6 al) C y x:=by
     intro S V h1 h2;have u:(((q+1+1:Nat):Int)).toNat=q+2:=by omega
     refine K _ ⟨by simp only;omega,by simp only;omega,?_,?_⟩ (by simp only;omega)
     .simp only[u];rw[h1,f3,mb,cx]
     simp only[u];rw[h2,f4,mn,cx]
    by_cases w:P'.2<P.2
    .rw[mw w,dn]
     refine kS (λv hv=>⟨(half P' P k2 k1 (by omega)).trans hv.1,hv.2⟩) (n1 _ _ ?_ ?_)
     .unfold oL;rw[b9 w]
     unfold tj;rw[b9 w]
    rw[mN w,ct];refine kS (λv hv=>⟨(half P P' k1 k2 (by omega)).trans hv.1,hv.2⟩) (n1 _ _ ?_ ?_)
    .unfold oL;rw[b8 w]
    unfold tj;rw[b8 w]
  have:j=C.length:=by omega
  subst this;simp only[mG,ct];rw[cB]at g3 g4;exact I _ (.inr ⟨rfl,by rw[g3,hX],by rw[g4,ca]⟩) (by simp only;omega)
 have e0:IT ((1:Int)<(([C].length:Nat):Int))=IS:=by simp
 simp only[e0,ct];refine oa (λx:Int×List nX=>x=(0,uH)) (λ_=>0) _ ?_ rfl (by decide);rintro rec2 x rfl hr2;have u:IT ((0:Int)<((([]:List Int).length:Nat):Int))=IS:=by simp
 simp only[u,ct,br2 (show lA.length<4611686018427387904 by omega),cr];have hsl:=NC lA;have hsp:(uG lA).Perm lA:=by rw[Ig];exact cy _ _
 have hss:(uG lA).Pairwise (·<=·):=by rw[Ig];have:=iF (le:=λa b:Int=>IT (a<=b)) (by simp;omega) (by simp;omega) lA;exact this.imp (by simp)
 generalize uG lA=s at hsl hsp hss;refine oa (λx:Int×List nX=>1<=x.1/\x.1%2=1/\x.1<=(s.length:Int)+2/\(x.2.length:Int)<=x.1/\∀r∈x.2,∃k:Nat,k%2=1/\∃(h1:1<=k) (h2:k<s.length),r=(s[k-1],s[k])) (λx=>((s.length:Int)+2-x.1).toNat) _ ?_ ⟨by simp,by simp,by simp only;omega,by simp,by simp⟩ (by first|omega| (simp only;omega));rintro f ⟨q,op⟩ ⟨f1,f0,f2,f3,f4⟩ K;simp only at f1 f0 f2 f3 f4;obtain⟨q,rfl⟩:∃q':Nat,q=q':=⟨q.toNat,by omega⟩;cases M:IT ((q:Int)<(s.length:Int))with
 |true=>
  rw[gb]at M;have t:q<s.length:=by omega
  have R:aa.wrap ((q:Int)-1)=((q-1:Nat):Int):=by rw[lR (by omega) (by omega)];omega
  have eq2:aa.wrap ((q:Int)+2)=((q+2:Nat):Int):=by rw[lR (by omega) (by omega)];omega
  simp only[dn,R,eq2,lJ t,lJ (show q-1<s.length by omega),Pq,fZ,rS,ae t,ae (show q-1<s.length by omega),aj,cr];cases IT (s[q-1]<s[q])with
  |false=>simp only[ct];exact K _ ⟨by simp only;omega,by simp only;omega,by simp only;omega,by simp only;omega,f4⟩ (by simp only;omega)
  |true=>
   simp only[dn];rw[nE (by decide) (by simp;omega),cr];refine K _ ⟨by simp only;omega,by simp only;omega,by simp only;omega,by simp;omega,λr I=>?_⟩ (by simp only;omega);rcases aO.1 I with I|I
   .exact f4 r I
   rw[aG.1 I];exact⟨q,by omega,by omega,t,rfl⟩
 |false=>
  simp only[ct];cases IT ((op.length:Int)=0)with
  |true=>exact⟨[],rfl,by simp,by simp⟩
  |false=>
   obtain⟨v,hv,hvl,hvg⟩:=bl8 (a:=op) (b:=uH) (by omega) (by omega);simp only[ct,hv,cr];refine⟨v,rfl,hvl,λr I=>⟨(hvg r I).1,λx hx=>?_⟩⟩;obtain⟨⟨z,hz,hxz⟩,hno⟩:=(hvg r I).2 x hx;obtain⟨k,k1,k2,k3,rfl⟩:=f4 z hz;obtain⟨x1,x2⟩:=hxz;simp only at x1 x2;unfold GG;rw[hX,ca];have N:s.countP (λc=>IT (c<=x))=k:=by
    conv=>lhs;rw[<-cJ k s]
    rw[gw];have a1:(s.take k).countP (λc=>IT (c<=x))=(s.take k).length:=List.countP_eq_length.2 λc hc=>by
     obtain⟨i,a7,e⟩:=aH hc;rw[dK]at a7;rw[jN]at e;have:c<=s[k-1]:=by
      rw[<-e];rcases dc i (k-1)with q|q
      .exact bE.1 hss i (k-1) (by omega) (by omega) q
      have:i=k-1:=by omega
      subst this;exact bJ _
     simp only[gb];omega
    have a2:(s.drop k).countP (λc=>IT (c<=x))=0:=List.countP_eq_zero.2 λc hc=>by
     obtain⟨i,a7,e⟩:=aH hc;rw[eY]at a7;rw[jM]at e;have:s[k]<=c:=by
      rw[<-e];rcases jO i with q|q
      .subst q;exact bJ _
      exact bE.1 hss k (k+i) (by omega) (by omega) (by omega)
     simp only[gb];omega
    rw[a1,a2,dK];omega
   refine⟨hno,?_,s[k],hsp.mem_iff.1 (au k3),x2⟩;rw[<-hsp.countP_eq,N];exact k1
end
end
end Dp
open Classical Go.Pg
def E4(g:b6->b6->Int):List b6->Int
 | []=>0
 |p::l=>uS g p l
namespace eS
variable {a6:List ef} {al:List dk} {fs:List Int} (h:eS a6 al fs)
variable {r:List fy} (hr:mE a6 al al=U r)
include h
theorem ah2(g:b6->b6->Int){d:Int}(m:d∈l3 a6 al){p:List b6}(hp:pathOf a6 al (lN d)=U p):eu ((fh r).dC (h.fm hr)).nz (λk=>if k5 k=d then g (hT k.1) (hF k.1)else 0)=E4 g p:=by
 rw[h.OA hr];have d1:∀s,k5 (na s)=s.1.1:=λs=>by unfold k5;rw[b9 (vD s)];rfl
 have d2:∀s,k5 (m_ s)=- s.1.1:=λs=>by unfold k5;rw[b8 (by rw[uT];simp)];rfl
 have pos:∀s∈r,0<s.1.1:=λs hs=>by obtain⟨a,p,i,o⟩:=h.sj hr hs;have:=h.p7 o.nb;rw[o.eq];exact this
 obtain⟨a,ha,c⟩:=h.qZ.1 m;obtain⟨f,t,_,_,j,_⟩:=h.path ha;have u:=h.p7 ha;have l:=Hu (λs=>g (hT s) (hF s)) j (pA h.tz) (λb n e=>h.xB n ha e) hr ha;rw[Ts]at l;have q:lN d=a.1:=by unfold lN;omega
 rw[q,j]at hp;cases hp;show _=uS g _ _;rw[<-l];refine mu λs hs=>?_;have:=pos s hs;rw[d1,d2];show(if s.1.1=d then g (hT s) (hF s)else 0)+(if-s.1.1=d then g (hT s) (hF s)else 0)=_;rcases c with rfl|rfl
 .rw[b8 (show ¬-s.1.1=a.1 by omega),Int.add_zero]
 rw[b8 (show ¬s.1.1=-a.1 by omega),Int.zero_add]
 grind
theorem ag7(g:b6->b6->Int){m:List (Int×List b6)}(hm:∀a∈al,ff fx a.1 m=pathOf a6 al a.1){c:List Int}(hc:c∈lT a6 al) :
  (eu c λd=>E4 g ((ff fx (lN d) m).getD []))=eu ((fh r).dC (h.fm hr)).nz (λk=>if(h.j0 hr).c k=c then g (hT k.1) (hF k.1)else 0):=by
 have p:c.Nodup:=(cQ.1 h.sS.1.nodup).1 c hc;have mem:∀k,k∈((fh r).dC (h.fm hr)).nz↔k.1∈r:=λk=>Net.Bh;have q:(eu c λd=>E4 g ((ff fx (lN d) m).getD []))=eu c (λd=>eu ((fh r).dC (h.fm hr)).nz (λk=>if k5 k=d then g (hT k.1) (hF k.1)else 0)):=by
  refine mu λd s=>?_;have i:=h.o_ hc s;obtain⟨a,ha,e⟩:=h.qZ.1 i;have v:=h.p7 ha;have n:lN d=a.1:=by unfold lN;omega
  obtain⟨f,t,_,_,o,_⟩:=h.path ha;rw[n,hm a ha,o];exact(h.ah2 hr g i (by rw[n];exact o)).symm
 rw[q,Ff];refine mu λk hk=>?_;rw[H7 _ _ p];have l:=(h.uw hr ((mem k).1 hk)).1;by_cases j:k5 k∈c
 .have b:(h.j0 hr).c k=c:=h.yX hc j
  rw[b9 j,b9 b]
 have b:¬(h.j0 hr).c k=c:=λe=>j (by
  have u:sF a6 al (k5 k)=c:=e;rw[<-u];exact(h.yY l).2)
 rw[b8 j,b8 b]
end eS
namespace Dp
def Tm{β:Type}(f:b6->b6->List β)(P:β->Bool):∀l:List b6,((pc f l).countP P:Int)=E4 (λa b=>(((f a b).countP P:Nat):Int)) l
 | []=>rfl
 | [p]=>rfl
 |p::q::l=>by have c:=Tm f P (q::l);have e:pc f (p::q::l)=f p q++pc f (q::l):=rfl;rw[e,gw,kB,c];rfl
def S8{β:Type}(m:List (Int×List b6))(f:b6->b6->List β)(P:β->Bool):∀C:List Int,((pL m f C).countP P:Int)=eu C (λd=>E4 (λa b=>(((f a b).countP P:Nat):Int)) ((ff fx (lN d) m).getD []))
 | []=>rfl
 |d::C=>by have c:=S8 m f P C;have e:pL m f (d::C)=pc f ((ff fx (lN d) m).getD [])++pL m f C:=rfl;rw[e,gw,kB,c,Tm];rfl
def We{β:Type}{f:b6->b6->List β}{b:β}:∀ {l:List b6},b∈pc f l->∃p∈l,∃q∈l,b∈f p q
 | [],h=>by simp[pc]at h
 | [p],h=>by simp[pc]at h
 |p::q::l,h=>by
  have e:pc f (p::q::l)=f p q++pc f (q::l):=rfl;rw[e]at h;rcases aO.1 h with h|h
  .grind
  obtain⟨a,h1,c,h2,d⟩:=We h
  grind[bB]
def VG{β:Type}{f:b6->b6->List β}{b:β}:∀ {l:List b6} {i:Nat} {p q:b6},l[i]?=U p->l[i+1]?=U q->b∈f p q->b∈pc f l
 | [],i,p,q,h1,_,_=>by simp at h1
 | [a],i,p,q,_,h2,_=>by simp at h2
 |a::c::l,0,p,q,h1,h2,d=>by
  have e:a=p:=by simpa using h1
  have g:c=q:=by simpa using h2
  subst e g;show b∈f a c++_;exact bX _ d
 |a::c::l,i+1,p,q,h1,h2,d=>by show b∈f a c++pc f (c::l);exact cC _ (VG (l:=c::l) (i:=i) (by simpa using h1) (by simpa using h2) d)
def ud(p:b6):mQ p=IN↔-1048576<=p.1/\p.1<=1048576/\-1048576<=p.2/\p.2<=1048576:=by simp[mQ,and_assoc]
def Xk{y:Int}{A B:b6}(h:mQ A=IN)(i:mQ B=IN){c:Int}(hc:c∈r8 y A B):A.2<=y/\y<B.2/\min A.1 B.1<=c/\c<=max A.1 B.1:=by
 unfold r8 at hc;by_cases z:A.2<=y/\y<B.2
 .rw[b9 z,aG]at hc
  subst hc;obtain⟨m,a2,a3,a4⟩:=(ud A).1 h;obtain⟨n,o,p,r⟩:=(ud B).1 i;obtain⟨_,fa,j7,_⟩:=Kw (y:=y) (A:=A) (B:=B) ⟨by omega,by omega,by omega,by omega⟩ ⟨by omega,by omega,by omega,by omega⟩ (by omega) (by omega);refine⟨z.1,z.2,?_⟩;generalize oT y A B=q at fa j7;have g:0<B.2-A.2:=by omega
  have d:0<=y-A.2:=by omega
  have e:y-A.2<=B.2-A.2:=by omega
  generalize B.2-A.2=b at *;generalize y-A.2=u at *;rcases Int.le_total 0 (B.1-A.1)with hw|hw
  .have j:0<=u*(B.1-A.1):=aK d hw
   have k:u*(B.1-A.1)<=b*(B.1-A.1):=dJ e hw;have g1:0<=q:=lz.1 λl=>by have:=Int.mul_neg_of_pos_of_neg g l;omega
   have g2:q-1<B.1-A.1:=dA (a:=b) (by omega) (by omega);omega
  have f:0<=A.1-B.1:=by omega
  have j:0<=u*(A.1-B.1):=aK d f;have k:u*(A.1-B.1)<=b*(A.1-B.1):=dJ e f;have s:u*(B.1-A.1)=-(u*(A.1-B.1)):=by grind[ez]
  have t:b*(B.1-A.1)=-(b*(A.1-B.1)):=by grind[ez]
  have g1:B.1-A.1<=q:=bV (a:=b) (by omega) g;have g2:q-1<0:=dA (a:=b) (by omega) (by omega);omega
 rw[b8 z]at hc;simp at hc
def YY{y:Int}{A B:b6}(a:mQ A=IN)(b:mQ B=IN){c:Int}(hc:c∈oL y A B):-1048576<=y/\y<=1048576/\-1048576<=c/\c<=1048576:=by
 obtain⟨d,a2,a3,a4⟩:=(ud A).1 a;obtain⟨e,f,g,h⟩:=(ud B).1 b;unfold oL at hc;split at hc
 .have:=Xk b a hc;omega
 have:=Xk a b hc;omega
def aL3{P a q:b6}(h:mQ P=IN)(b:mQ a=IN)(c:mQ q=IN)(on:l_ P a q=IN):qX q.1 (tj q.2 P a):=by
 have core:∀A B:b6,mQ A=IN->mQ B=IN->A.2<=B.2->kj A B q=0->(min A.1 B.1<=q.1/\q.1<=max A.1 B.1/\min A.2 B.2<=q.2/\q.2<=max A.2 B.2)->qX q.1 (tT q.2 A B):=λA B d f g hc i=>by
  unfold tT;rw[b8 (by omega)];by_cases z:A.2=B.2
  .rw[b9 z]
   exact CI.2 ⟨by simp only;omega,by simp only;omega⟩
  rw[b8 z];obtain⟨j,a2,a3,a4⟩:=(ud A).1 d;obtain⟨k,l,m,n⟩:=(ud B).1 f;obtain⟨c1,c2,o,p⟩:=(ud q).1 c;obtain⟨_,fa,j7,_⟩:=Kw (y:=q.2) (A:=A) (B:=B) ⟨by omega,by omega,by omega,by omega⟩ ⟨by omega,by omega,by omega,by omega⟩ (by omega) (by omega);unfold kj at hc;rw[dy (B.1-A.1)]at hc;have e:(q.2-A.2)*(B.1-A.1)=(B.2-A.2)*(q.1-A.1):=by omega
  rw[e]at fa j7⊢;have g1:=dA fa (by omega);have g2:=bV j7 (by omega);have g3:oT q.2 A B=q.1-A.1:=by omega
  rw[g3,b9 rfl];exact CI.2 ⟨by simp only;omega,by simp only;omega⟩
 unfold l_ sU at on;simp only[ab,gb]at on;obtain⟨_,o1,o2,o3,o4,o5⟩:=on;unfold tj
 grind[Cf]
def av3{P a q:b6}(f:mQ P=IN)(d:mQ a=IN)(e:mQ q=IN):pb q P a+(((oL q.2 P a).countP (λc=>IT (c<=q.1)):Nat):Int)=((oL q.2 P a).countP (λ_=>IN):Nat):=by
 have core:∀A B:b6,mQ A=IN->mQ B=IN->A.2<=q.2->q.2<B.2->(if 0<kj A B q then(1:Int)else 0)+(if A.1+oT q.2 A B<=q.1 then 1 else 0)=1:=λA B g h h1 h2=>by
  obtain⟨j,a2,a3,a4⟩:=(ud A).1 g;obtain⟨k,l,m,n⟩:=(ud B).1 h;obtain⟨c1,c2,o,p⟩:=(ud q).1 e;obtain⟨_,fa,j7,_⟩:=Kw (y:=q.2) (A:=A) (B:=B) ⟨by omega,by omega,by omega,by omega⟩ ⟨by omega,by omega,by omega,by omega⟩ (by omega) (by omega);have hc:kj A B q=(q.2-A.2)*(B.1-A.1)-(B.2-A.2)*(q.1-A.1):=by grind[kj,dy]
  by_cases z:A.1+oT q.2 A B<=q.1
  .have:(B.2-A.2)*oT q.2 A B<=(B.2-A.2)*(q.1-A.1):=bd (by omega) (by omega)
   grind
  have:(B.2-A.2)*(q.1-A.1)<=(B.2-A.2)*(oT q.2 A B-1):=bd (by omega) (by omega)
  grind
 have s1:=Ux (vl f) (vl d) (vl e);have i:kj a P q=- kj P a q:=by rw[Cf]
 unfold pb yl oL;simp only[bD,ab,gb,s1.1,s1.2];by_cases b:a.2<P.2
 .rw[b9 b]
  unfold r8
  grind[kj]
 rw[b8 b];unfold r8
 grind[kj]
section
variable {a6:List ef} {al:List dk} {fs:List Int} (h:eS a6 al fs)
include h
theorem VL{C:List Int}(c:C∈eS.lT a6 al){d:Int}(g:d∈C):∃path,ff fx (lN d) (j9 a6 al)=U path/\∀q∈path,mQ q=IN:=by
 obtain⟨a,ha,e⟩:=h.qZ.1 (h.o_ c g);have j:=h.p7 ha;have i:lN d=a.1:=by unfold lN;omega
 obtain⟨f,t,_,_,b,_⟩:=h.path ha;refine⟨_,?_,h.Br ha b⟩;rw[i,Ao h a ha,b]
theorem Yj{C:List Int}(b:C∈eS.lT a6 al){y c:Int}(hc:c∈pL (j9 a6 al) (oL y) C):-1048576<=y/\y<=1048576/\-1048576<=c/\c<=1048576:=by unfold pL at hc;obtain⟨d,e,hc⟩:=cY.1 hc;obtain⟨path,hp,a⟩:=VL h b e;rw[hp,cg]at hc;obtain⟨p,h1,q,h2,f⟩:=We hc;exact YY (a p h1) (a q h2) f
theorem Nv{C:List Int}(m:C∈eS.lT a6 al){y x:Int}(G:GG (j9 a6 al) C y x):mQ (x,y)=IN/\pd (j9 a6 al) C (x,y)=IN:=by
 obtain⟨hoff,B,c1,u,H⟩:=G;have hm:=Ao h;obtain⟨r,f⟩:=h.x_;have j:mQ (x,y)=IN:=by
  have S:=Yj h m u;have:0<(pL (j9 a6 al) (oL y) C).countP (λc=>IT (c<=x)):=by omega
  obtain⟨c2,v,hle⟩:=List.countP_pos_iff.1 this;rw[gb]at hle;have V:=Yj h m v;exact(ud _).2 ⟨by simp only;omega,by simp only;omega,by simp only;omega,by simp only;omega⟩
 refine⟨j,(EY _ _ _).2 ⟨λd D=>?_,?_⟩⟩
 .obtain⟨path,hp,n⟩:=VL h m D
  rw[hp,cg];cases path with
  |nil=>rfl
  |cons p0 l=>
   refine eS.NO _ l p0 λi a b ha E=>?_;cases I:l_ a b (x,y)with
   |false=>rfl
   |true=>exfalso;apply hoff;obtain⟨t,J,K⟩:=aL3 (n a (aJ ha)) (n b (aJ E)) j I;refine⟨t,?_,K⟩;unfold pL;refine cY.2 ⟨d,D,?_⟩;rw[hp,cg];exact VG ha E J
 have M:=h.Q4 f (x,y) hm m;have O:=(S8 (j9 a6 al) (oL y) (λc=>IT (c<=x)) C).trans (h.ag7 f _ hm m);have g:∀k∈((fh r).dC (h.fm f)).nz,mQ (hT k.1)=IN/\mQ (hF k.1)=IN:=λk hk=>by obtain⟨a,p,i,o⟩:=h.sj f (show k.1∈r from Net.Bh.1 hk);exact⟨h.Br o.nb o.path _ (aJ o.rM),h.Br o.nb o.path _ (aJ o.si)⟩
 have P:(eu C λd=>xX (x,y) ((ff fx (lN d) (j9 a6 al)).getD []))+((pL (j9 a6 al) (oL y) C).countP (λc=>IT (c<=x)):Int)=eu ((fh r).dC (h.fm f)).nz (λk=>if(h.j0 f).c k=C then(((oL y (hT k.1) (hF k.1)).countP (λ_=>IN):Nat):Int)else 0):=by
  rw[M,O,<-qS];refine mu λk hk=>?_;by_cases z:(h.j0 f).c k=C
  .rw[b9 z,b9 z,b9 z]
   exact av3 (q:=(x,y)) (g k hk).1 (g k hk).2 j
  grind
 have w:=Net.OD (N:=(fh r).dC (h.fm f)) ((h.j0 f).sw C) y;have hlen:∀e:fy,(((oL y (hT e) (hF e)).countP (λ_=>IN):Nat):Int)=if((fh r).dC (h.fm f)).lA e y then 1 else 0:=λe=>by
  have Q:((fh r).dC (h.fm f)).lA e y↔((fh r).b5 e).2<=y/\y<((fh r).a7 e).2:=Iff.rfl;have hv:(((oL y (hT e) (hF e)).countP (λ_=>IN):Nat):Int)=if((fh r).b5 e).2<=y/\y<((fh r).a7 e).2 then 1 else 0:=by
   unfold pk.b5 pk.a7 pk.fwd;show _=if(bif IT ((hT e).2<(hF e).2\/((hT e).2=(hF e).2/\(hT e).1<(hF e).1))then hT e else hF e).2<=y/\y<(bif IT ((hT e).2<(hF e).2\/((hT e).2=(hF e).2/\(hT e).1<(hF e).1))then hF e else hT e).2 then(1:Int)else 0
   unfold oL r8
   grind[hT,hF,decide_eq_true,decide_eq_false]
  grind[fh]
 have R:eu ((fh r).dC (h.fm f)).nz (λk=>if(h.j0 f).c k=C then(((oL y (hT k.1) (hF k.1)).countP (λ_=>IN):Nat):Int)else 0)=eu r (λe=>if((fh r).dC (h.fm f)).lA e y then(h.j0 f).lF C e else 0)+2*eu r (λe=>if(h.j0 f).c (e,IN)=C then(if((fh r).dC (h.fm f)).lA e y then 1 else 0)else 0):=by
  rw[Net.BG,<-Fg,<-qS];refine mu λe he=>?_;show(if(h.j0 f).c (e,IN)=C then(((oL y (hT e) (hF e)).countP (λ_=>IN):Nat):Int)else 0)+(if(h.j0 f).c (e,IS)=C then(((oL y (hT e) (hF e)).countP (λ_=>IN):Nat):Int)else 0)=_;rw[hlen e];unfold Net.my.lF ind
  grind[fh]
 have s:eu r (λe=>if((fh r).dC (h.fm f)).lA e y then(h.j0 f).lF C e else 0)=0:=by
  refine jX (mu λe he=>?_) w
  grind[fh]
 rw[R,s]at P;omega
end
end Dp
end Go.Ab
namespace Go.Ab
open Go Go.Sort Go.Proofs Go.Shelf Go.Pg
set_option maxRecDepth 10000
namespace Dp
def aX2{α β:Type}(a:α)(f:α->Option β):a8 (U a) f=f a:=jX (Eq.symm (Eq.refl _)) rfl
def Xp(v:Int×Int×Int×Int):Prop:=-2097152<=v.2.1/\v.2.1<=2097152/\-2097152<=v.2.2.2/\v.2.2.2<=2097152
def MK{l:List b6}(hl:l.length<=1000000)(a:∀q∈l,sG q):∃v,Eu l=U v/\Xp v:=by
 unfold Eu;cases hz:IT ((l.length:Int)=0)with
 |true=>exact⟨_,rfl,by simp[Xp]⟩
 |false=>
  rw[nu]at hz;have h:nth l (0:Int)=U l[0]:=by grind[nth,mJ,ae]
  obtain⟨m,n,b,c⟩:=a _ (au (show 0<l.length by omega));simp only[ct,h,cr];refine oa (λx:Int×Int×Int×Int×Int=>0<=x.1/\x.1<=(l.length:Int)/\-2097152<=x.2.2.1/\x.2.2.1<=2097152/\-2097152<=x.2.2.2.2/\x.2.2.2.2<=2097152) (λx=>((l.length:Int)-x.1).toNat) _ ?_ ⟨by simp,by simp,b,c,b,c⟩ (by grind);rintro rec ⟨i,o,p,r,s⟩ ⟨h1,h2,d,e,f,g⟩ j;simp only at h1 h2 d e f g;obtain⟨i,rfl⟩:∃k:Nat,i=k:=⟨i.toNat,by omega⟩;by_cases a7:i<l.length
  .obtain⟨c1,c2,t,u⟩:=a _ (au a7)
   simp only[lJ a7,mJ,ae a7,cr,dn,lG a7 (by omega:l.length<2^62),J',vJ];exact j _ ⟨by simp only;omega,by simp only;omega,by simp only;omega,by simp only;omega,by simp only;omega,by simp only;omega⟩ (by simp only;omega)
  have:i=l.length:=by omega
  subst this;simp only[mG,ct];exact⟨_,rfl,d,e,f,g⟩
section
variable {a6:List ef} {al:List dk} {fs:List Int} (h:eS a6 al fs)
include h
def yr(a6:List ef)(al:List dk)(C:List Int)(v:b6×Bool):Prop:=v.2=IN->mQ v.1=IN/\pd (j9 a6 al) C v.1=IN
theorem az3{C:List Int}(c:C∈eS.lT a6 al)(g:Int){y:Int}(l:-2097152<=y/\y<=2097152):∃v:b6×Bool,rJ (j9 a6 al,(a6,al,fs),(g,C,[],[]),y)=U v/\yr a6 al C v:=by
 obtain⟨rs,d,m,e⟩:=Ys h c g l;unfold rJ;simp only[d,cr];refine oa (λx:Int×Bool×Int×Int×Int=>0<=x.1/\x.1<=(rs.length:Int)/\yr a6 al C ((x.2.2.2.1,x.2.2.2.2),x.2.1)) (λx=>((rs.length:Int)-x.1).toNat) _ ?_ ⟨by simp,by simp,λh=>by cases h⟩ (by grind);rintro rec ⟨i,b,n,x,E⟩ ⟨h1,h2,j⟩ k;simp only at h1 h2 j;obtain⟨i,rfl⟩:∃o:Nat,i=o:=⟨i.toNat,by omega⟩;by_cases a7:i<rs.length
 .have p:IT ((1:Int)<0)=IS:=rfl
  have q:(2^(min (1:Int).toNat aa.bits):Int)=2:=by decide
  obtain⟨f,a⟩:=e _ (au a7);have r:=Nv h c (a rs[i].1 ⟨bJ _,f⟩);have s:=Nv h c (a (rs[i].2-1) ⟨by omega,by omega⟩);obtain⟨t,a2,_,_⟩:=(ud _).1 r.1;obtain⟨u,w,_,_⟩:=(ud _).1 s.1;simp only at t a2 u w;have z:aa.wrap (rs[i].1+rs[i].2)=rs[i].1+rs[i].2:=lR (by omega) (by omega);have B:aa.wrap (rs[i].1+rs[i].2-1)=rs[i].1+rs[i].2-1:=lR (by omega) (by omega);have D:=Nv h c (a ((rs[i].1+rs[i].2-1).fdiv 2) (by rw[fq _ (by decide)];exact⟨by omega,by omega⟩));simp only[lJ a7,mJ,ae a7,cr,dn,p,ct,lG a7 (by omega:rs.length<2^62),z,B,q];cases IT (n<aa.wrap (rs[i].2-rs[i].1))with
  |true=>simp only[dn];exact k _ ⟨by simp only;omega,by simp only;omega,λ_=>D⟩ (by simp only;omega)
  |false=>simp only[ct];exact k _ ⟨by simp only;omega,by simp only;omega,j⟩ (by simp only;omega)
 grind
theorem aX0(V:GJ a6 al fs):rz a6 al fs=0::(nS a6 al).map (tF al)/\(0::(nS a6 al).map (tF al)).Nodup:=by
 obtain⟨a0,l,b,c,a7,hl,hk⟩:=Ex a6 al;have a:l.map (rD al)=(nS a6 al).map (tF al):=by rw[<-hl,dB];rfl
 grind[ns,nw,HA,nM,l5,Hi,rz,cF]
omit h in
theorem Ring.af0{C:List Int}{p g:Int}(R:Ring a6 al fs C p g):p∈rz a6 al fs/\∃(k:Nat) (u:Int),(rz a6 al fs).idxOf p=k+1/\(nw a6 al)[k+1]?=U (u,C,[],[]):=by
 have h:=R.h;obtain⟨j,m⟩:=aX0 h R.val;obtain⟨a0,l,D,_,_,hl,hk⟩:=Ex a6 al;obtain⟨k,o,r⟩:=aH R.out;have v:tF al C=p:=by obtain⟨d,pJ⟩:=R.ne;rw[<-R.side d pJ,(R.val.out C R.out).2 d pJ]
 have t:(rz a6 al fs)[k+1]?=U p:=by grind[aM,ae]
 have hm:=aJ t;obtain⟨w,x⟩:=ao.1 t;have b:=List.idxOf_lt_length_of_mem hm;have z:(rz a6 al fs).idxOf p=k+1:=(dL (h₀:=b) (h₁:=w) (by rw[j];exact m)).1 ((List.getElem_idxOf b).trans x.symm);have s:k<l.length:=by grind[aF]
 have e:=ae s;generalize l[k]=a at e;obtain⟨g1,g2⟩:=hk k a e;rw[ae o,r]at g1;have E:C=a.2.1:=aQ g1;have f:(nw a6 al)[k+1]?=U a:=by grind[aM]
 have i:∀q,uZ a6 al q=k+1->p2 a6 al q (U C):=λq G=>by grind[xR,ae]
 have H:a.2.2.1=[]:=by rw[g2];refine iO.2 λc hc hz=>?_;rw[gb]at hz;exact R.hole c hc (i _ hz)
 have I:a.2.2.2=[]:=by rw[S0 a6 al f,List.map_eq_nil_iff];refine iO.2 λn B hz=>?_;rw[ab,gb,gb]at hz;exact R.alone n B hz.1 (i _ hz.2)
 grind
omit h in
theorem Ring.middle{C:List Int}{p g:Int}(R:Ring a6 al fs C p g):∃v:b6×Bool,vg ((a6,al,fs),p)=U v/\yr a6 al C v:=by
 have h:=R.h;have hf:=(HA h).2 R.val;obtain⟨hq,hlen⟩:=h.Eg;have B:=h.Hk (l:=nw a6 al) hlen (λa ha=>by obtain⟨h1,h2,h3⟩:=hq.all a ha;exact⟨h1,h2,by omega⟩) hq.ne;have hdiv:wo ((a6,al,fs),eS.lT a6 al,j9 a6 al)=U (nw a6 al):=h.Hf h.xH;have D:(nw a6 al).length<=1000000:=hlen;have hle:=Ps h hf;obtain⟨hm,k,j,E,hk⟩:=R.af0;have G:=R.nc;have hol:C.length<=512:=(h.xH.nc _ G).2.1;unfold vg;simp only[h.Gy,aX2,lV,ax,ct,h.IJ,hdiv,B,hf];have H:(ns al fs.length IN (nw a6 al) [] []).1=rz a6 al fs:=rfl;have hj:IT (((k+1:Nat):Int)<1)=IS:=mN (by omega);rw[H,Le _ _ (by omega),cr,b9 hm,E];simp only[hj,ct,mJ,hk,cr];have o:=λ{y:Int} t=>az3 h G j (y:=y) t;refine oa (λx:Int×List b6=>0<=x.1/\x.1<=(C.length:Int)/\(x.2.length:Int)<=132*x.1/\∀q∈x.2,sG q) (λx=>((C.length:Int)-x.1).toNat) _ ?_ ⟨by simp,by simp,by simp,by simp⟩ (by grind);rintro rec ⟨i,I⟩ ⟨h1,h2,h3,J⟩ hr;simp only at h1 h2 h3 J;obtain⟨i,rfl⟩:∃i':Nat,i=i':=⟨i.toNat,by omega⟩;by_cases a7:i<C.length
 .have t:=ae a7
  obtain⟨d1,path,d2,d3,d4⟩:=Pn h G (au a7);generalize C[i]=d at t d1 d2;simp only[lJ a7,mJ,t,cr,dn,d1,d2,Nx,lG a7 (by omega:C.length<2^62)];refine oa (λx:Int×List b6=>1<=x.1/\x.1<=(path.length:Int)+1/\(x.2.length:Int)<=132*i+2*(x.1-1)/\∀q∈x.2,sG q) (λx=>((path.length:Int)+1-x.1).toNat) _ ?_ ⟨by simp,by simp only;omega,by simp only;omega,J⟩ (by grind);rintro c ⟨q,pt2⟩ ⟨g1,g2,g3,g4⟩ m;simp only at g1 g2 g3 g4;obtain⟨q,rfl⟩:∃q':Nat,q=q':=⟨q.toNat,by omega⟩;cases r:IT ((q:Int)<(path.length:Int))with
  |false=>rw[nu]at r;simp only[ct];exact hr _ ⟨by simp only;omega,by simp only;omega,by simp only;omega,g4⟩ (by simp only;omega)
  |true=>
   rw[gb]at r;have s:q<path.length:=by omega
   have K:aa.wrap ((q:Int)-1)=((q-1:Nat):Int):=by grind[lR]
   simp only[dn,K,mJ,ae s,ae (show q-1<path.length by omega),cr,lG s (by omega:path.length<2^62)];rw[nE (by decide) (by grind[aA,bL]),cr];refine m _ ⟨by simp only;omega,by simp only;omega,by grind[aT,aA,bL],λz hz=>?_⟩ (by simp only;omega)
   grind[au]
 have:i=C.length:=by omega
 subst this;obtain⟨e,M,b1,b2,b3,b4⟩:=MK (l:=I) (by omega) J;have e0:IT ((1:Int)<0)=IS:=rfl;have e2:(2^(min (1:Int).toNat aa.bits):Int)=2:=by decide
 simp only[mG,ct,M,cr,e0,e2];have N:-2097152<=(aa.wrap (e.2.1+e.2.2.2)).fdiv 2/\(aa.wrap (e.2.1+e.2.2.2)).fdiv 2<=2097152:=by grind[lR,fq]
 generalize(aa.wrap (e.2.1+e.2.2.2)).fdiv 2=b at N;refine oa (λx:Int×Int×Int=>0<=x.1/\x.1<=8388608) (λx=>(8388609-x.1).toNat) _ ?_ ⟨by simp,by simp⟩ (by grind);rintro c ⟨d,u,w⟩ ⟨g1,g2⟩ m;simp only at g1 g2;have w1:aa.wrap (b+d)=b+d:=lR (by omega) (by omega);have w2:aa.wrap (b-d)=b-d:=lR (by omega) (by omega);have w3:aa.wrap (d+1)=d+1:=lR (by omega) (by omega);simp only[w1,w2,w3,cr];by_cases hgo:b+d<=e.2.2.2\/e.2.1<=b-d
 .have O:=λu w=>m (d+1,u,w) ⟨by simp only;omega,by simp only;omega⟩ (by simp only;omega)
  have row:∀(y:Int) (K1 K2:b6×Bool->Option (b6×Bool)),(y<e.2.1\/e.2.2.2<y\/∃v,rJ (j9 a6 al,(a6,al,fs),(j,C,[],[]),y)=U v/\yr a6 al C v):=λy _ _=>by
   by_cases c1:y<e.2.1
   .exact .inl c1
   by_cases c2:e.2.2.2<y
   .exact .inr (.inl c2)
   exact .inr (.inr (o ⟨by omega,by omega⟩))
  have r1:=row (b+d) U U;have r2:=row (b-d) U U;have fin:∀(z:b6×Bool),yr a6 al C z->∃v:b6×Bool,U z=U v/\yr a6 al C v:=λz hz=>⟨z,rfl,hz⟩;have n:∀u w:Int,∃v,(bif IT (b-d<e.2.1)then c (d+1,u,w)else bif IT (e.2.2.2<b-d)then c (d+1,u,w)else
    a8 (rJ (j9 a6 al,(a6,al,fs),(j,C,[],[]),b-d)) λv44=>bif v44.2 then U ((v44.1.1,v44.1.2),IN)else c (d+1,v44.1.1,v44.1.2))=U v/\yr a6 al C v:=λu w=>by
   cases c1:IT (b-d<e.2.1)with
   |true=>exact O _ _
   |false=>
    cases c2:IT (e.2.2.2<b-d)with
    |true=>exact O _ _
    |false=>
     rw[nu]at c1 c2;rcases r2 with q|q|⟨v2,P,Q⟩
     .exact(c1 q).elim
     .exact(c2 q).elim
     simp only[ct,P,cr];cases S:v2.2 with
     |false=>exact O _ _
     |true=>exact fin _ λ_=>Q S
  have go:∃v,(bif IT (b+d<e.2.1)then
    (bif IT (b-d<e.2.1)then c (d+1,u,w)else bif IT (e.2.2.2<b-d)then c (d+1,u,w)else
     a8 (rJ (j9 a6 al,(a6,al,fs),(j,C,[],[]),b-d)) λv44=>bif v44.2 then U ((v44.1.1,v44.1.2),IN)else c (d+1,v44.1.1,v44.1.2))else bif IT (e.2.2.2<b+d)then
    (bif IT (b-d<e.2.1)then c (d+1,u,w)else bif IT (e.2.2.2<b-d)then c (d+1,u,w)else
     a8 (rJ (j9 a6 al,(a6,al,fs),(j,C,[],[]),b-d)) λv44=>bif v44.2 then U ((v44.1.1,v44.1.2),IN)else c (d+1,v44.1.1,v44.1.2))else a8 (rJ (j9 a6 al,(a6,al,fs),(j,C,[],[]),b+d)) λf=>bif f.2 then U ((f.1.1,f.1.2),IN)else
    (bif IT (b-d<e.2.1)then c (d+1,f.1.1,f.1.2)else bif IT (e.2.2.2<b-d)then c (d+1,f.1.1,f.1.2)else
     a8 (rJ (j9 a6 al,(a6,al,fs),(j,C,[],[]),b-d)) λv44=>bif v44.2 then U ((v44.1.1,v44.1.2),IN)else c (d+1,v44.1.1,v44.1.2)))=U v/\yr a6 al C v:=by
   cases c1:IT (b+d<e.2.1)with
   |true=>exact n u w
   |false=>
    cases c2:IT (e.2.2.2<b+d)with
    |true=>exact n u w
    |false=>
     rw[nu]at c1 c2;rcases r1 with q|q|⟨v1,V,hp1⟩
     .exact(c1 q).elim
     .exact(c2 q).elim
     simp only[ct,V,cr];cases S:v1.2 with
     |false=>exact n _ _
     |true=>exact fin _ λ_=>hp1 S
  grind[decide_eq_false_iff_not,decide_eq_true]
 have c1:IT (b+d<=e.2.2.2)=IS:=by grind
 have c2:IT (e.2.1<=b-d)=IS:=by grind
 simp only[c1,c2,ct];exact⟨_,rfl,λh=>by cases h⟩
end
end Dp
open Classical
def Xz{v:Int}:∀ {l:List dk},(∀a∈l,a.2.1≠v/\a.2.2.1≠v)->oP l v=0
 | [],_=>rfl
 |a::l,h=>by have e:oP (a::l) v=((if a.2.1=v then 1 else 0)+(if a.2.2.1=v then 1 else 0))+oP l v:=rfl;rw[e,b8 (h a (by simp)).1,b8 (h a (by simp)).2,Xz λb c=>h b (by simp[c])]
def rF.Z1{a6 ns':List ef}{al ars':List dk}{fs fs':List Int}{v:ef}{K:dk->Bool}(L:rF a6 al fs ns' ars' fs' v K):oP ars' v.1=0 :=Xz λa ha=>by obtain⟨⟨b,m1,lL⟩,c,m2,fa⟩:=L.h.xb (L.nb ha);exact⟨λe=>L.fresh (by rw[<-e,<-lL];exact aC m1),λe=>L.fresh (by rw[<-e,<-fa];exact aC m2)⟩
namespace Dp
section
variable {a6:List ef} {al:List dk} {fs:List Int}
def BQ(al:List dk):Option (List Int)->Int
 |none=>0
 |some y=>tF al y
def X5(h:eS a6 al fs)(V:GJ a6 al fs){q:b6}(a:fc q=IN){o:Option (List Int)}(cu:p2 a6 al q o):(rz a6 al fs)[uZ a6 al q]?=U (BQ al o):=by
 rw[(aX0 h V).1];rcases xR a6 al q with⟨g1,g2⟩|⟨k,y,g1,g2,g3⟩
 .cases p2.uniq h a cu g2
  rw[g1];rfl
 cases p2.uniq h a cu g3;rw[g1,aM,aX,g2];rfl
def aa3(h:eS a6 al fs)(V:GJ a6 al fs){n:ef}(b:n∈a6)(j:oP al n.1=0){o:Option (List Int)}(cu:p2 a6 al (n.2.1,n.2.2) o){r:t'}(k:r∈Gl a6 al fs):n.1∈r.2.2.2↔r.1=BQ al o:=by
 have hz:r∈xh (rz a6 al fs) (nw a6 al):=(q4 (G5 _)).mem_iff.1 k;obtain⟨i,a7,e⟩:=aH hz;unfold xh at e a7;rw[gj]at a7;rw[ga]at e;have a:i<(rz a6 al fs).length:=by omega
 have c:i<(nw a6 al).length:=by omega
 have l:r.1=(rz a6 al fs)[i]:=by rw[<-e]
 have m:r.2.2.2=(nw a6 al)[i].2.2.2:=by rw[<-e]
 rw[l,m,S0 a6 al (ae c)];have hf:=X5 h V (vl (ak.1 h.IK n b)) cu;have d:(rz a6 al fs).Nodup:=by rw[(aX0 h V).1];exact(aX0 h V).2
 constructor
 .intro hm
  obtain⟨p,h1,h2⟩:=aP.1 hm;obtain⟨q,g⟩:=aD.1 h1;have:p=n:=h.Tz q b h2;subst this;rw[ab,gb,gb]at g;rw[g.2,ae a]at hf;exact aQ hf
 intro f;obtain⟨s,t⟩:=ao.1 hf;have:uZ a6 al (n.2.1,n.2.2)=i:=(dL (h₀:=s) (h₁:=a) d).1 (t.trans f.symm);exact aC (aD.2 ⟨b,by simp[j,this]⟩)
def DY.tL(h:eS a6 al fs){q:b6}(O:DY a6 al q){c:List Int}(hc:c∈eS.lT a6 al):∀d∈c,tL q ((ff fx (lN d) (j9 a6 al)).getD [])=IS:=by
 intro d j;obtain⟨r,g⟩:=h.x_;obtain⟨a,ha,e⟩:=h.qZ.1 (h.o_ hc j);have u:=h.p7 ha;have k:lN d=a.1:=by unfold lN;omega
 obtain⟨f,t,_,_,hp,_⟩:=h.path ha;rw[k,Ao h a ha,hp];generalize m:((f.2.1,f.2.2)::(a.2.2.2.1++[(t.2.1,t.2.2)]):List b6)=p at hp;cases p with
 |nil=>rfl
 |cons p0 l=>
  refine eS.NO _ l p0 λi x y n b=>?_;have a7:i+1<(p0::l).length:=by
   rcases dc (i+1) (p0::l).length with q|q
   .exact q
   rw[List.getElem?_eq_none q]at b;cases b
  have hs:(mi a (p0::l),(i:Int))∈r:=uL g a ha _ hp _ (vv a7);have o:oQ a6 al (mi a (p0::l),(i:Int)) a (p0::l) i:=⟨ha,hp,a7,rfl⟩;have s:hT (mi a (p0::l),(i:Int))=x:=aQ (o.rM.symm.trans n);have ek:hF (mi a (p0::l),(i:Int))=y:=aQ (o.si.symm.trans b);rw[<-s,<-ek];exact O.aX3 r g _ hs
end
namespace Ring
variable {a6:List ef} {al:List dk} {fs:List Int} {C:List Int} {p g:Int} (R:Ring a6 al fs C p g)
include R
theorem ab7:∃D∈sW a6 al,∃d0∈C,-d0∈D:=by
 have h:=R.h;obtain⟨d0,pJ⟩:=R.ne;obtain⟨b,a⟩:=h.yY (h.Fq (R.wR pJ));generalize sF a6 al (-d0)=D at b a;refine⟨D,vB.2 ⟨b,λhp=>?_⟩,d0,pJ,a⟩;by_cases e:D=C
 .exact R.once d0 pJ (e▸a)
 have:=(R.Uj (pn.2 ⟨b,hp⟩) e a).2;rw[dM]at this;exact this pJ
theorem aa8{q:b6}(hp:mQ q=IN)(hC:pd (j9 a6 al) C q=IN){D:List Int}(hD:D∈sW a6 al){d0:Int}(pJ:d0∈C)(S:-d0∈D){E:List Int}(B:E∈nS a6 al)(s:E≠C):pd (j9 a6 al) E q=pd (j9 a6 al) E (oo (j9 a6 al) D):=by
 have h:=R.h;obtain⟨r,a⟩:=h.x_;have V:=(fh r).tM (h.fm a);have hm:=Ao h;have f:=pn.1 R.out;have b:=pn.1 B;have j:=(vB.1 hD).1;have hn:=vl hp;have O:=R.aD1 hp hC;obtain⟨e0,m⟩:=h.vF b.1;have G:=h.outer a f.1 f.2 pJ;have H:=h.outer a b.1 b.2 m;have u:=R.TB a B s pJ m;have hS:=(fh r).Kq (h.fm a) q.1 q.2;have s1:=h.Cz a hn hm f.1 f.2 hC;have z:((fh r).dC (h.fm a)).L ((h.j0 a).lF C) (lY a6 al e0)=0:=by
  obtain⟨l,hl,I⟩:=br.1 (h.o_ b.1 m);obtain⟨n,i,rfl⟩:=aP.1 hl;have hoff:=h.TZ a i I hm f.1 λd hd hc=>R.TB a B s hd m hc;have hL:=h.Is a i I λk hk hs=>(h.j0 a).xI (h.Fw a hm f.1 hoff k hk hs);rcases(h.j0 a).FA V G ((fh r).Kq (h.fm a) n.2.1 n.2.2)with z|z
  .rw[hL];exact z
  exact(R.Tx a E ⟨B,d0,pJ,e0,m,u,by rw[hL];exact z⟩).elim
 have wt:=(h.j0 a).bl1 V G H u z hS s1;obtain⟨d1,va,n,i,e,w,J,x,K⟩:=h.Rx a hm j;have m0:=h.AX (R.wR pJ) a;have c1:(h.j0 a).lI (lY a6 al d0) (lY a6 al d1):=by
  have a1:(h.j0 a).lI (lY a6 al d0) (Net.rev (lY a6 al d0)):=.rev (.refl _);have a2:=(h.AD a (k:=Net.rev (lY a6 al d0)) m0).1;rw[eS.LI,h.ue (R.wR pJ)]at a2;have a3:=h.R' a j S (lY a6 al d1) (by
   show sF a6 al (k5 (lY a6 al d1))=D;rw[h.ue (h.o_ j va)];exact h.yX j va) (h.AX (h.o_ j va) a)
  exact Net.my.nn _ a1 (Net.my.nn _ (Net.my.r7 _ a2) a3)
 have c2:(h.j0 a).lI (lY a6 al d0) (lY a6 al e):=Net.my.nn _ c1 (Net.my.r7 _ K);have o:=h.TZ a i w hm b.1 λd hd hc=>R.TB a B s pJ hd (Net.my.nn _ c2 (Net.my.r7 _ hc));have hLe:=h.Is a i w λk hk hs=>(h.j0 a).xI (h.Fw a hm b.1 o k hk hs);have N:∀P,(h.j0 a).lI (lY a6 al d0) P->P.1∈r->(h.j0 a).c P≠E:=λP c1 c2 e1=>u (Net.my.nn _ c1 (Net.my.r7 _ (H.part P e1 c2)));have v:=(h.j0 a).wy V E c2 m0;rw[qo (N _ (.refl _) m0),qo (N _ c2 (h.tx a i w).1)]at v;have w1:=h.Rj a hn hm b.1 (O.tL h b.1);have Q:fc (n.2.1,n.2.2)=IN:=by rw[<-J];exact x
 have w2:=h.Rj a Q hm b.1 o;rw[J];have key:(h.j0 a).oM E (λt=>((fh r).dC (h.fm a)).lA t q.2/\((fh r).dC (h.fm a)).X t q.2<((fh r).dC (h.fm a)).M*q.1)=(h.j0 a).oM E (λt=>((fh r).dC (h.fm a)).lA t n.2.2/\((fh r).dC (h.fm a)).X t n.2.2<((fh r).dC (h.fm a)).M*n.2.1):=by rw[wt,<-hLe];omega
 rw[key]at w1;exact Bool.eq_iff_iff.2 (w1.trans w2.symm)
theorem ab0{q:b6}(hp:mQ q=IN)(a:pd (j9 a6 al) C q=IN):p2 a6 al q (U C):=by
 obtain⟨r,b⟩:=R.h.x_;refine⟨R.out,a,λx c he=>?_⟩;by_cases e:x=C
 .rw[e];exact bJ _
 exact lz.1 λd=>R.Tx b x (R.Sc b (vl hp) a c e he (by omega))
theorem aa9{D:List Int}(b:D∈sW a6 al){d0:Int}(pJ:d0∈C)(a:-d0∈D){o:Option (List Int)}(cu:p2 a6 al (oo (j9 a6 al) D) o):BQ al o=g:=by
 have V:=R.val;rw[<-R.bv2 d0 pJ];cases o with
 |none=>exact(V.zero D b cu _ a).symm
 |some E=>exact(V.vN D b E cu _ a).symm
theorem ab1{q:b6}(hp:mQ q=IN)(u:pd (j9 a6 al) C q=IN){D:List Int}(s:D∈sW a6 al){d0:Int}(pJ:d0∈C)(i:-d0∈D){o:Option (List Int)}(cu:p2 a6 al (oo (j9 a6 al) D) o){ns':List ef}{ars':List dk}{fs':List Int}{v:ef}(L:rF a6 al fs ns' ars' fs' v (nB p))(cut:∀a∈al,nB p a=IS->∀n∈ns',n.1≠a.2.1/\n.1≠a.2.2.1):p2 ns' ars' q o/\BQ ars' o=BQ al o:=by
 have h:=R.h;have h':=L.ok;have j:∀c∈nS a6 al,c≠C->ot (eS.l3 ns' ars') c=IN:=λc hc k=>by obtain⟨d,b⟩:=h.vF (pn.1 hc).1;have t:=head_mem b;have hk:=R.kept L (h.o_ (pn.1 hc).1 t);unfold ot;rw[gb,hk];exact R.Uj hc k t
 have l:∀c∈nS ns' ars',c≠C:=λc hc e=>by obtain⟨d,b⟩:=h'.vF (pn.1 hc).1;have:=(R.kept L (h.o_ (pn.1 ((HN L cut).1 hc).1).1 b)).1 (h'.o_ (pn.1 hc).1 b);exact this.1 (e▸b)
 have enc:∀c∈nS ns' ars',pd (j9 ns' ars') c q=pd (j9 a6 al) c (oo (j9 a6 al) D):=λc hc=>by rw[M7 L cut (pn.1 hc).1];exact R.aa8 hp u s pJ i ((HN L cut).1 hc).1 (l c hc)
 cases o with
 |none=>exact⟨λc hc=>by rw[enc c hc];exact cu c ((HN L cut).1 hc).1,rfl⟩
 |some y=>
  obtain⟨h1,h2,w⟩:=id cu;have m:y≠C:=λe=>R.hole D s (e▸cu);have f:=(HN L cut).2 ⟨h1,j y h1 m⟩;refine⟨⟨f,by rw[enc y f];exact h2,λx r he=>?_⟩,?_⟩
  .rw[enc x r]at he
   rw[An L λd b=>h'.o_ (pn.1 f).1 b,An L λd b=>h'.o_ (pn.1 r).1 b];exact w x ((HN L cut).1 r).1 he
  obtain⟨d,b⟩:=h'.vF (pn.1 f).1;exact(Ax L (h'.o_ (pn.1 f).1 (head_mem b))).1
theorem inside{q:b6}(hp:mQ q=IN)(e:pd (j9 a6 al) C q=IN){l:List l9}{id:Int}{r:t'}(i:r∈Gl (nU a6 al fs l id p q).1 (nU a6 al fs l id p q).2.1 (nU a6 al fs l id p q).2.2.1):nj a6 1∈r.2.2.2↔r.1=g:=by
 have O:=R.aD1 hp e;obtain⟨L,cut⟩:=R.less O (l:=l) (id:=id);obtain⟨h',j⟩:=R.aY2 O (l:=l) (id:=id);have a:(nj a6 1,q.1,q.2)∈(nU a6 al fs l id p q).1:=by show _∈nG we (a6.filter (pU (ob p al []))++[(nj a6 1,q.1,q.2)]);rw[(q4 (B4 _)).mem_iff];simp
 have b:oP (nU a6 al fs l id p q).2.1 (nj a6 1)=0:=L.Z1;obtain⟨D,f,d0,pJ,c⟩:=R.ab7;have fin:∀o,p2 a6 al (oo (j9 a6 al) D) o->(nj a6 1∈r.2.2.2↔r.1=g):=λo h=>by obtain⟨f1,f2⟩:=R.ab1 hp e f pJ c h L cut;have:=aa3 h' j a b f1 i;rw[f2,R.aa9 f pJ c h]at this;exact this
 rcases xR a6 al (oo (j9 a6 al) D)with⟨_,d⟩|⟨_,y,_,_,d⟩
 .exact fin _ d
 exact fin _ d
end Ring
end Dp
end Go.Ab
namespace Go.Ab
open Go Go.Sort Go.Proofs Go.Shelf Go.Pg
set_option maxRecDepth 10000
namespace Dp
def Ym{l:List l9}{id:Int}{f:l9}(h:zA l id=U f):f∈l/\f.1=id:=⟨bj h,by simpa using dI h⟩
def Z7{l:List l9}{id c:Int}{f:l9}:zA l id=U f->zA (l.map (tl id c)) id=U (f.1,8,f.2.2.1,f.2.2.2.1,[c]):=by
 unfold zA
 induction l with
 |nil=>intro h;cases h
 |cons x l a=>
  intro h;have e:(tl id c x).1=x.1:=by unfold tl;cases IT (x.1=id)<;>rfl
  rw[kh]at h;rw[ay,kh,e];cases q:IT (x.1=id)with
  |true=>rw[q]at h;cases h;unfold tl;rw[q];rfl
  |false=>rw[q]at h;exact a h
def Z9{a6:List ef}{al:List dk}{fs:List Int}{l:List l9}(hc:¬sN a6 al fs l=0)(id:Int):GI ((a6,al,fs,l),id)=U (0,IS)/\LP ((a6,al,fs,l),id)=U (([],[],[],[]),sN a6 al fs l):=by unfold GI LP;simp only[Lo,cr,hc,mD,aW,dn,and_self]
section
variable {a6:List ef} {al:List dk} {fs:List Int} {l:List l9} (hc:sN a6 al fs l=0)
include hc
theorem Z8(id:Int):∃(E:Int×Bool) (O:(List ef×List dk×List Int×List l9)×Int),GI ((a6,al,fs,l),id)=U E/\LP ((a6,al,fs,l),id)=U O/\((E=(0,IS)/\O.2≠0) \/
  (E.2=IN/\∃f p q C,zA l id=U f/\xk a6 al fs l f p E.1/\Ring a6 al fs C p E.1/\mQ q=IN/\pd (j9 a6 al) C q=IN/\O=(nU a6 al fs l id p q,0))):=by
 have cu:=Of hc;have h:=cu.pl;have D:=h.zo;have G:=h.vS;have z:=h.Fl;have H:=cu.len;have i:∀f∈l,f.2.2.2.2.length<=64:=λf hf=>cu.parts _ hf;have j:=LR a6 al fs l id (by omega) (λf hf=>by have:=i f hf;omega);unfold GI LP;simp only[Lo,hc,cr,lV,ax,ct,j];cases k:zA l id with
 |none=>exact⟨_,_,rfl,rfl,.inl ⟨rfl,by show(7:Int)≠0;omega⟩⟩
 |some f=>
  obtain⟨hf,B⟩:=Ym k;obtain⟨m,n,o⟩:=ZI a6 al fs;obtain⟨v,s,b⟩:=as6 (a6:=a6) (al:=al) (fs:=fs) (l:=l) (by omega) (by omega) (λf hf=>by have:=i f hf;omega) o f;simp only[ax,ct,n,cr,s,AP];by_cases hs:ow f.2.1=3
  .simp only[hs,lV,ax,ct]
   cases c:v.2 with
   |false=>exact⟨_,_,rfl,rfl,.inl ⟨rfl,by show(13:Int)≠0;omega⟩⟩
   |true=>
    obtain⟨p,d⟩:=b c;obtain⟨r,_,_,R,_⟩:=N8 d;obtain⟨w,t,e⟩:=R.middle;have u:nth f.2.2.2.2 0=U p:=by rw[d.2.1];rfl
    simp only[ax,ct,u,cr,t];cases g:w.2 with
    |false=>exact⟨_,_,rfl,rfl,.inl ⟨rfl,by show(13:Int)≠0;omega⟩⟩
    |true=>have x:=bk1 (a6:=a6) (al:=al) (fs:=fs) (l:=l) (by omega) (by omega) (λa ha=>by have:=h.CQ ha;omega) (by omega) (by omega) (λf hf=>by have:=i f hf;omega) id p (w.1.1,w.1.2);simp only[ax,ct,x,cr];exact⟨_,_,rfl,rfl,.inr ⟨rfl,f,p,w.1,r.2.1,rfl,d,R,(e g).1,(e g).2,rfl⟩⟩
  have c:v.2=IS:=by
   cases c:v.2 with
   |false=>rfl
   |true=>obtain⟨p,d⟩:=b c;exact(hs d.1).elim
  simp only[hs,c,mD,aW,dn];exact⟨_,_,rfl,rfl,.inl ⟨rfl,by show(9:Int)≠0;omega⟩⟩
end
end Dp
def X6{a6:List ef}{al:List dk}{m:List (Int×List b6)}:∀(R:List ef) (L:List l6),(qB a6 al m R L).map q8=L.map q8
 | [],L=>rfl
 |n::R,L=>by
  simp only[qB];rw[X6 R];cases IT (oP al n.1=0)with
  |false=>rfl
  |true=>exact Zs _ _ _
namespace Dp
def aa7(m:List (Int×List b6))(q:b6)(b:l6)(l:List l6)(hl:l.length<=1000000)(hp:∀a∈l,HO m a.2.1):I_ (m,b::l,q)=U ((p_ m (b::l) q:Nat):Int):=by
 have e:(((b::l).length:Nat):Int)=((l.length+1:Nat):Int):=by simp
 unfold I_;refine(oU (A:=Nat) l (λi a=>(((i+1:Nat):Int),(a:Int))) (λa rest=>U ((ug m q (b::l) rest (l.length-rest.length+1) a:Nat):Int)) (λi a=>a<i+1) (by omega) ?_ ?_ 0 (by omega)).trans ?_
 .intro rec a s
  simp only[e,mG,ct,ug]
 .intro rec i a x rest a7 s f k
  have c:l.length-(x::rest).length+1=i+1:=by have:=mP eT f;simp only[eY,aA]at this⊢;omega
  have d:l.length-rest.length+1=i+1+1:=by simp only[aA]at c;have:=mP eT f;simp only[eY,aA]at this;omega
  have t:(b::l)[i+1]?=U x:=by rw[aM,<-mJ];exact mq f
  have g:x∈l:=by
   have:x∈l.drop i:=by rw[f];simp
   exact bn this
  have ha:a<(b::l).length:=by simp only[aA];omega
  have o:(b::l)[a]?=U ((b::l)[a]'ha):=ae ha;have u:aa.wrap (((i+1:Nat):Int)+1)=((i+1+1:Nat):Int):=lG (n:=2000000) (by omega) (by omega);have v:IT ((a:Int)=0)=IT (a=0):=by by_cases h:a=0<;>simp[h]
  have j:=aR1 (hp x g) q;simp only[e,lJ (show i+1<l.length+1 by omega),dn,u,v,mJ,t,o,cr,j];have p:=k (i+1) (by omega);have r:=k a (by omega);simp only[d]at p r;rw[p,r,c];have w:yj (b::l) a=((b::l)[a]'ha).1:=by simp[yj,o]
  simp only[ug,w];cases h1:IT (a=0)<;>cases h2:IT (x.1<((b::l)[a]'ha).1)<;>cases z:pd m x.2.1 q<;>rfl
 simp only[Nat.sub_self,Nat.zero_add,p_,List.tail_cons]
def aa4{q:b6}(hp:mQ q=IN):DG q=U IN:=by obtain⟨h1,h2,a,b⟩:=(ud q).1 hp;unfold DG;simp only[h1,h2,a,b,lV,dn]
def aa6{a6:List ef}{al:List dk}{fs:List Int}(h:eS a6 al fs)(V:GJ a6 al fs){q:b6}(O:DY a6 al q){o:Option (List Int)}(cu:p2 a6 al q o):I' ((a6,al,fs),q)=U (0,BQ al o,0):=by
 obtain⟨I,hlen⟩:=h.Eg;have u:=h.Hk (l:=nw a6 al) hlen (λa ha=>by obtain⟨h1,h2,S⟩:=I.all a ha;exact⟨h1,h2,by omega⟩) I.ne;have hdiv:wo ((a6,al,fs),eS.lT a6 al,j9 a6 al)=U (nw a6 al):=h.Hf h.xH;have hf:=(HA h).2 V;have c:(nw a6 al).length<=1000000:=hlen;have v:(ns al fs.length IN (nw a6 al) [] []).1=rz a6 al fs:=rfl;have hN:=h.zo;have hA:=h.vS;obtain⟨r,J⟩:=h.x_;unfold I';simp only[h.Gy,aX2,lV,ax,ct,h.IJ,hdiv,u,hf,aa4 O.pos,v];refine oy (A:=Unit) a6 (λi _=>(i:Int)) (λ_ _=>U (0,BQ al o,0)) (by omega) ?_ ?_ ()
 .intro rec _
  simp only[mG,ct];refine oy (A:=Unit) al (λi _=>(i:Int)) (λ_ _=>U (0,BQ al o,0)) (by omega) ?_ ?_ ()
  .intro rec _
   simp only[mG,ct];obtain⟨a0,l,e,_,_,hl,hk⟩:=Ex a6 al;have g:∀a∈l,HO (j9 a6 al) a.2.1:=λa ha=>by
    have:a.2.1∈nS a6 al:=by rw[<-hl];exact aC ha
    exact h.aO8 h.xH (pn.1 this).1
   have z:p_ (j9 a6 al) (nw a6 al) q=uZ a6 al q:=by refine Sw ?_ q;unfold nw tv;rw[X6,XA]
   have k:=aa7 (j9 a6 al) q a0 l (by rw[e]at c;simp only[aA]at c;omega) g;rw[<-e,z]at k;have M:=X5 h V (vl O.pos) cu;simp only[k,cr,mJ,M]
  intro rec i _ a rest a7 e d;have ha:a∈al:=bn (e▸cn ..);obtain⟨f,t,_,_,hp,_⟩:=h.path ha;generalize B:((f.2.1,f.2.2)::(a.2.2.2.1++[(t.2.1,t.2.2)]):List b6)=p at hp;have N:=h.CQ ha;have g:p.length<=66:=by rw[<-B];simp;omega
  have C:ff (λ(a b:Int)=>IT (a=b)) a.1 (j9 a6 al)=U p:=(Ao h a ha).trans hp;simp only[lJ a7,dn,mq e,cr,C,Nx,lG a7 (by omega:al.length<2^62)];have fin:∀(F:(Int->Option (Int×Int×Int))->Int->Option (Int×Int×Int)),(∀rc (x:Int),F rc x=(bif IT (x<(p.length:Int))then
    a8 (nth p (aa.wrap (x-(1:Int)))) λv35=>a8 (nth p x) λv37=>a8 (nP ((v35.1,v35.2),(v37.1,v37.2),(q.1,q.2))) λv39=>
    bif v39 then U ((2:Int),a.1,(0:Int))else rc (aa.wrap (x+(1:Int)))else rec ((i+1:Nat):Int)))->rounds F 1=U (0,BQ al o,0):=λF D=>by
   obtain⟨w,hw,E⟩:=oa (F:=F) (λx:Int=>1<=x/\x<=(p.length:Int)+1) (λx=>((p.length:Int)+1-x).toNat) (λw=>w=(0,BQ al o,0)) (x:=1) (by
    rintro rc x ⟨h1,h2⟩ G;rw[D];obtain⟨j,rfl⟩:∃j:Nat,x=((j+1:Nat):Int):=⟨(x-1).toNat,by omega⟩;by_cases hj:j+1<p.length
    .have P:aa.wrap (((j+1:Nat):Int)-1)=(j:Int):=by rw[lR (by omega) (by omega)];omega
     have hs:(mi a p,(j:Int))∈r:=uL J a ha _ hp _ (vv hj);have K:oQ a6 al (mi a p,(j:Int)) a p j:=⟨ha,hp,hj,rfl⟩;have Q:=K.rM;have ek:=K.si;have H:=O.aX3 r J _ hs;simp only[lJ hj,dn,P,mJ,Q,ek,cr,Hl,H,ct,lG hj (by omega:p.length<2^62)];exact G _ ⟨by omega,by omega⟩ (by omega)
    have:IT (((j+1:Nat):Int)<(p.length:Int))=IS:=mN (by omega);simp only[this,ct,d ()];exact⟨_,rfl,rfl⟩) (by omega) (by omega)
   rw[hw,E]
  exact fin _ λrc x=>rfl
 intro rec i _ n rest a7 e d;have R:n∈a6:=bn (e▸cn ..);have m:=O.node n R;have s:(IT (n.2.1=q.1)&&IT (n.2.2=q.2))=IS:=by unfold mz at m;rw[<-m];congr 1<;>exact decide_eq_decide.2 eq_comm
 simp only[lJ a7,dn,mq e,cr,s,ct,lG a7 (by omega:a6.length<2^62)];exact d ()
end Dp
namespace Dp
def Z6{xs:List Int}{y:Int}(hl:xs.length<=1000000):G7 (xs,y)=U (IT (y∈xs)):=by
 unfold G7;refine oy (A:=Unit) xs (λi _=>(i:Int)) (λ_ r=>U (IT (y∈r))) (by omega) ?_ ?_ ()
 .intro rec _
  simp only[mG,ct,List.not_mem_nil,mD]
 intro rec i _ x rest a7 a b;simp only[lJ a7,dn,mq a,cr,lG a7 (by omega:xs.length<2^62)];by_cases h:x=y
 .simp[h]
 have:(y∈x::rest)↔y∈rest:=by simp[Ne.symm h]
 simp only[h,mD,ct,b (),this]
def aa5{a6:List ef}{al:List dk}{fs:List Int}{r:t'}(b:r∈Gl a6 al fs):r.2.2.2.length<=a6.length:=by
 have hz:r∈xh (rz a6 al fs) (nw a6 al):=(q4 (G5 _)).mem_iff.1 b;obtain⟨i,a7,e⟩:=aH hz;unfold xh at e a7;rw[gj]at a7;rw[ga]at e;have a:i<(nw a6 al).length:=by omega
 have c:r.2.2.2=(nw a6 al)[i].2.2.2:=by rw[<-e]
 rw[c,S0 a6 al (ae a),aF];exact cV ..
def Z5(a6:List ef)(al:List dk)(fs:List Int)(l:List l9)(id:Int)(hv:∀a∈al,a.2.2.2.1.length<=4611686018427387904):GV ((a6,al,fs,l),id)=U IN:=by
 obtain⟨b,hb,_⟩:=bb0 a6 al fs l hv;unfold GV;simp only[hb,Y9,cr];cases b with
 |false=>rfl
 |true=>
 simp only[ax,ct];by_cases hc:sN a6 al fs l=0;rotate_left
 .obtain⟨b1,b2⟩:=Z9 hc id
  simp only[b1,b2,cr,hc,aW,dn,mD,lV]
 obtain⟨E,O,hE,hO,u⟩:=Z8 hc id;rcases u with⟨rfl,Q⟩|⟨V,f,p,q,C,v,x,R,j,c,rfl⟩
 .simp only[hE,hO,cr,aW,dn,Q,mD,lV]
 obtain⟨hf,hfi⟩:=Ym v;have P:=R.aD1 j c;have H:=aQ7 hc hf x P;rw[hfi]at H;obtain⟨L,cut⟩:=R.less P (l:=l) (id:=id);have cu:=Of hc;have B:=Of H;have h:=cu.pl;have h':=B.pl;have hL:=cu.len;have hL':=B.len;have hA':=h'.vS;have hN':=h'.zo;have V':=(R.aY2 P (l:=l) (id:=id)).2;have n:=(HA h').2 V';have o:=LR a6 al fs l id (by omega) (λf hf=>by have:=cu.parts f hf;omega);have k:=LR (nU a6 al fs l id p q).1 (nU a6 al fs l id p q).2.1 (nU a6 al fs l id p q).2.2.1 (nU a6 al fs l id p q).2.2.2 id (by omega) (λf hf=>by have:=B.parts f hf;omega);have hup:zA (nU a6 al fs l id p q).2.2.2 id=U (f.1,8,f.2.2.1,f.2.2.2.1,[nj a6 1]):=Z7 v;rw[v]at o;rw[hup]at k;have m:=Ry (nU a6 al fs l id p q).1 (nU a6 al fs l id p q).2.1 (nU a6 al fs l id p q).2.2.1 (nj a6 1) (by omega);have pJ:oP (nU a6 al fs l id p q).2.1 (nj a6 1)=0:=L.Z1;rw[pJ]at m;have s:=aZ0 h' n;have I:(nj a6 1,q.1,q.2)∈(nU a6 al fs l id p q).1:=by show _∈nG we (a6.filter (pU (ob p al []))++[(nj a6 1,q.1,q.2)]);rw[(q4 (B4 _)).mem_iff];simp
 have g:=LV (nU a6 al fs l id p q).1 (nU a6 al fs l id p q).2.1 (nU a6 al fs l id p q).2.2.1 (nj a6 1) (by omega);have D:pq (nU a6 al fs l id p q).1 (nj a6 1)=U (nj a6 1,q.1,q.2):=L.It I;rw[D]at g;have t:=aa6 h R.val P (R.ab0 j c);have hfc:BQ al (U C)=p:=by obtain⟨d,J⟩:=R.ne;show tF al C=p;rw[<-R.side d J,(R.val.out C R.out).2 d J]
 rw[hfc]at t;have K:=λ{r:t'} G=>R.inside j c (l:=l) (id:=id) (r:=r) G;have M:=λ{r:t'} (G:r∈Gl (nU a6 al fs l id p q).1 (nU a6 al fs l id p q).2.1 (nU a6 al fs l id p q).2.2.1)=>aa5 G;have hrl:(Gl (nU a6 al fs l id p q).1 (nU a6 al fs l id p q).2.1 (nU a6 al fs l id p q).2.2.1).length<=1000000:=by unfold Gl;rw[(q4 (G5 _)).length_eq,Xg h' n];exact h'.Eg.2
 have n0:nth [nj a6 1] (0:Int)=U (nj a6 1):=rfl;have n1:nth f.2.2.2.2 (0:Int)=U p:=by rw[x.2.1];rfl
 have hpl:(f.2.2.2.2.length:Int)=1:=by rw[x.2.1];rfl
 have h1:(([nj a6 1]:List Int).length:Int)=1:=rfl;generalize nU a6 al fs l id p q=S at k m s g K M hrl hN' hO;simp only[hE,hO,cr,V,ax,ct,k,lV,h1,n0,m,Int.natCast_zero,s];refine oy (A:=Unit) (Gl S.1 S.2.1 S.2.2.1) (λi _=>(i:Int)) (λ_ _=>U IN) (by omega) ?_ ?_ ()
 .intro rec _
  simp only[mG,ct,g,cr,t,o,dn,lV,hpl,n1]
 intro rec i _ r rest a7 J N;have G:r∈Gl S.1 S.2.1 S.2.2.1:=bn (J▸cn ..);have e:(IT (nj a6 1∈r.2.2.2)==IT (r.1=E.1))=IN:=by
  have:=K G;by_cases z:r.1=E.1
  .rw[mw z,mw (this.2 z)];rfl
  rw[mN z,mN λw=>z (this.1 w)];rfl
 simp only[lJ a7,dn,mq J,cr,Z6 (show r.2.2.2.length<=1000000 by have:=M G;omega),e,ax,ct,lG a7 (by omega:(Gl S.1 S.2.1 S.2.2.1).length<2^62)];exact N ()
end Dp
end Go.Ab
