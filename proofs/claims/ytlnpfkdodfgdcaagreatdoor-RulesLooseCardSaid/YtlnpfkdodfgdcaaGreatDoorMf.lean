/- A part of the proof; its readable source lies in wip of the prover's repo (squeezed here for the limit of bytes). -/
import Derived.Test.YtlnpfkdodfgdcaaGreatDoorMe
set_option linter.unusedVariables false
set_option linter.unusedSimpArgs false
set_option linter.unusedSectionVars false
open Bool renaming and_eq_false_iff->eH,and_eq_true->ab,and_self->eB,eq_false_iff->eb,false_eq_true->aq,false_or->cw,not_eq_true->bL,not_true->aA,or_eq_false_iff->dJ,or_eq_true->br,true_and->dD
open Classical renaming byContradiction->dw,em->ia
open Eq renaming trans->jK
open Int renaming add_mul->dE,add_zero->eJ,dvd_mul_right->jL,dvd_trans->kL,le_of_mul_le_mul_left->iw,le_refl->aX,lt_of_le_of_lt->cV,lt_or_gt_of_ne->jA,lt_or_le->du,max_comm->eW,min_comm->eV,mul_add->fw,mul_assoc->bK,mul_comm->bG,mul_eq_zero->eK,mul_le_mul_of_nonneg_left->bN,mul_le_mul_of_nonneg_right->dp,mul_lt_mul_of_pos_left->cx,mul_neg->da,mul_neg_of_pos_of_neg->e_,mul_nonneg->aF,mul_one->fH,mul_pos->ch,mul_pos_of_neg_of_neg->dG,mul_sub->bz,mul_zero->dv,neg_mul->gj,neg_mul_neg->ko,neg_neg->jr,pos_of_mul_pos_right->bQ,sub_mul->kK,sub_self->kS,zero_add->gQ,zero_mul->cK
open List renaming all_eq_true->aj,any_eq_false->dF,any_eq_true->jO,append_assoc->cL,append_nil->bw,find?_some->eZ,flatMap_cons->eA,flatMap_eq_nil_iff->dc,getElem?_cons_succ->aR,getElem?_eq_getElem->ai,getElem?_eq_none->bD,getElem?_map->aS,getElem?_set->cd,getElem_inj->gP,getElem_map->cn,getElem_mem->aw,getElem_of_mem->bH,getLast?_cons_cons->iA,length_cons->ay,length_map->aD,length_pos_of_mem->iG,map_append->dL,map_cons->az,map_tail->kB,mem_append->aQ,mem_append_left->eN,mem_append_right->ga,mem_cons->aC,mem_cons_of_mem->bO,mem_cons_self->dQ,mem_erase_of_ne->iY,mem_filter->aV,mem_flatMap->cJ,mem_flatten->bR,mem_map->aM,mem_map_of_mem->a_,mem_of_find?_eq_some->bh,mem_of_getElem?->aN,mem_range->eC,mem_singleton->bJ,mergeSort_perm->dj,nil_append->aT,nodup_append->fj,nodup_cons->df,nodup_range->jM,not_mem_nil->iu,pairwise_cons->bj,pairwise_flatMap->iN,pairwise_flatten->eo,pairwise_iff_getElem->dO,pairwise_map->c_,perm_ext_iff_of_nodup->ib,range->aJ,range_succ->ka,range_succ_eq_map->dW
open List.Pairwise renaming nil->gh,of_cons->eR
open List.cons renaming injEq->cG
open Nat renaming add_mod_right->jN,lt_or_ge->cg,mod_eq_of_lt->fZ,mod_lt->gp,succ->jB,zero_add->aG
open Option renaming map_map->fX,map_some->ak
open Option.some renaming inj->aW,injEq->ah
open Or renaming inl->ba,inr->aP
open Prod renaming ext->fD,fst->gV,snd->jq
open Prod.mk renaming injEq->cy
namespace Go.Pg
open Classical
def Kw0{α:Type}(key F:α->Int):List α->Int
 | u::v::l=>F u*(key v-key u)+Kw0 key F (v::l)
 | _=>0
theorem KD0{α:Type}{key F G:α->Int}:∀ {l:List α},l.Pairwise (fun a b=>key a<key b)->(∀ u∈l,F u<=G u)->Kw0 key F l<=Kw0 key G l
 | [],_,_=>aX _
 | [_],_,_=>aX _
 | u::v::l,hs,h=>by have h1:=h u (by simp);have hk:=(bj.1 hs).1 v (by simp);have d:=KD0 (l:=v::l) (bj.1 hs).2 fun x c=>h x (by simp at c ⊢;right;exact c);have:=dp h1 (show 0<=key v-key u by omega);simp only[Kw0];omega
theorem Ml0{α:Type}{key F G:α->Int}:∀ {l:List α},l.Pairwise (fun a b=>key a<key b)->(∀ u∈l,F u<=G u)->∀ u∈l,F u<G u->(∀ z,l.getLast?=some z->F z=G z)->Kw0 key F l<Kw0 key G l
 | [],_,_,u,hu,_,_=>by simp at hu
 | [a],_,_,u,hu,c,hz=>by simp only[bJ]at hu;subst hu;have:=hz u rfl;omega
 | a::v::l,hs,h,u,hu,c,hz=>by
  have h1:=h a (by simp);have hk:=(bj.1 hs).1 v (by simp);have d:=(bj.1 hs).2;have h2:∀ x∈v::l,F x<=G x:=fun x f=>h x (by simp at f ⊢;right;exact f);simp only[Kw0];rcases aC.1 hu with rfl | hu
  ·have g:=KD0 d h2
   have:=Int.mul_lt_mul_of_pos_right c (show 0<key v-key u by omega);omega
  have g:=Ml0 d h2 u hu c (fun z e=>hz z (by rw[iA];exact e));have:=dp h1 (show 0<=key v-key a by omega);omega
theorem KU0{α:Type}{key F G:α->Int}:∀ {l:List α},(∀ u∈l,F u=G u)->Kw0 key F l=Kw0 key G l
 | [],_=>rfl
 | [_],_=>rfl
 | u::v::l,h=>by simp only[Kw0];rw[h u (by simp),KU0 (l:=v::l) fun x a=>h x (by simp at a ⊢;right;exact a)]
theorem abel{α:Type}(key d:α->Int):∀ (l:List α) (u:α) (w:Int) (F:α->Int) (pre:List α),w=sm pre d->(∀ (p q:List α) (x:α),u::l=p++x::q->F x=w+sm p d+d x) ->
  ∀ z,(u::l).getLast?=some z->Kw0 key F (u::l)+w*key u+sm (u::l) (fun x=>d x*key x)=(w+sm (u::l) d)*key z
 | [],u,w,F,pre,_,_,z,hz=>by simp at hz;subst hz;simp only[Kw0,sm,dE];omega
 | v::l,u,w,F,pre,hw,hF,z,hz=>by
  rw[iA]at hz;have b:=hF [] (v::l) u rfl;simp only[sm,eJ]at b;have c:=abel key d l v (w+d u) F (pre++[u]) (by rw[JC0,hw];simp[sm]) (fun p q x a=>by
   have:=hF (u::p) q x (by rw[a];rfl);simp only[sm]at this;omega) z hz
  simp only[Kw0,sm]at c ⊢;rw[b];rw[bz];rw[dE]at c;have e1:(w+d u)*key u=w*key u+d u*key u:=dE ..;have e2:(w+d u)*key v=w*key v+d u*key v:=dE ..;have e3:(w+(d u+(d v+sm l d)))*key z=(w+d u+(d v+sm l d))*key z:=by congr 1;omega
  omega
namespace Net
variable {ι:Type} {N:Net ι} (hP:N.Plane)
def key(N:Net ι)(k:Int)(e:ι):Int:=N.X e k+N.X e (k+1)
theorem sum_cr{d:ι->Int}(a:N.Cir d)(k:Int):sm N.E (fun e=>if N.cr e k then d e else 0)=0:=by
 have h:=a fun p=>decide (p.2<=k);refine jK ?_ h;refine Jq0 fun e he=>?_;simp only[Ad];have b:=N.ord e he;by_cases c1:(N.lo e).2<=k<;>by_cases c2:(N.hi e).2<=k
 ·have:¬ N.cr e k:=fun h=>by have:=h.2;omega
  simp[c1,c2,this]
 ·have:N.cr e k:=⟨c1,by omega⟩
  simp[c1,c2,this]
 ·omega
 have:¬ N.cr e k:=fun h=>c1 h.1;simp[c1,c2,this]
include hP
theorem strip(k:Int):∃ l:List ι,l.Perm (N.E.filter fun e=>decide (N.cr e k))/\l.Pairwise (fun a b=>N.key k a<N.key k b):=by
 refine⟨(N.E.filter fun e=>decide (N.cr e k)).mergeSort (fun a b=>decide (N.key k a<=N.key k b)),dj ..,?_⟩;have h1:=List.pairwise_mergeSort (le:=fun a b=>decide (N.key k a<=N.key k b)) (fun a b c h1 h2=>by simp only[Ad]at *;omega) (fun a b=>by simp only[br,Ad];omega) (N.E.filter fun e=>decide (N.cr e k));have h2:((N.E.filter fun e=>decide (N.cr e k)).mergeSort (fun a b=>decide (N.key k a<=N.key k b))).Nodup:=(dj _ _).nodup_iff.2 (hP.nodup.filter _);have f:∀ x∈(N.E.filter fun e=>decide (N.cr e k)).mergeSort (fun a b=>decide (N.key k a<=N.key k b)),x∈N.E/\N.cr x k:=fun x g=>by have:=(dj _ _).mem_iff.1 g;rw[aV]at this;simpa using this
 have m:=dO.1 h1;have n:=dO.1 h2;refine dO.2 fun i j hi hj d=>?_;have a:=m i j hi hj d;have b:=n i j hi hj d;simp only[Ad]at a;have m1:=f _ (aw hi);have m2:=f _ (aw hj);have:N.key k _≠N.key k _:=fun h=>b (Walks.key_eq hP m1.1 m2.1 m1.2 m2.2 h);omega
theorem KB0{d:ι->Int}(n:N.Cir d){k:Int}{l:List ι}(hp:l.Perm (N.E.filter fun e=>decide (N.cr e k)))(hs:l.Pairwise (fun a b=>N.key k a<N.key k b)) :
  sm N.E (fun e=>if N.cr e k then d e*N.key k e else 0)=- Kw0 (N.key k) (fun u=>N.L d (u,false)) l/\∀ z,l.getLast?=some z->N.L d (z,false)=0:=by
 have i:∀ u∈l,u∈N.E/\N.cr u k:=fun u hu=>by have:=hp.mem_iff.1 hu;rw[aV]at this;simpa using this
 have f:∀ F:ι->Int,sm l F=sm N.E (fun e=>if N.cr e k then F e else 0):=fun F=>by rw[Ld0 hp,JP0];exact Jq0 fun e _=>by simp
 have hF:∀ (p q:List ι) (x:ι),l=p++x::q->N.L d (x,false)=sm p d+d x:=by
  intro p q x hl;have o:=i x (by rw[hl];simp);have e2:N.L d (x,false)=N.W d k x+d x:=by have:=ME0 hP n (h:=(x,true)) o.1;rw[Walks.L_up hP _ n o.1 o.2]at this;exact this
  have e3:N.W d k x=sm l (fun t=>if N.key k t<N.key k x then d t else 0):=by
   rw[f];refine Jq0 fun t _=>?_;by_cases c:N.cr t k
   ·simp only[c,Aq,Al];rfl
   simp[c]
  have j:=hs;rw[hl]at j;obtain⟨_,s2,r⟩:=List.pairwise_append.1 j;have e4:sm l (fun t=>if N.key k t<N.key k x then d t else 0)=sm p d:=by
   rw[hl,JC0];have v:sm p (fun t=>if N.key k t<N.key k x then d t else 0)=sm p d:=Jq0 fun t m=>Af (r t m x (by simp));have a2:sm (x::q) (fun t=>if N.key k t<N.key k x then d t else 0)=0:=Jt0 fun t m=>by
    rcases aC.1 m with rfl | m
    ·exact Ae (by omega)
    have:=(bj.1 s2).1 t m;exact Ae (by omega)
   omega
  omega
 have g:sm l d=0:=by rw[f];exact sum_cr n k
 constructor
 ·rw[<- f]
  cases l with
  | nil=>simp[sm,Kw0]
  | cons u l=>
   obtain⟨z,hz⟩:∃ z,(u::l).getLast?=some z:=by
    cases hz:(u::l).getLast? with
    | none=>simp at hz
    | some z=>exact⟨z,rfl⟩
   have:=abel (N.key k) d l u 0 (fun u=>N.L d (u,false)) [] rfl (fun p q x hl=>by
    have:=hF p q x hl;omega) z hz
   rw[g]at this;omega
 intro z hz;cases l with
 | nil=>simp at hz
 | cons u l=>obtain⟨s,e⟩:=List.getLast?_eq_some_iff.1 hz;have:=hF s [] z (by rw[e]);rw[e,JC0]at g;simp only[sm]at g;omega
end Net
end Go.Pg
namespace Go.Pg
open Classical
theorem MW0{α:Type}{f g:α->Int}:∀ {l:List α},(∀ a∈l,f a<=g a)->sm l f<=sm l g
 | [],_=>aX _
 | a::l,h=>by have h1:=h a (by simp);have h2:=MW0 (f:=f) (g:=g) (l:=l) fun b c=>h b (by simp[c]);simp only[sm];omega
theorem MN0{α:Type}{f g:α->Int}:∀ {l:List α},(∀ a∈l,f a<=g a)->∀ a∈l,f a<g a->sm l f<sm l g
 | [],_,a,ha,_=>by simp at ha
 | b::l,h,a,ha,c=>by
  have h1:=h b (by simp);have h2:∀ x∈l,f x<=g x:=fun x d=>h x (by simp[d]);simp only[sm];rcases aC.1 ha with rfl | ha
  ·have:=MW0 h2;omega
  have:=MN0 h2 a ha c;omega
namespace Net
variable {ι κ:Type} {N:Net ι} (hP:N.Plane)
def Tr(N:Net ι)(e:ι):Int:=((N.lo e).1+(N.hi e).1)*((N.hi e).2-(N.lo e).2)
def crs(N:Net ι)(h:Hf ι):Int:=(N.src h).1*(N.dst h).2-(N.dst h).1*(N.src h).2
noncomputable def area2(w:N.Walks κ)(C:κ):Int:=sm N.halves (fun h=>if w.c h=C then N.crs h else 0)
theorem poly(a b c d:Int):a*d-b*c-(a*c-b*d)=(a+b)*(d-c):=by rw[dE,bz,bz];omega
theorem LW0(w:N.Walks κ)(C:κ):area2 w C=- sm N.E (fun e=>w.dC C e*N.Tr e):=by
 have h:=w.closed C (fun p=>p.1*p.2);have e:area2 w C-sm N.halves (fun h=>if w.c h=C then (N.src h).1*(N.src h).2-(N.dst h).1*(N.dst h).2 else 0)=- sm N.E (fun e=>w.dC C e*N.Tr e):=by unfold area2;rw[<- Kc0,sm_halves,<-Lj0];refine Jq0 fun e _=>?_;have p1:=poly (N.lo e).1 (N.hi e).1 (N.lo e).2 (N.hi e).2;have s1:N.src (e,true)=N.lo e:=rfl;have s2:N.src (e,false)=N.hi e:=rfl;have d:N.dst (e,true)=N.hi e:=rfl;have f:N.dst (e,false)=N.lo e:=rfl;unfold crs Tr Walks.dC ind;rw[s1,s2,d,f,<-p1];by_cases a:w.c (e,true)=C<;>by_cases b:w.c (e,false)=C<;>simp only[a,b,Al,Ah]<;>omega
 rw[<- e,h];omega
def Ky0(e:ι)(N:Net ι)(x:Int):Int:=max (N.lo e).2 (min (N.hi e).2 x)
def Gq(N:Net ι)(e:ι)(k:Int):Int:=2*(N.M*(N.lo e).1)*(k-(N.lo e).2)+N.s e*((k-(N.lo e).2)*(k-(N.lo e).2))
theorem Ne0(e:ι)(k:Int):N.Gq e (k+1)-N.Gq e k=N.key k e:=by
 unfold Gq key X;have e1:k+1-(N.lo e).2=(k-(N.lo e).2)+1:=by omega
 rw[e1];generalize k-(N.lo e).2=t;generalize N.M*(N.lo e).1=a;generalize N.s e=s;have h1:(t+1)*(t+1)=t*t+t+t+1:=by rw[dE,fw,fH,Int.one_mul];omega
 rw[h1];simp only[fw,fH];omega
theorem Mt0{e:ι}(he:e∈N.E){a:Int}(ha:a<=(N.lo e).2):∀ n:Nat,sm (aJ n) (fun j:Nat=>if N.cr e (a+j)then N.key (a+j) e else 0)=N.Gq e (Ky0 e N (a+n))
 | 0=>by
  have b:=N.ord e he;have:Ky0 e N (a+(0:Nat))=(N.lo e).2:=by unfold Ky0;omega
  rw[this];simp[sm,Gq]
 | n+1=>by
  have b:=N.ord e he;rw[ka,JC0,Mt0 he ha n];simp only[sm];by_cases c:N.cr e (a+n)
  ·have h1:=c.1
   have h2:=c.2;have c1:Ky0 e N (a+n)=a+n:=by unfold Ky0;omega
   have c2:Ky0 e N (a+(n+1:Nat))=a+n+1:=by unfold Ky0;omega
   have:=Ne0 (N:=N) e (a+n);rw[Af c,c1,c2];omega
  have c2:Ky0 e N (a+(n+1:Nat))=Ky0 e N (a+n):=by unfold cr at c;unfold Ky0;omega
  rw[Ae c,c2];omega
theorem Gq_hi{e:ι}(he:e∈N.E):N.Gq e (N.hi e).2=N.M*N.Tr e:=by
 unfold Gq Tr;rcases N.ord e he with a | ⟨a,_⟩
 ·have hs:=N.slope e he a
  rw[<- bK (N.s e),hs];generalize (N.hi e).2-(N.lo e).2=t;have h2:2*(N.M*(N.lo e).1)+N.M*((N.hi e).1-(N.lo e).1)=N.M*((N.lo e).1+(N.hi e).1):=by rw[bz,fw];omega
  rw[<- dE,h2,bK]
 rw[<- a];simp
theorem bounds(N:Net ι):∃ (a:Int) (n:Nat),∀ e∈N.E,a<=(N.lo e).2/\(N.hi e).2<=a+n:=by
 generalize N.E=E
 induction E with
 | nil=>exact⟨0,0,fun e h=>by simp at h⟩
 | cons e E b=>
  obtain⟨a,n,h⟩:=b;refine⟨min a (N.lo e).2,(max (a+n) (N.hi e).2-min a (N.lo e).2).toNat,fun f hf=>?_⟩;rcases aC.1 hf with rfl | hf
  ·omega
  have:=h f hf;omega
include hP
noncomputable def Kd0(k:Int):List ι:=(strip hP k).choose
theorem JK0(k:Int):(Kd0 hP k).Perm (N.E.filter fun e=>decide (N.cr e k))/\(Kd0 hP k).Pairwise (fun a b=>N.key k a<N.key k b):=(strip hP k).choose_spec
theorem JY0{k:Int}{e:ι}:e∈Kd0 hP k↔e∈N.E/\N.cr e k:=by rw[(JK0 hP k).1.mem_iff,aV];simp
theorem Kf0:∃ (a:Int) (n:Nat),(∀ e∈N.E,a<=(N.lo e).2/\(N.hi e).2<=a+n)/\∀ {κ:Type} (w:N.Walks κ) (C:κ),N.M*area2 w C=sm (aJ n) (fun j:Nat=>Kw0 (N.key (a+j)) (fun u=>N.L (w.dC C) (u,false)) (Kd0 hP (a+j))):=by
 obtain⟨a,n,c⟩:=bounds N;refine⟨a,n,c,fun w C=>?_⟩;have e1:N.M*sm N.E (fun e=>w.dC C e*N.Tr e)=sm N.E (fun e=>sm (aJ n) (fun j:Nat=>if N.cr e (a+j)then w.dC C e*N.key (a+j) e else 0)):=by
  rw[<- Le0];refine Jq0 fun e he=>?_;have b:=c e he;have d:=N.ord e he;have h1:=Mt0 he b.1 n;have c1:Ky0 e N (a+n)=(N.hi e).2:=by unfold Ky0;omega
  rw[c1,Gq_hi he]at h1;have h2:sm (aJ n) (fun j:Nat=>if N.cr e (a+j)then w.dC C e*N.key (a+j) e else 0)=sm (aJ n) (fun j:Nat=>w.dC C e*(if N.cr e (a+j)then N.key (a+j) e else 0)):=Jq0 fun j _=>by split<;>simp
  rw[h2,Le0,h1,<-bK,<-bK,bG N.M]
 rw[LW0,da,e1,Kl0,<-Lj0];refine Jq0 fun j _=>?_;obtain⟨p1,p2⟩:=JK0 hP (a+j);have:=(KB0 hP (w.cir C) p1 p2).1;show-sm N.E (fun e=>if N.cr e (a+j)then w.dC C e*N.key (a+j) e else 0)=_;omega
theorem Mv0{κ b:Type}(w:N.Walks κ)(w':N.Walks b){C:κ}{D:b}(h:∀ e∈N.E,N.up e->N.L (w.dC C) (e,false)<=N.L (w'.dC D) (e,false)){u:ι}(hu:u∈N.E)(c:N.up u)(d:N.L (w.dC C) (u,false)<N.L (w'.dC D) (u,false)):area2 w C<area2 w' D:=by
 obtain⟨a,n,f,hs⟩:=Kf0 hP;have h1:=hs w C;have h2:=hs w' D;have g:=f u hu;have hc:N.cr u (N.lo u).2:=⟨aX _,c⟩;have hj:((N.lo u).2-a).toNat<n:=by unfold up at c;omega
 have i:a+(((N.lo u).2-a).toNat:Int)=(N.lo u).2:=by omega
 have:N.M*area2 w C<N.M*area2 w' D:=by
  rw[h1,h2];have hle:∀ k,∀ x∈Kd0 hP k,N.L (w.dC C) (x,false)<=N.L (w'.dC D) (x,false):=fun k x l=>by have:=(JY0 hP).1 l;exact h x this.1 (JV0 hP this.2)
  refine MN0 (fun j _=>KD0 (JK0 hP _).2 (hle _)) ((N.lo u).2-a).toNat (eC.2 hj) ?_;rw[i];refine Ml0 (JK0 hP _).2 (hle _) u ((JY0 hP).2 ⟨hu,hc⟩) d fun z hz=>?_;obtain⟨p1,p2⟩:=JK0 hP (N.lo u).2;rw[(KB0 hP (w.cir C) p1 p2).2 z hz,(KB0 hP (w'.cir D) p1 p2).2 z hz]
 exact Int.lt_of_mul_lt_mul_left this (Int.le_of_lt N.M0)
end Net
end Go.Pg
namespace Go.Pg
open Classical
theorem KI0{α:Type}(key:α->Int):∀ l:List α,Kw0 key (fun _=>0) l=0
 | []=>rfl
 | [_]=>rfl
 | u::v::l=>by simp only[Kw0,KI0 key (v::l)];omega
namespace Net
namespace Walks
variable {ι κ:Type} {N:Net ι} (w:N.Walks κ) (hP:N.Plane)
def InPart(C:κ)(g:Hf ι):Prop:=∀ h,w.c h=C->h.1∈N.E->w.Conn g h
structure West(N:Net ι)(k:Int)(S:ι->Prop):Prop where
 cr:∀ t∈N.E,S t->N.cr t k
 dn:∀ t∈N.E,∀ s∈N.E,S t->N.cr s k->N.key k s<N.key k t->S s
noncomputable def sumS(C:κ)(S:ι->Prop):Int:=sm N.E (fun t=>if S t then w.dC C t else 0)
include hP
theorem L_down{u:ι}(hu:u∈N.E){k:Int}(hc:N.cr u k)(C:κ):N.L (w.dC C) (u,false)=w.sumS C (fun t=>N.cr t k/\N.key k t<=N.key k u):=by
 have e2:N.L (w.dC C) (u,false)=N.W (w.dC C) k u+w.dC C u:=by have:=ME0 hP (w.cir C) (h:=(u,true)) hu;rw[L_up hP _ (w.cir C) hu hc]at this;exact this
 rw[e2,<-Ku0 (w.dC C) hP.nodup hu];unfold W sumS;rw[<- JA0];refine Jq0 fun t e=>?_;by_cases c:t=u
 ·subst c
  have h1:¬ (N.cr t k/\N.X t k+N.X t (k+1)<N.X t k+N.X t (k+1)):=fun h=>by have:=h.2;omega
  have h2:N.cr t k/\N.key k t<=N.key k t:=⟨hc,aX _⟩;rw[Ae h1,Af rfl,Af h2];omega
 rw[Ae c];by_cases h1:N.cr t k/\N.X t k+N.X t (k+1)<N.X u k+N.X u (k+1)
 ·have h2:N.cr t k/\N.key k t<=N.key k u:=⟨h1.1,by have:=h1.2;unfold key;omega⟩
  rw[Af h1,Af h2];omega
 have h2:¬ (N.cr t k/\N.key k t<=N.key k u):=by rintro ⟨a,b⟩;have d:N.key k t≠N.key k u:=fun h=>c (key_eq hP e hu a hc h);exact h1 ⟨a,by unfold key at b d;omega⟩
 rw[Ae h1,Ae h2];rfl
theorem L_upS{u:ι}(hu:u∈N.E){k:Int}(hc:N.cr u k)(C:κ):N.L (w.dC C) (u,true)=w.sumS C (fun t=>N.cr t k/\N.key k t<N.key k u):=by
 rw[L_up hP _ (w.cir C) hu hc];unfold W sumS;refine Jq0 fun t a=>?_;by_cases h:N.cr t k/\N.key k t<N.key k u
 ·have h':N.cr t k/\N.X t k+N.X t (k+1)<N.X u k+N.X u (k+1):=h
  rw[Af h,Af h']
 have h':¬ (N.cr t k/\N.X t k+N.X t (k+1)<N.X u k+N.X u (k+1)):=h;rw[Ae h,Ae h']
omit hP in
theorem Lg0(k:Int)(x:Int):West N k (fun t=>N.cr t k/\N.key k t<=x) :=⟨fun t _ h=>h.1,fun t _ s _ h hs a=>⟨hs,by have:=h.2;omega⟩⟩
omit hP in
theorem KY0(k:Int)(x:Int):West N k (fun t=>N.cr t k/\N.key k t<x) :=⟨fun t _ h=>h.1,fun t _ s _ h hs a=>⟨hs,by have:=h.2;omega⟩⟩
theorem last{g:Hf ι}{k:Int}{S:ι->Prop}(h:West N k S) :
  (∀ t∈N.E,S t->∀ b,¬ w.Conn g (t,b))\/∃ v∈N.E,S v/\N.cr v k/\w.Conn g (v,true)/\∀ t∈N.E,S t->N.key k v<N.key k t->∀ b,¬ w.Conn g (t,b):=by
 by_cases c:(N.E.filter fun t=>decide (S t/\w.Conn g (t,true)))=[]
 ·left
  intro t e hp b f;have:t∈(N.E.filter fun t=>decide (S t/\w.Conn g (t,true))):=aV.2 ⟨e,by simp only[Ad];exact⟨hp,w.conn_trans f (w.conn_half t b true)⟩⟩;rw[c]at this;cases this
 right;obtain⟨u,hu,d⟩:=Ly0 (fun t=>- N.key k t) c;obtain⟨hu,a⟩:=aV.1 hu;simp only[Ad]at a;refine⟨u,hu,a.1,h.cr u hu a.1,a.2,fun t e hp i b f=>?_⟩;have:=d t (aV.2 ⟨e,by simp only[Ad];exact⟨hp,w.conn_trans f (w.conn_half t b true)⟩⟩);omega
theorem sum_last{C:κ}{g:Hf ι}(i:w.InPart C g){k:Int}{S:ι->Prop}(e:West N k S){v:ι}(hv:v∈N.E)(c:S v)(j:∀ t∈N.E,S t->N.key k v<N.key k t->∀ b,¬ w.Conn g (t,b)):w.sumS C S=N.L (w.dC C) (v,false):=by
 have hc:=e.cr v hv c;rw[w.L_down hP hv hc];unfold sumS;refine Jq0 fun t d=>?_;by_cases h1:S t
 ·rw[Af h1]
  by_cases h2:N.cr t k/\N.key k t<=N.key k v
  ·rw[Af h2]
  rw[Ae h2];have f:N.key k v<N.key k t:=by
   rcases du (N.key k v) (N.key k t)with h | h
   ·exact h
   exact Am ⟨e.cr t d h1,h⟩ h2
  exact w.dC_zero fun b l=>j t d h1 f b (i (t,b) l d)
 rw[Ae h1,Ae];rintro ⟨a,b⟩;rcases du (N.key k t) (N.key k v)with h | h
 ·exact h1 (e.dn v hv t d c a h)
 have:=key_eq hP d hv a hc (show N.key k t=N.key k v by omega);rw[this]at h1;exact h1 c
omit hP in
theorem sum_none{C:κ}{g:Hf ι}(a:w.InPart C g){S:ι->Prop}(c:∀ t∈N.E,S t->∀ b,¬ w.Conn g (t,b)):w.sumS C S=0:=w.sum_zero a c
structure Outer(C:κ)(g:Hf ι):Prop where
 mem:g.1∈N.E
 part:w.InPart C g
 own:∀ h,w.Conn g h->N.L (w.dC C) h=ind (w.c h=C)
omit hP in
theorem Nl0(p:Prop):ind p=0\/ind p=1:=by unfold ind;split<;>simp
theorem outer01{C:κ}{g:Hf ι}(hO:w.Outer C g){k:Int}{S:ι->Prop}(c:West N k S):w.sumS C S=0\/w.sumS C S=1:=by
 rcases w.last hP (g:=g) c with h | ⟨v,hv,a,hc,b,d⟩
 ·exact ba (w.sum_none hO.part h)
 rw[w.sum_last hP hO.part c hv a d,hO.own _ (w.conn_trans b (w.conn_half v true false))];exact Nl0 _
theorem outer_of{C:κ}{g:Hf ι}(k:g.1∈N.E)(b:w.InPart C g)(ha:0<area2 w C):w.Outer C g:=by
 obtain⟨o,h1,h2,l⟩:=w.own_part hP k;refine⟨k,b,?_⟩;by_cases c:w.c o=C
 ·exfalso
  have hle:∀ e∈N.E,N.up e->N.L (w.dC C) (e,false)<=0:=by
   intro e he d;have hc:N.cr e (N.lo e).2:=⟨aX _,d⟩;have m:=Lg0 (N:=N) (N.lo e).2 (N.key (N.lo e).2 e);rw[w.L_down hP he hc];rcases w.last hP (g:=g) m with h | ⟨v,hv,f,p,i,q⟩
   ·rw[w.sum_none b h];exact aX _
   rw[w.sum_last hP b m hv f q,l C b _ (w.conn_trans i (w.conn_half v true false)),Ll0 c];rcases Nl0 (w.c (v,false)=C)with h | h<;>omega
  obtain⟨a,n,_,hs⟩:=Kf0 hP;have t:=hs w C;have r:sm (aJ n) (fun j:Nat=>Kw0 (N.key (a+j)) (fun u=>N.L (w.dC C) (u,false)) (Kd0 hP (a+j)))<=sm (aJ n) (fun _=>0):=by refine MW0 fun j _=>?_;rw[<- KI0 (N.key (a+j)) (Kd0 hP (a+j))];exact KD0 (JK0 hP _).2 fun u hu=>by have:=(JY0 hP).1 hu;exact hle u this.1 (JV0 hP this.2)
  rw[Jt0 (fun _ _=>rfl)]at r;have:=ch N.M0 ha;omega
 intro h s;rw[l C b h s,JJ0 c];omega
theorem inside{C D:κ}{g m:Hf ι}(d:w.Outer C g)(n:w.Outer D m)(hn:¬ w.Conn g m)(ha:N.L (w.dC C) m=0){k:Int}{S:ι->Prop}(o:West N k S)(h1:w.sumS C S=1)(h2:w.sumS D S=1):area2 w C<area2 w D:=by
 have r:∀ h,w.Conn m h->h.1∈N.E->¬ w.c h=C:=fun h a hm e=>hn (w.conn_trans (d.part h e hm) (w.conn_symm a));have z:∀ h,w.Conn g h->h.1∈N.E->¬ w.c h=D:=fun h a hm e=>hn (w.conn_trans a (w.conn_symm (n.part h e hm)));have B:∀ h,w.Conn m h->h.1∈N.E->N.L (w.dC C) h=0:=fun h a hm=>by have v:=w.V_conn hP C a n.mem;rw[JJ0 (r _ a hm),JJ0 (r _ (.refl _) n.mem)]at v;omega
 have G:∀ h,w.Conn g h->h.1∈N.E->N.L (w.dC D) h=N.L (w.dC D) g:=fun h a hm=>by have v:=w.V_conn hP D a d.mem;rw[JJ0 (z _ a hm),JJ0 (z _ (.refl _) d.mem)]at v;omega
 have i:∀ {k:Int} {S:ι->Prop},West N k S->w.sumS C S=1->w.sumS D S=N.L (w.dC D) g/\∃ v∈N.E,N.cr v k/\w.Conn g (v,true):=by
  intro k S o h1;rcases w.last hP (g:=g) o with h | ⟨v,hv,H,hc,f,I⟩
  ·rw[w.sum_none d.part h]at h1;cases h1
  rw[w.sum_last hP d.part o hv H I]at h1;refine⟨?_,v,hv,hc,f⟩;have R:∀ t∈N.E,S t->N.key k v<N.key k t->∀ b,¬ w.Conn m (t,b):=by intro t j J U b hb;have V:=o.cr t j J;have e1:N.L (w.dC C) (t,true)=0:=B _ (w.conn_trans hb (w.conn_half t b true)) j;rw[w.L_upS hP j V]at e1;have e2:=w.sum_last hP d.part (KY0 (N:=N) k (N.key k t)) hv ⟨hc,U⟩ (fun s hs K M b2=>I s hs (o.dn t j s hs J K.1 K.2) M b2);omega
  rw[w.sum_last hP n.part o hv H R];exact G _ (w.conn_trans f (w.conn_half v true false)) hv
 obtain⟨hb,v,hv,f,Y⟩:=i o h1;have Z:N.L (w.dC D) g=1:=by omega
 have hle:∀ e∈N.E,N.up e->N.L (w.dC C) (e,false)<=N.L (w.dC D) (e,false):=by
  intro e he hup;have hc:N.cr e (N.lo e).2:=⟨aX _,hup⟩;have hW:=Lg0 (N:=N) (N.lo e).2 (N.key (N.lo e).2 e);rw[w.L_down hP he hc,w.L_down hP he hc];rcases w.outer01 hP d hW with h | h
  ·rcases w.outer01 hP n hW with h' | h'<;>omega
  have:=(i hW h).1;omega
 have hne:(N.E.filter fun t=>decide (N.cr t k/\w.Conn g (t,true)))≠[]:=by intro h0;have:v∈(N.E.filter fun t=>decide (N.cr t k/\w.Conn g (t,true))):=aV.2 ⟨hv,by simp only[Ad];exact⟨f,Y⟩⟩;rw[h0]at this;cases this
 obtain⟨u,hu,l⟩:=Ly0 (fun t=>N.key k t) hne;obtain⟨hu,p⟩:=aV.1 hu;simp only[Ad]at p;have hCu:w.sumS C (fun t=>N.cr t k/\N.key k t<N.key k u)=0:=w.sum_none d.part fun t j hp b q=>by have:=l t (aV.2 ⟨j,by simp only[Ad];exact⟨hp.1,w.conn_trans q (w.conn_half t b true)⟩⟩);have:=hp.2;omega
 have O:w.sumS D (fun t=>N.cr t k/\N.key k t<N.key k u)=1:=by rw[<- w.L_upS hP hu p.1,G _ p.2 hu,Z]
 rcases w.last hP (g:=m) (KY0 (N:=N) k (N.key k u))with h | ⟨x,hx,P,Q,hcnx,hnx⟩
 ·rw[w.sum_none n.part h]at O;cases O
 refine Mv0 hP w w hle hx (JV0 hP Q) ?_;have e1:=w.sum_last hP n.part (KY0 (N:=N) k (N.key k u)) hx P hnx;have e2:N.L (w.dC C) (x,false)=0:=by rw[w.L_down hP hx Q];refine w.sum_none d.part fun t j hp b q=>?_;have:=l t (aV.2 ⟨j,by simp only[Ad];exact⟨hp.1,w.conn_trans q (w.conn_half t b true)⟩⟩);have:=hp.2;have:=P.2;omega
 omega
end Walks
end Net
end Go.Pg
namespace Go.Ab
open Go
def JD0(a b c d:Pt):Prop:=rp0 a b c d=0\/(rp0 a b c d=1/\∃ p,(p=a\/p=b)/\(p=c\/p=d))
theorem Jv0{a b c:Pt}(ha:B7 a=true)(d:B7 b=true)(hc:B7 c=true):cU0 a b c=cross a b c:=by unfold cU0;simp[ha,d,hc]
theorem Mk0{a b c a' b' c':Pt}(h:(cU0 a b c<=0/\0<=cU0 a' b' c')\/(0<=cU0 a b c/\cU0 a' b' c'<=0)):S9 a b c*S9 a' b' c'<=0:=by unfold S9;rcases h with ⟨h1,h2⟩ | ⟨h1,h2⟩<;>(repeat' split)<;>omega
theorem JW0{a b c:Pt}:S9 a b c=0↔cU0 a b c=0:=by
 unfold S9;constructor
 ·intro h;(repeat' split at h)<;>omega
 intro h;simp[h]
def JE0(M s:Int)(a:Pt)(y:Int):Int:=M*a.1+s*(y-a.2)
theorem LX0{M s:Int}{a b p:Pt}(hs:s*(b.2-a.2)=M*(b.1-a.1)):M*cross a b p=(b.2-a.2)*(JE0 M s a p.2-M*p.1):=by
 unfold cross JE0;have e1:M*((b.1-a.1)*(p.2-a.2)-(b.2-a.2)*(p.1-a.1))=M*(b.1-a.1)*(p.2-a.2)-(b.2-a.2)*(M*(p.1-a.1)):=by rw[bz,<-bK];congr 1;rw[<- bK,<-bK,bG M]
 have e2:s*(b.2-a.2)*(p.2-a.2)=(b.2-a.2)*(s*(p.2-a.2)):=by rw[bG s,bK]
 rw[e1,<-hs,e2,<-bz];congr 1;have:=bz M p.1 a.1;omega
theorem JB0{M s:Int}{a b p:Pt}(c:0<M)(hu:a.2<b.2)(hs:s*(b.2-a.2)=M*(b.1-a.1)) :
  (0<cross a b p↔M*p.1<JE0 M s a p.2)/\(cross a b p<0↔JE0 M s a p.2<M*p.1):=by
 have h:=LX0 (p:=p) hs;generalize cross a b p=x at h;generalize hz:JE0 M s a p.2-M*p.1=z at h;have d:0<b.2-a.2:=by omega
 constructor
 ·constructor
  ·intro e
   have:=ch c e;rw[h]at this;have:=bQ this d;omega
  intro f;have:0<(b.2-a.2)*z:=ch d (by omega);rw[<- h]at this;exact bQ this c
 constructor
 ·intro e
  have:M*x<0:=e_ c e;rw[h]at this;have:0<(b.2-a.2)*(-z):=by rw[da];omega
  have:=bQ this d;omega
 intro f;have:0<(b.2-a.2)*(-z):=ch d (by omega);rw[da,<-h,<-da]at this;have:=bQ this c;omega
theorem JQ0{M s:Int}{a b:Pt}(hs:s*(b.2-a.2)=M*(b.1-a.1)):JE0 M s a b.2=M*b.1:=by unfold JE0;rw[hs,bz];omega
theorem JO0(M s:Int)(a:Pt):JE0 M s a a.2=M*a.1:=by simp[JE0]
theorem Mb0(M s t:Int)(a c:Pt)(y z:Int):(JE0 M s a z-JE0 M t c z)-(JE0 M s a y-JE0 M t c y)=(s-t)*(z-y):=by unfold JE0;rw[kK,bz,bz,bz,bz,bz,bz];omega
theorem JT0{a b c d:Pt}(ha:B7 a=true)(e:B7 b=true)(hc:B7 c=true)(f:B7 d=true)(g:a≠b)(h:c≠d)
  (h1:(cross a b c<=0/\0<=cross a b d)\/(0<=cross a b c/\cross a b d<=0)) (h2:(cross c d a<=0/\0<=cross c d b)\/(0<=cross c d a/\cross c d b<=0)) (i:¬ (cross a b c=0/\cross a b d=0)):rp0 a b c d=1:=by
 unfold rp0;have e1:eqP a b=false:=by rw[<- bL,mh0];exact g
 have e2:eqP c d=false:=by rw[<- bL,mh0];exact h
 have t1:=Jv0 ha e hc;have t2:=Jv0 ha e f;have t3:=Jv0 hc f ha;have t4:=Jv0 hc f e;have j:¬ (S9 a b c=0/\S9 a b d=0):=by rw[JW0,JW0,t1,t2];exact i
 have s1:=Mk0 (a:=a) (b:=b) (c:=c) (a':=a) (b':=b) (c':=d) (by rw[t1,t2];exact h1);have s2:=Mk0 (a:=c) (b:=d) (c:=a) (a':=c) (b':=d) (c':=b) (by rw[t3,t4];exact h2);simp only[ha,e,hc,f,eB,Al,e1,e2,aq,Ah,j];rw[Af ⟨s1,s2⟩]
section
variable {M s t:Int} {a b c d:Pt} (hM:0<M) (ha:B7 a=true) (hb:B7 b=true) (hc:B7 c=true) (hd:B7 d=true) (hu:a.2<b.2) (hv:c.2<d.2)
 (hs:s*(b.2-a.2)=M*(b.1-a.1)) (ht:t*(d.2-c.2)=M*(d.1-c.1))
def Dif(M s t:Int)(a c:Pt)(y:Int):Int:=JE0 M s a y-JE0 M t c y
theorem Jy0(M s t:Int)(a c:Pt)(y z:Int):Dif M s t a c z-Dif M s t a c y=(s-t)*(z-y):=Mb0 M s t a c y z
include hM ha hb hc hd hu hv hs ht
theorem LU0:(Dif M s t a c c.2=JE0 M s a c.2-M*c.1)/\(Dif M s t a c d.2=JE0 M s a d.2-M*d.1)/\(Dif M s t a c a.2=M*a.1-JE0 M t c a.2)/\(Dif M s t a c b.2=M*b.1-JE0 M t c b.2):=by unfold Dif;rw[JO0 M t c,JQ0 ht,JO0 M s a,JQ0 hs];exact⟨rfl,rfl,rfl,rfl⟩
theorem Lc0(h1:(Dif M s t a c c.2<=0/\0<=Dif M s t a c d.2)\/(0<=Dif M s t a c c.2/\Dif M s t a c d.2<=0))(h2:(Dif M s t a c a.2<=0/\0<=Dif M s t a c b.2)\/(0<=Dif M s t a c a.2/\Dif M s t a c b.2<=0))(e:¬ (Dif M s t a c c.2=0/\Dif M s t a c d.2=0)):rp0 a b c d=1:=by obtain⟨e1,e2,e3,e4⟩:=LU0 hM ha hb hc hd hu hv hs ht;have l1:=JB0 (p:=c) hM hu hs;have l2:=JB0 (p:=d) hM hu hs;have l3:=JB0 (p:=a) hM hv ht;have f:=JB0 (p:=b) hM hv ht;exact JT0 ha hb hc hd (fun h=>by rw[h]at hu;omega) (fun h=>by rw[h]at hv;omega) (by omega) (by omega) (by omega)
theorem LK0{p:Pt}(h1:p=a\/p=b)(h2:p=c\/p=d):Dif M s t a c p.2=0:=by
 have e:JE0 M s a p.2=M*p.1:=by
  rcases h1 with rfl | rfl
  ·exact JO0 M s _
  exact JQ0 hs
 have f:JE0 M t c p.2=M*p.1:=by
  rcases h2 with rfl | rfl
  ·exact JO0 M t _
  exact JQ0 ht
 unfold Dif;omega
theorem MS0(hm:JD0 a b c d){k:Int}(g:a.2<=k)(h:k+1<=b.2)(i:c.2<=k)(j:k+1<=d.2):¬ (Dif M s t a c k<0/\0<Dif M s t a c (k+1))/\¬ (0<Dif M s t a c k/\Dif M s t a c (k+1)<0):=by
 have st:=Jy0 M s t a c k (k+1);have sa:=Jy0 M s t a c a.2 k;have sc:=Jy0 M s t a c c.2 k;have sb:=Jy0 M s t a c (k+1) b.2;have l:=Jy0 M s t a c (k+1) d.2;have e0:(s-t)*(k+1-k)=s-t:=by rw[show k+1-k=1 by omega,fH]
 constructor
 ·rintro ⟨h1,h2⟩
  have hp:0<=s-t:=by omega
  have p1:=aF hp (show 0<=k-a.2 by omega);have p2:=aF hp (show 0<=k-c.2 by omega);have p3:=aF hp (show 0<=b.2-(k+1)by omega);have p4:=aF hp (show 0<=d.2-(k+1)by omega);have e:=Lc0 hM ha hb hc hd hu hv hs ht (ba ⟨by omega,by omega⟩) (ba ⟨by omega,by omega⟩) (by omega);rcases hm with hm | ⟨_,p,q1,q2⟩
  ·omega
  have:=LK0 hM ha hb hc hd hu hv hs ht q1 q2;rcases q1 with rfl | rfl<;>omega
 rintro ⟨h1,h2⟩;have hp:0<=t-s:=by omega
 have p1:=aF hp (show 0<=k-a.2 by omega);have p2:=aF hp (show 0<=k-c.2 by omega);have p3:=aF hp (show 0<=b.2-(k+1)by omega);have p4:=aF hp (show 0<=d.2-(k+1)by omega);have f:∀ x,(t-s)*x=- ((s-t)*x):=fun x=>by rw[<- gj];congr 1;omega
 rw[f]at p1 p2 p3 p4;have e:=Lc0 hM ha hb hc hd hu hv hs ht (aP ⟨by omega,by omega⟩) (aP ⟨by omega,by omega⟩) (by omega);rcases hm with hm | ⟨_,p,q1,q2⟩
 ·omega
 have:=LK0 hM ha hb hc hd hu hv hs ht q1 q2;rcases q1 with rfl | rfl<;>omega
end
theorem JZ0(a b c:Pt):cross b a c=- cross a b c:=by
 unfold cross;have e1:(a.1-b.1)*(c.2-b.2)=- ((b.1-a.1)*(c.2-b.2)):=by rw[<- gj];congr 1;omega
 have e2:(a.2-b.2)*(c.1-b.1)=- ((b.2-a.2)*(c.1-b.1)):=by rw[<- gj];congr 1;omega
 have e3:(b.1-a.1)*(c.2-b.2)=(b.1-a.1)*(c.2-a.2)-(b.1-a.1)*(b.2-a.2):=by rw[<- bz];congr 1;omega
 have e4:(b.2-a.2)*(c.1-b.1)=(b.2-a.2)*(c.1-a.1)-(b.2-a.2)*(b.1-a.1):=by rw[<- bz];congr 1;omega
 have e5:(b.2-a.2)*(b.1-a.1)=(b.1-a.1)*(b.2-a.2):=bG _ _;omega
theorem LG0(a b c:Pt):cU0 b a c=- cU0 a b c:=by
 unfold cU0;by_cases h:(B7 a&&B7 b&&B7 c)=true
 ·have h':(B7 b&&B7 a&&B7 c)=true:=by simp only[ab]at h ⊢;exact⟨⟨h.1.2,h.1.1⟩,h.2⟩
  rw[Af h,Af h',JZ0]
 have h':¬ (B7 b&&B7 a&&B7 c)=true:=fun h2=>h (by simp only[ab]at h2 ⊢;exact⟨⟨h2.1.2,h2.1.1⟩,h2.2⟩);rw[Ae h,Ae h'];rfl
theorem JH0(a b c:Pt):S9 b a c=- S9 a b c:=by
 unfold S9;rw[LG0]
 (repeat' split)<;>omega
theorem KS0(a b:Pt)(h:a≠b):B9 b a=!B9 a b:=by
 have:¬ (a.1=b.1/\a.2=b.2):=fun ⟨x,y⟩=>h (fD x y);unfold B9;by_cases h1:a.1<b.1
 ·have h2:¬ b.1<a.1:=by omega
  have c:¬ b.1=a.1:=by omega
  simp[h1,h2,c]
 by_cases h2:b.1<a.1
 ·have c:¬ a.1=b.1:=by omega
  simp[h1,h2,c]
 have c:a.1=b.1:=by omega
 by_cases e:a.2<b.2
 ·have d:¬ b.2<a.2:=by omega
  simp[c,e,d]
 have d:b.2<a.2:=by omega
 simp[c,e,d]
theorem Lk0{a b:Pt}(c d:Pt)(h:a≠b):ky0 b a c d=ky0 a b c d:=by unfold ky0;rw[KS0 a b h];cases B9 a b<;>rfl
theorem Lm0(a b:Pt){c d:Pt}(h:c≠d):ky0 a b d c=ky0 a b c d:=by unfold ky0;rw[KS0 c d h];cases B9 c d<;>rfl
theorem LY0{a b:Pt}(c d:Pt)(h:a≠b):rp0 b a c d=rp0 a b c d:=by
 unfold rp0;have e1:eqP a b=false:=by rw[<- bL,mh0];exact h
 have e2:eqP b a=false:=by rw[<- bL,mh0];exact fun x=>h x.symm
 have e3:(B7 b&&B7 a&&B7 c&&B7 d)=(B7 a&&B7 b&&B7 c&&B7 d):=by cases B7 a<;>cases B7 b<;>rfl
 have on:onP b a c=onP a b c:=by
  unfold onP;have e4:(B7 b&&B7 a&&B7 c)=(B7 a&&B7 b&&B7 c):=by cases B7 a<;>cases B7 b<;>rfl
  have e5:decide (cross b a c=0)=decide (cross a b c=0):=by rw[JZ0];exact decide_eq_decide.2 (by omega)
  have e6:Km0 b a c=Km0 a b c:=by unfold Km0;rw[eV b.1,eW b.1,eV b.2,eW b.2]
  rw[e4,e5,e6]
 rw[e3];split
 ·simp only[e1,e2,aq,Ah]
  by_cases e:eqP c d=true
  ·simp only[e,Al,on]
  simp only[e,aq,Ah];have p1:(S9 b a c=0/\S9 b a d=0)↔(S9 a b c=0/\S9 a b d=0):=by rw[JH0,JH0 a b d];omega
  have p2:S9 b a c*S9 b a d=S9 a b c*S9 a b d:=by rw[JH0,JH0 a b d,ko]
  have p3:S9 c d b*S9 c d a=S9 c d a*S9 c d b:=bG _ _;simp only[p1,p2,p3,Lk0 c d h]
 rfl
theorem LZ0(a b:Pt){c d:Pt}(h:c≠d):rp0 a b d c=rp0 a b c d:=by
 unfold rp0;have e1:eqP c d=false:=by rw[<- bL,mh0];exact h
 have e2:eqP d c=false:=by rw[<- bL,mh0];exact fun x=>h x.symm
 have e3:(B7 a&&B7 b&&B7 d&&B7 c)=(B7 a&&B7 b&&B7 c&&B7 d):=by cases B7 a<;>cases B7 b<;>cases B7 c<;>cases B7 d<;>rfl
 have on:onP d c a=onP c d a:=by
  unfold onP;have e4:(B7 d&&B7 c&&B7 a)=(B7 c&&B7 d&&B7 a):=by cases B7 c<;>cases B7 d<;>rfl
  have e5:decide (cross d c a=0)=decide (cross c d a=0):=by rw[JZ0];exact decide_eq_decide.2 (by omega)
  have e6:Km0 d c a=Km0 c d a:=by unfold Km0;rw[eV d.1,eW d.1,eV d.2,eW d.2]
  rw[e4,e5,e6]
 rw[e3,on];split
 ·by_cases e:eqP a b=true
  ·simp only[e,Al]
  simp only[e,e1,e2,aq,Ah];have p1:(S9 a b d=0/\S9 a b c=0)↔(S9 a b c=0/\S9 a b d=0):=And.comm;have p2:S9 a b d*S9 a b c=S9 a b c*S9 a b d:=bG _ _;have p3:S9 d c a*S9 d c b=S9 c d a*S9 c d b:=by rw[JH0,JH0 c d b,ko]
  simp only[p1,p2,p3,Lm0 a b h]
 rfl
theorem JD0.swap1{a b c d:Pt}(h:a≠b)(m:JD0 a b c d):JD0 b a c d:=by
 unfold JD0 at *;rw[LY0 c d h];rcases m with m | ⟨m,p,h1,h2⟩
 ·exact ba m
 exact aP ⟨m,p,h1.symm,h2⟩
theorem JD0.swap2{a b c d:Pt}(h:c≠d)(m:JD0 a b c d):JD0 a b d c:=by
 unfold JD0 at *;rw[LZ0 a b h];rcases m with m | ⟨m,p,h1,h2⟩
 ·exact ba m
 exact aP ⟨m,p,h1,h2.symm⟩
theorem LD0{M s:Int}{a b c d:Pt}(m:0<M)(hu:a.2<b.2)(hv:c.2<d.2)(l1:∀ p,p=a\/p=b\/p=c\/p=d->M*p.1=JE0 M s a p.2) :
  (max a.2 c.2<min b.2 d.2->ky0 a b c d=2)/\(max a.2 c.2=min b.2 d.2->ky0 a b c d=1):=by
 have t:=l1 a (by simp);have u:=l1 b (by simp);have lc:=l1 c (by simp);have ld:=l1 d (by simp);have i:∀ p q:Pt,(p=a\/p=b\/p=c\/p=d)->(q=a\/q=b\/q=c\/q=d)->M*(q.1-p.1)=s*(q.2-p.2):=by
  intro p q hp e;have h1:=l1 p hp;have h2:=l1 q e;unfold JE0 at h1 h2;have n:s*(q.2-p.2)=s*(q.2-a.2)-s*(p.2-a.2):=by rw[<- bz];congr 1;omega
  rw[bz];omega
 have f:∀ p q:Pt,(p=a\/p=b\/p=c\/p=d)->(q=a\/q=b\/q=c\/q=d)->p.2=q.2->p=q:=by
  intro p q hp e h;have:=i p q hp e;rw[show q.2-p.2=0 by omega,dv]at this;rcases eK.1 this with h2 | h2
  ·omega
  exact fD (by omega) h
 by_cases hs:0<=s
 ·have bef:∀ p q:Pt,(p=a\/p=b\/p=c\/p=d)->(q=a\/q=b\/q=c\/q=d)->B9 p q=decide (p.2<q.2):=by
   intro p q hp e;have h:=i p q hp e;unfold B9;by_cases h1:p.2<q.2
   ·have h2:=aF hs (show 0<=q.2-p.2 by omega)
    rw[<- h]at h2;have n:0<=q.1-p.1:=by
     rcases du (q.1-p.1) 0 with g | g
     ·have:=e_ m g;omega
     exact g
    by_cases g:p.1<q.1
    ·simp[h1,g]
    have j:p.1=q.1:=by omega
    simp[h1,j]
   by_cases h2:p.2=q.2
   ·have:=f p q hp e h2
    subst this;simp
   have n:=aF hs (show 0<=p.2-q.2 by omega);have g:s*(p.2-q.2)=- (s*(q.2-p.2)):=by rw[<- da];congr 1;omega
   rw[g,<-h]at n;have j:¬ p.1<q.1:=fun k=>by have:=ch m (show 0<q.1-p.1 by omega);omega
   simp[h1,j]
  have o:B9 b a=false:=by rw[bef b a (by simp) (by simp)];exact Ak (by omega)
  have r:B9 d c=false:=by rw[bef d c (by simp) (by simp)];exact Ak (by omega)
  unfold ky0;simp only[o,r,aq,Ah,bef a c (by simp) (by simp),bef d b (by simp) (by simp),Ad];by_cases c1:a.2<c.2<;>by_cases c2:d.2<b.2<;>simp only[c1,c2,Al,Ah]
  all_goals
   constructor
   ·intro h
    rw[bef _ _ (by simp) (by simp)];rw[Ae (fun he=>by have:=Ap jq ((mh0 _ _).1 he);omega),Af (Ao (by omega))]
   intro h;rw[Af ((mh0 _ _).2 (f _ _ (by simp) (by simp) (by omega)))]
 have bef:∀ p q:Pt,(p=a\/p=b\/p=c\/p=d)->(q=a\/q=b\/q=c\/q=d)->B9 p q=decide (q.2<p.2):=by
  intro p q hp e;have h:=i p q hp e;unfold B9;by_cases h1:q.2<p.2
  ·have h2:=dG (show s<0 by omega) (show q.2-p.2<0 by omega)
   rw[<- h]at h2;have n:=bQ h2 m;have g:p.1<q.1:=by omega
   simp[h1,g]
  by_cases h2:p.2=q.2
  ·have:=f p q hp e h2
   subst this;simp
  have l:s*(q.2-p.2)<0:=Int.mul_neg_of_neg_of_pos (show s<0 by omega) (show 0<q.2-p.2 by omega);rw[<- h]at l;have j:¬ p.1<q.1:=fun k=>by have:=ch m (show 0<q.1-p.1 by omega);omega
  have k:¬ p.1=q.1:=fun k=>by rw[k,kS,dv]at l;omega
  simp[h1,j,k]
 have o:B9 b a=true:=by rw[bef b a (by simp) (by simp)];exact Ao (by omega)
 have r:B9 d c=true:=by rw[bef d c (by simp) (by simp)];exact Ao (by omega)
 unfold ky0;simp only[o,r,Al,bef b d (by simp) (by simp),bef c a (by simp) (by simp),Ad];by_cases c1:a.2<c.2<;>by_cases c2:d.2<b.2<;>simp only[c1,c2,Al,Ah]
 all_goals
  constructor
  ·intro h
   rw[bef _ _ (by simp) (by simp)];rw[Ae (fun he=>by have:=Ap jq ((mh0 _ _).1 he);omega),Af (Ao (by omega))]
  intro h;rw[Af ((mh0 _ _).2 (f _ _ (by simp) (by simp) (by omega)))]
section
variable {M s t:Int} {a b c d:Pt} (hM:0<M) (ha:B7 a=true) (hb:B7 b=true) (hc:B7 c=true) (hd:B7 d=true) (hu:a.2<b.2) (hv:c.2<d.2)
 (hs:s*(b.2-a.2)=M*(b.1-a.1)) (ht:t*(d.2-c.2)=M*(d.1-c.1))
theorem KF0{a b c d:Pt}(ha:B7 a=true)(hb:B7 b=true)(hc:B7 c=true)(hd:B7 d=true)(e:a≠b)(f:c≠d)(h1:cross a b c=0)(h2:cross a b d=0):rp0 a b c d=ky0 a b c d:=by
 unfold rp0;have e1:eqP a b=false:=by rw[<- bL,mh0];exact e
 have e2:eqP c d=false:=by rw[<- bL,mh0];exact f
 have t1:=Jv0 ha hb hc;have t2:=Jv0 ha hb hd;have g:S9 a b c=0/\S9 a b d=0:=by rw[JW0,JW0,t1,t2];exact⟨h1,h2⟩
 simp only[ha,hb,hc,hd,eB,Al,e1,e2,aq,Ah,g];simp
include hM ha hb hc hd hu hv hs ht
theorem Lo0(hst:s=t){k:Int}(g:Dif M s t a c k=0)(hm:JD0 a b c d):¬ max a.2 c.2<min b.2 d.2:=by
 subst hst;obtain⟨e1,e2,e3,e4⟩:=LU0 hM ha hb hc hd hu hv hs ht;have z:∀ y,Dif M s s a c y=0:=fun y=>by have:=Jy0 M s s a c k y;rw[kS,cK]at this;omega
 rw[z]at e1 e2;have l1:∀ p,p=a\/p=b\/p=c\/p=d->M*p.1=JE0 M s a p.2:=by
  rintro p (rfl | rfl | rfl | rfl)
  ·exact(JO0 M s _).symm
  ·exact(JQ0 hs).symm
  ·omega
  omega
 have g1:=JB0 (p:=c) hM hu hs;have g2:=JB0 (p:=d) hM hu hs;have e:=KF0 ha hb hc hd (fun h=>by rw[h]at hu;omega) (fun h=>by rw[h]at hv;omega) (by omega) (by omega);intro f;rcases hm with hm | ⟨hm,_⟩<;>rw[e,(LD0 hM hu hv l1).1 f]at hm<;>omega
theorem MM0(hm:JD0 a b c d){k:Int}(l:a.2<=k)(m:k<=b.2)(n:c.2<=k)(o:k<=d.2)(f:Dif M s t a c k=0):(k=a.2\/k=b.2)/\(k=c.2\/k=d.2):=by
 by_cases hst:s=t
 ·have:=Lo0 hM ha hb hc hd hu hv hs ht hst f hm
  omega
 have sa:=Jy0 M s t a c a.2 k;have sc:=Jy0 M s t a c c.2 k;have sb:=Jy0 M s t a c k b.2;have q:=Jy0 M s t a c k d.2;have e:=Jy0 M s t a c c.2 d.2;have g:¬ (Dif M s t a c c.2=0/\Dif M s t a c d.2=0):=by rintro ⟨x,y⟩;rw[x,y]at e;rcases eK.1 e.symm with h | h<;>omega
 have i:rp0 a b c d=1:=by
  rcases du s t with hl | hl
  ·have j:∀ x,(t-s)*x=- ((s-t)*x):=fun x=>by rw[<- gj];congr 1;omega
   have p1:=aF (show 0<=t-s by omega) (show 0<=k-a.2 by omega);have p2:=aF (show 0<=t-s by omega) (show 0<=k-c.2 by omega);have p3:=aF (show 0<=t-s by omega) (show 0<=b.2-k by omega);have p4:=aF (show 0<=t-s by omega) (show 0<=d.2-k by omega);rw[j]at p1 p2 p3 p4;exact Lc0 hM ha hb hc hd hu hv hs ht (aP ⟨by omega,by omega⟩) (aP ⟨by omega,by omega⟩) g
  have p1:=aF (show 0<=s-t by omega) (show 0<=k-a.2 by omega);have p2:=aF (show 0<=s-t by omega) (show 0<=k-c.2 by omega);have p3:=aF (show 0<=s-t by omega) (show 0<=b.2-k by omega);have p4:=aF (show 0<=s-t by omega) (show 0<=d.2-k by omega);exact Lc0 hM ha hb hc hd hu hv hs ht (ba ⟨by omega,by omega⟩) (ba ⟨by omega,by omega⟩) g
 rcases hm with hm | ⟨_,p,q1,q2⟩
 ·omega
 have h1:=LK0 hM ha hb hc hd hu hv hs ht q1 q2;have h2:=Jy0 M s t a c k p.2;rw[f,h1]at h2;rcases eK.1 (show (s-t)*(p.2-k)=0 by omega)with h | h
 ·omega
 exact⟨by rcases q1 with rfl | rfl<;>omega,by rcases q2 with rfl | rfl<;>omega⟩
theorem MT0(hm:JD0 a b c d){k:Int}(f:a.2<=k)(g:k+1<=b.2)(h:c.2<=k)(i:k+1<=d.2)(e:Dif M s t a c k=0)(h1:Dif M s t a c (k+1)=0):False:=by have h2:=Jy0 M s t a c k (k+1);rw[e,h1,show k+1-k=1 by omega,fH]at h2;have:=Lo0 hM ha hb hc hd hu hv hs ht (by omega) e hm;omega
end
theorem Nh0{M s:Int}{a b c d:Pt}(f:0<M)(ha:B7 a=true)(k:B7 b=true)(hc:B7 c=true)(l:B7 d=true)(hu:a.2<b.2)(hv:c.2=d.2)(hw:c.1<d.1)
  (hs:s*(b.2-a.2)=M*(b.1-a.1)) (hm:JD0 a b c d\/JD0 c d a b) (t:a.2<=c.2) (u:c.2<=b.2) (v:M*c.1<=JE0 M s a c.2) (w:JE0 M s a c.2<=M*d.1) :
  (c.2=a.2\/c.2=b.2)/\(JE0 M s a c.2=M*c.1\/JE0 M s a c.2=M*d.1):=by
 have l1:=JB0 (p:=c) f hu hs;have l2:=JB0 (p:=d) f hu hs;rw[<- hv]at l2;have o:M*c.1<M*d.1:=cx hw f;have s1:cross c d a<=0:=by
  unfold cross;rw[show d.2-c.2=0 by omega,cK];have:=aF (show 0<=d.1-c.1 by omega) (show 0<=c.2-a.2 by omega);have e:(d.1-c.1)*(a.2-c.2)=- ((d.1-c.1)*(c.2-a.2)):=by rw[<- da];congr 1;omega
  omega
 have s2:0<=cross c d b:=by unfold cross;rw[show d.2-c.2=0 by omega,cK];have:=aF (show 0<=d.1-c.1 by omega) (show 0<=b.2-c.2 by omega);omega
 have m:a≠b:=fun h=>by rw[h]at hu;omega
 have n:c≠d:=fun h=>by rw[h]at hw;omega
 have q:=JT0 ha k hc l m n (aP ⟨by omega,by omega⟩) (ba ⟨s1,s2⟩) (by omega);have r:rp0 c d a b=1:=JT0 hc l ha k n m (ba ⟨s1,s2⟩) (aP ⟨by omega,by omega⟩) (by
  rintro ⟨z1,z2⟩;unfold cross at z1 z2;rw[show d.2-c.2=0 by omega,cK]at z1 z2;rcases eK.1 (show (d.1-c.1)*(a.2-c.2)=0 by omega)with h | h
  ·omega
  rcases eK.1 (show (d.1-c.1)*(b.2-c.2)=0 by omega)with h' | h'<;>omega)
 have g:∃ p,(p=a\/p=b)/\(p=c\/p=d):=by
  rcases hm with (h | ⟨_,h⟩) | (h | ⟨_,p,h1,h2⟩)
  ·omega
  ·exact h
  ·omega
  exact⟨p,h2,h1⟩
 obtain⟨p,q1,q2⟩:=g;have i:p.2=c.2:=by rcases q2 with rfl | rfl<;>omega
 have j:JE0 M s a p.2=M*p.1:=by
  rcases q1 with rfl | rfl
  ·exact JO0 M s _
  exact JQ0 hs
 rw[i]at j;constructor
 ·rcases q1 with rfl | rfl<;>omega
 rcases q2 with rfl | rfl
 ·exact ba j
 exact aP j
theorem Lp0{a b c d:Pt}(ha:B7 a=true)(i:B7 b=true)(hc:B7 c=true)(j:B7 d=true)(hu:a.2=b.2)(f:a.1<b.1)(hv:c.2=d.2)(g:c.1<d.1)(k:a.2=c.2)
  (hm:JD0 a b c d) (h1:a.1<d.1) (h2:c.1<b.1):False:=by
 have z:∀ p,p.2=a.2->cross a b p=0:=fun p h=>by unfold cross;rw[show b.2-a.2=0 by omega,show p.2-a.2=0 by omega,cK,dv];rfl
 have e:=KF0 ha i hc j (fun h=>by rw[h]at f;omega) (fun h=>by rw[h]at g;omega) (z c (by omega)) (z d (by omega));have bef:∀ p q:Pt,p.2=q.2->B9 p q=decide (p.1<q.1):=by intro p q h;unfold B9;by_cases h1:p.1<q.1<;>simp[h1,h]
 have l:B9 b a=false:=by rw[bef b a hu.symm];exact Ak (by omega)
 have m:B9 d c=false:=by rw[bef d c hv.symm];exact Ak (by omega)
 have e2:ky0 a b c d=2:=by
  unfold ky0;simp only[l,m,aq,Ah,bef a c k,bef d b (by omega),Ad];by_cases c1:a.1<c.1<;>by_cases c2:d.1<b.1<;>simp only[c1,c2,Al,Ah]
  all_goals
   rw[bef _ _ (by omega)];rw[Ae (fun he=>by have:=Ap gV ((mh0 _ _).1 he);omega),Af (Ao (by omega))]
 rcases hm with hm | ⟨hm,_⟩<;>rw[e,e2]at hm<;>omega
open Go.Pg
def MX0(a b c d:Pt):Prop:=max a.1 b.1<min c.1 d.1\/max c.1 d.1<min a.1 b.1
def Sep(a b c d:Pt):Prop:=JD0 a b c d\/JD0 c d a b\/MX0 a b c d
theorem Sep.swap{a b c d:Pt}(h:Sep a b c d):Sep c d a b:=by
 rcases h with h | h | h
 ·exact aP (ba h)
 ·exact ba h
 exact aP (aP h.symm)
theorem Sep.swap1{a b c d:Pt}(n:a≠b)(h:Sep a b c d):Sep b a c d:=by
 rcases h with h | h | h
 ·exact ba (h.swap1 n)
 ·exact aP (ba (h.swap2 n))
 refine aP (aP ?_);unfold MX0 at *;omega
theorem Sep.swap2{a b c d:Pt}(n:c≠d)(h:Sep a b c d):Sep a b d c:=(h.swap.swap1 n).swap
structure Np0(ι:Type) where
 E:List ι
 src:ι->Pt
 dst:ι->Pt
namespace Np0
variable {ι:Type} (F:Np0 ι)
structure Ok:Prop where
 nodup:F.E.Nodup
 ne:∀ e∈F.E,F.src e≠F.dst e
 near:∀ e∈F.E,B7 (F.src e)=true/\B7 (F.dst e)=true
 meet:∀ e∈F.E,∀ f∈F.E,e≠f->Sep (F.src e) (F.dst e) (F.src f) (F.dst f)
def fwd(e:ι):Bool:=decide ((F.src e).2<(F.dst e).2\/((F.src e).2=(F.dst e).2/\(F.src e).1<(F.dst e).1))
def lo(e:ι):Pt:=bif F.fwd e then F.src e else F.dst e
def hi(e:ι):Pt:=bif F.fwd e then F.dst e else F.src e
def rise(e:ι):Int:=if (F.lo e).2<(F.hi e).2 then (F.hi e).2-(F.lo e).2 else 1
def prod:List ι->Int
 | []=>1
 | e::l=>F.rise e*prod l
theorem rise_pos(e:ι):0<F.rise e:=by unfold rise;split<;>omega
theorem prod_pos:∀ l,0<F.prod l
 | []=>by simp[prod]
 | e::l=>ch (F.rise_pos e) (prod_pos l)
theorem rise_dvd{e:ι}:∀ {l:List ι},e∈l->F.rise e∣F.prod l
 | f::l,h=>by
  rcases aC.1 h with rfl | h
  ·exact jL _ _
  exact kL (rise_dvd h) (Int.dvd_mul_left _ _)
theorem KZ0{F:Np0 ι}(hF:F.Ok){e:ι}(he:e∈F.E):(F.lo e).2<(F.hi e).2\/((F.lo e).2=(F.hi e).2/\(F.lo e).1<(F.hi e).1):=by
 have a:=hF.ne e he;have:¬ ((F.src e).1=(F.dst e).1/\(F.src e).2=(F.dst e).2):=fun ⟨x,y⟩=>a (fD x y);unfold lo hi;cases h:F.fwd e
 ·unfold fwd at h
  have:=of_decide_eq_false h;simp only[Aa];omega
 unfold fwd at h;have:=Aj h;simp only[Ac];exact this
def net(hF:F.Ok):Net ι where
 E:=F.E
 lo:=F.lo
 hi:=F.hi
 M:=F.prod F.E
 s:=fun e=>F.prod F.E*((F.hi e).1-(F.lo e).1) / F.rise e
 M0:=F.prod_pos _
 ord:=fun e he=>KZ0 hF he
 slope:=fun e he hu=>by have e1:F.rise e=(F.hi e).2-(F.lo e).2:=Af hu;have h:=F.rise_dvd he;have h2:F.rise e∣F.prod F.E*((F.hi e).1-(F.lo e).1):=kL h (jL _ _);rw[<- e1];exact Int.ediv_mul_cancel h2
theorem JI0{F:Np0 ι}(hF:F.Ok){e:ι}(he:e∈F.E):B7 (F.lo e)=true/\B7 (F.hi e)=true:=by
 have:=hF.near e he;unfold lo hi;cases F.fwd e
 ·exact⟨this.2,this.1⟩
 exact this
theorem No0{F:Np0 ι}(hF:F.Ok){e f:ι}(he:e∈F.E)(hf:f∈F.E)(h:e≠f):Sep (F.lo e) (F.hi e) (F.lo f) (F.hi f):=by
 have m:=hF.meet e he f hf h;have a:=hF.ne e he;have b:=hF.ne f hf;unfold lo hi;cases F.fwd e<;>cases F.fwd f
 ·exact(m.swap1 a).swap2 b
 ·exact m.swap1 a
 ·exact m.swap2 b
 exact m
section
variable (hF:F.Ok)
theorem X_box{e:ι}(he:e∈F.E)(hu:(F.lo e).2<(F.hi e).2){k:Int}(a:(F.lo e).2<=k)(b:k<=(F.hi e).2) :
  F.prod F.E*min (F.lo e).1 (F.hi e).1<=(F.net hF).X e k/\(F.net hF).X e k<=F.prod F.E*max (F.lo e).1 (F.hi e).1:=by
 have c:=F.prod_pos F.E;have e1:(F.net hF).X e (F.lo e).2=F.prod F.E*(F.lo e).1:=Net.Xlo _ e;have e2:(F.net hF).X e (F.hi e).2=F.prod F.E*(F.hi e).1:=Net.Xhi (F.net hF) he hu;have st:∀ y z,(F.net hF).X e z-(F.net hF).X e y=(F.net hF).s e*(z-y):=fun y z=>by
  unfold Net.X;have:(F.net hF).s e*(z-y)=(F.net hF).s e*(z-((F.net hF).lo e).2)-(F.net hF).s e*(y-((F.net hF).lo e).2):=by rw[<- bz];congr 1;omega
  omega
 have s1:=st (F.lo e).2 k;have s2:=st k (F.hi e).2;have m1:F.prod F.E*min (F.lo e).1 (F.hi e).1<=F.prod F.E*(F.lo e).1:=bN (by omega) (by omega);have m2:F.prod F.E*min (F.lo e).1 (F.hi e).1<=F.prod F.E*(F.hi e).1:=bN (by omega) (by omega);have m3:F.prod F.E*(F.lo e).1<=F.prod F.E*max (F.lo e).1 (F.hi e).1:=bN (by omega) (by omega);have m4:F.prod F.E*(F.hi e).1<=F.prod F.E*max (F.lo e).1 (F.hi e).1:=bN (by omega) (by omega);rcases du ((F.net hF).s e) 0 with h | h
 ·have p1:=aF (show 0<=- (F.net hF).s e by omega) (show 0<=k-(F.lo e).2 by omega)
  have p2:=aF (show 0<=- (F.net hF).s e by omega) (show 0<=(F.hi e).2-k by omega);rw[gj]at p1 p2;omega
 have p1:=aF h (show 0<=k-(F.lo e).2 by omega);have p2:=aF h (show 0<=(F.hi e).2-k by omega);omega
structure Pair(e f:ι):Prop where
 cro:∀ k,(F.net hF).cr e k->(F.net hF).cr f k->¬ ((F.net hF).X e k<(F.net hF).X f k/\(F.net hF).X f (k+1)<(F.net hF).X e (k+1))/\¬ ((F.net hF).X f k<(F.net hF).X e k/\(F.net hF).X e (k+1)<(F.net hF).X f (k+1))
 apt:∀ k,(F.net hF).cr e k->(F.net hF).cr f k->(F.net hF).X e k=(F.net hF).X f k->(F.net hF).X e (k+1)=(F.net hF).X f (k+1)->False
 tch:∀ k,(F.lo e).2<=k->k<=(F.hi e).2->(F.lo f).2<=k->k<=(F.hi f).2->(F.net hF).X e k=(F.net hF).X f k->(k=(F.lo e).2\/k=(F.hi e).2)/\(k=(F.lo f).2\/k=(F.hi f).2)
theorem Pair.symm{e f:ι}(h:F.Pair hF e f):F.Pair hF f e :=⟨fun k a b=>(h.cro k b a).symm,fun k a b x y=>h.apt k b a x.symm y.symm,fun k a b c d x=>(h.tch k c d a b x.symm).symm⟩
theorem pair_meet{e f:ι}(he:e∈F.E)(hf:f∈F.E)(d:(F.lo e).2<(F.hi e).2)(g:(F.lo f).2<(F.hi f).2)(hm:JD0 (F.lo e) (F.hi e) (F.lo f) (F.hi f)):F.Pair hF e f:=by
 have i:=(F.net hF).M0;have c:∀ e f y,Dif (F.net hF).M ((F.net hF).s e) ((F.net hF).s f) (F.lo e) (F.lo f) y=(F.net hF).X e y-(F.net hF).X f y:=fun _ _ _=>rfl;have sl:∀ e∈F.E,(F.lo e).2<(F.hi e).2->(F.net hF).s e*((F.hi e).2-(F.lo e).2)=(F.net hF).M*((F.hi e).1-(F.lo e).1):=(F.net hF).slope;constructor
 ·intro k c1 c2
  have h:=MS0 i (JI0 hF he).1 (JI0 hF he).2 (JI0 hF hf).1 (JI0 hF hf).2 d g (sl e he d) (sl f hf g) hm (k:=k) c1.1 c1.2 c2.1 c2.2;rw[c,c]at h;constructor
  ·rintro ⟨a,b⟩;exact h.1 ⟨by omega,by omega⟩
  rintro ⟨a,b⟩;exact h.2 ⟨by omega,by omega⟩
 ·intro k c1 c2 h1 h2
  exact MT0 i (JI0 hF he).1 (JI0 hF he).2 (JI0 hF hf).1 (JI0 hF hf).2 d g (sl e he d) (sl f hf g) hm (k:=k) c1.1 c1.2 c2.1 c2.2 (by rw[c];omega) (by rw[c];omega)
 intro k j l m n h;exact MM0 i (JI0 hF he).1 (JI0 hF he).2 (JI0 hF hf).1 (JI0 hF hf).2 d g (sl e he d) (sl f hf g) hm (k:=k) j l m n (by rw[c];omega)
theorem pair_far{e f:ι}(he:e∈F.E)(hf:f∈F.E)(h:(F.lo e).2<(F.hi e).2)(i:(F.lo f).2<(F.hi f).2)(hm:max (F.lo e).1 (F.hi e).1<min (F.lo f).1 (F.hi f).1):F.Pair hF e f:=by
 have lt:∀ k,(F.lo e).2<=k->k<=(F.hi e).2->(F.lo f).2<=k->k<=(F.hi f).2->(F.net hF).X e k<(F.net hF).X f k:=fun k b c d g=>by have h1:=(F.X_box hF he h b c).2;have h2:=(F.X_box hF hf i d g).1;have l:=cx hm (F.prod_pos F.E);omega
 have a:∀ k,(F.net hF).cr e k->(F.net hF).cr f k->(F.net hF).X e k<(F.net hF).X f k/\(F.net hF).X e (k+1)<(F.net hF).X f (k+1):=fun k c1 c2=>by have j:(F.lo e).2<=k:=c1.1;have a2:k<(F.hi e).2:=c1.2;have a3:(F.lo f).2<=k:=c2.1;have a4:k<(F.hi f).2:=c2.2;exact⟨lt k j (by omega) a3 (by omega),lt (k+1) (by omega) (by omega) (by omega) (by omega)⟩
 constructor
 ·intro k c1 c2;have:=a k c1 c2;omega
 ·intro k c1 c2;have:=a k c1 c2;omega
 intro k b c d g;have:=lt k b c d g;omega
theorem pair{e f:ι}(he:e∈F.E)(hf:f∈F.E)(a:(F.lo e).2<(F.hi e).2)(b:(F.lo f).2<(F.hi f).2)(h:e≠f):F.Pair hF e f:=by
 rcases No0 hF he hf h with m | m | m | m
 ·exact F.pair_meet hF he hf a b m
 ·exact(F.pair_meet hF hf he b a m).symm
 ·exact F.pair_far hF he hf a b m
 exact(F.pair_far hF hf he b a m).symm
theorem plane:(F.net hF).Plane:=by
 have u:=(F.net hF).M0;have sl:∀ e∈F.E,(F.lo e).2<(F.hi e).2->(F.net hF).s e*((F.hi e).2-(F.lo e).2)=(F.net hF).M*((F.hi e).1-(F.lo e).1):=(F.net hF).slope;constructor
 ·exact hF.nodup
 ·intro e he f hf k c1 c2 h
  by_cases a:e=f
  ·subst a;omega
  have:=((F.pair hF he hf (cV c1.1 c1.2) (cV c2.1 c2.2) a).cro k c1 c2).1;omega
 ·intro e he f hf k c1 c2 h
  by_cases a:e=f
  ·subst a;omega
  have:=((F.pair hF he hf (cV c1.1 c1.2) (cV c2.1 c2.2) a).cro k c1 c2).2;omega
 ·intro e he f hf k c1 c2 h1 h2
  rcases ia (e=f)with h | a
  ·exact h
  exact((F.pair hF he hf (cV c1.1 c1.2) (cV c2.1 c2.2) a).apt k c1 c2 h1 h2).elim
 ·intro e he f hf k d v a l n w x h
  exact((F.pair hF he hf d v a).tch k l n w x h).1
 ·intro e he f hf d p l n r t
  have a:e≠f:=fun h=>p (h▸d);have o:=KZ0 hF hf;have q:¬ (F.lo f).2<(F.hi f).2:=p;have z:(F.lo f).2=(F.hi f).2:=by omega
  have B:(F.lo f).1<(F.hi f).1:=by omega
  have m:=No0 hF he hf a;by_cases c:MX0 (F.lo e) (F.hi e) (F.lo f) (F.hi f)
  ·have b:=F.X_box hF he d l n
   have C:F.prod F.E*(F.lo f).1<=(F.net hF).X e (F.lo f).2:=r;have D:(F.net hF).X e (F.lo f).2<=F.prod F.E*(F.hi f).1:=t;have b':F.prod F.E*min (F.lo e).1 (F.hi e).1<=(F.net hF).X e (F.lo f).2/\(F.net hF).X e (F.lo f).2<=F.prod F.E*max (F.lo e).1 (F.hi e).1:=b;rcases c with h | h
   ·have:=cx (show max (F.lo e).1 (F.hi e).1<(F.lo f).1 by omega) (F.prod_pos F.E)
    omega
   have:=cx (show (F.hi f).1<min (F.lo e).1 (F.hi e).1 by omega) (F.prod_pos F.E);omega
  have G:JD0 (F.lo e) (F.hi e) (F.lo f) (F.hi f)\/JD0 (F.lo f) (F.hi f) (F.lo e) (F.hi e):=by
   rcases m with m | m | m
   ·exact ba m
   ·exact aP m
   exact(c m).elim
  exact Nh0 u (JI0 hF he).1 (JI0 hF he).2 (JI0 hF hf).1 (JI0 hF hf).2 d z B (sl e he d) G l n r t
 intro e he f hf H p I h1 h2;rcases ia (e=f)with h | a
 ·exact h
 have J:¬ (F.lo e).2<(F.hi e).2:=H;have q:¬ (F.lo f).2<(F.hi f).2:=p;have g:(F.lo e).1<(F.hi f).1:=h1;have i:(F.lo f).1<(F.hi e).1:=h2;have j:(F.lo e).2=(F.lo f).2:=I;have o1:=KZ0 hF he;have o2:=KZ0 hF hf;rcases No0 hF he hf a with m | m | m
 ·exact(Lp0 (JI0 hF he).1 (JI0 hF he).2 (JI0 hF hf).1 (JI0 hF hf).2 (by omega) (by omega) (by omega) (by omega) j m g i).elim
 ·exact(Lp0 (JI0 hF hf).1 (JI0 hF hf).2 (JI0 hF he).1 (JI0 hF he).2 (by omega) (by omega) (by omega) (by omega) j.symm m i g).elim
 unfold MX0 at m;omega
end
end Np0
theorem KO0{s:Sg}{m:List (Int×Pt)}:∀ {r:List Sg},r.Pairwise (fun a b=>sgW a<=sgW b)->iU0 s m r=true->∀ t∈r,hM0 s t m=true\/sgE s<sgW t
 | [],_,_,t,c=>by simp at c
 | u::r,hp,h,t,c=>by
  unfold iU0 at h;by_cases d:sgE s<sgW u
  ·right
   rcases aC.1 c with rfl | c
   ·exact d
   have:=List.rel_of_pairwise_cons hp c;omega
  rw[Ak d]at h;simp only[Aa,ab]at h;rcases aC.1 c with rfl | c
  ·exact ba h.1
  exact KO0 (eR hp) h.2 t c
theorem Ki0{ns:List Nd}{m:List (Int×Pt)}:∀ {l:List Sg},l.Pairwise (fun a b=>sgW a<=sgW b)->goB ns m l=true->l.Pairwise (fun s t=>hM0 s t m=true\/sgE s<sgW t)/\∀ s∈l,∀ n∈ns,dm0 s n=true
 | [],_,_=>by simp
 | s::r,hp,h=>by
  unfold goB at h;simp only[ab,aj]at h;obtain⟨h1,h2,d⟩:=h;obtain⟨i1,i2⟩:=Ki0 (eR hp) d;refine⟨bj.2 ⟨KO0 (eR hp) h1,i1⟩,?_⟩;intro u hu n c;rcases aC.1 hu with rfl | hu
  ·exact h2 n c
  exact i2 u hu n c
theorem Lf0{n:Nd}:∀ {ns:List Nd} (m:List (Int×Pt)),(ns.map (·.1)).Pairwise (·<·)->n∈ns->lkp qI n.1 (mkMap ns m)=some (n.2.1,n.2.2)
 | u::ns,m,hp,a=>by
  rw[az,bj]at hp;rcases aC.1 a with rfl | a
  ·show lkp qI n.1 (mkMap ns (V9 qI n.1 (n.2.1,n.2.2) m))=_
   rw[Lu0 n.1 ns _ (fun v hv=>by have:=hp.1 v.1 (a_ hv);omega),ba0];simp
  show lkp qI n.1 (mkMap ns (V9 qI u.1 (u.2.1,u.2.2) m))=_;exact Lf0 _ hp.2 a
theorem LT0{α:Type}{R:α->α->Prop}(sy:∀ x y,R x y->R y x)(b:∀ x,R x x):∀ {l:List α},l.Pairwise R->∀ {x y},x∈l->y∈l->R x y
 | a::l,hp,x,y,d,c=>by
  rw[bj]at hp;rcases aC.1 d with h1 | h1
  ·rcases aC.1 c with h2 | h2
   ·rw[h1,h2];exact b _
   rw[h1];exact hp.1 y h2
  rcases aC.1 c with h2 | h2
  ·rw[h2];exact sy _ _ (hp.1 x h1)
  exact LT0 sy b hp.2 h1 h2
structure JG0(ns:List Nd)(ars:List Ar)(s:Sg)(a:Ar)(p:List Pt)(i:Nat):Prop where
 arc:a∈ars
 path:pathOf ns ars a.1=some p
 at':i+1<p.length
 eq:s=(Jz0 a p,(i:Int))
namespace JG0
variable {ns:List Nd} {ars:List Ar} {s:Sg} {a:Ar} {p:List Pt} {i:Nat} (h:JG0 ns ars s a p i)
include h
theorem sa:p[i]?=some (sgA s):=by have:=h.at';rw[h.eq];show p[i]?=some ((p[i]?).getD (0,0));rw[ai (by omega)];rfl
theorem sb:p[i+1]?=some (sgB s):=by have:=h.at';rw[h.eq];show p[i+1]?=some ((p[i+1]?).getD (0,0));rw[ai (by omega)];rfl
theorem first:bj0 s=decide (i=0):=by rw[h.eq];unfold bj0;exact decide_eq_decide.2 (by show (i:Int)=0↔_;omega)
theorem last:cO0 s=decide (i+2=p.length):=by have:=h.at';rw[h.eq];unfold cO0;exact decide_eq_decide.2 (by show (i:Int)=(p.length:Int)-2↔_;omega)
end JG0
namespace cw0
variable {ns:List Nd} {ars:List Ar} {fs:List Int} (h:cw0 ns ars fs)
include h
theorem seg_of{r:List Sg}(b:cF0 ns ars ars=some r){s:Sg}(hs:s∈r):∃ a p i,JG0 ns ars s a p i:=by obtain⟨a,ha,p,hp,hm⟩:=Kb0 b s hs;obtain⟨i,hi,e⟩:=qr0 hm;exact⟨a,p,i,ha,hp,hi,e⟩
theorem seg_ne{s:Sg}{a:Ar}{p:List Pt}{i:Nat}(o:JG0 ns ars s a p i):sgA s≠sgB s:=by obtain⟨f,t,_,_,b,c,_⟩:=h.path o.arc;rw[o.path]at b;cases b;exact nc0 c o.sa o.sb
theorem seg_near{s:Sg}{a:Ar}{p:List Pt}{i:Nat}(o:JG0 ns ars s a p i):B7 (sgA s)=true/\B7 (sgB s)=true :=⟨cA0 (h.pathNear o.arc o.path _ (aN o.sa)),cA0 (h.pathNear o.arc o.path _ (aN o.sb))⟩
theorem seg_first{s:Sg}{a:Ar}{p:List Pt}{i:Nat}(o:JG0 ns ars s a p i)(hi:i=0){n:Nd}(d:n∈ns)(e:a.2.1=n.1):sgA s=(n.2.1,n.2.2):=by obtain⟨f,t,h1,_,b,_⟩:=h.path o.arc;rw[o.path]at b;have c:=o.sa;rw[e,h.nodeOf_self d]at h1;cases h1;cases b;subst hi;simp at c;exact c.symm
theorem seg_last{s:Sg}{a:Ar}{p:List Pt}{i:Nat}(o:JG0 ns ars s a p i)(hi:i+2=p.length){n:Nd}(d:n∈ns)(e:a.2.2.1=n.1):sgB s=(n.2.1,n.2.2):=by
 obtain⟨f,t,_,h2,b,_⟩:=h.path o.arc;rw[o.path]at b;have c:=o.sb;rw[e,h.nodeOf_self d]at h2;cases h2;cases b;simp at hi;have:i=a.2.2.2.1.length:=by omega
 subst this;simp at c;exact c.symm
theorem seg_end{s:Sg}{a:Ar}{p:List Pt}{i:Nat}(o:JG0 ns ars s a p i){n:Nd}(b:n∈ns)(hf:dm0 s n=true)(c:onP (sgA s) (sgB s) (n.2.1,n.2.2)=true):(n.2.1,n.2.2)=sgA s\/(n.2.1,n.2.2)=sgB s:=by
 unfold dm0 at hf;rw[c,o.first,o.last]at hf;simp only[aA,cw,br,ab,Ad]at hf;rcases hf with ⟨x,y⟩ | ⟨x,y⟩
 ·exact ba (h.seg_first o x b (by rw[o.eq]at y;exact y)).symm
 exact aP (h.seg_last o x b (by rw[o.eq]at y;exact y)).symm
theorem same_arc{s t:Sg}{a b:Ar}{p q:List Pt}{i j:Nat}(o:JG0 ns ars s a p i)(o':JG0 ns ars t b q j)(e:s.1.1=t.1.1):a=b/\p=q:=by
 have d:a.1=b.1:=by rw[o.eq,o'.eq]at e;exact e
 have h1:=h.arcOf_self o.arc;have h2:=h.arcOf_self o'.arc;rw[d,h2]at h1;cases h1;have c:=o.path;rw[o'.path]at c;cases c;exact⟨rfl,rfl⟩
theorem loop_end{a:Ar}{p:List Pt}(ha:a∈ars)(hp:pathOf ns ars a.1=some p)(e:a.2.1=a.2.2.1){i:Nat}(hi:i+2=p.length){x y:Pt}(b:p[0]?=some x)(c:p[i+1]?=some y):x=y:=by
 obtain⟨f,t,h1,h2,d,_⟩:=h.path ha;rw[hp]at d;rw[<- e,h1]at h2;cases h2;cases d;simp at hi b;have:i=a.2.2.2.1.length:=by omega
 subst this;simp at c;rw[<- b,<-c]
theorem node_of{a:Ar}(ha:a∈ars):(∃ n∈ns,n.1=a.2.1)/\∃ n∈ns,n.1=a.2.2.1:=by obtain⟨f,t,h1,h2,_⟩:=h.path ha;exact⟨⟨f,bh h1,by have:=eZ h1;simpa using this⟩,⟨t,bh h2,by have:=eZ h2;simpa using this⟩⟩
theorem compat_ok{s t:Sg}{a b:Ar}{p q:List Pt}{i j:Nat}(o:JG0 ns ars s a p i)(o':JG0 ns ars t b q j)(l:s≠t)(m:∀ n∈ns,dm0 s n=true)(u:∀ n∈ns,dm0 t n=true)(hc:hM0 s t (mkMap ns [])=true):JD0 (sgA s) (sgB s) (sgA t) (sgB t):=by
 unfold hM0 at hc;simp only at hc;by_cases e:s.1.1=t.1.1
 ·rw[Ao e]at hc
  simp only[Ac]at hc;obtain⟨rfl,rfl⟩:=h.same_arc o o' e;have e1:s.2=(i:Int):=by rw[o.eq]
  have e2:t.2=(j:Int):=by rw[o'.eq]
  have e3:s.1.2.1=a.2.1/\s.1.2.2.1=a.2.2.1:=by rw[o.eq];exact⟨rfl,rfl⟩
  have e4:t.1.2.1=a.2.1/\t.1.2.2.1=a.2.2.1:=by rw[o'.eq];exact⟨rfl,rfl⟩
  rw[e1,e2,e3.1,e3.2,e4.1,e4.2,o.first,o.last,o'.first,o'.last]at hc;have v:i≠j:=fun h=>l (by rw[o.eq,o'.eq,h]);by_cases f:(j:Int)<(i:Int)
  ·rw[Ao f]at hc
   simp only[Ac]at hc;by_cases c:(decide ((j:Int)+1=(i:Int))||(decide (a.2.1=a.2.2.1)&&(decide (j=0)&&decide (i+2=p.length))))=true
   ·rw[c]at hc
    simp only[Ac,Ad]at hc;refine aP ⟨hc,?_⟩;simp only[br,ab,Ad]at c;rcases c with c | ⟨l1,l2,l3⟩
    ·have:j+1=i:=by omega
     subst this;have k:sgA s=sgB t:=aW (o.sa.symm.trans o'.sb);exact⟨sgA s,ba rfl,aP k⟩
    subst l2;have:=h.loop_end o.arc o.path l1 l3 o'.sa o.sb;exact⟨sgB s,aP rfl,ba this.symm⟩
   rw[eb.2 c]at hc;simp only[Aa,Ad]at hc;exact ba hc
  rw[Ak f]at hc;simp only[Aa]at hc;by_cases c:(decide ((i:Int)+1=(j:Int))||(decide (a.2.1=a.2.2.1)&&(decide (i=0)&&decide (j+2=p.length))))=true
  ·rw[c]at hc
   simp only[Ac,Ad]at hc;refine aP ⟨hc,?_⟩;simp only[br,ab,Ad]at c;rcases c with c | ⟨l1,l2,l3⟩
   ·have:i+1=j:=by omega
    subst this;have k:=o'.sa;rw[o.sb]at k;exact⟨sgB s,aP rfl,ba (aW k)⟩
   subst l2;have:=h.loop_end o'.arc o'.path l1 l3 o.sa o'.sb;exact⟨sgA s,ba rfl,aP this⟩
  rw[eb.2 c]at hc;simp only[Aa,Ad]at hc;exact ba hc
 rw[Ak e]at hc;simp only[Aa]at hc;by_cases d:rp0 (sgA s) (sgB s) (sgA t) (sgB t)=1
 ·rw[Ao d]at hc
  simp only[Ac]at hc;refine aP ⟨d,?_⟩;have key:∀ n∈ns,(onP (sgA s) (sgB s) (fK0 (mkMap ns []) n.1)&&onP (sgA t) (sgB t) (fK0 (mkMap ns []) n.1))=true->∃ x,(x=sgA s\/x=sgB s)/\(x=sgA t\/x=sgB t):=by
   intro n g r;have:fK0 (mkMap ns []) n.1=(n.2.1,n.2.2):=by unfold fK0;rw[Lf0 [] (I2 h.ascN) g];rfl
   rw[this,ab]at r;exact⟨(n.2.1,n.2.2),h.seg_end o g (m n g) r.1,h.seg_end o' g (u n g) r.2⟩
  have e3:s.1.2.1=a.2.1/\s.1.2.2.1=a.2.2.1:=by rw[o.eq];exact⟨rfl,rfl⟩
  obtain⟨⟨w,m1,q1⟩,z,m2,q2⟩:=h.node_of o.arc;rw[e3.1,e3.2,<-q1,<-q2,br]at hc;rcases hc with hc | hc
  ·exact key w m1 (ab _ _▸hc).2
  exact key z m2 (ab _ _▸hc).2
 rw[Ak d]at hc;simp only[Aa,Ad]at hc;exact ba hc
theorem seg_sep{r:List Sg}(k:cF0 ns ars ars=some r){s t:Sg}(hs:s∈r)(v:t∈r)(l:s≠t):Sep (sgA s) (sgB s) (sgA t) (sgB t):=by
 have hp:=h.plan;unfold cB0 at hp;rw[k]at hp;simp only at hp;have m:=kD0 (fT0 r);have c:=S5 (fT0 r);have f:(Z0 qI0 r).Pairwise (fun a b=>sgW a<=sgW b):=m.imp fun {a b} x=>by unfold qI0 at x;rw[df0]at x;omega
 obtain⟨g1,g2⟩:=Ki0 f hp;have g3:(Z0 qI0 r).Pairwise (fun s t=>s≠t->Sep (sgA s) (sgB s) (sgA t) (sgB t)):=by
  refine g1.imp_of_mem fun {x y} n u d g=>?_;obtain⟨a,p,i,o⟩:=h.seg_of k (c.mem_iff.1 n);obtain⟨b,q,j,o'⟩:=h.seg_of k (c.mem_iff.1 u);rcases d with hc | hf
  ·exact ba (h.compat_ok o o' g (g2 x n) (g2 y u) hc)
  exact aP (aP (ba hf))
 exact LT0 (R:=fun s t=>s≠t->Sep (sgA s) (sgB s) (sgA t) (sgB t)) (fun x y d g=>(d fun e=>g e.symm).swap) (fun x g=>(g rfl).elim) g3 (c.mem_iff.2 hs) (c.mem_iff.2 v) l
end cw0
theorem Ks0{ns:List Nd}{ars:List Ar}:∀ {l:List Ar} {r:List Sg},(l.map (·.1)).Pairwise (·<·)->cF0 ns ars l=some r->r.Nodup
 | [],r,_,h=>by simp[cF0]at h;subst h;simp
 | a::l,r,hp,h=>by
  rw[az,bj]at hp;unfold cF0 at h;split at h
  ·cases h
  rename_i p f;cases hc:((decide (a.2.1=a.2.2.1)&&decide (p.length<4))||!(ny0 p))with
  | true=>rw[hc]at h;cases h
  | false=>
   rw[hc]at h;simp only[Aa]at h;split at h
   ·rename_i t d
    cases h;have g:=Ks0 hp.2 d;refine fj.2 ⟨?_,g,?_⟩
    ·unfold iq0
     refine c_.2 (jM.imp ?_);intro x y k c;have:(x:Int)=(y:Int):=Ap jq c;exact k (by omega)
    intro x m y n c;subst c;obtain⟨i,_,e⟩:=qr0 m;obtain⟨b,o,q,_,hm⟩:=Kb0 d x n;obtain⟨j,_,s⟩:=qr0 hm;have e1:a.1=b.1:=by have:=Ap (fun z:Sg=>z.1.1) (e.symm.trans s);exact this
    have:=hp.1 b.1 (a_ o);omega
   cases h
theorem Mh0(a b:Pt):cross a b a=0:=by unfold cross;simp
theorem MA0(a b:Pt):cross a b b=0:=by unfold cross;rw[bG (b.2-a.2)];omega
theorem LR0{a b x:Pt}(ha:B7 a=true)(c:B7 b=true)(d:x=a\/x=b):S9 a b x=0:=by
 rw[JW0];rcases d with rfl | rfl
 ·rw[Jv0 ha c ha];exact Mh0 _ _
 rw[Jv0 ha c c];exact MA0 _ _
theorem Mm0{a b c:Pt}(h1:B9 b a=false)(h2:B9 c b=false):B9 c a=false:=by unfold B9 at *;simp only[dJ,eH,An]at *;omega
theorem Ka0(a:Pt):B9 a a=false:=by unfold B9;simp
theorem KP0{a b:Pt}(h:B9 a b=true):B9 b a=false:=by unfold B9 at *;simp only[dJ,eH,An,br,ab,Ad]at *;omega
theorem Me0{a b:Pt}(h:B9 b a=false):eqP a b=true\/B9 a b=true:=by rw[mh0,Prod.ext_iff];unfold B9 at *;simp only[dJ,eH,An,br,ab,Ad]at *;omega
theorem MV0{a b c d x:Pt}(ha:B7 a=true)(j:B7 b=true)(hc:B7 c=true)(k:B7 d=true)(g:a≠b)(i:c≠d)(h1:x=a\/x=b)(h2:x=c\/x=d):rp0 a b c d≠0:=by
 unfold rp0;have e1:eqP a b=false:=by rw[<- bL,mh0];exact g
 have e2:eqP c d=false:=by rw[<- bL,mh0];exact i
 have s1:=LR0 ha j h1;have s2:=LR0 hc k h2;have p1:S9 a b c*S9 a b d=0:=by
  rcases h2 with rfl | rfl
  ·rw[s1,cK]
  rw[s1,dv]
 have p2:S9 c d a*S9 c d b=0:=by
  rcases h1 with rfl | rfl
  ·rw[s2,cK]
  rw[s2,dv]
 simp only[ha,j,hc,k,eB,Al,e1,e2,aq,Ah,p1,p2];split
 ·have st:∀ {u v:Pt},(x=u\/x=v)->B9 x (if B9 v u=true then v else u)=false/\B9 (if B9 v u=true then u else v) x=false:=by
   intro u v l;by_cases hv:B9 v u=true
   ·rw[Af hv,Af hv]
    rcases l with rfl | rfl
    ·exact⟨KP0 hv,Ka0 _⟩
    exact⟨Ka0 _,KP0 hv⟩
   have e:=eb.2 hv;rw[Ae hv,Ae hv];rcases l with rfl | rfl
   ·exact⟨Ka0 _,e⟩
   exact⟨e,Ka0 _⟩
  have q1:=st h1;have q2:=st h2;unfold ky0;simp only;generalize (if B9 b a=true then b else a)=a' at *;generalize (if B9 b a=true then a else b)=b' at *;generalize (if B9 d c=true then d else c)=c' at *;generalize (if B9 d c=true then c else d)=f at *;have f1:B9 x (if B9 a' c'=true then c' else a')=false:=by
   split
   ·exact q2.1
   exact q1.1
  have f2:B9 (if B9 f b'=true then f else b') x=false:=by
   split
   ·exact q2.2
   exact q1.2
  rcases Me0 (Mm0 f1 f2)with h | h
  ·rw[Af h];omega
  by_cases h':eqP (if B9 a' c'=true then c' else a') (if B9 f b'=true then f else b')=true
  ·rw[Af h'];omega
  rw[Ae h',Af h];omega
 simp
namespace Np0
variable {ι:Type} (F:Np0 ι) (hF:F.Ok)
include hF
theorem ends_inj{e f:ι}(he:e∈F.E)(hf:f∈F.E)(h1:F.lo e=F.lo f)(h2:F.hi e=F.hi f):e=f:=by
 have a:=F.plane hF;have o:=KZ0 hF he;by_cases hu:(F.lo e).2<(F.hi e).2
 ·have c1:(F.net hF).cr e (F.lo e).2:=⟨aX _,hu⟩
  have c2:(F.net hF).cr f (F.lo e).2:=⟨by show (F.lo f).2<=_;rw[h1];exact aX _,by show _<(F.hi f).2;rw[<- h2];exact hu⟩;have b:∀ y,(F.net hF).X e y=(F.net hF).X f y:=fun y=>by unfold Net.X;show (F.net hF).M*(F.lo e).1+F.prod F.E*((F.hi e).1-(F.lo e).1) / F.rise e*(y-(F.lo e).2)=(F.net hF).M*(F.lo f).1+F.prod F.E*((F.hi f).1-(F.lo f).1) / F.rise f*(y-(F.lo f).2);unfold rise;rw[h1,h2]
  exact a.apart e he f hf _ c1 c2 (b _) (b _)
 have o':=KZ0 hF hf;refine a.flat2 e he f hf hu ?_ ?_ ?_ ?_
 ·show ¬ (F.lo f).2<(F.hi f).2
  rw[<- h1,<-h2];exact hu
 ·show (F.lo e).2=(F.lo f).2
  rw[h1]
 ·show (F.lo e).1<(F.hi f).1
  rw[<- h2];omega
 show (F.lo f).1<(F.hi e).1;rw[<- h1];omega
theorem one_end{e f:ι}(he:e∈F.E)(hf:f∈F.E)(d:e≠f){x y:Pt}(j:x=F.src e\/x=F.dst e)(k:x=F.src f\/x=F.dst f)(l:y=F.src e\/y=F.dst e)(m:y=F.src f\/y=F.dst f):x=y:=by
 rcases ia (x=y)with h | i
 ·exact h
 have o:=KZ0 hF he;have o':=KZ0 hF hf;have c:∀ {g:ι} {z:Pt},(z=F.src g\/z=F.dst g)->z=F.lo g\/z=F.hi g:=by
  intro g z hz;unfold lo hi;cases F.fwd g
  ·exact hz.symm
  exact hz
 have nl:¬ (F.lo e=F.hi f/\F.hi e=F.lo f):=fun ⟨a,b⟩=>by rw[a,b]at o;omega
 exfalso;apply d;rcases c j with a | a<;>rcases c l with b | b<;>rcases c k with a' | a'<;>rcases c m with b' | b'
 all_goals first
  | exact Am (a.trans b.symm) i
  | exact Am (a'.trans b'.symm) i
  | exact F.ends_inj hF he hf (a.symm.trans a') (b.symm.trans b')
  | exact F.ends_inj hF he hf (b.symm.trans b') (a.symm.trans a')
  | exact(nl ⟨a.symm.trans a',b.symm.trans b'⟩).elim
  | exact(nl ⟨b.symm.trans b',a.symm.trans a'⟩).elim
end Np0
def Jp0(r:List Sg):Np0 Sg:=⟨r,sgA,sgB⟩
theorem cw0.famOk{ns:List Nd}{ars:List Ar}{fs:List Int}(h:cw0 ns ars fs){r:List Sg}(b:cF0 ns ars ars=some r):(Jp0 r).Ok where
 nodup:=Ks0 (I2 h.ascA) b
 ne:=fun e he=>by obtain⟨a,p,i,o⟩:=h.seg_of b he;exact h.seg_ne o
 near:=fun e he=>by obtain⟨a,p,i,o⟩:=h.seg_of b he;exact h.seg_near o
 meet:=fun e he f hf c=>h.seg_sep b he hf c
theorem Nm0{a b c d x:Pt}(h1:x=a\/x=b)(h2:x=c\/x=d)(hf:MX0 a b c d):False:=by unfold MX0 at hf;rcases h1 with rfl | rfl<;>rcases h2 with rfl | rfl<;>omega
def Ls0(n:Nd)(s:Sg)(a:Ar)(p:List Pt)(i:Nat):Prop:=(i=0/\a.2.1=n.1/\sgA s=(n.2.1,n.2.2))\/(i+2=p.length/\a.2.2.1=n.1/\sgB s=(n.2.1,n.2.2))
theorem Ls0.end'{n:Nd}{s:Sg}{a:Ar}{p:List Pt}{i:Nat}(h:Ls0 n s a p i):(n.2.1,n.2.2)=sgA s\/(n.2.1,n.2.2)=sgB s:=by
 rcases h with ⟨_,_,h⟩ | ⟨_,_,h⟩
 ·exact ba h.symm
 exact aP h.symm
structure LV0(ns:List Nd)(s t:Sg)(a b:Ar)(p q:List Pt)(i j:Nat)(x:Pt):Prop where
 or:(a=b/\i+1=j/\x=sgB s/\x=sgA t)\/(a=b/\j+1=i/\x=sgA s/\x=sgB t)\/∃ n∈ns,x=(n.2.1,n.2.2)/\Ls0 n s a p i/\Ls0 n t b q j
theorem LV0.symm{ns:List Nd}{s t:Sg}{a b:Ar}{p q:List Pt}{i j:Nat}{x:Pt}(h:LV0 ns s t a b p q i j x):LV0 ns t s b a q p j i x:=by
 rcases h.or with ⟨h1,h2,c,d⟩ | ⟨h1,h2,c,d⟩ | ⟨n,h1,h2,c,d⟩
 ·exact⟨aP (ba ⟨h1.symm,h2,d,c⟩)⟩
 ·exact⟨ba ⟨h1.symm,h2,d,c⟩⟩
 exact⟨aP (aP ⟨n,h1,h2,d,c⟩)⟩
namespace cw0
variable {ns:List Nd} {ars:List Ar} {fs:List Int} (h:cw0 ns ars fs)
include h
theorem at_node{s:Sg}{a:Ar}{p:List Pt}{i:Nat}(o:JG0 ns ars s a p i){n:Nd}(c:n∈ns)(hf:dm0 s n=true)(d:onP (sgA s) (sgB s) (n.2.1,n.2.2)=true):Ls0 n s a p i:=by
 unfold dm0 at hf;rw[d,o.first,o.last]at hf;simp only[aA,cw,br,ab,Ad]at hf;rcases hf with ⟨x,y⟩ | ⟨x,y⟩
 ·have b:a.2.1=n.1:=by rw[o.eq]at y;exact y
  exact ba ⟨x,b,h.seg_first o x c b⟩
 have b:a.2.2.1=n.1:=by rw[o.eq]at y;exact y
 exact aP ⟨x,b,h.seg_last o x c b⟩
theorem compat_share{s t:Sg}{a b:Ar}{p q:List Pt}{i j:Nat}(o:JG0 ns ars s a p i)(o':JG0 ns ars t b q j)(u:s≠t)(v:∀ n∈ns,dm0 s n=true)(B:∀ n∈ns,dm0 t n=true)(hc:hM0 s t (mkMap ns [])=true)
  (one:∀ {x y:Pt},(x=sgA s\/x=sgB s)->(x=sgA t\/x=sgB t)->(y=sgA s\/y=sgB s)->(y=sgA t\/y=sgB t)->x=y) {x:Pt} (f:x=sgA s\/x=sgB s) (g:x=sgA t\/x=sgB t):LV0 ns s t a b p q i j x:=by
 have hm:=MV0 (h.seg_near o).1 (h.seg_near o).2 (h.seg_near o').1 (h.seg_near o').2 (h.seg_ne o) (h.seg_ne o') f g;unfold hM0 at hc;simp only at hc;by_cases e:s.1.1=t.1.1
 ·rw[Ao e]at hc
  simp only[Ac]at hc;obtain⟨rfl,rfl⟩:=h.same_arc o o' e;have e1:s.2=(i:Int):=by rw[o.eq]
  have e2:t.2=(j:Int):=by rw[o'.eq]
  have e3:s.1.2.1=a.2.1/\s.1.2.2.1=a.2.2.1:=by rw[o.eq];exact⟨rfl,rfl⟩
  have e4:t.1.2.1=a.2.1/\t.1.2.2.1=a.2.2.1:=by rw[o'.eq];exact⟨rfl,rfl⟩
  rw[e1,e2,e3.1,e3.2,e4.1,e4.2,o.first,o.last,o'.first,o'.last]at hc;have C:i≠j:=fun h=>u (by rw[o.eq,o'.eq,h]);obtain⟨⟨r,m1,q1⟩,_⟩:=h.node_of o.arc;by_cases l:(j:Int)<(i:Int)
  ·rw[Ao l]at hc
   simp only[Ac]at hc;by_cases c:(decide ((j:Int)+1=(i:Int))||(decide (a.2.1=a.2.2.1)&&(decide (j=0)&&decide (i+2=p.length))))=true
   ·simp only[br,ab,Ad]at c
    rcases c with c | ⟨l1,l2,l3⟩
    ·have:j+1=i:=by omega
     subst this;have d:sgA s=sgB t:=aW (o.sa.symm.trans o'.sb);have:=one f g (ba rfl) (aP d);exact⟨aP (ba ⟨rfl,rfl,this,this.trans d⟩)⟩
    have f1:=h.seg_first o' l2 m1 q1.symm;have f2:=h.seg_last o l3 m1 (l1.symm.trans q1.symm);have:=one f g (aP rfl) (ba (f2.trans f1.symm));exact⟨aP (aP ⟨r,m1,this.trans f2,aP ⟨l3,l1.symm.trans q1.symm,f2⟩,ba ⟨l2,q1.symm,f1⟩⟩)⟩
   rw[eb.2 c]at hc;simp only[Aa,Ad]at hc;exact(hm hc).elim
  rw[Ak l]at hc;simp only[Aa]at hc;by_cases c:(decide ((i:Int)+1=(j:Int))||(decide (a.2.1=a.2.2.1)&&(decide (i=0)&&decide (j+2=p.length))))=true
  ·simp only[br,ab,Ad]at c
   rcases c with c | ⟨l1,l2,l3⟩
   ·have:i+1=j:=by omega
    subst this;have d:sgB s=sgA t:=aW (o.sb.symm.trans o'.sa);have:=one f g (aP rfl) (ba d);exact⟨ba ⟨rfl,rfl,this,this.trans d⟩⟩
   have f1:=h.seg_first o l2 m1 q1.symm;have f2:=h.seg_last o' l3 m1 (l1.symm.trans q1.symm);have:=one f g (ba rfl) (aP (f1.trans f2.symm));exact⟨aP (aP ⟨r,m1,this.trans f1,ba ⟨l2,q1.symm,f1⟩,aP ⟨l3,l1.symm.trans q1.symm,f2⟩⟩)⟩
  rw[eb.2 c]at hc;simp only[Aa,Ad]at hc;exact(hm hc).elim
 rw[Ak e]at hc;simp only[Aa]at hc;by_cases m:rp0 (sgA s) (sgB s) (sgA t) (sgB t)=1
 ·rw[Ao m]at hc
  simp only[Ac]at hc;have key:∀ n∈ns,(onP (sgA s) (sgB s) (fK0 (mkMap ns []) n.1)&&onP (sgA t) (sgB t) (fK0 (mkMap ns []) n.1))=true->LV0 ns s t a b p q i j x:=by
   intro n k w;have:fK0 (mkMap ns []) n.1=(n.2.1,n.2.2):=by unfold fK0;rw[Lf0 [] (I2 h.ascN) k];rfl
   rw[this,ab]at w;have d:=h.at_node o k (v n k) w.1;have z:=h.at_node o' k (B n k) w.2;exact⟨aP (aP ⟨n,k,one f g d.end' z.end',d,z⟩)⟩
  have e3:s.1.2.1=a.2.1/\s.1.2.2.1=a.2.2.1:=by rw[o.eq];exact⟨rfl,rfl⟩
  obtain⟨⟨r,m1,q1⟩,D,m2,q2⟩:=h.node_of o.arc;rw[e3.1,e3.2,<-q1,<-q2,br]at hc;rcases hc with hc | hc
  ·exact key r m1 (ab _ _▸hc).2
  exact key D m2 (ab _ _▸hc).2
 rw[Ak m]at hc;simp only[Aa,Ad]at hc;exact(hm hc).elim
theorem share{r:List Sg}(u:cF0 ns ars ars=some r){s t:Sg}(hs:s∈r)(v:t∈r)(d:s≠t){a b:Ar}{p q:List Pt}{i j:Nat}(o:JG0 ns ars s a p i)(o':JG0 ns ars t b q j){x:Pt}(w:x=sgA s\/x=sgB s)(z:x=sgA t\/x=sgB t):LV0 ns s t a b p q i j x:=by
 have hp:=h.plan;unfold cB0 at hp;rw[u]at hp;simp only at hp;have B:=kD0 (fT0 r);have l:=S5 (fT0 r);have m:(Z0 qI0 r).Pairwise (fun a b=>sgW a<=sgW b):=B.imp fun {a b} x=>by unfold qI0 at x;rw[df0]at x;omega
 obtain⟨g1,g2⟩:=Ki0 m hp;have f:=l.mem_iff.2 hs;have k:=l.mem_iff.2 v;have g3:(Z0 qI0 r).Pairwise (fun s t=>s=t\/hM0 s t (mkMap ns [])=true\/hM0 t s (mkMap ns [])=true\/MX0 (sgA s) (sgB s) (sgA t) (sgB t)):=g1.imp fun {x y} c=>by
  rcases c with hc | hf
  ·exact aP (ba hc)
  exact aP (aP (aP (ba hf)))
 have g4:=LT0 (R:=fun s t=>s=t\/hM0 s t (mkMap ns [])=true\/hM0 t s (mkMap ns [])=true\/MX0 (sgA s) (sgB s) (sgA t) (sgB t)) (fun x y c=>by
  rcases c with c | c | c | c
  ·exact ba c.symm
  ·exact aP (aP (ba c))
  ·exact aP (ba c)
  exact aP (aP (aP c.symm))) (fun x=>ba rfl) g3 f k
 have one:=fun {x y:Pt}=>(Jp0 r).one_end (h.famOk u) hs v d (x:=x) (y:=y);have n:=fun {x y:Pt}=>(Jp0 r).one_end (h.famOk u) v hs (fun e=>d e.symm) (x:=x) (y:=y);rcases g4 with g | g | g | g
 ·exact(d g).elim
 ·exact h.compat_share o o' d (g2 s f) (g2 t k) g one w z
 ·exact(h.compat_share o' o (fun e=>d e.symm) (g2 t k) (g2 s f) g n z w).symm
 exact(Nm0 w z g).elim
end cw0
theorem KK0{M s t:Int}{v a b:Pt}(h1:s*(a.2-v.2)=M*(a.1-v.1))(h2:t*(b.2-v.2)=M*(b.1-v.1)):M*cross v a b=(s-t)*((a.2-v.2)*(b.2-v.2)):=by
 unfold cross;generalize a.2-v.2=A at *;generalize b.2-v.2=B at *;generalize a.1-v.1=x at *;generalize b.1-v.1=y at *;have e1:M*(x*B)=s*(A*B):=by rw[<- bK,<-h1,bK]
 have e2:M*(A*y)=t*(A*B):=by rw[<- bK,bG M A,bK,<-h2,<-bK,bG A t,bK]
 rw[bz,e1,e2,<-kK]
theorem MB0{M c d P:Int}(a:0<M)(b:0<P)(h:M*c=d*P):0<c↔0<d:=by
 constructor
 ·intro hc
  have:=ch a hc;rw[h,bG]at this;exact bQ this b
 intro e;have:=ch e b;rw[<- h]at this;exact bQ this a
section
variable {ι:Type} (N:Net ι)
theorem ML0{g:Net.Hf ι}(c:g.1∈N.E){v w:Pt}(hv:N.src g=v)(hw:N.dst g=w) :
  (N.cls g=0/\v.2=w.2/\v.1<w.1)\/(N.cls g=1/\v.2<w.2/\N.s g.1*(w.2-v.2)=N.M*(w.1-v.1)/\N.X g.1 (v.2+1)=N.M*v.1+N.s g.1) \/
  (N.cls g=2/\v.2=w.2/\w.1<v.1)\/(N.cls g=3/\w.2<v.2/\N.s g.1*(w.2-v.2)=N.M*(w.1-v.1)/\N.X g.1 (v.2-1)=N.M*v.1-N.s g.1):=by
 obtain⟨e,b⟩:=g;have o:=N.ord e c;by_cases hu:N.up e
 ·have hs:=N.slope e c hu
  have d:=N.Xhi c hu;cases b
  ·right;right;right
   have e1:N.hi e=v:=hv;have e2:N.lo e=w:=hw;have a:(N.lo e).2<(N.hi e).2:=hu;rw[e1,e2]at hs a;rw[e1]at d;refine⟨by simp[Net.cls,hu],a,?_,?_⟩
   ·have f:N.s e*(w.2-v.2)=- (N.s e*(v.2-w.2)):=by rw[<- da];congr 1;omega
    have a2:N.M*(w.1-v.1)=- (N.M*(v.1-w.1)):=by rw[<- da];congr 1;omega
    show N.s e*(w.2-v.2)=_;omega
   show N.X e (v.2-1)=_;rw[<- d];show N.M*(N.lo e).1+N.s e*(v.2-1-(N.lo e).2)=N.M*(N.lo e).1+N.s e*(v.2-(N.lo e).2)-N.s e;have:N.s e*(v.2-1-(N.lo e).2)=N.s e*(v.2-(N.lo e).2)-N.s e:=by
    have:v.2-1-(N.lo e).2=(v.2-(N.lo e).2)-1:=by omega
    rw[this,bz,fH]
   omega
  right;left;have e1:N.lo e=v:=hv;have e2:N.hi e=w:=hw;have a:(N.lo e).2<(N.hi e).2:=hu;rw[e1,e2]at hs a;refine⟨by simp[Net.cls,hu],a,hs,?_⟩;show N.X e (v.2+1)=_;unfold Net.X;rw[e1,show v.2+1-v.2=1 by omega,fH]
 have a:¬ (N.lo e).2<(N.hi e).2:=hu;cases b
 ·right;right;left
  have e1:N.hi e=v:=hv;have e2:N.lo e=w:=hw;rw[e1,e2]at o a;exact⟨by simp[Net.cls,hu],by omega,by omega⟩
 left;have e1:N.lo e=v:=hv;have e2:N.hi e=w:=hw;rw[e1,e2]at o a;exact⟨by simp[Net.cls,hu],by omega,by omega⟩
theorem MG0{g h:Net.Hf ι}(m:g.1∈N.E)(n:h.1∈N.E){v a b:Pt}(g1:N.src g=v)(g2:N.dst g=a)(h1:N.src h=v)(h2:N.dst h=b)(p:B7 v=true)(q:B7 a=true)(nb:B7 b=true) :
  bv0 v a b=true↔N.bef v.2 g h:=by
 have i:eqP a v=false:=by rw[<- bL,mh0];rintro rfl;rcases ML0 N m g1 g2 with x | x | x | x<;>omega
 have j:eqP b v=false:=by rw[<- bL,mh0];rintro rfl;rcases ML0 N n h1 h2 with x | x | x | x<;>omega
 have key:bv0 v a b=if Q1 v a=Q1 v b then decide (0<cross v a b)else Q1 v b:=by unfold bv0;simp[p,q,nb,i,j]
 rw[key];unfold Net.bef;have o:=N.M0;rcases ML0 N m g1 g2 with ⟨c1,k,e⟩ | ⟨c1,k,e,z1⟩ | ⟨c1,k,e⟩ | ⟨c1,k,e,z1⟩<;>rcases ML0 N n h1 h2 with ⟨c2,l,f⟩ | ⟨c2,l,f,z2⟩ | ⟨c2,l,f⟩ | ⟨c2,l,f,z2⟩
 all_goals
  have c:Q1 v a=decide (a.2<v.2\/(a.2=v.2/\a.1<v.1)):=by unfold Q1;simp
  have d:Q1 v b=decide (b.2<v.2\/(b.2=v.2/\b.1<v.1)):=by unfold Q1;simp
 case inl.inl=>rw[Ak (by omega)]at c d;rw[c,d,Af rfl,Ad];unfold cross;rw[show a.2-v.2=0 by omega,show b.2-v.2=0 by omega,cK,dv];omega
 case inl.inr.inl=>rw[Ak (by omega)]at c d;rw[c,d,Af rfl,Ad];unfold cross;rw[show a.2-v.2=0 by omega,cK];have:=ch (show 0<a.1-v.1 by omega) (show 0<b.2-v.2 by omega);omega
 case inr.inl.inl=>rw[Ak (by omega)]at c d;rw[c,d,Af rfl,Ad];unfold cross;rw[show b.2-v.2=0 by omega,dv];have:=ch (show 0<a.2-v.2 by omega) (show 0<b.1-v.1 by omega);omega
 case inr.inl.inr.inl=>rw[Ak (by omega)]at c d;rw[c,d,Af rfl,Ad,MB0 o (ch (show 0<a.2-v.2 by omega) (show 0<b.2-v.2 by omega)) (KK0 e f)];omega
 case inr.inr.inl.inr.inr.inl=>rw[Ao (by omega)]at c d;rw[c,d,Af rfl,Ad];unfold cross;rw[show a.2-v.2=0 by omega,show b.2-v.2=0 by omega,cK,dv];omega
 case inr.inr.inl.inr.inr.inr=>rw[Ao (by omega)]at c d;rw[c,d,Af rfl,Ad];unfold cross;rw[show a.2-v.2=0 by omega,cK];have:=dG (show a.1-v.1<0 by omega) (show b.2-v.2<0 by omega);omega
 case inr.inr.inr.inr.inr.inl=>rw[Ao (by omega)]at c d;rw[c,d,Af rfl,Ad];unfold cross;rw[show b.2-v.2=0 by omega,dv];have:=dG (show a.2-v.2<0 by omega) (show b.1-v.1<0 by omega);omega
 case inr.inr.inr.inr.inr.inr=>rw[Ao (by omega)]at c d;rw[c,d,Af rfl,Ad,MB0 o (dG (show a.2-v.2<0 by omega) (show b.2-v.2<0 by omega)) (KK0 e f)];omega
 all_goals first
  | (rw[Ak (by omega)]at c;rw[Ao (by omega)]at d;rw[c,d];simp only[aq,Ah,true_iff];(first | rw[Ae (by simp)] | skip);omega)
  | (rw[Ao (by omega)]at c;rw[Ak (by omega)]at d;rw[c,d,Ae (by simp)];simp only[aq,false_iff];omega)
end
namespace Tot
variable {ι:Type} {N:Net ι} (hP:N.Plane)
include hP
theorem bef_tot{g h:Net.Hf ι}(i:g.1∈N.E)(j:h.1∈N.E){v:Pt}(g1:N.src g=v)(h1:N.src h=v)(p:g≠h):N.bef v.2 g h\/N.bef v.2 h g:=by
 rcases Nat.lt_trichotomy (N.cls g) (N.cls h)with c | c | c
 ·exact ba (ba c)
 ·have a:g.1=h.1->False:=by intro e;obtain⟨e1,q⟩:=g;obtain⟨e2,r⟩:=h;simp only at e;subst e;unfold Net.cls at c;by_cases hu:N.up e1<;>cases q<;>cases r<;>simp[hu]at c<;>exact p rfl
  have key:∀ b:Bool,g.2=b->h.2=b->N.up g.1->N.up h.1->(b=true->N.X g.1 (v.2+1)≠N.X h.1 (v.2+1))/\(b=false->N.X g.1 (v.2-1)≠N.X h.1 (v.2-1)):=by
   intro b t u w z;have m:(N.lo g.1).2<(N.hi g.1).2:=w;have n:(N.lo h.1).2<(N.hi h.1).2:=z;constructor
   ·intro e s
    subst e;have s1:N.lo g.1=v:=by unfold Net.src at g1;rw[t]at g1;exact g1
    have s2:N.lo h.1=v:=by unfold Net.src at h1;rw[u]at h1;exact h1
    refine a (hP.apart g.1 i h.1 j v.2 ⟨by rw[s1];exact aX _,by rw[<- s1];exact m⟩ ⟨by rw[s2];exact aX _,by rw[<- s2];exact n⟩ ?_ s);have o:=N.Xlo g.1;have a2:=N.Xlo h.1;rw[s1]at o;rw[s2]at a2;rw[o,a2]
   intro e s;subst e;have s1:N.hi g.1=v:=by unfold Net.src at g1;rw[t]at g1;exact g1
   have s2:N.hi h.1=v:=by unfold Net.src at h1;rw[u]at h1;exact h1
   rw[s1]at m;rw[s2]at n;refine a (hP.apart g.1 i h.1 j (v.2-1) ⟨by omega,by rw[s1];omega⟩ ⟨by omega,by rw[s2];omega⟩ s ?_);have o:=N.Xhi i w;have a2:=N.Xhi j z;rw[s1]at o;rw[s2]at a2;rw[show v.2-1+1=v.2 by omega,o,a2]
  obtain⟨e1,q⟩:=g;obtain⟨e2,r⟩:=h;by_cases d:N.up e1<;>by_cases f:N.up e2<;>cases q<;>cases r<;>simp[Net.cls,d,f]at c
  ·have:=(key false rfl rfl d f).2 rfl
   have c1:N.cls (e1,false)=3:=by simp[Net.cls,d]
   have c2:N.cls (e2,false)=3:=by simp[Net.cls,f]
   rcases jA this with x | x
   ·exact ba (aP (aP ⟨c1,c2,x⟩))
   exact aP (aP (aP ⟨c2,c1,x⟩))
  ·have:=(key true rfl rfl d f).1 rfl
   have c1:N.cls (e1,true)=1:=by simp[Net.cls,d]
   have c2:N.cls (e2,true)=1:=by simp[Net.cls,f]
   rcases jA this with x | x
   ·exact aP (aP (ba ⟨c2,c1,x⟩))
   exact ba (aP (ba ⟨c1,c2,x⟩))
  ·exfalso
   have s1:N.hi e1=v:=g1;have s2:N.hi e2=v:=h1;have o1:=N.ord e1 i;have o2:=N.ord e2 j;have k:¬ (N.lo e1).2<(N.hi e1).2:=d;have l:¬ (N.lo e2).2<(N.hi e2).2:=f;rw[s1]at o1 k;rw[s2]at o2 l;exact a (hP.flat2 e1 i e2 j d f (by omega) (by rw[s2];omega) (by rw[s1];omega))
  exfalso;have s1:N.lo e1=v:=g1;have s2:N.lo e2=v:=h1;have o1:=N.ord e1 i;have o2:=N.ord e2 j;have k:¬ (N.lo e1).2<(N.hi e1).2:=d;have l:¬ (N.lo e2).2<(N.hi e2).2:=f;rw[s1]at o1 k;rw[s2]at o2 l;exact a (hP.flat2 e1 i e2 j d f (by rw[s1,s2]) (by rw[s1];omega) (by rw[s2];omega))
 exact aP (ba c)
end Tot
def alH(s:Sg):Net.Hf Sg:=(s,(Jp0 []).fwd s)
def agH(s:Sg):Net.Hf Sg:=(s,!(Jp0 []).fwd s)
section
variable {r:List Sg} (hF:(Jp0 r).Ok)
theorem Kp0(s:Sg):((Jp0 r).net hF).src (alH s)=sgA s:=by show (bif (Jp0 []).fwd s then (Jp0 r).lo s else (Jp0 r).hi s)=_;unfold Np0.lo Np0.hi;show (bif (Jp0 r).fwd s then _ else _)=_;cases (Jp0 r).fwd s<;>rfl
theorem Lw0(s:Sg):((Jp0 r).net hF).dst (alH s)=sgB s:=by show (bif (Jp0 []).fwd s then (Jp0 r).hi s else (Jp0 r).lo s)=_;unfold Np0.lo Np0.hi;show (bif (Jp0 r).fwd s then _ else _)=_;cases (Jp0 r).fwd s<;>rfl
theorem Kr0(s:Sg):((Jp0 r).net hF).src (agH s)=sgB s:=by show (bif !(Jp0 []).fwd s then (Jp0 r).lo s else (Jp0 r).hi s)=_;unfold Np0.lo Np0.hi;show (bif !(Jp0 r).fwd s then _ else _)=_;cases (Jp0 r).fwd s<;>rfl
theorem Lx0(s:Sg):((Jp0 r).net hF).dst (agH s)=sgA s:=by show (bif !(Jp0 []).fwd s then (Jp0 r).hi s else (Jp0 r).lo s)=_;unfold Np0.lo Np0.hi;show (bif !(Jp0 r).fwd s then _ else _)=_;cases (Jp0 r).fwd s<;>rfl
theorem JU0(h:Net.Hf Sg):h=alH h.1\/h=agH h.1:=by obtain⟨s,b⟩:=h;unfold alH agH;cases b<;>cases (Jp0 []).fwd s<;>simp
theorem Mn0(s:Sg):Net.rev (alH s)=agH s:=rfl
theorem Mq0(s:Sg):Net.rev (agH s)=alH s:=by unfold Net.rev agH alH;simp
end
theorem JF0{a:Ar}{l:List Pt}{i:Nat}(hi:i+1<l.length):(Jz0 a l,(i:Int))∈iq0 a l:=by unfold iq0;exact aM.2 ⟨i,eC.2 (by omega),rfl⟩
theorem Jw0{ns:List Nd}{ars:List Ar}:∀ {l:List Ar} {r:List Sg},cF0 ns ars l=some r->∀ a∈l,∀ p,pathOf ns ars a.1=some p->∀ s∈iq0 a p,s∈r
 | [],r,h,a,ha=>by simp at ha
 | b::l,r,h,a,ha=>by
  intro p hp s hs;unfold cF0 at h;split at h
  ·cases h
  rename_i q d;cases hc:((decide (b.2.1=b.2.2.1)&&decide (q.length<4))||!(ny0 q))with
  | true=>rw[hc]at h;cases h
  | false=>
   rw[hc]at h;simp only[Aa]at h;split at h
   ·rename_i e c
    cases h;rcases aC.1 ha with rfl | ha
    ·rw[hp]at d
     cases d;exact eN _ hs
    exact ga _ (Jw0 c a ha p hp s hs)
   cases h
def Jr0(ns:List Nd)(ars:List Ar)(d:Int):Net.Hf Sg:=match ct0 ars (jo0 d),pathOf ns ars (jo0 d)with
 | some a,some p=>if 0<d then alH (Jz0 a p,((0:Nat):Int))else agH (Jz0 a p,((p.length-2:Nat):Int))
 | _,_=>default
theorem Mu0{a b x:Pt}(ha:B7 a=true)(d:B7 b=true)(c:x=a\/x=b):onP a b x=true:=by
 have hc:cross a b x=0:=by
  rcases c with rfl | rfl
  ·exact Mh0 _ _
  exact MA0 _ _
 have e:B7 x=true:=by rcases c with rfl | rfl<;>assumption
 unfold onP Km0;simp only[ha,d,e,hc,eB,dD,Ai,ab,Ad];rcases c with rfl | rfl<;>omega
theorem LI0{s t:Sg}(e:alH s=alH t):s=t:=Ap gV e
theorem LH0{s t:Sg}(e:agH s=agH t):s=t:=Ap gV e
theorem JS0{s t:Sg}:alH s≠agH t:=by intro e;have h1:s=t:=Ap gV e;subst h1;have h2:(Jp0 []).fwd s=!(Jp0 []).fwd s:=Ap jq e;cases h:(Jp0 []).fwd s<;>rw[h]at h2<;>cases h2
namespace cw0
variable {ns:List Nd} {ars:List Ar} {fs:List Int} (h:cw0 ns ars fs)
include h
theorem arc_pos{a:Ar}(ha:a∈ars):0<a.1:=by have:=aj.1 h.numA a.1 (a_ ha);unfold hD0 at this;simp only[ab,Ad]at this;omega
theorem first_out{a:Ar}(ha:a∈ars){q:List Pt}(b:pathOf ns ars a.1=some q):Jr0 ns ars a.1=alH (Jz0 a q,((0:Nat):Int)):=by
 have hp:=h.arc_pos ha;have e:jo0 a.1=a.1:=by unfold jo0;omega
 unfold Jr0;rw[e,h.arcOf_self ha,b];simp only[hp,Al]
theorem first_in{a:Ar}(ha:a∈ars){q:List Pt}(b:pathOf ns ars a.1=some q):Jr0 ns ars (-a.1)=agH (Jz0 a q,((q.length-2:Nat):Int)):=by
 have hp:=h.arc_pos ha;have e:jo0 (-a.1)=a.1:=by unfold jo0;omega
 unfold Jr0;rw[e,h.arcOf_self ha,b];simp only;rw[Ae (by omega)]
theorem path_len{a:Ar}(ha:a∈ars){q:List Pt}(c:pathOf ns ars a.1=some q):2<=q.length:=by obtain⟨f,t,_,_,b,_⟩:=h.path ha;rw[c]at b;cases b;simp
variable {r:List Sg} (hr:cF0 ns ars ars=some r)
include hr
theorem free{s:Sg}(hs:s∈r):∀ n∈ns,dm0 s n=true:=by
 have hp:=h.plan;unfold cB0 at hp;rw[hr]at hp;simp only at hp;have d:=kD0 (fT0 r);have c:(Z0 qI0 r).Pairwise (fun a b=>sgW a<=sgW b):=d.imp fun {a b} x=>by unfold qI0 at x;rw[df0]at x;omega
 exact(Ki0 c hp).2 s ((S5 (fT0 r)).mem_iff.2 hs)
theorem around_half{n:Nd}(c:n∈ns){d:Int}(i:d∈G5 ns ars n):(Jr0 ns ars d).1∈r/\((Jp0 r).net (h.famOk hr)).src (Jr0 ns ars d)=(n.2.1,n.2.2) /\
  ((Jp0 r).net (h.famOk hr)).dst (Jr0 ns ars d)=fK0 (bM0 [] (P8 ns ars n.1 ars)) d/\∃ a∈ars,∃ q,pathOf ns ars a.1=some q/\((d=a.1/\Jr0 ns ars d=alH (Jz0 a q,((0:Nat):Int)))\/(d=-a.1/\Jr0 ns ars d=agH (Jz0 a q,((q.length-2:Nat):Int)))):=by
 rw[(h.around_perm c).mem_iff]at i;obtain⟨p,hp,rfl⟩:=aM.1 i;have f:fK0 (bM0 [] (P8 ns ars n.1 ars)) p.1=p.2:=by unfold fK0;rw[dD0 _ [] (h.raw_nodup n.1 (fun _ ha=>ha) (I2 h.ascA)) p hp];rfl
 rw[f];obtain⟨a,ha,q,b,hc⟩:=h.raw_mem (fun _ ha=>ha) hp;have hl:=h.path_len ha b;rcases hc with ⟨e,rfl⟩ | ⟨e,rfl⟩
 ·have hm:(Jz0 a q,((0:Nat):Int))∈r:=Jw0 hr a ha q b _ (JF0 (by omega))
  have o:JG0 ns ars (Jz0 a q,((0:Nat):Int)) a q 0:=⟨ha,b,by omega,rfl⟩;have g:=h.first_out ha b;simp only[g];refine⟨hm,?_,?_,a,ha,q,b,ba ⟨rfl,rfl⟩⟩
  ·rw[Kp0];exact h.seg_first o rfl c e
  rw[Lw0];rfl
 have hm:(Jz0 a q,((q.length-2:Nat):Int))∈r:=Jw0 hr a ha q b _ (JF0 (by omega));have o:JG0 ns ars (Jz0 a q,((q.length-2:Nat):Int)) a q (q.length-2):=⟨ha,b,by omega,rfl⟩;have g:=h.first_in ha b;simp only[g];refine⟨hm,?_,?_,a,ha,q,b,aP ⟨rfl,rfl⟩⟩
 ·rw[Kr0];exact h.seg_last o (by omega) c e
 rw[Lx0];rfl
theorem around_ok{n:Nd}(g:n∈ns):Net.Around ((Jp0 r).net (h.famOk hr)) (n.2.1,n.2.2) ((G5 ns ars n).map (Jr0 ns ars)):=by
 have m:(G5 ns ars n).Nodup:=(h.around_perm g).nodup_iff.2 (h.raw_nodup n.1 (fun _ ha=>ha) (I2 h.ascA));have inj:∀ d∈G5 ns ars n,∀ e∈G5 ns ars n,Jr0 ns ars d=Jr0 ns ars e->d=e:=by
  intro d k e he f;obtain⟨_,_,_,a,ha,q,B,c⟩:=h.around_half hr g k;obtain⟨_,_,_,b,C,D,w,c'⟩:=h.around_half hr g he;rcases c with ⟨rfl,f1⟩ | ⟨rfl,f1⟩<;>rcases c' with ⟨rfl,f2⟩ | ⟨rfl,f2⟩<;>rw[f1,f2]at f
  ·have:=Ap (fun s:Sg=>s.1.1) (LI0 f);exact this
  ·exact Am f JS0
  ·exact Am f.symm JS0
  have:a.1=b.1:=Ap (fun s:Sg=>s.1.1) (LH0 f);rw[this]
 constructor
 ·intro hf
  constructor
  ·intro hm
   obtain⟨d,k,rfl⟩:=aM.1 hm;have:=h.around_half hr g k;exact⟨this.1,this.2.1⟩
  rintro ⟨h1,h2⟩;have l:hf.1∈r:=h1;obtain⟨a,p,i,o⟩:=h.seg_of hr l;have j:=h.seg_near o;have mk:∀ d,d∈(ip0 ns ars n.1 a).map (·.1)->d∈G5 ns ars n:=fun d t=>by rw[(h.around_perm g).mem_iff];obtain⟨x,z,e⟩:=aM.1 t;exact e▸a_ (cJ.2 ⟨a,o.arc,z⟩)
  rcases JU0 hf with e | e
  ·rw[e,Kp0]at h2
   rcases h.at_node o g (h.free hr l n g) (Mu0 j.1 j.2 (ba h2.symm))with ⟨i0,e1,_⟩ | ⟨_,_,e2⟩
   ·refine aM.2 ⟨a.1,mk _ ?_,?_⟩
    ·unfold ip0;rw[o.path];simp[e1]
    rw[h.first_out o.arc o.path,e,o.eq,i0]
   exact Am (h2.trans e2.symm) (h.seg_ne o)
  rw[e,Kr0]at h2;rcases h.at_node o g (h.free hr l n g) (Mu0 j.1 j.2 (aP h2.symm))with ⟨_,_,e2⟩ | ⟨i0,e1,_⟩
  ·exact Am (e2.trans h2.symm) (h.seg_ne o)
  refine aM.2 ⟨-a.1,mk _ ?_,?_⟩
  ·unfold ip0;rw[o.path];simp[e1]
  rw[h.first_in o.arc o.path,e,o.eq,<-i0];rfl
 ·exact c_.2 (m.imp_of_mem fun {d e} k he u f=>u (inj d k e he f))
 have hs:=kD0 (h.cmpA_ordered (h.nodeOf_self g) g);refine c_.2 ((hs.and m).imp_of_mem fun {d e} k he f=>?_);obtain⟨m1,s1,t1,_⟩:=h.around_half hr g k;obtain⟨m2,s2,t2,_⟩:=h.around_half hr g he;rcases Tot.bef_tot ((Jp0 r).plane (h.famOk hr)) m1 m2 s1 s2 (fun x=>f.2 (inj d k e he x))with b | b
 ·exact b
 exfalso;refine f.1 ?_;have v:∀ {hf:Net.Hf Sg},hf.1∈r->B7 (((Jp0 r).net (h.famOk hr)).dst hf)=true:=fun {hf} hm=>by
  obtain⟨a,p,i,o⟩:=h.seg_of hr hm;have:=h.seg_near o;rcases JU0 hf with e | e
  ·rw[e,Lw0];exact this.2
  rw[e,Lx0];exact this.1
 have:=(MG0 ((Jp0 r).net (h.famOk hr)) m2 m1 s2 t2 s1 t1 (cA0 (h.nodePos g)) (t2▸v m2) (t1▸v m1)).2 b;unfold Nk0;rw[Af this];omega
end cw0
section
variable {ι:Type} {N:Net ι} (hP:N.Plane)
include hP
theorem LM0{v:Pt}{g h:Net.Hf ι}(a:g≠h)(mem:∀ k:Net.Hf ι,(k.1∈N.E/\N.src k=v)↔(k=g\/k=h)){d:ι->Int}(c:N.Cir d):N.L d h=N.L d (Net.rev g):=by
 have e:=(mem g).2 (ba rfl);have f:=(mem h).2 (aP rfl);rcases Tot.bef_tot hP e.1 f.1 e.2 f.2 a with b | b
 ·have ha:Net.Around N v [g,h]:=by
   refine⟨fun k=>?_,?_,?_⟩
   ·rw[mem];simp
   ·simp[a]
   simp[b]
  exact Net.L_turn hP c ha (i:=0) (by simp)
 have ha:Net.Around N v [h,g]:=by
  refine⟨fun k=>?_,?_,?_⟩
  ·rw[mem];simp[or_comm]
  ·simp[Ne.symm a]
  simp[b]
 have:=Net.L_turn hP c ha (i:=1) (by simp);simpa using this
end
namespace cw0
variable {ns:List Nd} {ars:List Ar} {fs:List Int} (h:cw0 ns ars fs)
variable {r:List Sg} (hr:cF0 ns ars ars=some r)
include h hr
theorem bend{a:Ar}{p:List Pt}{i:Nat}{s t:Sg}(o:JG0 ns ars s a p i)(o':JG0 ns ars t a p (i+1))(k:Net.Hf Sg) :
  (k.1∈r/\((Jp0 r).net (h.famOk hr)).src k=sgB s)↔(k=agH s\/k=alH t):=by
 have hs:s∈r:=by rw[o.eq];exact Jw0 hr a o.arc p o.path _ (JF0 o.at')
 have l:t∈r:=by rw[o'.eq];exact Jw0 hr a o'.arc p o'.path _ (JF0 o'.at')
 have hst:sgB s=sgA t:=aW (o.sb.symm.trans o'.sa);constructor
 ·rintro ⟨f,d⟩
  by_cases e1:k.1=s
  ·rcases JU0 k with e | e
   ·rw[e,Kp0,e1]at d
    exact Am d (h.seg_ne o)
   rw[e1]at e;exact ba e
  by_cases e2:k.1=t
  ·rcases JU0 k with e | e
   ·rw[e2]at e;exact aP e
   rw[e,Kr0,e2,hst]at d;exact Am d.symm (h.seg_ne o')
  exfalso;obtain⟨b,q,j,u⟩:=h.seg_of hr f;have m:sgB s=sgA k.1\/sgB s=sgB k.1:=by
   rcases JU0 k with e | e
   ·rw[e,Kp0]at d;exact ba d.symm
   rw[e,Kr0]at d;exact aP d.symm
  rcases(h.share hr hs f (fun e=>e1 e.symm) o u (aP rfl) m).or with ⟨rfl,c,_⟩ | ⟨_,_,c,_⟩ | ⟨n,_,c,c1,_⟩
  ·have g:=u.path
   rw[o.path]at g;cases g;exact e2 (by rw[u.eq,o'.eq,c])
  ·exact h.seg_ne o c.symm
  rcases c1 with ⟨_,_,c1⟩ | ⟨c1,_⟩
  ·exact h.seg_ne o (c1.trans c.symm)
  have:=o'.at';omega
 rintro (rfl | rfl)
 ·exact⟨hs,Kr0 _ _⟩
 exact⟨l,(Kp0 _ _).trans hst.symm⟩
theorem left_bend{a:Ar}{p:List Pt}{i:Nat}{s t:Sg}(o:JG0 ns ars s a p i)(o':JG0 ns ars t a p (i+1)){d:Sg->Int}(c:((Jp0 r).net (h.famOk hr)).Cir d) :
  ((Jp0 r).net (h.famOk hr)).L d (alH t)=((Jp0 r).net (h.famOk hr)).L d (alH s)/\((Jp0 r).net (h.famOk hr)).L d (agH s)=((Jp0 r).net (h.famOk hr)).L d (agH t):=by
 have f:=(Jp0 r).plane (h.famOk hr);have m:=h.bend hr o o';have b:agH s≠alH t:=fun e=>JS0 e.symm;constructor
 ·have:=LM0 f b m c
  rw[Mq0]at this;exact this
 have:=LM0 f b.symm (fun k=>(m k).trans Or.comm) c;rw[Mn0]at this;exact this
end cw0
theorem Kh0{l:List Int}(a:l.Nodup){i:Nat}(hi:i<l.length):gi0 l l[i]=l[(i+l.length-1)%l.length]'(gp _ (by omega)):=by
 have hm:l[i]∈l:=aw hi;have e:l.idxOf l[i]=i:=by have h1:l.idxOf l[i]<l.length:=List.idxOf_lt_length_iff.2 hm;have h2:l[l.idxOf l[i]]=l[i]:=List.getElem_idxOf h1;exact(gP a).1 h2
 unfold gi0;rw[Af hm,e,ai (gp _ (by omega))];rfl
theorem Ke0(l:List Int):∀ (x:List Int) (m:List (Int×Int)) (d:Int),lkp qI (-d) (x.foldl (fun m d=>V9 (fun (a b:Int)=>decide (a=b)) (-d) (gi0 l d) m) m)=if d∈x then some (gi0 l d)else lkp qI (-d) m
 | [],m,d=>by simp
 | y::x,m,d=>by
  have c:=Ke0 l x (V9 qI (-y) (gi0 l y) m) d;show lkp qI (-d) (x.foldl _ (V9 qI (-y) (gi0 l y) m))=_;rw[c,ba0];by_cases h1:d∈x
  ·rw[Af h1,Af (bO _ h1)]
  rw[Ae h1];by_cases h2:d=y
  ·subst h2
   rw[Af rfl,Af (dQ ..)]
  rw[Ae (by omega),Ae (by simp[h1,h2])]
theorem KC0{d:Int}{l:List Int}(j:d∈l):∀ (L:List (List Int)) (m:List (Int×Int)),l∈L->(∀ k∈L,d∈k->k=l)->lkp qI (-d) (bk0 L m)=some (gi0 l d)
 | [],m,hl,_=>by simp at hl
 | k::L,m,hl,hu=>by
  show lkp qI (-d) (bk0 L (mV0 k m))=_;by_cases g:l∈L
  ·exact KC0 j L _ g (fun a hk=>hu a (by simp[hk]))
  have hk:k=l:=by
   rcases aC.1 hl with e | e
   ·exact e.symm
   exact(g e).elim
  subst hk;have no:∀ a∈L,d∉a:=fun a hk h=>g (by have:=hu a (by simp[hk]) h;exact this▸hk);have rest:∀ (b:List (List Int)) (c:List (Int×Int)),(∀ a∈b,d∉a)->lkp qI (-d) (bk0 b c)=lkp qI (-d) c:=by
   intro b
   induction b with
   | nil=>intro c _;rfl
   | cons a b n=>intro c f;show lkp qI (-d) (bk0 b (mV0 a c))=_;rw[n _ (fun i hk=>f i (by simp[hk]))];unfold mV0;rw[Ke0,Ae (f a (by simp))]
  rw[rest L _ no];unfold mV0;rw[Ke0,Af j]
def Mi0(k:Net.Hf Sg):Bool:=k.2==(Jp0 []).fwd k.1
theorem JN0(s:Sg):Mi0 (alH s)=true:=by unfold Mi0 alH;simp
theorem JL0(s:Sg):Mi0 (agH s)=false:=by unfold Mi0 agH;cases (Jp0 []).fwd s<;>rfl
def Js0(k:Net.Hf Sg):Int:=if Mi0 k=true then k.1.1.1 else-k.1.1.1
def nxH(ns:List Nd)(ars:List Ar)(k:Net.Hf Sg):Net.Hf Sg :=
 if Mi0 k=true then
  (if k.1.2.toNat+2<k.1.1.path.length then alH (k.1.1,((k.1.2.toNat+1:Nat):Int))else Jr0 ns ars (cw0.nextD ns ars k.1.1.1))else (if 0<k.1.2.toNat then agH (k.1.1,((k.1.2.toNat-1:Nat):Int))else Jr0 ns ars (cw0.nextD ns ars (- k.1.1.1)))
namespace cw0
variable {ns:List Nd} {ars:List Ar} {fs:List Int} (h:cw0 ns ars fs)
include h
theorem around_arc{n:Nd}(c:n∈ns){e:Int}:e∈G5 ns ars n↔∃ a∈ars,(a.2.1=n.1/\e=a.1)\/(a.2.2.1=n.1/\e=-a.1):=by
 rw[(h.around_perm c).mem_iff];constructor
 ·intro he
  obtain⟨p,hp,rfl⟩:=aM.1 he;obtain⟨a,ha,q,i,hc⟩:=h.raw_mem (fun _ ha=>ha) hp;rcases hc with ⟨e,rfl⟩ | ⟨e,rfl⟩
  ·exact⟨a,ha,ba ⟨e,rfl⟩⟩
  exact⟨a,ha,aP ⟨e,rfl⟩⟩
 rintro ⟨a,ha,hc⟩;obtain⟨f,t,h1,h2,d,_⟩:=h.path ha;have mk:e∈(ip0 ns ars n.1 a).map (·.1)->e∈(P8 ns ars n.1 ars).map (·.1):=fun b=>by obtain⟨x,g,e⟩:=aM.1 b;exact e▸a_ (cJ.2 ⟨a,ha,g⟩)
 apply mk;unfold ip0;rw[d];rcases hc with ⟨e1,rfl⟩ | ⟨e1,rfl⟩<;>simp[e1]
theorem arc_id{a b:Ar}(ha:a∈ars)(c:b∈ars)(e:a.1=b.1):a=b:=by have h1:=h.arcOf_self ha;rw[e,h.arcOf_self c]at h1;exact(aW h1).symm
theorem node_id{a b:Nd}(ha:a∈ns)(c:b∈ns)(e:a.1=b.1):a=b:=by have h1:=h.nodeOf_self ha;rw[e,h.nodeOf_self c]at h1;exact(aW h1).symm
theorem around_one{n m:Nd}(d:n∈ns)(hm:m∈ns){e:Int}(h1:e∈G5 ns ars n)(h2:e∈G5 ns ars m):n=m:=by
 obtain⟨a,ha,c⟩:=(h.around_arc d).1 h1;obtain⟨b,f,c'⟩:=(h.around_arc hm).1 h2;have p1:=h.arc_pos ha;have p2:=h.arc_pos f;rcases c with ⟨c,rfl⟩ | ⟨c,rfl⟩<;>rcases c' with ⟨c',e⟩ | ⟨c',e⟩
 ·have:=h.arc_id ha f e;subst this;exact h.node_id d hm (c.symm.trans c')
 ·omega
 ·omega
 have:=h.arc_id ha f (by omega);subst this;exact h.node_id d hm (c.symm.trans c')
theorem next_eq{n:Nd}(b:n∈ns){e:Int}(he:e∈G5 ns ars n):nextD ns ars (-e)=gi0 (G5 ns ars n) e:=by
 unfold nextD sU0;rw[KC0 he (lK0 ns ars) [] (a_ b) (fun k hk a=>by
  obtain⟨m,hm,rfl⟩:=aM.1 hk;rw[h.around_one b hm he a])]
 rfl
theorem around_nodup{n:Nd}(a:n∈ns):(G5 ns ars n).Nodup:=(h.around_perm a).nodup_iff.2 (h.raw_nodup n.1 (fun _ ha=>ha) (I2 h.ascA))
variable {r:List Sg} (hr:cF0 ns ars ars=some r)
include hr
theorem left_node{n:Nd}(a:n∈ns){e:Int}(he:e∈G5 ns ars n){d:Sg->Int}(c:((Jp0 r).net (h.famOk hr)).Cir d) :
  ((Jp0 r).net (h.famOk hr)).L d (Jr0 ns ars (nextD ns ars (-e)))=((Jp0 r).net (h.famOk hr)).L d (Net.rev (Jr0 ns ars e)):=by
 obtain⟨i,hi,rfl⟩:=bH he;have ha:=h.around_ok hr a;have b:=Net.L_turn ((Jp0 r).plane (h.famOk hr)) c ha (i:=i) (by simpa using hi);simp only[cn,aD]at b;rw[h.next_eq a he,Kh0 (h.around_nodup a) hi];exact b
theorem next_half{k:Net.Hf Sg}(hk:k.1∈r):(nxH ns ars k).1∈r/\((Jp0 r).net (h.famOk hr)).src (nxH ns ars k)=((Jp0 r).net (h.famOk hr)).dst k /\
  (∀ d,((Jp0 r).net (h.famOk hr)).Cir d->((Jp0 r).net (h.famOk hr)).L d (nxH ns ars k)=((Jp0 r).net (h.famOk hr)).L d k) /\
  ((Js0 (nxH ns ars k)=Js0 k)\/(nxH ns ars k=Jr0 ns ars (nextD ns ars (Js0 k)))):=by
 obtain⟨a,p,i,o⟩:=h.seg_of hr hk;have s:=o.at';have e1:k.1.2.toNat=i:=by rw[o.eq];simp
 have e2:k.1.1=Jz0 a p:=by rw[o.eq]
 have e3:k.1.1.path=p:=by rw[e2];rfl
 have e4:k.1.1.1=a.1:=by rw[e2];rfl
 obtain⟨⟨n,m1,q1⟩,q,m2,q2⟩:=h.node_of o.arc;have hl:=h.path_len o.arc o.path;rcases JU0 k with e | e
 ·have f:Mi0 k=true:=by rw[e];exact JN0 _
  unfold nxH;rw[Af f,e1,e3,e4];by_cases hi:i+2<p.length
  ·rw[Af hi,e2]
   have o':JG0 ns ars (Jz0 a p,((i+1:Nat):Int)) a p (i+1):=⟨o.arc,o.path,by omega,rfl⟩;refine⟨Jw0 hr a o.arc p o.path _ (JF0 (by omega)),?_,fun d g=>?_,ba ?_⟩
   ·rw[Kp0,e,Lw0]
    exact aW (o'.sa.symm.trans o.sb)
   ·have:=(h.left_bend hr o o' g).1
    rw[this,<-e]
   unfold Js0;rw[JN0,f,Af rfl,Af rfl];exact e4.symm
  rw[Ae hi];have b:-a.1∈G5 ns ars q:=(h.around_arc m2).2 ⟨a,o.arc,aP ⟨q2.symm,rfl⟩⟩;have c:=h.next_eq m2 b;rw[jr]at c;have j:nextD ns ars a.1∈G5 ns ars q:=by rw[c];exact qu0 b
  have l:=h.around_half hr m2 j;have hf:=h.first_in o.arc o.path;have es:k.1=(Jz0 a p,((p.length-2:Nat):Int)):=by rw[o.eq,show i=p.length-2 by omega]
  refine⟨l.1,?_,fun d g=>?_,aP ?_⟩
  ·rw[l.2.1,e,Lw0]
   exact(h.seg_last o (by omega) m2 q2.symm).symm
  ·have:=h.left_node hr m2 b g
   rw[jr,hf,Mq0,<-es,<-e]at this;exact this
  unfold Js0;rw[f,Af rfl,e4]
 have f:Mi0 k=false:=by rw[e];exact JL0 _
 have m:¬ Mi0 k=true:=by rw[f];simp
 unfold nxH;rw[Ae m,e1,e4];by_cases hi:0<i
 ·rw[Af hi,e2]
  have o':JG0 ns ars (Jz0 a p,((i-1:Nat):Int)) a p (i-1):=⟨o.arc,o.path,by omega,rfl⟩;have o2:JG0 ns ars k.1 a p (i-1+1):=⟨o.arc,o.path,by omega,by rw[show i-1+1=i by omega];exact o.eq⟩;refine⟨Jw0 hr a o.arc p o.path _ (JF0 (by omega)),?_,fun d g=>?_,ba ?_⟩
  ·rw[Kr0,e,Lx0]
   exact aW (o'.sb.symm.trans o2.sa)
  ·have:=(h.left_bend hr o' o2 g).2
   rw[this,<-e]
  unfold Js0;rw[JL0,f,Ae (by simp),Ae (by simp),e4];rfl
 rw[Ae hi];have b:a.1∈G5 ns ars n:=(h.around_arc m1).2 ⟨a,o.arc,ba ⟨q1.symm,rfl⟩⟩;have c:=h.next_eq m1 b;have j:nextD ns ars (-a.1)∈G5 ns ars n:=by rw[c];exact qu0 b
 have l:=h.around_half hr m1 j;have hf:=h.first_out o.arc o.path;have es:k.1=(Jz0 a p,((0:Nat):Int)):=by rw[o.eq,show i=0 by omega]
 refine⟨l.1,?_,fun d g=>?_,aP ?_⟩
 ·rw[l.2.1,e,Lx0]
  exact(h.seg_first o (by omega) m1 q1.symm).symm
 ·have:=h.left_node hr m1 b g
  rw[hf,Mn0,<-es,<-e]at this;exact this
 unfold Js0;rw[f,Ae (by simp),e4]
end cw0
theorem Mr0{α:Type}[DecidableEq α]:∀ {l m:List α},l.Nodup->(∀ x∈l,x∈m)->m.length<=l.length->∀ x∈m,x∈l
 | [],m,_,_,h,x,b=>by have:0<m.length:=iG b;have i:m.length<=0:=h;omega
 | a::l,m,c,hs,h,x,b=>by
  rw[df]at c;by_cases e:x=a
  ·rw[e];exact dQ ..
  have d:a∈m:=hs a (dQ ..);have h1:(m.erase a).length=m.length-1:=List.length_erase_of_mem d;have h2:0<m.length:=iG b;rw[ay]at h;refine bO _ (Mr0 (m:=m.erase a) c.2 (fun y f=>?_) (by omega) x ((iY e).2 b));have ne:y≠a:=fun g=>c.1 (by rw[<- g];exact f);exact(iY ne).2 (hs y (bO _ f))
theorem Mg0{l:List Int}(a:l.Nodup){x y:Int}(c:x∈l)(d:y∈l)(e:gi0 l x=gi0 l y):x=y:=by
 obtain⟨i,hi,rfl⟩:=bH c;obtain⟨j,hj,rfl⟩:=bH d;rw[Kh0 a hi,Kh0 a hj]at e;have b:=(gP a).1 e;have md:∀ n,n<l.length->(n+l.length-1)%l.length=if n=0 then l.length-1 else n-1:=by
  intro n a;split
  ·rw[fZ (by omega)];omega
  rw[show n+l.length-1=(n-1)+l.length by omega,jN,fZ (by omega)]
 rw[md i hi,md j hj]at b;have:i=j:=by (repeat' split at b)<;>omega
 subst this;rfl
namespace cw0
variable {ns:List Nd} {ars:List Ar} {fs:List Int} (h:cw0 ns ars fs)
include h
theorem first_cases{d:Int}(e:d∈K0 ns ars):∃ a∈ars,∃ p,pathOf ns ars a.1=some p/\((d=a.1/\Jr0 ns ars d=alH (Jz0 a p,((0:Nat):Int)))\/(d=-a.1/\Jr0 ns ars d=agH (Jz0 a p,((p.length-2:Nat):Int)))):=by
 obtain⟨a,ha,c⟩:=h.mem_darts.1 e;obtain⟨f,t,_,_,b,_⟩:=h.path ha;rcases c with rfl | rfl
 ·exact⟨a,ha,_,b,ba ⟨rfl,h.first_out ha b⟩⟩
 exact⟨a,ha,_,b,aP ⟨rfl,h.first_in ha b⟩⟩
theorem dart_first{d:Int}(b:d∈K0 ns ars):Js0 (Jr0 ns ars d)=d:=by
 obtain⟨a,ha,p,hp,⟨rfl,e⟩ | ⟨rfl,e⟩⟩:=h.first_cases b<;>rw[e]<;>unfold Js0
 ·rw[JN0,Af rfl];rfl
 rw[JL0,Ae (by simp)];rfl
theorem next_inj{d e:Int}(f:d∈K0 ns ars)(he:e∈K0 ns ars)(a:nextD ns ars d=nextD ns ars e):d=e:=by
 have find:∀ x,x∈K0 ns ars->∃ n∈ns,-x∈G5 ns ars n:=fun x g=>by have:=h.neg_darts g;obtain⟨l,hl,c⟩:=bR.1 this;obtain⟨n,b,rfl⟩:=aM.1 hl;exact⟨n,b,c⟩
 obtain⟨n,b,h1⟩:=find d f;obtain⟨m,hm,h2⟩:=find e he;have e1:=h.next_eq b h1;have e2:=h.next_eq hm h2;rw[jr]at e1 e2;have q1:=qu0 h1;have q2:=qu0 h2;rw[<- e1,a,e2]at q1;have:=h.around_one b hm q1 q2;subst this;rw[e1,e2]at a;have:=Mg0 (h.around_nodup b) h1 h2 a;omega
variable {r:List Sg} (hr:cF0 ns ars ars=some r)
include hr
theorem next_cases{k:Net.Hf Sg}(hk:k.1∈r):Js0 k∈K0 ns ars/\∃ a∈ars,∃ p,pathOf ns ars a.1=some p/\∃ i:Nat,i+1<p.length /\
  ((k=alH (Jz0 a p,(i:Int))/\Js0 k=a.1/\((i+2<p.length/\nxH ns ars k=alH (Jz0 a p,((i+1:Nat):Int)))\/(i+2=p.length/\nxH ns ars k=Jr0 ns ars (nextD ns ars a.1)))) \/
   (k=agH (Jz0 a p,(i:Int))/\Js0 k=-a.1/\((0<i/\nxH ns ars k=agH (Jz0 a p,((i-1:Nat):Int)))\/(i=0/\nxH ns ars k=Jr0 ns ars (nextD ns ars (-a.1)))))):=by
 obtain⟨a,p,i,o⟩:=h.seg_of hr hk;have d:=o.at';have e1:k.1.2.toNat=i:=by rw[o.eq];simp
 have e2:k.1.1=Jz0 a p:=by rw[o.eq]
 have e3:k.1.1.path=p:=by rw[e2];rfl
 have e4:k.1.1.1=a.1:=by rw[e2];rfl
 rcases JU0 k with e | e
 ·have b:Mi0 k=true:=by rw[e];exact JN0 _
  have c:Js0 k=a.1:=by unfold Js0;rw[Af b,e4]
  refine⟨h.mem_darts.2 ⟨a,o.arc,ba c⟩,a,o.arc,p,o.path,i,o.at',ba ⟨by rw[<- o.eq];exact e,c,?_⟩⟩;unfold nxH;rw[Af b,e1,e3,e4,e2];by_cases hi:i+2<p.length
  ·rw[Af hi];exact ba ⟨hi,rfl⟩
  rw[Ae hi];exact aP ⟨by omega,rfl⟩
 have b:¬ Mi0 k=true:=by rw[e,JL0];simp
 have c:Js0 k=-a.1:=by unfold Js0;rw[Ae b,e4]
 refine⟨h.mem_darts.2 ⟨a,o.arc,aP c⟩,a,o.arc,p,o.path,i,o.at',aP ⟨by rw[<- o.eq];exact e,c,?_⟩⟩;unfold nxH;rw[Ae b,e1,e4,e2];by_cases hi:0<i
 ·rw[Af hi];exact ba ⟨hi,rfl⟩
 rw[Ae hi];exact aP ⟨by omega,rfl⟩
theorem mk_inj{a b:Ar}(ha:a∈ars)(c:b∈ars){p q:List Pt}{i j:Nat}(e:((Jz0 a p,(i:Int)):Sg)=(Jz0 b q,(j:Int))):a=b/\p=q/\i=j:=by have e1:a.1=b.1:=Ap (fun s:Sg=>s.1.1) e;have e2:p=q:=Ap (fun s:Sg=>s.1.path) e;have e3:(i:Int)=(j:Int):=Ap (fun s:Sg=>s.2) e;exact⟨h.arc_id ha c e1,e2,by omega⟩
theorem nx_inj{k l:Net.Hf Sg}(hk:k.1∈r)(s:l.1∈r)(e:nxH ns ars k=nxH ns ars l):k=l:=by
 obtain⟨d1,a,ha,p,hp,i,hi,c⟩:=h.next_cases hr hk;obtain⟨d2,b,d,q,f,j,hj,c'⟩:=h.next_cases hr s;have fin:Js0 k=Js0 l->Jr0 ns ars (nextD ns ars (Js0 k))=Jr0 ns ars (nextD ns ars (Js0 l)):=fun e=>by rw[e]
 have n:Jr0 ns ars (nextD ns ars (Js0 k))=Jr0 ns ars (nextD ns ars (Js0 l))->Js0 k=Js0 l:=fun e=>by have C:=h.next_mem d1;have D:=h.next_mem d2;have:=Ap Js0 e;rw[h.dart_first C,h.dart_first D]at this;exact h.next_inj d1 d2 this
 have H:=h.arc_pos ha;have I:=h.arc_pos d;have g:∀ x∈K0 ns ars,(∀ (u:Ar) (w:List Pt) (m:Nat),u∈ars->pathOf ns ars u.1=some w->0<m->Jr0 ns ars x≠alH (Jz0 u w,(m:Int)))/\∀ (u:Ar) (w:List Pt) (m:Nat),u∈ars->pathOf ns ars u.1=some w->m+2<w.length->Jr0 ns ars x≠agH (Jz0 u w,(m:Int)):=by
  intro x E;obtain⟨v,hv,w',G,⟨_,z⟩ | ⟨_,z⟩⟩:=h.first_cases E<;>rw[z]
  ·refine⟨fun u w m hu hw hm e=>?_,fun u w m hu hw hm e=>JS0 e⟩
   have:=(h.mk_inj hr hv hu (LI0 e)).2.2;omega
  refine⟨fun u w m hu hw hm e=>JS0 e.symm,fun u w m hu hw hm e=>?_⟩;obtain⟨_,rfl,B⟩:=h.mk_inj hr hv hu (LH0 e);omega
 rcases c with ⟨c1,c2,⟨t,o⟩ | ⟨t,o⟩⟩ | ⟨c1,c2,⟨t,o⟩ | ⟨t,o⟩⟩<;>rcases c' with ⟨g1,g2,⟨g3,g4⟩ | ⟨g3,g4⟩⟩ | ⟨g1,g2,⟨g3,g4⟩ | ⟨g3,g4⟩⟩<;>rw[o,g4]at e
 ·obtain⟨rfl,rfl,B⟩:=h.mk_inj hr ha d (LI0 e)
  rw[c1,g1,show i=j by omega]
 ·exact Am e.symm ((g _ (h.next_mem (g2▸d2))).1 a p (i+1) ha hp (by omega))
 ·exact Am e JS0
 ·exact Am e.symm ((g _ (h.next_mem (g2▸d2))).1 a p (i+1) ha hp (by omega))
 ·exact Am e ((g _ (h.next_mem (c2▸d1))).1 b q (j+1) d f (by omega))
 ·rw[<- c2,<-g2]at e
  have:=n e;obtain rfl:=h.arc_id ha d (by omega);rw[hp]at f;cases f;rw[c1,g1,show i=j by omega]
 ·exact Am e ((g _ (h.next_mem (c2▸d1))).2 b q (j-1) d f (by omega))
 ·rw[<- c2,<-g2]at e
  have:=n e;omega
 ·exact Am e.symm JS0
 ·exact Am e.symm ((g _ (h.next_mem (g2▸d2))).2 a p (i-1) ha hp (by omega))
 ·obtain⟨rfl,rfl,B⟩:=h.mk_inj hr ha d (LH0 e)
  rw[c1,g1,show i=j by omega]
 ·exact Am e.symm ((g _ (h.next_mem (g2▸d2))).2 a p (i-1) ha hp (by omega))
 ·exact Am e ((g _ (h.next_mem (c2▸d1))).1 b q (j+1) d f (by omega))
 ·rw[<- c2,<-g2]at e
  have:=n e;omega
 ·exact Am e ((g _ (h.next_mem (c2▸d1))).2 b q (j-1) d f (by omega))
 rw[<- c2,<-g2]at e;have:=n e;obtain rfl:=h.arc_id ha d (by omega);rw[hp]at f;cases f;rw[c1,g1,show i=j by omega]
end cw0
open Classical
namespace cw0
variable {ns:List Nd} {ars:List Ar} {fs:List Int} (h:cw0 ns ars fs)
variable {r:List Sg} (hr:cF0 ns ars ars=some r)
include h hr
theorem nx_perm:(((Jp0 r).net (h.famOk hr)).halves.map (nxH ns ars)).Perm ((Jp0 r).net (h.famOk hr)).halves:=by
 have g:=(Jp0 r).plane (h.famOk hr);have f:=Net.halves_nodup g;have mem:∀ k,k∈((Jp0 r).net (h.famOk hr)).halves↔k.1∈r:=fun k=>Net.mem_halves;have b:(((Jp0 r).net (h.famOk hr)).halves.map (nxH ns ars)).Nodup:=c_.2 (f.imp_of_mem fun {k c} hk a d e=>d (h.nx_inj hr ((mem k).1 hk) ((mem c).1 a) e));have sub:∀ k∈((Jp0 r).net (h.famOk hr)).halves.map (nxH ns ars),k∈((Jp0 r).net (h.famOk hr)).halves:=by intro k hk;obtain⟨c,a,rfl⟩:=aM.1 hk;exact(mem _).2 (h.next_half hr ((mem c).1 a)).1
 exact(ib b f).2 fun k=>⟨sub k,Mr0 b sub (by rw[aD];exact Nat.le_refl _) k⟩
omit hr in
omit h in
noncomputable def walks{ns:List Nd}{ars:List Ar}{fs:List Int}(h:cw0 ns ars fs){r:List Sg}(hr:cF0 ns ars ars=some r){κ:Type}(a:Int->κ)(hc:∀ d∈K0 ns ars,a (nextD ns ars d)=a d):Net.Walks ((Jp0 r).net (h.famOk hr)) κ where
 c:=fun k=>a (Js0 k)
 nx:=nxH ns ars
 mem:=fun k hk=>(h.next_half hr hk).1
 lab:=fun k hk=>by
  have b:=(h.next_cases hr hk).1;rcases(h.next_half hr hk).2.2.2 with e | e
  ·show a (Js0 (nxH ns ars k))=_
   rw[e]
  show a (Js0 (nxH ns ars k))=_;rw[e,h.dart_first (h.next_mem b),hc _ b]
 left:=fun k hk d b=>(h.next_half hr hk).2.2.1 d b
 closed:=fun C A=>by
  have mem:∀ k,k∈((Jp0 r).net (h.famOk hr)).halves↔k.1∈r:=fun k=>Net.mem_halves;have e1:sm ((Jp0 r).net (h.famOk hr)).halves (fun k=>if a (Js0 k)=C then A (((Jp0 r).net (h.famOk hr)).src k)-A (((Jp0 r).net (h.famOk hr)).dst k)else 0)
    = sm ((Jp0 r).net (h.famOk hr)).halves (fun k=>if a (Js0 k)=C then A (((Jp0 r).net (h.famOk hr)).src k)else 0)-sm ((Jp0 r).net (h.famOk hr)).halves (fun k=>if a (Js0 k)=C then A (((Jp0 r).net (h.famOk hr)).dst k)else 0):=by
   rw[<- Kc0];refine Jq0 fun k _=>?_;by_cases g:a (Js0 k)=C
   ·simp only[Af g]
   simp only[Ae g];omega
  have e2:sm ((Jp0 r).net (h.famOk hr)).halves (fun k=>if a (Js0 k)=C then A (((Jp0 r).net (h.famOk hr)).dst k)else 0)=sm ((Jp0 r).net (h.famOk hr)).halves (fun k=>if a (Js0 k)=C then A (((Jp0 r).net (h.famOk hr)).src k)else 0):=by
   refine Eq.symm ?_;rw[<- Ld0 (h.nx_perm hr),Kt0];refine Jq0 fun k hk=>?_;have f:=(mem k).1 hk;have i:=h.next_half hr f;have b:=(h.next_cases hr f).1;have hl:a (Js0 (nxH ns ars k))=a (Js0 k):=by
    rcases i.2.2.2 with e | e
    ·rw[e]
    rw[e,h.dart_first (h.next_mem b),hc _ b]
   rw[hl,i.2.1]
  show sm ((Jp0 r).net (h.famOk hr)).halves (fun k=>if a (Js0 k)=C then A (((Jp0 r).net (h.famOk hr)).src k)-A (((Jp0 r).net (h.famOk hr)).dst k)else 0)=0;rw[e1,e2];omega
end cw0
end Go.Ab
namespace Go.Ab
open Go
def itD(nx:Int->Int)(d:Int):Nat->Int
 | 0=>d
 | n+1=>nx (itD nx d n)
def KA0(nx:Int->Int)(d:Int)(m:Nat):List Int:=(aJ m).map (itD nx d)
theorem Lr0(nx:Int->Int)(d:Int)(m:Nat):KA0 nx d (m+1)=KA0 nx d m++[itD nx d m]:=by unfold KA0;rw[ka,dL];rfl
theorem Jx0{nx:Int->Int}{d:Int}{m:Nat}{x:Int}:x∈KA0 nx d m↔∃ i,i<m/\itD nx d i=x:=by unfold KA0;simp
theorem MR0{nx:Int->Int}{d:Int}{m:Nat}(a:(KA0 nx d m).Nodup){i j:Nat}(hi:i<m)(hj:j<m)(e:itD nx d i=itD nx d j):i=j:=by
 unfold KA0 at a;have h1:i<((aJ m).map (itD nx d)).length:=by simpa using hi
 have h2:j<((aJ m).map (itD nx d)).length:=by simpa using hj
 exact(gP (h₀:=h1) (h₁:=h2) a).1 (by simpa using e)
section
variable {nx:Int->Int} {D:List Int} (hD:∀ d∈D,nx d∈D) (inj:∀ d∈D,∀ e∈D,nx d=nx e->d=e)
theorem JX0(hD:∀ d∈D,nx d∈D){d:Int}(a:d∈D):∀ n,itD nx d n∈D
 | 0=>a
 | n+1=>hD _ (JX0 hD a n)
include hD inj
theorem KE0{d:Int}(c:d∈D){S0:List Int}(f:∀ y∈S0,∃ x∈S0,nx x=y)(s0:∀ x∈S0,x∈D)(g:d∉S0):∀ (n m:Nat),(S0++KA0 nx d m).Nodup->S6 D (S0++KA0 nx d m)<n ->
  ∃ h,0<h/\itD nx d h=d/\O9 nx n (S0++KA0 nx d m) (itD nx d m) (KA0 nx d m)=(KA0 nx d h,S0++KA0 nx d h)/\(S0++KA0 nx d h).Nodup
 | 0,m,_,hu=>by omega
 | n+1,m,k,hu=>by
  unfold O9;have i:=(fj.1 k).2.2;by_cases hm:itD nx d m∈S0++KA0 nx d m
  ·rw[Af hm]
   have key:0<m/\itD nx d m=d:=by
    rcases aQ.1 hm with h1 | h1
    ·exfalso
     cases m with
     | zero=>exact g h1
     | succ m=>obtain⟨x,p,e⟩:=f _ h1;have:=inj x (s0 x p) _ (JX0 hD c m) e;exact i x p x (Jx0.2 ⟨m,by omega,this.symm⟩) rfl
    obtain⟨j,hj,e⟩:=Jx0.1 h1;refine⟨by omega,?_⟩;cases j with
    | zero=>exact e.symm
    | succ j=>
     exfalso;cases m with
     | zero=>omega
     | succ m=>have:=inj _ (JX0 hD c j) _ (JX0 hD c m) e;have:=MR0 (fj.1 k).2.1 (by omega) (by omega) this;omega
   exact⟨m,key.1,key.2,rfl,k⟩
  rw[Ae hm];have e:S0++KA0 nx d m++[itD nx d m]=S0++KA0 nx d (m+1):=by rw[Lr0,cL]
  have l:=lE0 (JX0 hD c m) hm;rw[e]at l ⊢;rw[<- Lr0];refine KE0 c f s0 g n (m+1) ?_ (by omega);rw[<- e];refine fj.2 ⟨k,by simp,?_⟩;intro a ha b q o;simp at q;exact hm (q▸o▸ha)
structure Cyc(nx:Int->Int)(D:List Int)(cs:List (List Int)):Prop where
 orb:∀ c∈cs,∃ d m,d∈D/\0<m/\itD nx d m=d/\c=KA0 nx d m
 nodup:cs.flatten.Nodup
theorem Nj0{cs:List (List Int)}(hc:Cyc nx D cs):∀ y∈cs.flatten,∃ x∈cs.flatten,nx x=y:=by
 intro y b;obtain⟨c,a,b⟩:=bR.1 b;obtain⟨d,m,f,hm,he,rfl⟩:=hc.orb c a;obtain⟨i,hi,rfl⟩:=Jx0.1 b;cases i with
 | zero=>exact⟨itD nx d (m-1),bR.2 ⟨_,a,Jx0.2 ⟨m-1,by omega,rfl⟩⟩,by
   have:itD nx d (m-1+1)=d:=by rw[show m-1+1=m by omega];exact he
   exact this⟩
 | succ i=>exact⟨itD nx d i,bR.2 ⟨_,a,Jx0.2 ⟨i,by omega,rfl⟩⟩,rfl⟩
theorem Nf0{cs:List (List Int)}(hc:Cyc nx D cs):∀ y∈cs.flatten,y∈D:=by intro y a;obtain⟨c,b,a⟩:=bR.1 a;obtain⟨d,m,f,hm,he,rfl⟩:=hc.orb c b;obtain⟨i,hi,rfl⟩:=Jx0.1 a;exact JX0 hD f i
theorem Kg0:∀ (b:List Int) (acc:List (List Int)),(∀ d∈b,d∈D)->Cyc nx D acc->Cyc nx D (V5 nx D b acc.flatten acc)/\∀ d,(d∈b\/d∈acc.flatten)->d∈(V5 nx D b acc.flatten acc).flatten
 | [],acc,_,hc=>⟨hc,fun d a=>by
   rcases a with a | a
   ·simp at a
   exact a⟩
 | d::b,acc,f,hc=>by
  have a:=f d (by simp);unfold V5;by_cases hs:d∈acc.flatten
  ·rw[Af hs]
   obtain⟨i1,i2⟩:=Kg0 b acc (fun e he=>f e (by simp[he])) hc;refine⟨i1,fun e he=>i2 e ?_⟩;rcases he with he | he
   ·rcases aC.1 he with rfl | he
    ·exact aP hs
    exact ba he
   exact aP he
  rw[Ae hs];have hz:acc.flatten++KA0 nx d 0=acc.flatten:=by simp[KA0]
  obtain⟨m,hm,he,hf,k⟩:=KE0 hD inj a (Nj0 hD inj hc) (Nf0 hD inj hc) hs (S6 D acc.flatten+1) 0 (by rw[hz];exact hc.nodup) (by rw[hz];omega);rw[hz]at hf;have i:O9 nx (S6 D acc.flatten+1) acc.flatten d []=(KA0 nx d m,acc.flatten++KA0 nx d m):=hf;simp only[i];have e:acc.flatten++KA0 nx d m=(acc++[KA0 nx d m]).flatten:=by simp
  have j:Cyc nx D (acc++[KA0 nx d m]):=by
   refine⟨fun c h=>?_,by rw[<- e];exact k⟩;rcases aQ.1 h with h | h
   ·exact hc.orb c h
   simp at h;exact⟨d,m,a,hm,he,h⟩
  rw[e];obtain⟨i1,i2⟩:=Kg0 b _ (fun e he=>f e (by simp[he])) j;refine⟨i1,fun x g=>i2 x ?_⟩;rcases g with g | g
  ·rcases aC.1 g with rfl | g
   ·exact aP (by rw[<- e];exact ga _ (Jx0.2 ⟨0,hm,rfl⟩))
   exact ba g
  exact aP (by rw[<- e];exact eN _ g)
end
open Go.Pg
def LA0(ns:List Nd)(ars:List Ar)(d:Int):List Int:=((cw0.cyclesOf ns ars).find? (fun c=>decide (d∈c))).getD []
theorem MK0{cs:List (List Int)}(f:cs.flatten.Nodup){c c':List Int}(h1:c∈cs)(h2:c'∈cs){d:Int}(d1:d∈c)(d2:d∈c'):c=c':=by
 have hp:=(eo.1 f).2;have:=LT0 (R:=fun c c':List Int=>c=c'\/∀ x∈c,∀ y∈c',x≠y) (fun x y h=>by
  rcases h with h | h
  ·exact ba h.symm
  exact aP fun a ha b g e=>h b g a ha e.symm) (fun x=>ba rfl) (hp.imp fun {x y} h=>aP h) h1 h2
 rcases this with h | h
 ·exact h
 exact(h d d1 d d2 rfl).elim
namespace cw0
variable {ns:List Nd} {ars:List Ar} {fs:List Int} (h:cw0 ns ars fs)
include h
theorem cyc_all:Cyc (nextD ns ars) (K0 ns ars) (cyclesOf ns ars)/\∀ d∈K0 ns ars,d∈(cyclesOf ns ars).flatten:=by have hp:=dj (K0 ns ars) (fun a b=>decide (a<=b));obtain⟨i1,i2⟩:=Kg0 (nx:=nextD ns ars) (D:=K0 ns ars) (fun d f=>h.next_mem f) (fun d f e he x=>h.next_inj f he x) ((K0 ns ars).mergeSort fun a b=>decide (a<=b)) [] (fun d f=>hp.mem_iff.1 f) ⟨fun c hc=>by simp at hc,by simp⟩;exact⟨i1,fun d f=>i2 d (ba (hp.mem_iff.2 f))⟩
theorem dcyc_mem{d:Int}(b:d∈K0 ns ars):LA0 ns ars d∈cyclesOf ns ars/\d∈LA0 ns ars d:=by
 obtain⟨c,hc,a⟩:=bR.1 (h.cyc_all.2 d b);unfold LA0;cases hf:(cyclesOf ns ars).find? (fun c=>decide (d∈c))with
 | none=>exact Am a (by have:=List.find?_eq_none.1 hf c hc;simpa using this)
 | some c' =>have h1:=bh hf;have h2:=eZ hf;exact⟨h1,by simpa using h2⟩
theorem cyc_dart{c:List Int}(hc:c∈cyclesOf ns ars){d:Int}(a:d∈c):d∈K0 ns ars:=by obtain⟨e,m,he,hm,_,rfl⟩:=h.cyc_all.1.orb c hc;obtain⟨i,_,rfl⟩:=Jx0.1 a;exact JX0 (fun d a=>h.next_mem a) he i
theorem dcyc_eq{c:List Int}(hc:c∈cyclesOf ns ars){d:Int}(a:d∈c):LA0 ns ars d=c:=by have h1:=h.dcyc_mem (h.cyc_dart hc a);exact MK0 h.cyc_all.1.nodup h1.1 hc h1.2 a
theorem cyc_next{c:List Int}(hc:c∈cyclesOf ns ars){d:Int}(a:d∈c):nextD ns ars d∈c:=by
 obtain⟨e,m,he,hm,hz,rfl⟩:=h.cyc_all.1.orb c hc;obtain⟨i,hi,rfl⟩:=Jx0.1 a;by_cases hl:i+1<m
 ·exact Jx0.2 ⟨i+1,hl,rfl⟩
 refine Jx0.2 ⟨0,hm,?_⟩;have:itD (nextD ns ars) e (i+1)=e:=by rw[show i+1=m by omega];exact hz
 exact this.symm
theorem dcyc_next{d:Int}(a:d∈K0 ns ars):LA0 ns ars (nextD ns ars d)=LA0 ns ars d:=by have h1:=h.dcyc_mem a;exact h.dcyc_eq h1.1 (h.cyc_next h1.1 h1.2)
variable {r:List Sg} (hr:cF0 ns ars ars=some r)
noncomputable def wk{ns:List Nd}{ars:List Ar}{fs:List Int}(h:cw0 ns ars fs){r:List Sg}(hr:cF0 ns ars ars=some r):Net.Walks ((Jp0 r).net (h.famOk hr)) (List Int):=h.walks hr (LA0 ns ars) (fun _ a=>h.dcyc_next a)
theorem first_mem{d:Int}(b:d∈K0 ns ars)(hr:cF0 ns ars ars=some r):(Jr0 ns ars d).1∈r:=by
 obtain⟨a,ha,p,hp,⟨_,e⟩ | ⟨_,e⟩⟩:=h.first_cases b<;>rw[e]
 ·exact Jw0 hr a ha p hp _ (JF0 (by have:=h.path_len ha hp;omega))
 exact Jw0 hr a ha p hp _ (JF0 (by have:=h.path_len ha hp;omega))
theorem conn_first{k:Net.Hf Sg}(hk:k.1∈r):(h.wk hr).Conn (Jr0 ns ars (Js0 k)) k/\(h.wk hr).Conn k (Jr0 ns ars (nextD ns ars (Js0 k))):=by
 obtain⟨_,a,ha,p,hp,i,hi,c⟩:=h.next_cases hr hk;have inr:∀ j:Nat,j+1<p.length->(Jz0 a p,(j:Int))∈r:=fun j hj=>Jw0 hr a ha p hp _ (JF0 hj);have b:∀ k,(h.wk hr).nx k=nxH ns ars k:=fun _=>rfl;rcases c with ⟨c1,c2,_⟩ | ⟨c1,c2,_⟩
 ·rw[c1,show Js0 (alH (Jz0 a p,(i:Int)))=a.1 from c1▸c2,h.first_out ha hp]
  have st:∀ j:Nat,j+2<p.length->nxH ns ars (alH (Jz0 a p,(j:Int)))=alH (Jz0 a p,((j+1:Nat):Int)):=fun j hj=>by
   unfold nxH;rw[Af (JN0 _)];have e1:((alH (Jz0 a p,(j:Int))).1.2).toNat=j:=by show ((j:Int)).toNat=j;simp
   have e2:(alH (Jz0 a p,(j:Int))).1.1.path.length=p.length:=rfl;rw[e1,e2,Af hj];rfl
  have d:∀ j:Nat,j+2=p.length->nxH ns ars (alH (Jz0 a p,(j:Int)))=Jr0 ns ars (nextD ns ars a.1):=fun j hj=>by
   unfold nxH;rw[Af (JN0 _)];have e1:((alH (Jz0 a p,(j:Int))).1.2).toNat=j:=by show ((j:Int)).toNat=j;simp
   have e2:(alH (Jz0 a p,(j:Int))).1.1.path.length=p.length:=rfl;rw[e1,e2,Ae (by omega)];rfl
  have up:∀ n j:Nat,j+n+1<p.length->(h.wk hr).Conn (alH (Jz0 a p,(j:Int))) (alH (Jz0 a p,((j+n:Nat):Int))):=by
   intro n
   induction n with
   | zero=>intro j hj;exact Net.Walks.Conn.refl _
   | succ n e=>intro j hj;have h1:=e j (by omega);have h2:=Net.Walks.Conn.nx (w:=h.wk hr) (h:=alH (Jz0 a p,((j+n:Nat):Int))) (inr (j+n) (by omega)) h1;rw[b,st (j+n) (by omega)]at h2;exact h2
  refine⟨by have:=up i 0 (by omega);rw[aG]at this;exact this,?_⟩;have h1:=up (p.length-2-i) i (by omega);have h2:=Net.Walks.Conn.nx (w:=h.wk hr) (h:=alH (Jz0 a p,((i+(p.length-2-i):Nat):Int))) (inr _ (by omega)) h1;rw[b,d _ (by omega)]at h2;exact h2
 rw[c1,show Js0 (agH (Jz0 a p,(i:Int)))=-a.1 from c1▸c2,h.first_in ha hp];have st:∀ j:Nat,0<j->nxH ns ars (agH (Jz0 a p,(j:Int)))=agH (Jz0 a p,((j-1:Nat):Int)):=fun j hj=>by
  unfold nxH;rw[Ae (by rw[JL0];simp)];have e1:((agH (Jz0 a p,(j:Int))).1.2).toNat=j:=by show ((j:Int)).toNat=j;simp
  rw[e1,Af hj];rfl
 have d:nxH ns ars (agH (Jz0 a p,((0:Nat):Int)))=Jr0 ns ars (nextD ns ars (-a.1)):=by unfold nxH;rw[Ae (by rw[JL0];simp)];have e1:((agH (Jz0 a p,((0:Nat):Int))).1.2).toNat=0:=rfl;rw[e1,Ae (by omega)];rfl
 have dn:∀ n j:Nat,j+n+1<p.length->(h.wk hr).Conn (agH (Jz0 a p,((j+n:Nat):Int))) (agH (Jz0 a p,(j:Int))):=by
  intro n
  induction n with
  | zero=>intro j hj;exact Net.Walks.Conn.refl _
  | succ n e=>intro j hj;have h1:=e (j+1) (by omega);rw[show j+1+n=j+(n+1)by omega]at h1;have h2:=Net.Walks.Conn.nx (w:=h.wk hr) (h:=agH (Jz0 a p,((j+1:Nat):Int))) (inr (j+1) (by omega)) h1;rw[b,st (j+1) (by omega)]at h2;exact h2
 refine⟨by have:=dn (p.length-2-i) i (by omega);rw[show i+(p.length-2-i)=p.length-2 by omega]at this;exact this,?_⟩;have h1:=dn i 0 (by omega);rw[aG]at h1;have h2:=Net.Walks.Conn.nx (w:=h.wk hr) (h:=agH (Jz0 a p,((0:Nat):Int))) (inr 0 (by omega)) h1;rw[b,d]at h2;exact h2
end cw0
namespace cw0
variable {ns:List Nd} {ars:List Ar} {fs:List Int} (h:cw0 ns ars fs)
variable {r:List Sg} (hr:cF0 ns ars ars=some r)
include h
theorem conn_orb{e:Int}(he:e∈K0 ns ars):∀ i,(h.wk hr).Conn (Jr0 ns ars e) (Jr0 ns ars (itD (nextD ns ars) e i))
 | 0=>Net.Walks.Conn.refl _
 | i+1=>by have hm:=JX0 (nx:=nextD ns ars) (fun d a=>h.next_mem a) he i;have h1:=conn_orb he i;have h2:=(h.conn_first hr (h.first_mem hm hr)).2;rw[h.dart_first hm]at h2;exact Net.Walks.conn_trans _ h1 h2
theorem in_part{c:List Int}(hc:c∈cyclesOf ns ars){d:Int}(n:d∈c):(h.wk hr).InPart c (Jr0 ns ars d):=by
 intro k hk b;have a:k.1∈r:=b;have f:=(h.next_cases hr a).1;have g:LA0 ns ars (Js0 k)=c:=hk;have h1:=(h.conn_first hr a).1;have h2:Js0 k∈c:=by rw[<- g];exact(h.dcyc_mem f).2
 obtain⟨e,m,he,hm,_,rfl⟩:=h.cyc_all.1.orb c hc;obtain⟨i,_,hi⟩:=Jx0.1 h2;obtain⟨j,_,hj⟩:=Jx0.1 n;have l:=h.conn_orb hr he i;have a2:=h.conn_orb hr he j;rw[hi]at l;rw[hj]at a2;exact Net.Walks.conn_trans _ (Net.Walks.conn_symm _ a2) (Net.Walks.conn_trans _ l h1)
end cw0
open Classical
def MZ0(p q:Pt):Int:=p.1*q.2-q.1*p.2
theorem LP0:∀ (l:List Pt) (p:Pt),sm (aJ l.length) (fun i=>MZ0 (((p::l)[i]?).getD (0,0)) (((p::l)[i+1]?).getD (0,0)))=L8 p l
 | [],p=>rfl
 | q::l,p=>by have a:=LP0 l q;rw[ay,dW];simp only[sm,Kt0];have e:∀ i:Nat,(p::q::l)[i+1]?=(q::l)[i]?:=fun i=>rfl;have e2:∀ i:Nat,(p::q::l)[jB i+1]?=(q::l)[i+1]?:=fun i=>rfl;have e3:∀ i:Nat,(p::q::l)[jB i]?=(q::l)[i]?:=fun i=>rfl;simp only[e2,e3];rw[a];rfl
theorem sm_arc{ns:List Nd}{ars:List Ar}{f:Sg->Int}{a:Ar}{p:List Pt}(hp:pathOf ns ars a.1=some p):∀ {l:List Ar} {r:List Sg},(l.map (·.1)).Pairwise (·<·)->cF0 ns ars l=some r ->
  sm r (fun s=>if s.1.1=a.1 then f s else 0)=if a.1∈l.map (·.1)then sm r (fun s=>if s.1.1=a.1 then f s else 0)else 0
 | l,r,hl,h=>by
  by_cases c:a.1∈l.map (·.1)
  ·rw[Af c]
  rw[Ae c];refine Jt0 fun s hs=>?_;obtain⟨b,d,q,_,hm⟩:=Kb0 h s hs;obtain⟨i,_,e⟩:=qr0 hm;have e1:s.1.1=b.1:=by rw[e];rfl
  rw[Ae (fun e2=>c (by rw[<- e2,e1];exact a_ d))]
theorem KL0{ns:List Nd}{ars:List Ar}(f:Sg->Int){a:Ar}{p:List Pt}(hp:pathOf ns ars a.1=some p):∀ {l:List Ar} {r:List Sg},(l.map (·.1)).Pairwise (·<·)->(∀ b∈l,b.1=a.1->b=a)->cF0 ns ars l=some r->a∈l ->
  sm r (fun s=>if s.1.1=a.1 then f s else 0)=sm (iq0 a p) f
 | [],r,_,_,_,ha=>by simp at ha
 | b::l,r,hl,hu,h,ha=>by
  rw[az,bj]at hl;unfold cF0 at h;split at h
  ·cases h
  rename_i q j;cases hc:((decide (b.2.1=b.2.2.1)&&decide (q.length<4))||!(ny0 q))with
  | true=>rw[hc]at h;cases h
  | false=>
   rw[hc]at h;simp only[Aa]at h;split at h
   ·rename_i n c
    cases h;rw[JC0];have k:∀ s∈iq0 b q,s.1.1=b.1:=fun s hs=>by obtain⟨i,_,e⟩:=qr0 hs;rw[e];rfl
    by_cases e:b=a
    ·subst e
     rw[hp]at j;cases j;have z:=sm_arc (f:=f) (a:=b) hp hl.2 c;rw[Ae (fun hm=>by have:=hl.1 _ hm;omega)]at z;rw[z,Jq0 (f:=fun s=>if s.1.1=b.1 then f s else 0) (g:=f) (l:=iq0 b p) (fun s hs=>Af (k s hs))];omega
    have d:a∈l:=by
     rcases aC.1 ha with h | h
     ·exact(e h.symm).elim
     exact h
    rw[KL0 f hp hl.2 (fun b m=>hu b (by simp[m])) c d,Jt0 (l:=iq0 b q) (fun s hs=>Ae (fun e2=>e (hu b (by simp) (by rw[<- k s hs];exact e2))))];omega
   cases h
theorem Ma0(a:Ar)(p0:Pt)(l:List Pt):sm (iq0 a (p0::l)) (fun s=>MZ0 (sgA s) (sgB s))=L8 p0 l:=by unfold iq0;rw[Kt0,<-LP0];exact Jq0 fun i _=>rfl
theorem KJ0(ns:List Nd)(ars:List Ar):∀ c:List Int,S4 ns ars c=sm c (vq0 ns ars)
 | []=>rfl
 | d::c=>by show vq0 ns ars d+S4 ns ars c=_;rw[KJ0 ns ars c];rfl
theorem LE0(x:Int)(v:Int):∀ {c:List Int},c.Nodup->sm c (fun d=>if x=d then v else 0)=if x∈c then v else 0
 | [],_=>by simp[sm]
 | a::c,f=>by
  rw[df]at f;have g:=LE0 x v f.2;simp only[sm,g];by_cases e:x=a
  ·subst e
   rw[Af rfl,Ae f.1,Af (dQ ..)];omega
  rw[Ae e];by_cases b:x∈c
  ·rw[Af b,Af (bO _ b)];omega
  rw[Ae b,Ae (by simp[e,b])];rfl
namespace cw0
variable {ns:List Nd} {ars:List Ar} {fs:List Int} (h:cw0 ns ars fs)
variable {r:List Sg} (hr:cF0 ns ars ars=some r)
include h
theorem sm_al(F:Net.Hf Sg->Int):sm ((Jp0 r).net (h.famOk hr)).halves F=sm r (fun s=>F (alH s)+F (agH s)):=by
 rw[Net.sm_halves];refine Jq0 fun s _=>?_;unfold alH agH;cases (Jp0 []).fwd s
 ·show F (s,true)+F (s,false)=F (s,false)+F (s,true)
  omega
 rfl
theorem dart_area{d:Int}(l:d∈K0 ns ars):sm ((Jp0 r).net (h.famOk hr)).halves (fun k=>if Js0 k=d then ((Jp0 r).net (h.famOk hr)).crs k else 0)=vq0 ns ars d:=by
 rw[h.sm_al hr];have d1:∀ s,Js0 (alH s)=s.1.1:=fun s=>by unfold Js0;rw[Af (JN0 s)];rfl
 have d2:∀ s,Js0 (agH s)=- s.1.1:=fun s=>by unfold Js0;rw[Ae (by rw[JL0];simp)];rfl
 have c1:∀ s,((Jp0 r).net (h.famOk hr)).crs (alH s)=MZ0 (sgA s) (sgB s):=fun s=>by unfold Net.crs;rw[Kp0,Lw0];rfl
 have c2:∀ s,((Jp0 r).net (h.famOk hr)).crs (agH s)=- MZ0 (sgA s) (sgB s):=fun s=>by unfold Net.crs MZ0;rw[Kr0,Lx0];omega
 have pos:∀ s∈r,0<s.1.1:=fun s hs=>by obtain⟨a,p,i,o⟩:=h.seg_of hr hs;have:=h.arc_pos o.arc;rw[o.eq];exact this
 obtain⟨a,ha,c⟩:=h.mem_darts.1 l;obtain⟨f,t,_,_,g,_⟩:=h.path ha;have hp:=h.arc_pos ha;have j:=KL0 (fun s=>MZ0 (sgA s) (sgB s)) g (I2 h.ascA) (fun b m e=>h.arc_id m ha e) hr ha;rw[Ma0]at j;rcases c with rfl | rfl
 ·have e:sm r (fun s=>(if Js0 (alH s)=a.1 then ((Jp0 r).net (h.famOk hr)).crs (alH s)else 0)+(if Js0 (agH s)=a.1 then ((Jp0 r).net (h.famOk hr)).crs (agH s)else 0))=sm r (fun s=>if s.1.1=a.1 then MZ0 (sgA s) (sgB s)else 0):=by refine Jq0 fun s hs=>?_;have:=pos s hs;rw[d1,d2,c1,Ae (show ¬-s.1.1=a.1 by omega),eJ]
  rw[e,j];unfold vq0;rw[show jo0 a.1=a.1 by unfold jo0;omega,g];simp only;rw[Ae (by omega)]
 have e:sm r (fun s=>(if Js0 (alH s)=-a.1 then ((Jp0 r).net (h.famOk hr)).crs (alH s)else 0)+(if Js0 (agH s)=-a.1 then ((Jp0 r).net (h.famOk hr)).crs (agH s)else 0))=- sm r (fun s=>if s.1.1=a.1 then MZ0 (sgA s) (sgB s)else 0):=by
  rw[<- Lj0];refine Jq0 fun s hs=>?_;have:=pos s hs;rw[d1,d2,c2,Ae (show ¬ s.1.1=-a.1 by omega),gQ];by_cases q:s.1.1=a.1
  ·rw[Af q,Af (by omega)]
  rw[Ae q,Ae (by omega)];rfl
 rw[e,j];unfold vq0;rw[show jo0 (-a.1)=a.1 by unfold jo0;omega,g];simp only;rw[Af (by omega)]
theorem twice_area{c:List Int}(hc:c∈cyclesOf ns ars):Net.area2 (h.wk hr) c=S4 ns ars c:=by
 have g:c.Nodup:=(eo.1 h.cyc_all.1.nodup).1 c hc;have mem:∀ k,k∈((Jp0 r).net (h.famOk hr)).halves↔k.1∈r:=fun k=>Net.mem_halves;rw[KJ0];have e1:sm c (vq0 ns ars)=sm c (fun d=>sm ((Jp0 r).net (h.famOk hr)).halves (fun k=>if Js0 k=d then ((Jp0 r).net (h.famOk hr)).crs k else 0)) :=Jq0 fun d i=>(h.dart_area hr (h.cyc_dart hc i)).symm;rw[e1,Kl0];unfold Net.area2;refine Jq0 fun k hk=>?_;rw[LE0 _ _ g];have f:=(h.next_cases hr ((mem k).1 hk)).1;by_cases b:Js0 k∈c
 ·have a:(h.wk hr).c k=c:=h.dcyc_eq hc b
  rw[Af b,Af a]
 have a:¬ (h.wk hr).c k=c:=fun e=>b (by
  have j:LA0 ns ars (Js0 k)=c:=e;rw[<- j];exact(h.dcyc_mem f).2)
 rw[Ae b,Ae a]
end cw0
end Go.Ab
namespace Go.Ab
open Go Go.Pg
def JM0(g:Pt->Pt->Int):Pt->List Pt->Int
 | _,[]=>0
 | p,q::r=>g p q+JM0 g q r
theorem KR0(g:Pt->Pt->Int):∀ (l:List Pt) (p:Pt),sm (aJ l.length) (fun i=>g (((p::l)[i]?).getD (0,0)) (((p::l)[i+1]?).getD (0,0)))=JM0 g p l
 | [],p=>rfl
 | q::l,p=>by have a:=KR0 g l q;rw[ay,dW];simp only[sm,Kt0];have e2:∀ i:Nat,(p::q::l)[jB i+1]?=(q::l)[i+1]?:=fun i=>rfl;have e3:∀ i:Nat,(p::q::l)[jB i]?=(q::l)[i]?:=fun i=>rfl;simp only[e2,e3];rw[a];rfl
theorem My0(g:Pt->Pt->Int)(a:Ar)(p0:Pt)(l:List Pt):sm (iq0 a (p0::l)) (fun s=>g (sgA s) (sgB s))=JM0 g p0 l:=by unfold iq0;rw[Kt0,<-KR0];exact Jq0 fun i _=>rfl
def Nb0(at' a b:Pt):Bool:=(decide (a.2<=at'.2)&&(decide (at'.2<b.2)&&decide (0<S9 a b at')))||(decide (b.2<=at'.2)&&(decide (at'.2<a.2)&&decide (S9 a b at'<0)))
def Ko0(at' a b:Pt):Int:=if Nb0 at' a b=true then 1 else 0
def Kx0(at':Pt):Pt->List Pt->Bool
 | _,[]=>false
 | p,q::r=>onP p q at'||Kx0 at' q r
theorem KT0(at':Pt):∀ (l:List Pt) (p:Pt) (st:Bool×Bool),(li0 at' p l st).2=(st.2||Kx0 at' p l)/\(Kx0 at' p l=false->∀ n:Int,st.1=decide (n%2=1)->(li0 at' p l st).1=decide ((n+JM0 (Ko0 at') p l)%2=1))
 | [],p,st=>⟨by simp[li0,Kx0],fun _ n a=>by simpa[li0,JM0]using a⟩
 | q::l,p,st=>by
  obtain⟨i1,i2⟩:=KT0 at' l q (KH0 at' st p q);show (li0 at' q l (KH0 at' st p q)).2=(st.2||(onP p q at'||Kx0 at' q l))/\((onP p q at'||Kx0 at' q l)=false->∀ n:Int,st.1=decide (n%2=1)->(li0 at' q l (KH0 at' st p q)).1=decide ((n+(Ko0 at' p q+JM0 (Ko0 at') q l))%2=1));cases b:onP p q at' with
  | true=>
   have e:KH0 at' st p q=(st.1,true):=by unfold KH0;rw[b];rfl
   rw[e]at i1 ⊢;refine⟨by rw[i1];simp,fun h=>by simp at h⟩
  | false=>
   have e:KH0 at' st p q=bif Nb0 at' p q then (!st.1,st.2)else st:=by unfold KH0;rw[b];rfl
   have e2:(KH0 at' st p q).2=st.2:=by rw[e];cases Nb0 at' p q<;>rfl
   refine⟨by rw[i1,e2];simp,fun h n a=>?_⟩;have h':Kx0 at' q l=false:=by simpa using h
   have e1:(KH0 at' st p q).1=decide ((n+Ko0 at' p q)%2=1):=by
    rw[e];unfold Ko0;cases Nb0 at' p q with
    | false=>simpa using a
    | true=>
     show (!st.1)=decide ((n+1)%2=1);rw[a];by_cases c:n%2=1
     ·have:¬ (n+1)%2=1:=by omega
      simp[c,this]
     have:(n+1)%2=1:=by omega
     simp[c,this]
   rw[i2 h' (n+Ko0 at' p q) e1];exact decide_eq_decide.2 (by rw[show n+(Ko0 at' p q+JM0 (Ko0 at') q l)=n+Ko0 at' p q+JM0 (Ko0 at') q l by omega])
def Ln0(at':Pt):List Pt->Int
 | []=>0
 | p::l=>JM0 (Ko0 at') p l
def onL(at':Pt):List Pt->Bool
 | []=>false
 | p::l=>Kx0 at' p l
theorem Mf0(at':Pt)(l:List Pt)(st:Bool×Bool):(La0 at' l st).2=(st.2||onL at' l)/\(onL at' l=false->∀ n:Int,st.1=decide (n%2=1)->(La0 at' l st).1=decide ((n+Ln0 at' l)%2=1)):=by
 cases l with
 | nil=>exact⟨by simp[La0,onL],fun _ n a=>by simpa[La0,Ln0]using a⟩
 | cons p l=>exact KT0 at' l p st
theorem KQ0(m:List (Int×List Pt))(at':Pt):∀ (c:List Int) (st:Bool×Bool),(mI0 m at' c st).2=(st.2||c.any fun d=>onL at' ((lkp qI (jo0 d) m).getD [])) /\
  ((∀ d∈c,onL at' ((lkp qI (jo0 d) m).getD [])=false)->∀ n:Int,st.1=decide (n%2=1)->(mI0 m at' c st).1=decide ((n+sm c fun d=>Ln0 at' ((lkp qI (jo0 d) m).getD []))%2=1))
 | [],st=>⟨by simp[mI0],fun _ n a=>by simpa[mI0,sm]using a⟩
 | d::c,st=>by
  obtain⟨p1,p2⟩:=Mf0 at' ((lkp qI (jo0 d) m).getD []) st;obtain⟨i1,i2⟩:=KQ0 m at' c (La0 at' ((lkp qI (jo0 d) m).getD []) st);refine⟨?_,fun a n h=>?_⟩
  ·show (mI0 m at' c (La0 at' ((lkp qI (jo0 d) m).getD []) st)).2=_
   rw[i1,p1,List.any_cons,Bool.or_assoc]
  show (mI0 m at' c (La0 at' ((lkp qI (jo0 d) m).getD []) st)).1=_;rw[i2 (fun e he=>a e (by simp[he])) _ (p2 (a d (by simp)) n h)];exact decide_eq_decide.2 (by simp only[sm];rw[Int.add_assoc])
theorem KX0(m:List (Int×List Pt))(at':Pt)(c:List Int):Lh0 m c at'=true↔(∀ d∈c,onL at' ((lkp qI (jo0 d) m).getD [])=false)/\(sm c fun d=>Ln0 at' ((lkp qI (jo0 d) m).getD []))%2=1:=by
 obtain⟨h1,h2⟩:=KQ0 m at' c (false,false);unfold Lh0;by_cases a:∀ d∈c,onL at' ((lkp qI (jo0 d) m).getD [])=false
 ·have e1:=h2 a 0 (by simp)
  have e2:(mI0 m at' c (false,false)).2=false:=by rw[h1,cw];exact dF.2 fun d e=>by rw[a d e];simp
  rw[e1,e2,gQ];constructor
  ·intro h
   refine⟨a,?_⟩;by_cases q:(sm c fun d=>Ln0 at' ((lkp qI (jo0 d) m).getD []))%2=1
   ·exact q
   rw[Ak q]at h;cases h
  rintro ⟨_,h⟩;rw[Ao h];rfl
 have e2:(mI0 m at' c (false,false)).2=true:=by rw[h1,cw,jO];have:∃ d,d∈c/\¬ onL at' ((lkp qI (jo0 d) m).getD [])=false:=dw fun h=>a fun d e=>dw fun h'=>h ⟨d,e,h'⟩;obtain⟨d,e,h⟩:=this;exact⟨d,e,by simpa using h⟩
 rw[e2];constructor
 ·intro h
  exfalso;generalize (mI0 m at' c (false,false)).1=b at h;cases b<;>simp at h
 rintro ⟨h,_⟩;exact(a h).elim
theorem Mo0{a b p:Pt}(ha:B7 a=true)(c:B7 b=true)(hp:B7 p=true):(0<S9 a b p↔0<cross a b p)/\(S9 a b p<0↔cross a b p<0):=by unfold S9;rw[Jv0 ha c hp];constructor<;>(repeat' split)<;>omega
namespace Np0
variable {ι:Type} (F:Np0 ι) (hF:F.Ok)
include hF
theorem west_pt(x k:Int):Net.Walks.West (F.net hF) k (fun t=>(F.net hF).cr t k/\(F.net hF).X t k<(F.net hF).M*x):=by
 refine⟨fun t _ h=>h.1,fun t b s hs h hc a=>⟨hc,?_⟩⟩;have c:=F.plane hF;rcases du ((F.net hF).X t k) ((F.net hF).X s k)with q | q
 ·have:=c.cross t b s hs k h.1 hc q
  unfold Net.key at a;omega
 have:=h.2;omega
theorem hit_iff{e:ι}(he:e∈F.E){at':Pt}(c:B7 at'=true):Nb0 at' (F.src e) (F.dst e)=true↔(F.net hF).cr e at'.2/\(F.net hF).M*at'.1<(F.net hF).X e at'.2:=by
 have o:=KZ0 hF he;have b:=JI0 hF he;have core:(F.lo e).2<=at'.2->at'.2<(F.hi e).2->(0<S9 (F.lo e) (F.hi e) at'↔(F.net hF).M*at'.1<(F.net hF).X e at'.2):=fun h1 h2=>by rw[(Mo0 b.1 b.2 c).1];exact(JB0 (F.net hF).M0 (show (F.lo e).2<(F.hi e).2 by omega) ((F.net hF).slope e he (show (F.lo e).2<(F.hi e).2 by omega))).1
 have key:Nb0 at' (F.src e) (F.dst e)=true↔((F.lo e).2<=at'.2/\at'.2<(F.hi e).2/\0<S9 (F.lo e) (F.hi e) at'):=by
  unfold Nb0;unfold lo hi at *;cases hf:F.fwd e
  ·rw[hf]at o
   simp only[Aa]at o ⊢;rw[JH0 (F.src e) (F.dst e) at'];simp only[br,ab,Ad];constructor
   ·rintro (h | h)<;>omega
   intro h;right;omega
  rw[hf]at o;simp only[Ac]at o ⊢;simp only[br,ab,Ad];constructor
  ·rintro (h | h)<;>omega
  intro h;left;omega
 rw[key];constructor
 ·rintro ⟨h1,h2,a⟩
  exact⟨⟨h1,h2⟩,(core h1 h2).1 a⟩
 rintro ⟨⟨h1,h2⟩,a⟩;exact⟨h1,h2,(core h1 h2).2 a⟩
theorem Nd0(a b p:Pt):onP b a p=onP a b p:=by
 unfold onP;have e4:(B7 b&&B7 a&&B7 p)=(B7 a&&B7 b&&B7 p):=by cases B7 a<;>cases B7 b<;>rfl
 have e5:decide (cross b a p=0)=decide (cross a b p=0):=by rw[JZ0];exact decide_eq_decide.2 (by omega)
 have e6:Km0 b a p=Km0 a b p:=by unfold Km0;rw[eV b.1,eW b.1,eV b.2,eW b.2]
 rw[e4,e5,e6]
theorem off_ne{e:ι}(he:e∈F.E){at':Pt}(h:B7 at'=true)(i:onP (F.src e) (F.dst e) at'=false)(hc:(F.net hF).cr e at'.2):(F.net hF).X e at'.2≠(F.net hF).M*at'.1:=by
 intro d;have hu:(F.lo e).2<(F.hi e).2:=cV hc.1 hc.2;have h1:(F.lo e).2<=at'.2:=hc.1;have h2:at'.2<(F.hi e).2:=hc.2;have f:=JI0 hF he;have a:=F.X_box hF he hu h1 (by omega);have g:=F.prod_pos F.E;have b:(F.net hF).X e at'.2=F.prod F.E*at'.1:=d;rw[b]at a;have k:=iw a.1 g;have l:=iw a.2 g;have hs:=JB0 (p:=at') (F.net hF).M0 hu ((F.net hF).slope e he hu);have j:JE0 (F.net hF).M ((F.net hF).s e) (F.lo e) at'.2=(F.net hF).M*at'.1:=d;have hz:cross (F.lo e) (F.hi e) at'=0:=by
  have s1:¬ 0<cross (F.lo e) (F.hi e) at':=fun q=>by have:=hs.1.1 q;omega
  have s2:¬ cross (F.lo e) (F.hi e) at'<0:=fun q=>by have:=hs.2.1 q;omega
  omega
 have on:onP (F.lo e) (F.hi e) at'=true:=by unfold onP Km0;simp only[f.1,f.2,h,hz,eB,dD,Ai,ab,Ad];omega
 have c:onP (F.lo e) (F.hi e) at'=onP (F.src e) (F.dst e) at':=by
  unfold lo hi;cases F.fwd e
  ·exact Nd0 F hF _ _ _
  rfl
 rw[c,i]at on;cases on
end Np0
open Classical
theorem Lq0(at':Pt):∀ (l:List Pt) (p:Pt),Kx0 at' p l=false->∀ (i:Nat) (x y:Pt),(p::l)[i]?=some x->(p::l)[i+1]?=some y->onP x y at'=false
 | [],p,_,i,x,y,_,h2=>by simp at h2
 | q::l,p,h,i,x,y,h1,h2=>by
  have h':(onP p q at'||Kx0 at' q l)=false:=h;rw[dJ]at h';cases i with
  | zero=>
   have e1:p=x:=by simpa using h1
   have e2:q=y:=by simpa using h2
   rw[<- e1,<-e2];exact h'.1
  | succ i=>exact Lq0 at' l q h'.2 i x y h1 h2
namespace cw0
variable {ns:List Nd} {ars:List Ar} {fs:List Int} (h:cw0 ns ars fs)
variable {r:List Sg} (hr:cF0 ns ars ars=some r)
include h
theorem dart_hits(at':Pt){d:Int}(l:d∈K0 ns ars){p:List Pt}(hp:pathOf ns ars (jo0 d)=some p):sm ((Jp0 r).net (h.famOk hr)).halves (fun k=>if Js0 k=d then Ko0 at' (sgA k.1) (sgB k.1)else 0)=Ln0 at' p:=by
 rw[h.sm_al hr];have d1:∀ s,Js0 (alH s)=s.1.1:=fun s=>by unfold Js0;rw[Af (JN0 s)];rfl
 have d2:∀ s,Js0 (agH s)=- s.1.1:=fun s=>by unfold Js0;rw[Ae (by rw[JL0];simp)];rfl
 have pos:∀ s∈r,0<s.1.1:=fun s hs=>by obtain⟨a,p,i,o⟩:=h.seg_of hr hs;have:=h.arc_pos o.arc;rw[o.eq];exact this
 obtain⟨a,ha,c⟩:=h.mem_darts.1 l;obtain⟨f,t,_,_,g,_⟩:=h.path ha;have u:=h.arc_pos ha;have j:=KL0 (fun s=>Ko0 at' (sgA s) (sgB s)) g (I2 h.ascA) (fun b m e=>h.arc_id m ha e) hr ha;rw[My0]at j;have n:jo0 d=a.1:=by unfold jo0;omega
 rw[n,g]at hp;cases hp;show _=JM0 (Ko0 at') _ _;rw[<- j];refine Jq0 fun s hs=>?_;have:=pos s hs;rw[d1,d2];show (if s.1.1=d then Ko0 at' (sgA s) (sgB s)else 0)+(if-s.1.1=d then Ko0 at' (sgA s) (sgB s)else 0)=_;rcases c with rfl | rfl
 ·rw[Ae (show ¬-s.1.1=a.1 by omega),eJ]
 rw[Ae (show ¬ s.1.1=-a.1 by omega),gQ];by_cases q:s.1.1=a.1
 ·rw[Af q,Af (by omega)]
 rw[Ae q,Ae (by omega)]
theorem cyc_hits(at':Pt){m:List (Int×List Pt)}(hm:∀ a∈ars,lkp qI a.1 m=pathOf ns ars a.1){c:List Int}(hc:c∈cyclesOf ns ars) :
  (sm c fun d=>Ln0 at' ((lkp qI (jo0 d) m).getD []))=sm ((Jp0 r).net (h.famOk hr)).halves (fun k=>if (h.wk hr).c k=c then Ko0 at' (sgA k.1) (sgB k.1)else 0):=by
 have o:c.Nodup:=(eo.1 h.cyc_all.1.nodup).1 c hc;have mem:∀ k,k∈((Jp0 r).net (h.famOk hr)).halves↔k.1∈r:=fun k=>Net.mem_halves;have e1:(sm c fun d=>Ln0 at' ((lkp qI (jo0 d) m).getD []))=sm c (fun d=>sm ((Jp0 r).net (h.famOk hr)).halves (fun k=>if Js0 k=d then Ko0 at' (sgA k.1) (sgB k.1)else 0)):=by
  refine Jq0 fun d p=>?_;have g:=h.cyc_dart hc p;obtain⟨a,ha,e⟩:=h.mem_darts.1 g;have s:=h.arc_pos ha;have l:jo0 d=a.1:=by unfold jo0;omega
  obtain⟨f,t,_,_,n,_⟩:=h.path ha;rw[l,hm a ha,n];exact(h.dart_hits hr at' g (by rw[l];exact n)).symm
 rw[e1,Kl0];refine Jq0 fun k hk=>?_;rw[LE0 _ _ o];have j:=(h.next_cases hr ((mem k).1 hk)).1;by_cases i:Js0 k∈c
 ·have b:(h.wk hr).c k=c:=h.dcyc_eq hc i
  rw[Af i,Af b]
 have b:¬ (h.wk hr).c k=c:=fun e=>i (by
  have q:LA0 ns ars (Js0 k)=c:=e;rw[<- q];exact(h.dcyc_mem j).2)
 rw[Ae i,Ae b]
theorem cyc_off(at':Pt){m:List (Int×List Pt)}(hm:∀ a∈ars,lkp qI a.1 m=pathOf ns ars a.1){c:List Int}(hc:c∈cyclesOf ns ars)(hoff:∀ d∈c,onL at' ((lkp qI (jo0 d) m).getD [])=false){k:Net.Hf Sg}(hk:k.1∈r)(b:(h.wk hr).c k=c):onP (sgA k.1) (sgB k.1) at'=false:=by
 have e:=(h.next_cases hr hk).1;have f:LA0 ns ars (Js0 k)=c:=b;have g:Js0 k∈c:=by rw[<- f];exact(h.dcyc_mem e).2
 obtain⟨a,p,i,o⟩:=h.seg_of hr hk;have q:=h.arc_pos o.arc;have e4:k.1.1.1=a.1:=by rw[o.eq];rfl
 have j:jo0 (Js0 k)=a.1:=by unfold jo0 Js0;rw[e4];split<;>omega
 have h1:=hoff _ g;rw[j,hm a o.arc,o.path]at h1;have h2:=o.sa;have n:=o.sb;cases p with
 | nil=>simp at h2
 | cons p0 l=>exact Lq0 at' l p0 h1 i _ _ h2 n
end cw0
namespace cw0
variable {ns:List Nd} {ars:List Ar} {fs:List Int} (h:cw0 ns ars fs)
variable {r:List Sg} (hr:cF0 ns ars ars=some r)
include h
theorem encl_wind{at':Pt}(n:B7 at'=true){m:List (Int×List Pt)}(hm:∀ a∈ars,lkp qI a.1 m=pathOf ns ars a.1){c:List Int}(hc:c∈cyclesOf ns ars)(hoff:∀ d∈c,onL at' ((lkp qI (jo0 d) m).getD [])=false) :
  Lh0 m c at'=true↔(h.wk hr).sumS c (fun t=>((Jp0 r).net (h.famOk hr)).cr t at'.2/\((Jp0 r).net (h.famOk hr)).X t at'.2<((Jp0 r).net (h.famOk hr)).M*at'.1)%2=1:=by
 have hF:=h.famOk hr;rw[KX0,h.cyc_hits hr at' hm hc];have l:=Net.sum_cr (N:=(Jp0 r).net (h.famOk hr)) ((h.wk hr).cir c) at'.2;have g:sm r (fun e=>if ((Jp0 r).net (h.famOk hr)).cr e at'.2 then (h.wk hr).dC c e else 0)=sm r (fun e=>if ((Jp0 r).net (h.famOk hr)).cr e at'.2/\((Jp0 r).net (h.famOk hr)).X e at'.2<((Jp0 r).net (h.famOk hr)).M*at'.1 then (h.wk hr).dC c e else 0)+sm r (fun e=>Ko0 at' (sgA e) (sgB e)*(h.wk hr).dC c e):=by
  rw[<- JA0];refine Jq0 fun e he=>?_;have o:=(Jp0 r).hit_iff hF he n;have f:Nb0 at' (sgA e) (sgB e)=true↔_:=o;unfold Ko0;by_cases cr:((Jp0 r).net (h.famOk hr)).cr e at'.2
  ·rw[Af cr]
   rcases Int.lt_trichotomy (((Jp0 r).net (h.famOk hr)).X e at'.2) (((Jp0 r).net (h.famOk hr)).M*at'.1)with x | x | x
   ·rw[Af ⟨cr,x⟩,Ae (fun q=>by have:=(f.1 q).2;omega)]
    omega
   ·have z:(h.wk hr).dC c e=0:=by refine(h.wk hr).dC_zero fun b p=>?_;have s:=h.cyc_off hr at' hm hc hoff (k:=(e,b)) he p;exact(Jp0 r).off_ne hF he n s cr x
    rw[z];simp
   rw[Ae (fun q=>by have:=q.2;omega),Af (f.2 ⟨cr,x⟩)];omega
  rw[Ae cr,Ae (fun q=>cr q.1),Ae (fun q=>cr (f.1 q).1)];omega
 have i:sm ((Jp0 r).net (h.famOk hr)).halves (fun k=>if (h.wk hr).c k=c then Ko0 at' (sgA k.1) (sgB k.1)else 0)=sm r (fun e=>Ko0 at' (sgA e) (sgB e)*(h.wk hr).dC c e)+2*sm r (fun e=>if (h.wk hr).c (e,true)=c then Ko0 at' (sgA e) (sgB e)else 0):=by
  rw[Net.sm_halves,<-Le0,<-JA0];refine Jq0 fun e he=>?_;show (if (h.wk hr).c (e,true)=c then Ko0 at' (sgA e) (sgB e)else 0)+(if (h.wk hr).c (e,false)=c then Ko0 at' (sgA e) (sgB e)else 0)=_;unfold Net.Walks.dC ind;generalize Ko0 at' (sgA e) (sgB e)=v;by_cases q1:(h.wk hr).c (e,true)=c<;>by_cases q2:(h.wk hr).c (e,false)=c
  ·simp only[Af q1,Af q2];omega
  ·simp only[Af q1,Ae q2];omega
  ·simp only[Ae q1,Af q2];omega
  simp only[Ae q1,Ae q2];omega
 have j:sm r (fun e=>if ((Jp0 r).net (h.famOk hr)).cr e at'.2 then (h.wk hr).dC c e else 0)=0:=by
  refine jK (Jq0 fun e he=>?_) l;by_cases q:((Jp0 r).net (h.famOk hr)).cr e at'.2
  ·simp only[Af q]
  simp only[Ae q]
 have hs:(h.wk hr).sumS c (fun t=>((Jp0 r).net (h.famOk hr)).cr t at'.2/\((Jp0 r).net (h.famOk hr)).X t at'.2<((Jp0 r).net (h.famOk hr)).M*at'.1)=sm r (fun e=>if ((Jp0 r).net (h.famOk hr)).cr e at'.2/\((Jp0 r).net (h.famOk hr)).X e at'.2<((Jp0 r).net (h.famOk hr)).M*at'.1 then (h.wk hr).dC c e else 0):=by
  unfold Net.Walks.sumS;refine Jq0 fun e he=>?_;by_cases q:((Jp0 r).net (h.famOk hr)).cr e at'.2/\((Jp0 r).net (h.famOk hr)).X e at'.2<((Jp0 r).net (h.famOk hr)).M*at'.1
  ·simp only[Af q]
  simp only[Ae q]
 rw[hs,i];rw[j]at g;constructor
 ·rintro ⟨_,q⟩;omega
 intro q;exact⟨hoff,by omega⟩
end cw0
namespace cw0
variable {ns:List Nd} {ars:List Ar} {fs:List Int} (h:cw0 ns ars fs)
variable {r:List Sg} (hr:cF0 ns ars ars=some r)
include h
theorem cyc_ne{c:List Int}(hc:c∈cyclesOf ns ars):∃ d,d∈c:=by obtain⟨e,m,he,hm,_,rfl⟩:=h.cyc_all.1.orb c hc;exact⟨_,Jx0.2 ⟨0,hm,rfl⟩⟩
theorem outer{c:List Int}(hc:c∈cyclesOf ns ars)(ha:0<S4 ns ars c){d:Int}(a:d∈c):(h.wk hr).Outer c (Jr0 ns ars d):=by
 refine(h.wk hr).outer_of ((Jp0 r).plane (h.famOk hr)) ?_ (h.in_part hr hc a) ?_
 ·exact h.first_mem (h.cyc_dart hc a) hr
 rw[h.twice_area hr hc];exact ha
theorem encl_one{at':Pt}(b:B7 at'=true){m:List (Int×List Pt)}(hm:∀ a∈ars,lkp qI a.1 m=pathOf ns ars a.1){c:List Int}(hc:c∈cyclesOf ns ars)(ha:0<S4 ns ars c)(he:Lh0 m c at'=true) :
  (h.wk hr).sumS c (fun t=>((Jp0 r).net (h.famOk hr)).cr t at'.2/\((Jp0 r).net (h.famOk hr)).X t at'.2<((Jp0 r).net (h.famOk hr)).M*at'.1)=1:=by
 obtain⟨d,e⟩:=h.cyc_ne hc;have f:=h.outer hr hc ha e;have g:=(Jp0 r).west_pt (h.famOk hr) at'.1 at'.2;have h1:=(h.encl_wind hr b hm hc ((KX0 m at' c).1 he).1).1 he;rcases(h.wk hr).outer01 ((Jp0 r).plane (h.famOk hr)) f g with q | q
 ·omega
 exact q
end cw0
theorem Mp0{κ:Type}(x:κ):∀ {cs:List κ},cs.Nodup->x∈cs->sm cs (fun c=>ind (x=c))=1
 | [],_,h=>by simp at h
 | a::cs,b,h=>by
  rw[df]at b;simp only[sm];by_cases e:x=a
  ·rw[Ll0 e,Jt0 fun c hc=>JJ0 fun d=>b.1 (by rw[<- e,d];exact hc)]
   rfl
  have h':x∈cs:=by
   rcases aC.1 h with h | h
   ·exact(e h).elim
   exact h
  rw[JJ0 e,Mp0 x b.2 h'];rfl
namespace cw0
variable {ns:List Nd} {ars:List Ar} {fs:List Int} (h:cw0 ns ars fs)
variable {r:List Sg} (hr:cF0 ns ars ars=some r)
include h
theorem cycles_nodup:(cyclesOf ns ars).Nodup:=by have hp:=(eo.1 h.cyc_all.1.nodup).2;refine hp.imp_of_mem fun {c c'} hc b f e=>?_;obtain⟨d,a⟩:=h.cyc_ne hc;exact f d a d (e▸a) rfl
end cw0
namespace cw0
variable {ns:List Nd} {ars:List Ar} {fs:List Int} (h:cw0 ns ars fs)
variable {r:List Sg} (hr:cF0 ns ars ars=some r)
include h
def InPt{ns:List Nd}{ars:List Ar}{fs:List Int}(h:cw0 ns ars fs){r:List Sg}(hr:cF0 ns ars ars=some r)(g:Net.Hf Sg)(c:List Int):Prop:=∃ k:Net.Hf Sg,k.1∈r/\(h.wk hr).c k=c/\(h.wk hr).Conn g k
theorem inPt_iff{g k:Net.Hf Sg}(hk:k.1∈r):h.InPt hr g ((h.wk hr).c k)↔(h.wk hr).Conn g k:=by
 constructor
 ·rintro ⟨f,a,e,hc⟩
  have d:=(h.next_cases hr hk).1;have b:=(h.next_cases hr a).1;have hm:=h.dcyc_mem d;have i:=h.dcyc_mem b;have l:LA0 ns ars (Js0 f)=LA0 ns ars (Js0 k):=e;have hp:=h.in_part hr hm.1 hm.2;have j:=hp k rfl hk;have a2:=hp f e a;exact Net.Walks.conn_trans _ hc (Net.Walks.conn_trans _ (Net.Walks.conn_symm _ a2) j)
 intro hc;exact⟨k,hk,rfl,hc⟩
theorem ind_filter{κ:Type}(x:κ)(p:κ->Prop){cs:List κ}(a:cs.Nodup)(b:x∈cs):sm cs (fun c=>if p c then ind (x=c)else 0)=ind (p x):=by
 by_cases q:p x
 ·rw[Ll0 q,<-Mp0 x a b]
  refine Jq0 fun c _=>?_;by_cases e:x=c
  ·rw[<- e,Af q]
  rw[JJ0 e];split<;>rfl
 rw[JJ0 q];refine Jt0 fun c _=>?_;by_cases e:x=c
 ·rw[<- e,Ae q]
 rw[JJ0 e];split<;>rfl
theorem sumS_part(g:Net.Hf Sg)(S:Sg->Prop):sm (cyclesOf ns ars) (fun c=>if h.InPt hr g c then (h.wk hr).sumS c S else 0)=0:=by
 have e1:sm (cyclesOf ns ars) (fun c=>if h.InPt hr g c then (h.wk hr).sumS c S else 0)=sm (cyclesOf ns ars) (fun c=>sm r (fun e=>if h.InPt hr g c then (if S e then (h.wk hr).dC c e else 0)else 0)):=by
  refine Jq0 fun c _=>?_;by_cases q:h.InPt hr g c
  ·simp only[Af q];rfl
  simp only[Ae q];exact(Jt0 fun _ _=>rfl).symm
 rw[e1,Kl0];refine Jt0 fun e he=>?_;by_cases q:S e
 ·simp only[Af q]
  have hm:∀ b,(h.wk hr).c (e,b)∈cyclesOf ns ars:=fun b=>(h.dcyc_mem (h.next_cases hr (k:=(e,b)) he).1).1;have e2:sm (cyclesOf ns ars) (fun c=>if h.InPt hr g c then (h.wk hr).dC c e else 0)=sm (cyclesOf ns ars) (fun c=>if h.InPt hr g c then ind ((h.wk hr).c (e,false)=c)else 0)-sm (cyclesOf ns ars) (fun c=>if h.InPt hr g c then ind ((h.wk hr).c (e,true)=c)else 0):=by
   rw[<- Kc0];refine Jq0 fun c _=>?_;unfold Net.Walks.dC;by_cases q:h.InPt hr g c
   ·simp only[Af q]
   simp only[Ae q];rfl
  rw[e2,h.ind_filter _ _ h.cycles_nodup (hm false),h.ind_filter _ _ h.cycles_nodup (hm true)];have s:h.InPt hr g ((h.wk hr).c (e,false))↔h.InPt hr g ((h.wk hr).c (e,true)):=by
   rw[h.inPt_iff hr (k:=(e,false)) he,h.inPt_iff hr (k:=(e,true)) he];constructor
   ·intro c;exact Net.Walks.conn_trans _ c (Net.Walks.conn_half _ e false true)
   intro c;exact Net.Walks.conn_trans _ c (Net.Walks.conn_half _ e true false)
  by_cases z:h.InPt hr g ((h.wk hr).c (e,true))
  ·rw[Ll0 z,Ll0 (s.2 z)];rfl
  rw[JJ0 z,JJ0 (fun w=>z (s.1 w))];rfl
 refine Jt0 fun c _=>?_;simp only[Ae q];split<;>rfl
end cw0
end Go.Ab
namespace Go.Pg
open Classical
namespace Net
namespace Walks
variable {ι κ:Type} {N:Net ι} (w:N.Walks κ) (hP:N.Plane)
theorem L_none{d:ι->Int}(a:∀ e∈N.E,d e=0){h:Hf ι}(b:h.1∈N.E):N.L d h=0:=by
 have z:∀ (p:ι->Prop) [DecidablePred p],sm N.E (fun e=>if p e then d e else 0)=0:=fun p _=>Jt0 fun e he=>by rw[a e he];split<;>rfl
 unfold L W above below;rw[z,z,z,a _ b];split<;>cases h.2<;>rfl
noncomputable def opt:N.Walks (Option κ) where
 c:=fun h=>some (w.c h)
 nx:=w.nx
 mem:=w.mem
 lab:=fun h a=>by show some (w.c (w.nx h))=some (w.c h);rw[w.lab h a]
 left:=w.left
 closed:=fun C A=>by
  cases C with
  | none=>exact Jt0 fun h _=>Ae (by simp)
  | some C=>
   refine jK (Jq0 fun h _=>?_) (w.closed C A);by_cases q:w.c h=C
   ·rw[Af q,Af (by rw[q])]
   rw[Ae q,Ae (fun e=>q (aW e))]
include hP
theorem level_zero{C:κ}(j:∀ e∈N.E,N.up e->w.c (e,false)≠C):∀ h:Hf ι,h.1∈N.E->w.c h=C->¬ N.up h.1:=by
 intro h i hc hu;have l:=w.closed C (fun v=>v.2);have hle:∀ k∈N.halves,(if w.c k=C then (N.src k).2-(N.dst k).2 else 0)<=0/\(w.c k=C->N.up k.1->(if w.c k=C then (N.src k).2-(N.dst k).2 else 0)<0):=by
  intro k hk;have a:=mem_halves.1 hk;obtain⟨e,b⟩:=k;have n:=N.ord e a;by_cases q:w.c (e,b)=C
  ·rw[Af q]
   by_cases hu:N.up e
   ·have d:(N.lo e).2<(N.hi e).2:=hu
    cases b
    ·exact(j e a hu q).elim
    show (N.lo e).2-(N.hi e).2<=0/\(_->_->(N.lo e).2-(N.hi e).2<0);exact⟨by omega,fun _ _=>by omega⟩
   have d:¬ (N.lo e).2<(N.hi e).2:=hu;refine⟨?_,fun _ h=>(hu h).elim⟩;cases b
   ·show (N.hi e).2-(N.lo e).2<=0;omega
   show (N.lo e).2-(N.hi e).2<=0;omega
  rw[Ae q];exact⟨aX _,fun m=>(q m).elim⟩
 have:=MN0 (f:=fun k=>if w.c k=C then (N.src k).2-(N.dst k).2 else 0) (g:=fun _=>0) (fun k hk=>(hle k hk).1) h (mem_halves.2 i) ((hle h (mem_halves.2 i)).2 hc hu);rw[Jt0 (f:=fun _=>0) (fun _ _=>rfl)]at this;omega
theorem outer_pos{C:κ}{g:Hf ι}(hO:w.Outer C g){k0:Hf ι}(hk:k0.1∈N.E)(hc:w.c k0=C):0<area2 w C:=by
 have hu:∃ u∈N.E,N.up u/\w.c (u,false)=C:=by
  refine dw fun l=>?_;have r:∀ e∈N.E,N.up e->w.c (e,false)≠C:=fun e he hu q=>l ⟨e,he,hu,q⟩;have f:=w.level_zero hP r;have s:∀ e∈N.E,N.up e->w.dC C e=0:=fun e he hu=>w.dC_zero fun b q=>f (e,b) he q hu;have own:=hO.own k0 (hO.part k0 hc hk);rw[Ll0 hc]at own;have hz:∀ (p:ι->Prop) [DecidablePred p],(∀ e,p e->N.up e)->sm N.E (fun e=>if p e then w.dC C e else 0)=0:=fun p _ hp=>Jt0 fun e he=>by
   by_cases q:p e
   ·rw[Af q,s e he (hp e q)]
   rw[Ae q]
  have n:∀ e k,N.cr e k->N.up e:=fun e k h=>by have:=h.1;have:=h.2;unfold up;omega
  unfold L at own;rw[Ae (f k0 hk hc)]at own;unfold above below at own;rw[hz _ (fun e h=>n e _ h.1),hz _ (fun e h=>n e _ h.1)]at own;cases h:k0.2<;>rw[h]at own<;>simp at own
 obtain⟨u,a,d,i⟩:=hu;have z:∀ e∈N.E,(w.opt).dC none e=0:=fun e _=>(w.opt).dC_zero fun b q=>by cases q
 have o:∀ e∈N.E,N.L ((w.opt).dC none) (e,false)=0:=fun e he=>L_none z he;have ha:area2 (w.opt) none=0:=Jt0 fun h _=>Ae (by intro q;cases q);have j:=Mv0 hP (w.opt) w (C:=none) (D:=C) (fun e he d=>by
  rw[o e he];have m:N.cr e (N.lo e).2:=⟨aX _,d⟩;rw[w.L_down hP he m];rcases w.outer01 hP hO (Lg0 (N:=N) (N.lo e).2 (N.key (N.lo e).2 e))with q | q<;>omega) a d (by
  rw[o u a,hO.own _ (hO.part _ i a),Ll0 i];omega)
 rw[ha]at j;exact j
end Walks
end Net
end Go.Pg
namespace Go.Pg
open Classical
namespace Net
namespace Walks
variable {ι κ:Type} {N:Net ι} (w:N.Walks κ) (hP:N.Plane)
include hP
theorem inner_own{C:κ}{g:Hf ι}(d:g.1∈N.E)(a:w.InPart C g){k0:Hf ι}(hk:k0.1∈N.E)(hc:w.c k0=C)(ha:area2 w C<=0):∀ h,w.Conn g h->N.L (w.dC C) h=ind (w.c h=C)-1:=by
 obtain⟨f,h1,h2,e⟩:=w.own_part hP d;by_cases c:w.c f=C
 ·intro h b
  rw[e C a h b,Ll0 c]
 exfalso;have hO:w.Outer C g:=⟨d,a,fun h b=>by rw[e C a h b,JJ0 c];omega⟩;have:=w.outer_pos hP hO hk hc;omega
theorem inner01{C:κ}{g:Hf ι}(f:g.1∈N.E)(a:w.InPart C g){k0:Hf ι}(hk:k0.1∈N.E)(hc:w.c k0=C)(ha:area2 w C<=0){k:Int}{S:ι->Prop}(e:West N k S):w.sumS C S=0\/w.sumS C S=-1:=by
 rcases w.last hP (g:=g) e with h | ⟨v,hv,b,i,d,j⟩
 ·exact ba (w.sum_none a h)
 rw[w.sum_last hP a e hv b j,w.inner_own hP f a hk hc ha _ (w.conn_trans d (w.conn_half v true false))];rcases Nl0 (w.c (v,false)=C)with q | q<;>omega
end Walks
end Net
end Go.Pg
namespace Go.Ab
open Go Go.Pg
open Classical
namespace cw0
variable {ns:List Nd} {ars:List Ar} {fs:List Int} (h:cw0 ns ars fs)
variable {r:List Sg} (hr:cF0 ns ars ars=some r)
include h
theorem hole01{c:List Int}(hc:c∈cyclesOf ns ars)(ha:S4 ns ars c<=0){k:Int}{S:Sg->Prop}(b:Net.Walks.West ((Jp0 r).net (h.famOk hr)) k S):(h.wk hr).sumS c S=0\/(h.wk hr).sumS c S=-1:=by
 obtain⟨d,a⟩:=h.cyc_ne hc;have hm:=h.first_mem (h.cyc_dart hc a) hr;have hl:(h.wk hr).c (Jr0 ns ars d)=c:=by show LA0 ns ars (Js0 (Jr0 ns ars d))=c;rw[h.dart_first (h.cyc_dart hc a)];exact h.dcyc_eq hc a
 exact(h.wk hr).inner01 ((Jp0 r).plane (h.famOk hr)) hm (h.in_part hr hc a) hm hl (by rw[h.twice_area hr hc];exact ha) b
end cw0
namespace cw0
variable {ns:List Nd} {ars:List Ar} {fs:List Int} (h:cw0 ns ars fs)
variable {r:List Sg} (hr:cF0 ns ars ars=some r)
include h
theorem hole_face{D:List Int}(j:D∈cyclesOf ns ars){g:Net.Hf Sg}(l:h.InPt hr g D){k:Int}{S:Sg->Prop}(i:Net.Walks.West ((Jp0 r).net (h.famOk hr)) k S)(m:(h.wk hr).sumS D S=-1) :
  ∃ E∈cyclesOf ns ars,h.InPt hr g E/\0<S4 ns ars E/\(h.wk hr).sumS E S=1:=by
 have key:∃ E∈cyclesOf ns ars,h.InPt hr g E/\0<(h.wk hr).sumS E S:=by
  refine dw fun b=>?_;have hle:∀ c∈cyclesOf ns ars,(if h.InPt hr g c then (h.wk hr).sumS c S else 0)<=0:=fun c hc=>by
   by_cases q:h.InPt hr g c
   ·rw[Af q]
    rcases du 0 ((h.wk hr).sumS c S)with z | z
    ·exact(b ⟨c,hc,q,z⟩).elim
    exact z
   rw[Ae q];exact aX _
  have:=MN0 (g:=fun _=>0) hle D j (by rw[Af l,m];omega);rw[h.sumS_part hr g S,Jt0 (f:=fun _=>0) (fun _ _=>rfl)]at this;omega
 obtain⟨E,a,hp,hs⟩:=key;have ha:0<S4 ns ars E:=by
  rcases du 0 (S4 ns ars E)with q | q
  ·exact q
  rcases h.hole01 hr a q i with z | z<;>omega
 obtain⟨d,e⟩:=h.cyc_ne a;refine⟨E,a,hp,ha,?_⟩;rcases(h.wk hr).outer01 ((Jp0 r).plane (h.famOk hr)) (h.outer hr a ha e) i with z | z<;>omega
end cw0
end Go.Ab
namespace Go.Pg
open Classical
theorem LO0{α:Type}(key F G:α->Int):∀ l:List α,Kw0 key (fun u=>F u+G u) l=Kw0 key F l+Kw0 key G l
 | []=>rfl
 | [_]=>rfl
 | u::v::l=>by simp only[Kw0,LO0 key F G (v::l)];rw[dE];omega
theorem Mx0{α:Type}{f:α->Int}:∀ {l:List α},l.Nodup->(∀ x∈l,f x=0\/f x=-1)->(∀ x∈l,∀ y∈l,f x=-1->f y=-1->x=y)->-1<=sm l f
 | [],_,_,_=>by simp[sm]
 | a::l,c,h1,h2=>by
  rw[df]at c;simp only[sm];rcases h1 a (by simp)with h | h
  ·have:=Mx0 c.2 (fun x b=>h1 x (by simp[b])) (fun x b y d=>h2 x (by simp[b]) y (by simp[d]))
   omega
  have:sm l f=0:=Jt0 fun x b=>by
   rcases h1 x (by simp[b])with q | q
   ·exact q
   have:=h2 a (by simp) x (by simp[b]) h q;subst this;exact(c.1 b).elim
  omega
namespace Net
namespace Walks
variable {ι κ:Type} {N:Net ι} (w:N.Walks κ) (hP:N.Plane)
include hP
theorem winds_too{C D:κ}{g d:Hf ι}(f:w.Outer C g)(u:w.Outer D d)(J:¬ w.Conn g d)(ha:N.L (w.dC C) d=0){k:Int}{S:ι->Prop}(i:West N k S)(h1:w.sumS C S=1):w.sumS D S=N.L (w.dC D) g:=by
 have j:∀ h,w.Conn d h->h.1∈N.E->¬ w.c h=C:=fun h a hm e=>J (w.conn_trans (f.part h e hm) (w.conn_symm a));have l:∀ h,w.Conn g h->h.1∈N.E->¬ w.c h=D:=fun h a hm e=>J (w.conn_trans a (w.conn_symm (u.part h e hm)));have m:∀ h,w.Conn d h->h.1∈N.E->N.L (w.dC C) h=0:=fun h a hm=>by have v:=w.V_conn hP C a u.mem;rw[JJ0 (j _ a hm),JJ0 (j _ (.refl _) u.mem)]at v;omega
 have z:∀ h,w.Conn g h->h.1∈N.E->N.L (w.dC D) h=N.L (w.dC D) g:=fun h a hm=>by have v:=w.V_conn hP D a f.mem;rw[JJ0 (l _ a hm),JJ0 (l _ (.refl _) f.mem)]at v;omega
 rcases w.last hP (g:=g) i with h | ⟨v,hv,n,hc,B,o⟩
 ·rw[w.sum_none f.part h]at h1;cases h1
 rw[w.sum_last hP f.part i hv n o]at h1;have G:∀ t∈N.E,S t->N.key k v<N.key k t->∀ b,¬ w.Conn d (t,b):=by intro t x p H b K;have I:=i.cr t x p;have e1:N.L (w.dC C) (t,true)=0:=m _ (w.conn_trans K (w.conn_half t b true)) x;rw[w.L_upS hP x I]at e1;have e2:=w.sum_last hP f.part (KY0 (N:=N) k (N.key k t)) hv ⟨hc,H⟩ (fun s hs q r M=>o s hs (i.dn t x s hs p q.1 q.2) r M);omega
 rw[w.sum_last hP u.part i hv n G];exact z _ (w.conn_trans B (w.conn_half v true false)) hv
structure Hole(C:κ)(gC:Hf ι)(Q:κ->Prop)(D:κ)(g:Hf ι):Prop where
 mem:g.1∈N.E
 part:w.InPart D g
 some':∃ k0:Hf ι,k0.1∈N.E/\w.c k0=D
 area:area2 w D<=0
 off:¬ w.Conn gC g
 ins:N.L (w.dC C) g=1
 face:∀ {k:Int} {S:ι->Prop},West N k S->w.sumS D S=-1->∃ E,w.Outer E g/\Q E/\w.sumS E S=1
 least:∀ {E:κ} {gE:Hf ι},Q E->w.Outer E gE->¬ w.Conn gE g->N.L (w.dC E) g=1->area2 w C<=area2 w E
theorem hole_one{D a:κ}{g:Hf ι}(e:g.1∈N.E)(j:w.InPart D g)(b:w.InPart a g)(k:∃ k0:Hf ι,k0.1∈N.E/\w.c k0=D)(l:∃ k0:Hf ι,k0.1∈N.E/\w.c k0=a)(ha:area2 w D<=0)(d:area2 w a<=0):D=a:=by
 obtain⟨f,h1,h2,m⟩:=w.own_part hP e;have key:∀ {C:κ},w.InPart C g->(∃ k0:Hf ι,k0.1∈N.E/\w.c k0=C)->area2 w C<=0->w.c f=C:=by
  intro C i hk ha;obtain⟨k0,hk,hc⟩:=hk;by_cases c:w.c f=C
  ·exact c
  exfalso;have hO:w.Outer C g:=⟨e,i,fun h n=>by rw[m C i h n,JJ0 c];omega⟩;have:=w.outer_pos hP hO hk hc;omega
 exact(key j k ha).symm.trans (key b l d)
theorem Hole.winds{C D:κ}{gC g:Hf ι}{Q:κ->Prop}(b:w.Outer C gC)(h:w.Hole C gC Q D g){k:Int}{S:ι->Prop}(d:West N k S)(f:w.sumS D S=-1):∃ E,w.Outer E g/\Q E/\w.sumS E S=1/\N.L (w.dC E) gC=0/\w.sumS C S=1:=by
 obtain⟨E,a,i,hs⟩:=h.face d f;have e:¬ w.Conn g gC:=fun c=>h.off (w.conn_symm c);have z:N.L (w.dC E) gC=0:=by
  rcases w.not_both hP a.mem b.mem a.part b.part e with q | q
  ·exact q
  have:=h.ins;omega
 exact⟨E,a,i,hs,z,by rw[w.winds_too hP a b e z d hs];exact h.ins⟩
theorem Hole.one{C D o:κ}{gC g s:Hf ι}{Q:κ->Prop}(n:w.Outer C gC)(h:w.Hole C gC Q D g)(h':w.Hole C gC Q o s){k:Int}{S:ι->Prop}(f:West N k S)(t:w.sumS D S=-1)(p:w.sumS o S=-1):D=o:=by
 by_cases i:w.Conn g s
 ·exact w.hole_one hP h.mem h.part (fun x e hm=>w.conn_trans i (h'.part x e hm)) h.some' h'.some' h.area h'.area
 exfalso;obtain⟨E,j,u,hs,z,l⟩:=h.winds w hP n f t;obtain⟨B,d,r,m,v,_⟩:=h'.winds w hP n f p;rcases w.not_both hP j.mem d.mem j.part d.part i with q | q
 ·have a:=w.winds_too hP j d i q f hs
  have b:=h.least r d (fun c=>i (w.conn_symm c)) (by omega);have c:=w.inside hP d n (fun c=>h'.off (w.conn_symm c)) v f m l;omega
 have a:=w.winds_too hP d j (fun c=>i (w.conn_symm c)) q f m;have b:=h'.least u j i (by omega);have c:=w.inside hP j n (fun c=>h.off (w.conn_symm c)) z f hs l;omega
theorem face_pos{C:κ}{gC:Hf ι}{Q:κ->Prop}(l:w.Outer C gC){b:List κ}(r:b.Nodup)(h:∀ D∈b,∃ g,w.Hole C gC Q D g):0<=area2 w C+sm b (fun D=>area2 w D):=by
 have s:∀ {k:Int} {S:ι->Prop},West N k S->0<=w.sumS C S+sm b (fun D=>w.sumS D S):=by
  intro k S i;have f:∀ D∈b,w.sumS D S=0\/w.sumS D S=-1:=fun D c=>by obtain⟨g,d⟩:=h D c;obtain⟨k0,hk,hc⟩:=d.some';exact w.inner01 hP d.mem d.part hk hc d.area i
  by_cases hex:∃ D∈b,w.sumS D S=-1
  ·obtain⟨D,c,hs⟩:=hex
   obtain⟨g,d⟩:=h D c;obtain⟨_,_,_,_,_,hc⟩:=d.winds w hP l i hs;have:=Mx0 r f fun x v y z B E=>by obtain⟨J,m⟩:=h x v;obtain⟨K,o⟩:=h y z;exact m.one w hP l o i B E
   omega
  have:sm b (fun D=>w.sumS D S)=0:=Jt0 fun D c=>by
   rcases f D c with q | q
   ·exact q
   exact(hex ⟨D,c,q⟩).elim
  rcases w.outer01 hP l i with q | q<;>omega
 obtain⟨a,n,_,hs⟩:=Kf0 hP;have p:∀ b:List κ,N.M*(area2 w C+sm b (fun D=>area2 w D))=sm (aJ n) (fun j:Nat=>Kw0 (N.key (a+j)) (fun u=>N.L (w.dC C) (u,false)+sm b (fun D=>N.L (w.dC D) (u,false))) (Kd0 hP (a+j))):=by
  intro b
  induction b with
  | nil=>simp only[sm,eJ];exact hs w C
  | cons D b G=>
   have e1:N.M*(area2 w C+sm (D::b) (fun D=>area2 w D))=N.M*(area2 w C+sm b (fun D=>area2 w D))+N.M*area2 w D:=by simp only[sm];rw[<- fw];congr 1;omega
   rw[e1,G,hs w D,<-JA0];refine Jq0 fun j _=>?_;rw[<- LO0];refine KU0 fun u _=>?_;simp only[sm];omega
 have H:=p b;have I:sm (aJ n) (fun _=>0)<=sm (aJ n) (fun j:Nat=>Kw0 (N.key (a+j)) (fun u=>N.L (w.dC C) (u,false)+sm b (fun D=>N.L (w.dC D) (u,false))) (Kd0 hP (a+j))):=by refine MW0 fun j _=>?_;rw[<- KI0 (N.key (a+j)) (Kd0 hP (a+j))];refine KD0 (JK0 hP _).2 fun u hu=>?_;have hm:=(JY0 hP).1 hu;rw[w.L_down hP hm.1 hm.2 C];have e:sm b (fun D=>N.L (w.dC D) (u,false))=sm b (fun D=>w.sumS D (fun t=>N.cr t (a+j)/\N.key (a+j) t<=N.key (a+j) u)):=Jq0 fun D _=>w.L_down hP hm.1 hm.2 D;rw[e];exact s (Lg0 (a+j) _)
 rw[Jt0 (fun _ _=>rfl),<-H]at I;rcases du (area2 w C+sm b (fun D=>area2 w D)) 0 with q | q
 ·have:=e_ N.M0 q
  omega
 exact q
end Walks
end Net
end Go.Pg
namespace Go.Ab
open Go Go.Pg
open Classical
namespace cw0
variable {ns:List Nd} {ars:List Ar} {fs:List Int} (h:cw0 ns ars fs)
variable {r:List Sg} (hr:cF0 ns ars ars=some r)
include h
omit h in
theorem MJ0(k:Net.Hf Sg):Js0 (Net.rev k)=- Js0 k:=by
 have e1:∀ s,Js0 (alH s)=s.1.1:=fun s=>by unfold Js0;rw[JN0,Af rfl];rfl
 have e2:∀ s,Js0 (agH s)=-s.1.1:=fun s=>by unfold Js0;rw[JL0,Ae (by simp)];rfl
 rcases JU0 k with q | q<;>rw[q]
 ·rw[Mn0,e1,e2]
 rw[Mq0,e1,e2];omega
theorem conn_around{n:Nd}(a:n∈ns){e d:Int}(he:e∈G5 ns ars n)(b:d∈G5 ns ars n):(h.wk hr).Conn (Jr0 ns ars e) (Jr0 ns ars d):=by
 have prec:∀ x∈G5 ns ars n,(h.wk hr).Conn (Jr0 ns ars x) (Jr0 ns ars (gi0 (G5 ns ars n) x)):=fun x c=>by have hm:=(h.around_half hr a c).1;have f:x∈K0 ns ars:=bR.2 ⟨_,a_ a,c⟩;have h2:=(h.conn_first hr (k:=Net.rev (Jr0 ns ars x)) hm).2;rw[MJ0,h.dart_first f,h.next_eq a c]at h2;exact Net.Walks.conn_trans _ (.rev (.refl _)) h2
 have all:∀ (i:Nat) (hi:i<(G5 ns ars n).length),(h.wk hr).Conn (Jr0 ns ars (G5 ns ars n)[i]) (Jr0 ns ars ((G5 ns ars n)[0]'(by omega))):=by
  intro i
  induction i with
  | zero=>intro hi;exact .refl _
  | succ i g=>
   intro hi;have h1:=prec _ (aw hi);have e1:(i+1+(G5 ns ars n).length-1)%(G5 ns ars n).length=i:=by rw[show i+1+(G5 ns ars n).length-1=i+(G5 ns ars n).length by omega,jN,fZ (by omega)]
   rw[Kh0 (h.around_nodup a) hi]at h1;simp only[e1]at h1;exact Net.Walks.conn_trans _ h1 (g (by omega))
 obtain⟨i,hi,rfl⟩:=bH he;obtain⟨j,hj,rfl⟩:=bH b;exact Net.Walks.conn_trans _ (all i hi) (Net.Walks.conn_symm _ (all j hj))
theorem node_L{n:Nd}(d:n∈ns){e:Int}(he:e∈G5 ns ars n){c:List Int}(z:∀ k:Net.Hf Sg,k.1∈r->((Jp0 r).net (h.famOk hr)).src k=(n.2.1,n.2.2)->(h.wk hr).dC c k.1=0) :
  ((Jp0 r).net (h.famOk hr)).L ((h.wk hr).dC c) (Jr0 ns ars e)=(h.wk hr).sumS c (fun t=>((Jp0 r).net (h.famOk hr)).cr t n.2.2/\((Jp0 r).net (h.famOk hr)).X t n.2.2<((Jp0 r).net (h.famOk hr)).M*n.2.1):=by
 have f:=(Jp0 r).plane (h.famOk hr);have g:=(h.wk hr).cir c;have ha:=h.around_ok hr d;obtain⟨i,hi,rfl⟩:=bH he;have hl:=Net.L_list f g ha (i:=i) (by simpa using hi);rw[cn]at hl;have j:sm (((G5 ns ars n).map (Jr0 ns ars)).take (i+1)) (Net.dl ((h.wk hr).dC c))=0:=Jt0 fun k hk=>by have:=(ha.mem k).1 (List.mem_of_mem_take hk);have:=z k this.1 this.2;unfold Net.dl;rw[this];cases k.2<;>rfl
 have l:((Jp0 r).net (h.famOk hr)).atD ((h.wk hr).dC c) (n.2.1,n.2.2)=0:=Jt0 fun t b=>by
  split
  ·rename_i q;exact z (t,false) b q.2
  rfl
 have m:((Jp0 r).net (h.famOk hr)).atW ((h.wk hr).dC c) (n.2.1,n.2.2)=0:=Jt0 fun t b=>by
  split
  ·rename_i q;exact z (t,false) b q.2
  rfl
 have a:((Jp0 r).net (h.famOk hr)).IsEnd (n.2.1,n.2.2):=by
  have:=h.around_half hr d (aw hi);refine⟨_,this.1,?_⟩;have s:=this.2.1;unfold Net.src at s;cases o:(Jr0 ns ars (G5 ns ars n)[i]).2<;>rw[o]at s
  ·exact aP s
  exact ba s
 have li:=Net.line _ g n.2.2 (((Jp0 r).net (h.famOk hr)).M*n.2.1);have p:=Net.hor_at f ((h.wk hr).dC c) a;have u:((Jp0 r).net (h.famOk hr)).hor ((h.wk hr).dC c) n.2.2 (((Jp0 r).net (h.famOk hr)).M*n.2.1)=0:=by rw[<- m];exact p
 rw[hl,j,l];have e1:((Jp0 r).net (h.famOk hr)).above ((h.wk hr).dC c) n.2.2 (((Jp0 r).net (h.famOk hr)).M*n.2.1)=(h.wk hr).sumS c (fun t=>((Jp0 r).net (h.famOk hr)).cr t n.2.2/\((Jp0 r).net (h.famOk hr)).X t n.2.2<((Jp0 r).net (h.famOk hr)).M*n.2.1):=by
  unfold Net.above Net.Walks.sumS;refine Jq0 fun t _=>?_;by_cases q:((Jp0 r).net (h.famOk hr)).cr t n.2.2/\((Jp0 r).net (h.famOk hr)).X t n.2.2<((Jp0 r).net (h.famOk hr)).M*n.2.1
  ·rw[Af q,Af q]
  rw[Ae q,Ae q]
 rw[<- e1];show ((Jp0 r).net (h.famOk hr)).below ((h.wk hr).dC c) n.2.2 (((Jp0 r).net (h.famOk hr)).M*n.2.1)+0-0=_;omega
theorem off_dC{n:Nd}{m:List (Int×List Pt)}(hm:∀ a∈ars,lkp qI a.1 m=pathOf ns ars a.1){c:List Int}(hc:c∈cyclesOf ns ars)(hoff:∀ d∈c,onL (n.2.1,n.2.2) ((lkp qI (jo0 d) m).getD [])=false) :
  ∀ k:Net.Hf Sg,k.1∈r->((Jp0 r).net (h.famOk hr)).src k=(n.2.1,n.2.2)->∀ b,(h.wk hr).c (k.1,b)≠c:=by
 intro k hk hs b f;have h1:=h.cyc_off hr (n.2.1,n.2.2) hm hc hoff (k:=(k.1,b)) hk f;obtain⟨a,p,i,o⟩:=h.seg_of hr hk;obtain⟨g,nb⟩:=h.seg_near o;have e:(n.2.1,n.2.2)=sgA k.1\/(n.2.1,n.2.2)=sgB k.1:=by
  rw[<- hs];rcases JU0 k with q | q
  ·left;rw[q,Kp0];rfl
  right;rw[q,Kr0];rfl
 have h2:=Mu0 g nb e;rw[h1]at h2;cases h2
omit h in
theorem Lz0(at':Pt):∀ (l:List Pt) (p:Pt),(∀ (i:Nat) (x y:Pt),(p::l)[i]?=some x->(p::l)[i+1]?=some y->onP x y at'=false)->Kx0 at' p l=false
 | [],p,_=>rfl
 | q::l,p,a=>by unfold Kx0;rw[a 0 p q rfl rfl,Lz0 at' l q fun i x y b c=>a (i+1) x y (by simpa using b) (by simpa using c)];rfl
theorem off_conn{n:Nd}(g:n∈ns){e:Int}(he:e∈G5 ns ars n){m:List (Int×List Pt)}(hm:∀ a∈ars,lkp qI a.1 m=pathOf ns ars a.1){c:List Int}(hc:c∈cyclesOf ns ars)(s:∀ d∈c,¬ (h.wk hr).Conn (Jr0 ns ars d) (Jr0 ns ars e)) :
  ∀ d∈c,onL (n.2.1,n.2.2) ((lkp qI (jo0 d) m).getD [])=false:=by
 intro d w;obtain⟨a,ha,p,hp,j⟩:=h.first_cases (h.cyc_dart hc w);have z:=h.arc_pos ha;have C:jo0 d=a.1:=by unfold jo0;rcases j with ⟨q,_⟩ | ⟨q,_⟩<;>omega
 rw[C,hm a ha,hp];cases p with
 | nil=>rfl
 | cons p0 l=>
  refine Lz0 _ l p0 fun i x y D t=>?_;cases E:onP x y (n.2.1,n.2.2)with
  | false=>rfl
  | true=>
   exfalso;have hi:i+1<(p0::l).length:=by
    rcases cg (i+1) (p0::l).length with q | q
    ·exact q
    rw[bD q]at t;cases t
   have hs:(Jz0 a (p0::l),(i:Int))∈r:=Jw0 hr a ha _ hp _ (JF0 hi);have o:JG0 ns ars (Jz0 a (p0::l),(i:Int)) a (p0::l) i:=⟨ha,hp,hi,rfl⟩;have G:sgA (Jz0 a (p0::l),(i:Int))=x:=aW (o.sa.symm.trans D);have sy:sgB (Jz0 a (p0::l),(i:Int))=y:=aW (o.sb.symm.trans t);have at':=h.at_node o g (h.free hr hs n g) (by rw[G,sy];exact E);have fin:∃ b∈G5 ns ars n,(Jr0 ns ars b).1=(Jz0 a (p0::l),(i:Int)):=by
    rcases at' with ⟨q,f,_⟩ | ⟨q,f,_⟩
    ·refine⟨a.1,(h.around_arc g).2 ⟨a,ha,ba ⟨f,rfl⟩⟩,?_⟩
     rw[h.first_out ha hp,q];rfl
    refine⟨-a.1,(h.around_arc g).2 ⟨a,ha,aP ⟨f,rfl⟩⟩,?_⟩;rw[h.first_in ha hp,show (p0::l).length-2=i by omega];rfl
   obtain⟨b,u,hf⟩:=fin;have c1:=h.conn_around hr g u he;have c2:∃ k:Net.Hf Sg,k.1=(Jz0 a (p0::l),(i:Int))/\Js0 k=d:=by
    rcases j with ⟨q,_⟩ | ⟨q,_⟩
    ·exact⟨alH (Jz0 a (p0::l),(i:Int)),rfl,by unfold Js0;rw[JN0,Af rfl];exact q.symm⟩
    exact⟨agH (Jz0 a (p0::l),(i:Int)),rfl,by unfold Js0;rw[JL0,Ae (by simp)];exact q.symm⟩
   obtain⟨k,hk,v⟩:=c2;have B:=(h.conn_first hr (k:=k) (by rw[hk];exact hs)).1;rw[v]at B;have H:(h.wk hr).Conn k (Jr0 ns ars b):=by have:=(h.wk hr).conn_half k.1 k.2 (Jr0 ns ars b).2;rw[show ((k.1,(Jr0 ns ars b).2):Net.Hf Sg)=Jr0 ns ars b by rw[hk,<-hf]]at this;exact this
   exact s d w (Net.Walks.conn_trans _ B (Net.Walks.conn_trans _ H c1))
end cw0
theorem Md0{ι κ:Type}{N:Net ι}{w:N.Walks κ}{C:κ}{g a:Net.Hf ι}(hO:w.Outer C g)(b:a.1∈N.E)(hc:w.Conn a g):w.Outer C a :=⟨b,fun k hk hm=>w.conn_trans hc (hO.part k hk hm),fun k hk=>hO.own k (w.conn_trans (w.conn_symm hc) hk)⟩
namespace cw0
variable {ns:List Nd} {ars:List Ar} {fs:List Int} (h:cw0 ns ars fs)
variable {r:List Sg} (hr:cF0 ns ars ars=some r)
include h
theorem first_node{m:List (Int×List Pt)}(hm:∀ a∈ars,lkp qI a.1 m=pathOf ns ars a.1){D:List Int}(t:D∈cyclesOf ns ars):∃ d∈D,∃ n∈ns,∃ e∈G5 ns ars n,gQ0 m D=(n.2.1,n.2.2)/\B7 (gQ0 m D)=true/\(h.wk hr).Conn (Jr0 ns ars e) (Jr0 ns ars d):=by
 obtain⟨d1,i⟩:=h.cyc_ne t;have u:D.headD 0∈D:=by
  cases D with
  | nil=>simp at i
  | cons x l=>simp
 have j:=h.cyc_dart t u;obtain⟨a,ha,p,hp,b⟩:=h.first_cases j;have v:=h.arc_pos ha;have w:jo0 (D.headD 0)=a.1:=by unfold jo0;rcases b with ⟨q,_⟩ | ⟨q,_⟩<;>omega
 obtain⟨⟨n,s,g⟩,_⟩:=h.node_of ha;have hl:=h.path_len ha hp;have o:JG0 ns ars (Jz0 a p,((0:Nat):Int)) a p 0:=⟨ha,hp,by omega,rfl⟩;have hs:(Jz0 a p,((0:Nat):Int))∈r:=Jw0 hr a ha p hp _ (JF0 (by omega));have e1:=h.seg_first o rfl s g.symm;have e2:gQ0 m D=(n.2.1,n.2.2):=by unfold gQ0;rw[w,hm a ha,hp];have:=o.sa;rw[e1]at this;simp only[Option.getD_some,this]
 refine⟨_,u,n,s,a.1,(h.around_arc s).2 ⟨a,ha,ba ⟨g.symm,rfl⟩⟩,e2,by rw[e2,<-e1];exact(h.seg_near o).1,?_⟩;rw[h.first_out ha hp];rcases b with ⟨q,f⟩ | ⟨q,f⟩
 ·rw[f];exact .refl _
 have c:=(h.conn_first hr (k:=agH (Jz0 a p,((0:Nat):Int))) hs).1;have e3:Js0 (agH (Jz0 a p,((0:Nat):Int)))=D.headD 0:=by unfold Js0;rw[JL0,Ae (by simp)];exact q.symm
 rw[e3]at c;exact Net.Walks.conn_trans _ ((h.wk hr).conn_half _ _ _) (Net.Walks.conn_symm _ c)
theorem hole_ok{m:List (Int×List Pt)}(hm:∀ a∈ars,lkp qI a.1 m=pathOf ns ars a.1){C D:List Int}(K:C∈cyclesOf ns ars)(w:D∈cyclesOf ns ars)(hc:0<S4 ns ars C)(hd:S4 ns ars D<=0)(he:Lh0 m C (gQ0 m D)=true)
  (hl:∀ E∈cyclesOf ns ars,0<S4 ns ars E->Lh0 m E (gQ0 m D)=true->S4 ns ars C<=S4 ns ars E) {gC:Net.Hf Sg} (hO:(h.wk hr).Outer C gC):∃ g,(h.wk hr).Hole C gC (fun E=>E∈cyclesOf ns ars/\0<S4 ns ars E) D g:=by
 obtain⟨d,u,n,z,e,f,j,i,o⟩:=h.first_node hr hm w;have N:=(h.around_half hr z f).1;have B:=(h.around_half hr z f).2.1;have b:=h.cyc_dart w u;have O:∀ d∈C,onL (n.2.1,n.2.2) ((lkp qI (jo0 d) m).getD [])=false:=by rw[<- j];exact((KX0 m _ C).1 he).1
 have Z:=h.off_dC hr hm K O;have p:((Jp0 r).net (h.famOk hr)).L ((h.wk hr).dC C) (Jr0 ns ars e)=1:=by rw[h.node_L hr z f fun k hk hs=>(h.wk hr).dC_zero (Z k hk hs)];have:=h.encl_one hr i hm K hc he;rw[j]at this;exact this
 have lab:(h.wk hr).c (Jr0 ns ars d)=D:=by show LA0 ns ars (Js0 (Jr0 ns ars d))=D;rw[h.dart_first b];exact h.dcyc_eq w u
 refine⟨Jr0 ns ars e,N,?_,⟨_,h.first_mem b hr,lab⟩,by rw[h.twice_area hr w];exact hd,?_,p,?_,?_⟩
 ·intro k hk P
  exact Net.Walks.conn_trans _ o (h.in_part hr w u k hk P)
 ·intro v
  have:=hO.own _ v;rw[p]at this;have G:(h.wk hr).c (Jr0 ns ars e)=C:=by
   by_cases q:(h.wk hr).c (Jr0 ns ars e)=C
   ·exact q
   rw[JJ0 q]at this;cases this
  exact Z _ N B (Jr0 ns ars e).2 G
 ·intro k S hS hs
  obtain⟨E,Q,hp,ha,h1⟩:=h.hole_face hr w (g:=Jr0 ns ars e) ⟨_,h.first_mem b hr,lab,o⟩ hS hs;obtain⟨k',R,U,V⟩:=hp;obtain⟨x,hx⟩:=h.cyc_ne Q;have l:=h.outer hr Q ha hx;have:=l.part k' U R;exact⟨E,Md0 l N (Net.Walks.conn_trans _ V (Net.Walks.conn_symm _ this)),⟨Q,ha⟩,h1⟩
 intro E gE s l Y h1;rw[h.twice_area hr K,h.twice_area hr s.1];have H:=h.off_conn hr z f hm s.1 fun d' I v=>by
  have J:=h.cyc_dart s.1 I;have l':(h.wk hr).c (Jr0 ns ars d')=E:=by show LA0 ns ars (Js0 (Jr0 ns ars d'))=E;rw[h.dart_first J];exact h.dcyc_eq s.1 I
  exact Y (Net.Walks.conn_trans _ (l.part _ l' (h.first_mem J hr)) v)
 rw[h.node_L hr z f fun k hk hs=>(h.wk hr).dC_zero (h.off_dC hr hm s.1 H k hk hs)]at h1;refine hl E s.1 s.2 ((h.encl_wind hr i hm s.1 (by rw[j];exact H)).2 ?_);rw[j];show (h.wk hr).sumS E (fun t=>((Jp0 r).net (h.famOk hr)).cr t n.2.2/\((Jp0 r).net (h.famOk hr)).X t n.2.2<((Jp0 r).net (h.famOk hr)).M*n.2.1)%2=1;rw[h1];rfl
theorem face_area{m:List (Int×List Pt)}(hm:∀ a∈ars,lkp qI a.1 m=pathOf ns ars a.1){C:List Int}(i:C∈cyclesOf ns ars)(hc:0<S4 ns ars C){g:List (List Int)}(k:g.Nodup)
  (j:∀ D∈g,D∈cyclesOf ns ars/\S4 ns ars D<=0/\Lh0 m C (gQ0 m D)=true/\∀ E∈cyclesOf ns ars,0<S4 ns ars E->Lh0 m E (gQ0 m D)=true->S4 ns ars C<=S4 ns ars E) :
  0<=S4 ns ars C+sm g (S4 ns ars):=by
 obtain⟨r,hr⟩:=h.segs;obtain⟨d,l⟩:=h.cyc_ne i;have hO:=h.outer hr i hc l;have:=(h.wk hr).face_pos ((Jp0 r).plane (h.famOk hr)) hO k fun D f=>by obtain⟨a,b,c,e⟩:=j D f;exact h.hole_ok hr hm i a hc b c e hO
 rw[h.twice_area hr i]at this;have e:sm g (fun D=>Net.area2 (h.wk hr) D)=sm g (S4 ns ars):=Jq0 fun D f=>h.twice_area hr (j D f).1;rw[e]at this;exact this
end cw0
def fxA(x:aX0):Int×List Int:=(x.1,x.2.1)
theorem Kq0{m:List (Int×List Pt)}{at':Pt}{L c:List aX0}(d:L.map fxA=c.map fxA):∀ (r a:List aX0) (i b:Nat),r.map fxA=a.map fxA->gO0 m at' L r i b=gO0 m at' c a i b
 | [],[],_,_,_=>rfl
 | [],_::_,_,_,h=>by simp at h
 | _::_,[],_,_,h=>by simp at h
 | x::r,y::a,i,b,h=>by
  simp only[az,cG,fxA,cy]at h;have f:MQ0 L b=MQ0 c b:=by have:=Ap (fun l=>(l[b]?).map gV) d;simp only[aS,fX]at this;have e:(gV ∘ fxA)=fun x:aX0=>x.1:=rfl;rw[e]at this;unfold MQ0;rw[this]
  simp only[gO0];rw[h.1.1,h.1.2,f];exact Kq0 d r a _ _ (by simpa[fxA]using h.2)
theorem LJ0{m:List (Int×List Pt)}{L a:List aX0}(b:L.map fxA=a.map fxA)(at':Pt):gj0 m L at'=gj0 m a at':=by unfold gj0;refine Kq0 b _ _ _ _ ?_;rw[kB,kB,b]
theorem Nc0(L:List aX0)(k:Nat)(c:List Int):(addI L k c).map fxA=L.map fxA:=by
 unfold addI;cases a:L[k]? with
 | none=>rfl
 | some x=>
  simp only[List.map_set];refine List.ext_getElem? fun i=>?_;rw[cd];by_cases e:k=i
  ·subst e
   have hk:k<L.length:=by
    rcases cg k L.length with q | q
    ·exact q
    rw[bD q]at a;cases a
   rw[Af rfl,Af (by simpa using hk),aS,a];rfl
  rw[Ae e]
theorem MF0(L:List aX0)(k:Nat)(c:List Int)(i:Nat):(addI L k c)[i]?=(L[i]?).map (fun x=>(x.1,x.2.1,x.2.2.1++(if k=i then [c]else []),x.2.2.2)):=by
 unfold addI;cases a:L[k]? with
 | none=>
  by_cases e:k=i
  ·subst e;rw[a];rfl
  simp[e]
 | some x=>
  have hk:k<L.length:=by
   rcases cg k L.length with q | q
   ·exact q
   rw[bD q]at a;cases a
  simp only;rw[cd];by_cases e:k=i
  ·subst e
   rw[Af rfl,Af hk,a];simp
  rw[Ae e];simp[e]
theorem MC0{m:List (Int×List Pt)}{a:List aX0}:∀ (R:List (List Int)) (L:List aX0),L.map fxA=a.map fxA->∀ (k:Nat),(inF m R L)[k]?=(L[k]?).map (fun x=>(x.1,x.2.1,x.2.2.1++R.filter (fun c=>decide (gj0 m a (gQ0 m c)=k)),x.2.2.2))
 | [],L,_,k=>by simp[inF]
 | c::R,L,b,k=>by
  have e:=LJ0 (m:=m) b (gQ0 m c);simp only[inF];rw[MC0 R _ ((Nc0 L _ c).trans b) k,MF0,fX,e];congr 1;funext x;simp only[Function.comp,cL,List.filter_cons];by_cases q:gj0 m a (gQ0 m c)=k
  ·simp[q]
  simp[q]
theorem MO0(L:List aX0)(k:Nat)(c:Int)(i:Nat):((addN L k c)[i]?).map (fun x=>(x.1,x.2.1,x.2.2.1))=(L[i]?).map (fun x=>(x.1,x.2.1,x.2.2.1)):=by
 unfold addN;cases a:L[k]? with
 | none=>rfl
 | some x=>
  have hk:k<L.length:=by
   rcases cg k L.length with q | q
   ·exact q
   rw[bD q]at a;cases a
  simp only;rw[cd];by_cases e:k=i
  ·subst e
   rw[Af rfl,Af hk,a];rfl
  rw[Ae e]
theorem LN0{ns:List Nd}{ars:List Ar}{m:List (Int×List Pt)}:∀ (R:List Nd) (L:List aX0) (i:Nat),((aloF ns ars m R L)[i]?).map (fun x=>(x.1,x.2.1,x.2.2.1))=(L[i]?).map (fun x=>(x.1,x.2.1,x.2.2.1))
 | [],_,_=>rfl
 | n::R,L,i=>by
  simp only[aloF];rw[LN0 R];cases decide (Z3 ars n.1=0)
  ·rfl
  exact MO0 L _ _ i
def FInv(m:List (Int×List Pt))(at':Pt)(L pre:List aX0)(b:Nat):Prop :=(b=0/\∀ x∈pre,Lh0 m x.2.1 at'=false)\/∃ y,L[b]?=some y/\1<=b/\Lh0 m y.2.1 at'=true/\∀ x∈pre,Lh0 m x.2.1 at'=true->y.1<=x.1
theorem KN0{m:List (Int×List Pt)}{at':Pt}{L:List aX0}:∀ (r:List aX0) (pre:List aX0) (b:Nat),L.tail=pre++r->FInv m at' L pre b->FInv m at' L (pre++r) (gO0 m at' L r (pre.length+1) b)
 | [],pre,b,_,h=>by rw[bw];exact h
 | x::r,pre,b,hp,h=>by
  have g:L[pre.length+1]?=some x:=by rw[<- List.getElem?_tail,hp];simp
  simp only[gO0];have e:pre++x::r=(pre++[x])++r:=by simp
  have i:pre.length+1+1=(pre++[x]).length+1:=by simp
  rw[e,i];refine KN0 r (pre++[x]) _ (hp.trans e) ?_;cases he:Lh0 m x.2.1 at' with
  | false=>
   rw[Bool.and_false,Aa];rcases h with ⟨h1,h2⟩ | ⟨y,h1,h2,f,d⟩
   ·refine ba ⟨h1,fun z hz=>?_⟩
    rcases aQ.1 hz with q | q
    ·exact h2 z q
    rw[bJ.1 q];exact he
   refine aP ⟨y,h1,h2,f,fun z hz a=>?_⟩;rcases aQ.1 hz with q | q
   ·exact d z q a
   rw[bJ.1 q,he]at a;cases a
  | true=>
   rw[Bool.and_true];rcases h with ⟨h1,h2⟩ | ⟨y,h1,h2,f,d⟩
   ·rw[h1,Ao (rfl:(0:Nat)=0),Bool.true_or,Ac]
    refine aP ⟨x,g,by omega,he,fun z hz a=>?_⟩;rcases aQ.1 hz with q | q
    ·rw[h2 z q]at a;cases a
    rw[bJ.1 q];exact aX _
   have j:MQ0 L b=y.1:=by unfold MQ0;rw[h1];rfl
   rw[j,Ak (show ¬ b=0 by omega),cw];by_cases q:x.1<y.1
   ·rw[Ao q,Ac]
    refine aP ⟨x,g,by omega,he,fun z hz a=>?_⟩;rcases aQ.1 hz with c | c
    ·have:=d z c a;omega
    rw[bJ.1 c];exact aX _
   rw[Ak q,Aa];refine aP ⟨y,h1,h2,f,fun z hz a=>?_⟩;rcases aQ.1 hz with c | c
   ·exact d z c a
   rw[bJ.1 c];omega
theorem LB0{m:List (Int×List Pt)}{at':Pt}{L:List aX0}{k:Nat}(hk:gj0 m L at'=k+1):∃ y,L[k+1]?=some y/\Lh0 m y.2.1 at'=true/\∀ x∈L.tail,Lh0 m x.2.1 at'=true->y.1<=x.1:=by
 have:=KN0 (m:=m) (at':=at') (L:=L) L.tail [] 0 rfl (ba ⟨rfl,by simp⟩);rw[aT,show gO0 m at' L L.tail (([]:List aX0).length+1) 0=k+1 from hk]at this;rcases this with ⟨h,_⟩ | ⟨y,h1,_,h2,a⟩
 ·omega
 exact⟨y,h1,h2,a⟩
theorem KV0{ars:List Ar}{k:Nat}:∀ {l:List aX0} {seen out:List Int},(ek0 ars k false l seen out).2=true->∀ a∈l,∃ f,∀ c∈gh0 a,∀ d∈c,bo0 ars d=f
 | [],_,_,_,a,ha=>by simp at ha
 | x::l,seen,out,h,a,ha=>by
  simp only[ek0]at h;cases h1:decide (bo0 ars (x.2.1.headD 0)=0)||decide (bo0 ars (x.2.1.headD 0)∈seen)with
  | true=>rw[h1,Ac]at h;cases h
  | false=>
   rw[h1,Aa]at h;cases h2:(gh0 x).all (fun c=>c.all fun d=>decide (bo0 ars d=bo0 ars (x.2.1.headD 0)))with
   | false=>rw[h2,Aa]at h;cases h
   | true=>
    rw[h2,Ac]at h;rcases aC.1 ha with rfl | ha
    ·refine⟨bo0 ars (a.2.1.headD 0),fun c hc d b=>?_⟩
     exact Aj (aj.1 (aj.1 h2 c hc) d b)
    exact KV0 h a ha
theorem Kv0{ars:List Ar}{k:Nat}{a:aX0}{l:List aX0}(h:(ek0 ars k true (a::l) [] []).2=true):(∀ c∈gh0 a,∀ d∈c,bo0 ars d=0)/\∀ b∈l,∃ f,∀ c∈gh0 b,∀ d∈c,bo0 ars d=f:=by
 simp only[ek0]at h;cases h2:(gh0 a).all (fun c=>c.all fun d=>decide (bo0 ars d=0))with
 | false=>rw[h2,Aa]at h;cases h
 | true=>rw[h2,Ac]at h;exact⟨fun c hc d e=>Aj (aj.1 (aj.1 h2 c hc) d e),KV0 h⟩
theorem MH0{α:Type}(p:α->Bool)(f:α->Int)(l:List α):sm l f=sm (l.filter p) f+sm (l.filter (fun a=>!p a)) f:=by rw[JP0,JP0,<-JA0];refine Jq0 fun a _=>?_;cases p a<;>simp
theorem Mw0{α:Type}(g:α->Int):∀ cs:List (List α),sm cs.flatten g=sm cs (fun c=>sm c g)
 | []=>rfl
 | c::cs=>by rw[List.flatten_cons,JC0,Mw0 g cs];rfl
def orZ{α:Type}(f:α->Int):Option α->Int
 | some a=>f a
 | none=>0
theorem LS0{α:Type}(f:α->Int):∀ l:List α,sm l f=sm (aJ l.length) (fun k=>orZ f l[k]?)
 | []=>rfl
 | a::l=>by rw[ay,dW];simp only[sm];rw[Kt0,LS0 f l];rfl
theorem Mz0(v:Int):∀ {N i:Nat},i<N->sm (aJ N) (fun k=>if i=k then v else 0)=v:=by
 intro N i hi;have h:=Ku0 (fun _:Nat=>v) (jM (n:=N)) (eC.2 hi);refine jK (Jq0 fun k _=>?_) h;by_cases e:i=k
 ·rw[Af e,Af e.symm]
 rw[Ae e,Ae fun q=>e q.symm]
theorem Mc0{α:Type}(f:α->Int)(find:α->Nat){N:Nat}{l:List α}(a:∀ c∈l,find c<N):sm l f=sm (aJ N) (fun k=>sm (l.filter fun c=>decide (find c=k)) f):=by
 have e:sm (aJ N) (fun k=>sm (l.filter fun c=>decide (find c=k)) f)=sm (aJ N) (fun k=>sm l (fun c=>if find c=k then f c else 0)):=Jq0 fun k _=>by
  rw[JP0];refine Jq0 fun c _=>?_;by_cases q:find c=k
  ·rw[Af q,Ao q,Af rfl]
  rw[Ae q,Ak q,Ae (by simp)]
 rw[e,Kl0];exact Jq0 fun c hc=>(Mz0 (f c) (a c hc)).symm
noncomputable def Kz0(ns:List Nd)(ars:List Ar)(ps:List Int)(d:Int):Int:=if bo0 ars d∈ps then vq0 ns ars d else 0
namespace cw0
variable {ns:List Nd} {ars:List Ar} {fs:List Int} (h:cw0 ns ars fs)
include h
theorem areaS_darts(ps:List Int):∀ l:List Ar,(∀ a∈l,a∈ars)->iz0 ns ars ps l=sm (l.flatMap fun a=>[a.1,-a.1]) (Kz0 ns ars ps)
 | [],_=>rfl
 | a::l,hl=>by
  have ha:=hl a (by simp);have e:=h.num ha;have c:=areaS_darts ps l fun b d=>hl b (by simp[d]);rw[eA,JC0,<-c];have e1:jo0 a.1=a.1:=by unfold jo0;omega
  have e2:jo0 (-a.1)=a.1:=by unfold jo0;omega
  have s1:bo0 ars a.1=a.2.2.2.2.1:=by unfold bo0;rw[Ae (by omega),e1,h.arcOf_self ha];simp only;rw[Af (by omega)]
  have s2:bo0 ars (-a.1)=a.2.2.2.2.2:=by unfold bo0;rw[Ae (by omega),e2,h.arcOf_self ha];simp only;rw[Ae (by omega)]
  have d1:vq0 ns ars a.1=sx0 ns ars a:=by
   unfold vq0 sx0;rw[e1];cases pathOf ns ars a.1 with
   | none=>rfl
   | some p=>cases p with
    | nil=>rfl
    | cons p l=>simp only;rw[Ae (by omega)]
  have d2:vq0 ns ars (-a.1)=-(sx0 ns ars a):=by
   unfold vq0 sx0;rw[e2];cases pathOf ns ars a.1 with
   | none=>rfl
   | some p=>cases p with
    | nil=>rfl
    | cons p l=>simp only;rw[Af (by omega)]
  simp only[iz0,sm];unfold Kz0;rw[s1,s2,d1,d2];by_cases q1:a.2.2.2.2.1∈ps<;>by_cases q2:a.2.2.2.2.2∈ps<;>simp[q1,q2]<;>omega
theorem areaS_cycles(ps:List Int):iz0 ns ars ps ars=sm (cyclesOf ns ars) (fun c=>sm c (Kz0 ns ars ps)):=by
 rw[h.areaS_darts ps ars (fun _ ha=>ha),<-Mw0];refine Ld0 ((ib ?_ h.cyc_all.1.nodup).2 fun d=>?_)
 ·refine iN.2 ⟨fun a ha=>?_,?_⟩
  ·have:=h.num ha
   simp only[bj,bJ,iu,gh,and_true];exact⟨fun b f=>by omega,fun b f=>f.elim⟩
  have hp:ars.Pairwise (fun a b=>a.1<b.1):=c_.1 (I2 h.ascA);refine hp.imp_of_mem fun {a b} ha f k x i y j=>?_;have:=h.num ha;have:=h.num f;simp only[aC,iu,or_false]at i j;rcases i with rfl | rfl<;>rcases j with rfl | rfl<;>omega
 have e:d∈(cyclesOf ns ars).flatten↔d∈K0 ns ars:=by
  constructor
  ·intro g
   obtain⟨c,hc,g⟩:=bR.1 g;exact h.cyc_dart hc g
  exact h.cyc_all.2 d
 rw[e,h.mem_darts];simp[cJ]
theorem area_nn{k:Nat}(hF:(ek0 ars k true (cR0 ns ars (H5 ns ars) (cyclesOf ns ars)) [] []).2=true){ps:List Int}(R:(0:Int)∉ps):0<=iz0 ns ars ps ars:=by
 have hm:∀ a∈ars,lkp qI a.1 (H5 ns ars)=pathOf ns ars a.1:=fun a ha=>h.pathsM_look ha;rw[h.areaS_cycles ps];generalize S:H5 ns ars=m at *;have p:=h.cycles_nodup;have w:∀ C∈cyclesOf ns ars,C∈cyclesOf ns ars:=fun _ x=>x;generalize hC0:cyclesOf ns ars=cs at hF p w ⊢;let outs:=cs.filter fun c=>decide (0<S4 ns ars c);let e:=cs.filter fun c=>!decide (0<S4 ns ars c);let fd:List Int->Nat:=fun c=>gj0 m (LF0 ns ars cs) (gQ0 m c);have L2:∀ k,((cR0 ns ars m cs)[k]?).map (fun x=>(x.1,x.2.1,x.2.2.1))=((LF0 ns ars cs)[k]?).map (fun x=>(x.1,x.2.1,x.2.2.1++e.filter (fun c=>decide (fd c=k)))):=fun k=>by unfold cR0;rw[LN0,MC0 _ _ rfl k,fX];rfl
 have z:(LF0 ns ars cs).length=outs.length+1:=by unfold LF0;simp[outs]
 have B:∀ c∈e,fd c<outs.length+1:=fun c _=>by
  rw[<- z];refine lb0 m _ _ _ 1 0 _ ?_ ?_
  ·rw[List.length_tail];omega
  omega
 have r:∀ c∈e.filter (fun c=>decide (fd c=0)),sm c (Kz0 ns ars ps)=0:=by
  intro c hc;have h1:=L2 0;cases s:cR0 ns ars m cs with
  | nil=>rw[s]at h1;simp[LF0]at h1
  | cons a l=>rw[s]at h1 hF;simp only[LF0,List.getElem?_cons_zero,ak,ah,cy,aT]at h1;refine Jt0 fun d g=>?_;have:=(Kv0 hF).1 c (by unfold gh0;rw[h1.2.2];exact bO _ hc) d g;unfold Kz0;rw[this,Ae R]
 have G:∀ k,k<outs.length->0<=orZ (fun c=>sm c (Kz0 ns ars ps)) outs[k]?+sm (e.filter fun c=>decide (fd c=k+1)) (fun c=>sm c (Kz0 ns ars ps)):=by
  intro k hk;have i:=ai hk;generalize outs[k]=C at i;rw[i];have t:(LF0 ns ars cs)[k+1]?=some (S4 ns ars C,C,[],[]):=by unfold LF0;rw[aR,aS];have:(cs.filter fun c=>decide (0<S4 ns ars c))[k]?=some C:=i;rw[this];rfl
  have h1:=L2 (k+1);rw[t]at h1;obtain⟨H,j⟩:=aV.1 (aN i);have j:=Aj j;cases s:cR0 ns ars m cs with
  | nil=>rw[s]at h1;simp at h1
  | cons a l=>
   rw[s]at h1 hF;cases v:(a::l)[k+1]? with
   | none=>rw[v]at h1;simp at h1
   | some b=>
    rw[v]at h1;simp only[ak,ah,cy,aT]at h1;have I:b∈l:=by rw[aR]at v;exact aN v
    obtain⟨f,hf⟩:=(Kv0 hF).2 b I;have ev:∀ c∈gh0 b,sm c (Kz0 ns ars ps)=if f∈ps then S4 ns ars c else 0:=fun c hc=>by
     rw[KJ0];by_cases q:f∈ps
     ·rw[Af q]
      exact Jq0 fun d g=>by unfold Kz0;rw[hf c hc d g,Af q]
     rw[Ae q];exact Jt0 fun d g=>by unfold Kz0;rw[hf c hc d g,Ae q]
    have J:C∈gh0 b:=by unfold gh0;rw[h1.2.1];exact dQ
    have K:∀ D∈e.filter (fun c=>decide (fd c=k+1)),D∈gh0 b:=fun D u=>by unfold gh0;rw[h1.2.2];exact bO _ u
    show 0<=sm C (Kz0 ns ars ps)+_;rw[ev C J,Jq0 (f:=fun c=>sm c (Kz0 ns ars ps)) fun D u=>ev D (K D u)];by_cases q:f∈ps
    ·simp only[Af q]
     refine h.face_area hm (hC0▸H) j ((p.filter _).filter _) fun D u=>?_;obtain⟨M,n⟩:=aV.1 u;obtain⟨N,o⟩:=aV.1 M;have n:=Aj n;have o:¬ 0<S4 ns ars D:=by intro x;rw[Ao x]at o;cases o
     obtain⟨y,Q,U,y3⟩:=LB0 (L:=LF0 ns ars cs) n;rw[t]at Q;have:=aW Q;subst this;refine⟨hC0▸N,by omega,U,fun E V O P=>?_⟩;refine y3 (S4 ns ars E,E,[],[]) ?_ P;unfold LF0;exact aM.2 ⟨E,aV.2 ⟨hC0▸V,Ao O⟩,rfl⟩
    simp only[Ae q];rw[Jt0 fun _ _=>rfl];exact aX _
 rw[MH0 (fun c=>decide (0<S4 ns ars c)) _ cs];show 0<=sm outs _+sm e _;rw[LS0 _ outs,Mc0 _ fd B,dW];simp only[sm];rw[Kt0,Jt0 r,gQ,<-JA0];exact Lv0 fun k hk=>G k (eC.1 hk)
end cw0
end Go.Ab
namespace Go.Ab
open Go Go.Sort Go.Proofs Go.Shelf
set_option maxRecDepth 10000
theorem Ms0{ns:List Nd}{ars:List Ar}{fs:List Int}{l:List Ft}(a:X1 ns ars fs l=0):L9 ns ars fs=0:=by
 unfold X1 at a;by_cases q:L9 ns ars fs=0
 ·exact q
 rw[Ak q]at a;exact Am a q
theorem LQ0{ns:List Nd}{ars:List Ar}{fs:List Int}{l:List Ft}(c:X1 ns ars fs l=0):(∀ f∈l,f.2.2.1<=9)/\∀ f∈l,K1 f.2.1=3->∀ p∈f.2.2.2.2,p∈fs:=by
 unfold X1 at c;by_cases q:L9 ns ars fs=0
 ·rw[Ao q]at c
  simp only[aA,Aa]at c;obtain⟨_,c⟩:=np0 (by decide) c;obtain⟨_,c⟩:=np0 (by decide) c;obtain⟨_,c⟩:=np0 (by decide) c;obtain⟨h2,c⟩:=np0 (by decide) c;obtain⟨_,c⟩:=np0 (by decide) c;obtain⟨_,c⟩:=np0 (by decide) c;obtain⟨_,c⟩:=np0 (by decide) c;obtain⟨d,c⟩:=np0 (by decide) c;refine⟨fun f hf=>?_,fun f hf hs p hp=>?_⟩
  ·have:=dF.1 h2 f hf
   simp[p2]at this;omega
  have a:=dF.1 d f hf;rw[jO]at a;have b:lG0 ns ars fs f.2.1 p=false:=by
   cases e:lG0 ns ars fs f.2.1 p with
   | false=>rfl
   | true=>exact(a ⟨p,hp,e⟩).elim
  unfold lG0 at b;rw[hs]at b;simpa using b
 rw[Ak q]at c;exact Am c q
theorem MU0{ns:List Nd}{ars:List Ar}{fs:List Int}{l:List Ft}(b:X1 ns ars fs l=0)(id:Int):0<=lI0 ns ars l id:=by
 have h:=(cX0 b).pl;unfold lI0;cases hf:eq0 l id with
 | none=>exact aX _
 | some f=>
  simp only;split
  ·rename_i hs
   have a:=Ms0 b;unfold L9 at a;rw[show M8 ns ars fs=0 from aI0.2 h]at a;simp only[Ai,Ac]at a;cases hF:(ek0 ars fs.length true (cR0 ns ars (H5 ns ars) (cw0.cyclesOf ns ars)) [] []).2 with
   | false=>rw[hF]at a;cases a
   | true=>refine h.area_nn hF fun z=>?_;have:=(LQ0 b).2 f (bh hf) hs 0 z;have:=aj.1 h.numF 0 this;simp[hD0]at this
  exact aX _
theorem LC0{ns:List Nd}{ars:List Ar}{fs:List Int}{l:List Ft}(j:X1 ns ars fs l=0):cH0 ns ars fs l 9 0 0 0 128=(P2 ars l).flatMap (fun i=>[(5,i,0,1)]):=by
 have h:=(cX0 j).pl;have z1:l.flatMap (X3 ns ars l 0)=[]:=dc.2 fun f _=>by unfold X3;have:=MU0 j f.1;rw[Ae (by omega)]
 have z2:ars.flatMap (dp0 ns ars fs 0)=[]:=dc.2 fun a _=>by
  unfold dp0;have:0<=it0 ns ars fs a 0:=by
   unfold it0;cases pathOf ns ars a.1 with
   | none=>exact aX _
   | some p=>exact mL0 (aX _) ie0
  rw[Ae (by omega)]
 have z3:l.flatMap (cD0 ns ars (0*0))=[]:=dc.2 fun f _=>by
  rw[cK];unfold cD0;split
  ·have e:dF0 ((nodeAt ns (fk0 f)).2.1,(nodeAt ns (fk0 f)).2.2)=true:=by
    unfold nodeAt;cases k:O7 ns (fk0 f)with
    | none=>rfl
    | some n=>exact h.nodePos (bh k)
   have c:=cA0 e;generalize nodeAt ns (fk0 f)=d at c;have m:ars.flatMap (ge0 ns ars 0 f d)=[]:=dc.2 fun a g=>by
    obtain⟨r,s,_,_,hp,_,_⟩:=h.path g;unfold ge0;have:0<=iD0 ns ars a (d.2.1,d.2.2) 0:=by unfold iD0;rw[hp];exact mL0 (aX _) (tM0 (fun q k=>cA0 (h.pathNear g hp q k)) c)
    rw[Ae (by omega)]
   have o:(dB0 ns ars).flatMap (hQ0 0 f d)=[]:=dc.2 fun n _=>by
    unfold hQ0;have:0<=sqD n d:=by have a:=sq_nonneg (n.2.1-d.2.1);have b:=sq_nonneg (n.2.2-d.2.2);unfold sqD;omega
    rw[Ae (by omega)]
   rw[m,o];rfl
  rfl
 have z4:eW0 l 9 128=[]:=by
  have hc:l.countP (fun f=>decide (9<f.2.2.1))=0:=List.countP_eq_zero.2 fun f hf=>by have:=(LQ0 j).1 f hf;simp;omega
  have hl:=(cX0 j).len;unfold eW0 manyN;rw[hc,Ae (by omega)]
 unfold cH0;rw[z1,z2,z3,z4];rfl
theorem LL0{xs:List Int}(hl:xs.length<=1000000):Q9 (xs,xs)=some true:=by
 unfold Q9;simp only[b9,Ai,aA,Aa];refine r9 (A:=Unit) xs (fun i _=>(i:Int)) (fun _ _=>some true) (by omega) ?_ ?_ ()
 ·intro rec _
  simp only[A9,Aa]
 intro rec i _ x rest hi a b;simp only[A5 hi,Ac,l9 a,b9,Ai,aA,Aa,dx0 hi hl];exact b ()
theorem Lb0(ns:List Nd)(ars:List Ar)(fs:List Int)(l:List Ft)(hv:∀ a∈ars,a.2.2.2.1.length<=4611686018427387904):P7 (ns,ars,fs,l)=some true:=by
 obtain⟨b,j,_⟩:=ju0 ns ars fs l hv;have k:mapsheetslaw36_awake ()=some true:=rfl;unfold P7;simp only[j,k,b9];cases b with
 | false=>rfl
 | true=>
 simp only[aA,Aa,Q3,b9];by_cases hf:X1 ns ars fs l=0;rotate_left
 ·simp only[hf,Ag,Bool.not_false,Ac]
 have hF:=cX0 hf;have h:=hF.pl;have hc:D6 (1,9,0,0,0,128)=some 0:=rfl;have s:=bY0 (by decide) (by decide) (by decide) (by decide) hc hf;have m:P0 ()=some ((1:Int),(9:Int),(0:Int),(0:Int),(0:Int),(128:Int)):=rfl;simp only[hf,Ai,aA,Aa,m,b9,s,LC0 hf];have hp:(Z0 mi0 ((P2 ars l).flatMap fun i=>[((5:Int),i,(0:Int),(1:Int))])).Perm _:=S5 (R7 _);have hs:=kD0 (R7 ((P2 ars l).flatMap fun i=>[((5:Int),i,(0:Int),(1:Int))]));generalize Z0 mi0 ((P2 ars l).flatMap fun i=>[((5:Int),i,(0:Int),(1:Int))])=L at hp hs;have hm:∀ v∈L,v.1=5/\v.2.2.1=0/\v.2.2.2=1:=fun v hv=>by obtain⟨i,_,hi⟩:=cJ.1 (hp.mem_iff.1 hv);rw[bJ.1 hi];exact⟨rfl,rfl,rfl⟩
 have t:(P2 ars l).length<=1*ars.length:=K7 (g:=fun a:Ar=>if l.any (lw0 a)then []else [a.1]) (c:=1) (xs:=ars) (fun a _=>by split<;>simp);have n:(P2 ars l).Pairwise (fun a b=>a<=b):=by unfold P2;refine iN.2 ⟨fun a _=>by split<;>simp,?_⟩;have hp:ars.Pairwise (fun a b=>a.1<b.1):=c_.1 (I2 h.ascA);refine hp.imp fun {a b} w x d y q=>?_;split at d<;>split at q<;>simp at d q;omega
 have o:∀ us:List Int,(us.flatMap fun i=>[((5:Int),i,(0:Int),(1:Int))]).map (fun v=>v.2.1)=us:=fun us=>by
  induction us with
  | nil=>rfl
  | cons u us z=>rw[eA,dL,z];rfl
 have r:L.map (fun v=>v.2.1)=P2 ars l:=by
  refine List.Perm.eq_of_pairwise (le:=fun a b=>a<=b) (fun a b _ _ x y=>Int.le_antisymm x y) ?_ n ?_
  ·refine c_.2 (hs.imp_of_mem fun {a b} ha j p=>?_)
   rw[ej0]at p;have:=hm a ha;have:=hm b j;omega
  have:=hp.map (fun v=>v.2.1);rw[o]at this;exact this
 have hlen:L.length<=1000:=by have:=Ap List.length r;rw[aD]at this;have:=h.lenA;omega
 refine(p8 (A:=List Int) L (fun i acc=>(acc,(i:Int))) (fun acc rest=>if acc++rest.map (fun v=>v.2.1)=P2 ars l then some true else Q9 (acc++rest.map (fun v=>v.2.1),P2 ars l)) (fun i acc=>acc.length<=i) (by omega) ?_ ?_ [] (by simp)).trans ?_
 ·intro rec acc B
  have C:=rY0 hf (by have:=h.lenA;omega) (by have:=hF.len;omega) (fun f hf=>by have:=hF.parts f hf;omega);simp only[A9,Aa,Ac,C,b9,List.map_nil,bw];split
  ·rename_i e
   rw[e,LL0 (by have:=h.lenA;omega)];rfl
  rename_i e;cases Q9 (acc,P2 ars l)<;>rfl
 ·intro rec i acc x rest hi B D E
  have d:L[i]?=some x:=by have:=Ap List.head? D;simpa[List.head?_drop]using this
  obtain⟨g1,g2,g3⟩:=hm x (aN d);simp only[A5 hi,Ac,aF0 d,b9,g1,g2,g3,Ai,aA,Aa,dx0 hi (show L.length<=1000000 by omega)];rw[C7 (by omega) (by simp;omega)];simp only[b9];rw[E (acc++[x.2.1]) (by simp;omega)];simp only[az,cL,List.cons_append,aT]
 simp only[aT,r,Al]
end Go.Ab
