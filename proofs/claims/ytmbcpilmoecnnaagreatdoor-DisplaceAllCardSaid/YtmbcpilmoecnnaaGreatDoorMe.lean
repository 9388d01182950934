/- A part of the proof; its readable source lies in wip of the prover's repo (squeezed here for the limit of bytes). -/
import Derived.Test.YtmbcpilmoecnnaaGreatDoorMd
import Derived.KernelRfl
import Derived.Test.YtmbcpilmoecnnaaGreatDoorMc
set_option linter.all false
open BitVec renaming ofInt->aY,toNat_ofInt->fu
open Bool renaming and_assoc->gD,and_eq_false_iff->gO,and_eq_true->ab,and_false->iz,and_self->bw,and_true->fg,eq_false_iff->fH,eq_iff_iff->di,false_eq_true->aJ,false_or->db,not_eq_true'->dc,not_eq_true->eZ,not_false->bj,not_true->aw,or_assoc->ma,or_comm->iI,or_eq_false_iff->cL,or_eq_true->bz,or_self->jn,true_and->bY,true_or->jT,true->Y,false->U
open ByteArray renaming mk->cK
open Classical renaming byContradiction->fV,em->kY
open Decidable renaming decide->No
open Eq renaming trans->mD
open Function renaming comp->k_,comp_def->fm
open Go.IntKind renaming i64->dB
open Int renaming add_assoc->iq,add_mul_ediv_left->kh,add_mul_emod_self_left->js,add_zero->eU,ediv_le_self->fw,ediv_lt_iff_lt_mul->jU,ediv_lt_of_lt_mul->cm,ediv_nonneg->bK,ediv_one->mF,emod_lt_of_pos->dj,emod_nonneg->dq,le_of_mul_le_mul_left->eJ,le_refl->cH,lt_or_gt_of_ne->im,max_comm->jF,min_comm->jE,mul_assoc->dP,mul_comm->bX,mul_ediv_add_emod->df,mul_le_mul->kQ,mul_le_mul_of_nonneg_left->bB,mul_le_mul_of_nonneg_right->aP,mul_lt_mul->mb,mul_lt_mul_of_pos_right->eC,mul_neg->cR,mul_nonneg->aH,mul_one->eE,mul_pos->cn,mul_pos_of_neg_of_neg->cN,mul_sub->c_,mul_zero->eG,natCast_mul->dt,neg_mul->iU,neg_neg->je,pos_of_mul_pos_right->cE,toNat_natCast->aO,zero_add->gR,zero_mul->eH
open List renaming all_cons->bH,all_eq_true->aj,all_nil->dI,any_cons->dD,any_eq_false->bc,any_eq_true->dz,append_assoc->bG,append_nil->cg,cons_append->cS,countP_cons->lx,dropLast_concat_getLast->iW,drop_eq_getElem_cons->bL,drop_length->gS,drop_sublist->lf,ext_getElem?->e_,filter_congr->iB,filter_cons->cC,filter_nil->jI,find?_cons->eA,find?_eq_none->gf,find?_some->dp,flatMap->mo,flatMap_cons->b_,flatMap_nil->fX,flatten_cons->cZ,foldl->br,forall_mem_map->kB,getElem?_cons_succ->aI,getElem?_eq_getElem->af,getElem?_eq_none->bA,getElem?_eq_some_iff->au,getElem?_map->aS,getElem?_range->kx,getElem?_set->dF,getElem?_take_of_lt->eK,getElem_inj->fO,getElem_map->cB,getElem_mem->aA,getElem_of_mem->a_,getLast?_eq_some_getLast->iO,getLast_cons_cons->gJ,head?_eq_getElem?->jL,length->aa,length_append->aX,length_cons->aC,length_filter_le->bJ,length_map->aL,length_nil->dA,length_pos_of_mem->jJ,length_range->cO,length_reverse->ky,length_take->da,map->cD,map_append->eQ,map_cons->aq,map_map->cI,map_nil->dm,mem_append->aV,mem_append_left->dG,mem_append_right->g_,mem_cons->aF,mem_cons_of_mem->bp,mem_cons_self->aU,mem_filter->aW,mem_flatMap->cW,mem_flatten->bU,mem_map->aM,mem_map_of_mem->aN,mem_of_find?_eq_some->ba,mem_of_getElem?->aG,mem_of_mem_drop->ax,mem_of_mem_take->kb,mem_range->ga,mem_reverse->fP,mem_singleton->cq,mergeSort_perm->cX,nil_append->bZ,nodup_append->dO,nodup_cons->cx,pairwise_append->ke,pairwise_cons->aR,pairwise_flatten->d_,pairwise_map->cT,perm_ext_iff_of_nodup->jf,range'->eo,range->aQ,range_succ->ib,range_succ_eq_map->gI,reverse_cons->iA,set_append_right->fJ,tail->lq,tail_drop->jr,take_add_one->bm,take_append_drop->dQ,take_length->bI,take_of_length_le->jK,zipWith_cons_cons->jM
open List.Nodup renaming length_le_of_subset->fj
open List.Pairwise renaming of_cons->iH
open List.Perm renaming refl->kz
open List.cons renaming inj->kS,injEq->bW
open Nat renaming add_mod_right->gv,add_sub_cancel->ir,eq_of_mul_eq_mul_left->jA,eq_zero_or_pos->gh,gcd->bN,gcd_dvd_left->lH,gcd_dvd_right->ly,gcd_mul_left->lI,gcd_one_right->jy,gcd_pos_of_pos_left->jN,le_trans->bD,lt_or_ge->cU,min_eq_left->dE,mod_eq_of_lt->cY,mod_lt->dZ,mod_self->kg,pow_succ->mG,sub_zero->mE,succ->kZ,two_pow_pos->lR,zero_add->bd
open Nat.Coprime renaming coprime_dvd_right->mN,mul_left->mO
open Option renaming getD_some->cw,map_map->dS,map_some->ai,toList_some->kf,some->Z,none->W
open Option.some renaming inj->aK,injEq->ah
open Or renaming inl->bE,inr->bq
open Prod renaming ext->eB,fst->kR
open Prod.mk renaming injEq->fC
namespace Go.Ab
open Go Go.Pg
theorem X4{s:fy}{m:cu (Int×bs)}:∀ {r:cu fy},r.Pairwise (qu ·<=qu ·)->wU s m r=Y->∀t∈r,qx s t m=Y\/Co s<qu t
 | [],_,_,t,a=>by simp at a
 |u::r,hp,h,t,a=>by
  unfold wU at h;by_cases b:Co s<qu u
  grind[List.rel_of_pairwise_cons]
  rw[ft b]at h;simp only[bu,ab]at h;rcases aF.1 a with rfl|a
  exact bE h.1;exact X4 (iH hp) h.2 t a
def FN{al:gp}{m:cu (Int×bs)}:∀ {l:cu fy},l.Pairwise (qu ·<=qu ·)->tV al m l=Y->l.Pairwise (λs t=>qx s t m=Y\/Co s<qu t)/\∀s∈l,∀n∈al,p6 s n=Y
 | [],_,_=>by simp
 |s::r,hp,h=>by
  unfold tV at h;simp only[ab]at h;let ⟨h1,h2,a⟩:=h;let ⟨i1,i2⟩:=FN (iH hp) a
  grind[aR,X4]
def Jr{n:b9}:∀ {al:gp} (m:cu (Int×bs)),(al.map (·.1)).Pairwise (·<·)->n∈al->fh gd n.1 (mkMap al m)=Z n.2
 |u::al,m,hp,a=>by
  rw[aq,aR]at hp;rcases aF.1 a with rfl|a
  show fh gd n.1 (mkMap al (wC gd n.1 n.2 m))=_
  grind[Ja,aN,rV]
  show fh gd n.1 (mkMap al (wC gd u.1 u.2 m))=_;exact Jr _ hp.2 a
def Gw{α:Type}{R:α->α->Prop}(ey:∀x y,R x y->R y x)(b:∀x,R x x):∀ {l:cu α},l.Pairwise R->∀ {x y},x∈l->y∈l->R x y
 |a::l,hp,x,y,c,d=>by
  rw[aR]at hp;rcases aF.1 c with h1|h1
  grind
  rcases aF.1 d with h2|h2
  grind
  exact Gw ey b hp.2 h1 h2
structure nJ(al:List b9)(ag:List ct)(s:fy)(a:ct)(p:List bs)(i:Nat):Prop where
 nM:a∈ag
 path:pathOf al ag a.1=Z p
 at':i+1<aa p
 eq:s=(rT a p,(i:Int))
namespace nJ
variable {al:gp} {ag:hI} {s:fy} {a:ct} {p:eY} {i:Nat} (h:nJ al ag s a p i)
include h
theorem rO:p[i]?=Z (hi s):=by
 have:=h.at';rw[h.eq];show p[i]?=Z ((p[i]?).getD (0,0))
 grind
theorem se:p[i+1]?=Z (gl s):=by
 have:=h.at';rw[h.eq];show p[i+1]?=Z ((p[i+1]?).getD (0,0))
 grind
theorem first:tP s=No (i=0):=by
 rw[h.eq];unfold tP
 grind
theorem last:th s=No (i+2=aa p):=by rw[h.eq];exact decide_eq_decide.2 (by show(i:Int)=(aa p:Int)-2↔_;omega)
end nJ
namespace fp
variable {al:gp} {ag:hI} {fs:eD} (h:fp al ag fs)
include h
theorem q_{r:cu fy}(b:zb al ag ag=Z r){s:fy}(hs:s∈r):∃a p i,nJ al ag s a p i:=by let ⟨a,ha,p,hp,hm⟩:=Bt b s hs;let ⟨i,a7,e⟩:=xw hm;exact⟨a,p,i,ha,hp,a7,e⟩
theorem sD{s:fy}{a:ct}{p:eY}{i:Nat}(o:nJ al ag s a p i):hi s≠gl s:=by let ⟨f,t,_,_,b,c,_⟩:=h.path o.nM;rw[o.path]at b;cases b;exact J5 c o.rO o.se
theorem vp{s:fy}{a:ct}{p:eY}{i:Nat}(o:nJ al ag s a p i):d' (hi s)=Y/\d' (gl s)=Y :=⟨rS (h.D0 o.nM o.path _ (aG o.rO)),rS (h.D0 o.nM o.path _ (aG o.se))⟩
theorem Cn{s:fy}{a:ct}{p:eY}{i:Nat}(o:nJ al ag s a p i)(a7:i=0){n:b9}(b:n∈al)(e:a.2.1=n.1):hi s=n.2:=by
 let ⟨f,t,h1,_,c,_⟩:=h.path o.nM;rw[o.path]at c;have d:=o.rO;rw[e,h.vm b]at h1
 grind
theorem D6{s:fy}{a:ct}{p:eY}{i:Nat}(o:nJ al ag s a p i)(a7:i+2=aa p){n:b9}(b:n∈al)(e:a.2.2.1=n.1):gl s=n.2:=by
 let ⟨f,t,_,h2,c,_⟩:=h.path o.nM;rw[o.path]at c;have d:=o.se;rw[e,h.vm b]at h2
 grind
theorem ap1{s:fy}{a:ct}{p:eY}{i:Nat}(o:nJ al ag s a p i){n:b9}(b:n∈al)(hf:p6 s n=Y)(ho:n' (hi s) (gl s) n.2=Y):n.2=hi s\/n.2=gl s:=by
 unfold p6 at hf;rw[ho,o.first,o.last]at hf;simp only[aw,db,bz,ab,kA]at hf;rcases hf with⟨x,y⟩|⟨x,y⟩
 exact bE (h.Cn o x b (by rw[o.eq]at y;exact y)).symm;exact bq (h.D6 o x b (by rw[o.eq]at y;exact y)).symm
theorem PT{s t:fy}{a b:ct}{p q:eY}{i j:Nat}(o:nJ al ag s a p i)(o':nJ al ag t b q j)(e:s.1.1=t.1.1):a=b/\p=q:=by
 have d:a.1=b.1:=by rw[o.eq,o'.eq]at e;exact e
 have h1:=h.zD o.nM;have h2:=h.zD o'.nM;rw[d,h2]at h1;cases h1;have c:=o.path;rw[o'.path]at c;cases c;exact⟨rfl,rfl⟩
theorem N5{a:ct}{p:eY}(ha:a∈ag)(hp:pathOf al ag a.1=Z p)(e:a.2.1=a.2.2.1){i:Nat}(a7:i+2=aa p){x y:bs}(b:p[0]?=Z x)(c:p[i+1]?=Z y):x=y:=by
 let ⟨f,t,h1,h2,d,_⟩:=h.path ha
 grind
theorem DQ{a:ct}(ha:a∈ag):(∃n∈al,n.1=a.2.1)/\∃n∈al,n.1=a.2.2.1:=by let ⟨f,t,h1,h2,_⟩:=h.path ha;exact⟨⟨f,ba h1,by have:=dp h1;simpa using this⟩,⟨t,ba h2,by have:=dp h2;simpa using this⟩⟩
theorem bf1{s t:fy}{a b:ct}{p q:eY}{i j:Nat}(o:nJ al ag s a p i)(o':nJ al ag t b q j)(v:s≠t)(m:∀n∈al,p6 s n=Y)(q3:∀n∈al,p6 t n=Y)(hc:qx s t (mkMap al [])=Y):qZ (hi s) (gl s) (hi t) (gl t):=by
 unfold qx at hc;by_cases e:s.1.1=t.1.1;rw[hT e]at hc;simp only[b6]at hc;obtain⟨rfl,rfl⟩:=h.PT o o' e;have w:s.2=(i:Int):=by rw[o.eq]
 have z:t.2=(j:Int):=by rw[o'.eq]
 have f:s.1.2.1=a.2.1/\s.1.2.2.1=a.2.2.1:=by rw[o.eq];exact⟨rfl,rfl⟩
 have u:t.1.2.1=a.2.1/\t.1.2.2.1=a.2.2.1:=by rw[o'.eq];exact⟨rfl,rfl⟩
 rw[w,z,f.1,f.2,u.1,u.2,o.first,o.last,o'.first,o'.last]at hc;by_cases g:(j:Int)<(i:Int);rw[hT g]at hc;simp only[b6]at hc;by_cases c:(No ((j:Int)+1=(i:Int))||(No (a.2.1=a.2.2.1)&&(No (j=0)&&No (i+2=aa p))))=Y;rw[c]at hc;simp only[b6,kA]at hc;refine bq ⟨hc,?_⟩;simp only[bz,ab,kA]at c;rcases c with c|⟨l2,x8,pG⟩
 have:j+1=i:=by omega
 subst this;have l:=aK (o.rO.symm.trans o'.se);exact⟨hi s,bE rfl,bq l⟩;subst x8;have:=h.N5 o.nM o.path l2 pG o'.rO o.se;exact⟨gl s,bq rfl,bE this.symm⟩;rw[fH.2 c]at hc;simp only[bu,kA]at hc;exact bE hc;rw[ft g]at hc;simp only[bu]at hc;by_cases c:(No ((i:Int)+1=(j:Int))||(No (a.2.1=a.2.2.1)&&(No (i=0)&&No (j+2=aa p))))=Y;rw[c]at hc;simp only[b6,kA]at hc;refine bq ⟨hc,?_⟩;simp only[bz,ab,kA]at c;rcases c with c|⟨l2,x8,pG⟩
 have:i+1=j:=by omega
 subst this;have l:=o'.rO;rw[o.se]at l;exact⟨gl s,bq rfl,bE (aK l)⟩;subst x8;have:=h.N5 o'.nM o'.path l2 pG o.rO o'.se;exact⟨hi s,bE rfl,bq this⟩;rw[fH.2 c]at hc;simp only[bu,kA]at hc;exact bE hc;rw[ft e]at hc;simp only[bu]at hc;by_cases d:oK (hi s) (gl s) (hi t) (gl t)=1;rw[hT d]at hc;simp only[b6]at hc;refine bq ⟨d,?_⟩;have key:∀n∈al,(n' (hi s) (gl s) (nv (mkMap al []) n.1)&&n' (hi t) (gl t) (nv (mkMap al []) n.1))=Y->∃x,(x=hi s\/x=gl s)/\(x=hi t\/x=gl t):=by
  intro n k r;have:nv (mkMap al []) n.1=n.2:=by unfold nv;rw[Jr [] (pq h.vL) k];rfl
  rw[this,ab]at r;exact⟨n.2,h.ap1 o k (m n k) r.1,h.ap1 o' k (q3 n k) r.2⟩
 have f:s.1.2.1=a.2.1/\s.1.2.2.1=a.2.2.1:=by rw[o.eq];exact⟨rfl,rfl⟩
 let ⟨⟨B,m1,fa⟩,C,m2,gb⟩:=h.DQ o.nM;rw[f.1,f.2,<-fa,<-gb,bz]at hc;rcases hc with hc|hc
 exact key B m1 (ab _ _▸hc).2;exact key C m2 (ab _ _▸hc).2;rw[ft d]at hc;simp only[bu,kA]at hc;exact bE hc
theorem bL1{r:cu fy}(k:zb al ag ag=Z r){s t:fy}(hs:s∈r)(v:t∈r)(l:s≠t):Sep (hi s) (gl s) (hi t) (gl t):=by
 have hp:=h.FT;unfold u_ at hp;rw[k]at hp;have m:=Da (vA r);have c:=tG (vA r);have f:(oy p2 r).Pairwise (qu ·<=qu ·):=m.imp λ{a b} x=>by unfold p2 at x;rw[uk]at x;omega
 let ⟨g1,g2⟩:=FN f hp;have g3:(oy p2 r).Pairwise (λs t=>s≠t->Sep (hi s) (gl s) (hi t) (gl t)):=by
  refine g1.imp_of_mem λ{x y} n u d g=>?_;let ⟨a,p,i,o⟩:=h.q_ k (c.mem_iff.1 n);let ⟨b,q,j,o'⟩:=h.q_ k (c.mem_iff.1 u);rcases d with hc|hf
  exact bE (h.bf1 o o' g (g2 x n) (g2 y u) hc);exact bq (bq (bE hf))
 exact Gw (R:=λs t=>s≠t->Sep (hi s) (gl s) (hi t) (gl t)) (λx y d g=>(d λe=>g e.symm).swap) (λx g=>(g rfl).elim) g3 (c.mem_iff.2 hs) (c.mem_iff.2 v) l
end fp
def M7{al:gp}{ag:hI}:∀ {l:hI} {r:cu fy},(l.map (·.1)).Pairwise (·<·)->zb al ag l=Z r->r.Nodup
 | [],r,_,h=>by grind[zb]
 |a::l,r,hp,h=>by
  rw[aq,aR]at hp;unfold zb at h;split at h;cases h;rename_i p f;cases hc:((No (a.2.1=a.2.2.1)&&No (aa p<4))||!(qt p))with
  |true=>rw[hc]at h;cases h
  |false=>
   rw[hc]at h;split at h;rename_i o c;cases h;have g:=M7 hp.2 c;refine dO.2 ⟨?_,g,?_⟩;refine cT.2 (List.nodup_range.imp ?_)
   grind
   intro x k y m d;subst d;let ⟨i,_,e⟩:=xw k;let ⟨b,s,q,_,hm⟩:=Bt c x m;let ⟨j,_,n⟩:=xw hm;have t:a.1=b.1:=by have:=Ar (λz:fy=>z.1.1) (e.symm.trans n);exact this
   grind[aN]
   cases h
def Q9(a b:bs):fr a b a=0:=by unfold fr;simp
def aB5(a b:bs):fr a b b=0:=by unfold fr;rw[bX (b.2-a.2)];omega
def av4{a b x:bs}(ha:d' a=Y)(c:d' b=Y)(d:x=a\/x=b):l7 a b x=0:=by
 rw[Oe];rcases d with rfl|rfl
 rw[Ft ha c ha];exact Q9 _ _;rw[Ft ha c c];exact aB5 _ _
def cd7{a b c:bs}(h1:hU b a=U)(h2:hU c b=U):hU c a=U:=by unfold hU at *;simp only[cL,gO,sG]at *;omega
def I4(a:bs):hU a a=U:=by unfold hU;simp
def X1{a b:bs}(h:hU a b=Y):hU b a=U:=by unfold hU at *;simp only[cL,gO,sG,bz,ab,kA]at *;omega
def bY3{a b:bs}(h:hU b a=U):u9 a b=Y\/hU a b=Y:=by rw[pt,Prod.ext_iff];unfold hU at *;simp only[cL,gO,sG,bz,ab,kA]at *;omega
def aQ9{a b c d x:bs}(ha:d' a=Y)(m:d' b=Y)(hc:d' c=Y)(hd:d' d=Y)(k:a≠b)(l:c≠d)(h1:x=a\/x=b)(h2:x=c\/x=d):oK a b c d≠0:=by
 unfold oK;have o:u9 a b=U:=by rw[<-eZ,pt];exact k
 have p:u9 c d=U:=by rw[<-eZ,pt];exact l
 have s1:=av4 ha m h1;have s2:=av4 hc hd h2;have q5:l7 a b c*l7 a b d=0:=by
  rcases h2 with rfl|rfl
  rw[s1,eH];rw[s1,eG]
 have nj:l7 c d a*l7 c d b=0:=by
  rcases h1 with rfl|rfl
  rw[s2,eH];rw[s2,eG]
 simp only[ha,m,hc,hd,bw,vE,o,p,aJ,l4,q5,nj];split;have st:∀ {u v:bs},(x=u\/x=v)->hU x (ite (hU v u=Y) v u)=U/\hU (ite (hU v u=Y) u v) x=U:=by
  intro u v n;by_cases hv:hU v u=Y;rw[cr hv,cr hv];rcases n with rfl|rfl
  exact⟨X1 hv,I4 _⟩;exact⟨I4 _,X1 hv⟩;have e:=fH.2 hv;rw[cc hv,cc hv];rcases n with rfl|rfl
  exact⟨I4 _,e⟩;exact⟨e,I4 _⟩
 have fa:=st h1;have gb:=st h2;unfold p8;simp only;generalize(ite (hU b a=Y) b a)=f at *;generalize(ite (hU b a=Y) a b)=g at *;generalize(ite (hU d c=Y) d c)=i at *;generalize(ite (hU d c=Y) c d)=j at *;have f1:hU x (ite (hU f i=Y) i f)=U:=by split;exact gb.1;exact fa.1
 have f2:hU (ite (hU j g=Y) j g) x=U:=by split;exact gb.2;exact fa.2
 rcases bY3 (cd7 f1 f2)with h|h
 rw[cr h];omega;by_cases h':u9 (ite (hU f i=Y) i f) (ite (hU j g=Y) j g)=Y;rw[cr h'];omega;rw[cc h',cr h];omega;simp
namespace q6
variable {ι:Type} (F:q6 ι) (dC:F.Ok)
include dC
theorem Vj{e f:ι}(he:e∈F.E)(hf:f∈F.E)(h1:F.b7 e=F.b7 f)(h2:F.a7 e=F.a7 f):e=f:=by
 have a:=F.w8 dC;have o:=y_ dC he;by_cases hu:(F.b7 e).2<(F.a7 e).2;have c1:(F.hY dC).eS e (F.b7 e).2:=⟨cH _,hu⟩;have c2:(F.hY dC).eS f (F.b7 e).2:=⟨by show(F.b7 f).2<=_;rw[h1];exact cH _,by show _<(F.a7 f).2;rw[<-h2];exact hu⟩;have b:∀y,(F.hY dC).X e y=(F.hY dC).X f y:=λy=>by unfold Net.X;show(F.hY dC).M*(F.b7 e).1+F.prod F.E*((F.a7 e).1-(F.b7 e).1) / F.xZ e*(y-(F.b7 e).2)=(F.hY dC).M*(F.b7 f).1+F.prod F.E*((F.a7 f).1-(F.b7 f).1) / F.xZ f*(y-(F.b7 f).2);unfold xZ;rw[h1,h2]
 exact a.apart e he f hf _ c1 c2 (b _) (b _);have o':=y_ dC hf;refine a.sv e he f hf hu ?_ ?_ ?_ ?_;show ¬(F.b7 f).2<(F.a7 f).2;rw[<-h1,<-h2];exact hu;show(F.b7 e).2=(F.b7 f).2;rw[h1];show(F.b7 e).1<(F.a7 f).1;rw[<-h2];omega;show(F.b7 f).1<(F.a7 e).1;rw[<-h1];omega
theorem X2{e f:ι}(he:e∈F.E)(hf:f∈F.E)(j:e≠f){x y:bs}(l:x=F.src e\/x=F.dst e)(m:x=F.src f\/x=F.dst f)(n:y=F.src e\/y=F.dst e)(p:y=F.src f\/y=F.dst f):x=y:=by
 rcases kY (x=y)with h|k
 exact h;have o:=y_ dC he;have o':=y_ dC hf;have c:∀ {g:ι} {z:bs},(z=F.src g\/z=F.dst g)->z=F.b7 g\/z=F.a7 g:=by intro g z hz;unfold b7 a7;cases F.fwd g;exact hz.symm;exact hz
 have nl:¬(F.b7 e=F.a7 f/\F.a7 e=F.b7 f):=λ⟨a,b⟩=>by rw[a,b]at o;omega
 exfalso;apply j;rcases c l with a|a<;>rcases c n with b|b<;>rcases c m with d|d<;>rcases c p with i|i
 all_goals first
  |exact b8 (a.trans b.symm) k
  |exact b8 (d.trans i.symm) k
  |exact F.Vj dC he hf (a.symm.trans d) (b.symm.trans i)
  |exact F.Vj dC he hf (b.symm.trans i) (a.symm.trans d)
  |exact(nl ⟨a.symm.trans d,b.symm.trans i⟩).elim
  |exact(nl ⟨b.symm.trans i,a.symm.trans d⟩).elim
end q6
def m8(r:cu fy):q6 fy:=⟨r,hi,gl⟩
def fp.j8{al:gp}{ag:hI}{fs:eD}(h:fp al ag fs){r:cu fy}(b:zb al ag ag=Z r):(m8 r).Ok where
 nodup:=M7 (pq h.rX) b
 ne:=λe he=>by let ⟨a,p,i,o⟩:=h.q_ b he;exact h.sD o
 Ao:=λe he=>by let ⟨a,p,i,o⟩:=h.q_ b he;exact h.vp o
 meet:=λe he f hf c=>h.bL1 b he hf c
def aV3{a b c d x:bs}(h1:x=a\/x=b)(h2:x=c\/x=d)(hf:uV a b c d):False:=by grind[uV]
def Gz(n:b9)(s:fy)(a:ct)(p:eY)(i:Nat):Prop:=(i=0/\a.2.1=n.1/\hi s=n.2)\/(i+2=aa p/\a.2.2.1=n.1/\gl s=n.2)
def Gz.Vi{n:b9}{s:fy}{a:ct}{p:eY}{i:Nat}(h:Gz n s a p i):n.2=hi s\/n.2=gl s:=by
 rcases h with⟨_,_,h⟩|⟨_,_,h⟩
 exact bE h.symm;exact bq h.symm
structure Ef(al:List b9)(s t:fy)(a b:ct)(p q:List bs)(i j:Nat)(x:bs):Prop where
 or:(a=b/\i+1=j/\x=gl s/\x=hi t)\/(a=b/\j+1=i/\x=hi s/\x=gl t)\/∃n∈al,x=n.2/\Gz n s a p i/\Gz n t b q j
def Ef.symm{al:gp}{s t:fy}{a b:ct}{p q:eY}{i j:Nat}{x:bs}(h:Ef al s t a b p q i j x):Ef al t s b a q p j i x:=by
 rcases h.or with⟨h1,h2,c,d⟩|⟨h1,h2,c,d⟩|⟨n,h1,h2,c,d⟩
 exact⟨bq (bE ⟨h1.symm,h2,d,c⟩)⟩;exact⟨bE ⟨h1.symm,h2,d,c⟩⟩;exact⟨bq (bq ⟨n,h1,h2,d,c⟩)⟩
namespace fp
variable {al:gp} {ag:hI} {fs:eD} (h:fp al ag fs)
include h
theorem E9{s:fy}{a:ct}{p:eY}{i:Nat}(o:nJ al ag s a p i){n:b9}(c:n∈al)(hf:p6 s n=Y)(ho:n' (hi s) (gl s) n.2=Y):Gz n s a p i:=by
 unfold p6 at hf;rw[ho,o.first,o.last]at hf;simp only[aw,db,bz,ab,kA]at hf;rcases hf with⟨x,y⟩|⟨x,y⟩
 have b:a.2.1=n.1:=by rw[o.eq]at y;exact y
 exact bE ⟨x,b,h.Cn o x c b⟩;have b:a.2.2.1=n.1:=by rw[o.eq]at y;exact y
 exact bq ⟨x,b,h.D6 o x c b⟩
theorem U'{s t:fy}{a b:ct}{p q:eY}{i j:Nat}(o:nJ al ag s a p i)(o':nJ al ag t b q j)(m:s≠t)(r:∀n∈al,p6 s n=Y)(q3:∀n∈al,p6 t n=Y)(hc:qx s t (mkMap al [])=Y)
  (one:∀ {x y:bs},(x=hi s\/x=gl s)->(x=hi t\/x=gl t)->(y=hi s\/y=gl s)->(y=hi t\/y=gl t)->x=y) {x:bs} (f:x=hi s\/x=gl s) (g:x=hi t\/x=gl t):Ef al s t a b p q i j x:=by
 have hm:=aQ9 (h.vp o).1 (h.vp o).2 (h.vp o').1 (h.vp o').2 (h.sD o) (h.sD o') f g;unfold qx at hc;simp only at hc;by_cases e:s.1.1=t.1.1;rw[hT e]at hc;simp only[b6]at hc;obtain⟨rfl,rfl⟩:=h.PT o o' e;have D:s.2=(i:Int):=by rw[o.eq]
 have E:t.2=(j:Int):=by rw[o'.eq]
 have u:s.1.2.1=a.2.1/\s.1.2.2.1=a.2.2.1:=by rw[o.eq];exact⟨rfl,rfl⟩
 have B:t.1.2.1=a.2.1/\t.1.2.2.1=a.2.2.1:=by rw[o'.eq];exact⟨rfl,rfl⟩
 rw[D,E,u.1,u.2,B.1,B.2,o.first,o.last,o'.first,o'.last]at hc;have G:i≠j:=λh=>m (by rw[o.eq,o'.eq,h]);let ⟨⟨v,m1,fa⟩,_⟩:=h.DQ o.nM;by_cases l:(j:Int)<(i:Int);rw[hT l]at hc;simp only[b6]at hc;by_cases d:(No ((j:Int)+1=(i:Int))||(No (a.2.1=a.2.2.1)&&(No (j=0)&&No (i+2=aa p))))=Y;simp only[bz,ab,kA]at d;rcases d with d|⟨l2,x8,pG⟩
 have:j+1=i:=by omega
 subst this;have c:hi s=gl t:=aK (o.rO.symm.trans o'.se);have:=one f g (bE rfl) (bq c);exact⟨bq (bE ⟨rfl,rfl,this,this.trans c⟩)⟩;have f1:=h.Cn o' x8 m1 fa.symm;have f2:=h.D6 o pG m1 (l2.symm.trans fa.symm);have:=one f g (bq rfl) (bE (f2.trans f1.symm));exact⟨bq (bq ⟨v,m1,this.trans f2,bq ⟨pG,l2.symm.trans fa.symm,f2⟩,bE ⟨x8,fa.symm,f1⟩⟩)⟩
 grind
 rw[ft l]at hc;simp only[bu]at hc;by_cases d:(No ((i:Int)+1=(j:Int))||(No (a.2.1=a.2.2.1)&&(No (i=0)&&No (j+2=aa p))))=Y;simp only[bz,ab,kA]at d;rcases d with d|⟨l2,x8,pG⟩
 have:i+1=j:=by omega
 subst this;have c:gl s=hi t:=aK (o.se.symm.trans o'.rO);have:=one f g (bq rfl) (bE c);exact⟨bE ⟨rfl,rfl,this,this.trans c⟩⟩;have f1:=h.Cn o x8 m1 fa.symm;have f2:=h.D6 o' pG m1 (l2.symm.trans fa.symm);have:=one f g (bE rfl) (bq (f1.trans f2.symm));exact⟨bq (bq ⟨v,m1,this.trans f1,bE ⟨x8,fa.symm,f1⟩,bq ⟨pG,l2.symm.trans fa.symm,f2⟩⟩)⟩
 grind
 rw[ft e]at hc;simp only[bu]at hc;by_cases w:oK (hi s) (gl s) (hi t) (gl t)=1;rw[hT w]at hc;simp only[b6]at hc;have key:∀n∈al,(n' (hi s) (gl s) (nv (mkMap al []) n.1)&&n' (hi t) (gl t) (nv (mkMap al []) n.1))=Y->Ef al s t a b p q i j x:=by
  intro n k z;have:nv (mkMap al []) n.1=n.2:=by unfold nv;rw[Jr [] (pq h.vL) k];rfl
  rw[this,ab]at z;have c:=h.E9 o k (r n k) z.1;have C:=h.E9 o' k (q3 n k) z.2;exact⟨bq (bq ⟨n,k,one f g c.Vi C.Vi,c,C⟩)⟩
 have u:s.1.2.1=a.2.1/\s.1.2.2.1=a.2.2.1:=by rw[o.eq];exact⟨rfl,rfl⟩
 let ⟨⟨v,m1,fa⟩,H,m2,gb⟩:=h.DQ o.nM
 grind
 grind[decide_eq_false]
theorem share{r:cu fy}(n:zb al ag ag=Z r){s t:fy}(hs:s∈r)(u:t∈r)(d:s≠t){a b:ct}{p q:eY}{i j:Nat}(o:nJ al ag s a p i)(o':nJ al ag t b q j){x:bs}(v:x=hi s\/x=gl s)(w:x=hi t\/x=gl t):Ef al s t a b p q i j x:=by
 have hp:=h.FT;unfold u_ at hp;rw[n]at hp;simp only at hp;have z:=Da (vA r);have k:=tG (vA r);have l:(oy p2 r).Pairwise (qu ·<=qu ·):=z.imp λ{a b} x=>by unfold p2 at x;rw[uk]at x;omega
 let ⟨g1,g2⟩:=FN l hp;have e:=k.mem_iff.2 hs;have f:=k.mem_iff.2 u;have g3:(oy p2 r).Pairwise (λs t=>s=t\/qx s t (mkMap al [])=Y\/qx t s (mkMap al [])=Y\/uV (hi s) (gl s) (hi t) (gl t)):=g1.imp λ{x y} c=>by
  rcases c with hc|hf
  exact bq (bE hc);exact bq (bq (bq (bE hf)))
 have g4:=Gw (R:=λs t=>s=t\/qx s t (mkMap al [])=Y\/qx t s (mkMap al [])=Y\/uV (hi s) (gl s) (hi t) (gl t)) (λx y c=>by
  rcases c with c|c|c|c
  exact bE c.symm
  grind
  exact bq (bE c);exact bq (bq (bq c.symm))) (λx=>bE rfl) g3 e f
 have one:=λ{x y:bs}=>(m8 r).X2 (h.j8 n) hs u d (x:=x) (y:=y);have m:=λ{x y:bs}=>(m8 r).X2 (h.j8 n) u hs (d ·.symm) (x:=x) (y:=y);rcases g4 with g|g|g|g
 exact(d g).elim;exact h.U' o o' d (g2 s e) (g2 t f) g one v w;exact(h.U' o' o (d ·.symm) (g2 t f) (g2 s e) g m w v).symm;exact(aV3 v w g).elim
end fp
def Wu{M s t:Int}{v a b:bs}(h1:s*(a.2-v.2)=M*(a.1-v.1))(h2:t*(b.2-v.2)=M*(b.1-v.1)):M*fr v a b=(s-t)*((a.2-v.2)*(b.2-v.2)):=by
 unfold fr;generalize a.2-v.2=A at *;generalize b.2-v.2=B at *;generalize a.1-v.1=x at *;generalize b.1-v.1=y at *;have c:M*(x*B)=s*(A*B):=by rw[<-dP,<-h1,dP]
 have d:M*(A*y)=t*(A*B):=by rw[<-dP,bX M A,dP,<-h2,<-dP,bX A t,dP]
 rw[c_,c,d,<-Int.sub_mul]
def az9{M c d P:Int}(a:0<M)(b:0<P)(h:M*c=d*P):0<c↔0<d:=by constructor;intro hc;have:=cn a hc;rw[h,bX]at this;exact cE this b;intro hd;have:=cn hd b;rw[<-h]at this;exact cE this a
section
variable {ι:Type} (N:Net ι)
def Ee{g:Net.pJ ι}(f:g.1∈N.E){v w:bs}(hv:N.src g=v)(hw:N.dst g=w) :
  (N.cls g=0/\v.2=w.2/\v.1<w.1)\/(N.cls g=1/\v.2<w.2/\N.s g.1*(w.2-v.2)=N.M*(w.1-v.1)/\N.X g.1 (v.2+1)=N.M*v.1+N.s g.1) \/
  (N.cls g=2/\v.2=w.2/\w.1<v.1)\/(N.cls g=3/\w.2<v.2/\N.s g.1*(w.2-v.2)=N.M*(w.1-v.1)/\N.X g.1 (v.2-1)=N.M*v.1-N.s g.1):=by
 let ⟨e,b⟩:=g;have o:=N.ord e f;by_cases hu:N.up e;have hs:=N.AB e f hu;have h:=N.yo f hu;cases b;right;right;right;have c:N.a7 e=v:=hv;have d:N.b7 e=w:=hw;have a:(N.b7 e).2<(N.a7 e).2:=hu;rw[c,d]at hs a;rw[c]at h;refine⟨by simp[Net.cls,hu],a,?_,?_⟩;have i:N.s e*(w.2-v.2)=- (N.s e*(v.2-w.2)):=by rw[<-cR];congr 1;omega
 have a2:N.M*(w.1-v.1)=- (N.M*(v.1-w.1)):=by rw[<-cR];congr 1;omega
 show N.s e*(w.2-v.2)=_;omega;show N.X e (v.2-1)=_;rw[<-h];show N.M*(N.b7 e).1+N.s e*(v.2-1-(N.b7 e).2)=N.M*(N.b7 e).1+N.s e*(v.2-(N.b7 e).2)-N.s e;have:N.s e*(v.2-1-(N.b7 e).2)=N.s e*(v.2-(N.b7 e).2)-N.s e:=by
  have:v.2-1-(N.b7 e).2=(v.2-(N.b7 e).2)-1:=by omega
  rw[this,c_,eE]
 omega;right;left;have c:N.b7 e=v:=hv;have d:N.a7 e=w:=hw;have a:(N.b7 e).2<(N.a7 e).2:=hu;rw[c,d]at hs a;refine⟨by simp[Net.cls,hu],a,hs,?_⟩;show N.X e (v.2+1)=_;unfold Net.X;rw[c,show v.2+1-v.2=1 by omega,eE];have a:¬(N.b7 e).2<(N.a7 e).2:=hu;cases b;right;right;left;have c:N.a7 e=v:=hv;have d:N.b7 e=w:=hw;rw[c,d]at o a;exact⟨by simp[Net.cls,hu],by omega,by omega⟩;left;have c:N.b7 e=v:=hv;have d:N.a7 e=w:=hw;rw[c,d]at o a;exact⟨by simp[Net.cls,hu],by omega,by omega⟩
def at2{g h:Net.pJ ι}(m:g.1∈N.E)(n:h.1∈N.E){v a b:bs}(g1:N.src g=v)(g2:N.dst g=a)(h1:N.src h=v)(h2:N.dst h=b)(p:d' v=Y)(q:d' a=Y)(rI:d' b=Y) :
  oo v a b=Y↔N.nh v.2 g h:=by
 have i:u9 a v=U:=by rw[<-eZ,pt];rintro rfl;rcases Ee N m g1 g2 with x|x|x|x<;>omega
 have j:u9 b v=U:=by rw[<-eZ,pt];rintro rfl;rcases Ee N n h1 h2 with x|x|x|x<;>omega
 have key:oo v a b=if oQ v a=oQ v b then No (0<fr v a b)else oQ v b:=by unfold oo;simp[p,q,rI,i,j]
 rw[key];unfold Net.nh;have o:=N.p7;rcases Ee N m g1 g2 with⟨c1,k,e⟩|⟨c1,k,e,nq⟩|⟨c1,k,e⟩|⟨c1,k,e,nq⟩<;>rcases Ee N n h1 h2 with⟨c2,l,f⟩|⟨c2,l,f,z2⟩|⟨c2,l,f⟩|⟨c2,l,f,z2⟩
 all_goals
  have c:oQ v a=No (a.2<v.2\/(a.2=v.2/\a.1<v.1)):=by unfold oQ;simp
  have d:oQ v b=No (b.2<v.2\/(b.2=v.2/\b.1<v.1)):=by unfold oQ;simp
 case inl.inl =>rw[ft (by omega)]at c d;rw[c,d,cr rfl,kA];unfold fr;rw[show a.2-v.2=0 by omega,show b.2-v.2=0 by omega,eH,eG];omega
 case inl.inr.inl =>rw[ft (by omega)]at c d;rw[c,d,cr rfl,kA];unfold fr;rw[show a.2-v.2=0 by omega,eH];have:=cn (show 0<a.1-v.1 by omega) (show 0<b.2-v.2 by omega);omega
 case inr.inl.inl =>rw[ft (by omega)]at c d;rw[c,d,cr rfl,kA];unfold fr;rw[show b.2-v.2=0 by omega,eG];have:=cn (show 0<a.2-v.2 by omega) (show 0<b.1-v.1 by omega);omega
 case inr.inl.inr.inl =>rw[ft (by omega)]at c d;rw[c,d,cr rfl,kA,az9 o (cn (show 0<a.2-v.2 by omega) (show 0<b.2-v.2 by omega)) (Wu e f)];omega
 case inr.inr.inl.inr.inr.inl =>rw[hT (by omega)]at c d;rw[c,d,cr rfl,kA];unfold fr;rw[show a.2-v.2=0 by omega,show b.2-v.2=0 by omega,eH,eG];omega
 case inr.inr.inl.inr.inr.inr =>rw[hT (by omega)]at c d;rw[c,d,cr rfl,kA];unfold fr;rw[show a.2-v.2=0 by omega,eH];have:=cN (show a.1-v.1<0 by omega) (show b.2-v.2<0 by omega);omega
 case inr.inr.inr.inr.inr.inl =>rw[hT (by omega)]at c d;rw[c,d,cr rfl,kA];unfold fr;rw[show b.2-v.2=0 by omega,eG];have:=cN (show a.2-v.2<0 by omega) (show b.1-v.1<0 by omega);omega
 case inr.inr.inr.inr.inr.inr =>rw[hT (by omega)]at c d;rw[c,d,cr rfl,kA,az9 o (cN (show a.2-v.2<0 by omega) (show b.2-v.2<0 by omega)) (Wu e f)];omega
 all_goals first
  | (rw[ft (by omega)]at c;rw[hT (by omega)]at d;rw[c,d];simp only[aJ,l4,true_iff];(first|rw[cc (by simp)]|skip);omega)
  | (rw[hT (by omega)]at c;rw[ft (by omega)]at d;rw[c,d,cc (by simp)];simp only[aJ,false_iff];omega)
end
namespace Mj
variable {ι:Type} {N:Net ι} (hP:N.wx)
include hP
theorem U8{g h:Net.pJ ι}(k:g.1∈N.E)(l:h.1∈N.E){v:bs}(g1:N.src g=v)(h1:N.src h=v)(r:g≠h):N.nh v.2 g h\/N.nh v.2 h g:=by
 rcases Nat.lt_trichotomy (N.cls g) (N.cls h)with c|c|c
 exact bE (bE c);have f:g.1=h.1->False:=by intro e;let ⟨a,s⟩:=g;let ⟨d,t⟩:=h;simp only at e;subst e;unfold Net.cls at c;by_cases hu:N.up a<;>cases s<;>cases t<;>simp[hu]at c<;>exact r rfl
 have key:∀b:Bool,g.2=b->h.2=b->N.up g.1->N.up h.1->(b=Y->N.X g.1 (v.2+1)≠N.X h.1 (v.2+1))/\(b=U->N.X g.1 (v.2-1)≠N.X h.1 (v.2-1)):=by
  intro b w z B C;have o:(N.b7 g.1).2<(N.a7 g.1).2:=B;have p:(N.b7 h.1).2<(N.a7 h.1).2:=C;constructor;intro e u;subst e;have s1:N.b7 g.1=v:=by unfold Net.src at g1;rw[w]at g1;exact g1
  have s2:N.b7 h.1=v:=by unfold Net.src at h1;rw[z]at h1;exact h1
  refine f (hP.apart g.1 k h.1 l v.2 ⟨by rw[s1];exact cH _,by rw[<-s1];exact o⟩ ⟨by rw[s2];exact cH _,by rw[<-s2];exact p⟩ ?_ u);have q:=N.vG g.1;have a2:=N.vG h.1;rw[s1]at q;rw[s2]at a2;rw[q,a2];intro e u;subst e;have s1:N.a7 g.1=v:=by unfold Net.src at g1;rw[w]at g1;exact g1
  have s2:N.a7 h.1=v:=by unfold Net.src at h1;rw[z]at h1;exact h1
  rw[s1]at o;rw[s2]at p;refine f (hP.apart g.1 k h.1 l (v.2-1) ⟨by omega,by rw[s1];omega⟩ ⟨by omega,by rw[s2];omega⟩ u ?_);have q:=N.yo k B;have a2:=N.yo l C;rw[s1]at q;rw[s2]at a2;rw[show v.2-1+1=v.2 by omega,q,a2]
 let ⟨a,s⟩:=g;let ⟨d,t⟩:=h;by_cases i:N.up a<;>by_cases j:N.up d<;>cases s<;>cases t<;>simp[Net.cls,i,j]at c;have:=(key U rfl rfl i j).2 rfl;have c1:N.cls (a,U)=3:=by simp[Net.cls,i]
 have c2:N.cls (d,U)=3:=by simp[Net.cls,j]
 rcases im this with x|x
 exact bE (bq (bq ⟨c1,c2,x⟩));exact bq (bq (bq ⟨c2,c1,x⟩));have:=(key Y rfl rfl i j).1 rfl;have c1:N.cls (a,Y)=1:=by simp[Net.cls,i]
 have c2:N.cls (d,Y)=1:=by simp[Net.cls,j]
 rcases im this with x|x
 exact bq (bq (bE ⟨c2,c1,x⟩));exact bE (bq (bE ⟨c1,c2,x⟩));exfalso;have s1:N.a7 a=v:=g1;have s2:N.a7 d=v:=h1;have o1:=N.ord a k;have o2:=N.ord d l;have m:¬(N.b7 a).2<(N.a7 a).2:=i;have n:¬(N.b7 d).2<(N.a7 d).2:=j;rw[s1]at o1 m;rw[s2]at o2 n;exact f (hP.sv a k d l i j (by omega) (by rw[s2];omega) (by rw[s1];omega));exfalso;have s1:N.b7 a=v:=g1;have s2:N.b7 d=v:=h1;have o1:=N.ord a k;have o2:=N.ord d l;have m:¬(N.b7 a).2<(N.a7 a).2:=i;have n:¬(N.b7 d).2<(N.a7 d).2:=j;rw[s1]at o1 m;rw[s2]at o2 n;exact f (hP.sv a k d l i j (by rw[s1,s2]) (by rw[s1];omega) (by rw[s2];omega));exact bq (bE c)
end Mj
def nA(s:fy):Net.pJ fy:=(s,(m8 []).fwd s)
def nz(s:fy):Net.pJ fy:=(s,!(m8 []).fwd s)
section
variable {r:cu fy} (dC:(m8 r).Ok)
theorem Ad(s:fy):((m8 r).hY dC).src (nA s)=hi s:=by show(cond ((m8 []).fwd s) ((m8 r).b7 s) <| (m8 r).a7 s)=_;unfold q6.b7 q6.a7;show(cond ((m8 r).fwd s) _ _)=_;cases(m8 r).fwd s<;>rfl
def Gx(s:fy):((m8 r).hY dC).dst (nA s)=gl s:=by show(cond ((m8 []).fwd s) ((m8 r).a7 s) <| (m8 r).b7 s)=_;unfold q6.b7 q6.a7;show(cond ((m8 r).fwd s) _ _)=_;cases(m8 r).fwd s<;>rfl
theorem Al(s:fy):((m8 r).hY dC).src (nz s)=gl s:=by show(cond (!(m8 []).fwd s) ((m8 r).b7 s) <| (m8 r).a7 s)=_;unfold q6.b7 q6.a7;show(cond (!(m8 r).fwd s) _ _)=_;cases(m8 r).fwd s<;>rfl
def GG(s:fy):((m8 r).hY dC).dst (nz s)=hi s:=by show(cond (!(m8 []).fwd s) ((m8 r).a7 s) <| (m8 r).b7 s)=_;unfold q6.b7 q6.a7;show(cond (!(m8 r).fwd s) _ _)=_;cases(m8 r).fwd s<;>rfl
theorem xG(h:Net.pJ fy):h=nA h.1\/h=nz h.1:=by let ⟨s,b⟩:=h;unfold nA nz;cases b<;>cases(m8 []).fwd s<;>simp
theorem QR(s:fy):Net.rev (nA s)=nz s:=rfl
theorem Ll(s:fy):Net.rev (nz s)=nA s:=by unfold Net.rev nz nA;simp
end
def vM{a:ct}{l:eY}{i:Nat}(a7:i+1<aa l):(rT a l,(i:Int))∈pf a l:=by unfold pf;exact aM.2 ⟨i,ga.2 (by omega),rfl⟩
def u5{al:gp}{ag:hI}:∀ {l:hI} {r:cu fy},zb al ag l=Z r->∀a∈l,∀p,pathOf al ag a.1=Z p->∀s∈pf a p,s∈r
 | [],r,h,a,ha=>by simp at ha
 |b::l,r,h,a,ha=>by
  intro p hp s hs;unfold zb at h;split at h;cases h;rename_i q d;cases hc:((No (b.2.1=b.2.2.1)&&No (aa q<4))||!(qt q))with
  |true=>rw[hc]at h;cases h
  |false=>
   rw[hc]at h;simp only[bu]at h;split at h;rename_i e c;cases h;rcases aF.1 ha with rfl|ha
   rw[hp]at d;cases d;exact dG _ hs;exact g_ _ (u5 c a ha p hp s hs);cases h
def va(al:gp)(ag:hI)(d:Int):Net.pJ fy:=match px ag (la d),pathOf al ag (la d)with
 |some a,Z p=>ite (0<d) (nA (rT a p,((0:Nat):Int))) <|nz (rT a p,((aa p-2:Nat):Int))
 |_,_=>default
theorem QU{a b x:bs}(ha:d' a=Y)(d:d' b=Y)(c:x=a\/x=b):n' a b x=Y:=by
 have hc:fr a b x=0:=by
  rcases c with rfl|rfl
  exact Q9 _ _;exact aB5 _ _
 have e:d' x=Y:=by rcases c with rfl|rfl<;>assumption
 unfold n' sU;simp only[ha,d,e,hc,bw,bY,l6,ab,kA];rcases c with rfl|rfl<;>omega
theorem PI{s t:fy}(e:nA s=nA t):s=t:=Ar kR e
theorem PH{s t:fy}(e:nz s=nz t):s=t:=Ar kR e
theorem BL{s t:fy}:nA s≠nz t:=by intro e;have h1:s=t:=Ar kR e;subst h1;have h2:(m8 []).fwd s=!(m8 []).fwd s:=Ar Prod.snd e;cases h:(m8 []).fwd s<;>rw[h]at h2<;>cases h2
namespace fp
variable {al:gp} {ag:hI} {fs:eD} (h:fp al ag fs)
include h
theorem um{a:ct}(ha:a∈ag):0<a.1:=by have:=aj.1 h.Gk a.1 (aN ha);unfold qL at this;simp only[ab,kA]at this;omega
theorem BM{a:ct}(ha:a∈ag){q:eY}(b:pathOf al ag a.1=Z q):va al ag a.1=nA (rT a q,((0:Nat):Int)):=by
 have hp:=h.um ha;have e:la a.1=a.1:=by unfold la;omega
 unfold va;rw[e,h.zD ha,b];simp only[hp,vE]
theorem Dv{a:ct}(ha:a∈ag){q:eY}(b:pathOf al ag a.1=Z q):va al ag (-a.1)=nz (rT a q,((aa q-2:Nat):Int)):=by
 have hp:=h.um ha;have e:la (-a.1)=a.1:=by unfold la;omega
 unfold va;rw[e,h.zD ha,b];simp only;rw[cc (by omega)]
theorem Ce{a:ct}(ha:a∈ag){q:eY}(c:pathOf al ag a.1=Z q):2<=aa q:=by let ⟨f,t,_,_,b,_⟩:=h.path ha;rw[c]at b;cases b;simp
variable {r:cu fy} (hr:zb al ag ag=Z r)
include hr
theorem free{s:fy}(hs:s∈r):∀n∈al,p6 s n=Y:=by
 have hp:=h.FT;unfold u_ at hp;rw[hr]at hp;simp only at hp;have d:=Da (vA r);have c:(oy p2 r).Pairwise (qu ·<=qu ·):=d.imp λ{a b} x=>by unfold p2 at x;rw[uk]at x;omega
 exact(FN c hp).2 s ((tG (vA r)).mem_iff.2 hs)
theorem tO{n:b9}(c:n∈al){d:Int}(hd:d∈kc al ag n):(va al ag d).1∈r/\((m8 r).hY (h.j8 hr)).src (va al ag d)=n.2 /\
  ((m8 r).hY (h.j8 hr)).dst (va al ag d)=nv (rv [] (np al ag n.1 ag)) d/\∃a∈ag,∃q,pathOf al ag a.1=Z q/\((d=a.1/\va al ag d=nA (rT a q,((0:Nat):Int)))\/(d=-a.1/\va al ag d=nz (rT a q,((aa q-2:Nat):Int)))):=by
 rw[(h.wG c).mem_iff]at hd;obtain⟨p,hp,rfl⟩:=aM.1 hd;have f:nv (rv [] (np al ag n.1 ag)) p.1=p.2:=by unfold nv;rw[E5 _ [] (h.Ci n.1 (λ_ ha=>ha) (pq h.rX)) p hp];rfl
 rw[f];let ⟨a,ha,q,b,hc⟩:=h.GF (λ_ ha=>ha) hp;have hl:=h.Ce ha b;rcases hc with⟨e,rfl⟩|⟨e,rfl⟩
 have hm:(rT a q,((0:Nat):Int))∈r:=u5 hr a ha q b _ (vM (by omega));have o:nJ al ag (rT a q,((0:Nat):Int)) a q 0:=⟨ha,b,by omega,rfl⟩;have g:=h.BM ha b;simp only[g];refine⟨hm,?_,?_,a,ha,q,b,bE ⟨rfl,rfl⟩⟩;rw[Ad];exact h.Cn o rfl c e;rw[Gx];rfl;have hm:(rT a q,((aa q-2:Nat):Int))∈r:=u5 hr a ha q b _ (vM (by omega));have o:nJ al ag (rT a q,((aa q-2:Nat):Int)) a q (aa q-2):=⟨ha,b,by omega,rfl⟩;have g:=h.Dv ha b;simp only[g];refine⟨hm,?_,?_,a,ha,q,b,bq ⟨rfl,rfl⟩⟩;rw[Al];exact h.D6 o (by omega) c e;rw[GG];rfl
theorem Mp{n:b9}(g:n∈al):Net.CF ((m8 r).hY (h.j8 hr)) n.2 ((kc al ag n).map (va al ag)):=by
 have l:(kc al ag n).Nodup:=(h.wG g).nodup_iff.2 (h.Ci n.1 (λ_ ha=>ha) (pq h.rX));have inj:∀d∈kc al ag n,∀e∈kc al ag n,va al ag d=va al ag e->d=e:=by
  intro d hd e he f;let ⟨_,_,_,a,ha,q,D,c⟩:=h.tO hr g hd;let ⟨_,_,_,b,E,G,z,B⟩:=h.tO hr g he;rcases c with⟨rfl,f1⟩|⟨rfl,f1⟩<;>rcases B with⟨rfl,f2⟩|⟨rfl,f2⟩<;>rw[f1,f2]at f
  have:=Ar (λs:fy=>s.1.1) (PI f);exact this;exact b8 f BL;exact b8 f.symm BL;have:a.1=b.1:=Ar (λs:fy=>s.1.1) (PH f);rw[this]
 constructor;intro hf;constructor;intro hm;obtain⟨d,hd,rfl⟩:=aM.1 hm;have:=h.tO hr g hd;exact⟨this.1,this.2.1⟩;rintro ⟨h1,h2⟩;have k:hf.1∈r:=h1;let ⟨a,p,i,o⟩:=h.q_ hr k;have j:=h.vp o;have mk:∀d,d∈(ph al ag n.1 a).map (·.1)->d∈kc al ag n:=λd m=>by rw[(h.wG g).mem_iff];let ⟨x,C,e⟩:=aM.1 m;exact e▸aN (cW.2 ⟨a,o.nM,C⟩)
 rcases xG hf with e|e
 rw[e,Ad]at h2;rcases h.E9 o g (h.free hr k n g) (QU j.1 j.2 (bE h2.symm))with⟨i0,t,_⟩|⟨_,_,u⟩
 refine aM.2 ⟨a.1,mk _ ?_,?_⟩;unfold ph;rw[o.path];simp[t];rw[h.BM o.nM o.path,e,o.eq,i0];exact b8 (h2.trans u.symm) (h.sD o);rw[e,Al]at h2;rcases h.E9 o g (h.free hr k n g) (QU j.1 j.2 (bq h2.symm))with⟨_,_,u⟩|⟨i0,t,_⟩
 exact b8 (u.trans h2.symm) (h.sD o);refine aM.2 ⟨-a.1,mk _ ?_,?_⟩;unfold ph;rw[o.path];simp[t];rw[h.Dv o.nM o.path,e,o.eq,<-i0];rfl;exact cT.2 (l.imp_of_mem λ{d e} hd he v f=>v (inj d hd e he f));have hs:=Da (h.MB (h.vm g) g);refine cT.2 ((hs.and l).imp_of_mem λ{d e} hd he f=>?_);let ⟨m1,s1,t1,_⟩:=h.tO hr g hd;let ⟨m2,s2,t2,_⟩:=h.tO hr g he;rcases Mj.U8 ((m8 r).w8 (h.j8 hr)) m1 m2 s1 s2 (λx=>f.2 (inj d hd e he x))with b|b
 exact b;exfalso;refine f.1 ?_;have w:∀ {hf:Net.pJ fy},hf.1∈r->d' (((m8 r).hY (h.j8 hr)).dst hf)=Y:=λ{hf} hm=>by
  let ⟨a,p,i,o⟩:=h.q_ hr hm;have:=h.vp o;rcases xG hf with e|e
  rw[e,Gx];exact this.2;rw[e,GG];exact this.1
 have:=(at2 ((m8 r).hY (h.j8 hr)) m2 m1 s2 t2 s1 t1 (rS (h.tt g)) (t2▸w m2) (t1▸w m1)).2 b;unfold A0;rw[cr this];omega
end fp
section
variable {ι:Type} {N:Net ι} (hP:N.wx)
include hP
theorem ax6{v:bs}{g h:Net.pJ ι}(a:g≠h)(mem:∀k:Net.pJ ι,(k.1∈N.E/\N.src k=v)↔(k=g\/k=h)){d:ι->Int}(hd:N.rR d):N.L d h=N.L d (Net.rev g):=by
 have c:=(mem g).2 (bE rfl);have e:=(mem h).2 (bq rfl);rcases Mj.U8 hP c.1 e.1 c.2 e.2 a with b|b
 have ha:Net.CF N v [g,h]:=by refine⟨λk=>?_,?_,?_⟩;rw[mem];simp;simp[a];simp[b]
 exact Net.Mf hP hd ha (i:=0) (by simp);have ha:Net.CF N v [h,g]:=by refine⟨λk=>?_,?_,?_⟩;rw[mem];simp[or_comm];simp[Ne.symm a];simp[b]
 have:=Net.Mf hP hd ha (i:=1) (by simp);simpa using this
end
namespace fp
variable {al:gp} {ag:hI} {fs:eD} (h:fp al ag fs)
variable {r:cu fy} (hr:zb al ag ag=Z r)
include h hr
theorem be2{a:ct}{p:eY}{i:Nat}{s t:fy}(o:nJ al ag s a p i)(o':nJ al ag t a p (i+1))(k:Net.pJ fy) :
  (k.1∈r/\((m8 r).hY (h.j8 hr)).src k=gl s)↔(k=nz s\/k=nA t):=by
 have hs:s∈r:=by rw[o.eq];exact u5 hr a o.nM p o.path _ (vM o.at')
 have v:t∈r:=by rw[o'.eq];exact u5 hr a o'.nM p o'.path _ (vM o'.at')
 have qJ:gl s=hi t:=aK (o.se.symm.trans o'.rO);constructor;rintro ⟨l,d⟩;by_cases f:k.1=s;rcases xG k with e|e
 rw[e,Ad,f]at d;exact b8 d (h.sD o);rw[f]at e;exact bE e;by_cases g:k.1=t;rcases xG k with e|e
 rw[g]at e;exact bq e;rw[e,Al,g,qJ]at d;exact b8 d.symm (h.sD o');exfalso;let ⟨b,q,j,u⟩:=h.q_ hr l;have w:gl s=hi k.1\/gl s=gl k.1:=by
  rcases xG k with e|e
  rw[e,Ad]at d;exact bE d.symm;rw[e,Al]at d;exact bq d.symm
 rcases(h.share hr hs l (f ·.symm) o u (bq rfl) w).or with⟨rfl,c,_⟩|⟨_,_,c,_⟩|⟨n,_,c,c1,_⟩
 have m:=u.path;rw[o.path]at m;cases m;exact g (by rw[u.eq,o'.eq,c]);exact h.sD o c.symm;rcases c1 with⟨_,_,c1⟩|⟨c1,_⟩
 exact h.sD o (c1.trans c.symm);have:=o'.at';omega;rintro (rfl|rfl);exact⟨hs,Al _ _⟩;exact⟨v,(Ad _ _).trans qJ.symm⟩
theorem Wo{a:ct}{p:eY}{i:Nat}{s t:fy}(o:nJ al ag s a p i)(o':nJ al ag t a p (i+1)){d:fy->Int}(hd:((m8 r).hY (h.j8 hr)).rR d) :
  ((m8 r).hY (h.j8 hr)).L d (nA t)=((m8 r).hY (h.j8 hr)).L d (nA s)/\((m8 r).hY (h.j8 hr)).L d (nz s)=((m8 r).hY (h.j8 hr)).L d (nz t):=by
 have c:=(m8 r).w8 (h.j8 hr);have m:=h.be2 hr o o';have b:nz s≠nA t:=λe=>BL e.symm;constructor;have:=ax6 c b m hd;rw[Ll]at this;exact this;have:=ax6 c b.symm (λk=>(m k).trans Or.comm) hd;rw[QR]at this;exact this
end fp
def Gt{l:eD}(a:l.Nodup){i:Nat}(a7:i<aa l):qn l l[i]=l[(i+aa l-1)%aa l]'(dZ _ (by omega)):=by
 have hm:l[i]∈l:=aA a7;have e:l.idxOf l[i]=i:=by have h1:l.idxOf l[i]<aa l:=List.idxOf_lt_length_iff.2 hm;have h2:l[l.idxOf l[i]]=l[i]:=List.getElem_idxOf h1;exact(fO a).1 h2
 unfold qn;rw[cr hm,e,af (dZ _ (by omega))];rfl
def M'(l:eD):∀(x:eD) (m:eY) (d:Int),fh gd (-d) (x.foldl (λm d=>wC (λ(a b:Int)=>No (a=b)) (-d) (qn l d) m) m)=if d∈x then Z (qn l d)else fh gd (-d) m
 | [],m,d=>by simp
 |y::x,m,d=>by have c:=M' l x (wC gd (-y) (qn l y) m) d;show fh gd (-d) (x.foldl _ (wC gd (-y) (qn l y) m))=_;rw[c,rV];by_cases h1:d∈x;rw[cr h1,cr (bp _ h1)];rw[cc h1];by_cases h2:d=y;subst h2;rw[cr rfl,cr (aU ..)];rw[cc (by omega),cc (by simp[h1,h2])]
def Wk{d:Int}{l:eD}(hd:d∈l):∀(L:cu eD) (m:eY),l∈L->(∀k∈L,d∈k->k=l)->fh gd (-d) (uo L m)=Z (qn l d)
 | [],m,hl,_=>by simp at hl
 |k::L,m,hl,hu=>by
  show fh gd (-d) (uo L (BS k m))=_;by_cases f:l∈L;exact Wk hd L _ f (λa hk=>hu a (by simp[hk]));have hk:k=l:=by
   rcases aF.1 hl with e|e
   exact e.symm;exact(f e).elim
  subst hk;have no:∀a∈L,d∉a:=λa hk g=>f (by have:=hu a (by simp[hk]) g;exact this▸hk);have rest:∀(L':cu eD) (b:eY),(∀a∈L',d∉a)->fh gd (-d) (uo L' b)=fh gd (-d) b:=by
   intro L'
   induction L' with
   |nil=>intro b _;rfl
   |cons a L' i =>intro b c;show fh gd (-d) (uo L' (BS a b))=_;rw[i _ (λh hk=>c h (by simp[hk]))];unfold BS;rw[M',cc (c a (by simp))]
  rw[rest L _ no];unfold BS;rw[M',cr hd]
def xe(k:Net.pJ fy):Bool:=k.2==(m8 []).fwd k.1
theorem xJ(s:fy):xe (nA s)=Y:=by unfold xe nA;simp
theorem wN(s:fy):xe (nz s)=U:=by unfold xe nz;cases(m8 []).fwd s<;>rfl
def qw(k:Net.pJ fy):Int:=ite (xe k=Y) k.1.1.1 <|-k.1.1.1
def pa(al:gp)(ag:hI)(k:Net.pJ fy):Net.pJ fy :=ite (xe k=Y) (ite (k.1.2.toNat+2<aa k.1.1.path) (nA (k.1.1,((k.1.2.toNat+1:Nat):Int))) <|va al ag (fp.ki al ag k.1.1.1)) (ite (0<k.1.2.toNat) (nz (k.1.1,((k.1.2.toNat-1:Nat):Int))) <|va al ag (fp.ki al ag (- k.1.1.1)))
namespace fp
variable {al:gp} {ag:hI} {fs:eD} (h:fp al ag fs)
include h
theorem zF{n:b9}(d:n∈al){e:Int}:e∈kc al ag n↔∃a∈ag,(a.2.1=n.1/\e=a.1)\/(a.2.2.1=n.1/\e=-a.1):=by
 rw[(h.wG d).mem_iff];constructor;intro he;obtain⟨p,hp,rfl⟩:=aM.1 he;let ⟨a,ha,q,j,hc⟩:=h.GF (λ_ ha=>ha) hp;rcases hc with⟨e,rfl⟩|⟨e,rfl⟩
 exact⟨a,ha,bE ⟨e,rfl⟩⟩;exact⟨a,ha,bq ⟨e,rfl⟩⟩;rintro ⟨a,ha,hc⟩;let ⟨f,t,h1,h2,g,_⟩:=h.path ha;have mk:e∈(ph al ag n.1 a).map (·.1)->e∈(np al ag n.1 ag).map (·.1):=λb=>by let ⟨x,i,e⟩:=aM.1 b;exact e▸aN (cW.2 ⟨a,ha,i⟩)
 apply mk;unfold ph;rw[g];rcases hc with⟨c,rfl⟩|⟨c,rfl⟩<;>simp[c]
theorem Bg{a b:ct}(ha:a∈ag)(c:b∈ag)(e:a.1=b.1):a=b:=by have h1:=h.zD ha;rw[e,h.zD c]at h1;exact(aK h1).symm
theorem Xb{a b:b9}(ha:a∈al)(c:b∈al)(e:a.1=b.1):a=b:=by have h1:=h.vm ha;rw[e,h.vm c]at h1;exact(aK h1).symm
theorem Mq{n m:b9}(f:n∈al)(hm:m∈al){e:Int}(h1:e∈kc al ag n)(h2:e∈kc al ag m):n=m:=by
 let ⟨a,ha,c⟩:=(h.zF f).1 h1;let ⟨b,g,d⟩:=(h.zF hm).1 h2;have q5:=h.um ha;have nj:=h.um g;rcases c with⟨c,rfl⟩|⟨c,rfl⟩<;>rcases d with⟨d,e⟩|⟨d,e⟩
 have:=h.Bg ha g e;subst this;exact h.Xb f hm (c.symm.trans d);omega;omega;have:=h.Bg ha g (by omega);subst this;exact h.Xb f hm (c.symm.trans d)
theorem Ap{n:b9}(b:n∈al){e:Int}(he:e∈kc al ag n):ki al ag (-e)=qn (kc al ag n) e:=by
 unfold ki Tv;rw[Wk he (wF al ag) [] (aN b) (λk hk a=>by
  obtain⟨m,hm,rfl⟩:=aM.1 hk;rw[h.Mq b hm he a])]
 rfl
theorem E7{n:b9}(a:n∈al):(kc al ag n).Nodup:=(h.wG a).nodup_iff.2 (h.Ci n.1 (λ_ ha=>ha) (pq h.rX))
variable {r:cu fy} (hr:zb al ag ag=Z r)
include hr
theorem Wp{n:b9}(a:n∈al){e:Int}(he:e∈kc al ag n){d:fy->Int}(hd:((m8 r).hY (h.j8 hr)).rR d) :
  ((m8 r).hY (h.j8 hr)).L d (va al ag (ki al ag (-e)))=((m8 r).hY (h.j8 hr)).L d (Net.rev (va al ag e)):=by
 obtain⟨i,a7,rfl⟩:=a_ he;have ha:=h.Mp hr a;have b:=Net.Mf ((m8 r).w8 (h.j8 hr)) hd ha (i:=i) (by simpa using a7);simp only[cB,aL]at b;rw[h.Ap a he,Gt (h.E7 a) a7];exact b
theorem Gh{k:Net.pJ fy}(hk:k.1∈r):(pa al ag k).1∈r/\((m8 r).hY (h.j8 hr)).src (pa al ag k)=((m8 r).hY (h.j8 hr)).dst k /\
  (∀d,((m8 r).hY (h.j8 hr)).rR d->((m8 r).hY (h.j8 hr)).L d (pa al ag k)=((m8 r).hY (h.j8 hr)).L d k) /\
  ((qw (pa al ag k)=qw k)\/(pa al ag k=va al ag (ki al ag (qw k)))):=by
 let ⟨a,p,i,o⟩:=h.q_ hr hk;have u:=o.at';have q:k.1.2.toNat=i:=by rw[o.eq];simp
 have m:k.1.1=rT a p:=by rw[o.eq]
 have v:k.1.1.path=p:=by rw[m];rfl
 have j:k.1.1.1=a.1:=by rw[m];rfl
 let ⟨⟨s,m1,fa⟩,t,m2,gb⟩:=h.DQ o.nM;have hl:=h.Ce o.nM o.path;rcases xG k with e|e
 have f:xe k=Y:=by rw[e];exact xJ _
 unfold pa;rw[cr f,q,v,j];by_cases a7:i+2<aa p;rw[cr a7,m];have o':nJ al ag (rT a p,((i+1:Nat):Int)) a p (i+1):=⟨o.nM,o.path,by omega,rfl⟩;refine⟨u5 hr a o.nM p o.path _ (vM (by omega)),?_,λd hd=>?_,bE ?_⟩;rw[Ad,e,Gx];exact aK (o'.rO.symm.trans o.se);have:=(h.Wo hr o o' hd).1;rw[this,<-e];unfold qw;rw[xJ,f,cr rfl,cr rfl];exact j.symm;rw[cc a7];have b:-a.1∈kc al ag t:=(h.zF m2).2 ⟨a,o.nM,bq ⟨gb.symm,rfl⟩⟩;have c:=h.Ap m2 b;rw[je]at c;have g:ki al ag a.1∈kc al ag t:=by rw[c];exact Dk b
 have l:=h.tO hr m2 g;have hf:=h.Dv o.nM o.path;have es:k.1=(rT a p,((aa p-2:Nat):Int)):=by rw[o.eq,show i=aa p-2 by omega]
 refine⟨l.1,?_,λd hd=>?_,bq ?_⟩;rw[l.2.1,e,Gx];exact(h.D6 o (by omega) m2 gb.symm).symm;have:=h.Wp hr m2 b hd;rw[je,hf,Ll,<-es,<-e]at this;exact this;unfold qw;rw[f,cr rfl,j];have f:xe k=U:=by rw[e];exact wN _
 have n:¬xe k=Y:=by rw[f];simp
 unfold pa;rw[cc n,q,j];by_cases a7:0<i;rw[cr a7,m];have o':nJ al ag (rT a p,((i-1:Nat):Int)) a p (i-1):=⟨o.nM,o.path,by omega,rfl⟩;have o2:nJ al ag k.1 a p (i-1+1):=⟨o.nM,o.path,by omega,by rw[show i-1+1=i by omega];exact o.eq⟩;refine⟨u5 hr a o.nM p o.path _ (vM (by omega)),?_,λd hd=>?_,bE ?_⟩;rw[Al,e,GG];exact aK (o'.se.symm.trans o2.rO);have:=(h.Wo hr o' o2 hd).2;rw[this,<-e];unfold qw;rw[wN,f,cc (by simp),cc (by simp),j];rfl;rw[cc a7];have b:a.1∈kc al ag s:=(h.zF m1).2 ⟨a,o.nM,bE ⟨fa.symm,rfl⟩⟩;have c:=h.Ap m1 b;have g:ki al ag (-a.1)∈kc al ag s:=by rw[c];exact Dk b
 have l:=h.tO hr m1 g;have hf:=h.BM o.nM o.path;have es:k.1=(rT a p,((0:Nat):Int)):=by rw[o.eq,show i=0 by omega]
 refine⟨l.1,?_,λd hd=>?_,bq ?_⟩;rw[l.2.1,e,GG];exact(h.Cn o (by omega) m1 fa.symm).symm;have:=h.Wp hr m1 b hd;rw[hf,QR,<-es,<-e]at this;exact this;unfold qw;rw[f,cc (by simp),j]
end fp
def PF{α:Type}[DecidableEq α]:∀ {l m:cu α},l.Nodup->(∀x∈l,x∈m)->aa m<=aa l->∀x∈m,x∈l
 | [],m,_,_,h,x,b=>by grind[jJ]
 |a::l,m,d,hs,h,x,b=>by
  rw[cx]at d;by_cases e:x=a
  grind
  have c:a∈m:=hs a (aU ..);have h1:aa (m.erase a)=aa m-1:=List.length_erase_of_mem c;have h2:0<aa m:=jJ b;rw[aC]at h;refine bp _ (PF (m:=m.erase a) d.2 (λy f=>?_) (by omega) x ((List.mem_erase_of_ne e).2 b))
  grind[bp]
def cd6{l:eD}(a:l.Nodup){x y:Int}(b:x∈l)(c:y∈l)(e:qn l x=qn l y):x=y:=by
 obtain⟨i,a7,rfl⟩:=a_ b;obtain⟨j,hj,rfl⟩:=a_ c;rw[Gt a a7,Gt a hj]at e;have d:=(fO a).1 e;have md:∀n,n<aa l->(n+aa l-1)%aa l=if n=0 then aa l-1 else n-1:=by intro n a;split;rw[cY (by omega)];omega;rw[show n+aa l-1=(n-1)+aa l by omega,gv,cY (by omega)]
 grind
namespace fp
variable {al:gp} {ag:hI} {fs:eD} (h:fp al ag fs)
include h
theorem FI{d:Int}(hd:d∈ny al ag):∃a∈ag,∃p,pathOf al ag a.1=Z p/\((d=a.1/\va al ag d=nA (rT a p,((0:Nat):Int)))\/(d=-a.1/\va al ag d=nz (rT a p,((aa p-2:Nat):Int)))):=by
 let ⟨a,ha,c⟩:=h.uP.1 hd;let ⟨f,t,_,_,b,_⟩:=h.path ha;rcases c with rfl|rfl
 exact⟨a,ha,_,b,bE ⟨rfl,h.BM ha b⟩⟩;exact⟨a,ha,_,b,bq ⟨rfl,h.Dv ha b⟩⟩
theorem BD{d:Int}(hd:d∈ny al ag):qw (va al ag d)=d:=by obtain⟨a,ha,p,hp,⟨rfl,e⟩|⟨rfl,e⟩⟩:=h.FI hd<;>rw[e]<;>unfold qw;rw[xJ,cr rfl];rfl;rw[wN,cc (by simp)];rfl
theorem Ov{d e:Int}(hd:d∈ny al ag)(he:e∈ny al ag)(a:ki al ag d=ki al ag e):d=e:=by
 have find:∀x,x∈ny al ag->∃n∈al,-x∈kc al ag n:=λx i=>by have:=h.JN i;let ⟨l,hl,c⟩:=bU.1 this;obtain⟨n,b,rfl⟩:=aM.1 hl;exact⟨n,b,c⟩
 let ⟨n,b,h1⟩:=find d hd;let ⟨m,hm,h2⟩:=find e he;have f:=h.Ap b h1;have g:=h.Ap hm h2;rw[je]at f g;have fa:=Dk h1;have gb:=Dk h2;rw[<-f,a,g]at fa;have:=h.Mq b hm fa gb;subst this;rw[f,g]at a;have:=cd6 (h.E7 b) h1 h2 a;omega
variable {r:cu fy} (hr:zb al ag ag=Z r)
include hr
theorem yV{k:Net.pJ fy}(hk:k.1∈r):qw k∈ny al ag/\∃a∈ag,∃p,pathOf al ag a.1=Z p/\∃i:Nat,i+1<aa p /\
  ((k=nA (rT a p,(i:Int))/\qw k=a.1/\((i+2<aa p/\pa al ag k=nA (rT a p,((i+1:Nat):Int)))\/(i+2=aa p/\pa al ag k=va al ag (ki al ag a.1)))) \/
   (k=nz (rT a p,(i:Int))/\qw k=-a.1/\((0<i/\pa al ag k=nz (rT a p,((i-1:Nat):Int)))\/(i=0/\pa al ag k=va al ag (ki al ag (-a.1)))))):=by
 let ⟨a,p,i,o⟩:=h.q_ hr hk;have f:=o.at';have g:k.1.2.toNat=i:=by rw[o.eq];simp
 have c:k.1.1=rT a p:=by rw[o.eq]
 have j:k.1.1.path=p:=by rw[c];rfl
 have d:k.1.1.1=a.1:=by rw[c];rfl
 rcases xG k with e|e
 have b:xe k=Y:=by rw[e];exact xJ _
 have hd:qw k=a.1:=by unfold qw;rw[cr b,d]
 refine⟨h.uP.2 ⟨a,o.nM,bE hd⟩,a,o.nM,p,o.path,i,o.at',bE ⟨by rw[<-o.eq];exact e,hd,?_⟩⟩
 grind[pa]
 have b:¬xe k=Y:=by rw[e,wN];simp
 have hd:qw k=-a.1:=by unfold qw;rw[cc b,d]
 refine⟨h.uP.2 ⟨a,o.nM,bq hd⟩,a,o.nM,p,o.path,i,o.at',bq ⟨by rw[<-o.eq];exact e,hd,?_⟩⟩
 grind[pa]
theorem mk_inj{a b:ct}(ha:a∈ag)(c:b∈ag){p q:eY}{i j:Nat}(e:((rT a p,(i:Int)):fy)=(rT b q,(j:Int))):a=b/\p=q/\i=j:=by have d:a.1=b.1:=Ar (λs:fy=>s.1.1) e;have f:p=q:=Ar (λs:fy=>s.1.path) e;have g:(i:Int)=(j:Int):=Ar (λs:fy=>s.2) e;exact⟨h.Bg ha c d,f,by omega⟩
theorem bq0{k f:Net.pJ fy}(hk:k.1∈r)(o:f.1∈r)(e:pa al ag k=pa al ag f):k=f:=by
 let ⟨d1,a,ha,p,hp,i,a7,c⟩:=h.yV hr hk;let ⟨d2,b,g,q,l,j,hj,z⟩:=h.yV hr o;have fin:qw k=qw f->va al ag (ki al ag (qw k))=va al ag (ki al ag (qw f)):=λe=>by rw[e]
 have t:va al ag (ki al ag (qw k))=va al ag (ki al ag (qw f))->qw k=qw f:=λe=>by have B:=h.qK d1;have C:=h.qK d2;have:=Ar qw e;rw[h.BD B,h.BD C]at this;exact h.Ov d1 d2 this
 have G:=h.um ha;have H:=h.um g;have d:∀x∈ny al ag,(∀(u:ct) (w:eY) (m:Nat),u∈ag->pathOf al ag u.1=Z w->0<m->va al ag x≠nA (rT u w,(m:Int)))/\∀(u:ct) (w:eY) (m:Nat),u∈ag->pathOf al ag u.1=Z w->m+2<aa w->va al ag x≠nz (rT u w,(m:Int)):=by
  intro x D;obtain⟨v,hv,w',E,⟨_,yD⟩|⟨_,yD⟩⟩:=h.FI D<;>rw[yD]
  grind[BL,PI]
  refine⟨λu w m hu hw hm e=>BL e.symm,λu w m hu hw hm e=>?_⟩;obtain⟨_,rfl,I⟩:=h.mk_inj hr hv hu (PH e);omega
 rcases c with⟨c1,c2,⟨s,n⟩|⟨s,n⟩⟩|⟨c1,c2,⟨s,n⟩|⟨s,n⟩⟩<;>rcases z with⟨g1,g2,⟨g3,g4⟩|⟨g3,g4⟩⟩|⟨g1,g2,⟨g3,g4⟩|⟨g3,g4⟩⟩<;>rw[n,g4]at e
 grind[PI]
 exact b8 e.symm ((d _ (h.qK (g2▸d2))).1 a p (i+1) ha hp (by omega));exact b8 e BL;exact b8 e.symm ((d _ (h.qK (g2▸d2))).1 a p (i+1) ha hp (by omega));exact b8 e ((d _ (h.qK (c2▸d1))).1 b q (j+1) g l (by omega));rw[<-c2,<-g2]at e;have:=t e;obtain rfl:=h.Bg ha g (by omega)
 grind
 exact b8 e ((d _ (h.qK (c2▸d1))).2 b q (j-1) g l (by omega))
 grind
 exact b8 e.symm BL;exact b8 e.symm ((d _ (h.qK (g2▸d2))).2 a p (i-1) ha hp (by omega))
 grind[PH]
 exact b8 e.symm ((d _ (h.qK (g2▸d2))).2 a p (i-1) ha hp (by omega));exact b8 e ((d _ (h.qK (c2▸d1))).1 b q (j+1) g l (by omega))
 grind
 exact b8 e ((d _ (h.qK (c2▸d1))).2 b q (j-1) g l (by omega));rw[<-c2,<-g2]at e;have:=t e;obtain rfl:=h.Bg ha g (by omega)
 grind
end fp
open Classical
namespace fp
variable {al:gp} {ag:hI} {fs:eD} (h:fp al ag fs)
variable {r:cu fy} (hr:zb al ag ag=Z r)
include h hr
theorem bq1:(((m8 r).hY (h.j8 hr)).og.map (pa al ag)).Perm ((m8 r).hY (h.j8 hr)).og:=by
 have g:=(m8 r).w8 (h.j8 hr);have f:=Net.VG g;have mem:∀k,k∈((m8 r).hY (h.j8 hr)).og↔k.1∈r:=λk=>Net.Gf;have b:(((m8 r).hY (h.j8 hr)).og.map (pa al ag)).Nodup:=cT.2 (f.imp_of_mem λ{k c} hk a d e=>d (h.bq0 hr ((mem k).1 hk) ((mem c).1 a) e));have sub:∀k∈((m8 r).hY (h.j8 hr)).og.map (pa al ag),k∈((m8 r).hY (h.j8 hr)).og:=by intro k hk;obtain⟨c,a,rfl⟩:=aM.1 hk;exact(mem _).2 (h.Gh hr ((mem c).1 a)).1
 exact(jf b f).2 λk=>⟨sub k,PF b sub (by rw[aL];exact Nat.le_refl _) k⟩
omit hr in
omit h in
noncomputable def bV4{al:gp}{ag:hI}{fs:eD}(h:fp al ag fs){r:cu fy}(hr:zb al ag ag=Z r){κ:Type}(c0:Int->κ)(hc:∀d∈ny al ag,c0 (ki al ag d)=c0 d):Net.nK ((m8 r).hY (h.j8 hr)) κ where
 c:=λk=>c0 (qw k)
 gA:=pa al ag
 mem:=λk hk=>(h.Gh hr hk).1
 NY:=λk hk=>by
  have hd:=(h.yV hr hk).1;rcases(h.Gh hr hk).2.2.2 with e|e
  show c0 (qw (pa al ag k))=_;rw[e];show c0 (qw (pa al ag k))=_;rw[e,h.BD (h.qK hd),hc _ hd]
 left:=λk hk d hd=>(h.Gh hr hk).2.2.1 d hd
 closed:=λC A=>by
  have mem:∀k,k∈((m8 r).hY (h.j8 hr)).og↔k.1∈r:=λk=>Net.Gf;have g:gg ((m8 r).hY (h.j8 hr)).og (λk=>ite (c0 (qw k)=C) (A (((m8 r).hY (h.j8 hr)).src k)-A (((m8 r).hY (h.j8 hr)).dst k)) 0)
    = gg ((m8 r).hY (h.j8 hr)).og (λk=>ite (c0 (qw k)=C) (A (((m8 r).hY (h.j8 hr)).src k)) 0)-gg ((m8 r).hY (h.j8 hr)).og (λk=>ite (c0 (qw k)=C) (A (((m8 r).hY (h.j8 hr)).dst k)) 0):=by
   rw[<-yI];refine ns λk _=>?_;by_cases b:c0 (qw k)=C;simp only[cr b];simp only[cc b];omega
  have i:gg ((m8 r).hY (h.j8 hr)).og (λk=>ite (c0 (qw k)=C) (A (((m8 r).hY (h.j8 hr)).dst k)) 0)=gg ((m8 r).hY (h.j8 hr)).og (λk=>ite (c0 (qw k)=C) (A (((m8 r).hY (h.j8 hr)).src k)) 0):=by
   refine Eq.symm ?_;rw[<-PK (h.bq1 hr),DY];refine ns λk hk=>?_;have a:=(mem k).1 hk;have f:=h.Gh hr a;have hd:=(h.yV hr a).1;have hl:c0 (qw (pa al ag k))=c0 (qw k):=by
    rcases f.2.2.2 with e|e
    rw[e];rw[e,h.BD (h.qK hd),hc _ hd]
   rw[hl,f.2.1]
  show gg ((m8 r).hY (h.j8 hr)).og (λk=>ite (c0 (qw k)=C) (A (((m8 r).hY (h.j8 hr)).src k)-A (((m8 r).hY (h.j8 hr)).dst k)) 0)=0;rw[g,i];omega
end fp
end Go.Ab
namespace Go.Ab
open Go
def ot(gA:Int->Int)(d:Int):Nat->Int
 | 0=>d
 |n+1=>gA (ot gA d n)
def zg(gA:Int->Int)(d:Int)(m:Nat):eD:=(aQ m).map (ot gA d)
def N4(gA:Int->Int)(d:Int)(m:Nat):zg gA d (m+1)=zg gA d m++[ot gA d m]:=by unfold zg;rw[ib,eQ];rfl
theorem td{gA:Int->Int}{d:Int}{m:Nat}{x:Int}:x∈zg gA d m↔∃i,i<m/\ot gA d i=x:=by unfold zg;simp
def av8{gA:Int->Int}{d:Int}{m:Nat}(a:(zg gA d m).Nodup){i j:Nat}(a7:i<m)(hj:j<m)(e:ot gA d i=ot gA d j):i=j:=by
 unfold zg at a;have h1:i<aa ((aQ m).map (ot gA d)):=by simpa using a7
 have h2:j<aa ((aQ m).map (ot gA d)):=by simpa using hj
 exact(fO (h₀:=h1) (h₁:=h2) a).1 (by simpa using e)
section
variable {gA:Int->Int} {D:eD} (hD:∀d∈D,gA d∈D) (inj:∀d∈D,∀e∈D,gA d=gA e->d=e)
def vU(hD:∀d∈D,gA d∈D){d:Int}(hd:d∈D):∀n,ot gA d n∈D
 | 0=>hd
 |n+1=>hD _ (vU hD hd n)
include hD inj
theorem Nc{d:Int}(hd:d∈D){c:eD}(f:∀y∈c,∃x∈c,gA x=y)(s0:∀x∈c,x∈D)(tX:d∉c):∀(n m:Nat),(c++zg gA d m).Nodup->pV D (c++zg gA d m)<n ->
  ∃g,0<g/\ot gA d g=d/\rn gA n (c++zg gA d m) (ot gA d m) (zg gA d m)=(zg gA d g,c++zg gA d g)/\(c++zg gA d g).Nodup
 | 0,m,_,hu=>by omega
 |n+1,m,i,hu=>by
  unfold rn;have h:=(dO.1 i).2.2;by_cases hm:ot gA d m∈c++zg gA d m;rw[cr hm];have key:0<m/\ot gA d m=d:=by
   rcases aV.1 hm with h1|h1
   exfalso;cases m;exact tX h1;rename_i m;let ⟨x,o,e⟩:=f _ h1;have:=inj x (s0 x o) _ (vU hD hd m) e;exact h x o x (td.2 ⟨m,by omega,this.symm⟩) rfl;let ⟨j,hj,e⟩:=td.1 h1;refine⟨by omega,?_⟩;cases j;exact e.symm;rename_i j;exfalso;cases m;omega;rename_i m;have:=inj _ (vU hD hd j) _ (vU hD hd m) e;have:=av8 (dO.1 i).2.1 (by omega) (by omega) this;omega
  exact⟨m,key.1,key.2,rfl,i⟩;rw[cc hm];have e:c++zg gA d m++[ot gA d m]=c++zg gA d (m+1):=by rw[N4,bG]
  have k:=N' (vU hD hd m) hm;rw[e]at k⊢;rw[<-N4];refine Nc hd f s0 tX n (m+1) ?_ (by omega);rw[<-e];refine dO.2 ⟨i,by simp,?_⟩;intro a ha b p l;simp at p;exact hm (p▸l▸ha)
structure ze(gA:Int->Int)(D:List Int)(cs:List (List Int)):Prop where
 y5:∀c∈cs,∃d m,d∈D/\0<m/\ot gA d m=d/\c=zg gA d m
 nodup:cs.flatten.Nodup
theorem Rt{cs:cu eD}(hc:ze gA D cs):∀y∈cs.flatten,∃x∈cs.flatten,gA x=y:=by
 intro y b;let ⟨c,a,b⟩:=bU.1 b;obtain⟨d,m,hd,hm,he,rfl⟩:=hc.y5 c a;obtain⟨i,a7,rfl⟩:=td.1 b;cases i with
 |zero=>exact⟨ot gA d (m-1),bU.2 ⟨_,a,td.2 ⟨m-1,by omega,rfl⟩⟩,by
   have:ot gA d (m-1+1)=d:=by rw[show m-1+1=m by omega];exact he
   exact this⟩
 |succ i=>exact⟨ot gA d i,bU.2 ⟨_,a,td.2 ⟨i,by omega,rfl⟩⟩,rfl⟩
theorem PL{cs:cu eD}(hc:ze gA D cs):∀y∈cs.flatten,y∈D:=by intro y a;let ⟨c,b,a⟩:=bU.1 a;obtain⟨d,m,hd,hm,he,rfl⟩:=hc.y5 c b;obtain⟨i,a7,rfl⟩:=td.1 a;exact vU hD hd i
theorem Nh:∀(a:eD) (acc:cu eD),(∀d∈a,d∈D)->ze gA D acc->ze gA D (qW gA D a acc.flatten acc)/\∀d,(d∈a\/d∈acc.flatten)->d∈(qW gA D a acc.flatten acc).flatten
 | [],acc,_,hc=>⟨hc,λd hd=>by
   rcases hd with hd|hd
   simp at hd;exact hd⟩
 |d::a,acc,b,hc=>by
  have hd:=b d (by simp);unfold qW;by_cases hs:d∈acc.flatten;rw[cr hs];let ⟨i1,i2⟩:=Nh a acc (λe he=>b e (by simp[he])) hc;refine⟨i1,λe he=>i2 e ?_⟩;rcases he with he|he
  rcases aF.1 he with rfl|he
  exact bq hs;exact bE he;exact bq he;rw[cc hs];have hz:acc.flatten++zg gA d 0=acc.flatten:=by simp[zg]
  let ⟨m,hm,he,hf,j⟩:=Nc hD inj hd (Rt hD inj hc) (PL hD inj hc) hs (pV D acc.flatten+1) 0 (by rw[hz];exact hc.nodup) (by rw[hz];omega);rw[hz]at hf;have g:rn gA (pV D acc.flatten+1) acc.flatten d []=(zg gA d m,acc.flatten++zg gA d m):=hf;simp only[g];have e:acc.flatten++zg gA d m=(acc++[zg gA d m]).flatten:=by simp
  have i:ze gA D (acc++[zg gA d m]):=by
   refine⟨λc h=>?_,by rw[<-e];exact j⟩;rcases aV.1 h with h|h
   exact hc.y5 c h;simp at h;exact⟨d,m,hd,hm,he,h⟩
  rw[e];let ⟨i1,i2⟩:=Nh a _ (λe he=>b e (by simp[he])) i;refine⟨i1,λx f=>i2 x ?_⟩;rcases f with f|f
  rcases aF.1 f with rfl|f
  exact bq (by rw[<-e];exact g_ _ (td.2 ⟨0,hm,rfl⟩));exact bE f;exact bq (by rw[<-e];exact dG _ f)
end
open Go.Pg
def wh(al:gp)(ag:hI)(d:Int):eD:=((fp.l9 al ag).find? (λc=>No (d∈c))).getD []
def aK6{cs:cu eD}(g:cs.flatten.Nodup){c f:eD}(h1:c∈cs)(h2:f∈cs){d:Int}(d1:d∈c)(d2:d∈f):c=f:=by
 have hp:=(d_.1 g).2;have:=Gw (R:=λc f:eD=>c=f\/∀x∈c,∀y∈f,x≠y) (λx y h=>by
  rcases h with h|h
  exact bE h.symm;exact bq λa ha b i e=>h b i a ha e.symm) (λx=>bE rfl) (hp.imp λ{x y} h=>bq h) h1 h2
 rcases this with h|h
 exact h;exact(h d d1 d d2 rfl).elim
namespace fp
variable {al:gp} {ag:hI} {fs:eD} (h:fp al ag fs)
include h
theorem xF:ze (ki al ag) (ny al ag) (l9 al ag)/\∀d∈ny al ag,d∈(l9 al ag).flatten:=by have hp:=cX (ny al ag) (λa b=>No (a<=b));let ⟨i1,i2⟩:=Nh (gA:=ki al ag) (D:=ny al ag) (λd hd=>h.qK hd) (λd hd e he x=>h.Ov hd he x) ((ny al ag).mergeSort λa b=>No (a<=b)) [] (λd hd=>hp.mem_iff.1 hd) ⟨λc hc=>by simp at hc,by simp⟩;exact⟨i1,λd hd=>i2 d (bE (hp.mem_iff.2 hd))⟩
theorem zT{d:Int}(hd:d∈ny al ag):wh al ag d∈l9 al ag/\d∈wh al ag d:=by
 let ⟨c,hc,a⟩:=bU.1 (h.xF.2 d hd);unfold wh;cases hf:(l9 al ag).find? (λc=>No (d∈c))with
 |none=>exact b8 a (by have:=gf.1 hf c hc;simpa using this)
 |some b =>have h1:=ba hf;have h2:=dp hf;exact⟨h1,by simpa using h2⟩
theorem zS{c:eD}(hc:c∈l9 al ag){d:Int}(hd:d∈c):d∈ny al ag:=by obtain⟨e,m,he,hm,_,rfl⟩:=h.xF.1.y5 c hc;obtain⟨i,_,rfl⟩:=td.1 hd;exact vU (λd hd=>h.qK hd) he i
theorem Iu{c:eD}(hc:c∈l9 al ag){d:Int}(hd:d∈c):wh al ag d=c:=by have h1:=h.zT (h.zS hc hd);exact aK6 h.xF.1.nodup h1.1 hc h1.2 hd
theorem bf8{c:eD}(hc:c∈l9 al ag){d:Int}(hd:d∈c):ki al ag d∈c:=by
 obtain⟨e,m,he,hm,hz,rfl⟩:=h.xF.1.y5 c hc;obtain⟨i,a7,rfl⟩:=td.1 hd;by_cases hl:i+1<m;exact td.2 ⟨i+1,hl,rfl⟩;refine td.2 ⟨0,hm,?_⟩;have:ot (ki al ag) e (i+1)=e:=by rw[show i+1=m by omega];exact hz
 exact this.symm
theorem bg3{d:Int}(hd:d∈ny al ag):wh al ag (ki al ag d)=wh al ag d:=by have h1:=h.zT hd;exact h.Iu h1.1 (h.bf8 h1.1 h1.2)
variable {r:cu fy} (hr:zb al ag ag=Z r)
noncomputable def tw{al:gp}{ag:hI}{fs:eD}(h:fp al ag fs){r:cu fy}(hr:zb al ag ag=Z r):Net.nK ((m8 r).hY (h.j8 hr)) eD:=h.bV4 hr (wh al ag) (λ_ hd=>h.bg3 hd)
theorem MY{d:Int}(hd:d∈ny al ag)(hr:zb al ag ag=Z r):(va al ag d).1∈r:=by obtain⟨a,ha,p,hp,⟨_,e⟩|⟨_,e⟩⟩:=h.FI hd<;>rw[e];exact u5 hr a ha p hp _ (vM (by have:=h.Ce ha hp;omega));exact u5 hr a ha p hp _ (vM (by have:=h.Ce ha hp;omega))
theorem Fl{k:Net.pJ fy}(hk:k.1∈r):(h.tw hr).qX (va al ag (qw k)) k/\(h.tw hr).qX k (va al ag (ki al ag (qw k))):=by
 let ⟨_,a,ha,p,hp,i,a7,c⟩:=h.yV hr hk;have inr:∀j:Nat,j+1<aa p->(rT a p,(j:Int))∈r:=λj hj=>u5 hr a ha p hp _ (vM hj);have b:∀k,(h.tw hr).gA k=pa al ag k:=λ_=>rfl;rcases c with⟨c1,c2,_⟩|⟨c1,c2,_⟩
 rw[c1,show qw (nA (rT a p,(i:Int)))=a.1 from c1▸c2,h.BM ha hp];have st:∀j:Nat,j+2<aa p->pa al ag (nA (rT a p,(j:Int)))=nA (rT a p,((j+1:Nat):Int)):=λj hj=>by
  unfold pa;rw[cr (xJ _)];have d:((nA (rT a p,(j:Int))).1.2).toNat=j:=by show((j:Int)).toNat=j;simp
  have e:(nA (rT a p,(j:Int))).1.1.path.length=aa p:=rfl;rw[d,e,cr hj];rfl
 have f:∀j:Nat,j+2=aa p->pa al ag (nA (rT a p,(j:Int)))=va al ag (ki al ag a.1):=λj hj=>by
  unfold pa;rw[cr (xJ _)];have d:((nA (rT a p,(j:Int))).1.2).toNat=j:=by show((j:Int)).toNat=j;simp
  have e:(nA (rT a p,(j:Int))).1.1.path.length=aa p:=rfl;rw[d,e,cc (by omega)];rfl
 have up:∀n j:Nat,j+n+1<aa p->(h.tw hr).qX (nA (rT a p,(j:Int))) (nA (rT a p,((j+n:Nat):Int))):=by
  intro n
  induction n with
  |zero=>intro j hj;exact Net.nK.qX.refl _
  |succ n g =>intro j hj;have h1:=g j (by omega);have h2:=Net.nK.qX.gA (w:=h.tw hr) (h:=nA (rT a p,((j+n:Nat):Int))) (inr (j+n) (by omega)) h1;rw[b,st (j+n) (by omega)]at h2;exact h2
 refine⟨by have:=up i 0 (by omega);rw[bd]at this;exact this,?_⟩;have h1:=up (aa p-2-i) i (by omega);have h2:=Net.nK.qX.gA (w:=h.tw hr) (h:=nA (rT a p,((i+(aa p-2-i):Nat):Int))) (inr _ (by omega)) h1;rw[b,f _ (by omega)]at h2;exact h2;rw[c1,show qw (nz (rT a p,(i:Int)))=-a.1 from c1▸c2,h.Dv ha hp];have st:∀j:Nat,0<j->pa al ag (nz (rT a p,(j:Int)))=nz (rT a p,((j-1:Nat):Int)):=λj hj=>by
  unfold pa;rw[cc (by rw[wN];simp)];have d:((nz (rT a p,(j:Int))).1.2).toNat=j:=by show((j:Int)).toNat=j;simp
  rw[d,cr hj];rfl
 have f:pa al ag (nz (rT a p,((0:Nat):Int)))=va al ag (ki al ag (-a.1)):=by unfold pa;rw[cc (by rw[wN];simp)];have d:((nz (rT a p,((0:Nat):Int))).1.2).toNat=0:=rfl;rw[d,cc (by omega)];rfl
 have ng:∀n j:Nat,j+n+1<aa p->(h.tw hr).qX (nz (rT a p,((j+n:Nat):Int))) (nz (rT a p,(j:Int))):=by
  intro n
  induction n with
  |zero=>intro j hj;exact Net.nK.qX.refl _
  |succ n g =>intro j hj;have h1:=g (j+1) (by omega);rw[show j+1+n=j+(n+1)by omega]at h1;have h2:=Net.nK.qX.gA (w:=h.tw hr) (h:=nz (rT a p,((j+1:Nat):Int))) (inr (j+1) (by omega)) h1;rw[b,st (j+1) (by omega)]at h2;exact h2
 refine⟨by have:=ng (aa p-2-i) i (by omega);rw[show i+(aa p-2-i)=aa p-2 by omega]at this;exact this,?_⟩;have h1:=ng i 0 (by omega);rw[bd]at h1;have h2:=Net.nK.qX.gA (w:=h.tw hr) (h:=nz (rT a p,((0:Nat):Int))) (inr 0 (by omega)) h1;rw[b,f]at h2;exact h2
end fp
namespace fp
variable {al:gp} {ag:hI} {fs:eD} (h:fp al ag fs)
variable {r:cu fy} (hr:zb al ag ag=Z r)
include h
theorem MC{e:Int}(he:e∈ny al ag):∀i,(h.tw hr).qX (va al ag e) (va al ag (ot (ki al ag) e i))
 | 0=>Net.nK.qX.refl _
 |i+1=>by have hm:=vU (gA:=ki al ag) (λd hd=>h.qK hd) he i;have h1:=MC he i;have h2:=(h.Fl hr (h.MY hm hr)).2;rw[h.BD hm]at h2;exact Net.nK.oc _ h1 h2
theorem VS{c:eD}(hc:c∈l9 al ag){d:Int}(hd:d∈c):(h.tw hr).CR c (va al ag d):=by
 intro k hk b;have a:k.1∈r:=b;have f:=(h.yV hr a).1;have g:wh al ag (qw k)=c:=hk;have h1:=(h.Fl hr a).1;have h2:qw k∈c:=by rw[<-g];exact(h.zT f).2
 obtain⟨e,m,he,hm,_,rfl⟩:=h.xF.1.y5 c hc;let ⟨i,_,a7⟩:=td.1 h2;let ⟨j,_,hj⟩:=td.1 hd;have l:=h.MC hr he i;have a2:=h.MC hr he j;rw[a7]at l;rw[hj]at a2;exact Net.nK.oc _ (Net.nK.xC _ a2) (Net.nK.oc _ l h1)
end fp
open Classical
def zj(p q:bs):Int:=p.1*q.2-q.1*p.2
def as8:∀(l:eY) (p:bs),gg (aQ (aa l)) (λi=>zj (((p::l)[i]?).getD (0,0)) (((p::l)[i+1]?).getD (0,0)))=oZ p l
 | [],p=>rfl
 |q::l,p=>by have a:=as8 l q;rw[aC,gI];simp only[gg,DY];have e:∀i:Nat,(p::q::l)[i+1]?=(q::l)[i]?:=λi=>rfl;have b:∀i:Nat,(p::q::l)[kZ i+1]?=(q::l)[i+1]?:=λi=>rfl;have c:∀i:Nat,(p::q::l)[kZ i]?=(q::l)[i]?:=λi=>rfl;simp only[b,c];rw[a];rfl
def bM6{al:gp}{ag:hI}{f:fy->Int}{a:ct}{p:eY}(hp:pathOf al ag a.1=Z p):∀ {l:hI} {r:cu fy},(l.map (·.1)).Pairwise (·<·)->zb al ag l=Z r ->
  gg r (λs=>ite (s.1.1=a.1) (f s) 0)=if a.1∈l.map (·.1)then gg r (λs=>ite (s.1.1=a.1) (f s) 0)else 0
 |l,r,hl,h=>by
  by_cases c:a.1∈l.map (·.1);rw[cr c];rw[cc c];refine uq λs hs=>?_;let ⟨b,d,q,_,hm⟩:=Bt h s hs;let ⟨i,_,e⟩:=xw hm;have g:s.1.1=b.1:=by rw[e];rfl
  rw[cc (λj=>c (by rw[<-j,g];exact aN d))]
def NP{al:gp}{ag:hI}(f:fy->Int){a:ct}{p:eY}(hp:pathOf al ag a.1=Z p):∀ {l:hI} {r:cu fy},(l.map (·.1)).Pairwise (·<·)->(∀b∈l,b.1=a.1->b=a)->zb al ag l=Z r->a∈l ->
  gg r (λs=>ite (s.1.1=a.1) (f s) 0)=gg (pf a p) f
 | [],r,_,_,_,ha=>by simp at ha
 |b::l,r,hl,hu,h,ha=>by
  rw[aq,aR]at hl;unfold zb at h;split at h;cases h;rename_i q j;cases hc:((No (b.2.1=b.2.2.1)&&No (aa q<4))||!(qt q))with
  |true=>rw[hc]at h;cases h
  |false=>
   rw[hc]at h;simp only[bu]at h;split at h;rename_i n c;cases h;rw[zQ];have hd:∀s∈pf b q,s.1.1=b.1:=λs hs=>by let ⟨i,_,e⟩:=xw hs;rw[e];rfl
   by_cases e:b=a;subst e;rw[hp]at j;cases j;have z:=bM6 (f:=f) (a:=b) hp hl.2 c;rw[cc (λhm=>by have:=hl.1 _ hm;omega)]at z;rw[z,ns (f:=λs=>ite (s.1.1=b.1) (f s) 0) (g:=f) (l:=pf b p) (λs hs=>cr (hd s hs))];omega;have d:a∈l:=by
    rcases aF.1 ha with h|h
    exact(e h.symm).elim;exact h
   rw[NP f hp hl.2 (λb k=>hu b (by simp[k])) c d,uq (l:=pf b q) (λs hs=>cc (λm=>e (hu b (by simp) (by rw[<-hd s hs];exact m))))];omega;cases h
def bS4(a:ct)(p0:bs)(l:eY):gg (pf a (p0::l)) (λs=>zj (hi s) (gl s))=oZ p0 l:=by unfold pf;rw[DY,<-as8];exact ns λi _=>rfl
def af5(al:gp)(ag:hI):∀c:eD,l5 al ag c=gg c (vi al ag)
 | []=>rfl
 |d::c=>by show vi al ag d+l5 al ag c=_;rw[af5 al ag c];rfl
def Qe(x:Int)(v:Int):∀ {c:eD},c.Nodup->gg c (λd=>ite (x=d) v 0)=if x∈c then v else 0
 | [],_=>by simp[gg]
 |a::c,f=>by rw[cx]at f;have g:=Qe x v f.2;simp only[gg,g];by_cases e:x=a;subst e;rw[cr rfl,cc f.1,cr (aU ..)];omega;rw[cc e];by_cases b:x∈c;rw[cr b,cr (bp _ b)];omega;rw[cc b,cc (by simp[e,b])];rfl
namespace fp
variable {al:gp} {ag:hI} {fs:eD} (h:fp al ag fs)
variable {r:cu fy} (hr:zb al ag ag=Z r)
include h
theorem ap7(F:Net.pJ fy->Int):gg ((m8 r).hY (h.j8 hr)).og F=gg r (λs=>F (nA s)+F (nz s)):=by rw[Net.D9];refine ns λs _=>?_;unfold nA nz;cases(m8 []).fwd s;show F (s,Y)+F (s,U)=F (s,U)+F (s,Y);omega;rfl
theorem bg1{d:Int}(hd:d∈ny al ag):gg ((m8 r).hY (h.j8 hr)).og (λk=>ite (qw k=d) (((m8 r).hY (h.j8 hr)).vV k) 0)=vi al ag d:=by
 rw[h.ap7 hr];have d1:∀s,qw (nA s)=s.1.1:=λs=>by unfold qw;rw[cr (xJ s)];rfl
 have d2:∀s,qw (nz s)=- s.1.1:=λs=>by unfold qw;rw[cc (by rw[wN];simp)];rfl
 have c1:∀s,((m8 r).hY (h.j8 hr)).vV (nA s)=zj (hi s) (gl s):=λs=>by unfold Net.vV;rw[Ad,Gx];rfl
 have c2:∀s,((m8 r).hY (h.j8 hr)).vV (nz s)=- zj (hi s) (gl s):=λs=>by unfold Net.vV zj;rw[Al,GG];omega
 have pos:∀s∈r,0<s.1.1:=λs hs=>by let ⟨a,p,i,o⟩:=h.q_ hr hs;have:=h.um o.nM;rw[o.eq];exact this
 let ⟨a,ha,c⟩:=h.uP.1 hd;let ⟨f,t,_,_,g,_⟩:=h.path ha;have hp:=h.um ha;have j:=NP (λs=>zj (hi s) (gl s)) g (pq h.rX) (λb l e=>h.Bg l ha e) hr ha;rw[bS4]at j;rcases c with rfl|rfl
 have e:gg r (λs=>(ite (qw (nA s)=a.1) (((m8 r).hY (h.j8 hr)).vV (nA s)) 0)+(ite (qw (nz s)=a.1) (((m8 r).hY (h.j8 hr)).vV (nz s)) 0))=gg r (λs=>ite (s.1.1=a.1) (zj (hi s) (gl s)) 0):=by refine ns λs hs=>?_;have:=pos s hs;rw[d1,d2,c1,cc (show ¬-s.1.1=a.1 by omega),eU]
 rw[e,j];unfold vi;rw[show la a.1=a.1 by unfold la;omega,g];simp only;rw[cc (by omega)];have e:gg r (λs=>(ite (qw (nA s)=-a.1) (((m8 r).hY (h.j8 hr)).vV (nA s)) 0)+(ite (qw (nz s)=-a.1) (((m8 r).hY (h.j8 hr)).vV (nz s)) 0))=- gg r (λs=>ite (s.1.1=a.1) (zj (hi s) (gl s)) 0):=by rw[<-GC];refine ns λs hs=>?_;have:=pos s hs;rw[d1,d2,c2,cc (show ¬s.1.1=-a.1 by omega),gR];by_cases q:s.1.1=a.1;rw[cr q,cr (by omega)];rw[cc q,cc (by omega)];rfl
 rw[e,j];unfold vi;rw[show la (-a.1)=a.1 by unfold la;omega,g];simp only;rw[cr (by omega)]
theorem QK{c:eD}(hc:c∈l9 al ag):Net.tN (h.tw hr) c=l5 al ag c:=by
 have g:c.Nodup:=(d_.1 h.xF.1.nodup).1 c hc;have mem:∀k,k∈((m8 r).hY (h.j8 hr)).og↔k.1∈r:=λk=>Net.Gf;rw[af5];have i:gg c (vi al ag)=gg c (λd=>gg ((m8 r).hY (h.j8 hr)).og (λk=>ite (qw k=d) (((m8 r).hY (h.j8 hr)).vV k) 0)) :=ns λd hd=>(h.bg1 hr (h.zS hc hd)).symm;rw[i,J2];unfold Net.tN;refine ns λk hk=>?_;rw[Qe _ _ g];have f:=(h.yV hr ((mem k).1 hk)).1;by_cases b:qw k∈c;have a:(h.tw hr).c k=c:=h.Iu hc b;rw[cr b,cr a];have a:¬(h.tw hr).c k=c:=λe=>b (by
  have j:wh al ag (qw k)=c:=e;rw[<-j];exact(h.zT f).2)
 rw[cc b,cc a]
end fp
end Go.Ab
namespace Go.Ab
open Go Go.Pg
def oN(g:bs->bs->Int):bs->eY->Int
 |_,[]=>0
 |p,q::r=>g p q+oN g q r
def Xo(g:bs->bs->Int):∀(l:eY) (p:bs),gg (aQ (aa l)) (λi=>g (((p::l)[i]?).getD (0,0)) (((p::l)[i+1]?).getD (0,0)))=oN g p l
 | [],p=>rfl
 |q::l,p=>by have a:=Xo g l q;rw[aC,gI];simp only[gg,DY];have b:∀i:Nat,(p::q::l)[kZ i+1]?=(q::l)[i+1]?:=λi=>rfl;have c:∀i:Nat,(p::q::l)[kZ i]?=(q::l)[i]?:=λi=>rfl;simp only[b,c];rw[a];rfl
def cd4(g:bs->bs->Int)(a:ct)(p0:bs)(l:eY):gg (pf a (p0::l)) (λs=>g (hi s) (gl s))=oN g p0 l:=by unfold pf;rw[DY,<-Xo];exact ns λi _=>rfl
def pg(at' a b:bs):Bool:=(No (a.2<=at'.2)&&(No (at'.2<b.2)&&No (0<l7 a b at')))||(No (b.2<=at'.2)&&(No (at'.2<a.2)&&No (l7 a b at'<0)))
def nG(at' a b:bs):Int:=ite (pg at' a b=Y) 1 0
def qa(at':bs):bs->eY->Bool
 |_,[]=>U
 |p,q::r=>n' p q at'||qa at' q r
def WV(at':bs):∀(l:eY) (p:bs) (st:Bool×Bool),(vj at' p l st).2=(st.2||qa at' p l)/\(qa at' p l=U->∀n:Int,st.1=No (n%2=1)->(vj at' p l st).1=No ((n+oN (nG at') p l)%2=1))
 | [],p,st=>⟨by simp[vj,qa],λ_ n a=>by simpa[vj,oN]using a⟩
 |q::l,p,st=>by
  let ⟨i1,i2⟩:=WV at' l q (w5 at' st p q);show(vj at' q l (w5 at' st p q)).2=(st.2||(n' p q at'||qa at' q l))/\((n' p q at'||qa at' q l)=U->∀n:Int,st.1=No (n%2=1)->(vj at' q l (w5 at' st p q)).1=No ((n+(nG at' p q+oN (nG at') q l))%2=1));cases ho:n' p q at' with
  |true=>
   have e:w5 at' st p q=(st.1,Y):=by unfold w5;rw[ho];rfl
   rw[e]at i1⊢;refine⟨by rw[i1];simp,λh=>by simp at h⟩
  |false=>
   have e:w5 at' st p q=bif pg at' p q then(!st.1,st.2)else st:=by unfold w5;rw[ho];rfl
   have b:(w5 at' st p q).2=st.2:=by rw[e];cases pg at' p q<;>rfl
   refine⟨by rw[i1,b];simp,λh n a=>?_⟩;have h':qa at' q l=U:=by simpa using h
   have d:(w5 at' st p q).1=No ((n+nG at' p q)%2=1):=by
    rw[e];unfold nG;cases pg at' p q with
    |false=>simpa using a
    |true=>
     show(!st.1)=No ((n+1)%2=1);rw[a];by_cases c:n%2=1;have:¬(n+1)%2=1:=by omega
     simp[c,this];have:(n+1)%2=1:=by omega
     simp[c,this]
   rw[i2 h' (n+nG at' p q) d];exact decide_eq_decide.2 (by rw[show n+(nG at' p q+oN (nG at') q l)=n+nG at' p q+oN (nG at') q l by omega])
def pY(at':bs):eY->Int
 | []=>0
 |p::l=>oN (nG at') p l
def pB(at':bs):eY->Bool
 | []=>U
 |p::l=>qa at' p l
def bZ2(at':bs)(l:eY)(st:Bool×Bool):(y7 at' l st).2=(st.2||pB at' l)/\(pB at' l=U->∀n:Int,st.1=No (n%2=1)->(y7 at' l st).1=No ((n+pY at' l)%2=1)):=by cases l;exact⟨by simp[y7,pB],λ_ n a=>by simpa[y7,pY]using a⟩;rename_i p l;exact WV at' l p st
def WY(m:cu (Int×eY))(at':bs):∀(c:eD) (st:Bool×Bool),(tn m at' c st).2=(st.2||c.any λd=>pB at' ((fh gd (la d) m).getD [])) /\
  ((∀d∈c,pB at' ((fh gd (la d) m).getD [])=U)->∀n:Int,st.1=No (n%2=1)->(tn m at' c st).1=No ((n+gg c λd=>pY at' ((fh gd (la d) m).getD []))%2=1))
 | [],st=>⟨by simp[tn],λ_ n a=>by simpa[tn,gg]using a⟩
 |d::c,st=>by let ⟨q5,nj⟩:=bZ2 at' ((fh gd (la d) m).getD []) st;let ⟨i1,i2⟩:=WY m at' c (y7 at' ((fh gd (la d) m).getD []) st);refine⟨?_,λa n h=>?_⟩;show(tn m at' c (y7 at' ((fh gd (la d) m).getD []) st)).2=_;rw[i1,q5,dD,ma];show(tn m at' c (y7 at' ((fh gd (la d) m).getD []) st)).1=_;rw[i2 (λe he=>a e (by simp[he])) _ (nj (a d (by simp)) n h)];exact decide_eq_decide.2 (by simp only[gg];rw[iq])
def FU(m:cu (Int×eY))(at':bs)(c:eD):nF m c at'=Y↔(∀d∈c,pB at' ((fh gd (la d) m).getD [])=U)/\(gg c λd=>pY at' ((fh gd (la d) m).getD []))%2=1:=by
 let ⟨h1,h2⟩:=WY m at' c (U,U);unfold nF;by_cases a:∀d∈c,pB at' ((fh gd (la d) m).getD [])=U;have f:=h2 a 0 (by simp);have e:(tn m at' c (U,U)).2=U:=by rw[h1,db];exact bc.2 λd hd=>by rw[a d hd];simp
 rw[f,e,gR];constructor;intro h;refine⟨a,?_⟩;by_cases q:(gg c λd=>pY at' ((fh gd (la d) m).getD []))%2=1;exact q;rw[ft q]at h;cases h;rintro ⟨_,h⟩;rw[hT h];rfl;have e:(tn m at' c (U,U)).2=Y:=by rw[h1,db,dz];have:∃d,d∈c/\¬pB at' ((fh gd (la d) m).getD [])=U:=fV λh=>a λd hd=>fV λh'=>h ⟨d,hd,h'⟩;let ⟨d,hd,h⟩:=this;exact⟨d,hd,by simpa using h⟩
 rw[e];constructor;intro h;exfalso;generalize(tn m at' c (U,U)).1=b at h;cases b<;>simp at h;rintro ⟨h,_⟩;exact(a h).elim
def ca0{a b p:bs}(ha:d' a=Y)(c:d' b=Y)(hp:d' p=Y):(0<l7 a b p↔0<fr a b p)/\(l7 a b p<0↔fr a b p<0):=by unfold l7;rw[Ft ha c hp];constructor<;>(repeat' split)<;>omega
namespace q6
variable {ι:Type} (F:q6 ι) (dC:F.Ok)
include dC
theorem ay7(x k:Int):Net.nK.yn (F.hY dC) k (λt=>(F.hY dC).eS t k/\(F.hY dC).X t k<(F.hY dC).M*x):=by
 refine⟨λt _ h=>h.1,λt b s hs h hc a=>⟨hc,?_⟩⟩;have c:=F.w8 dC;rcases Int.lt_or_le ((F.hY dC).X t k) ((F.hY dC).X s k)with q|q
 have:=c.fr t b s hs k h.1 hc q;unfold Net.key at a;omega;have:=h.2;omega
theorem bk9{e:ι}(he:e∈F.E){at':bs}(c:d' at'=Y):pg at' (F.src e) (F.dst e)=Y↔(F.hY dC).eS e at'.2/\(F.hY dC).M*at'.1<(F.hY dC).X e at'.2:=by
 have o:=y_ dC he;have b:=pO dC he;have core:(F.b7 e).2<=at'.2->at'.2<(F.a7 e).2->(0<l7 (F.b7 e) (F.a7 e) at'↔(F.hY dC).M*at'.1<(F.hY dC).X e at'.2):=λh1 h2=>by rw[(ca0 b.1 b.2 c).1];exact(xu (F.hY dC).p7 (show(F.b7 e).2<(F.a7 e).2 by omega) ((F.hY dC).AB e he (show(F.b7 e).2<(F.a7 e).2 by omega))).1
 have key:pg at' (F.src e) (F.dst e)=Y↔((F.b7 e).2<=at'.2/\at'.2<(F.a7 e).2/\0<l7 (F.b7 e) (F.a7 e) at'):=by unfold pg;unfold b7 a7 at *;cases hf:F.fwd e;rw[hf]at o;simp only[bu]at o⊢;rw[Nv (F.src e) (F.dst e) at'];simp only[bz,ab,kA];constructor;rintro (h|h)<;>omega;intro h;right;omega;rw[hf]at o;simp only[b6]at o⊢;simp only[bz,ab,kA];constructor;rintro (h|h)<;>omega;intro h;left;omega
 rw[key];constructor;rintro ⟨h1,h2,a⟩;exact⟨⟨h1,h2⟩,(core h1 h2).1 a⟩;rintro ⟨⟨h1,h2⟩,a⟩;exact⟨h1,h2,(core h1 h2).2 a⟩
theorem aS9(a b p:bs):n' b a p=n' a b p:=by
 unfold n';have c:(d' b&&d' a&&d' p)=(d' a&&d' b&&d' p):=by cases d' a<;>cases d' b<;>rfl
 have d:No (fr b a p=0)=No (fr a b p=0):=by rw[I6];exact decide_eq_decide.2 (by omega)
 have e:sU b a p=sU a b p:=by unfold sU;rw[jE b.1,jF b.1,jE b.2,jF b.2]
 rw[c,d,e]
theorem bq8{e:ι}(he:e∈F.E){at':bs}(h:d' at'=Y)(ho:n' (F.src e) (F.dst e) at'=U)(hc:(F.hY dC).eS e at'.2):(F.hY dC).X e at'.2≠(F.hY dC).M*at'.1:=by
 intro d;have hu:(F.b7 e).2<(F.a7 e).2:=Int.lt_of_le_of_lt hc.1 hc.2;have h1:(F.b7 e).2<=at'.2:=hc.1;have h2:at'.2<(F.a7 e).2:=hc.2;have f:=pO dC he;have a:=F.H6 dC he hu h1 (by omega);have g:=F.Cg F.E;have b:(F.hY dC).X e at'.2=F.prod F.E*at'.1:=d;rw[b]at a;have j:=eJ a.1 g;have k:=eJ a.2 g;have hs:=xu (p:=at') (F.hY dC).p7 hu ((F.hY dC).AB e he hu);have i:pe (F.hY dC).M ((F.hY dC).s e) (F.b7 e) at'.2=(F.hY dC).M*at'.1:=d;have hz:fr (F.b7 e) (F.a7 e) at'=0:=by
  have s1:¬ 0<fr (F.b7 e) (F.a7 e) at':=λq=>by have:=hs.1.1 q;omega
  have s2:¬fr (F.b7 e) (F.a7 e) at'<0:=λq=>by have:=hs.2.1 q;omega
  omega
 have on:n' (F.b7 e) (F.a7 e) at'=Y:=by unfold n' sU;simp only[f.1,f.2,h,hz,bw,bY,l6,ab,kA];omega
 have c:n' (F.b7 e) (F.a7 e) at'=n' (F.src e) (F.dst e) at':=by unfold b7 a7;cases F.fwd e;exact aS9 F dC _ _ _;rfl
 rw[c,ho]at on;cases on
end q6
open Classical
def ah1(at':bs):∀(l:eY) (p:bs),qa at' p l=U->∀(i:Nat) (x y:bs),(p::l)[i]?=Z x->(p::l)[i+1]?=Z y->n' x y at'=U
 | [],p,_,i,x,y,_,h2=>by simp at h2
 |q::l,p,h,i,x,y,h1,h2=>by
  have h':(n' p q at'||qa at' q l)=U:=h;rw[cL]at h';cases i;have a:p=x:=by simpa using h1
  have b:q=y:=by simpa using h2
  rw[<-a,<-b];exact h'.1;rename_i i;exact ah1 at' l q h'.2 i x y h1 h2
namespace fp
variable {al:gp} {ag:hI} {fs:eD} (h:fp al ag fs)
variable {r:cu fy} (hr:zb al ag ag=Z r)
include h
theorem bg2(at':bs){d:Int}(hd:d∈ny al ag){p:eY}(hp:pathOf al ag (la d)=Z p):gg ((m8 r).hY (h.j8 hr)).og (λk=>ite (qw k=d) (nG at' (hi k.1) (gl k.1)) 0)=pY at' p:=by
 rw[h.ap7 hr];have d1:∀s,qw (nA s)=s.1.1:=λs=>by unfold qw;rw[cr (xJ s)];rfl
 have d2:∀s,qw (nz s)=- s.1.1:=λs=>by unfold qw;rw[cc (by rw[wN];simp)];rfl
 have pos:∀s∈r,0<s.1.1:=λs hs=>by let ⟨a,p,i,o⟩:=h.q_ hr hs;have:=h.um o.nM;rw[o.eq];exact this
 let ⟨a,ha,c⟩:=h.uP.1 hd;let ⟨f,t,_,_,g,_⟩:=h.path ha;have n:=h.um ha;have j:=NP (λs=>nG at' (hi s) (gl s)) g (pq h.rX) (λb l e=>h.Bg l ha e) hr ha;rw[cd4]at j;have m:la d=a.1:=by unfold la;omega
 rw[m,g]at hp;cases hp;show _=oN (nG at') _ _;rw[<-j];refine ns λs hs=>?_;have:=pos s hs;rw[d1,d2];show(ite (s.1.1=d) (nG at' (hi s) (gl s)) 0)+(ite (- s.1.1=d) (nG at' (hi s) (gl s)) 0)=_;rcases c with rfl|rfl
 rw[cc (show ¬-s.1.1=a.1 by omega),eU];rw[cc (show ¬s.1.1=-a.1 by omega),gR];by_cases q:s.1.1=a.1;rw[cr q,cr (by omega)];rw[cc q,cc (by omega)]
theorem bf7(at':bs){m:cu (Int×eY)}(hm:∀a∈ag,fh gd a.1 m=pathOf al ag a.1){c:eD}(hc:c∈l9 al ag) :
  (gg c λd=>pY at' ((fh gd (la d) m).getD []))=gg ((m8 r).hY (h.j8 hr)).og (λk=>ite ((h.tw hr).c k=c) (nG at' (hi k.1) (gl k.1)) 0):=by
 have o:c.Nodup:=(d_.1 h.xF.1.nodup).1 c hc;have mem:∀k,k∈((m8 r).hY (h.j8 hr)).og↔k.1∈r:=λk=>Net.Gf;have p:(gg c λd=>pY at' ((fh gd (la d) m).getD []))=gg c (λd=>gg ((m8 r).hY (h.j8 hr)).og (λk=>ite (qw k=d) (nG at' (hi k.1) (gl k.1)) 0)):=by
  refine ns λd hd=>?_;have g:=h.zS hc hd;let ⟨a,ha,e⟩:=h.uP.1 g;have s:=h.um ha;have l:la d=a.1:=by unfold la;omega
  let ⟨f,t,_,_,n,_⟩:=h.path ha;rw[l,hm a ha,n];exact(h.bg2 hr at' g (by rw[l];exact n)).symm
 rw[p,J2];refine ns λk hk=>?_;rw[Qe _ _ o];have j:=(h.yV hr ((mem k).1 hk)).1;by_cases i:qw k∈c;have b:(h.tw hr).c k=c:=h.Iu hc i;rw[cr i,cr b];have b:¬(h.tw hr).c k=c:=λe=>i (by
  have q:wh al ag (qw k)=c:=e;rw[<-q];exact(h.zT j).2)
 rw[cc i,cc b]
theorem Ve(at':bs){m:cu (Int×eY)}(hm:∀a∈ag,fh gd a.1 m=pathOf al ag a.1){c:eD}(hc:c∈l9 al ag)(hoff:∀d∈c,pB at' ((fh gd (la d) m).getD [])=U){k:Net.pJ fy}(hk:k.1∈r)(b:(h.tw hr).c k=c):n' (hi k.1) (gl k.1) at'=U:=by
 have e:=(h.yV hr hk).1;have f:wh al ag (qw k)=c:=b;have g:qw k∈c:=by rw[<-f];exact(h.zT e).2
 let ⟨a,p,i,o⟩:=h.q_ hr hk;have s:=h.um o.nM;have j:k.1.1.1=a.1:=by rw[o.eq];rfl
 have n:la (qw k)=a.1:=by unfold la qw;rw[j];split<;>omega
 have h1:=hoff _ g;rw[n,hm a o.nM,o.path]at h1;have h2:=o.rO;have q:=o.se;cases p;simp at h2;rename_i p0 l;exact ah1 at' l p0 h1 i _ _ h2 q
end fp
namespace fp
variable {al:gp} {ag:hI} {fs:eD} (h:fp al ag fs)
variable {r:cu fy} (hr:zb al ag ag=Z r)
include h
theorem MU{at':bs}(n:d' at'=Y){m:cu (Int×eY)}(hm:∀a∈ag,fh gd a.1 m=pathOf al ag a.1){c:eD}(hc:c∈l9 al ag)(hoff:∀d∈c,pB at' ((fh gd (la d) m).getD [])=U) :
  nF m c at'=Y↔(h.tw hr).qg c (λt=>((m8 r).hY (h.j8 hr)).eS t at'.2/\((m8 r).hY (h.j8 hr)).X t at'.2<((m8 r).hY (h.j8 hr)).M*at'.1)%2=1:=by
 have dC:=h.j8 hr;rw[FU,h.bf7 hr at' hm hc];have l:=Net.aq1 (N:=(m8 r).hY (h.j8 hr)) ((h.tw hr).ux c) at'.2;have g:gg r (λe=>ite (((m8 r).hY (h.j8 hr)).eS e at'.2) ((h.tw hr).mv c e) 0)=gg r (λe=>ite (((m8 r).hY (h.j8 hr)).eS e at'.2/\((m8 r).hY (h.j8 hr)).X e at'.2<((m8 r).hY (h.j8 hr)).M*at'.1) ((h.tw hr).mv c e) 0)+gg r (λe=>nG at' (hi e) (gl e)*(h.tw hr).mv c e):=by
  rw[<-ss];refine ns λe he=>?_;have o:=(m8 r).bk9 dC he n;have f:pg at' (hi e) (gl e)=Y↔_:=o;unfold nG;by_cases eS:((m8 r).hY (h.j8 hr)).eS e at'.2;rw[cr eS];rcases Int.lt_trichotomy (((m8 r).hY (h.j8 hr)).X e at'.2) (((m8 r).hY (h.j8 hr)).M*at'.1)with x|x|x
  rw[cr ⟨eS,x⟩,cc (λq=>by have:=(f.1 q).2;omega)];omega;have z:(h.tw hr).mv c e=0:=by refine(h.tw hr).Bw λb p=>?_;have ho:=h.Ve hr at' hm hc hoff (k:=(e,b)) he p;exact(m8 r).bq8 dC he n ho eS x
  rw[z];simp;rw[cc (λq=>by have:=q.2;omega),cr (f.2 ⟨eS,x⟩)];omega;rw[cc eS,cc (eS ·.1),cc (λq=>eS (f.1 q).1)];omega
 have i:gg ((m8 r).hY (h.j8 hr)).og (λk=>ite ((h.tw hr).c k=c) (nG at' (hi k.1) (gl k.1)) 0)=gg r (λe=>nG at' (hi e) (gl e)*(h.tw hr).mv c e)+2*gg r (λe=>ite ((h.tw hr).c (e,Y)=c) (nG at' (hi e) (gl e)) 0):=by rw[Net.D9,<-JQ,<-ss];refine ns λe he=>?_;show(ite ((h.tw hr).c (e,Y)=c) (nG at' (hi e) (gl e)) 0)+(ite ((h.tw hr).c (e,U)=c) (nG at' (hi e) (gl e)) 0)=_;unfold Net.nK.mv ind;generalize nG at' (hi e) (gl e)=v;by_cases fa:(h.tw hr).c (e,Y)=c<;>by_cases gb:(h.tw hr).c (e,U)=c;simp only[cr fa,cr gb];omega;simp only[cr fa,cc gb];omega;simp only[cc fa,cr gb];omega;simp only[cc fa,cc gb];omega
 have j:gg r (λe=>ite (((m8 r).hY (h.j8 hr)).eS e at'.2) ((h.tw hr).mv c e) 0)=0:=by refine mD (ns λe he=>?_) l;by_cases q:((m8 r).hY (h.j8 hr)).eS e at'.2;simp only[cr q];simp only[cc q]
 have hs:(h.tw hr).qg c (λt=>((m8 r).hY (h.j8 hr)).eS t at'.2/\((m8 r).hY (h.j8 hr)).X t at'.2<((m8 r).hY (h.j8 hr)).M*at'.1)=gg r (λe=>ite (((m8 r).hY (h.j8 hr)).eS e at'.2/\((m8 r).hY (h.j8 hr)).X e at'.2<((m8 r).hY (h.j8 hr)).M*at'.1) ((h.tw hr).mv c e) 0):=by unfold Net.nK.qg;refine ns λe he=>?_;by_cases q:((m8 r).hY (h.j8 hr)).eS e at'.2/\((m8 r).hY (h.j8 hr)).X e at'.2<((m8 r).hY (h.j8 hr)).M*at'.1;simp only[cr q];simp only[cc q]
 rw[hs,i];rw[j]at g;constructor;rintro ⟨_,q⟩;omega;intro q;exact⟨hoff,by omega⟩
end fp
namespace fp
variable {al:gp} {ag:hI} {fs:eD} (h:fp al ag fs)
variable {r:cu fy} (hr:zb al ag ag=Z r)
include h
theorem Dg{c:eD}(hc:c∈l9 al ag):∃d,d∈c:=by obtain⟨e,m,he,hm,_,rfl⟩:=h.xF.1.y5 c hc;exact⟨_,td.2 ⟨0,hm,rfl⟩⟩
theorem outer{c:eD}(hc:c∈l9 al ag)(ha:0<l5 al ag c){d:Int}(hd:d∈c):(h.tw hr).Bb c (va al ag d):=by refine(h.tw hr).bE2 ((m8 r).w8 (h.j8 hr)) ?_ (h.VS hr hc hd) ?_;exact h.MY (h.zS hc hd) hr;rw[h.QK hr hc];exact ha
theorem MT{at':bs}(b:d' at'=Y){m:cu (Int×eY)}(hm:∀a∈ag,fh gd a.1 m=pathOf al ag a.1){c:eD}(hc:c∈l9 al ag)(ha:0<l5 al ag c)(he:nF m c at'=Y) :
  (h.tw hr).qg c (λt=>((m8 r).hY (h.j8 hr)).eS t at'.2/\((m8 r).hY (h.j8 hr)).X t at'.2<((m8 r).hY (h.j8 hr)).M*at'.1)=1:=by
 let ⟨d,hd⟩:=h.Dg hc;have ho:=h.outer hr hc ha hd;have e:=(m8 r).ay7 (h.j8 hr) at'.1 at'.2;have h1:=(h.MU hr b hm hc ((FU m at' c).1 he).1).1 he;rcases(h.tw hr).OW ((m8 r).w8 (h.j8 hr)) ho e with q|q
 omega;exact q
theorem bh6{at':bs}(k:d' at'=Y){m:cu (Int×eY)}(hm:∀a∈ag,fh gd a.1 m=pathOf al ag a.1){c e:eD}(hc:c∈l9 al ag)(b:e∈l9 al ag)(g:c≠e)(ha:0<l5 al ag c)(f:0<l5 al ag e)
  (he:nF m c at'=Y) (i:nF m e at'=Y):l5 al ag c≠l5 al ag e:=by
 let ⟨d,hd⟩:=h.Dg hc;let ⟨l,j⟩:=h.Dg b;let ⟨r,hr⟩:=h.j7;have h1:=h.MT hr k hm hc ha he;have h2:=h.MT hr k hm b f i;have:=(h.tw hr).bd9 ((m8 r).w8 (h.j8 hr)) (h.outer hr hc ha hd) (h.outer hr b f j) g ((m8 r).ay7 (h.j8 hr) at'.1 at'.2) h1 h2;rw[h.QK hr hc,h.QK hr b]at this;exact this
end fp
namespace fp
variable {al:gp} {ag:hI} {fs:eD} (h:fp al ag fs)
variable {r:cu fy} (hr:zb al ag ag=Z r)
include h
theorem bg0:(l9 al ag).Nodup:=by have hp:=(d_.1 h.xF.1.nodup).2;refine hp.imp_of_mem λ{c f} hc b hd e=>?_;let ⟨d,a⟩:=h.Dg hc;exact hd d a d (e▸a) rfl
end fp
namespace fp
variable {al:gp} {ag:hI} {fs:eD} (h:fp al ag fs)
variable {r:cu fy} (hr:zb al ag ag=Z r)
include h
omit h in
theorem aM5(k:Net.pJ fy):qw (Net.rev k)=- qw k:=by grind[qw,nA,xJ,nz,wN,xG,QR,Ll]
theorem bf2{n:b9}(a:n∈al){e d:Int}(he:e∈kc al ag n)(b:d∈kc al ag n):(h.tw hr).qX (va al ag e) (va al ag d):=by
 have prec:∀x∈kc al ag n,(h.tw hr).qX (va al ag x) (va al ag (qn (kc al ag n) x)):=λx c=>by have hm:=(h.tO hr a c).1;have hd:x∈ny al ag:=bU.2 ⟨_,aN a,c⟩;have h2:=(h.Fl hr (k:=Net.rev (va al ag x)) hm).2;rw[aM5,h.BD hd,h.Ap a c]at h2;exact Net.nK.oc _ (.rev (.refl _)) h2
 have all:∀(i:Nat) (a7:i<aa (kc al ag n)),(h.tw hr).qX (va al ag (kc al ag n)[i]) (va al ag ((kc al ag n)[0]'(by omega))):=by
  intro i
  induction i with
  |zero=>intro a7;exact .refl _
  |succ i f=>
   intro a7;have h1:=prec _ (aA a7);have g:(i+1+aa (kc al ag n)-1)%aa (kc al ag n)=i:=by grind[kc,gv,cY]
   rw[Gt (h.E7 a) a7]at h1;simp only[g]at h1;exact Net.nK.oc _ h1 (f (by omega))
 obtain⟨i,a7,rfl⟩:=a_ he;obtain⟨j,hj,rfl⟩:=a_ b;exact Net.nK.oc _ (all i a7) (Net.nK.xC _ (all j hj))
theorem Ox{n:b9}(d:n∈al){e:Int}(he:e∈kc al ag n){c:eD}(z:∀k:Net.pJ fy,k.1∈r->((m8 r).hY (h.j8 hr)).src k=n.2->(h.tw hr).mv c k.1=0) :
  ((m8 r).hY (h.j8 hr)).L ((h.tw hr).mv c) (va al ag e)=(h.tw hr).qg c (λt=>((m8 r).hY (h.j8 hr)).eS t n.2.2/\((m8 r).hY (h.j8 hr)).X t n.2.2<((m8 r).hY (h.j8 hr)).M*n.2.1):=by
 have f:=(m8 r).w8 (h.j8 hr);have hd:=(h.tw hr).ux c;have ha:=h.Mp hr d;obtain⟨i,a7,rfl⟩:=a_ he;have hl:=Net.ED f hd ha (i:=i) (by simpa using a7);rw[cB]at hl;have g:gg (((kc al ag n).map (va al ag)).take (i+1)) (Net.dl ((h.tw hr).mv c))=0:=uq λk hk=>by have:=(ha.mem k).1 (kb hk);have:=z k this.1 this.2;unfold Net.dl;rw[this];cases k.2<;>rfl
 have j:((m8 r).hY (h.j8 hr)).C' ((h.tw hr).mv c) n.2=0:=uq λt b=>by split;rename_i q;exact z (t,U) b q.2;rfl
 have l:((m8 r).hY (h.j8 hr)).Bi ((h.tw hr).mv c) n.2=0:=uq λt b=>by split;rename_i q;exact z (t,U) b q.2;rfl
 have a:((m8 r).hY (h.j8 hr)).L2 n.2:=by
  have:=h.tO hr d (aA a7);refine⟨_,this.1,?_⟩;have s:=this.2.1;unfold Net.src at s
  grind[va,kc]
 have li:=Net.line _ hd n.2.2 (((m8 r).hY (h.j8 hr)).M*n.2.1);have ho:=Net.Np f ((h.tw hr).mv c) a;have m:((m8 r).hY (h.j8 hr)).uG ((h.tw hr).mv c) n.2.2 (((m8 r).hY (h.j8 hr)).M*n.2.1)=0:=by rw[<-l];exact ho
 rw[hl,g,j];have o:((m8 r).hY (h.j8 hr)).vK ((h.tw hr).mv c) n.2.2 (((m8 r).hY (h.j8 hr)).M*n.2.1)=(h.tw hr).qg c (λt=>((m8 r).hY (h.j8 hr)).eS t n.2.2/\((m8 r).hY (h.j8 hr)).X t n.2.2<((m8 r).hY (h.j8 hr)).M*n.2.1):=by
  unfold Net.vK Net.nK.qg
  grind[m8]
 grind[m8]
theorem OJ{n:b9}{m:cu (Int×eY)}(hm:∀a∈ag,fh gd a.1 m=pathOf al ag a.1){c:eD}(hc:c∈l9 al ag)(hoff:∀d∈c,pB n.2 ((fh gd (la d) m).getD [])=U) :
  ∀k:Net.pJ fy,k.1∈r->((m8 r).hY (h.j8 hr)).src k=n.2->∀b,(h.tw hr).c (k.1,b)≠c:=by
 intro k hk hs b f;have h1:=h.Ve hr n.2 hm hc hoff (k:=(k.1,b)) hk f;let ⟨a,p,i,o⟩:=h.q_ hr hk;let ⟨g,rI⟩:=h.vp o;have e:n.2=hi k.1\/n.2=gl k.1:=by rw[<-hs];rcases xG k with q|q<;>grind[xG,left,Ad,Al]
 grind[QU]
omit h in
theorem OU(at':bs):∀(l:eY) (p:bs),(∀(i:Nat) (x y:bs),(p::l)[i]?=Z x->(p::l)[i+1]?=Z y->n' x y at'=U)->qa at' p l=U
 | [],p,_=>rfl
 |q::l,p,a=>by unfold qa;rw[a 0 p q rfl rfl,OU at' l q λi x y b c=>a (i+1) x y (by simpa using b) (by simpa using c)];rfl
theorem Xl{n:b9}(b:n∈al){e:Int}(he:e∈kc al ag n){m:cu (Int×eY)}(hm:∀a∈ag,fh gd a.1 m=pathOf al ag a.1){c:eD}(hc:c∈l9 al ag)(j:∀d∈c,¬(h.tw hr).qX (va al ag d) (va al ag e)) :
  ∀d∈c,pB n.2 ((fh gd (la d) m).getD [])=U:=by
 intro d hd;let ⟨a,ha,p,hp,s⟩:=h.FI (h.zS hc hd);have v:=h.um ha;have z:la d=a.1:=by grind[la]
 rw[z,hm a ha,hp];cases p;rfl;rename_i p0 l;refine OU _ l p0 λi x y B C=>?_;cases ho:n' x y n.2 with
 |false=>rfl
 |true=>
  exfalso;have a7:i+1<aa (p0::l):=by grind[cU,bA]
  have hs:(rT a (p0::l),(i:Int))∈r:=u5 hr a ha _ hp _ (vM a7);have o:nJ al ag (rT a (p0::l),(i:Int)) a (p0::l) i:=⟨ha,hp,a7,rfl⟩;have D:hi (rT a (p0::l),(i:Int))=x:=aK (o.rO.symm.trans B);have ey:gl (rT a (p0::l),(i:Int))=y:=aK (o.se.symm.trans C);have at':=h.E9 o b (h.free hr hs n b) (by rw[D,ey];exact ho);have fin:∃g∈kc al ag n,(va al ag g).1=(rT a (p0::l),(i:Int)):=by
   rcases at' with⟨q,f,_⟩|⟨q,f,_⟩
   refine⟨a.1,(h.zF b).2 ⟨a,ha,bE ⟨f,rfl⟩⟩,?_⟩;rw[h.BM ha hp,q];rfl;refine⟨-a.1,(h.zF b).2 ⟨a,ha,bq ⟨f,rfl⟩⟩,?_⟩;rw[h.Dv ha hp,show aa (p0::l)-2=i by omega];rfl
  let ⟨g,t,hf⟩:=fin;have c1:=h.bf2 hr b t he;have c2:∃k:Net.pJ fy,k.1=(rT a (p0::l),(i:Int))/\qw k=d:=by
   rcases s with⟨q,_⟩|⟨q,_⟩
   exact⟨nA (rT a (p0::l),(i:Int)),rfl,by unfold qw;rw[xJ,cr rfl];exact q.symm⟩;exact⟨nz (rT a (p0::l),(i:Int)),rfl,by unfold qw;rw[wN,cc (by simp)];exact q.symm⟩
  let ⟨k,hk,u⟩:=c2;have w:=(h.Fl hr (k:=k) (by rw[hk];exact hs)).1;rw[u]at w;have E:(h.tw hr).qX k (va al ag g):=by
   have:=(h.tw hr).rB k.1 k.2 (va al ag g).2
   grind[va]
  exact j d hd (Net.nK.oc _ w (Net.nK.oc _ E c1))
end fp
namespace fp
variable {al:gp} {ag:hI} {fs:eD} (h:fp al ag fs)
variable {r:cu fy} (hr:zb al ag ag=Z r)
include h
theorem bi4{m:cu (Int×eY)}(hm:∀a∈ag,fh gd a.1 m=pathOf al ag a.1){D:eD}(s:D∈l9 al ag):∃d∈D,∃n∈al,∃e∈kc al ag n,rq m D=n.2/\d' (rq m D)=Y/\(h.tw hr).qX (va al ag e) (va al ag d):=by
 let ⟨d1,yG⟩:=h.Dg s;have hd:D.headD 0∈D:=by cases D;simp at yG;rename_i x l;simp
 have i:=h.zS s hd;let ⟨a,ha,p,hp,b⟩:=h.FI i;have t:=h.um ha;have w:la (D.headD 0)=a.1:=by unfold la;rcases b with⟨q,_⟩|⟨q,_⟩<;>omega
 let ⟨⟨n,j,g⟩,_⟩:=h.DQ ha;have hl:=h.Ce ha hp;have o:nJ al ag (rT a p,((0:Nat):Int)) a p 0:=⟨ha,hp,by omega,rfl⟩;have hs:(rT a p,((0:Nat):Int))∈r:=u5 hr a ha p hp _ (vM (by omega));have u:=h.Cn o rfl j g.symm;have v:rq m D=n.2:=by unfold rq;rw[w,hm a ha,hp];have:=o.rO;rw[u]at this;simp only[cw,this]
 refine⟨_,hd,n,j,a.1,(h.zF j).2 ⟨a,ha,bE ⟨g.symm,rfl⟩⟩,v,by rw[v,<-u];exact(h.vp o).1,?_⟩;rw[h.BM ha hp];rcases b with⟨q,f⟩|⟨q,f⟩
 rw[f];exact .refl _;have c:=(h.Fl hr (k:=nz (rT a p,((0:Nat):Int))) hs).1;have z:qw (nz (rT a p,((0:Nat):Int)))=D.headD 0:=by unfold qw;rw[wN,cc (by simp)];exact q.symm
 rw[z]at c;exact Net.nK.oc _ ((h.tw hr).rB _ _ _) (Net.nK.xC _ c)
end fp
def ve(x:kI):Int×eD:=(x.1,x.2.1)
theorem Wb{m:cu (Int×eY)}{at':bs}{L L':cu kI}(c:L.map ve=L'.map ve):∀(r a:cu kI) (i b:Nat),r.map ve=a.map ve->rz m at' L r i b=rz m at' L' a i b
 | [],[],_,_,_=>rfl
 | [],_::_,_,_,h=>by simp at h
 |_::_,[],_,_,h=>by simp at h
 |x::r,y::a,i,b,h=>by
  simp only[aq,bW,ve,fC]at h;have d:xd L b=xd L' b:=by
   have:=Ar (λl=>(l[b]?).map kR) c
   grind[dS,ve,xd]
  simp only[rz];rw[h.1.1,h.1.2,d];exact Wb c r a _ _ (by simpa[ve]using h.2)
def bK5{m:cu (Int×eY)}{L L':cu kI}(a:L.map ve=L'.map ve)(at':bs):oI m L at'=oI m L' at':=by grind[oI,Wb,List.map_tail]
def aS5(L:cu kI)(k:Nat)(c:eD):(oY L k c).map ve=L.map ve:=by
 unfold oY;cases a:L[k]? with
 |none=>rfl
 |some x=>
  simp only[List.map_set];refine e_ λi=>?_;rw[dF];by_cases e:k=i;subst e;have hk:k<aa L:=by grind[cU,bA]
  rw[cr rfl,cr (by simpa using hk),aS,a];rfl;rw[cc e]
def Pd(L:cu kI)(k:Nat)(c:eD)(i:Nat):(oY L k c)[i]?=(L[i]?).map (λx=>(x.1,x.2.1,x.2.2.1++(ite (k=i) [c] []),x.2.2.2)):=by grind[oY,cU,bA]
def aD0{m:cu (Int×eY)}{pL:cu kI}:∀(R:cu eD) (L:cu kI),L.map ve=pL.map ve->∀(k:Nat),(sw m R L)[k]?=(L[k]?).map (λx=>(x.1,x.2.1,x.2.2.1++R.filter (λc=>No (oI m pL (rq m c)=k)),x.2.2.2))
 | [],L,_,k=>by simp[sw]
 |c::R,L,a,k=>by
  have e:=bK5 (m:=m) a (rq m c);simp only[sw];rw[aD0 R _ ((aS5 L _ c).trans a) k,Pd,dS,e]
  grind[bG,oI,rq]
theorem aO2(L:cu kI)(k:Nat)(c:Int)(i:Nat):((p_ L k c)[i]?).map (λx=>(x.1,x.2.1,x.2.2.1))=(L[i]?).map (λx=>(x.1,x.2.1,x.2.2.1)):=by grind[p_,cU,bA]
def at3{al:gp}{ag:hI}{m:cu (Int×eY)}:∀(R:gp) (L:cu kI) (i:Nat),((ru al ag m R L)[i]?).map (λx=>(x.1,x.2.1,x.2.2.1))=(L[i]?).map (λx=>(x.1,x.2.1,x.2.2.1))
 | [],_,_=>rfl
 |n::R,L,i=>by
  simp only[ru];rw[at3 R]
  grind[na,aO2]
def SF(m:cu (Int×eY))(at':bs)(L pre:cu kI)(b:Nat):Prop :=(b=0/\∀x∈pre,nF m x.2.1 at'=U)\/∃y,L[b]?=Z y/\1<=b/\nF m y.2.1 at'=Y/\∀x∈pre,nF m x.2.1 at'=Y->y.1<=x.1
def NF{m:cu (Int×eY)}{at':bs}{L:cu kI}:∀(r:cu kI) (pre:cu kI) (b:Nat),L.tail=pre++r->SF m at' L pre b->SF m at' L (pre++r) (rz m at' L r (aa pre+1) b)
 | [],pre,b,_,h=>by rw[cg];exact h
 |x::r,pre,b,hp,h=>by
  have d:L[aa pre+1]?=Z x:=by rw[<-List.getElem?_tail,hp];simp
  simp only[rz];have e:pre++x::r=(pre++[x])++r:=by simp
  have el:aa pre+1+1=aa (pre++[x])+1:=by simp
  rw[e,el];refine NF r (pre++[x]) _ (hp.trans e) ?_;cases he:nF m x.2.1 at' with
  |false=>
   rw[iz,bu];rcases h with⟨h1,h2⟩|⟨y,h1,h2,c,f⟩
   refine bE ⟨h1,λz hz=>?_⟩
   grind[cq]
   refine bq ⟨y,h1,h2,c,λz hz a=>?_⟩
   grind[cq]
  |true=>
   rw[fg];rcases h with⟨h1,h2⟩|⟨y,h1,h2,c,f⟩
   rw[h1,hT (rfl:(0:Nat)=0),jT,b6];refine bq ⟨x,d,by omega,he,λz hz a=>?_⟩
   grind[cq]
   have g:xd L b=y.1:=by unfold xd;rw[h1];rfl
   rw[g,ft (show ¬b=0 by omega),db];by_cases q:x.1<y.1;rw[hT q,b6];refine bq ⟨x,d,by omega,he,λz hz a=>?_⟩
   grind[cq]
   rw[ft q,bu];refine bq ⟨y,h1,h2,c,λz hz a=>?_⟩
   grind[cq]
def bR7{m:cu (Int×eY)}{at':bs}{L:cu kI}{k:Nat}(hk:oI m L at'=k+1):∃y,L[k+1]?=Z y/\nF m y.2.1 at'=Y/\∀x∈L.tail,nF m x.2.1 at'=Y->y.1<=x.1:=by
 have:=NF (m:=m) (at':=at') (L:=L) L.tail [] 0 rfl (bE ⟨rfl,by simp⟩);rw[bZ,show rz m at' L L.tail (aa ([]:cu kI)+1) 0=k+1 from hk]at this;rcases this with⟨h,_⟩|⟨y,h1,_,h2,a⟩
 omega;exact⟨y,h1,h2,a⟩
end Go.Ab
namespace Go.Ab
open Go Go.Sort Go.Proofs Go.Shelf
set_option maxRecDepth 10000
namespace Dp
def qB(a b c d:bs):Int:=(b.1-a.1)*(d.2-c.2)-(b.2-a.2)*(d.1-c.1)
def Iy(a b c d:bs):Int:=(b.1-a.1)*(d.1-c.1)+(b.2-a.2)*(d.2-c.2)
def BY{a b:bs}(ha:d' a=Y)(c:d' b=Y):(-4194304<=b.1-a.1/\b.1-a.1<=4194304)/\-4194304<=b.2-a.2/\b.2-a.2<=4194304:=by rw[wH]at ha c;omega
theorem yK{a b c d:bs}(ha:d' a=Y)(g:d' b=Y)(hc:d' c=Y)(hd:d' d=Y):we (a,b,c,d)=Z (qB a b c d)/\-35184372088832<=qB a b c d/\qB a b c d<=35184372088832:=by
 let ⟨⟨h,i⟩,j,k⟩:=BY ha g;let ⟨⟨l,m⟩,e,f⟩:=BY hc hd;have m1:=vR h i e f;have m2:=vR j k l m
 grind[we,qB,fx]
theorem bg8{a b c d:bs}(ha:d' a=Y)(g:d' b=Y)(hc:d' c=Y)(hd:d' d=Y):Ic (a,b,c,d)=Z (Iy a b c d):=by
 let ⟨⟨h,i⟩,j,k⟩:=BY ha g;let ⟨⟨l,m⟩,e,f⟩:=BY hc hd;have m1:=vR h i l m;have m2:=vR j k e f
 grind[Ic,Iy,fx]
theorem LL(l:eY)(hl:aa l<2^62):CV l=Z (l.all d'):=by
 unfold CV;refine mP (A:=Unit) l (λi _=>(i:Int)) (λ_ rest=>Z (rest.all d')) (by omega) ?_ ?_ ()
 grind
 intro rec i _ x rest a7 hd a;have:=a ();simp only[fB a7,b6,iy hd,bT,f' a7 hl,this,bH]
 grind[d',wH]
def bO0(x:Int):0<=x*x:=by
 rcases(by omega:0<=x\/x<0)with h|h
 exact aH h h;exact Int.le_of_lt (cN h h)
def Rh{a b p:Int}:(p-a)*(p-b)<=0↔min a b<=p/\p<=max a b:=by
 constructor;intro h;rcases(by omega:p<min a b\/min a b<=p)with h1|h1
 have:=cN (a:=p-a) (b:=p-b) (by omega) (by omega);omega;rcases(by omega:max a b<p\/p<=max a b)with h2|h2
 have:=cn (a:=p-a) (b:=p-b) (by omega) (by omega);omega;exact⟨h1,h2⟩;rintro ⟨h1,h2⟩;rcases Int.le_total a b with h|h
 have:=aH (a:=p-a) (b:=b-p) (by omega) (by omega)
 grind
 have:=aH (a:=p-b) (b:=a-p) (by omega) (by omega)
 grind
theorem bE0{a b p:bs}(h:fr a b p=0):Iy a p b p<=0↔sU a b p=Y:=by
 have e:Iy a p b p=(p.1-a.1)*(p.1-b.1)+(p.2-a.2)*(p.2-b.2):=rfl;have g:((p.1-a.1)*(p.1-b.1))*((p.2-a.2)*(p.2-b.2))=((p.1-b.1)*(p.2-a.2))*((p.1-b.1)*(p.2-a.2)):=by grind[fr]
 have hs:=bO0 ((p.1-b.1)*(p.2-a.2));rw[<-g]at hs;have i:sU a b p=Y↔(p.1-a.1)*(p.1-b.1)<=0/\(p.2-a.2)*(p.2-b.2)<=0:=by rw[Rh,Rh];simp[sU,and_assoc]
 rw[i,e];generalize(p.1-a.1)*(p.1-b.1)=X at *;generalize(p.2-a.2)*(p.2-b.2)=f at *;constructor;intro hd;refine⟨?_,?_⟩;rcases(by omega:0<X\/X<=0)with c|c
 have d:f<0:=by omega
 have:=Int.mul_neg_of_pos_of_neg c d;omega;exact c;rcases(by omega:0<f\/f<=0)with d|d
 have c:X<0:=by omega
 have:=Int.mul_neg_of_neg_of_pos c d;omega;exact d;intro⟨h1,h2⟩;omega
theorem Mg(a b p:bs):yk (a,b,p)=Z (n' a b p):=by grind[yk,n',bT,LL,d',yK,bg8,qB,fr,decide_true,ah,bE0,decide_eq_false]
end Dp
namespace Dp
def bi3(a b:bs):o9 (a,b)=Z (hU a b):=by grind[o9,hU]
def bb5(a b c d:bs):HH (a,b,c,d)=Z (p8 a b c d):=by
 unfold HH p8;have e:∀p q:bs,(No (p.1=q.1)&&No (p.2=q.2))=u9 p q:=λ_ _=>rfl;have f:∀p q:bs,o9 (p,q)=Z (hU p q):=λp q=>bi3 p q
 grind[bT,hU,aJ,u9]
theorem OD{a b c d:bs}(e:a≠b)(h1:fr a b c=0)(h2:fr a b d=0):fr c d a=0:=by
 unfold fr at *;have f:(b.1-a.1)*((d.1-c.1)*(a.2-c.2)-(d.2-c.2)*(a.1-c.1))=0:=by grind
 grind[Int.mul_eq_zero,absurd,eB]
theorem te{a b c:bs}(ha:d' a=Y)(d:d' b=Y)(hc:d' c=Y):(0<fr a b c/\l7 a b c=1)\/(fr a b c<0/\l7 a b c=-1)\/(fr a b c=0/\l7 a b c=0):=by grind[l7,sP,bw]
def Uf{a b c d:bs}(g:a≠b)(j:c≠d):AP (a,b,c,d)=Z (oK a b c d):=by
 unfold AP oK;have e:∀p q:bs,(No (p.1=q.1)&&No (p.2=q.2))=u9 p q:=λ_ _=>rfl;have h1:u9 a b=U:=by grind[pt]
 have h2:u9 c d=U:=by grind[pt]
 simp only[bT,LL _ (show aa [a,b,c,d]<2^62 by simp),bH,dI,fg,e,h1,h2,bu,aJ,l4];have k:(d' a&&(d' b&&(d' c&&d' d)))=(d' a&&d' b&&d' c&&d' d):=by simp[gD]
 rw[k];cases i:(d' a&&d' b&&d' c&&d' d)with
 |false=>simp
 |true=>
  simp only[ab]at i;let ⟨⟨⟨ha,f⟩,hc⟩,hd⟩:=i;simp only[aw,bu,vE];let ⟨fa,gb,lb⟩:=yK ha f hc hd;let ⟨l,r,s⟩:=yK ha hc hc hd;let ⟨s1,s2,t⟩:=yK ha hc ha f;rw[fa,(yK ha f ha hc).1,(yK ha f ha hd).1,(yK hc hd hc ha).1,(yK hc hd hc f).1,l,s1,bb5];simp only[bT];have u:qB a b c d=fr a b d-fr a b c:=by unfold qB fr;grind
  have v:qB a b c d=fr c d a-fr c d b:=by unfold qB fr;grind
  have m:qB a c c d=fr c d a:=by unfold qB fr;grind
  have o:qB a c a b=- fr a b c:=by unfold qB fr;grind
  have n5:qB a b a c=fr a b c:=rfl;have n6:qB a b a d=fr a b d:=rfl;have n7:qB c d c a=fr c d a:=rfl;have n8:qB c d c b=fr c d b:=rfl;have hz:=OD (c:=c) (d:=d) g;rw[n5,n6,n7,n8];rw[fx (n:=0-qB a c c d),fx (n:=0-qB a c a b),fx (n:=0-qB a b c d)];have pI:=te ha f hc;have pC:=te ha f hd;have w:=te hc hd ha;have x:=te hc hd f;rw[m,o];generalize fr a b c=A at *;generalize fr a b d=B at *;generalize fr c d a=C at *;generalize fr c d b=D at *;generalize l7 a b c=z at *;generalize l7 a b d=E at *;generalize l7 c d a=G at *;generalize l7 c d b=H at *;generalize qB a b c d=n at *;by_cases h:n=0
  grind[decide_eq_true,decide_true,aw,decide_eq_false,bj]
  rw[ft h,bu,cc (by omega)]
  grind[decide_eq_true,absurd,decide_eq_false]
end Dp
namespace Dp
def w9(x y:Int):Int:=ite (0<x/\0<=y) 0 <|ite (x<=0/\0<y) 1 <|ite (x<0) 2 3
def as9{o a:bs}(ho:d' o=Y)(ha:d' a=Y):EB (o,a)=Z (w9 (a.1-o.1) (a.2-o.2)):=by let ⟨⟨c,d⟩,e,f⟩:=BY ho ha;unfold EB w9;simp only[bT];rw[fx (n:=a.1-o.1),fx (n:=a.2-o.2)];generalize a.1-o.1=x at *;generalize a.2-o.2=y at *;by_cases h1:0<x;rw[hT h1,b6];by_cases h2:0<=y;rw[hT h2,b6,cr ⟨h1,h2⟩];rw[ft h2,bu,ft (by omega:¬x<=0),bu,ft (by omega:¬x<0),bu,cc (by omega),cc (by omega),cc (by omega)];rw[ft h1,bu,hT (by omega:x<=0),b6,cc (by omega)];by_cases h2:0<y;rw[hT h2,b6,cr ⟨by omega,h2⟩];rw[ft h2,bu,cc (by omega)];by_cases b:x<0;rw[hT b,b6,cr b];rw[ft b,bu,cc b]
def I'{x y:Int}(h:¬(x=0/\y=0)):(w9 x y=0/\0<x/\0<=y)\/(w9 x y=1/\x<=0/\0<y)\/(w9 x y=2/\x<0/\y<=0)\/(w9 x y=3/\0<=x/\y<0):=by unfold w9;split;exact .inl ⟨rfl,by assumption⟩;split;exact .inr (.inl ⟨rfl,by assumption⟩);split;exact .inr (.inr (.inl ⟨rfl,by omega⟩));exact .inr (.inr (.inr ⟨rfl,by omega⟩))
def bc4(o a b:bs):ET (o,a,b)=Z (oo o a b):=by
 unfold ET oo;have e:∀p q:bs,(No (p.1=q.1)&&No (p.2=q.2))=u9 p q:=λ_ _=>rfl;simp only[bT,LL _ (show aa [o,a,b]<2^62 by simp),bH,dI,fg,e];have s:(d' o&&(d' a&&d' b))=(d' o&&d' a&&d' b):=by simp[gD]
 rw[s];cases n:(d' o&&d' a&&d' b)with
 |false=>simp
 |true=>
  simp only[ab]at n;let ⟨⟨ho,ha⟩,r⟩:=n;simp only[aw,bu,bY];cases h1:u9 a o with
  |true=>simp
  |false=>
   cases h2:u9 b o with
   |true=>simp
   |false=>
    simp only[bu,bj,bY];rw[as9 ho ha,as9 ho r];simp only[bT];rw[(yK ho ha ho r).1];simp only[bT];have t:qB o a o b=fr o a b:=rfl;rw[t];have g1:¬(a.1-o.1=0/\a.2-o.2=0):=λ⟨p,q⟩=>by have:a=o:=eB (by omega) (by omega);rw[(pt a o).2 this]at h1;cases h1
    have g2:¬(b.1-o.1=0/\b.2-o.2=0):=λ⟨p,q⟩=>by have:b=o:=eB (by omega) (by omega);rw[(pt b o).2 this]at h2;cases h2
    have l2:oQ o a=No (2<=w9 (a.1-o.1) (a.2-o.2)):=by rw[di,decide_eq_true_iff];simp only[oQ,bz,ab,kA];rcases I' g1 with h|h|h|h<;>omega
    have x8:oQ o b=No (2<=w9 (b.1-o.1) (b.2-o.2)):=by rw[di,decide_eq_true_iff];simp only[oQ,bz,ab,kA];rcases I' g2 with h|h|h|h<;>omega
    rw[l2,x8];have hc:fr o a b=(a.1-o.1)*(b.2-o.2)-(a.2-o.2)*(b.1-o.1):=rfl;have c1:=I' g1;have c2:=I' g2;generalize w9 (a.1-o.1) (a.2-o.2)=p at *;generalize w9 (b.1-o.1) (b.2-o.2)=q at *;generalize a.1-o.1=x at *;generalize a.2-o.2=y at *;generalize b.1-o.1=u at *;generalize b.2-o.2=v at *;have c:p=0->q=1->0<fr o a b:=λk l=>by
     have h1:0<x/\0<=y:=by omega
     have h2:u<=0/\0<v:=by omega
     have m:=cn h1.1 h2.2;have d:=aH h1.2 (by omega:0<=-u);rw[cR]at d;omega
    have f:p=1->q=0->fr o a b<0:=λk l=>by
     have h1:x<=0/\0<y:=by omega
     have h2:0<u/\0<=v:=by omega
     have m:=cn h1.2 h2.1;have d:=aH (by omega:0<=-x) h2.2;rw[iU]at d;omega
    have g:p=2->q=3->0<fr o a b:=λk l=>by
     have h1:x<0/\y<=0:=by omega
     have h2:0<=u/\v<0:=by omega
     have m:=cN h1.1 h2.2;have d:=aH (by omega:0<=-y) h2.1;rw[iU]at d;omega
    have Ee:p=3->q=2->fr o a b<0:=λk l=>by
     have h1:0<=x/\y<0:=by omega
     have h2:u<0/\v<=0:=by omega
     have m:=cN h1.2 h2.1;have d:=aH h1.1 (by omega:0<=-v);rw[cR]at d;omega
    by_cases i:p<q;rw[hT i,b6];by_cases j:(2<=p↔2<=q);rw[cr (by rw[di,decide_eq_true_iff,decide_eq_true_iff];exact j),hT];by_cases hp:p=0;exact c hp (by omega);exact g (by omega) (by omega);rw[cc (by rw[di,decide_eq_true_iff,decide_eq_true_iff];exact j),hT (by omega)];rw[ft i,bu];by_cases he:p=q;rw[hT he,b6,he,cr rfl];rw[ft he,bu];by_cases j:(2<=p↔2<=q);rw[cr (by rw[di,decide_eq_true_iff,decide_eq_true_iff];exact j),ft];by_cases hp:p=1;have:=f hp (by omega);omega;have:=Ee (by omega) (by omega);omega;rw[cc (by rw[di,decide_eq_true_iff,decide_eq_true_iff];exact j),ft (by omega)]
end Dp
namespace Dp
theorem KP(al:gp)(ag:hI)(fs:eD)(id:Int)(hl:aa al<2^62:=by omega):AR ((al,ag,fs),id)=Z (match nQ al id with|some n=>(n,Y)|none=>((0,0,0),U)):=by
 unfold AR;refine mP (A:=Unit) al (λi _=>(i:Int)) (λ_ rest=>Z (match nQ rest id with|some n=>(n,Y)|none=>((0,0,0),U))) (by omega) ?_ ?_ ()
 grind[nQ]
 intro rec i a x rest a7 hd b;have:=b ();simp only[fB a7,b6,iy hd,bT,f' a7 hl,this,nQ,eA]
 grind[decide_eq_true,decide_eq_false]
def Hc(al:gp)(ag:hI)(fs:eD)(b:Bool)(q:aa al<=1000000)(ha:aa ag<=1000000):zm ((al,ag,fs),b)=Z (cond b (ag.map (·.1)) <|al.map (·.1)):=by
 unfold zm;have key:∀acc:eD,aa acc<=1000000->rounds (α:=Bool×eD×Int) (β:=eD) (λp d=>
   cond (d.2.2<(aa ag:Int)) (
   cond d.1 (
    a8 (nth ag d.2.2) λe=>
    a8 (j6 8 d.2.1 [e.1]) λf=>
    p (Y,f,(ek (d.2.2+(1:Int))))) (
    Z d.2.1)) (
   Z d.2.1)) (b,acc,(0:Int))=Z (cond b (acc++ag.map (·.1)) acc):=by
  intro acc g;cases b;refine Dh λrec=>?_
  grind
  rw[b6];refine vF (A:=eD) ag (λi a=>(Y,a,(i:Int))) (λa rest=>Z (a++rest.map (·.1))) (λi a=>aa a=aa acc+i) (by omega) ?_ ?_ acc (by simp)
  grind
  intro rec i a x rest a7 m hd n;simp only[fB a7,b6,iy hd,bT,f' a7]
  grind[m9,bT]
 cases b;simp only[bj,b6,bu];refine vF (A:=eD) al (λi a=>(a,(i:Int))) (λa rest=>Z (a++rest.map (·.1))) (λi a=>aa a=i) (by omega) ?_ ?_ [] rfl
 grind
 intro rec i a x rest a7 m hd n;simp only[fB a7,b6,iy hd,bT,f' a7]
 grind[m9,bT]
 have h:=key [] (by simp);have o:∀acc:eD,aa acc<=1000000->rounds (α:=Bool×eD×Int×Bool) (β:=eD) (λl c=>
  cond (c.2.2.1<(aa ag:Int)) (
   cond c.1 (
   a8 (nth ag c.2.2.1) λj=>
   a8 (j6 8 c.2.1 [j.1]) λk=>
   l (Y,k,(ek (c.2.2.1+(1:Int))),c.2.2.2)) (
   Z c.2.1)) (
   Z c.2.1)) (Y,acc,(0:Int),Y)=Z (acc++ag.map (·.1)):=by
  intro acc g;refine vF (A:=eD) ag (λi a=>(Y,a,(i:Int),Y)) (λa rest=>Z (a++rest.map (·.1))) (λi a=>aa a=aa acc+i) (by omega) ?_ ?_ acc (by simp)
  grind
  intro rec i a x rest a7 m hd n;simp only[fB a7,b6,iy hd,bT,f' a7]
  grind[m9,bT]
 refine Dh λrec=>?_
 grind[aw]
def aL5(al:gp)(ag:hI)(fs:eD)(e:aa al<=1000)(ha:aa ag<=1000)(hv:∀a∈ag,aa a.2.2.2.1<=1000):HK (al,ag,fs)=Z (al.map (·.2)++(ag.map (·.2.2.2.1)).flatten):=by
 unfold HK;refine vF (A:=eY) al (λi a=>(a,(i:Int))) (λa rest=>Z ((a++rest.map (·.2))++(ag.map (·.2.2.2.1)).flatten)) (λi a=>aa a=i) (by omega) ?_ ?_ [] rfl;intro rec a b;simp only[kj,bu,dm,cg];refine vF (A:=eY) ag (λi a=>(a,(i:Int))) (λa rest=>Z (a++(rest.map (·.2.2.2.1)).flatten)) (λi a=>aa a<=1000+1000*i) (by omega) ?_ ?_ a (by omega)
 grind[List.flatten_nil]
 intro rec i a x rest a7 b hd c;have d:x∈ag:=ax (hd▸aU ..);have:=hv x d;simp only[fB a7,b6,iy hd,bT,f' a7]
 grind[m9,bT]
 intro rec i a x rest a7 b hd c;simp only[fB a7,b6,iy hd,bT,f' a7]
 grind[m9,bT]
def bc2(p:bs):HO p=Z (yU p):=by grind[HO,yU]
def aS1(al:gp)(ag:hI)(fs:eD)(n:Int)(hl:aa fs<2^62):ER ((al,ag,fs),n)=Z (No (n∈fs)||No (n=0)):=by
 unfold ER;refine mP (A:=Unit) fs (λi _=>(i:Int)) (λ_ rest=>Z (No (n∈rest)||No (n=0))) (by omega) ?_ ?_ ()
 grind[decide_false]
 intro rec i _ x rest a7 hd a;have:=a ();simp only[fB a7,b6,iy hd,bT,f' a7 hl,this]
 grind[decide_eq_true,decide_eq_false]
theorem DX{al:gp}{ag:hI}{fs:eD}(h:fp al ag fs){a:ct}(ha:a∈ag):∃p,pathOf al ag a.1=Z p/\ya ((al,ag,fs),a)=Z (p,Y):=by
 let ⟨f,t,h1,h2,b,_⟩:=h.path ha;have hv:=h.q4 ha;have c:=h.qF;refine⟨_,b,?_⟩;unfold ya
 grind[KP,bT,m9]
end Dp
open Go.Pg
namespace Dp
theorem xR{p q:bs}:hU p q=Y↔p.1<q.1\/(p.1=q.1/\p.2<q.2):=by simp[hU]
theorem JF{p q:bs}(h:hU p q=Y):hU q p=U:=by grind[xR]
theorem bW6(a b c d:bs):p8 a b c d=p8 c d a b:=by grind[p8,hU,JF]
def aI0{a b c d:bs}(g:a≠b)(h:c≠d):oK a b c d=oK c d a b:=by
 have h1:u9 a b=U:=by grind[pt]
 have h2:u9 c d=U:=by grind[pt]
 have i:(d' a&&d' b&&d' c&&d' d)=(d' c&&d' d&&d' a&&d' b):=by grind[d']
 unfold oK;rw[h1,h2,i];cases f:(d' c&&d' d&&d' a&&d' b)with
 |false=>rfl
 |true =>simp only[ab]at f;let ⟨⟨⟨hc,hd⟩,ha⟩,e⟩:=f;simp only[vE,aJ,l4];have pI:=te ha e hc;have pC:=te ha e hd;have j:=te hc hd ha;have k:=te hc hd e;by_cases hz:l7 a b c=0/\l7 a b d=0<;>grind[l7,fr,OD,bW6]
abbrev Mh:=Int×Int×Int×eY×Int×Int×Int×Int×Int×b9
def pr(s:fy):Mh:=(s.1.1,s.1.2.1,s.1.2.2.1,s.1.2.2.2.1,s.1.2.2.2.2.1,s.1.2.2.2.2.2.1,s.2,(aa s.1.path:Int)-1,(hi s).1,(hi s).2,(gl s).1,(gl s).2)
theorem Du(a:ct)(p:eY):aa (pf a p)=aa p-1:=by simp[pf]
def aO7{a:ct}{p:eY}{i:Nat}{x:fy}{rest:cu fy}(h:(pf a p).drop i=x::rest):x=(rT a p,(i:Int))/\i+1<aa p:=by grind[List.head?,List.head?_drop,List.head?_cons,pf,bA,af,ah]
end Dp
namespace Dp
def Rx{a b c d:bs}{A B C D:Int}(f:A=fr a b c)(g:B=fr a b d)(i:C=fr c d a)(j:D=fr c d b)(h1:A<=0)(h2:0<=B)(o:D<=0)(k:0<=C)(p:A<B):¬uV a b c d:=by
 have e:c.1*B-d.1*A=b.1*C-a.1*D:=by subst f g i j;unfold fr;grind
 have l:B-A=C-D:=by subst f g i j;unfold fr;grind
 have q:(min c.1 d.1)*(B-A)<=c.1*B-d.1*A:=by have fa:=aP (by omega:min c.1 d.1<=c.1) h2;have gb:=aP (by omega:min c.1 d.1<=d.1) (by omega:0<=-A);rw[cR,cR]at gb;rw[c_];omega
 have r:c.1*B-d.1*A<=(max c.1 d.1)*(B-A):=by have fa:=aP (by omega:c.1<=max c.1 d.1) h2;have gb:=aP (by omega:d.1<=max c.1 d.1) (by omega:0<=-A);rw[cR,cR]at gb;rw[c_];omega
 have m:(min a.1 b.1)*(C-D)<=b.1*C-a.1*D:=by have fa:=aP (by omega:min a.1 b.1<=b.1) k;have gb:=aP (by omega:min a.1 b.1<=a.1) (by omega:0<=-D);rw[cR,cR]at gb;rw[c_];omega
 have n:b.1*C-a.1*D<=(max a.1 b.1)*(C-D):=by have fa:=aP (by omega:b.1<=max a.1 b.1) k;have gb:=aP (by omega:a.1<=max a.1 b.1) (by omega:0<=-D);rw[cR,cR]at gb;rw[c_];omega
 rw[<-l]at m n;rintro (h|h);have:=eC h (by omega:0<B-A);omega;have:=eC h (by omega:0<B-A);omega
def aI5{a b c d:bs}(ha:d' a=Y)(r:d' b=Y)(hc:d' c=Y)(hd:d' d=Y)(s:a≠b)(t:c≠d)(hf:uV a b c d):oK a b c d=0:=by
 have h1:u9 a b=U:=by rw[fH];exact λh=>s ((pt a b).1 h)
 have h2:u9 c d=U:=by rw[fH];exact λh=>t ((pt c d).1 h)
 unfold oK;rw[h1,h2,ha,r,hc,hd];simp only[bw,vE,aJ,l4];have pI:=te ha r hc;have pC:=te ha r hd;have z:=te hc hd ha;have B:=te hc hd r;by_cases hz:l7 a b c=0/\l7 a b d=0;rw[cr hz];unfold p8;simp only;have C:∀x y:bs,((ite (hU y x=Y) y x).1=min x.1 y.1)/\(ite (hU y x=Y) x y).1=max x.1 y.1:=λx y=>by by_cases h:hU y x=Y;rw[cr h,cr h];rw[xR]at h;omega;rw[cc h,cc h];rw[xR]at h;omega
 let ⟨q5,nj⟩:=C a b;let ⟨rM,s_⟩:=C c d;generalize(ite (hU b a=Y) b a)=j at *;generalize(ite (hU b a=Y) a b)=k at *;generalize(ite (hU d c=Y) d c)=m at *;generalize(ite (hU d c=Y) c d)=n at *;have fa:(ite (hU j m=Y) m j).1=max j.1 m.1:=by by_cases h:hU j m=Y;rw[cr h];rw[xR]at h;omega;rw[cc h];rw[xR]at h;omega
 have gb:(ite (hU n k=Y) n k).1=min n.1 k.1:=by by_cases h:hU n k=Y;rw[cr h];rw[xR]at h;omega;rw[cc h];rw[xR]at h;omega
 generalize(ite (hU j m=Y) m j)=f at *;generalize(ite (hU n k=Y) n k)=l at *;have u:l.1<f.1:=by unfold uV at hf;omega
 rw[cc (by rw[pt];intro e;rw[e]at u;omega),cc (by rw[xR];omega)];rw[cc hz,cc];rintro ⟨g1,g2⟩;have E:fr a b d-fr a b c=fr c d a-fr c d b:=by unfold fr;grind
 have D:fr a b c≠fr a b d:=λe=>by
  rcases pI with⟨p,q⟩|⟨p,q⟩|⟨p,q⟩
  rcases pC with⟨i,g⟩|⟨i,g⟩|⟨i,g⟩
  rw[q,g]at g1;omega;omega;omega;rcases pC with⟨i,g⟩|⟨i,g⟩|⟨i,g⟩
  omega;rw[q,g]at g1;omega;omega;exact hz ⟨q,by omega⟩
 rcases(by omega:fr a b c<fr a b d\/fr a b d<fr a b c)with v|v
 have o:fr a b c<=0/\0<=fr a b d:=by rcases pI with⟨p,q⟩|⟨p,q⟩|⟨p,q⟩<;>rcases pC with⟨i,g⟩|⟨i,g⟩|⟨i,g⟩<;>rw[q,g]at g1<;>omega
 have w:fr c d b<=0/\0<=fr c d a:=by rcases z with⟨p,q⟩|⟨p,q⟩|⟨p,q⟩<;>rcases B with⟨i,g⟩|⟨i,g⟩|⟨i,g⟩<;>rw[q,g]at g2<;>omega
 exact Rx rfl rfl rfl rfl o.1 o.2 w.1 w.2 v hf;have o:fr a b d<=0/\0<=fr a b c:=by rcases pI with⟨p,q⟩|⟨p,q⟩|⟨p,q⟩<;>rcases pC with⟨i,g⟩|⟨i,g⟩|⟨i,g⟩<;>rw[q,g]at g1<;>omega
 have w:fr c d a<=0/\0<=fr c d b:=by rcases z with⟨p,q⟩|⟨p,q⟩|⟨p,q⟩<;>rcases B with⟨i,g⟩|⟨i,g⟩|⟨i,g⟩<;>rw[q,g]at g2<;>omega
 have m1:fr d c a=- fr c d a:=by unfold fr;grind
 have m2:fr d c b=- fr c d b:=by unfold fr;grind
 exact Rx (a:=a) (b:=b) (c:=d) (d:=c) rfl rfl rfl rfl o.1 o.2 (by omega) (by omega) v (by unfold uV at *;omega)
end Dp
namespace Dp
def xf(s t:fy):Bool:=No (s.2+1=t.2)||(No (s.1.2.1=s.1.2.2.1)&&(tP s&&th t))
def uQ(s t:fy):Int:=oK (hi s) (gl s) (hi t) (gl t)
def ud(s:fy)(n:b9):Bool:=No (s.1.2.1=n.1)||No (s.1.2.2.1=n.1)
def V(al:gp)(s t:fy):Prop :=
 (s.1.1=t.1.1->s.2<t.2->uQ s t=bif xf s t then 1 else 0)/\(s.1.1=t.1.1->t.2<s.2->uQ s t=bif xf t s then 1 else 0) /\
 (s.1.1≠t.1.1->uQ s t=0\/(uQ s t=1/\∃n∈al,ud s n=Y/\ud t n=Y/\n' (hi s) (gl s) n.2=Y/\n' (hi t) (gl t) n.2=Y))
section
variable {al:gp} {ag:hI} {fs:eD} (h:fp al ag fs)
include h
theorem aL9{s t:fy}{a b:ct}{p q:eY}{i j:Nat}(o:nJ al ag s a p i)(o':nJ al ag t b q j)(hc:qx s t (mkMap al [])=Y):V al s t:=by
 unfold qx at hc;simp only at hc;refine⟨λe d=>?_,λe d=>?_,λe=>?_⟩
 grind[decide_eq_true,decide_eq_false,uQ,xf]
 grind[decide_eq_true,xf,uQ]
 rw[ft e,bu]at hc;by_cases c:oK (hi s) (gl s) (hi t) (gl t)=1;rw[hT c,b6]at hc;refine bq ⟨c,?_⟩;have f:∀n∈al,nv (mkMap al []) n.1=n.2:=λn g=>by unfold nv;rw[Jr [] (pq h.vL) g];rfl
 have k:s.1.2.1=a.2.1/\s.1.2.2.1=a.2.2.1:=by rw[o.eq];exact⟨rfl,rfl⟩
 let ⟨⟨l,m1,fa⟩,m,m2,gb⟩:=h.DQ o.nM
 grind[ud]
 rw[ft c,bu,kA]at hc;exact bE hc
theorem am7{s t:fy}{a b:ct}{p q:eY}{i j:Nat}(o:nJ al ag s a p i)(o':nJ al ag t b q j)(e:s.1.1=t.1.1)(c:xf s t=Y):gl s=hi t\/hi s=gl t:=by
 obtain⟨rfl,rfl⟩:=h.PT o o' e;unfold xf at c;rw[o.first,o'.last]at c;have g:s.2=(i:Int):=by rw[o.eq]
 have k:t.2=(j:Int):=by rw[o'.eq]
 have d:s.1.2.1=a.2.1/\s.1.2.2.1=a.2.2.1:=by rw[o.eq];exact⟨rfl,rfl⟩
 rw[g,k,d.1,d.2]at c;simp only[bz,ab,kA]at c;rcases c with c|⟨l2,x8,pG⟩
 have:i+1=j:=by omega
 subst this;have f:=o'.rO;rw[o.se]at f;exact .inl (aK f);subst x8;exact .inr (h.N5 o'.nM o'.path l2 pG o.rO o'.se)
theorem bd1{s t:fy}{a b:ct}{p q:eY}{i j:Nat}(o:nJ al ag s a p i)(o':nJ al ag t b q j)(hf:uV (hi s) (gl s) (hi t) (gl t)):V al s t:=by
 have c:uQ s t=0:=aI5 (h.vp o).1 (h.vp o).2 (h.vp o').1 (h.vp o').2 (h.sD o) (h.sD o') hf;have no:∀x:Bool,(x=Y->gl s=hi t\/hi s=gl t)->x=U:=λx f=>by grind[uV]
 refine⟨λe _=>?_,λe _=>?_,λ_=>.inl c⟩;have d:=no (xf s t) (am7 h o o' e);rw[d,c];rfl;have d:=no (xf t s) (λx=>by grind[am7]);rw[d,c];rfl
theorem bd2{s t:fy}{a b:ct}{p q:eY}{i j:Nat}(o:nJ al ag s a p i)(o':nJ al ag t b q j)(hv:V al s t):V al t s:=by
 have e:uQ t s=uQ s t:=aI0 (h.sD o') (h.sD o);let ⟨d,f,k⟩:=hv;refine⟨λc g=>e.trans (f c.symm g),λc g=>e.trans (d c.symm g),λc=>?_⟩
 grind
theorem bd0{r:cu fy}(d:zb al ag ag=Z r):(∀s∈r,∀t∈r,s≠t->V al s t)/\∀s∈r,∀n∈al,p6 s n=Y:=by
 have hp:=h.FT;unfold u_ at hp;rw[d]at hp;simp only at hp;have k:=Da (vA r);have c:=tG (vA r);have e:(oy p2 r).Pairwise (qu ·<=qu ·):=k.imp λ{a b} x=>by unfold p2 at x;rw[uk]at x;omega
 let ⟨g1,g2⟩:=FN e hp;have g3:(oy p2 r).Pairwise (λs t=>s∈r->t∈r->s≠t->V al s t):=by
  refine g1.imp_of_mem λ{x y} l m f _ _ g=>?_;let ⟨a,p,i,o⟩:=h.q_ d (c.mem_iff.1 l);let ⟨b,q,j,o'⟩:=h.q_ d (c.mem_iff.1 m);rcases f with hc|hf
  exact aL9 h o o' hc;exact bd1 h o o' (bE hf)
 refine⟨λs hs t v u=>?_,λs hs n g=>g2 s (c.mem_iff.2 hs) n g⟩;exact Gw (R:=λs t=>s∈r->t∈r->s≠t->V al s t) (λx y f m l g=>by
  let ⟨a,p,i,o⟩:=h.q_ d l;let ⟨b,q,j,o'⟩:=h.q_ d m
  grind[bd2]) (λx _ _ g=>(g rfl).elim) g3 (c.mem_iff.2 hs) (c.mem_iff.2 v) hs v u
end
end Dp
namespace Dp
def Sn{α:Type}{xs:cu α}{i:Nat}{x:α}{rest:cu α}(h:xs.drop i=x::rest):xs.take (i+1)=xs.take i++[x]:=by rw[bm,oU h];rfl
def N6{l:eD}(hl:aa l<=1000000):CI l=Z (qM l):=by
 unfold CI;cases l;exact Dh λrec=>rfl;rename_i a xs;have e:(aa (a::xs):Int)=(aa xs:Int)+1:=by simp
 rw[e];refine vF (A:=Int) xs (λi _=>(i:Int)+1) (λb rest=>Z (qM (b::rest))) ((a::xs)[·]?=Z ·) (by simp at hl;omega) ?_ ?_ a rfl;intro rec b _;rw[ft (by omega)];rfl;intro rec i b x rest a7 c hd f;have d:xs[i]?=Z x:=oU hd;have h1:(a::xs)[i+1]?=Z x:=by simpa using d
 simp only[aC]at hl;rw[hT (by omega),b6,show ek ((i:Int)+1-1)=(i:Int)by grind[fx],zB,c,bT,show((i:Int)+1)=((i+1:Nat):Int)by omega,zB,h1,bT]
 grind[decide_eq_true,qM,decide_eq_false,fx]
def Xn(al:gp)(ag:hI)(fs:eD)(ha:aa ag<=1000000):HM (al,ag,fs)=Z (!wT al ag fs):=by
 unfold HM;refine(mP (A:=Unit) ag (λi _=>(i:Int)) (λ_ rest=>Z (!(No (aa al<=256)&&(No (aa ag<=256)&&(No (aa fs<=64)&&rest.all λa=>No (aa a.2.2.2.1<=64)))))) (by omega) ?_ ?_ ()).trans rfl;intro rec _;simp only[kj,bu,dI];have q:∀a b:Nat,No ((a:Int)<(b:Int))=!decide (b<=a):=λa b=>by by_cases h:b<=a<;>simp[h]<;>omega
 rw[show No ((256:Int)<(aa al:Int))=_ from q 256 _,show No ((256:Int)<(aa ag:Int))=_ from q 256 _,show No ((64:Int)<(aa fs:Int))=_ from q 64 _];cases No (aa al<=256)<;>cases No (aa ag<=256)<;>cases No (aa fs<=64)<;>rfl;intro rec i _ x rest a7 hd c;simp only[fB a7,b6,iy hd,bT,f' a7,bH];by_cases q:aa x.2.2.2.1<=64;rw[ft (by omega),bu,hT q,bY];exact c ()
 grind[decide_eq_true,decide_eq_false]
def Z0(al:gp)(ag:hI)(fs:eD)(hs:wT al ag fs=Y):HI (al,ag,fs)=Z ((al.map (·.1)).all qL&&((ag.map (·.1)).all qL&&(fs.all qL&&((al.all λn=>yU n.2)&&(ag.all λa=>a.2.2.2.1.all yU))))):=by
 have m:aa al<=256:=by grind[wT]
 have ha:aa ag<=256:=by grind[wT]
 have hf:aa fs<=64:=by grind[wT]
 have hv:∀a∈ag,aa a.2.2.2.1<=64:=λa h=>by grind[wT,aj]
 unfold HI;simp only;rw[Hc al ag fs U (by omega) (by omega),Hc al ag fs Y (by omega) (by omega)];simp only[bT,b6,bu];rw[m9,bT,m9,bT];have e:((al.map (·.1)).all qL&&((ag.map (·.1)).all qL&&(fs.all qL&&((al.all λn=>yU n.2)&&(ag.all λa=>a.2.2.2.1.all yU)))))=(((al.map (·.1)++ag.map (·.1))++fs).all qL&&(al.map (·.2)++(ag.map (·.2.2.2.1)).flatten).all yU):=by grind[List.all_map,fm,gD]
 rw[e];have hlen:aa ((al.map (·.1)++ag.map (·.1))++fs)<=1000:=by simp;omega
 generalize(al.map (·.1)++ag.map (·.1))++fs=xs at hlen;refine mP (A:=Unit) xs (λi _=>(i:Int)) (λ_ rest=>Z (rest.all qL&&(al.map (·.2)++(ag.map (·.2.2.2.1)).flatten).all yU)) (by omega) ?_ ?_ ();intro rec _;simp only[kj,bu,dI,bY];rw[aL5 al ag fs (by omega) (by omega) (λa f=>by have:=hv a f;omega)];simp only[bT];have d:aa (al.map (·.2)++(ag.map (·.2.2.2.1)).flatten)<=1000000:=by
  have:∀l:hI,(∀a∈l,a∈ag)->aa ((l.map (·.2.2.2.1)).flatten)<=64*aa l:=by
   intro l
   induction l with
   |nil=>intro _;simp
   |cons a l o=>grind[cZ,aX,aC]
  grind[aX,aL]
 generalize al.map (·.2)++(ag.map (·.2.2.2.1)).flatten=g at d;refine mP (A:=Unit) g (λi _=>(i:Int)) (λ_ rest=>Z (rest.all yU)) (by omega) ?_ ?_ ();intro b _;simp only[kj,bu,dI];intro b i _ x rest a7 hd c;simp only[fB a7,b6,iy hd,bT,f' a7,bc2,bH];cases yU x with
 |true=>simpa using c ()
 |false=>rfl
 intro rec i _ x rest a7 hd c;have j:=oU hd;have k:No (0<=(i:Int))=Y:=hT (by omega);simp only[fB a7,b6,k,bw,bT,aO,j,ai,f' a7,bH];unfold qL at c⊢;by_cases fa:1<=x;rw[ft (by omega),bu,hT fa];by_cases gb:x<=1073741824;rw[ft (by omega),bu,hT gb];simpa using c ()
 grind[decide_eq_true,decide_eq_false]
 grind[decide_eq_true,decide_eq_false]
def ax7(al:gp)(ag:hI)(fs:eD)(l:aa al<=1000000):HS (al,ag,fs)=Z (sC [] al):=by
 unfold HS;refine(mP (A:=Unit) al (λi _=>(i:Int)) (λ_ rest=>Z (sC (al.take (aa al-aa rest)) rest)) (by omega) ?_ ?_ ()).trans (by simp);intro rec _;simp only[kj,bu];rfl;intro rec i _ x rest a7 hd g;have hlen:aa rest=aa al-i-1:=by have:=Ar aa hd;simp at this;omega
 simp only[fB a7,b6,iy hd,bT];have h:aa al-aa (x::rest)=i:=by simp[hlen];omega
 have j:aa al-aa rest=i+1:=by omega
 have a:=g ();rw[j,Sn hd]at a;rw[h];show _=Z ((al.take i).any (GH x)||sC (al.take i++[x]) rest);refine mP (A:=Unit) (al.take i) (λk _=>(k:Int)) (λ_ r=>Z (r.any (GH x)||sC (al.take i++[x]) rest)) (by simp;omega) ?_ ?_ ()
 grind[da,dE,f']
 intro f k _ z b hk sX c;rw[da,dE (by omega)]at hk;have hz:=oU sX;rw[eK hk]at hz;have d:nth al (k:Int)=Z z:=by rw[zB];exact hz
 rw[fB hk,b6,d,f' (n:=i) hk];simp only[bT,dD];have e:(No (x.2.1=z.2.1)&&No (x.2.2=z.2.2))=GH x z:=rfl;rw[e];cases GH x z with
 |true=>rfl
 |false=>simpa using c ()
end Dp
namespace Dp
structure Hr(al:List b9)(ag:List ct)(fs:List Int):Prop where
 AD:wT al ag fs=Y
 vL:qM (al.map (·.1))=Y
 rX:qM (ag.map (·.1))=Y
 ends:∀a∈ag,a.2.1∈al.map (·.1)/\a.2.2.1∈al.map (·.1)
def AI(al:gp)(ag l:hI):cu fy:=l.flatMap λa=>pf a ((pathOf al ag a.1).getD [])
def B5(al:gp)(s:fy):Bool:=al.all (p6 s)&&(!(u9 (hi s) (gl s))&&(!decide (s.1.2.1=s.1.2.2.1)||No (4<=aa s.1.path)))
def CM(al:gp)(s t:fy):Bool:=cond (s.1.1=t.1.1) (cond (xf s t) (No (uQ s t=1)) <|No (uQ s t=0)) (cond (uQ s t=1) (al.any (λn=>ud s n&&ud t n&&n' (hi s) (gl s) n.2&&n' (hi t) (gl t) n.2)) <|No (uQ s t=0))
section
variable {al:gp} {ag:hI} {fs:eD} (h:Hr al ag fs)
include h
namespace Hr
theorem qF:aa al<=256:=by have:=h.AD;grind[wT]
theorem pA:aa ag<=256:=by have:=h.AD;grind[wT]
theorem q4{a:ct}(ha:a∈ag):aa a.2.2.2.1<=64:=by have:=h.AD;grind[wT,aj]
theorem zD{a:ct}(ha:a∈ag):px ag a.1=Z a:=M5 (f:=λa:ct=>a.1) (pq h.rX) a ha
theorem vm{n:b9}(a:n∈al):nQ al n.1=Z n:=M5 (f:=λn:b9=>n.1) (pq h.vL) n a
theorem path{a:ct}(ha:a∈ag):∃f t,f∈al/\t∈al/\f.1=a.2.1/\t.1=a.2.2.1/\nQ al a.2.1=Z f/\nQ al a.2.2.1=Z t/\pathOf al ag a.1=Z (f.2::(a.2.2.2.1++[t.2])):=by let ⟨h1,h2⟩:=h.ends a ha;let ⟨f,hf,b⟩:=aM.1 h1;let ⟨t,c,d⟩:=aM.1 h2;have fa:=h.vm hf;have gb:=h.vm c;rw[b]at fa;rw[d]at gb;refine⟨f,t,hf,c,b,d,fa,gb,?_⟩;unfold pathOf;rw[h.zD ha];simp only[fa,gb]
theorem Ml{s:fy}(hs:s∈AI al ag ag):∃a p i,nJ al ag s a p i:=by let ⟨a,ha,hm⟩:=cW.1 hs;let ⟨f,t,_,_,_,_,_,_,hp⟩:=h.path ha;rw[hp]at hm;let ⟨i,a7,e⟩:=xw hm;exact⟨a,_,i,ha,hp,a7,e⟩
theorem Mk{a:ct}{p:eY}(ha:a∈ag)(hp:pathOf al ag a.1=Z p):aa p=aa a.2.2.2.1+2:=by let ⟨f,t,_,_,_,_,_,_,b⟩:=h.path ha;rw[hp]at b;cases b;simp
theorem PT{s t:fy}{a b:ct}{p q:eY}{i j:Nat}(o:nJ al ag s a p i)(o':nJ al ag t b q j)(e:s.1.1=t.1.1):a=b/\p=q:=by
 have d:a.1=b.1:=by rw[o.eq,o'.eq]at e;exact e
 have h1:=h.zD o.nM;have h2:=h.zD o'.nM;rw[d,h2]at h1;cases h1;have c:=o.path;rw[o'.path]at c;cases c;exact⟨rfl,rfl⟩
end Hr
theorem aM1{a:ct}(ha:a∈ag):ya ((al,ag,fs),a)=Z ((pathOf al ag a.1).getD [],Y):=by
 let ⟨f,t,_,_,_,_,h1,h2,b⟩:=h.path ha;have hv:=h.q4 ha;have c:=h.qF;rw[b];unfold ya
 grind[KP,bT,m9]
theorem am6:EA (al,ag,fs)=Z ((AI al ag ag).map pr):=by
 unfold EA;have hl:=h.pA;refine(vF (A:=cu Mh) ag (λi acc=>(acc,(i:Int))) (λacc rest=>Z (acc++(AI al ag rest).map pr)) (λi acc=>aa acc<=65*i) (by omega) ?_ ?_ [] (by simp)).trans (by simp)
 grind[AI]
 intro rec i acc x rest a7 w hd o;have g:x∈ag:=ax (hd▸aU ..);have a:=aM1 h g;let ⟨f,t,_,_,_,_,_,_,hp⟩:=h.path g;have k:=h.Mk g hp;have hv:=h.q4 g;rw[hp]at a;simp only[cw]at a;generalize(f.2::(x.2.2.2.1++[t.2]))=p at hp a k;have r:AI al ag (x::rest)=pf x p++AI al ag rest:=by grind[AI]
 rw[r];simp only[fB a7,b6,iy hd,bT,f' a7];have c:ya ((al,ag,fs),x.1,x.2.1,x.2.2.1,x.2.2.2.1,x.2.2.2.2.1,x.2.2.2.2.2)=Z (p,Y):=a;rw[c];simp only[bT];refine(vF (A:=cu Mh) (pf x p) (λi acc=>(acc,(i:Int))) (λb e=>Z ((b++e.map pr)++(AI al ag rest).map pr)) (λj b=>aa b<=65*i+j) (by rw[Du];omega) ?_ ?_ acc (by omega)).trans ?_
 grind[Du,fx,decide_eq_false]
 intro q j b y e hj s l d;let ⟨m,u⟩:=aO7 l;have g1:p[j]?=Z (hi y):=by rw[m];show p[j]?=Z ((p[j]?).getD (0,0));rw[af (by omega)];rfl
 have g2:p[j+1]?=Z (gl y):=by rw[m];show p[j+1]?=Z ((p[j+1]?).getD (0,0));rw[af (by omega)];rfl
 rw[show ek ((j:Int)+1)=((j+1:Nat):Int)from f' (n:=aa p) (by omega),hT (by omega),b6];simp only[zB,g1,g2,bT];rw[fx (n:=(aa p:Int)-1),m9,bT,d _ (by simp;omega)];have v:pr y=(x.1,x.2.1,x.2.2.1,x.2.2.2.1,x.2.2.2.2.1,x.2.2.2.2.2,(j:Int),(aa p:Int)-1,(hi y).1,(hi y).2,(gl y).1,(gl y).2):=by rw[m];rfl
 rw[<-v];simp;simp
theorem aB9{s:fy}{a:ct}{p:eY}{i:Nat}(o:nJ al ag s a p i):EM ((al,ag,fs),pr s)=Z (B5 al s):=by
 have f:=h.qF;have b:=h.q4 o.nM;have c:=h.Mk o.nM o.path;have d:=o.at';have g:s.2=(i:Int):=by rw[o.eq]
 have k:aa s.1.path=aa p:=by rw[o.eq];rfl
 unfold pr;unfold EM B5;refine mP (A:=Unit) al (λi _=>(i:Int)) (λ_ rest=>Z (rest.all (p6 s)&&(!(u9 (hi s) (gl s))&&(!decide (s.1.2.1=s.1.2.2.1)||No (4<=aa s.1.path))))) (by omega) ?_ ?_ ();intro rec _;simp only[kj,bu,dI,bY];show(cond (!(u9 (hi s) (gl s))) _ _)=_;cases u9 (hi s) (gl s)with
 |true=>rfl
 |false=>
  simp only[bj,b6,bY];cases No (s.1.2.1=s.1.2.2.1)with
  |false=>rfl
  |true =>simp only[aw,bu,db];exact Ar Z (decide_eq_decide.2 (by omega))
 intro rec j _ x rest hj hd e;simp only[fB hj,b6,iy hd,bT,f' hj,bH];have on:yk (((hi s).1,(hi s).2),((gl s).1,(gl s).2),x.2.1,x.2.2)=Z (n' (hi s) (gl s) x.2):=Mg _ _ _;rw[on,e ()]
 grind[fx,bT,p6,tP,th,n',hi,gl]
theorem az5{s t:fy}{a b:ct}{p q:eY}{i j:Nat}(o:nJ al ag s a p i)(o':nJ al ag t b q j)(hs:hi s≠gl s)(c:hi t≠gl t):CS (pr s,pr t)=Z (cond (xf s t) (No (uQ s t=1)) <|No (uQ s t=0)):=by
 have hm:AP (hi s,gl s,hi t,gl t)=Z (uQ s t):=Uf hs c;have d:=h.q4 o'.nM;have e:=h.Mk o'.nM o'.path;have f:=h.q4 o.nM;have g:=h.Mk o.nM o.path;have k:s.2=(i:Int):=by rw[o.eq]
 have l:t.2=(j:Int):=by rw[o'.eq]
 have m:aa t.1.path=aa q:=by rw[o'.eq];rfl
 have hj:=o'.at';have a7:=o.at'
 grind[pr,CS,bT,fx,xf,tP,th]
omit h in
theorem R_(x:ct)(id:Int):AQ (x,id)=Z (No (x.2.1=id)||No (x.2.2.1=id)):=by grind[AQ]
theorem X0{s t:fy}(hs:hi s≠gl s)(a:hi t≠gl t):CO ((al,ag,fs),pr s,pr t)=Z (cond (uQ s t=1) (al.any (λn=>ud s n&&ud t n&&n' (hi s) (gl s) n.2&&n' (hi t) (gl t) n.2)) <|No (uQ s t=0)):=by
 have hm:AP (hi s,gl s,hi t,gl t)=Z (uQ s t):=Uf hs a;have c:=h.qF;unfold pr;unfold CO;rw[hm];simp only[bT];cases No (uQ s t=1)with
 |false=>rfl
 |true=>
  simp only[aw,bu,b6];refine mP (A:=Unit) al (λi _=>(i:Int)) (λ_ rest=>Z (rest.any λn=>ud s n&&ud t n&&n' (hi s) (gl s) n.2&&n' (hi t) (gl t) n.2)) (by omega) ?_ ?_ ()
  grind
  intro rec j _ x rest hj hd b;simp only[fB hj,b6,iy hd,bT,f' hj,b ()];have fa:AQ ((s.1.1,s.1.2.1,s.1.2.2.1,s.1.2.2.2.1,s.1.2.2.2.2.1,s.1.2.2.2.2.2.1),x.1)=Z (ud s x):=R_ _ _;have gb:AQ ((t.1.1,t.1.2.1,t.1.2.2.1,t.1.2.2.2.1,t.1.2.2.2.2.1,t.1.2.2.2.2.2.1),x.1)=Z (ud t x):=R_ _ _
  grind[yk,hi,gl,n',Mg,bT,ud]
end
end Dp
namespace Dp
def CH(al:gp):cu fy->cu fy->Bool
 |_,[]=>Y
 |pre,t::rest=>B5 al t&&(pre.all (CM al · t)&&CH al (pre++[t]) rest)
def O2{al:gp}:∀(rest pre:cu fy),CH al pre rest=Y↔(∀t∈rest,B5 al t=Y)/\(∀s∈pre,∀t∈rest,CM al s t=Y)/\rest.Pairwise (CM al · ·=Y)
 | [],pre=>by simp[CH]
 |t::rest,pre=>by
  simp only[CH,ab,O2 rest,aR,aj,aF,aV]
  grind
def Wg{s t:fy}(m:cu (Int×bs))(hs:hi s≠gl s)(a:hi t≠gl t)(c:s.1.1=t.1.1->s.2≠t.2/\s.1.2.1=t.1.2.1/\s.1.2.2.1=t.1.2.2.1):qx s t m=qx t s m:=by
 unfold qx;simp only[aI0 a hs];by_cases e:s.1.1=t.1.1
 grind[decide_eq_true,im]
 have b:¬t.1.1=s.1.1:=λh=>e h.symm;simp only[ft e,ft b,bu];cases No (oK (hi s) (gl s) (hi t) (gl t)=1)with
 |false=>rfl
 |true=>grind[Bool.and_comm,n',hi,gl,nv]
def Sj{s:fy}{m:cu (Int×bs)}:∀ {r:cu fy},(∀t∈r,qx s t m=Y)->wU s m r=Y
 | [],_=>rfl
 |t::r,h=>by
  unfold wU;cases No (Co s<qu t)with
  |true=>rfl
  |false=>rw[bu,h t (by simp),Sj λu hu=>h u (by simp[hu])];rfl
def SA{al:gp}{m:cu (Int×bs)}:∀ {l:cu fy},l.Pairwise (qx · · m=Y)->(∀s∈l,∀n∈al,p6 s n=Y)->tV al m l=Y
 | [],_,_=>rfl
 |s::l,h1,h2=>by rw[aR]at h1;unfold tV;rw[Sj h1.1,aj.2 (h2 s (by simp)),SA h1.2 λt a=>h2 t (by simp[a])];rfl
def R8:∀ {l:eY},(∀(i:Nat) p q,l[i]?=Z p->l[i+1]?=Z q->p≠q)->qt l=Y
 | [],_=>rfl
 | [_],_=>rfl
 |p::q::l,h=>by
  have c:=h 0 p q rfl rfl;have e:u9 p q=U:=by grind[pt]
  show(!(u9 p q)&&qt (q::l))=Y;rw[e,R8 λi a b h1 h2=>h (i+1) a b (by simpa using h1) (by simpa using h2)];rfl
section
variable {al:gp} {ag:hI} {fs:eD} (h:Hr al ag fs)
include h
theorem RW:∀ {l:hI},(∀a∈l,a∈ag)->(∀s∈AI al ag l,B5 al s=Y)->zb al ag l=Z (AI al ag l)
 | [],_,_=>rfl
 |a::l,hm,ha=>by
  have b:=hm a (by simp);let ⟨f,t,_,_,_,_,_,_,hp⟩:=h.path b;have c:=h.Mk b hp;have e:AI al ag (a::l)=pf a (f.2::(a.2.2.2.1++[t.2]))++AI al ag l:=by grind[AI]
  rw[e]at ha⊢;generalize(f.2::(a.2.2.2.1++[t.2]))=p at hp c ha;have hs:∀i:Nat,i+1<aa p->B5 al (rT a p,(i:Int))=Y:=λi a7=>ha _ (aV.2 (.inl (aM.2 ⟨i,by rw[ga];omega,rfl⟩)));have j:qt p=Y:=R8 λi x y d k=>by
   have a7:i+1<aa p:=by grind[au]
   have o:nJ al ag (rT a p,(i:Int)) a p i:=⟨b,hp,a7,rfl⟩;have g:=hs i a7;have m:=o.rO;have n:=o.se
   grind[B5,dc,aK,pt]
  have hc:(No (a.2.1=a.2.2.1)&&No (aa p<4))=U:=by
   have g:=hs 0 (by omega);unfold B5 at g;simp only[ab]at g;have g2:(!decide (a.2.1=a.2.2.1)||No (4<=aa p))=Y:=g.2.2
   grind[decide_eq_false]
  have q:=RW (l:=l) (λx d=>hm x (by simp[d])) λs hs=>ha s (aV.2 (.inr hs));show(match pathOf al ag a.1 with|none=>W|some r=>_)=_
  grind
theorem OC:∀ {l:hI},(∀a∈l,a∈ag)->(l.map (·.1)).Pairwise (·<·)->(AI al ag l).Pairwise (λs t=>s.1.1=t.1.1->s.2<t.2)
 | [],_,_=>.nil
 |a::l,hm,hp=>by
  have c:=hm a (by simp);let ⟨f,t,_,_,_,_,_,_,m⟩:=h.path c;have n:AI al ag (a::l)=pf a (f.2::(a.2.2.2.1++[t.2]))++AI al ag l:=by grind[AI]
  rw[aq,aR]at hp;rw[n,ke];refine⟨?_,OC (λx o=>hm x (by simp[o])) hp.2,λs hs t p e=>?_⟩;unfold pf;rw[cT];refine List.pairwise_lt_range.imp λ{x y} q _=>?_;show(x:Int)<(y:Int);omega;obtain⟨i,_,rfl⟩:=xw hs;let ⟨b,g,k⟩:=cW.1 p;let ⟨r,u,_,_,_,_,_,_,d⟩:=h.path (hm b (by simp[g]));rw[d]at k;obtain⟨j,_,rfl⟩:=xw k;have:=hp.1 b.1 (aN g);have v:a.1=b.1:=e;omega
theorem Se:∀ {l:hI},(∀a∈l,a∈ag)->aa (AI al ag l)<=65*aa l
 | [],_=>by simp[AI]
 |a::l,hm=>by
  have b:=hm a (by simp);let ⟨f,t,_,_,_,_,_,_,hp⟩:=h.path b;have hv:=h.q4 b;have d:=Se (l:=l) λx c=>hm x (by simp[c])
  grind[AI,pf,aX,Du]
theorem ah9{s t:fy}{a b:ct}{p q:eY}{i j:Nat}(o:nJ al ag s a p i)(o':nJ al ag t b q j)(c:s.1.1=t.1.1->s.2<t.2)(hp:CM al s t=Y):qx s t (mkMap al [])=Y:=by
 unfold CM at hp;unfold qx;simp only;by_cases e:s.1.1=t.1.1;rw[hT e,b6]at hp⊢;rw[ft (by have:=c e;omega),bu];exact hp;rw[ft e,bu]at hp⊢;change(cond (uQ s t=1) _ <|No (uQ s t=0))=Y;cases hm:No (uQ s t=1)with
 |false=>rw[hm]at hp;exact hp
 |true=>
  rw[hm,b6]at hp;rw[b6];let ⟨n,d,g⟩:=dz.1 hp;have f:nv (mkMap al []) n.1=n.2:=by unfold nv;rw[Jr [] (pq h.vL) d];rfl
  grind[ud,left]
theorem ah4(hp:CH al [] (AI al ag ag)=Y):u_ al ag=Y:=by
 let ⟨h1,_,z⟩:=(O2 ..).1 hp;have m:=RW h (λ_ x=>x) h1;unfold u_;rw[m];simp only;have hO:=OC h (λ_ x=>x) (pq h.rX);have v:=M7 (pq h.rX) m;have c:=tG (vA (AI al ag ag));have r:∀s∈AI al ag ag,hi s≠gl s:=λs hs e=>by grind[B5,pt,gl]
 have d:∀s∈AI al ag ag,∀n∈al,p6 s n=Y:=λs hs n f=>by grind[B5,aj]
 have all:∀s∈AI al ag ag,∀t∈AI al ag ag,s≠t->qx s t (mkMap al [])=Y:=λs hs t w qJ=>by
  have g3:(AI al ag ag).Pairwise (λs t=>s∈AI al ag ag->t∈AI al ag ag->s≠t->qx s t (mkMap al [])=Y):=by
   refine(z.and hO).imp_of_mem λ{x y} k l g _ _ f=>?_;let ⟨a,p,i,o⟩:=h.Ml k;let ⟨b,q,j,o'⟩:=h.Ml l
   grind[ah9]
  refine Gw (R:=λs t=>s∈AI al ag ag->t∈AI al ag ag->s≠t->qx s t (mkMap al [])=Y) (λx y g l k f=>?_) (λx _ _ f=>(f rfl).elim) g3 hs w hs w qJ;let ⟨a,p,i,o⟩:=h.Ml k;let ⟨b,q,j,o'⟩:=h.Ml l;rw[Wg _ (r y l) (r x k) λe=>?_]
  grind
  obtain⟨rfl,rfl⟩:=h.PT o' o e;rw[o.eq,o'.eq]at f⊢
  grind
 have u:(oy p2 (AI al ag ag)).Nodup:=c.nodup_iff.2 v;refine SA ?_ λs hs n f=>d s (c.mem_iff.1 hs) n f;exact u.imp_of_mem λ{x y} k l g=>all x (c.mem_iff.1 k) y (c.mem_iff.1 l) g
theorem au8:HG (al,ag,fs)=Z (CH al [] (AI al ag ag)):=by
 have hlen:aa (AI al ag ag)<=100000:=by have:=Se h (l:=ag) λ_ x=>x;have:=h.pA;omega
 unfold HG;rw[show EA ((al,ag,fs).1,(al,ag,fs).2.1,(al,ag,fs).2.2)=_ from am6 h];simp only[bT];have d:∀s∈AI al ag ag,∃a p i,nJ al ag s a p i:=λs hs=>h.Ml hs;generalize AI al ag ag=r at hlen d;refine(vF (A:=Unit) (r.map pr) (λi _=>(i:Int)) (λ_ rest=>Z (CH al (r.take (aa r-aa rest)) (r.drop (aa r-aa rest)))) (λi _=>∀s∈r.take i,hi s≠gl s) (by simp;omega) ?_ ?_ () (by simp)).trans (by simp);intro rec _ _;simp only[kj,bu,dA,mE,gS];rfl;intro rec i _ y rest a7 O hd t;have D:=oU hd;rw[aS]at D;have g:i<aa r:=by simpa using a7
 rw[af g]at D;simp only[ai,ah]at D;have I:aa rest=aa r-i-1:=by have:=Ar aa hd;simp at this;omega
 have E:i<aa (r.map pr):=a7;rw[show aa r-aa (y::rest)=i by simp[I];omega];rw[show aa r-aa rest=i+1 by omega]at t;have P:r[i]∈r:=aA g;let ⟨b,q,j,o'⟩:=d _ P;simp only[fB E,b6,iy hd,bT];have J:EM ((al,ag,fs),y.1,y.2.1,y.2.2.1,y.2.2.2.1,y.2.2.2.2.1,y.2.2.2.2.2.1,y.2.2.2.2.2.2.1,y.2.2.2.2.2.2.2.1,y.2.2.2.2.2.2.2.2.1,y.2.2.2.2.2.2.2.2.2.1,y.2.2.2.2.2.2.2.2.2.2.1,y.2.2.2.2.2.2.2.2.2.2.2)=Z (B5 al r[i]):=by rw[<-D];exact aB9 h o'
 rw[J];rw[bL g];show _=Z (B5 al r[i]&&((r.take i).all (CM al · r[i])&&CH al (r.take i++[r[i]]) (r.drop (i+1))));have G:r.take i++[r[i]]=r.take (i+1):=by rw[bm,af g];rfl
 rw[G];simp only[bT];cases f:B5 al r[i]with
 |false=>rfl
 |true=>
  simp only[aw,bu,bY];have u:hi r[i]≠gl r[i]:=λe=>by unfold B5 at f;rw[e,(pt (gl r[i]) (gl r[i])).2 rfl]at f;simp at f
  have w:=t () λs hs=>by
   rw[<-G]at hs;rcases aV.1 hs with hs|hs
   exact O s hs;simp only[cq]at hs;rw[hs];exact u
  refine mP (A:=Unit) (r.take i) (λk _=>(k:Int)) (λ_ K=>Z (K.all (CM al · r[i])&&CH al (r.take (i+1)) (r.drop (i+1)))) (by simp;omega) ?_ ?_ ();intro c _;rw[da,dE (by omega),kj,bu,f' E,dI,bY];exact w;intro c k _ z B hk sX C;rw[da,dE (by omega)]at hk;have hz:=oU sX;rw[eK hk,af (by omega)]at hz;simp only[ah]at hz;have hs:r[k]∈r:=aA (by omega);let ⟨a,p,R,o⟩:=d _ hs;have H:hi r[k]≠gl r[k]:=O _ (aG (i:=k) (by rw[eK hk,af (by omega)]));have M:nth (r.map pr) (k:Int)=Z (pr r[k]):=by rw[zB,aS,af (by omega)];rfl
  have Q:aa (r.map pr)<2^62:=by simp;omega
  rw[fB hk,b6,f' (n:=i) hk];simp only[M,iy hd,bT,<-D,bH,<-hz];have m:CM al r[k] r[i]=bif No (r[k].1.1=r[i].1.1)then(cond (xf r[k] r[i]) (No (uQ r[k] r[i]=1)) <|No (uQ r[k] r[i]=0))else(cond (uQ r[k] r[i]=1) (al.any (λn=>ud r[k] n&&ud r[i] n&&n' (hi r[k]) (gl r[k]) n.2&&n' (hi r[i]) (gl r[i]) n.2)) <|No (uQ r[k] r[i]=0)):=rfl
  have fin:∀b:Bool,(cond (!b) (Z U) <|c ((k+1:Nat):Int))=Z (b&&B.all (CM al · r[i])&&CH al (r.take (i+1)) (r.drop (i+1))):=λb=>by cases b;rfl;simpa using C ()
  by_cases e:r[k].1.1=r[i].1.1;have N:(pr r[k]).1=(pr r[i]).1:=e;rw[hT N];rw[hT e,b6]at m;simp only[b6,aw,bu];refine mD (b:=a8 (CS (pr r[k],pr r[i])) λv=>cond (!v) (Z U) <|c ((k+1:Nat):Int)) rfl ?_;rw[az5 h o o' H u,m];exact fin _;have N:(pr r[k]).1≠(pr r[i]).1:=e;rw[ft N];rw[ft e,bu]at m;simp only[bj,b6,bu];refine mD (b:=a8 (CO ((al,ag,fs),pr r[k],pr r[i])) λv=>cond (!v) (Z U) <|c ((k+1:Nat):Int)) rfl ?_;rw[X0 h H u,m];exact fin _
omit h in
theorem Sr:∀ {l:hI} {r:cu fy},zb al ag l=Z r->r=AI al ag l
 | [],r,b=>by cases b;rfl
 |a::l,r,b=>by
  unfold zb at b;cases c:zb al ag l with
  |none=>grind
  |some d=>
   have:=Sr c
   grind[AI]
omit h in
theorem az2(h:fp al ag fs):CH al [] (AI al ag ag)=Y:=by
 have f:Hr al ag fs:=⟨h.AD,h.vL,h.rX,λa ha=>by let ⟨⟨n,g,e⟩,m,hm,j⟩:=h.DQ ha;exact⟨aM.2 ⟨n,g,e⟩,aM.2 ⟨m,hm,j⟩⟩⟩;let ⟨r,b⟩:=h.j7;have k:=Sr b;let ⟨l,dC⟩:=bd0 h b;have hO:=OC f (λ_ x=>x) (pq h.rX);rw[<-k]at hO⊢;refine(O2 ..).2 ⟨λt c=>?_,by simp,?_⟩;let ⟨a,p,i,o⟩:=h.q_ b c;let ⟨w,d,_,hl⟩:=I5 b a o.nM;have q:=h.sD o;have e:t.1.2.1=a.2.1/\t.1.2.2.1=a.2.2.1/\t.1.path=p:=by rw[o.eq];exact⟨rfl,rfl,rfl⟩
 have:u9 (hi t) (gl t)=U:=by grind[pt]
 rw[o.path]at d
 grind[B5,aj]
 refine((M7 (pq h.rX) b).and hO).imp_of_mem λ{s t} hs c qJ=>?_;let ⟨u,_,v⟩:=l s hs t c qJ.1
 grind[CM,xf,decide_false,decide_true,dz]
end
end Dp
set_option maxRecDepth 10000
namespace Dp
def St{α β:Type}(xs:cu α)(bad:α->Bool)(v K:dv β){F:(Int->dv β)->Int->dv β}(hl:aa xs<2^62)
  (h1:∀(rec:Int->dv β) (i:Nat) x rest,i<aa xs->xs.drop i=x::rest->F rec (i:Int)=bif bad x then v else rec ((i+1:Nat):Int)) (a:∀rec:Int->dv β,F rec (aa xs:Int)=K):rounds F 0=bif xs.any bad then v else K:=by
 refine mP (A:=Unit) xs (λi _=>(i:Int)) (λ_ rest=>cond (rest.any bad) v K) (by omega) (λrec _=>a rec) ?_ ();intro rec i _ x rest a7 hd b;rw[h1 rec i x rest a7 hd,dD];cases bad x with
 |true=>rfl
 |false=>exact b ()
theorem RT(al:gp)(id:Int):(nQ al id).isSome=No (id∈al.map (·.1)):=by unfold nQ;rw[di,List.find?_isSome];simp only[kA,aM]
def aJ1(al:gp)(ag:hI)(fs:eD)(a:ct)(b:aa al<=1000000)(hv:aa a.2.2.2.1<=1000000):∃l,ya ((al,ag,fs),a)=Z (l,No (a.2.1∈al.map (·.1))&&No (a.2.2.1∈al.map (·.1))):=by unfold ya;simp only;rw[KP al ag fs a.2.1,KP al ag fs a.2.2.1,<-RT,<-RT];simp only[bT];rw[m9,bT,m9,bT];cases nQ al a.2.1<;>cases nQ al a.2.2.1<;>exact⟨_,rfl⟩
def Sv(al:gp)(ag:hI)(fs:eD)(d:aa al<=1000000)(ha:aa ag<=1000000)(hf:aa fs<=1000000):EP (al,ag,fs)=Z (tJ al ag fs):=by
 unfold EP tJ;simp only;rw[Xn al ag fs ha,Hc al ag fs U d ha,Hc al ag fs Y d ha];simp only[bT,b6,bu];rw[N6 (by simpa using d),N6 (by simpa using ha),N6 hf];simp only[bT];cases hs:wT al ag fs with
 |false=>rfl
 |true=>
  simp only[aw,bu];cases h1:qM (al.map (·.1))with
  |false=>rfl
  |true=>
   cases h2:qM (ag.map (·.1))with
   |false=>rfl
   |true=>
    cases m:qM fs with
    |false=>rfl
    |true=>
     simp only[aw,bu,bw];rw[Z0 al ag fs hs,ax7 al ag fs d];simp only[bT];generalize b:((al.map (·.1)).all qL&&((ag.map (·.1)).all qL&&(fs.all qL&&((al.all λn=>yU n.2)&&(ag.all λa=>a.2.2.2.1.all yU)))))=rg;cases rg;rfl;simp only[aw,bu];unfold vP;cases hd:sC [] al with
     |true=>rfl
     |false=>
      simp only[bu];have hv:∀a∈ag,aa a.2.2.2.1<=64:=λa h=>by grind[wT,aj]
      have o:aa fs<=64:=by grind[wT]
      refine(St ag (λa=>!(No (a.2.1∈al.map (·.1))&&No (a.2.2.1∈al.map (·.1)))) (Z 7) (cond (ag.any (λa=>!((No (a.2.2.2.2.1=0)||No (a.2.2.2.2.1∈fs))&&(No (a.2.2.2.2.2=0)||No (a.2.2.2.2.2∈fs))))) (Z 12) <|a8 (HG (al,ag,fs)) λv=>cond (!v) (Z 11) <|some 0) (by omega) ?_ ?_).trans ?_;intro rec i x rest a7 c;have f:x∈ag:=ax (c▸aU ..);let ⟨l,hl⟩:=aJ1 al ag fs x d (by have:=hv x f;omega);have g:ya ((al,ag,fs),x.1,x.2.1,x.2.2.1,x.2.2.2.1,x.2.2.2.2.1,x.2.2.2.2.2)=_:=hl;simp only[fB a7,b6,iy c,bT,f' a7,g];intro rec;simp only[kj,bu];refine St ag (λa=>!((No (a.2.2.2.2.1=0)||No (a.2.2.2.2.1∈fs))&&(No (a.2.2.2.2.2=0)||No (a.2.2.2.2.2∈fs)))) (Z 12) (a8 (HG (al,ag,fs)) λv=>cond (!v) (Z 11) <|some 0) (by omega) ?_ ?_;intro e i x rest a7 c;simp only[fB a7,b6,iy c,bT,f' a7,aS1 al ag fs _ (by omega:aa fs<2^62)];rw[iI (No (x.2.2.2.2.1∈fs)),iI (No (x.2.2.2.2.2∈fs))];cases(No (x.2.2.2.2.1=0)||No (x.2.2.2.2.1∈fs))<;>cases(No (x.2.2.2.2.2=0)||No (x.2.2.2.2.2∈fs))<;>rfl;intro e;simp only[kj,bu];cases he:ag.any (λa=>!(No (a.2.1∈al.map (·.1))&&No (a.2.2.1∈al.map (·.1))))with
      |true=>rfl
      |false=>
       simp only[bu];cases p:ag.any (λa=>!((No (a.2.2.2.2.1=0)||No (a.2.2.2.2.1∈fs))&&(No (a.2.2.2.2.2=0)||No (a.2.2.2.2.2∈fs))))with
       |true=>rfl
       |false=>
        have k:Hr al ag fs:=⟨hs,h1,h2,λa f=>by
         have:=bc.1 he a f;simpa using this⟩
        rw[au8 k];simp only[bu,bT,l6,aw];cases hp:u_ al ag with
        |false=>
         cases q:CH al [] (AI al ag ag)with
         |false=>rfl
         |true=>rw[ah4 k q]at hp;cases hp
        |true =>simp only[ab]at b;have j:fp al ag fs:=⟨hs,h1,h2,m,b.1,b.2.1,b.2.2.1,b.2.2.2.1,b.2.2.2.2,by unfold vP;rw[hd,he,p];rfl,hp⟩;rw[az2 j];rfl
theorem aB6{al:gp}{ag:hI}{fs:eD}(h:fp al ag fs):EP (al,ag,fs)=Z 0:=by have:=h.qF;have:=h.pA;have:=h.wX;rw[Sv al ag fs (by omega) (by omega) (by omega),De.2 h]
end Dp
open fp (kc)
set_option maxRecDepth 10000
namespace Dp
def Hd(al:gp)(ag:hI)(fs:eD)(id:Int)(hl:aa ag<2^62)(hv:∀a∈ag,aa a.2.2.2.1<=1000000):AX ((al,ag,fs),id)=Z (match px ag id with|some a=>(a,Y)|none=>((0,0,0,[],0,0),U)):=by
 unfold AX;refine mP (A:=Unit) ag (λi _=>(i:Int)) (λ_ rest=>Z (match px rest id with|some a=>(a,Y)|none=>((0,0,0,[],0,0),U))) (by omega) ?_ ?_ ()
 grind[px]
 intro rec i a x rest a7 hd b;have:=b ();have c:=hv x (ax (hd▸aU ..));simp only[fB a7,b6,iy hd,bT,f' a7 hl,this,px,eA]
 grind[m9,bT,decide_eq_true,decide_eq_false]
theorem Ka(p:eY)(hp:aa p<=100000):rounds (α:=eY×Int) (β:=eY) (λe b=>
  cond ((0:Int)<=b.2) (
   a8 (nth p b.2) λc=>
   a8 (j6 16 b.1 [c]) λd=>
   e (d,(ek (b.2-(1:Int))))) (
   Z b.1)) (([]:eY),(ek ((aa p:Int)-(1:Int))))=Z p.reverse:=by
 rw[fx];have:=vF (A:=eY) (β:=eY) (S:=eY×Int) p.reverse (F:=λe b=>
  cond ((0:Int)<=b.2) (
   a8 (nth p b.2) λc=>
   a8 (j6 16 b.1 [c]) λd=>
   e (d,(ek (b.2-(1:Int))))) (
   Z b.1)) (λi a=>(a,(aa p:Int)-1-(i:Int))) (λa rest=>Z (a++rest)) (λi a=>aa a=i) (by simp;omega) ?_ ?_ [] rfl
 simpa using this
 grind[decide_eq_false]
 intro rec i a x rest a7 g hd h;have f:i<aa p:=by simpa using a7
 have j:=oU hd
 grind[decide_eq_true,zB,bT,m9,fx]
def xl(al:gp)(ag:hI)(d:Int):eY:=ite (0<d) ((pathOf al ag (la d)).getD []) ((pathOf al ag (la d)).getD []).reverse
def aT4{β:Type}(o:bs)(b:eY)(n:Nat)(h:aa b=n)(hl:n<=1000000)(j:Nat)(y:bs)(k:b[j]?=Z y)(K:Int->dv β) :
  rounds (α:=Int×Int) (β:=β) (λd c=>
      cond (c.1<(n:Int)) (
       a8 ((cond (0<=c.1&&c.1<aa b) (Z ()) W)) λ_=>
       a8 ((b[(c.1).toNat]?).map (λx=>x)) λe=>
       a8 ((cond (0<=(j:Int)&&(j:Int)<aa b) (Z ()) W)) λ_=>
       a8 ((b[((j:Nat):Int).toNat]?).map (λx=>x)) λf=>
       a8 (ET (o,e,f)) λg=>
       cond g (
       d ((ek (c.1+(1:Int))),(ek (c.2+(1:Int))))) (
       d ((ek (c.1+(1:Int))),c.2))) <|K c.2) ((0:Int),(0:Int))=K ((b.countP (oo o · y):Nat):Int):=by
 subst h;have hj:j<aa b:=by grind[cU,bA]
 refine(vF (A:=Nat) b (λi a=>((i:Int),(a:Int))) (λa rest=>K (((a+rest.countP (oo o · y):Nat)):Int)) (λi a=>a<=i) (by omega) ?_ ?_ 0 (by omega)).trans (by simp)
 grind
 intro rec i a x rest a7 r hd l;have m:=oU hd;have p:No (0<=(i:Int))=Y:=hT (by omega);have q:No (0<=(j:Int))=Y:=hT (by omega);simp only[fB a7,fB hj,b6,p,q,bw,bT,aO,m,k,ai,bc4,f' a7,f' (show a<aa b by omega),lx];cases oo o x y with
 |true =>rw[b6,l (a+1) (by omega)];congr 2;simp;omega
 |false=>grind
section
variable {al:gp} {ag:hI} {fs:eD} (h:fp al ag fs)
include h
theorem Q7(id:Int):CU ((al,ag,fs),id)=Z (match pathOf al ag id with|some l=>(l,0)|none=>([],7)):=by
 have hl:=h.pA;unfold CU;simp only;rw[Hd al ag fs id (by omega) (λa ha=>by have:=h.q4 ha;omega)]
 grind[px,pathOf,FG,hid,DX,bT,aw,ya]
theorem an8(d:Int):aa (xl al ag d)<=66:=by
 unfold xl;cases hp:pathOf al ag (la d)with
 |none=>simp
 |some l =>let ⟨a,ha,e⟩:=Ya hp;have:=h.q4 (FG ha);split<;>simp<;>omega
theorem Tw{d:Int}(hd:nY d):ES ((al,ag,fs),d)=Z (xl al ag d):=by
 have hlen:=an8 h d;unfold ES;unfold xl at hlen⊢;simp only;let ⟨h1,h2⟩:=hd
 grind[decide_eq_true,Q7,bT,la,pathOf,decide_eq_false,fx,Ka]
theorem aQ7{node:Int}{p:Int×bs}(hp:p∈np al ag node ag):EK ((al,ag,fs),p.1)=Z p.2:=by
 let ⟨a,ha,q,b,hc⟩:=h.GF (λ_ ha=>ha) hp;have c:=h.num ha;have hl:=h.Ce ha b
 grind[nY,EK,Tw,bT,xl,la,decide_eq_false,af,zB]
theorem bL8{n:b9}(a:n∈al):(kc al ag n).Pairwise (λd e=>oo n.2 (nv (rv [] (np al ag n.1 ag)) d) (nv (rv [] (np al ag n.1 ag)) e)=Y):=by
 let ⟨r,b⟩:=h.j7;have hs:=cT.1 (h.Mp b a).sorted;refine hs.imp_of_mem λ{d e} hd he g=>?_;let ⟨m1,s1,t1,_⟩:=h.tO b a hd;let ⟨m2,s2,t2,_⟩:=h.tO b a he;have ho:d' n.2=Y:=rS (h.tt a);have Ao:∀x∈kc al ag n,d' (nv (rv [] (np al ag n.1 ag)) x)=Y:=λx f=>by
  rw[(h.wG a).mem_iff]at f;obtain⟨p,hp,rfl⟩:=aM.1 f;have c:nv (rv [] (np al ag n.1 ag)) p.1=p.2:=by unfold nv;rw[E5 _ [] (h.Ci n.1 (λ_ ha=>ha) (pq h.rX)) p hp];rfl
  rw[c];exact(h.Px (h.vm a) (λ_ ha=>ha) hp).1
 exact(at2 _ m1 m2 s1 t1 s2 t2 ho (Ao d hd) (Ao e he)).2 g
end
end Dp
open Go Go.Sort Go.Proofs Go.Shelf Go.Pg
open fp (kc)
namespace Dp
def ay6{α:Type}{lt:α->α->Bool}:∀ {L:cu α},(∀x∈L,lt x x=U)->L.Pairwise (λx y=>lt x y=Y/\lt y x=U)->∀ {j:Nat} {y:α},L[j]?=Z y->L.countP (lt · y)=j
 | [],_,_,j,y,b=>by simp at b
 |a::L,c,hs,j,y,b=>by
  rw[aR]at hs;rw[lx];cases j
  grind[List.getElem?_cons_zero,ah,List.countP_eq_zero]
  rename_i j;rw[aI]at b;rw[ay6 (λx d=>c x (by simp[d])) hs.2 b,(hs.1 y (aG b)).1];rfl
section
variable {al:gp} {ag:hI} {fs:eD} (h:fp al ag fs)
include h
theorem av6(id:Int):CP ((al,ag,fs),id)=Z (match nQ al id with|some n=>kc al ag n|none=>[]):=by
 have hN:=h.qF;have hA:=h.pA;unfold CP;simp only;rw[KP al ag fs id];cases P:nQ al id with
 |none=>simp
 |some n=>
  have w:n.1=id:=by have:=dp P;simpa using this
  subst w;have u:n∈al:=ba P;have hraw:=h.Ci n.1 (λ_ ha=>ha) (pq h.rX);obtain⟨f,hf⟩:∃f,f=nv (rv [] (np al ag n.1 ag)):=⟨_,rfl⟩;have Q:∀p∈np al ag n.1 ag,f p.1=p.2:=λp hp=>by
   rw[hf];unfold nv
   grind[E5]
  have g:=h.wG u;have m:=bL8 h u;rw[<-hf]at m;have hlen:=fp.Kz (al:=al) (ag:=ag) n.1 ag;obtain⟨R,z⟩:∃R,R=(np al ag n.1 ag).map (·.1):=⟨_,rfl⟩;have hRl:aa R<=512:=by rw[z];simp;omega
  have sec:∀d∈R,EK ((al,ag,fs),d)=Z (f d):=λd hd=>by rw[z]at hd;obtain⟨p,hp,rfl⟩:=aM.1 hd;grind[aQ7]
  have o:∀d∈R,uR n.2 (f d):=λd hd=>by rw[z]at hd;obtain⟨p,hp,rfl⟩:=aM.1 hd;rw[Q p hp];exact h.Px P (λ_ ha=>ha) hp
  have ho:d' n.2=Y:=rS (h.tt u);rw[<-z]at g;simp only[bT,aw,bu];generalize hL:kc al ag n=L at g m⊢;have l:∀d,d∈L↔d∈R:=λd=>g.mem_iff;have B:∀ {j:Nat} {d:Int},L[j]?=Z d->(R.map f).countP (oo n.2 · (f d))=j:=λ{j d} hj=>by have hs:L.Pairwise (λx y=>oo n.2 (f x) (f y)=Y/\oo n.2 (f y) (f x)=U):=m.imp_of_mem λ{x y} v hy C=>⟨C,bT7 ho (o x ((l x).1 v)) (o y ((l y).1 hy)) C⟩;rw[List.countP_map,<-g.countP_eq];exact ay6 (lt:=λx y=>oo n.2 (f x) (f y)) (λx v=>Nl ho (o x ((l x).1 v))) hs hj
  refine vF (A:=eD) ag (λi a=>((i:Int),a)) (λ_ _=>Z L) (λi a=>a=(np al ag n.1 (ag.take i)).map (·.1)/\aa a<=2*i) (by omega) ?_ ?_ [] ⟨rfl,by simp⟩;intro rec a ⟨M,_⟩;rw[bI,<-z]at M;subst M;simp only[kj,bu];refine vF (A:=eY) a (λi b=>(b,(i:Int))) (λ_ _=>Z L) (λi b=>b=(a.take i).map f) (by omega) ?_ ?_ [] rfl;intro D b N;rw[bI]at N;simp only[kj,bu];refine Fq (λx=>∃j,j<=aa L/\x=L.take j) (aa L-·.length) (λ_=>Z L) ?_ ⟨0,by omega,by simp⟩ (by have:=g.length_eq;simp;omega);rintro E x ⟨j,hj,rfl⟩ ih;have hll:=g.length_eq;have S:aa b=aa a:=by rw[N];simp
  rw[da,dE hj];by_cases hjl:j=aa L
  grind[jK]
  have s:j<aa L:=by omega
  have hLj:L[j]?=Z L[j]:=af s;rw[fB (by omega),b6];let ⟨k0,hk0,hk1⟩:=a_ ((l L[j]).1 (aA s));refine vF (A:=Unit) a (λi _=>(i:Int)) (λ_ _=>Z L) (λi _=>∃k,i<=k/\a[k]?=Z L[j]) (by omega) ?_ ?_ () ⟨k0,by omega,by grind⟩
  grind[bA]
  rintro G i _ d rest a7 ⟨k,hk,e⟩ hd hr;have r:=oU hd;have H:d∈a:=aG r;let ⟨O,hj',hdj⟩:=a_ ((l d).2 H);have q:=B (j:=O) (d:=d) (by grind);rw[<-N]at q;have hbi:b[i]?=Z (f d):=by grind
  rw[fB a7,b6];refine(aT4 n.2 b (aa a) S (by omega) i (f d) hbi (λc=>cond (c=(j:Int)) (a8 (cond (0<=(i:Int)&&Y) (Z ()) W) λ_=>a8 (Option.map (λx=>x) a[((i:Nat):Int).toNat]?) λI=>a8 (j6 8 (L.take j) [I]) λJ=>E J) <|cond ((i:Int)=ek ((aa a:Int)-1)) (Z []) <|G (ek ((i:Int)+1)))).trans ?_;rw[q];by_cases ej:O=j;subst ej;have e0:No (0<=(i:Int))=Y:=hT (by omega);have:=ih (L.take (O+1)) ⟨O+1,by omega,rfl⟩ (by simp;omega);simp only[l6,b6,e0,fB a7,bw,bT,aO,r,ai]
  grind[m9,bT,bm]
  rw[ft (by omega),bu];have hne:k≠i:=λx=>by grind[aK,fO]
  have hka:k<aa a:=by grind[cU,bA]
  rw[fx,ft (by omega),bu,f' a7];exact hr () ⟨k,by omega,e⟩;intro D i b d rest a7 N hd hr;have r:=oU hd;have H:d∈a:=aG r
  grind[decide_eq_true,fB,bw,bT,aO,f',m9,bm]
  intro rec i a x rest a7 ⟨M,hIl⟩ hd hr;have v:x∈ag:=ax (hd▸aU ..);have hxi:=oU hd;have K:=h.num v;let ⟨q3,t,h1,h2,h3,h4,h5⟩:=h.path v;have er:(np al ag n.1 (ag.take (i+1))).map (·.1)=a++((ite (x.2.1=n.1) [x.1] [])++(ite (x.2.2.1=n.1) [-x.1] [])):=by
   rw[bm,hxi];unfold np;rw[List.flatMap_append,eQ,M];congr 1
   grind[kf,ph]
  simp only[fB a7,b6,iy hd,bT,f' a7,LX K]
  grind[decide_eq_true,m9,bT,decide_eq_false]
end
end Dp
open fp (kc ny ki l9)
namespace Dp
def sS(L:eD):eD:=(aQ (aa L)).map λi=>-((L[(i+1)%aa L]?).getD 0)
def aW5(L:eD):aa (sS L)=aa L:=by simp[sS]
theorem QW:∀ {l c:eD},l.Pairwise (·<·)->c.Pairwise (·<·)->(∀x,x∈l↔x∈c)->l=c
 | [],[],_,_,_=>rfl
 | [],b::c,_,_,h=>by have:=(h b).2 (by simp);simp at this
 |a::l,[],_,_,h=>by have:=(h a).1 (by simp);simp at this
 |a::l,b::c,h1,h2,h=>by
  rw[aR]at h1 h2;have d:a=b:=by
   have ha:=(h a).1 (by simp);have e:=(h b).2 (by simp)
   grind
  subst d;rw[QW h1.2 h2.2 λx=>?_]
  grind
def aQ4{l:eD}(h:l.Nodup):(l.mergeSort λa b=>No (a<=b)).Pairwise (·<·):=by have h1:=(cX l (λa b=>No (a<=b))).nodup_iff.2 h;have h2:=List.pairwise_mergeSort (le:=λa b:Int=>No (a<=b)) (by simp;omega) (by simp;omega) l;exact(h2.and h1).imp λ{a b} h=>by grind
def He{l:eD}(x:Int)(hl:aa l<2^62):Ib (l,x)=Z (No (x∈l)):=by
 unfold Ib;refine mP (A:=Unit) l (λi _=>(i:Int)) (λ_ rest=>Z (No (x∈rest))) (by omega) ?_ ?_ ()
 grind[decide_false]
 intro rec i _ y rest a7 hd a;have:=a ();simp only[fB a7,b6,iy hd,bT,f' a7 hl,this]
 grind[decide_eq_true,decide_eq_false]
section
variable {al:gp} {ag:hI} {fs:eD} (h:fp al ag fs)
include h
theorem Ww:(ny al ag).Nodup:=by unfold fp.ny fp.wF;rw[List.nodup_iff_pairwise_ne];refine d_.2 ⟨λl hl=>?_,cT.2 ?_⟩;obtain⟨n,c,rfl⟩:=aM.1 hl;exact h.E7 c;refine(cT.1 (pq h.vL)).imp_of_mem λ{a b} ha d f=>λx g y i e=>?_;subst e;have:=h.Mq ha d g i;subst this;omega
theorem aw5{d:Int}(hd:d∈ny al ag):1<=d/\d<=1073741824\/-1073741824<=d/\d<=-1:=by rw[h.uP]at hd;obtain⟨a,ha,e|e⟩:=hd<;>have:=h.num ha<;>omega
theorem aJ8{n:b9}(b:n∈al):(sS (kc al ag n)).map (ki al ag)=kc al ag n:=by
 have a:=h.E7 b;have key:=λe he=>h.Ap (n:=n) b (e:=e) he;generalize kc al ag n=L at *;refine List.ext_getElem (by simp[sS]) λi h1 h2=>?_;have hm:(i+1)%aa L<aa L:=dZ _ (by omega);simp only[sS,cB,List.getElem_range];rw[af hm,cw,key _ (aA hm),Go.Ab.Gt a hm];have e:((i+1)%aa L+aa L-1)%aa L=i:=by
  by_cases c:i+1=aa L
  grind[kg,cY]
  rw[cY (show i+1<aa L by omega),show i+1+aa L-1=i+aa L by omega,gv,cY (by omega)]
 simp only[e]
theorem aX3{n:b9}(a:n∈al){e:Int}(he:e∈kc al ag n):-e∈sS (kc al ag n):=by
 obtain⟨i,a7,rfl⟩:=a_ he;generalize kc al ag n=L at *;refine aM.2 ⟨(i+aa L-1)%aa L,ga.2 (dZ _ (by omega)),?_⟩;have e:((i+aa L-1)%aa L+1)%aa L=i:=by by_cases c:i=0;subst c;rw[cY (show 0+aa L-1<aa L by omega),show 0+aa L-1+1=aa L by omega,kg];rw[show i+aa L-1=i-1+aa L by omega,gv,cY (show i-1<aa L by omega),show i-1+1=i by omega,cY a7]
 grind
theorem bM8:Hv (al,ag,fs)=Z (al.flatMap (λn=>sS (kc al ag n)),ny al ag):=by
 have v:=h.qF;unfold Hv;have f:ny al ag=al.flatMap (kc al ag):=by grind[fp.ny,fp.wF]
 rw[f];refine vF (A:=eD×eD) al (λi a=>(a.1,a.2,(i:Int))) (λa rest=>Z (a.1++rest.flatMap (λn=>sS (kc al ag n)),a.2++rest.flatMap (kc al ag))) (λi a=>aa a.1<=512*i/\aa a.2<=512*i) (by omega) ?_ ?_ ([],[]) ⟨by simp,by simp⟩
 grind
 intro rec i a x rest a7 ⟨p,q⟩ hd w;have g:x∈al:=ax (hd▸aU ..);have r:=h.Mo g;simp only[fB a7,b6,iy hd,bT,av6 h,h.vm g,f' a7,b_];have k:∀y∈kc al ag x,y∈ny al ag:=λy o=>bU.2 ⟨_,aN g,o⟩;have s:=aW5 (kc al ag x);generalize z:kc al ag x=L at *;refine vF (A:=eD×eD) L (λi b=>(b.1,b.2,(i:Int))) (λ_ _=>Z (a.1++(sS L++rest.flatMap (λn=>sS (kc al ag n))),a.2++(L++rest.flatMap (kc al ag)))) (λi b=>b.1=a.1++(sS L).take i/\b.2=a.2++L.take i) (by omega) ?_ ?_ a ⟨by simp,by simp⟩;rintro d b ⟨g1,g2⟩
 grind[bI,jK,aX,bG]
 rintro d j b y B hj ⟨g1,g2⟩ e l;have m:=oU e;have o:=aG m;have c:(j+1)%aa L<aa L:=dZ _ (by omega);have hz:L[(j+1)%aa L]?=Z L[(j+1)%aa L]:=af c;have t:=aw5 h (k _ (aA c));have C:aa b.1<=512*i+j:=by grind
 have D:aa b.2<=512*i+j:=by grind
 have u:512*i<=512*256:=by omega
 simp only[fB hj,b6,f' hj,iy e,bT];rw[ft (by omega),bu,bT,show Int.tmod ((j+1:Nat):Int) (aa L:Int)=(((j+1)%aa L:Nat):Int)from rfl,zB,hz,bT,fx,m9,bT,m9,bT];refine l (b.1++[0-L[(j+1)%aa L]],b.2++[y]) ⟨?_,?_⟩
 grind[bm,bG,sS,kx,kf]
 grind[bm,bG]
theorem aZ0{F T:eD}(cb:F.map (ki al ag)=T)(dC:∀d∈ny al ag,d∈F)(hl:aa F<=1000000){d:Int}(hd:d∈ny al ag){m:Nat}(hm:0<m)(he:ot (ki al ag) d m=d)(q:(zg (ki al ag) d m).Nodup) :
  HW (F,T,d)=Z (zg (ki al ag) d m):=by
 have f:∀k,ot (ki al ag) d k∈ny al ag:=vU (λd hd=>h.qK hd) hd;have t:m<=aa F:=by
  have:aa (zg (ki al ag) d m)<=aa F:=by
   refine(fj q ?_)
   grind[td]
  simpa[zg]using this
 have u:aa T=aa F:=by rw[<-cb];simp
 unfold HW;refine Fq (λx=>x.1=U/\∃k,0<k/\k<=m/\x.2=zg (ki al ag) d k) (m-·.2.length) (λ_=>Z (zg (ki al ag) d m)) ?_ ⟨rfl,1,by omega,by omega,rfl⟩ (by simp;omega);rintro rec ⟨E,G⟩ ⟨l,k,v,w,r⟩ z;simp only at l r;subst l r;have hlen:aa (zg (ki al ag) d k)=k:=by simp[zg]
 simp only[hlen];rw[hT (by omega),b6];have b:(zg (ki al ag) d k)[k-1]?=Z (ot (ki al ag) d (k-1)):=by grind[zg,kx]
 refine vF (A:=Int) F (λi a=>((i:Int),a)) (λ_ _=>Z (zg (ki al ag) d m)) (ot (ki al ag) d (k-1)∈F.take ·->·=ot (ki al ag) d k) (by omega) ?_ ?_ 0 (by simp);intro g a n;rw[bI]at n;have ha:=n (dC _ (f _));subst ha;simp only[kj,bu];by_cases c:ot (ki al ag) d k=d;rw[hT c,b6];by_cases o:k=m;rw[o];exact b8 (av8 q (i:=k) (j:=0) (by omega) hm c) (by omega);have s:k≠m:=λe=>c (e▸he);rw[ft c,bu,m9 (by decide) (by simp[hlen];omega),bT,<-N4];exact z _ ⟨rfl,k+1,by omega,by omega,rfl⟩ (by simp[zg];omega);intro g i a x rest a7 n sX H;have B:=oU sX;have p:nth T (i:Int)=Z (ki al ag x):=by grind[zB]
 have C:No (0<=((k-1:Nat):Int))=Y:=hT (by omega);have l:No (((k-1:Nat):Int)<(k:Int))=Y:=hT (by omega);have D:ek ((k:Int)-1)=((k-1:Nat):Int):=by grind[fx]
 have I:ot (ki al ag) d k=ki al ag (ot (ki al ag) d (k-1)):=by
  have:k=k-1+1:=by omega
  rw[this];rfl
 simp only[fB a7,b6,iy sX,bT,D,C,l,bw,aO,b,ai,p,f' a7]
 grind[ot,ki,decide_eq_true,decide_eq_false,bm,absurd]
end
end Dp
namespace Dp
def W0(x:bs):∀(l:eY) (p:bs),oZ p (l++[x])=oZ p l+uA ((p::l).getLast (by simp)) x
 | [],p=>by simp[oZ]
 |q::l,p=>by simp only[cS,oZ,W0 x l q,gJ];omega
def Hm:eY->Int
 | []=>0
 |p::l=>oZ p l
def af6:∀l:eY,Hm l.reverse=- Hm l
 | []=>rfl
 | [p]=>by simp[Hm,oZ]
 |p::q::r=>by
  have d:=af6 (q::r);rw[iA];have c:(q::r).reverse≠[]:=by simp
  have b:(q::r).reverse.getLast c=q:=by simp
  generalize(q::r).reverse=L at *;cases L;exact b8 rfl c;rename_i a L;rw[cS];show oZ a (L++[p])=_;rw[W0,b];show _=-(uA p q+oZ q r);have:oZ a L=-(oZ q r):=d;rw[this];simp only[uA];omega
def bU1{β:Type}(p0:bs)(l:eY)(hl:aa l<=1000)(o:ub p0)(hc:∀q∈l,ub q)(acc:Int)(ha:-(2^60)<=acc/\acc<=2^60)(K:Int->dv β) :
  rounds (α:=Int×Int) (β:=β) (λj b=>
    cond (b.2<(aa (p0::l):Int)) (
    a8 (nth (p0::l) (ek (b.2-(1:Int)))) λc=>
    a8 (nth (p0::l) b.2) λd=>
    a8 (nth (p0::l) b.2) λe=>
    a8 (nth (p0::l) (ek (b.2-(1:Int)))) λf=>
    j ((ek ((ek (b.1+(ek (c.1*d.2))))-(ek (e.1*f.2)))),(ek (b.2+(1:Int))))) (
    K b.1)) (acc,(1:Int))=K (acc+oZ p0 l):=by
 refine(vF (A:=bs×Int) l (λi a=>(a.2,((i+1:Nat):Int))) (λa rest=>K (a.2+oZ a.1 rest)) (λi a=>(p0::l)[i]?=Z a.1/\ub a.1/\-(2^60)-(8796093022208*(i:Int))<=a.2/\a.2<=2^60+8796093022208*(i:Int)) (by omega) ?_ ?_ (p0,acc) ⟨rfl,o,by simp;omega,by simp;omega⟩);intro rec a h;simp only[aC,kj,bu,oZ,eU];intro rec i a x rest a7 h hd p;let ⟨h,hp,g1,g2⟩:=h;have m:(p0::l)[i+1]?=Z x:=by rw[aI];exact oU hd
 have k:x∈l:=ax (hd▸aU ..);have g:=hc x k;have r:ek (((i+1:Nat):Int)-1)=(i:Int):=by rw[fx];omega
 have s:ek (((i+1:Nat):Int)+1)=((i+1+1:Nat):Int):=f' (n:=2000000) (by omega);simp only[aC,fB (show i+1<aa l+1 by omega),b6,r,s,zB,h,m,bT];let ⟨v,a2⟩:=vI (A:=2097152) hp.1 hp.2.1 g.2.2.1 g.2.2.2;let ⟨w,z⟩:=vI (A:=2097152) g.1 g.2.1 hp.2.2.1 hp.2.2.2;rw[fx (n:=a.1.1*x.2),fx (n:=x.1*a.1.2),fx (n:=a.2+a.1.1*x.2),fx];have t:a.2+a.1.1*x.2-x.1*a.1.2=a.2+uA a.1 x:=by unfold uA;omega
 rw[t];have u:uA a.1 x=a.1.1*x.2-x.1*a.1.2:=rfl;have:=p (x,a.2+uA a.1 x) ⟨m,g,by simp only;omega,by simp only;omega⟩;refine this.trans ?_;simp only[oZ];congr 1;omega
section
variable {al:gp} {ag:hI} {fs:eD} (h:fp al ag fs)
include h
theorem aT9:HQ (al,ag,fs)=Z ((ny al ag).mergeSort λa b=>No (a<=b)):=by
 have u:=h.pA;have he:(ny al ag).mergeSort (λa b=>No (a<=b))=ag.reverse.map (-·.1)++ag.map (·.1):=by
  refine QW (aQ4 (Ww h)) ?_ λx=>?_;refine ke.2 ⟨?_,pq h.rX,?_⟩;rw[cT,List.pairwise_reverse];exact(cT.1 (pq h.rX)).imp λ{a b} x=>by omega
  intro x k y r;obtain⟨a,ha,rfl⟩:=aM.1 k;obtain⟨b,l,rfl⟩:=aM.1 r;have:=h.num (fP.1 ha);have:=h.num l;omega;rw[(cX _ _).mem_iff,h.uP,aV,aM,aM];constructor;rintro ⟨a,ha,rfl|rfl⟩;exact .inr ⟨a,ha,rfl⟩;exact .inl ⟨a,fP.2 ha,rfl⟩;rintro (⟨a,ha,rfl⟩|⟨a,ha,rfl⟩);exact⟨a,fP.1 ha,.inr rfl⟩;exact⟨a,ha,.inl rfl⟩
 rw[he];unfold HQ;simp only;rw[fx];have hk:=vF (A:=eD) (β:=eD) (S:=eD×Int) ag.reverse (F:=λs c=>
  cond ((0:Int)<=c.2) (
  a8 (nth ag c.2) λm=>
  a8 (j6 8 c.1 [(ek (0-m.1))]) λd=>
  s (d,(ek (c.2-(1:Int))))) (
  rounds (α:=eD×Int) (β:=eD) (λt e=>
   cond (e.2<(aa (ag):Int)) (
   a8 (nth ag e.2) λf=>
   a8 (j6 8 e.1 [f.1]) λg=>
   t (g,(ek (e.2+(1:Int))))) (
   Z e.1)) (c.1,(0:Int)))) (λi a=>(a,(aa ag:Int)-1-(i:Int))) (λa rest=>Z (a++(rest.map (-·.1)++ag.map (·.1)))) (λi a=>aa a=i) (by simp;omega) ?_ ?_ [] rfl
 simpa using hk;intro rec a q;simp only[ky]at q⊢;rw[ft (by omega),bu,dm,bZ];refine vF (A:=eD) ag (λi b=>(b,(i:Int))) (λb rest=>Z (b++rest.map (·.1))) (λi b=>aa b=aa a+i) (by omega) ?_ ?_ a (by simp);intro j b l;simp only[kj,bu,dm,cg];intro j i b x rest a7 l hd n;simp only[fB a7,b6,iy hd,bT,f' a7];rw[m9,bT,n _ (by simp;omega)];simp;intro rec i a x rest a7 q hd n;have o:i<aa ag:=by simpa using a7
 have k:=oU hd;have p:x∈ag:=fP.1 (ax (hd▸aU ..));rw[List.getElem?_reverse o]at k;simp only;rw[hT (by omega),b6,show(aa ag:Int)-1-(i:Int)=((aa ag-1-i:Nat):Int)by omega,zB,k,bT,LX (h.num p),m9,bT,fx];have:=n (a++[-x.1]) (by simp;omega);rw[show((aa ag-1-i:Nat):Int)-1=(aa ag:Int)-1-((i+1:Nat):Int)by omega];refine this.trans ?_;simp
theorem aq4:EI (al,ag,fs)=Z (l9 al ag,0):=by
 have H:=h.MJ;have v:=Ww h;have j:∀d∈ny al ag,ki al ag d∈ny al ag:=λd hd=>h.qK hd;have inj:∀d∈ny al ag,∀e∈ny al ag,ki al ag d=ki al ag e->d=e:=λd hd e he x=>h.Ov hd he x;unfold EI;rw[aB6 h,bM8 h,aT9 h];simp only[bT,l6,aw,bu];have cb:(al.flatMap (λn=>sS (kc al ag n))).map (ki al ag)=ny al ag:=by
  have:ny al ag=al.flatMap (kc al ag):=by unfold fp.ny fp.wF;rw[List.flatMap_def]
  rw[this,List.map_flatMap];have key:∀l:gp,(∀n∈l,n∈al)->l.flatMap (λa=>cD (ki al ag) (sS (kc al ag a)))=l.flatMap (kc al ag):=by
   intro l
   induction l with
   |nil=>intro _;rfl
   |cons n l w =>intro hl;rw[b_,b_,w (λm hm=>hl m (by simp[hm])),aJ8 h (hl n (by simp))]
  exact key al λ_ x=>x
 have dC:∀d∈ny al ag,d∈al.flatMap (λn=>sS (kc al ag n)):=λd hd=>by have h2:=h.JN hd;let ⟨l,hl,q⟩:=bU.1 h2;obtain⟨n,k,rfl⟩:=aM.1 hl;refine cW.2 ⟨n,k,?_⟩;have:=aX3 h k q;rwa [je]at this
 have r:aa (al.flatMap (λn=>sS (kc al ag n)))=aa (ny al ag):=by rw[<-cb];simp
 generalize al.flatMap (λn=>sS (kc al ag n))=F at cb dC r;have f:=cX (ny al ag) (λa b=>No (a<=b));unfold fp.l9;generalize I:(ny al ag).mergeSort (λa b=>No (a<=b))=L at f⊢;have z:aa L=aa (ny al ag):=f.length_eq;refine vF (A:=cu eD) L (λi b=>(b,b.flatten,(i:Int))) (λb rest=>Z (qW (ki al ag) (ny al ag) rest b.flatten b,0)) (λi b=>aa b<=i/\ze (ki al ag) (ny al ag) b) (by omega) ?_ ?_ [] ⟨by simp,by simp,by simp⟩;intro rec b _;simp only[kj,bu,qW];intro rec i b x rest a7 ⟨B,g⟩ hd u;have p:x∈ny al ag:=f.mem_iff.1 (ax (hd▸aU ..));have C:aa b.flatten<=512:=by have:=fj g.nodup (PL j inj g · ·);omega
 simp only[fB a7,b6,iy hd,bT,He x (by omega:aa b.flatten<2^62),f' a7];by_cases hs:x∈b.flatten;rw[hT hs,b6,u b ⟨by omega,g⟩]
 conv=>rhs;unfold qW
 rw[cr hs];rw[ft hs,bu];have hz:b.flatten++zg (ki al ag) x 0=b.flatten:=by simp[zg]
 let ⟨m,hm,he,hf,k⟩:=Nc j inj p (Rt j inj g) (PL j inj g) hs (pV (ny al ag) b.flatten+1) 0 (by rw[hz];exact g.nodup) (by rw[hz];omega);rw[hz]at hf;have s:rn (ki al ag) (pV (ny al ag) b.flatten+1) b.flatten x []=(zg (ki al ag) x m,b.flatten++zg (ki al ag) x m):=hf;have o:=(dO.1 k).2.1;have D:m<=512:=by
  have:=fj o (λy E=>by
   obtain⟨i,_,rfl⟩:=td.1 E;exact vU j p i:∀y∈zg (ki al ag) x m,y∈ny al ag)
  simp[zg]at this;omega
 rw[aZ0 h cb dC (by omega) p hm he o];have G:aa (zg (ki al ag) x m)=m:=by simp[zg]
 rw[bT,m9,bT,m9,bT];have e:b.flatten++zg (ki al ag) x m=(b++[zg (ki al ag) x m]).flatten:=by simp
 have t:ze (ki al ag) (ny al ag) (b++[zg (ki al ag) x m]):=by
  refine⟨λc hc=>?_,by rw[<-e];exact k⟩;rcases aV.1 hc with hc|hc
  exact g.y5 c hc;simp at hc;exact⟨x,m,p,hm,he,hc⟩
 have:=u (b++[zg (ki al ag) x m]) ⟨by simp;omega,t⟩;rw[e];refine this.trans ?_
 conv=>rhs;unfold qW
 rw[cc hs];simp only[s];rw[e]
theorem K0{d:Int}(hd:nY d):AT ((al,ag,fs),d)=Z (Am ag d):=by
 have b:=h.pA;let ⟨d1,d2⟩:=hd;unfold AT Am;simp only;rw[fx,Hd al ag fs d (by omega) (λa ha=>by have:=h.q4 ha;omega),Hd al ag fs (0-d) (by omega) (λa ha=>by have:=h.q4 ha;omega)];by_cases c:0<d;rw[hT c,b6,cc (by omega),show la d=d by unfold la;omega];cases px ag d with
 |none=>rfl
 |some a=>simp[c]
 rw[ft c,bu];by_cases c0:d=0;subst c0;rfl;rw[cc c0,hT (by omega),b6,show la d=0-d by unfold la;omega];cases px ag (0-d)with
 |none=>rfl
 |some a=>simp[c]
theorem aU0{d:Int}(hd:nY d)(f:d≠0)(ha:∃a∈ag,a.1=la d):HR ((al,ag,fs),d)=Z Y:=by
 have k:=h.pA;let ⟨d1,d2⟩:=hd;unfold HR;have key:H' ((al,ag,fs),d)=Z (match ag.find? (λb=>No (b.1=d)||No (b.1=-d))with|some b=>(b,!decide (b.1=d),Y)|none=>((0,0,0,[],0,0),U,U)):=by
  unfold H';refine mP (A:=Unit) ag (λi _=>(i:Int)) (λ_ rest=>Z (match rest.find? (λb=>No (b.1=d)||No (b.1=-d))with|some b=>(b,!decide (b.1=d),Y)|none=>((0,0,0,[],0,0),U,U))) (by omega) ?_ ?_ ();intro rec _;simp only[kj,bu,List.find?_nil];intro rec i _ x rest a7 c g;have:=g ();have j:ek (0-d)=-d:=by rw[fx];omega
  simp only[fB a7,b6,iy c,bT,f' a7,this,j,eA];by_cases c1:x.1=d;rw[hT c1];simp only[b6,jT];rw[hT c1];rfl;rw[ft c1,bu];by_cases c2:x.1=-d;rw[hT c2];simp only[b6,Bool.or_true];rw[ft c1];rfl;rw[ft c2,bu];simp
 simp only[key,bT];let ⟨a,ha,e⟩:=ha;cases hf:ag.find? (λb=>No (b.1=d)||No (b.1=-d))with
 |none =>have:=gf.1 hf a ha;unfold la at e;simp at this;omega
 |some b=>simp[f]
theorem QJ{od:eD}(hc:aa od<=512)(hm:∀d∈od,nY d/\d≠0/\∃a∈ag,a.1=la d):xh ((al,ag,fs),od)=Z (l5 al ag od):=by
 unfold xh;simp only;rw[ft (by omega),bu];refine(vF (A:=Int) od (λi a=>(a,(i:Int))) (λa rest=>Z (a+l5 al ag rest)) (λi a=>-(571746046443520*(i:Int))<=a/\a<=571746046443520*(i:Int)) (by omega) ?_ ?_ 0 ⟨by simp,by simp⟩).trans (by simp);intro rec a _;simp only[kj,bu,l5,eU];intro rec i a d rest a7 ⟨g1,g2⟩ hd p;have g:d∈od:=ax (hd▸aU ..);let ⟨k,r,ha⟩:=hm d g;let ⟨p0,l,hp,hl,c0,cl⟩:=h.It ha;simp only[fB a7,b6,iy hd,bT,aU0 h k r ha,aw,bu,Tw h k,f' a7];obtain⟨qN,m,e,s,n,o⟩:∃qN m,xl al ag d=qN::m/\aa m<=65/\ub qN/\∀q∈m,ub q:=by
  have b:∀q∈xl al ag d,ub q:=λq e=>by
   unfold xl at e;rw[hp]at e;have:q∈p0::l:=by split at e;exact e;exact fP.1 e
   rcases aF.1 this with rfl|x
   exact c0;exact cl q x
  have hlen:aa (xl al ag d)=aa l+1:=by unfold xl;rw[hp];split<;>simp
  cases f:xl al ag d with
  |nil=>rw[f]at hlen;simp at hlen
  |cons qN m =>rw[f]at hlen b;exact⟨qN,m,rfl,by simp at hlen;omega,b qN (by simp),λq e=>b q (by simp[e])⟩
 have j:vi al ag d=oZ qN m:=by
  have t:oZ qN m=Hm (xl al ag d):=by rw[e];rfl
  rw[t];unfold vi xl;rw[hp];simp only[cw];by_cases c:0<d;rw[cc (by omega),cr c];rfl;rw[cr (by omega),cc c,af6];rfl
 rw[e];refine(bU1 qN m (by omega) n o a (by omega) (λA=>rec (A,((i+1:Nat):Int)))).trans ?_;let ⟨u,v⟩:=Nd m qN n o;rw[p (a+oZ qN m) (by omega),l5,j];congr 1;omega
end
end Dp
namespace Dp
theorem Q8{d:Int}(hd:nY d):zi d=Z (la d):=by
 let ⟨h1,h2⟩:=hd
 grind[zi,fx,yP,la]
def QN{a b p:bs}(ha:d' a=Y)(c:d' b=Y)(hp:d' p=Y):zh (a,b,p)=Z (l7 a b p):=by
 let ⟨⟨g,h⟩,i,j⟩:=BY ha c;let ⟨⟨k,l⟩,d,f⟩:=BY ha hp;have c1:=vR (a:=b.1-a.1) (b:=p.2-a.2) (m:=4194304) (n:=4194304);have c2:=vR (a:=p.1-a.1) (b:=b.2-a.2) (m:=4194304) (n:=4194304);unfold zh;simp only[bT];rw[fx (n:=b.1-a.1),fx (n:=p.2-a.2),fx (n:=p.1-a.1),fx (n:=b.2-a.2),fx (n:=(b.1-a.1)*(p.2-a.2)),fx (n:=(p.1-a.1)*(b.2-a.2)),fx];have e:(b.1-a.1)*(p.2-a.2)-(p.1-a.1)*(b.2-a.2)=fr a b p:=by grind[fr,bX]
 rw[e]
 grind[te,decide_eq_true,decide_eq_false]
def bc6{a b p:bs}(ha:d' a=Y)(d:d' b=Y)(hp:d' p=Y):EZ (a,b,p)=Z (n' a b p):=by
 unfold EZ;simp only[QN ha d hp,bT,KS,yP,n',ha,d,hp,bY,sU];have e:No (l7 a b p=0)=No (fr a b p=0):=by apply decide_eq_decide.2;rcases te ha d hp with⟨c,s⟩|⟨c,s⟩|⟨c,s⟩<;>omega
 grind[fr]
theorem ah7{a b p:bs}(ha:d' a=Y)(d:d' b=Y)(hp:d' p=Y):l7 b a p=- l7 a b p:=by
 have e:fr b a p=- fr a b p:=by unfold fr;grind
 rcases te ha d hp with⟨c,s⟩|⟨c,s⟩|⟨c,s⟩<;>rcases te d ha hp with⟨f,s'⟩|⟨f,s'⟩|⟨f,s'⟩<;>omega
theorem aq9{q a b:bs}(c:d' q=Y)(ha:d' a=Y)(d:d' b=Y):Go.Ab.pg q a b=yZ q a b:=by grind[ah7,Go.Ab.pg,yZ,decide_eq_true,l7,decide_eq_false]
theorem aL4{q a b:bs}(c:d' q=Y)(ha:d' a=Y)(d:d' b=Y):Go.Ab.pg q b a=Go.Ab.pg q a b:=by grind[ah7,Go.Ab.pg,iI]
def bE1(a b p:bs):n' b a p=n' a b p:=by grind[n',d',fr,sU,jE,jF]
def VX(g:bs->bs->Int)(x:bs):∀(l:eY) (p:bs),oN g p (l++[x])=oN g p l+g ((p::l).getLast (by simp)) x
 | [],p=>by simp[oN]
 |q::l,p=>by simp only[cS,oN,VX g x l q,gJ];omega
def W2(q x:bs):∀(l:eY) (p:bs),qa q p (l++[x])=(qa q p l||n' ((p::l).getLast (by simp)) x q)
 | [],p=>by simp[qa]
 |y::l,p=>by simp only[cS,qa,W2 q x l y,gJ,ma]
theorem Oc{q:bs}(d:d' q=Y):∀ {l:eY},(∀p∈l,d' p=Y)->pY q l.reverse=pY q l
 | [],_=>rfl
 | [p],_=>rfl
 |p::y::r,hl=>by
  have e:=Oc d (l:=y::r) (λx f=>hl x (by simp[f]));rw[iA];have c:(y::r).reverse≠[]:=by simp
  have b:(y::r).reverse.getLast c=y:=by simp
  generalize(y::r).reverse=L at *;cases L;exact b8 rfl c;rename_i a L;rw[cS];show oN (nG q) a (L++[p])=nG q p y+oN (nG q) y r;rw[VX,b];have:oN (nG q) a L=oN (nG q) y r:=e
  grind[nG,aL4]
theorem aD6{q:bs}:∀ {l:eY},pB q l.reverse=pB q l
 | []=>rfl
 | [p]=>rfl
 |p::y::r=>by
  have d:=aD6 (q:=q) (l:=y::r);rw[iA];have c:(y::r).reverse≠[]:=by simp
  have b:(y::r).reverse.getLast c=y:=by simp
  generalize(y::r).reverse=L at *;cases L;exact b8 rfl c;rename_i a L;rw[cS];show qa q a (L++[p])=(n' p y q||qa q y r);rw[W2,b];have:qa q a L=qa q y r:=d;rw[this,bE1,iI]
def bT6{q p0:bs}{l:eY}(hl:aa l<=100000)(j:d' q=Y)(o:d' p0=Y)(r:∀p∈l,d' p=Y)(n:Int)(K:Bool->dv Bool) :
  rounds (α:=Int×Bool) (β:=Bool) (λe b=>
   cond (b.1<(aa (p0::l):Int)) (
   a8 (nth (p0::l) (ek (b.1-(1:Int)))) λc=>
   a8 (nth (p0::l) b.1) λd=>
   a8 (EZ (c,d,q)) λh=>
   cond h (
    Z U) (
    cond (d.2<c.2) (
    cond (d.2<=q.2) (
     cond (q.2<c.2) (
     a8 (zh (d,c,q)) λf=>
     cond ((0:Int)<f) (
      e ((ek (b.1+(1:Int))),(!(b.2)))) (
      e ((ek (b.1+(1:Int))),b.2))) (
     e ((ek (b.1+(1:Int))),b.2))) (
     e ((ek (b.1+(1:Int))),b.2))) (
    cond (c.2<=q.2) (
     cond (q.2<d.2) (
     a8 (zh (c,d,q)) λf=>
     cond ((0:Int)<f) (
      e ((ek (b.1+(1:Int))),(!(b.2)))) (
      e ((ek (b.1+(1:Int))),b.2))) (
     e ((ek (b.1+(1:Int))),b.2))) (
     e ((ek (b.1+(1:Int))),b.2))))) (
   K b.2)) ((1:Int),No (n%2=1))=bif pB q (p0::l)then Z U else K (No ((n+pY q (p0::l))%2=1)):=by
 refine vF (A:=bs×Int) l (λi a=>(((i+1:Nat):Int),No (a.2%2=1))) (λa rest=>cond (qa q a.1 rest) (Z U) <|K (No ((a.2+oN (nG q) a.1 rest)%2=1))) (λi a=>(p0::l)[i]?=Z a.1/\d' a.1=Y) (by omega) ?_ ?_ (p0,n) ⟨rfl,o⟩;intro rec a _;simp only[aC,kj,bu,qa,oN,eU];intro rec i a x rest a7 ⟨s,hp⟩ hd m;have k:(p0::l)[i+1]?=Z x:=by rw[aI];exact oU hd
 have g:=r x (ax (hd▸aU ..));have t:ek (((i+1:Nat):Int)-1)=(i:Int):=by grind[fx]
 have u:ek (((i+1:Nat):Int)+1)=((i+1+1:Nat):Int):=f' (n:=2000000) (by omega);simp only[aC,fB (show i+1<aa l+1 by omega),b6,t,u,zB,s,k,bT,bc6 hp g j,QN hp g j,QN g hp j,qa,oN];cases n' a.1 x q with
 |true=>simp only[b6,jT]
 |false=>
  simp only[bu,db];have v:=m (x,a.2) ⟨k,g⟩;have w:=m (x,a.2+1) ⟨k,g⟩
  grind[dc,decide_eq_false_iff_not,aq9,nG,yZ,qa,oN,l7,iq]
section
variable {al:gp} {ag:hI} {fs:eD} (h:fp al ag fs)
include h
theorem S4{d:Int}(hd:nY d):CW ((al,ag,fs),d)=Z (xl al ag d):=by grind[an8,CW,Q8,bT,Q7,xl,pathOf,la,decide_eq_false,Ka]
theorem Qb{d:Int}(ha:∃a∈ag,a.1=la d):∃p0 l,xl al ag d=p0::l/\aa l<=65/\d' p0=Y/\(∀p∈l,d' p=Y)/\∃q5 b,pathOf al ag (la d)=Z (q5::b)/\(xl al ag d=q5::b\/xl al ag d=(q5::b).reverse):=by
 let ⟨q5,b,hp,hl,c0,cl⟩:=h.It ha;have f:∀p,ub p->d' p=Y:=λp hp=>(wH p).2 hp;have hc:xl al ag d=q5::b\/xl al ag d=(q5::b).reverse:=by grind[xl]
 have c:∀q∈xl al ag d,d' q=Y:=λq g=>by grind
 have hlen:aa (xl al ag d)=aa b+1:=by grind
 cases e:xl al ag d<;>grind[xl]
theorem aJ6{m:cu (Int×eY)}(hm:∀a∈ag,fh gd a.1 m=pathOf al ag a.1){c:eD}(hc:aa c<=1000000)(hd:∀d∈c,nY d/\∃a∈ag,a.1=la d){q:bs}(k:d' q=Y) :
  CN ((al,ag,fs),c,q)=Z (nF m c q):=by
 have v:=h.pA;have key:CN ((al,ag,fs),c,q)=Z (No ((∀d∈c,pB q (xl al ag d)=U)/\((0:Int)+gg c λd=>pY q (xl al ag d))%2=1)):=by
  unfold CN;refine vF (A:=Int) c (λi n=>(No (n%2=1),(i:Int))) (λn rest=>Z (No ((∀d∈rest,pB q (xl al ag d)=U)/\(n+gg rest λd=>pY q (xl al ag d))%2=1))) (λ_ _=>True) (by omega) ?_ ?_ 0 trivial;intro rec n _;simp only[kj,bu,gg,eU];congr 1
  grind
  intro rec i n d rest a7 _ g o;let ⟨j,ha⟩:=hd d (ax (g▸aU ..));let ⟨p0,l,hp,hl,n0,nl,_⟩:=Qb h ha;simp only[fB a7,b6,iy g,bT,S4 h j,hp,f' a7];refine(bT6 (by omega) k n0 nl n (λb=>rec (b,((i+1:Nat):Int)))).trans ?_;rw[o _ trivial];cases ho:pB q (p0::l)with
  |true=>grind[decide_eq_false_iff_not]
  |false =>rw[bu];congr 1;apply decide_eq_decide.2;simp only[aF,forall_eq_or_imp,hp,ho,qj,gg,iq]
 rw[key];congr 1;rw[di,decide_eq_true_iff,FU,gR];have same:∀d∈c,pB q (xl al ag d)=pB q ((fh gd (la d) m).getD [])/\pY q (xl al ag d)=pY q ((fh gd (la d) m).getD []):=λd f=>by
  let ⟨j,a,ha,e⟩:=hd d f;let ⟨p0,l,hp,hl,n0,nl,q5,w,p,r⟩:=Qb h ⟨a,ha,e⟩
  grind[fh,la,aD6,Oc,xl]
 have s:(∀d∈c,pB q (xl al ag d)=U)↔(∀d∈c,pB q ((fh gd (la d) m).getD [])=U) :=⟨λt d f=>by grind,λt d f=>by grind⟩;have u:(gg c λd=>pY q (xl al ag d))=gg c λd=>pY q ((fh gd (la d) m).getD []):=ns λd f=>(same d f).2;rw[s,u]
end
end Dp
open Classical
namespace Dp
section
variable {al:gp} {ag:hI} {fs:eD} (h:fp al ag fs)
include h
theorem X8{r:cu fy}(b:zb al ag ag=Z r){m:cu (Int×eY)}(hm:∀a∈ag,fh gd a.1 m=pathOf al ag a.1){n:b9}(i:n∈al){e:Int}(he:e∈kc al ag n){C:eD}(j:C∈l9 al ag)(hc:0<l5 al ag C){d:Int}(hd:d∈C)(l:(h.tw b).qX (va al ag d) (va al ag e)):nF m C n.2=U:=by
 cases o:nF m C n.2 with
 |false=>rfl
 |true=>
  exfalso;have f:d' n.2=Y:=rS (h.tt i);have hO:=h.outer b j hc hd;have u:=(h.tO b i he).1;have p:=(h.tO b i he).2.1;have t:=h.OJ b hm j ((FU m _ C).1 o).1;have g:((m8 r).hY (h.j8 b)).L ((h.tw b).mv C) (va al ag e)=1:=by rw[h.Ox b i he λk hk hs=>(h.tw b).Bw (t k hk hs)];exact h.MT b f hm j hc o
  have:=hO.own _ l;rw[g]at this;have s:(h.tw b).c (va al ag e)=C:=by by_cases q:(h.tw b).c (va al ag e)=C;exact q;rw[tk q]at this;cases this
  grind[va]
theorem aF1{r:cu fy}(b:zb al ag ag=Z r){m:cu (Int×eY)}(hm:∀a∈ag,fh gd a.1 m=pathOf al ag a.1){n q:b9}(p:n∈al)(f:q∈al){e s:Int}(he:e∈kc al ag n)(g:s∈kc al ag q)(j:(h.tw b).qX (va al ag e) (va al ag s)){C:eD}(i:C∈l9 al ag)(hc:0<l5 al ag C) :
  nF m C n.2=nF m C q.2:=by
 by_cases o:∃d∈C,(h.tw b).qX (va al ag d) (va al ag e);let ⟨d,hd,o⟩:=o;rw[X8 h b hm p he i hc hd o,X8 h b hm f g i hc hd (Net.nK.oc _ o j)];have no:∀d∈C,¬(h.tw b).qX (va al ag d) (va al ag e):=λd hd l=>o ⟨d,hd,l⟩;have t:∀d∈C,¬(h.tw b).qX (va al ag d) (va al ag s):=λd hd l=>o ⟨d,hd,Net.nK.oc _ l (Net.nK.xC _ j)⟩;have o1:=h.Xl b p he hm i no;have o2:=h.Xl b f g hm i t;have nq:=h.OJ b hm i o1;have z2:=h.OJ b hm i o2;have u:=h.MU b (at':=n.2) (rS (h.tt p)) hm i o1;have w:=h.MU b (at':=q.2) (rS (h.tt f)) hm i o2;have l2:=h.Ox b p he (c:=C) λk hk hs=>(h.tw b).Bw (nq k hk hs);have x8:=h.Ox b f g (c:=C) λk hk hs=>(h.tw b).Bw (z2 k hk hs);have g1:=h.tO b p he;have g2:=h.tO b f g;have v:=(h.tw b).Bd ((m8 r).w8 (h.j8 b)) C j g1.1
 grind[va]
theorem NW{n:b9}(b:n∈al){e:Int}(he:e∈kc al ag n):(xl al ag e)[0]?=Z n.2:=by
 let ⟨a,ha,hc⟩:=(h.zF b).1 he;let ⟨f,t,h1,h2,d,_⟩:=h.path ha;have g:=h.num ha;unfold xl;rcases hc with⟨c,rfl⟩|⟨c,rfl⟩
 rw[show la a.1=a.1 by unfold la;omega,d,cr (by omega)];rw[c,h.vm b]at h1;cases h1;rfl;rw[show la (-a.1)=a.1 by unfold la;omega,d,cc (by omega)];rw[c,h.vm b]at h2;cases h2;simp
theorem Og{m:cu (Int×eY)}(hm:∀a∈ag,fh gd a.1 m=pathOf al ag a.1){D:eD}(g:D∈l9 al ag):∃q,(xl al ag (D.headD 0))[0]?=Z q/\d' q=Y/\d' (rq m D)=Y/\∀C∈l9 al ag,0<l5 al ag C->nF m C q=nF m C (rq m D):=by
 let ⟨r,j⟩:=h.j7;let ⟨d1,yG⟩:=h.Dg g;have hd:D.headD 0∈D:=by cases D;simp at yG;rename_i x l;simp
 have b:=h.zS g hd;let ⟨l,hl,i⟩:=bU.1 b;obtain⟨t,c,rfl⟩:=aM.1 hl;let ⟨d,k,n,p,e,he,hp,f,o⟩:=h.bi4 j hm g;refine⟨_,NW h c i,rS (h.tt c),f,λC s hc=>?_⟩;rw[hp];refine(aF1 h j hm p c he i ?_ s hc).symm;refine Net.nK.oc _ o (h.VS j g k _ ?_ (h.MY b j));show wh al ag (qw (va al ag (D.headD 0)))=D;rw[h.BD b];exact h.Iu g hd
end
def af0{m:cu (Int×eY)}{p q:bs}{L:cu kI}:∀(r:cu kI) (i b:Nat),(∀x∈r,nF m x.2.1 p=nF m x.2.1 q)->rz m p L r i b=rz m q L r i b
 | [],_,_,_=>rfl
 |x::r,i,b,a=>by unfold rz;rw[a x (by simp)];exact af0 r _ _ λy c=>a y (by simp[c])
def aI6{m:cu (Int×eY)}{p q:bs}{L:cu kI}(a:∀x∈L.tail,nF m x.2.1 p=nF m x.2.1 q):oI m L p=oI m L q:=af0 _ _ _ a
def bX4{m:cu (Int×eY)}{q:bs}{L:cu kI}(hk:oI m L q=0):∀x∈L.tail,nF m x.2.1 q=U:=by
 have:=NF (m:=m) (at':=q) (L:=L) L.tail [] 0 rfl (bE ⟨rfl,by simp⟩);rw[bZ,show rz m q L L.tail (aa ([]:cu kI)+1) 0=0 from hk]at this;rcases this with⟨_,h2⟩|⟨y,_,h2,_⟩
 exact h2;omega
def m_(al:gp)(ag:hI):cu eD:=(l9 al ag).filter λc=>No (0<l5 al ag c)
def xn(al:gp)(ag:hI):cu eD:=(l9 al ag).filter λc=>!decide (0<l5 al ag c)
def q8(al:gp)(ag:hI)(q:bs):eD:=((m_ al ag).find? λc=>nF (l8 al ag) c q&&(m_ al ag).all λa=>!nF (l8 al ag) a q||No (l5 al ag c<=l5 al ag a)).getD []
def pL(al:gp)(ag:hI)(outs:cu eD):cu kI:=(0,[],[],[])::outs.map λc=>(l5 al ag c,c,[],[])
section
variable {al:gp} {ag:hI} {fs:eD} (h:fp al ag fs)
include h
theorem SC{c:eD}{q:bs}(g:d' q=Y)(hc:c∈m_ al ag)(he:nF (l8 al ag) c q=Y)(hl:∀b∈m_ al ag,nF (l8 al ag) b q=Y->l5 al ag c<=l5 al ag b):q8 al ag q=c:=by
 have hm:∀a∈ag,fh gd a.1 (l8 al ag)=pathOf al ag a.1:=λa ha=>h.D1 ha;unfold q8;have xO:∀x:eD,(nF (l8 al ag) x q&&(m_ al ag).all λb=>!nF (l8 al ag) b q||No (l5 al ag x<=l5 al ag b))=Y↔nF (l8 al ag) x q=Y/\∀b∈m_ al ag,nF (l8 al ag) b q=Y->l5 al ag x<=l5 al ag b:=λx=>by grind[aj,nF,l8]
 cases hf:(m_ al ag).find? λc=>nF (l8 al ag) c q&&(m_ al ag).all λb=>!nF (l8 al ag) b q||No (l5 al ag c<=l5 al ag b)with
 |none=>grind[gf,absurd]
 |some x=>
  have i:=ba hf;have d:=dp hf;let ⟨j,k⟩:=(xO x).1 d;rw[cw];refine fV λe=>?_;have f:=aW.1 i;have a2:=aW.1 hc;have:=h.bh6 g hm f.1 a2.1 e (pK f.2) (pK a2.2) j he
  grind
theorem aC5{q:bs}(hl:∀c∈m_ al ag,nF (l8 al ag) c q=U):q8 al ag q=[]:=by grind[q8,gf]
theorem aH9{outs:cu eD}(hp:∀c,c∈outs↔c∈m_ al ag){q:bs}(f:d' q=Y):([]::outs)[oI (l8 al ag) (pL al ag outs) q]?=Z (q8 al ag q):=by
 cases hk:oI (l8 al ag) (pL al ag outs) q with
 |zero =>have:=bX4 hk;rw[aC5 h λc hc=>this (l5 al ag c,c,[],[]) (aN ((hp c).2 hc))];rfl
 |succ k=>
  let ⟨y,a,he,hl⟩:=bR7 hk;unfold pL at a;rw[aI,aS]at a;cases hc:outs[k]? with
  |none=>rw[hc]at a;cases a
  |some c =>rw[hc]at a;cases a;rw[aI,hc,SC h f ((hp c).1 (aG hc)) he λb d e=>hl (l5 al ag b,b,[],[]) (aN ((hp b).2 d)) e]
end
end Dp
namespace Dp
theorem as3{a b:Int}(ha:nY a)(c:nY b):∃r,EF (a,b)=Z r:=by unfold EF;simp only[Q8 ha,Q8 c,bT];exact sn ⟨_,rfl⟩ (sn ⟨_,rfl⟩ ⟨_,rfl⟩)
theorem bm8{c:eD}(hl:aa c<=1000000)(hc:c≠[])(hd:∀d∈c,nY d):∃k,C0 c=Z k/\nY k:=by
 cases c;exact b8 rfl hc;rename_i d r;unfold C0;have e:nth (d::r) (0:Int)=Z d:=by rw[show(0:Int)=((0:Nat):Int)by rfl,zB];rfl
 rw[e,bT];refine vB (A:=Int) (d::r) (λi a=>((i:Int),a)) (λo=>∃k,o=Z k/\nY k) (λ_ a=>nY a) (by omega) ?_ ?_ d (hd d (by simp))
 grind
 intro rec i a x rest a7 ha b f;have g:=hd x (ax (b▸aU ..))
 grind[as3,fB,iy,bT,f']
def swap_perm{α:Type}{l:cu α}{j:Nat}{c:α}(hj:0<j)(hl:j<aa l):((l.set j (l[j-1]'(by omega))).set (j-1) c).Perm (l.set j c):=by
 obtain⟨A,x,y,B,e,a⟩:∃A x y B,l=A++x::y::B/\aa A=j-1:=by
  refine⟨l.take (j-1),l[j-1],l[j],l.drop (j+1),?_,by simp;omega⟩
  grind[dQ,bL]
 subst e;have ex:(A++x::y::B)[j-1]'(by omega)=x:=by simp[List.getElem_append,a]
 rw[ex];have s1:∀z:α,(A++x::y::B).set j z=A++x::z::B:=λz=>by rw[fJ j z (by omega),show j-aa A=1 by omega];rfl
 rw[s1,s1,fJ _ _ (by omega),show j-1-aa A=0 by omega,List.set_cons_zero];exact(List.Perm.swap ..).append_left A
section
variable {al:gp} {ag:hI} {fs:eD} (h:fp al ag fs)
include h
theorem w7{c:eD}(hc:c∈l9 al ag):c≠[]/\aa c<=512/\∀d∈c,nY d/\d≠0/\∃a∈ag,a.1=la d:=h.wK.od c hc
theorem aO6:∃outs,EJ (al,ag,fs)=Z outs/\outs.Perm (m_ al ag):=by
 have E:=h.wK.len;unfold EJ;rw[aq4 h];simp only[bT];have n:∀c∈l9 al ag,∃k,C0 c=Z k/\nY k:=λc hc=>by
  let ⟨c1,c2,Q⟩:=w7 h hc
  grind[bm8]
 have f:∀c∈l9 al ag,xh ((al,ag,fs),c)=Z (l5 al ag c):=λc hc=>by grind[w7,QJ]
 unfold m_;generalize l9 al ag=cs at *;refine vB (A:=cu eD) cs (λi a=>(a,(i:Int))) (λo=>∃outs:cu eD,o=Z outs/\outs.Perm (cs.filter λc=>No (0<l5 al ag c))) (λi a=>a.Perm ((cs.take i).filter λc=>No (0<l5 al ag c))) (by omega) ?_ ?_ [] (by simp)
 grind[bI]
 intro rec i a c rest a7 z hd G;have q:=oU hd;have hc:c∈cs:=aG q;have H:aa a<=i:=by
  have h1:=z.length_eq
  grind[bJ,l5,List.length_take_le]
 have B:∀x∈a,x∈cs:=λx I=>kb (aW.1 (z.mem_iff.1 I)).1;have J:(cs.take (i+1)).filter (λc=>No (0<l5 al ag c))=(cs.take i).filter (λc=>No (0<l5 al ag c))++(ite (0<l5 al ag c) [c] []):=by grind[bm,l5]
 simp only[fB a7,b6,iy hd,bT,f c hc,f' a7];by_cases R:0<l5 al ag c;rw[ft (by omega),bu,m9,bT];let ⟨S,r,s⟩:=n c hc;simp only[r,bT];refine V5 (λx=>∃j:Nat,x.2=(j:Int)/\j<=aa a/\aa x.1=aa a+1/\(∀y∈x.1,y∈cs)/\(x.1.set j c).Perm (a++[c])) (·.2.toNat) (λo=>∃outs:cu eD,o=Z outs/\outs.Perm (cs.filter λc=>No (0<l5 al ag c))) ?_ ⟨aa a,rfl,by omega,by simp,?_,?_⟩ (by simp;omega);rintro C ⟨l,jj⟩ ⟨j,e,hj,t,p,hp⟩ K;simp only at e t p hp;subst e;have fin:∀o,o=rec (l.set j c,((i+1:Nat):Int))->∃outs,o=Z outs/\outs.Perm (cs.filter λc=>No (0<l5 al ag c)):=λo ho=>by
  rw[ho];refine G (l.set j c) ?_
  grind
 have M:No (0<=(j:Int))=Y:=hT (by omega);have d:j<aa l:=by omega
 have D:qI l j (λx y=>y) c=Z (l.set j c):=by unfold qI;rw[af d]
 by_cases u:0<j;have g:j-1<aa l:=by omega
 let ⟨k2,v,w⟩:=n _ (p _ (aA g));let ⟨b,N⟩:=as3 s w;have O:ek ((j:Int)-1)=((j-1:Nat):Int):=by grind[fx]
 have P:No (0<=((j-1:Nat):Int))=Y:=hT (by omega);simp only[hT (by omega:(0:Int)<(j:Int)),b6,O,M,P,fB g,fB d,bw,bT,aO,af g,ai,v,N];cases b
 grind[bT]
 simp only[b6];have m:qI l j (λx y=>y) l[j-1]=Z (l.set j l[j-1]):=by unfold qI;rw[af d]
 rw[m,bT];refine K _ ⟨j-1,rfl,by omega,by simp;omega,λy hy=>?_,(swap_perm u d).trans hp⟩ (by simp;omega)
 grind[List.mem_or_eq_of_mem_set,aA]
 grind[decide_eq_false,fB,bw,bT,aO]
 grind
 grind[fJ,kz]
 grind[decide_eq_true]
theorem BT{c:eD}(hc:c∈m_ al ag):c∈l9 al ag/\0<l5 al ag c:=by
 have:=aW.1 hc
 grind
theorem ax5{outs:cu eD}(ho:∀c∈outs,c∈m_ al ag)(hl:aa outs<=512){q:bs}(r:d' q=Y):AM ((al,ag,fs),outs,q)=Z ((oI (l8 al ag) (pL al ag outs) q:Int)-1):=by
 have hm:∀a∈ag,fh gd a.1 (l8 al ag)=pathOf al ag a.1:=λa ha=>h.D1 ha;have d:∀c∈outs,CN ((al,ag,fs),c,q)=Z (nF (l8 al ag) c q):=λc hc=>by grind[w7,BT,aJ6]
 have k:∀c∈outs,xh ((al,ag,fs),c)=Z (l5 al ag c):=λc hc=>by grind[w7,BT,QJ]
 unfold AM;unfold oI;refine(vF (A:=Nat) outs (λi b=>((i:Int),(b:Int)-1)) (λb rest=>Z (((rz (l8 al ag) q (pL al ag outs) (rest.map λc=>(l5 al ag c,c,[],[])) (aa outs-aa rest+1) b:Nat):Int)-1)) (λi b=>b<=i) (by omega) ?_ ?_ 0 (by omega)).trans ?_
 grind[rz]
 intro rec i b c rest a7 s hd f;have e:=oU hd;have hc:c∈outs:=aG e;have l:=(rl hd).2.1;have m:nth outs (i:Int)=Z c:=iy hd;simp only[fB a7,b6,m,bT,d c hc,f' a7,aq,rz];rw[show aa outs-aa (c::rest)+1=i+1 by grind[aC]];have g:=f (i+1) (by omega);have j:=f b (by omega);rw[show aa outs-aa rest+1=i+1+1 by omega]at g j;rw[show((i+1:Nat):Int)-1=(i:Int)by omega]at g;cases he:nF (l8 al ag) c q with
 |false=>rw[bu,iz,bu];exact j
 |true=>
  rw[b6,fg];by_cases n:b=0
  grind[decide_eq_true]
  rw[ft (by omega),bu,ft n,db];have o:b-1<aa outs:=by omega
  have p:nth outs ((b:Int)-1)=Z outs[b-1]:=by grind[zB,af]
  have t:xd (pL al ag outs) b=l5 al ag outs[b-1]:=by
   unfold xd pL
   grind[aI,af]
  grind[bT,aA,l5]
 rw[Nat.sub_self];rfl
end
end Dp
namespace Dp
theorem aL3(al:gp)(ag:hI)(fs:eD)(id:Int)(ha:aa ag<=1000000):HL ((al,ag,fs),id)=Z ((na ag id:Nat):Int):=by
 unfold HL;refine(vF (A:=Nat) ag (λi a=>((i:Int),(a:Int))) (λa rest=>Z (((a+na rest id:Nat)):Int)) (λi a=>a<=2*i) (by omega) ?_ ?_ 0 (by omega)).trans (by simp);intro rec a d;simp[na];intro rec i a x rest a7 d hd c;have e:ek ((a:Int)+1)=((a+1:Nat):Int):=f' (n:=2000000000) (by omega);have f:ek (((a+1:Nat):Int)+1)=((a+1+1:Nat):Int):=f' (n:=2000000000) (by omega);have b:na (x::rest) id=((ite (x.2.1=id) 1 0)+(ite (x.2.2.1=id) 1 0))+na rest id:=rfl;simp only[fB a7,b6,iy hd,bT,f' a7,e,f];by_cases c1:x.2.1=id<;>by_cases c2:x.2.2.1=id;simp only[hT c1,hT c2,b6];rw[c (a+1+1) (by omega),b,cr c1,cr c2];congr 2;omega;simp only[hT c1,ft c2,b6,bu];rw[c (a+1) (by omega),b,cr c1,cc c2];congr 2;omega;simp only[ft c1,hT c2,b6,bu];rw[c (a+1) (by omega),b,cc c1,cr c2];congr 2;omega
 grind[decide_eq_false]
def yO(k:eD->Nat):cu eD->cu kI->cu kI
 | [],L=>L
 |c::r,L=>yO k r (oY L (k c) c)
def xm(k:b9->Nat):gp->cu kI->cu kI
 | [],L=>L
 |n::r,L=>xm k r (p_ L (k n) n.1)
def an1(L:cu kI)(k:Nat)(c:Int)(i:Nat):(p_ L k c)[i]?=(L[i]?).map (λx=>(x.1,x.2.1,x.2.2.1,x.2.2.2++(ite (k=i) [c] []))):=by grind[p_,cU,bA]
theorem at4(L:cu kI)(k:Nat)(c:eD):aa (oY L k c)=aa L:=by grind[oY]
theorem as0(L:cu kI)(k:Nat)(c:Int):aa (p_ L k c)=aa L:=by grind[p_]
def az7(k:eD->Nat):∀(R:cu eD) (L:cu kI) (i:Nat),(yO k R L)[i]?=(L[i]?).map (λx=>(x.1,x.2.1,x.2.2.1++R.filter (λc=>No (k c=i)),x.2.2.2))
 | [],L,i=>by simp[yO]
 |c::R,L,i=>by
  unfold yO;rw[az7 k R,Pd,dS]
  grind
def ay0(k:b9->Nat):∀(R:gp) (L:cu kI) (i:Nat),(xm k R L)[i]?=(L[i]?).map (λx=>(x.1,x.2.1,x.2.2.1,x.2.2.2++(R.filter (λn=>No (k n=i))).map (·.1)))
 | [],L,i=>by simp[xm]
 |n::R,L,i=>by
  unfold xm;rw[ay0 k R,an1,dS]
  grind
def rm(al:gp)(ag:hI)(c:eD):cu eD:=(xn al ag).filter λd=>No (q8 al ag (rq (l8 al ag) d)=c)
def r7(ag:hI)(n:b9):Bool:=No (na ag n.1=0)
def wP(al:gp)(ag:hI)(c:eD):eD:=((al.filter (r7 ag)).filter λn=>No (q8 al ag n.2=c)).map λn=>n.1
abbrev uC(al:gp)(ag:hI)(c:eD):kI:=(0,c,rm al ag c,wP al ag c)
section
variable {al:gp} {ag:hI} {fs:eD} (h:fp al ag fs)
include h
theorem bX0:(m_ al ag).Nodup:=h.bg0.filter _
theorem Pc{outs:cu eD}(hp:outs.Perm (m_ al ag)){q:bs}(a:d' q=Y){i:Nat}{c:eD}(a7:([]::outs)[i]?=Z c):(oI (l8 al ag) (pL al ag outs) q=i)↔q8 al ag q=c:=by
 have hf:=aH9 h (outs:=outs) (λc=>hp.mem_iff) a;have b:([]::outs).Nodup:=cx.2 ⟨λhm=>by
  have:=(w7 h (BT h (hp.mem_iff.1 hm)).1).1;exact this rfl,hp.nodup_iff.2 (bX0 h)⟩
 grind[aK,au,fO]
theorem aE9:∃outs:cu eD,outs.Perm (m_ al ag)/\EJ (al,ag,fs)=Z outs/\CL (al,ag,fs)=Z (([]::outs).map (uC al ag)):=by
 let ⟨outs,ho,hp⟩:=aO6 h
 refine⟨outs,hp,ho,?_⟩;have hN:=h.qF;have hA:=h.pA;have R:=h.wK.len;have hm:∀a∈ag,fh gd a.1 (l8 al ag)=pathOf al ag a.1:=λa ha=>h.D1 ha;have o:aa outs<=512:=by
  have h1:=hp.length_eq
  grind[bJ,l5,l9,m_]
 have p:∀c∈outs,c∈m_ al ag:=λc hc=>hp.mem_iff.1 hc;have j:∀c∈l9 al ag,xh ((al,ag,fs),c)=Z (l5 al ag c):=λc hc=>by grind[w7,QJ]
 have s:∀q,oI (l8 al ag) (pL al ag outs) q<aa outs+1:=λq=>N9 _ _ _ _ _ _ _ (by simp[pL];omega) (by omega);have S:∀D∈l9 al ag,∃d r,D=d::r/\CW ((al,ag,fs),d)=Z (xl al ag d)/\∃q,nth (xl al ag d) (0:Int)=Z q/\AM ((al,ag,fs),outs,q)=Z ((oI (l8 al ag) (pL al ag outs) (rq (l8 al ag) D):Int)-1):=λD z=>by
  let ⟨c1,c2,c3⟩:=w7 h z
  let ⟨q,B,C,_,E⟩:=Og h hm z
  cases D with
  |nil=>exact b8 rfl c1
  |cons d r=>
   refine⟨d,r,rfl,S4 h (c3 d (by simp)).1,q,by rw[show(0:Int)=((0:Nat):Int)by rfl,zB];exact B,?_⟩;rw[show q=q from rfl,ax5 h p o C,aI6];intro x hx;obtain⟨c,hc,rfl⟩:=aM.1 (show x∈outs.map λc=>(l5 al ag c,c,[],[])from hx)
   grind[BT]
 have kN:∀n∈al,AM ((al,ag,fs),outs,n.2)=Z ((oI (l8 al ag) (pL al ag outs) n.2:Int)-1):=λn t=>ax5 h p o (rS (h.tt t));obtain⟨e,u⟩:∃e:eD->Nat,e=λD=>oI (l8 al ag) (pL al ag outs) (rq (l8 al ag) D):=⟨_,rfl⟩;obtain⟨b,k⟩:∃b:b9->Nat,b=λn=>oI (l8 al ag) (pL al ag outs) n.2:=⟨_,rfl⟩;have run:CL (al,ag,fs)=Z (xm b (al.filter (r7 ag)) (yO e (xn al ag) (([]::outs).map λc=>(0,c,[],[])))):=by
  unfold CL;simp only;rw[ho];simp only[bT];refine vF (A:=cu Ct) outs (λi L=>(U,(i:Int),L)) (λ_ _=>Z (xm b (al.filter (r7 ag)) (yO e (xn al ag) (([]::outs).map λc=>(0,c,[],[]))))) (λi L=>L=([]::outs.take i).map (λc=>((0,c,(),()):Ct))) (by omega) ?_ ?_ _ rfl
  .intro rec L O
   rw[bI]at O;simp only[kj,bu];rw[aq4 h];simp only[bT];have v:zs (λx:Ct=>((x.1,x.2.1,([]:cu eD),([]:eD)):kI)) L=Z (([]::outs).map λc=>(0,c,[],[])):=by
    unfold zs;have:No (16*aa L<=tY)=Y:=by grind[aL,aC]
    rw[this,O,cI];rfl
   rw[v,bT];generalize G:l9 al ag=cs at *;unfold xn;rw[G];refine vF (A:=cu kI) cs (λi L=>((i:Int),L)) (λL rest=>Z (xm b (al.filter (r7 ag)) (yO e (rest.filter λc=>!decide (0<l5 al ag c)) L))) (λi L=>aa L=aa outs+1/\∀a∈L,aa a.2.2.1<=i/\aa a.2.2.2=0) (by omega) ?_ ?_ _ ⟨by simp,by simp⟩
   .rintro w L ⟨l2,x8⟩
    simp only[kj,bu,jI,yO];refine vF (A:=cu kI) al (λi L=>((i:Int),L)) (λL rest=>Z (xm b (rest.filter (r7 ag)) L)) (λi L=>aa L=aa outs+1/\∀a∈L,aa a.2.2.2<=i) (by omega) ?_ ?_ L ⟨l2,λa ha=>by have:=(x8 a ha).2;omega⟩
    .grind[xm]
    rintro P i L n rest a7 ⟨l2,x8⟩ hd H;have t:n∈al:=ax (hd▸aU ..);have E:No (((na ag n.1:Nat):Int)=0)=r7 ag n:=by grind[r7,na]
    simp only[fB a7,b6,iy hd,bT,aL3 al ag fs n.1 (by omega),E,f' a7,cC,kN n t];cases hz:r7 ag n with
    |false=>grind
    |true=>
     rw[b6,cr rfl,xm];have hk:b n<aa L:=by rw[k,l2];exact s _
     have l:oI (l8 al ag) (pL al ag outs) n.2=b n:=by rw[k]
     rw[l];have m:L[b n]?=Z L[b n]:=af hk;have I:=x8 _ (aA hk);have r:=H (p_ L (b n) n.1) ⟨by rw[as0];exact l2,λa ha=>by
      obtain⟨J,K,rfl⟩:=a_ ha;have g:=an1 L (b n) n.1 J
      grind[af,as0,aK,aA,aX]⟩
     have M:ek ((1:Int)+((b n:Int)-1))=(b n:Int):=by grind[fx]
     have N:(No (0<=(b n:Int))&&No ((b n:Int)<((aa L:Nat):Int)))=Y:=by grind
     generalize L[b n]=y at *;have f:j6 8 y.2.2.2 [n.1]=Z (y.2.2.2++[n.1]):=m9;simp only[M,aO,m,ai,bT,N,b6,uM,f,qI]
     grind[p_]
   rintro w i L c rest a7 ⟨l2,x8⟩ hd H;have hc:c∈cs:=ax (hd▸aU ..);simp only[fB a7,b6,iy hd,bT,j c hc,f' a7,cC];by_cases ht:0<l5 al ag c
   .grind[decide_eq_false,decide_eq_true]
   let ⟨d,r0,ec,ep,q,eq,Q⟩:=S c hc
   have l:oI (l8 al ag) (pL al ag outs) (rq (l8 al ag) c)=e c:=by rw[u]
   rw[l]at Q;have n0:nth c (0:Int)=Z d:=by grind[zB]
   rw[hT (by omega),b6,ft ht,cr (by decide),yO];have hk:e c<aa L:=by rw[u,l2];exact s _
   have m:L[e c]?=Z L[e c]:=af hk;have I:=x8 _ (aA hk);have r:=H (oY L (e c) c) ⟨by rw[at4];exact l2,λa ha=>by
    obtain⟨J,K,rfl⟩:=a_ ha;have g:=Pd L (e c) c J
    grind[af,at4,aK,aA,aX]⟩
   have M:ek ((1:Int)+((e c:Int)-1))=(e c:Int):=by grind[fx]
   have N:(No (0<=(e c:Int))&&No ((e c:Int)<((aa L:Nat):Int)))=Y:=by grind
   generalize L[e c]=y at *;have f:j6 24 y.2.2.1 [c]=Z (y.2.2.1++[c]):=m9;simp only[n0,ep,eq,Q,bT,M,aO,m,ai,N,b6,uM,f,qI]
   grind[oY]
  grind[fB,iy,bT,f',m9,bm,oU]
 rw[run];congr 1;apply e_;intro i;rw[ay0,az7,aS,aS,dS,dS];cases a7:([]::outs)[i]? with
 |none=>rfl
 |some c=>
  simp only[ai,k_,bZ];unfold uC rm wP;have B:(xn al ag).filter (λc=>No (e c=i))=(xn al ag).filter (λd=>No (q8 al ag (rq (l8 al ag) d)=c)):=iB λD z=>by
   let ⟨_,_,_,E,_⟩:=Og h hm (aW.1 z).1
   grind[Pc]
  have C:(al.filter (r7 ag)).filter (λn=>No (b n=i))=(al.filter (r7 ag)).filter (λn=>No (q8 al ag n.2=c)):=iB λn t=>by rw[k];exact decide_eq_decide.2 (Pc h hp (rS (h.tt (aW.1 t).1)) a7)
  rw[B,C]
end
end Dp
namespace Dp
def T9{l:eD}(x:Int)(hl:aa l<2^62):Ia (l,x)=Z (No (x∈l)):=He x hl
def bd7{l:eD}(x:Int)(hl:aa l<=1000000)(hs:l.Pairwise (·<·)):∃s,H4 (l,x)=Z s/\s.Pairwise (·<·)/\(∀y,y∈s↔y=x\/y∈l)/\aa s<=aa l+1:=by
 unfold H4;simp only[T9 x (by omega:aa l<2^62),bT];by_cases m:x∈l
 grind[decide_eq_true]
 rw[ft m,bu];have put:∀i:Nat,i<=aa l->(∀y∈l.take i,y<x)->(∀y∈l.drop i,x<y)->∃s,(a8 (tx l W (Z (i:Int))) λg=>a8 (j6 8 ([]:eD) g) λa=>a8 (j6 8 a [x]) λb=>a8 (tx l (Z (i:Int)) W) λc=>a8 (j6 8 b c) λd=>Z d)=Z s/\s.Pairwise (·<·)/\(∀y,y∈s↔y=x\/y∈l)/\aa s<=aa l+1:=λi a7 h1 h2=>by
  rw[N0 a7,bT,m9,bT,m9,bT,af1 (by omega) (by omega),bT,m9,bT];refine⟨_,rfl,?_,?_,?_⟩;rw[aO,bZ]
  grind
  grind[dQ,aO,cq]
  simp;omega
 refine vB (A:=Unit) l (λi _=>(i:Int)) (λo=>∃s:eD,o=Z s/\s.Pairwise (·<·)/\(∀y,y∈s↔y=x\/y∈l)/\aa s<=aa l+1) (λi _=>∀y∈l.take i,y<x) (by omega) ?_ ?_ () (by simp);intro rec _ h;simp only[kj,bu];exact put (aa l) (by omega) h (by simp);intro rec i _ y rest a7 h hd n;simp only[fB a7,b6,iy hd,bT,f' a7];have j:=oU hd;have k:=aG j;by_cases f:y<x;rw[hT f,b6];refine n () λz hz=>?_
 grind[bm]
 rw[ft f,bu];have p:y≠x:=λe=>m (e▸k);have hp:=hs.sublist (lf i l);rw[hd,aR]at hp;refine put i (by omega) h λz hz=>?_
 grind
def nx(ag:hI)(c:eD):Int:=Am ag (c.headD 0)
theorem OE{ag:hI}{k:Nat}:∀ {l:cu kI} {seen out:eD},((oH ag k U l seen out).2=Y↔(∀a∈l,(∀c∈qD a,∀d∈c,Am ag d=nx ag a.2.1)/\nx ag a.2.1≠0/\nx ag a.2.1∉seen)/\(l.map λa=>nx ag a.2.1).Nodup/\aa seen+aa l=k)/\((oH ag k U l seen out).2=Y->(oH ag k U l seen out).1=out++l.map λa=>nx ag a.2.1)
 | [],seen,out=>by simp[oH];omega
 |x::l,seen,out=>by
  have:=@OE ag k l (seen++[nx ag x.2.1]) (out++[nx ag x.2.1]);simp only[oH];change((cond (nx ag x.2.1=0||nx ag x.2.1∈seen) _ <|cond ((qD x).all (λc=>c.all λd=>No (Am ag d=nx ag x.2.1))) (oH ag k U l (seen++[nx ag x.2.1]) (out++[nx ag x.2.1])) _).2=Y↔_)/\((cond (nx ag x.2.1=0||nx ag x.2.1∈seen) _ <|cond ((qD x).all (λc=>c.all λd=>No (Am ag d=nx ag x.2.1))) (oH ag k U l (seen++[nx ag x.2.1]) (out++[nx ag x.2.1])) _).2=Y->(cond (nx ag x.2.1=0||nx ag x.2.1∈seen) _ <|cond ((qD x).all (λc=>c.all λd=>No (Am ag d=nx ag x.2.1))) (oH ag k U l (seen++[nx ag x.2.1]) (out++[nx ag x.2.1])) _).1=_);by_cases h1:nx ag x.2.1=0;simp[h1];by_cases h2:nx ag x.2.1∈seen;simp[h1,h2];cases b:(qD x).all (λc=>c.all λd=>No (Am ag d=nx ag x.2.1))with
  |false=>simp[h1,h2];simp at b;grind
  |true=>
   simp only[h1,h2,n4,jn,bu,b6];simp at b;simp only[aq,cx,aF,aC,aX,aV]at this⊢
   grind
structure CD(al:List b9)(ag:List ct)(fs:List Int):Prop where
 zero:∀D∈rm al ag [],∀d∈D,Am ag d=0
 all:∀c∈m_ al ag,∀D∈c::rm al ag c,∀d∈D,Am ag d=nx ag c
 ne:∀c∈m_ al ag,nx ag c≠0
 j0:((m_ al ag).map (nx ag)).Nodup
 len:aa (m_ al ag)=aa fs
section
variable {al:gp} {ag:hI} {fs:eD} (h:fp al ag fs)
include h
theorem au5:(nP al ag).map sE=([]::m_ al ag).map λc=>(l5 al ag c,c,rm al ag c):=by
 have hm:∀a∈ag,fh gd a.1 (l8 al ag)=pathOf al ag a.1:=λa ha=>h.D1 ha;apply e_;intro i;have b:AW al ag (l9 al ag)=pL al ag (m_ al ag):=rfl;unfold nP sL;rw[aS,aS];have g1:=at3 (al:=al) (ag:=ag) (m:=l8 al ag) al (sw (l8 al ag) (xn al ag) (pL al ag (m_ al ag))) i;rw[aD0 (xn al ag) (pL al ag (m_ al ag)) rfl i,dS]at g1;have d:(sE:kI->_)=λx=>(x.1,x.2.1,x.2.2.1):=rfl;rw[d,b];refine g1.trans ?_;have e:(pL al ag (m_ al ag))[i]?=(([]::m_ al ag)[i]?).map λc=>(l5 al ag c,c,[],[]):=by cases i;rfl;rename_i i;unfold pL;rw[aI,aI,aS]
 rw[e,dS];cases a7:([]::m_ al ag)[i]? with
 |none=>rfl
 |some c=>
  simp only[ai,k_,bZ];unfold rm;congr 3;refine iB λD f=>?_;let ⟨_,_,_,g,_⟩:=Og h hm (aW.1 f).1
  grind[Pc,kz]
theorem RP:∃a l,nP al ag=a::l/\a.2.1=[]/\a.2.2.1=rm al ag []/\l.map sE=(m_ al ag).map λc=>(l5 al ag c,c,rm al ag c):=by
 have b:=au5 h;cases d:nP al ag with
 |nil=>rw[d]at b;cases b
 |cons a l =>rw[d]at b;simp only[aq,bW]at b;exact⟨a,l,rfl,by grind[sE],by grind[sE],b.2⟩
theorem Dt:(oH ag (aa fs) Y (nP al ag) [] []).2=Y↔CD al ag fs:=by
 let ⟨a,l,e,i,j,f⟩:=RP h;have q:∀Q:Int×eD×cu eD->Prop,(∀b∈l,Q (sE b))↔∀c∈m_ al ag,Q (l5 al ag c,c,rm al ag c):=λQ=>by rw[<-kB (P:=Q),f,kB]
 have gb:(l.map λa=>nx ag a.2.1)=(m_ al ag).map (nx ag):=by have:=Ar (cD λx:Int×eD×cu eD=>nx ag x.2.1) f;rw[cI,cI]at this;exact this
 have g:=Ar aa f;have z:=q λx=>(∀c∈x.2.1::x.2.2,∀d∈c,Am ag d=nx ag x.2.1)/\nx ag x.2.1≠0;have it:=(@OE ag (aa fs) l [] [0]).1;rw[e];simp only[oH,bZ];rw[gb]at it;simp only[aL,List.not_mem_nil,not_false_eq_true,and_true,dA,bd]at g it;have k:(∀c∈qD a,∀d∈c,Am ag d=0)↔∀D∈rm al ag [],∀d∈D,Am ag d=0:=by simp[qD,i,j]
 cases ha:(qD a).all λc=>c.all λd=>No (Am ag d=0)with
 |false =>simp only[bu];simp at ha;exact⟨λx=>by simp at x,λF=>by have:=k.2 F.zero;grind⟩
 |true =>simp only[aj,kA]at ha;rw[b6,it];refine⟨λ⟨m,n,o⟩=>?_,λF=>⟨?_,F.j0,by rw[g,F.len]⟩⟩;have:=z.1 m;exact⟨k.1 ha,λc hc=>(this c hc).1,λc hc=>(this c hc).2,n,by omega⟩;exact z.2 λc hc=>⟨F.all c hc,F.ne c hc⟩
theorem Xe(hf:(oH ag (aa fs) Y (nP al ag) [] []).2=Y):tT al ag fs=(nP al ag).map λa=>nx ag a.2.1:=by
 let ⟨a,l,e,b,_⟩:=RP h;unfold tT;rw[e]at hf⊢;simp only[oH,bZ]at hf⊢;have it:=(@OE ag (aa fs) l [] [0]).2;cases ha:(qD a).all λc=>c.all λd=>No (Am ag d=0)with
 |false=>rw[ha]at hf;cases hf
 |true =>rw[ha]at hf;rw[b6,it hf,aq,b];rfl
theorem aM4{a:ct}(ha:a∈ag):(a.2.2.2.2.1=0\/a.2.2.2.2.1∈fs)/\(a.2.2.2.2.2=0\/a.2.2.2.2.2∈fs):=by
 have b:=h.conn
 grind[vP,sC,bc]
theorem aL2(d:Int):Am ag d=0\/Am ag d∈fs:=by
 unfold Am;split;exact .inl rfl;cases ha:px ag (la d)with
 |none=>exact .inl rfl
 |some a=>
  have:=aM4 h (FG ha)
  grind
theorem bi0(F:CD al ag fs)(f:Int):f∈(m_ al ag).map (nx ag)↔f∈fs:=by
 have a:fs.Nodup:=(pq h.E8).imp λh=>by omega
 have sub:∀x∈(m_ al ag).map (nx ag),x∈fs:=λx b=>by
  obtain⟨c,hc,rfl⟩:=aM.1 b;rcases aL2 h (c.headD 0)with e|e
  exact b8 e (F.ne c hc);exact e
 refine⟨sub f,λhf=>?_⟩;exact PF F.j0 sub (by rw[aL,F.len];omega) f hf
end
end Dp
namespace Dp
abbrev ov(al:gp)(ag:hI)(c:eD):kI:=(nx ag c,c,rm al ag c,wP al ag c)
section
variable {al:gp} {ag:hI} {fs:eD} (h:fp al ag fs)
include h
theorem ar7{c D:eD}(a:D∈rm al ag c):aa D<=1000000/\∀d∈D,nY d:=by let ⟨_,c2,b⟩:=w7 h (aW.1 (aW.1 a).1).1;grind[w7]
theorem aF3(c:eD):aa (rm al ag c)<=512:=by
 have h1:=bJ (λd=>No (q8 al ag (rq (l8 al ag) d)=c)) (xn al ag);have h2:=bJ (λc=>!decide (0<l5 al ag c)) (l9 al ag);have:=h.wK.len
 grind[rm,xn]
end
end Dp
namespace Dp
theorem F_(k:Int):wj k=Z (om k):=BH k
theorem bO8(k:Int):om k=0\/om k=1\/om k=2\/om k=3:=by
 have h:=BH k
 grind[wv,ah]
theorem ba9{l:eD}(x:Int)(hl:aa l<2^62):EW (l,x)=Z (No (x∈l)):=He x hl
noncomputable def DM(f:AL):Int:=cond (om f.2.1=3) f.2.1 0
theorem Oq(S:cu (sI×Bool))(k c:sI):uN (wC sd k Y S) c=(No (c=k)||uN S c):=by
 have eq:∀a b:sI,sd a b=No (a=b):=λa b=>by
  unfold sd
  grind[eB]
 unfold uN
 induction S<;>grind[fh,wC,decide_eq_true,decide_eq_false]
end Dp
open Go.Pg
open fp (kc ny ki l9)
set_option maxRecDepth 10000
namespace Dp
def VW(g:bs->bs->Int)(x:bs)(B:eY):∀(A:eY) (p:bs),oN g p (A++x::B)=oN g p (A++[x])+oN g x B
 | [],p=>by simp[oN]
 |a::A,p=>by simp only[cS,oN,VW g x B A a];omega
def Lo(P:Int->eY)(z:bs):eD->Prop
 | []=>True
 | [d]=>(P d).getLast?=Z z
 |d::e::r=>(P d).getLast?=(P e).head?/\Lo P z (e::r)
def ay3{q z:bs}{P:Int->eY}:∀ {c:eD},c≠[]->(∀d∈c,2<=aa (P d))->Lo P z c->pY q (c.flatMap (λd=>(P d).dropLast)++[z])=gg c λd=>pY q (P d)
 | [],h,_,_=>b8 rfl h
 | [d],_,hl,hc=>by
  have h2:=hl d (by simp);have f:P d≠[]:=λe=>by rw[e]at h2;simp at h2
  have hc:(P d).getLast?=Z z:=hc;rw[iO f]at hc;simp only[b_,fX,cg,gg,eU];rw[<-aK hc,iW f]
 |d::e::r,_,hl,hc=>by
  let ⟨h1,h2⟩:=hc;have g:=ay3 (q:=q) (by simp) (λx i=>hl x (by simp[i])) h2;have l2:=hl d (by simp);have x8:=hl e (by simp);have f:P d≠[]:=λx=>by rw[x]at l2;simp at l2
  obtain⟨x,t,j⟩:∃x t,(e::r).flatMap (λd=>(P d).dropLast)++[z]=x::t/\(P e).head?=Z x:=by
   cases hp:P e with
   |nil=>rw[hp]at x8;simp at x8
   |cons a s =>cases s;rw[hp]at x8;simp at x8;rename_i b s;exact⟨a,_,by rw[b_,hp];rfl,rfl⟩
  rw[j.2,iO f]at h1;have i:(P d).getLast f=x:=aK h1;rw[b_,bG,j.1];rw[j.1]at g;have hs:pY q (x::t)=oN (nG q) x t:=rfl;rw[hs]at g;show _=pY q (P d)+gg (e::r) λd=>pY q (P d);rw[<-g];have hd:=iW f;rw[i]at hd;cases k:(P d).dropLast with
  |nil=>rw[k]at hd;rw[<-hd]at l2;simp at l2
  |cons a s =>rw[k]at hd;rw[<-hd];exact VW (nG q) x t s a
def aE0{q:bs}(f:d' q=Y){P:eY}(g:∀p∈P,d' p=Y){a:bs}(ha:P.head?=Z a):∀(l:eY) (x:bs) (i:Nat) (b:Bool) (n:Int),P.drop i=x::l->b=No (n%2=1)->rD P q (x::l) i b=No ((n+oN (nG q) x (l++[a]))%2=1)
 |l,x,i,b,n,hd,j=>by
  have a7:i<aa P:=(rl hd).1;have k:x∈P:=(rl hd).2.2;have h:a∈P:=List.mem_of_head? ha;have step:∀y:bs,y∈P->(cond (yZ q x y) (!b) b)=No ((n+nG q x y)%2=1):=λy d=>by grind[aq9,nG,yZ,dc,decide_eq_false_iff_not]
  unfold rD;cases l;have hl:i+1=aa P:=by have:=Ar aa hd;simp at this;omega
  grind[kg,jL,step,rD,oN]
  rename_i y l;have sX:P.drop (i+1)=y::l:=by grind[lq,jr]
  have c:i+1<aa P:=(rl sX).1;have d:y∈P:=(rl sX).2.2;have e:((P[(i+1)%aa P]?).getD (0,0))=y:=by rw[cY c,oU sX];rfl
  rw[e,step y d,aE0 f g ha l y (i+1) _ (n+nG q x y) sX rfl]
  grind[oN,iq]
section
variable {al:gp} {ag:hI} {fs:eD} (h:fp al ag fs)
include h
theorem Wy:∀(l:hI) (m:cu (Int×eY)),(∀a∈l,a∈ag)->(l.map (·.1)).Pairwise (·<·)->∀a∈l,fh gd a.1 (pM al ag l m)=Z (sy al ag a)/\fh gd (-a.1) (pM al ag l m)=Z (sy al ag a).reverse
 | [],m,_,_,a,ha=>by simp at ha
 |b::l,m,hm,hp,a,ha=>by
  simp only[aq,aR]at hp;have c:∀(l:hI) (m:cu (Int×eY)) (k:Int),(∀a∈l,a.1≠k/\-a.1≠k)->fh gd k (pM al ag l m)=fh gd k m:=by
   intro l
   induction l with
   |nil=>intro m k _;rfl
   |cons x l e=>
    intro m k hk;let ⟨f,g⟩:=hk x (by simp);show fh gd k (pM al ag l _)=_
    grind[rV]
  have rI:=h.num (hm b (by simp));rcases aF.1 ha with rfl|ha
  have hk:∀x∈l,(x.1≠a.1/\-x.1≠a.1)/\x.1≠-a.1/\-x.1≠-a.1:=λx d=>by grind[aN]
  constructor;show fh gd a.1 (pM al ag l _)=_
  grind[rV]
  show fh gd (-a.1) (pM al ag l _)=_
  grind[rV]
  exact Wy l _ (λx d=>hm x (by simp[d])) hp.2 a ha
theorem IH{d:Int}(hd:d∈ny al ag):(fh gd d (pM al ag ag [])).getD []=xl al ag d/\2<=aa (xl al ag d):=by
 let ⟨a,ha,hc⟩:=h.uP.1 hd;let ⟨l2,x8⟩:=Wy h ag [] (λ_ x=>x) (pq h.rX) a ha;let ⟨f,t,_,_,hp,_⟩:=h.path ha;have b:=h.num ha
 grind[sy,xl,la,ky]
theorem cb5{d:Int}(hd:d∈ny al ag):(xl al ag d).getLast?=(xl al ag (-d)).head?:=by
 let ⟨a,ha,hc⟩:=h.uP.1 hd;have b:=h.num ha
 grind[xl,la,List.head?_reverse,List.getLast?_reverse]
theorem ay5{d:Int}(hd:d∈ny al ag):(xl al ag d).getLast?=(xl al ag (ki al ag d)).head?:=by
 rw[cb5 h hd];have c:=h.JN hd;let ⟨l,hl,a⟩:=bU.1 c;obtain⟨n,b,rfl⟩:=aM.1 hl;have h1:=NW h b a;have e:=h.Ap b a
 grind[NW,ki,Dk,jL]
theorem ag2{d:Int}(hd:d∈ny al ag):∀(m i:Nat),Lo (xl al ag) (((xl al ag (ot (ki al ag) d (i+m))).head?).getD (0,0)) ((eo i m).map (ot (ki al ag) d))
 | 0,i=>trivial
 | 1,i=>by have hm:=vU (λd hd=>h.qK hd) hd i;have he:=ay5 h hm;have x8:=(IH h (h.qK hm)).2;show(xl al ag (ot (ki al ag) d i)).getLast?=Z _;rw[he];show(xl al ag (ki al ag (ot (ki al ag) d i))).head?=Z (((xl al ag (ki al ag (ot (ki al ag) d i))).head?).getD (0,0));cases b:xl al ag (ki al ag (ot (ki al ag) d i))<;>grind[xl,ki,ot]
 |m+2,i=>by have a:=ag2 hd (m+1) (i+1);have hm:=vU (λd hd=>h.qK hd) hd i;rw[show i+1+(m+1)=i+(m+2)by omega]at a;exact⟨ay5 h hm,a⟩
theorem aI3{c:eD}(hc:c∈l9 al ag){q:bs}(v:d' q=Y)(hoff:∀a∈ag,pB q ((pathOf al ag a.1).getD [])=U):rD (vn (pM al ag ag []) c) q (vn (pM al ag ag []) c) 0 U=nF (l8 al ag) c q:=by
 have hm:∀a∈ag,fh gd a.1 (l8 al ag)=pathOf al ag a.1:=λa ha=>h.D1 ha;have j:∀d∈c,d∈ny al ag:=λd hd=>h.zS hc hd;obtain⟨d,m,hd,w,he,rfl⟩:=h.xF.1.y5 c hc;have i:=ag2 h hd m 0;rw[bd,he]at i;have z:zg (ki al ag) d m=(eo 0 m).map (ot (ki al ag) d):=by unfold zg;rw[List.range_eq_range']
 rw[<-z]at i;have n:vn (pM al ag ag []) (zg (ki al ag) d m)=(zg (ki al ag) d m).flatMap λd=>(xl al ag d).dropLast:=by grind[vn,List.map_congr_left,IH]
 rw[n];have f:=ay3 (q:=q) (P:=xl al ag) (λe=>by
  have:=Ar aa e;simp[zg]at this;omega) (λx g=>(IH h (j x g)).2) i
 have Ao:∀x∈ny al ag,∀p∈xl al ag x,d' p=Y:=λx g p hp=>by
  let ⟨_,c2,B⟩:=w7 h (h.zT g).1;let ⟨_,_,ha⟩:=B x (h.zT g).2;let ⟨p0,l,e,_,n0,nl,_⟩:=Qb h ha
  grind
 have hz:∃a s,xl al ag d=a::s/\s≠[]:=by have x8:=(IH h hd).2;cases hp:xl al ag d<;>grind[xl]
 let ⟨a,s,k,hs⟩:=hz;have o:∃t,(zg (ki al ag) d m).flatMap (λd=>(xl al ag d).dropLast)=a::t:=by obtain⟨u,rfl⟩:∃u,m=u+1:=⟨m-1,by omega⟩;unfold zg;rw[gI,aq,b_];show ∃t,(xl al ag d).dropLast++_=a::t;rw[k];cases s<;>grind[absurd]
 let ⟨t,o⟩:=o;have r:∀p∈a::t,d' p=Y:=λp hp=>by grind[List.dropLast_sublist]
 rw[k]at f;rw[o]at f⊢;rw[aE0 v r rfl t a 0 U 0 rfl (by decide),gR];have f:oN (nG q) a (t++[a])=gg (zg (ki al ag) d m) λd=>pY q (xl al ag d):=f;rw[f,di,decide_eq_true_iff,FU];have same:∀x∈zg (ki al ag) d m,pY q (xl al ag x)=pY q ((fh gd (la x) (l8 al ag)).getD [])/\pB q ((fh gd (la x) (l8 al ag)).getD [])=U:=λx g=>by
  let ⟨b,C,D⟩:=h.uP.1 (j x g);have E:=h.num C
  grind[la,xl,Oc]
 rw[ns λx g=>(same x g).1]
 grind
end
end Dp
namespace Dp
def WQ{q:bs}:∀ {l1:cu oP},(∀o∈l1,rD o.2.2 q o.2.2 0 U=U)->qo q l1=0
 | [],_=>rfl
 |o::r,h=>by unfold qo;rw[h o (by simp),bu];exact WQ λx a=>h x (by simp[a])
def Wz{q:bs}:∀ {l1:cu oP},(∃o∈l1,rD o.2.2 q o.2.2 0 U=Y)->∃pre o post,l1=pre++o::post/\rD o.2.2 q o.2.2 0 U=Y/\(∀x∈pre,rD x.2.2 q x.2.2 0 U=U)/\qo q l1=o.1
 | [],h=>by grind
 |o::r,h=>by
  unfold qo;cases ho:rD o.2.2 q o.2.2 0 U with
  |true=>exact⟨[],o,r,rfl,ho,by simp,rfl⟩
  |false=>
   let ⟨x,b,a7⟩:=h;have a:x∈r:=by grind
   let ⟨pre,o',post,e,h1,h2,c⟩:=Wz ⟨x,a,a7⟩
   grind
section
variable {al:gp} {ag:hI} {fs:eD} (h:fp al ag fs) (hf:(oH ag (aa fs) Y (nP al ag) [] []).2=Y)
include h hf
theorem aY2(o:oP):o∈qd al ag fs↔∃c∈m_ al ag,o=(nx ag c,l5 al ag c,vn (pM al ag ag []) c):=by
 have hp:(qd al ag fs).Perm (vw al ag (xW al ag fs)):=tG (Iz _);have b:(xW al ag fs).Perm (uY (tT al ag fs) (nP al ag)):=tG (IA _);have d:=au5 h;have f:∀c∈m_ al ag,c≠[]:=λc hc=>(w7 h (BT h hc).1).1;have i:(nP al ag).map (·.2.1)=[]::m_ al ag:=by have:=Ar (cD λx:Int×eD×cu eD=>x.2.1) d;rw[cI,cI]at this;simpa[fm,sE]using this
 have a:=Xe h hf;have hz:uY (tT al ag fs) (nP al ag)=(nP al ag).map λx=>(nx ag x.2.1,x.2.1,x.2.2.1,x.2.2.2):=by
  rw[a];unfold uY;generalize nP al ag=L
  induction L with
  |nil=>rfl
  |cons x L g=>rw[aq,jM,g,aq]
 rw[hp.mem_iff];unfold vw;constructor
 grind[m_,aN]
 rintro ⟨c,hc,rfl⟩;have:c∈(nP al ag).map (·.2.1):=by grind[bp]
 let ⟨x,j,e⟩:=aM.1 this
 grind[nx]
theorem ao3{q:bs}(i:d' q=Y)(hoff:∀a∈ag,pB q ((pathOf al ag a.1).getD [])=U):qo q (qd al ag fs)=nx ag (q8 al ag q):=by
 have hm:=aY2 h hf;have d:∀c∈m_ al ag,rD (vn (pM al ag ag []) c) q (vn (pM al ag ag []) c) 0 U=nF (l8 al ag) c q:=λc hc=>aI3 h (BT h hc).1 i hoff;have hs:(qd al ag fs).Pairwise (·.2.1<=·.2.1):=(Da (Iz _)).imp λ{a b} x=>by unfold zr at x;rw[uk]at x;omega
 by_cases hex:∃o∈qd al ag fs,rD o.2.2 q o.2.2 0 U=Y;let ⟨pre,o,post,e,h1,h2,k⟩:=Wz hex;rw[k];obtain⟨c,hc,rfl⟩:=(hm o).1 (by rw[e];simp);simp only at h1⊢;rw[d c hc]at h1;rw[SC h i hc h1];intro l g m;have j:=(hm _).2 ⟨l,g,rfl⟩
 grind[aR]
 have f:∀o∈qd al ag fs,rD o.2.2 q o.2.2 0 U=U:=λo ho=>by grind[rD,absurd]
 rw[WQ f,aC5 h λc hc=>?_];rfl;rw[<-d c hc];exact f _ ((hm _).2 ⟨c,hc,rfl⟩)
end
def aw8{al:gp}{ag:hI}{fs:eD}(h:fp al ag fs){r:cu fy}(c:zb al ag ag=Z r){q:bs}(ho:∀s∈r,n' (hi s) (gl s) q=U):∀a∈ag,pB q ((pathOf al ag a.1).getD [])=U:=by intro a ha;let ⟨f,t,_,_,hp,_⟩:=h.path ha;rw[hp];refine fp.OU q _ _ λi x y d b=>?_;have a7:i+1<aa (f.2::(a.2.2.2.1++[t.2])):=(au.1 b).1;have hs:(rT a (f.2::(a.2.2.2.1++[t.2])),(i:Int))∈r:=u5 c a ha _ hp _ (vM a7);have o:nJ al ag (rT a (f.2::(a.2.2.2.1++[t.2])),(i:Int)) a _ i:=⟨ha,hp,a7,rfl⟩;have e:=aK (o.rO.symm.trans d);have ey:=aK (o.se.symm.trans b);rw[<-e,<-ey];exact ho _ hs
end Dp
set_option maxRecDepth 100000
namespace Dp
def nB(s:Int):hI:=[(1,1,1,[(s,0),(s,s),(0,s)],1,0)]
def j0(x y:Int):gp:=[(1,0,0),(2,x,y)]
def q3:Au:=[(7,1,1,cK #[],[2])]
theorem bn9:([1,-1]:eD).mergeSort (λa b=>No (a<=b))=[-1,1]:=by simp[List.mergeSort,List.merge]
structure EX(x y s t:Int):Prop where
 yD:pD (j0 x y) (nB s) [1] q3=0
 ol:qd (j0 x y) (nB s) [1]=[(1,t,[(0,0),(s,0),(s,s),(0,s)])]
 ap2:pz (j0 x y) (nB s) (nB s)=[(0,0,s,0),(s,0,s,s),(s,s,0,s),(0,s,0,0)]
def LY{x y s t:Int}(h1:fp.ny (j0 x y) (nB s)=[1,-1])(h2:qW (fp.ki (j0 x y) (nB s)) [1,-1] [-1,1] [] []=[[-1],[1]])
  (a:sL (j0 x y) (nB s) (l8 (j0 x y) (nB s)) [[-1],[1]]=[(0,[],[[-1]],[]),(t,[1],[],[2])])
  (e:(cond (tJ (j0 x y) (nB s) [1]=0) (cond (oH (nB s) 1 Y [(0,[],[[-1]],[]),(t,[1],[],[2])] [] []).2 0 12) <|tJ (j0 x y) (nB s) [1])=0)
  (b:(q3.any (λf=>f.2.2.2.2.any (uO (j0 x y) (nB s) [1] f.2.1)))=U)
  (g:oy zr (vw (j0 x y) (nB s) (oy zq (uY (oH (nB s) 1 Y [(0,[],[[-1]],[]),(t,[1],[],[2])] [] []).1 [(0,[],[[-1]],[]),(t,[1],[],[2])])))=[(1,t,[(0,0),(s,0),(s,s),(0,s)])])
  (c:pz (j0 x y) (nB s) (nB s)=[(0,0,s,0),(s,0,s,s),(s,s,0,s),(0,s,0,0)]):EX x y s t:=by
 have d:fp.l9 (j0 x y) (nB s)=[[-1],[1]]:=by grind[fp.l9,bn9]
 have h:nP (j0 x y) (nB s)=[(0,[],[[-1]],[]),(t,[1],[],[2])]:=by unfold nP;rw[d];exact a
 have rg:tH (j0 x y) (nB s) [1]=0:=by
  unfold tH
  grind
 refine⟨?_,?_,c⟩;unfold pD;rw[rg,b]
 kernel_rfl
 grind[qd,xW,tT]
def bN9:EX 5 1 10 200:=LY (by kernel_rfl) (by kernel_rfl) (by kernel_rfl) (by kernel_rfl) (by kernel_rfl) (by kernel_rfl) (by kernel_rfl)
def LA:EX 3 3 10 200:=LY (by kernel_rfl) (by kernel_rfl) (by kernel_rfl) (by kernel_rfl) (by kernel_rfl) (by kernel_rfl) (by kernel_rfl)
def P5:EX 2 1 4 32:=LY (by kernel_rfl) (by kernel_rfl) (by kernel_rfl) (by kernel_rfl) (by kernel_rfl) (by kernel_rfl) (by kernel_rfl)
def aC1{x y s t:Int}(h:EX x y s t){r:dv bs}(a:vh (pz (j0 x y) (nB s) (nB s)) [(1,t,[(0,0),(s,0),(s,s),(0,s)])] (qH 3) 3 (j0 x y) (2,x,y)=r)(hm:vq (nB s) q3 2=Y) :
  vz ((j0 x y,nB s,[1],q3),2,3)=Z (match r with|some p=>(([(1,0,0),(2,p.1,p.2)],nB s,[1],q3),Y,0)|none=>((j0 x y,nB s,[1],q3),U,0)):=by
 have:=ba5 (vX h.yD) h.yD (gap:=3) (by decide) (by decide) (n:=(2,x,y)) (by simp[j0]) hm;have e:vh (pz (j0 x y) (nB s) (nB s)) (qd (j0 x y) (nB s) [1]) (qH (Int.toNat 3)) 3 (j0 x y) (2,x,y)=r:=by rw[h.ol,<-a];rfl
 rw[e]at this;rw[this];cases r<;>rfl
def bO2:vz ((j0 5 1,nB 10,[1],q3),2,3)=Z ((j0 3 3,nB 10,[1],q3),Y,0):=aC1 bN9 (r:=Z (3,3)) (by kernel_rfl) (by kernel_rfl)
def bO3:vz ((j0 2 1,nB 4,[1],q3),2,3)=Z ((j0 2 1,nB 4,[1],q3),U,0):=aC1 P5 (r:=W) (by kernel_rfl) (by kernel_rfl)
def bO4:∃s,vz ((j0 2 1,nB 4,[1],q3),1,3)=Z (s,U,13):=aM6 (vX P5.yD) P5.yD (gap:=3) (by decide) (by decide) (n:=(1,0,0)) (by simp[j0]) (by kernel_rfl)
def av5(p:bs){b:Bool}(h2:qc (pz (j0 3 3) (nB 10) (nB 10)) [(1,200,[(0,0),(10,0),(10,10),(0,10)])] (j0 3 3) 2 (3,3) p 3=b) :
  zx ((j0 3 3,nB 10,[1],q3),2,p,3)=Z b:=by
 have:=aR8 (vX LA.yD) LA.yD (gap:=3) (by decide) (by decide) 2 p;have e:nQ (j0 3 3) 2=Z (2,3,3):=by kernel_rfl
 have a:No (0<na (nB 10) 2)=U:=by kernel_rfl
 rw[e,LA.ol]at this;rw[this,<-h2];simp only[a,bu];rfl
def be9:zx ((j0 3 3,nB 10,[1],q3),2,(5,5),3)=Z Y:=av5 (5,5) (by kernel_rfl)
def bf0:zx ((j0 3 3,nB 10,[1],q3),2,(5,2),3)=Z U:=av5 (5,2) (by kernel_rfl)
def aN6:zd ()=Z Y:=by
 have s1:CQ (10,(5,1))=Z (j0 5 1,nB 10,[1],q3):=rfl;have s2:CQ (4,(2,1))=Z (j0 2 1,nB 4,[1],q3):=rfl;let ⟨z,hz⟩:=bO4;have o1:wu 1=Z (qH 1,0):=IU (by decide) (by decide);have o2:wu 65=Z ([],2):=We (by decide);have l2:qH 1=[(-1,-1),(0,-1),(1,-1),(-1,0),(1,0),(-1,1),(0,1),(1,1)]:=by kernel_rfl
 unfold zd;simp only[s1,s2,bO2,bO3,hz,o1,o2,l2,bT,be9,bf0];rfl
end Dp
open Go.Pg
open fp (kc ny ki l9)
set_option maxRecDepth 10000
namespace Dp
theorem aF0:∀ {l a:eD} (hl:aa l<=1000000),HZ (l,a)=Z (No (l=a)):=by
 intro l a hl;unfold HZ;by_cases f:aa l=aa a;rw[hT (by omega:(aa l:Int)=(aa a:Int)),aw,bu];refine(mP (A:=Unit) l (λi _=>(i:Int)) (λ_ rest=>Z (No (rest=a.drop (aa l-aa rest)))) (by omega) ?_ ?_ ()).trans (by simp)
 grind[dA,gS,decide_true]
 intro rec i _ x rest a7 hd g;have d:aa rest=aa l-i-1:=by have:=Ar aa hd;simp at this;omega
 have b:i<aa a:=by omega
 have j:nth a (i:Int)=Z a[i]:=by rw[zB,af b]
 rw[show aa l-aa (x::rest)=i by simp[d];omega,bL b];have c:=g ();rw[show aa l-aa rest=i+1 by omega]at c;simp only[fB a7,b6,iy hd,j,bT,f' a7];by_cases e:x=a[i];rw[hT e,aw,bu,c];congr 1
 grind[kS]
 grind[decide_eq_false,bj,kS]
 rw[ft (by omega:¬(aa l:Int)=(aa a:Int)),bj,b6,ft λh=>f (by rw[h])]
def as1{l:eD}(hl:aa l<=1000):∃s,EG l=Z s/\s.Pairwise (·<·)/\(∀y,y∈s↔y∈l)/\aa s<=aa l:=by
 unfold EG;refine vB (A:=eD) l (λi a=>(a,(i:Int))) (λo=>∃s:eD,o=Z s/\s.Pairwise (·<·)/\(∀y,y∈s↔y∈l)/\aa s<=aa l) (λi a=>a.Pairwise (·<·)/\aa a<=i/\∀y,y∈a↔y∈l.take i) (by omega) ?_ ?_ [] ⟨by simp,by simp,by simp⟩
 grind[bI]
 rintro rec i a x rest a7 ⟨h1,h2,c⟩ hd b;let ⟨s,e,g1,g2,g3⟩:=bd7 x (l:=a) (by omega) h1;simp only[fB a7,b6,iy hd,bT,e,f' a7];refine b s ⟨g1,by omega,λy=>?_⟩
 grind[bm,oU]
section
variable {al:gp} {ag:hI} {fs:eD} (h:fp al ag fs)
include h
theorem Pa{c:eD}(hl:aa c<=1000000)(hd:∀d∈c,nY d)(f:Int):zf ((al,ag,fs),c,f)=Z (c.all λd=>No (Am ag d=f)):=by
 unfold zf;refine mP (A:=Unit) c (λi _=>(i:Int)) (λ_ rest=>Z (rest.all λd=>No (Am ag d=f))) (by omega) ?_ ?_ ();intro rec _;simp only[kj,bu,dI];intro rec i _ x rest a7 a b;have e:x∈c:=ax (a▸aU ..);simp only[fB a7,b6,iy a,bT,K0 h (hd x e),f' a7,bH];cases No (Am ag x=f)with
 |true=>simpa using b ()
 |false=>rfl
theorem az0:∃L b,EN (al,ag,fs)=Z (L,b)/\(b=Y↔CD al ag fs):=by
 let ⟨outs,hp,_,Q⟩:=aE9 h;have R:=h.wK.len;have dC:=h.wX;have hpl:aa (m_ al ag)<=512:=bD (bJ ..) R;have hol:aa outs<=512:=by rw[hp.length_eq];exact hpl
 have I:∀c∈outs,c∈m_ al ag:=λc hc=>hp.mem_iff.1 hc;have bad:(CD al ag fs->False)->∀L:cu kI,∃L' b,(Z (L,U):dv (cu kI×Bool))=Z (L',b)/\(b=Y↔CD al ag fs):=λhn L=>⟨_,_,rfl,λe=>by(cases e),λF=>(hn F).elim⟩;unfold EN;simp only;rw[Q];simp only[bT];obtain⟨A,P⟩:∃A,A=([]:eD)::outs:=⟨_,rfl⟩;rw[<-P];have hAl:aa A=aa outs+1:=by rw[P];rfl
 refine vB (A:=cu kI×eD) A (λi a=>((i:Int),a.1,a.2)) (λo=>∃L b,o=Z (L,b)/\(b=Y↔CD al ag fs)) (λi a=>a.1=(A.take i).map (ov al ag)++(A.drop i).map (uC al ag)/\a.2=(outs.take (i-1)).map (nx ag)/\a.2.Nodup/\∀c∈A.take i,(c≠[]->nx ag c≠0)/\∀D∈c::rm al ag c,∀d∈D,Am ag d=nx ag c) (by omega) ?_ ?_ (A.map (uC al ag),[]) ⟨by simp,by simp,by simp,by simp⟩;rintro rec ⟨L,S⟩ ⟨E,t,J,u⟩;simp only at E t J u;rw[bI,gS,dm,cg]at E;rw[bI]at u;rw[hAl,ir,bI]at t;subst E t;let ⟨s,hN,g1,g2,g3⟩:=as1 (l:=outs.map (nx ag)) (by simp;omega);simp only[aL]at g3;simp only[aL,kj,bu,hN,bT,aF0 (show aa s<=1000000 by omega)];refine⟨_,_,rfl,λhb=>?_,λF=>hT (QW g1 (pq h.E8) λy=>(g2 y).trans (((hp.map (nx ag)).mem_iff).trans (bi0 h F y)))⟩;have hsf:=pK hb;subst hsf;have K:∀c∈m_ al ag,c∈A:=λc hc=>by grind[bp]
 refine⟨λD g d hd=>?_,λc hc D g d hd=>(u c (K c hc)).2 D g d hd,λc hc=>?_,?_,?_⟩;exact(u [] (by rw[P];simp)).2 D (bp _ g) d hd;exact(u c (K c hc)).1 (w7 h (BT h hc).1).1
 grind[nx]
 have hsn:s.Nodup:=g1.imp λh=>by omega
 have:=((jf hsn J).2 g2).length_eq;rw[aL]at this;rw[this,hp.length_eq];rintro rec i ⟨L,S⟩ c rest a7 ⟨E,t,eN,u⟩ hd hr;simp only at E t eN u;have hLl:aa L=aa A:=by rw[E];simp;omega
 have M:=oU hd;have v:L[i]?=Z (uC al ag c):=by grind[List.getElem?_append_right,aL,da,dE]
 have m:i<aa L:=by omega
 have J:No (0<=(i:Int))=Y:=hT (by omega);have hin:=aF3 h c;have next:L.set i (ov al ag c)=(A.take (i+1)).map (ov al ag)++(A.drop (i+1)).map (uC al ag):=by grind[fJ,aL,da,dE,bm,bG,lq,jr]
 have told:∀D∈rm al ag c,∀f:Int,zf ((al,ag,fs),D,f)=Z (D.all λd=>No (Am ag d=f)):=λD g f=>Pa h (ar7 h g).1 (ar7 h g).2 f;have more:(c≠[]->nx ag c≠0)->(∀D∈c::rm al ag c,∀d∈D,Am ag d=nx ag c)->∀G∈A.take (i+1),(G≠[]->nx ag G≠0)/\∀D∈G::rm al ag G,∀d∈D,Am ag d=nx ag G:=λfa gb G hc'=>by grind[bm]
 rw[show((L,S):cu kI×eD).1=L from rfl,show((L,S):cu kI×eD).2=S from rfl];simp only[fB m,b6,J,bw,bT,aO,v,ai];by_cases h0:i=0;subst h0;have hc0:c=[]:=by grind[aK]
 subst hc0;rw[ft (by omega),bu];have s0:zf ((al,ag,fs),(uC al ag []).2.1,(uC al ag []).1)=Z Y:=Pa h (by simp[uC]) (by simp[uC]) _;rw[s0];simp only[bT,aw,bu];refine vB (A:=Unit) (rm al ag []) (λj _=>(j:Int)) (λo=>∃L b,o=Z (L,b)/\(b=Y↔CD al ag fs)) (λj _=>∀D∈(rm al ag []).take j,∀d∈D,Am ag d=0) (by omega) ?_ ?_ () (by simp);intro n _ H;rw[bI]at H;simp only[uC,kj,bu,f' m];refine hr (L,S) ⟨?_,t,eN,more (λq=>b8 rfl q) λD g d w=>?_⟩;rw[<-next];simp only;have:L.set 0 (ov al ag [])=L:=by apply e_;intro k;rw[dF];split;rename_i e;subst e;exact v.symm;rfl
 rw[this];rcases aF.1 g with rfl|g
 simp at w;exact H D g d w;intro n j _ D r2 hj H p B;have g:D∈rm al ag []:=ax (p▸aU ..);simp only[uC,fB hj,b6,iy p,bT,told D g 0,f' hj];cases hs:D.all λd=>No (Am ag d=0)with
 |false=>exact bad (λF=>by have:=F.zero D g;simp at hs;grind) []
 |true=>
  simp only[aw,bu];refine B () λD' hD'=>?_
  grind[bm,oU]
 have hco:c∈outs:=by grind[aI,aG]
 have r:=I c hco;let ⟨q5,nj⟩:=BT h r;let ⟨c1,c2,c3⟩:=w7 h q5;have hS:aa S<=512:=by rw[t];simp;omega
 have nc:nth c (0:Int)=Z (c.headD 0):=by cases c<;>grind[absurd,zB]
 have hhd:nY (c.headD 0):=by cases c<;>grind[absurd]
 have N:qI L i (λx y=>(y,x.2.1,x.2.2.1,x.2.2.2)) (Am ag (c.headD 0))=Z (L.set i (ov al ag c)):=by unfold qI;rw[v];rfl
 have O:(L.set i (ov al ag c))[i]?=Z (ov al ag c):=by rw[dF,cr rfl,cr m]
 have hl2:aa (L.set i (ov al ag c))=aa L:=by simp
 rw[hT (by omega:(0:Int)<(i:Int)),b6];simp only[uC,nc,bT,K0 h hhd];rw[N];have eF:(ov al ag c).1=nx ag c:=rfl;have eO:(ov al ag c).2.1=c:=rfl;have eI:(ov al ag c).2.2.1=rm al ag c:=rfl;simp only[bT,hl2,J,fB m,bw,b6,O,ai,eF,eO,eI,T9 (nx ag c) (by omega:aa S<2^62)];by_cases z:nx ag c=0;rw[hT z];exact bad (·.ne c r z) [];rw[ft z,bu];by_cases C:nx ag c∈S;rw[hT C];refine bad (λF=>?_) [];have hn2:(outs.map (nx ag)).Nodup:=(hp.map _).nodup_iff.2 F.j0;obtain⟨k,rfl⟩:∃k,i=k+1:=⟨i-1,by omega⟩;rw[P,aI]at M;rw[t,ir]at C;have:=hn2.sublist ((List.take_sublist (k+1) outs).map (nx ag));rw[bm,M]at this
 grind[Option.toList,dO]
 rw[ft C,bu,m9];simp only[bT,Pa h (show aa c<=1000000 by omega) (λd hd=>(c3 d hd).1)];cases hsc:c.all λd=>No (Am ag d=nx ag c)with
 |false=>exact bad (λF=>by have:=F.all c r c (by simp);simp at hsc;grind) []
 |true=>
  simp only[aw,bu];refine vB (A:=Unit) (rm al ag c) (λj _=>(j:Int)) (λo=>∃L b,o=Z (L,b)/\(b=Y↔CD al ag fs)) (λj _=>∀D∈(rm al ag c).take j,∀d∈D,Am ag d=nx ag c) (by omega) ?_ ?_ () (by simp);intro n _ H;rw[bI]at H;simp only[kj,bu,f' m];refine hr (L.set i (ov al ag c),S++[nx ag c]) ⟨next,?_,?_,more (λ_=>z) λD g d w=>?_⟩;simp only;obtain⟨k',rfl⟩:∃k',i=k'+1:=⟨i-1,by omega⟩;grind[aI,ir,bm]
  grind[dO]
  grind[aj]
  intro n j _ D r2 hj H p B;have g:D∈rm al ag c:=ax (p▸aU ..);simp only[fB hj,b6,iy p,bT,told D g,f' hj];cases hs:D.all λd=>No (Am ag d=nx ag c)with
  |false=>exact bad (λF=>by have:=F.all c r D (by simp[g]);simp at hs;grind) []
  |true=>
   simp only[aw,bu];refine B () λD' hD'=>?_
   grind[bm,oU]
end
end Dp
namespace Dp
def R4(al:gp)(ag:hI)(fs:eD)(a:aa al<=1000000)(ha:aa ag<=1000000)(hf:aa fs<=1000000):EO (al,ag,fs)=Z (tH al ag fs):=by unfold EO tH;simp only[Sv al ag fs a ha hf,bT];by_cases hp:tJ al ag fs=0;have h:=De.1 hp;rw[hT hp,aw,bu,b6];let ⟨L,b,e,c⟩:=az0 h;rw[e];simp only[bT];have d:(oH ag (aa fs) Y (sL al ag (l8 al ag) (l9 al ag)) [] []).2=b:=di.2 ((Dt h).trans c.symm);rw[d];cases b<;>rfl;rw[ft hp,bj,b6,bu]
theorem Ro{al:gp}{ag:hI}{fs:eD}(h:fp al ag fs)(F:CD al ag fs):EO (al,ag,fs)=Z 0:=by have:=h.qF;have:=h.pA;have:=h.wX;rw[R4 al ag fs (by omega) (by omega) (by omega)];unfold tH;rw[De.2 h,show(oH ag (aa fs) Y (sL al ag (l8 al ag) (l9 al ag)) [] []).2=Y from(Dt h).2 F];rfl
end Dp
namespace Dp
def S9{l:eD}(hl:aa l<=1000000):Ex l=Z (qM l):=N6 hl
theorem Qi:∀l:eD,xo l=qM l
 | []=>rfl
 | [_]=>rfl
 |a::b::l=>by show(!decide (b<=a)&&xo (b::l))=(No (a<b)&&qM (b::l));rw[Qi (b::l)];by_cases h:b<=a;rw[hT h,ft (by omega:¬a<b)];rfl;rw[ft h,hT (by omega:a<b)];rfl
theorem Tl:∀(l:Au) (p:Int),AZ (Z p) l=(l.any (!qM ·.2.2.2.2)||!qM (p::l.map (·.1)))
 | [],p=>rfl
 |f::l,p=>by show(cond (f.1<=p||!(xo f.2.2.2.2)) Y <|AZ (Z f.1) l)=(((!qM f.2.2.2.2)||l.any (!qM ·.2.2.2.2))||!(No (p<f.1)&&qM (f.1::l.map (·.1))));rw[Tl l f.1,Qi];by_cases h:f.1<=p;rw[hT h,ft (by omega:¬p<f.1)];simp;rw[ft h,hT (by omega:p<f.1)];cases qM f.2.2.2.2<;>simp
def au2(l:Au):AZ W l=(l.any (!qM ·.2.2.2.2)||!qM (l.map (·.1))):=by cases l<;>grind[xo,AZ,qM,Tl,Qi]
def GX{al:gp}{ag:hI}{fs:eD}{l:Au}(hl:aa l<=1000)(k:Int)(kO:AL->Bool)(h:∀f∈l,wi ((al,ag,fs,l),f,k)=Z (kO f)):xk ((al,ag,fs,l),k)=Z (l.any kO):=by
 unfold xk;refine mP (A:=Unit) l (λi _=>(i:Int)) (λ_ rest=>Z (rest.any kO)) (by omega) ?_ ?_ ()
 grind
 intro rec i _ x rest a7 hd a;have b:x∈l:=ax (hd▸aU ..);have hw:wi ((al,ag,fs,l),x,k)=Z (kO x):=h x b;simp only[fB a7,b6,iy hd,bT,hw,f' a7,dD];cases kO x with
 |true=>rfl
 |false=>simpa using a ()
theorem am4{al:gp}{ag:hI}{fs:eD}(h:fp al ag fs){f:AL}(hp:aa f.2.2.2.2<=1000)(b:om f.2.1≠0):Ez ((al,ag,fs),f)=Z (!(f.2.2.2.2.any (uO al ag fs f.2.1))):=by
 have d:=h.qF;have g:=h.pA;have dC:=h.wX;unfold Ez;refine mP (A:=Unit) f.2.2.2.2 (λi _=>(i:Int)) (λ_ rest=>Z (!(rest.any (uO al ag fs f.2.1)))) (by omega) ?_ ?_ ()
 grind[bj]
 intro rec i _ x rest a7 hd c;have he:HA ((al,ag,fs),om f.2.1,x)=Z (!(uO al ag fs f.2.1 x)):=by
  unfold HA;simp only;unfold uO;rw[KP al ag fs x,Hd al ag fs x (by omega) (λa ha=>by have:=h.q4 ha;omega),ba9 x (by omega)];rcases bO8 f.2.1 with e|e|e|e
  exact b8 e b;rw[e];cases nQ al x<;>rfl;rw[e];cases px ag x<;>rfl;rw[e];cases No (x∈fs)<;>rfl
 simp only[fB a7,b6,iy hd,bT,F_,he,f' a7,dD];cases uO al ag fs f.2.1 x with
 |true=>rfl
 |false=>simpa using c ()
noncomputable def CJ(f g:AL):Bool:=cond (om f.2.1=2) U <|cond (!decide (om f.2.1=om g.2.1)) U <|cond (om f.2.1=3&&!decide (f.2.1=g.2.1)) U <|f.2.2.2.2.any λp=>No (p∈g.2.2.2.2)
noncomputable def Et:Au->Au->Bool
 |_,[]=>U
 |pre,f::rest=>pre.any (CJ f ·)||Et (pre++[f]) rest
def aA1{f g:AL}(hf:aa f.2.2.2.2<=1000)(h:aa g.2.2.2.2<=1000):EL (f,g)=Z (CJ f g):=by
 have loop:rounds (α:=Int) (β:=Bool) (λd a=>
   cond (a<(aa (f.2.2.2.2):Int)) (
    a8 (nth f.2.2.2.2 a) λb=>
    a8 (EW (g.2.2.2.2,b)) λc=>
    cond c (
    Z Y) (
    d (ek (a+(1:Int))))) (
    Z U)) (0:Int)=Z (f.2.2.2.2.any λp=>No (p∈g.2.2.2.2)):=by
  refine mP (A:=Unit) f.2.2.2.2 (λi _=>(i:Int)) (λ_ rest=>Z (rest.any λp=>No (p∈g.2.2.2.2))) (by omega) ?_ ?_ ()
  grind
  intro rec i _ x rest a7 hd e;simp only[fB a7,b6,iy hd,bT,ba9 x (by omega:aa g.2.2.2.2<2^62),f' a7,dD];cases No (x∈g.2.2.2.2)with
  |true=>rfl
  |false=>simpa using e ()
 grind[EL,CJ,F_,bT,om]
def aE2{al:gp}{ag:hI}{fs:eD}{l:Au}(hl:aa l<=1000)(hp:∀f∈l,aa f.2.2.2.2<=1000):H8 (al,ag,fs,l)=Z (Et [] l):=by
 unfold H8;refine(mP (A:=Unit) l (λi _=>(i:Int)) (λ_ rest=>Z (Et (l.take (aa l-aa rest)) rest)) (by omega) ?_ ?_ ()).trans (by simp);intro rec _;simp only[kj,bu];rfl;intro rec i _ f rest a7 hd n;have a:=oU hd;have hf:f∈l:=aG a;have hlen:aa rest=aa l-i-1:=by have:=Ar aa hd;simp at this;omega
 have b:nth l (i:Int)=Z f:=iy hd;have c:=n ();rw[show aa l-aa rest=i+1 by omega,Sn hd]at c;rw[show aa l-aa (f::rest)=i by simp[hlen];omega,fB a7,b6];show _=Z ((l.take i).any (CJ f ·)||Et (l.take i++[f]) rest);refine mP (A:=Unit) (l.take i) (λk _=>(k:Int)) (λ_ r=>Z (r.any (CJ f ·)||Et (l.take i++[f]) rest)) (by simp;omega) ?_ ?_ ()
 grind[da,dE,f']
 intro m k _ g o hk sX d;rw[da,dE (by omega)]at hk;have e:=oU sX;rw[eK hk]at e;have h:g∈l:=aG e;have j:nth l (k:Int)=Z g:=by rw[zB];exact e
 have hc:EL (f,g)=Z (CJ f g):=aA1 (hp f hf) (hp g h);simp only[fB hk,b6,b,j,bT,hc,f' hk,dD];cases CJ f g with
 |true=>rfl
 |false=>simpa using d ()
def Sc:∀(l pre:Au),Et pre l=U↔(∀g∈pre,∀f∈l,CJ f g=U)/\l.Pairwise (λg f=>CJ f g=U)
 | [],pre=>by simp[Et]
 |f::l,pre=>by
  simp only[Et,cL,Sc l,aR,bc,aF,aV]
  grind
theorem RQ(k:Int):∀ {a:eD} {S:cu (sI×Bool)},a.Nodup->match xP k a S with
  |none=>∃p∈a,uN S (k,p)=Y
  |some c=>(∀p∈a,uN S (k,p)=U)/\∀q:sI,uN c q=Y↔(q.1=k/\q.2∈a)\/uN S q=Y
 | [],S,_=>by simp[xP]
 |p::a,S,b=>by
  rw[cx]at b;have d:=RQ k (S:=wC sd (k,p) Y S) b.2
  grind[xP,uN,wC,Oq]
theorem Wr{f g:AL}(a:om f.2.1≠0)(b:om g.2.1≠0):CJ f g=U↔(om g.2.1≠2->om f.2.1≠2->DM g=DM f->∀p∈g.2.2.2.2,p∉f.2.2.2.2):=by grind[om,BH,wv,CJ,DM,bO8]
def RO:∀ {l:Au} {S:cu (sI×Bool)},(∀f∈l,om f.2.1≠0/\f.2.2.2.2.Nodup)->(xN l S=U↔(∀f∈l,om f.2.1≠2->∀p∈f.2.2.2.2,uN S (DM f,p)=U)/\l.Pairwise (λg f=>CJ f g=U))
 | [],S,_=>by simp[xN]
 |g::l,S,a=>by
  have b:=a g (by simp);have c:=λS=>RO (l:=l) (S:=S) λf hf=>a f (by simp[hf])
  grind[Wr,xN,om,decide_eq_true,aR,decide_eq_false,RQ,DM,xP]
end Dp
namespace Dp
def ar9{al:gp}{ag:hI}{fs:eD}(h:tH al ag fs=0):fp al ag fs:=by grind[tH,tJ,De,decide_eq_false,absurd]
def az3(al:gp)(ag:hI)(fs:eD)(l:Au)(j:aa al<=1000000)(ha:aa ag<=1000000)(hf:aa fs<=1000000)(hl:aa l<=1000)(hp:∀f∈l,aa f.2.2.2.2<=1000):HU (al,ag,fs,l)=Z (pD al ag fs l):=by
 unfold HU pD;simp only;rw[R4 al ag fs j ha hf,au2];simp only[bT];by_cases g:tH al ag fs=0;have h:=ar9 g;rw[hT g,aw,bu,bu];by_cases b:(128:Int)<(aa l:Int);rw[hT b];rfl;rw[ft b,bu,bu];refine vF (A:=eD) l (λi a=>(a,(i:Int))) (λ_ _=>Z _) (λi a=>a=(l.take i).map (·.1)) (by omega) ?_ ?_ [] rfl;intro rec a ha;rw[bI]at ha;subst ha;simp only[kj,bu];have k:xk ((al,ag,fs,l),3)=Z (l.any q5):=GX hl 3 q5 λf hf=>by
  unfold wi q5
  grind
 have c:xk ((al,ag,fs,l),10)=Z (l.any λf=>!qM f.2.2.2.2):=GX hl 10 _ λf hf=>by unfold wi;rw[show No (((10:Int))=3)=U from rfl,bu,show No (((10:Int))=10)=Y from rfl,b6];simp only;rw[S9 (by have:=hp f hf;omega)];rfl
 have m:xk ((al,ag,fs,l),2)=Z (l.any nj):=GX hl 2 nj λf hf=>by
  unfold wi nj
  grind
 have K8:xk ((al,ag,fs,l),9)=Z (l.any rM):=GX hl 9 rM λf hf=>by
  unfold wi rM
  grind[F_,bT]
 have d:xk ((al,ag,fs,l),14)=Z (l.any s_):=GX hl 14 s_ λf hf=>by
  unfold wi s_;rw[show No (((14:Int))=3)=U from rfl,bu,show No (((14:Int))=10)=U from rfl,bu,show No (((14:Int))=2)=U from rfl,bu,show No (((14:Int))=9)=U from rfl,bu,show No (((14:Int))=14)=Y from rfl,b6];simp only;cases !(f.2.2.2.1.toList==(cK #[]).toList)with
  |false=>rfl
  |true=>
   let ⟨_,e,h1,h2⟩:=aB8 f.2.2.2.1
   grind[bT]
 have n:xk ((al,ag,fs,l),1)=Z (l.any xY):=GX hl 1 xY λf hf=>by
  unfold wi xY
  grind[F_,bT,om]
 rw[k,c,S9 (by simp;omega),m,K8,d,n];simp only[bT];cases l.any q5 with
 |true=>rfl
 |false=>
  cases hd:l.any λf=>!qM f.2.2.2.2 with
  |true=>rfl
  |false=>
   cases qM (l.map (·.1))with
   |false=>rfl
   |true=>
    cases l.any nj with
    |true=>rfl
    |false=>
     cases o:l.any rM with
     |true=>rfl
     |false=>
      cases l.any s_ with
      |true=>rfl
      |false=>
       cases l.any xY with
       |true=>rfl
       |false=>
        have hs:∀f∈l,om f.2.1≠0:=λf hf e=>by have:=bc.1 o f hf;unfold rM at this;exact this (hT e)
        have p:xk ((al,ag,fs,l),7)=Z (l.any λf=>f.2.2.2.2.any (uO al ag fs f.2.1)):=GX hl 7 _ λf hf=>by grind[wi,Ez,am4,bT]
        rw[p,aE2 hl hp];simp only[bT,aw,bu,jn];cases l.any λf=>f.2.2.2.2.any (uO al ag fs f.2.1)with
        |true=>rfl
        |false=>
         have r:Et [] l=xN l []:=by
          have h1:=Sc l [];have h2:=RO (l:=l) (S:=[]) λf hf=>⟨hs f hf,(pq (by grind[bc])).imp λh=>by omega⟩;have s:∀q,uN [] q=U:=λ_=>rfl
          grind
         grind[xN]
 grind[fB,iy,bT,f',m9,bm,oU]
 grind[decide_eq_false,bj]
end Dp
namespace Dp
theorem H3{a b:Int}(ha:0<=a):a.tmod b=a%b:=Int.tmod_eq_emod_of_nonneg ha
theorem aA8{a b:Int}(ha:0<=a)(c:0<b):bN a.toNat b.toNat=bN b.toNat (a%b).toNat:=by
 obtain⟨x,rfl⟩:∃x:Nat,a=(x:Int):=⟨a.toNat,by omega⟩
 grind[aO,Nat.gcd_comm,Nat.gcd_rec]
def Rr{a b:Int}(ha:0<=a)(e:0<=b)(d:b<=18446744073709551615):DW (a,b)=Z ((bN a.toNat b.toNat:Nat):Int):=by
 unfold DW;refine bI2 (λx:Int×Int=>0<=x.1/\0<=x.2/\x.2<=18446744073709551615) (·.2.toNat) (λx o=>o=Z ((bN x.1.toNat x.2.toNat:Nat):Int)) ?_ (x:=(a,b)) ⟨ha,e,d⟩ (by simp only;omega);rintro rec ⟨a,b⟩ ⟨i1,i2,i3⟩ f;simp only at i1 i2 i3⊢;by_cases c:0<b;have m1:=dq a (show b≠0 by omega);have m2:=dj a c
 grind[decide_eq_true,decide_eq_false,bT,H3,aA8]
 rw[ft c,bu,show b=0 by omega]
 grind[bN,Nat.gcd_zero_right]
theorem aG5{a b:Int}(ha:0<=a)(d:0<=b)(c:b<=18446744073709551615):PA (a,b)=Z ((bN a.toNat b.toNat:Nat):Int):=Rr ha d c
def aL0(n k:Nat):n &&& 2^k=(n.testBit k).toNat*2^k:=by
 apply Nat.eq_of_testBit_eq
 grind[decide_eq_false]
def aO9{c:Int}{k:Nat}(a:0<=c)(h1:c<=9223372036854775807)(hk:k<63):No (ek (aY dB.bits c &&& aY dB.bits ((2^k:Nat):Int)).toNat=(0:Int))=No (c / ((2^k:Nat):Int)%2=0):=by
 obtain⟨n,rfl⟩:∃n:Nat,c=(n:Int):=⟨c.toNat,by omega⟩;have hp:2^k<9223372036854775808:=Nat.pow_lt_pow_right (by decide) hk;have p:0<2^k:=lR k;have e:(aY dB.bits (n:Int) &&& aY dB.bits ((2^k:Nat):Int)).toNat=(n.testBit k).toNat*2^k:=by show(aY 64 (n:Int) &&& aY 64 ((2^k:Nat):Int)).toNat=_;rw[BitVec.toNat_and,fu,fu,show(((2^k:Nat):Int)%((2^64:Nat):Int)).toNat=2^k by omega,show((n:Int)%((2^64:Nat):Int)).toNat=n by omega,aL0]
 grind[Int.natCast_emod,Int.natCast_ediv,dZ,fx,decide_true,decide_eq_false]
def aK3{c n:Int}(hc:0<=c)(B:c<=35184372088832)(R:1<=n)(C:n<=35184372088832)(S:c*c<=n*35184372088832):Hx (c,n)=Z (c*c / n):=by
 unfold Hx;have step:∀ {q r m s w:Int},q*n+r=m*c->0<=r->r<n->0<=q->q<=35184372088832->0<=s->s<=n->2*m*c+s=w->2*q+(2*r+s) / n=w / n/\(2*r+s)%n=w%n:=by
  intro q r m s w h1 h2 h3 h4 h5 h6 h7 D;have e:w=(2*r+s)+n*(2*q):=by rw[<-D,show 2*m*c=2*(m*c)by grind,<-h1];grind
  rw[e,kh _ _ (by omega),js];omega
 have mlt:∀ {m:Int},0<=m->m<=c->0<=m*c / n/\m*c / n<=35184372088832:=λ{m} E h1=>by have a:=aP h1 hc;have b:m*c / n<35184372088833:=cm (by omega) (by omega);exact⟨bK (aH E hc) (by omega),by omega⟩
 have o:c / ((2^47:Nat):Int)=0:=by
  have:((2^47:Nat):Int)=140737488355328:=by decide
  exact Int.ediv_eq_zero_of_lt hc (by omega)
 have P9:((0:Int),(0:Int),(70368744177664:Int))=(c / ((2^(47-0):Nat):Int)*c / n,c / ((2^(47-0):Nat):Int)*c%n,ite (0=47) 0 ((2^(46-0):Nat):Int)):=by simp only[mE];rw[o,eH,Int.zero_ediv,Int.zero_emod];rfl
 rw[P9];refine vF (A:=Unit) (aQ 47) (λj _=>(c / ((2^(47-j):Nat):Int)*c / n,c / ((2^(47-j):Nat):Int)*c%n,ite (j=47) 0 ((2^(46-j):Nat):Int))) (λ_ _=>Z (c*c / n)) (λ_ _=>True) (by decide) ?_ ?_ () trivial;intro rec _ _;rw[cO,cr rfl];show Z (c / ((2^0:Nat):Int)*c / n)=_;rw[show((2^0:Nat):Int)=1 by rfl,mF];intro rec j _ y rest hj _ _ G;rw[cO]at hj;rw[cc (by omega)];have pk:0<2^(46-j):=lR _;have H:((2^(47-j):Nat):Int)=((2^(46-j):Nat):Int)*2:=by rw[show 47-j=(46-j)+1 by omega,mG,dt];rfl
 have f:=G () trivial;rw[show 47-(j+1)=46-j by omega]at f;have d:(((2^(46-j):Nat):Int)).tdiv 2=if j+1=47 then 0 else((2^(46-(j+1)):Nat):Int):=by rw[B2];by_cases e:j+1=47;rw[cr e,show 46-j=0 by omega];rfl;rw[cc e,show 46-j=(46-(j+1))+1 by omega,mG];omega
 have I:(0:Int)<=((2^(46-(j+1)):Nat):Int):=Int.natCast_nonneg _;have J:2^(46-j)<=2^46:=Nat.pow_le_pow_right (by decide) (by omega);have h:c / ((2^(46-j):Nat):Int)=2*(c / ((2^(47-j):Nat):Int))+c / ((2^(46-j):Nat):Int)%2:=by
  have g:c / (((2^(46-j):Nat):Int)*2)=c / ((2^(46-j):Nat):Int) / 2:=by rw[Int.ediv_ediv,cc (by omega)];omega
  rw[H,g];omega
 have p:0<=c / ((2^(46-j):Nat):Int):=bK hc (by omega);have t:c / ((2^(46-j):Nat):Int)<=c:=fw _ hc;have Nc:0<=c / ((2^(47-j):Nat):Int):=bK hc (by omega);have i:=aO9 (k:=46-j) hc (by omega) (by omega);generalize K:c / ((2^(46-j):Nat):Int)=m at *;generalize N:c / ((2^(47-j):Nat):Int)=M at *;let ⟨qN,fa⟩:=mlt Nc (by omega);let ⟨t0,t1⟩:=mlt p t;have O:=dq (M*c) (show n≠0 by omega);have P:=dj (M*c) (show 0<n by omega);have u:M*c / n*n+M*c%n=M*c:=by have:=df (M*c) n;rw[bX n]at this;exact this
 have tX:0<=c / n:=bK hc (by omega);have yG:c / n<=c:=fw _ hc;have f0:=dq c (show n≠0 by omega);have f1:=dj c (show 0<n by omega);have Q:=df c n;simp only;rw[hT (by omega:(0:Int)<((2^(46-j):Nat):Int)),b6,fx (n:=2*(M*c / n)),fx (n:=2*(M*c%n))];simp only[bT,i];rw[ft (by omega:¬n=0),ft (by decide:¬(2:Int)=0),d];simp only[bu,bT];rw[fx (n:=ite (j+1=47) 0 ((2^(46-(j+1)):Nat):Int)) (by split<;>omega) (by rw[<-d,B2];omega)];by_cases v:m%2=0;rw[hT v,aw,bu,B2,H3 (by omega)];let ⟨g,l⟩:=step (s:=0) (w:=m*c) u O P qN fa (by omega) (by omega) (by rw[h,v];grind);rw[eU]at g l;have z0:0<=2*(M*c%n) / n:=bK (by omega) (by omega);rw[fx (n:=2*(M*c%n) / n),fx (n:=2*(M*c / n)+2*(M*c%n) / n),g,l];exact f;have x:m%2=1:=by omega
 rw[ft v,bj,b6,B2 hc,H3 hc,fx (n:=c / n),fx (n:=2*(M*c%n)+c%n),B2,H3 (by omega)];have e0:2*M*c+c=m*c:=by rw[h,x];grind
 have z0:0<=(2*(M*c%n)+c%n) / n:=bK (by omega) (by omega);have z:m*c=(2*(M*c%n)+c%n)+n*(2*(M*c / n)+c / n):=by grind
 have g:2*(M*c / n)+c / n+(2*(M*c%n)+c%n) / n=m*c / n:=by
  conv=>rhs;rw[z]
  rw[kh _ _ (by omega)];omega
 have l:(2*(M*c%n)+c%n)%n=m*c%n:=by
  conv=>rhs;rw[z]
  rw[js]
 rw[fx (n:=(2*(M*c%n)+c%n) / n),fx (n:=2*(M*c / n)+c / n),fx (n:=2*(M*c / n)+c / n+(2*(M*c%n)+c%n) / n),g,l];exact f
end Dp
namespace Dp
theorem Q_{x:Int}(a:0<=x)(h1:x<=9223372036854775807):DP x=Z x:=by grind[DP,decide_eq_false,G3]
def SG{m d:Int}(hm:0<=m)(a:m<=9223372036854775807)(hd:1<=d)(sX:d<=9223372036854775807)(b:bN m.toNat d.toNat=1):J0 (m,d)=Z Y:=by
 unfold J0;simp only;rw[hT (by omega:0<d),b6,Q_ hm a,Q_ (by omega) sX]
 grind[bT,aG5]
def TD{m d:Int}(hm:0<=m)(a:m<=9223372036854775807)(hd:1<=d)(sX:d<=9223372036854775807):J_ (m,d)=Z (m / d,0):=by
 have b:0<=m / d:=bK hm (by omega);have h1:m / d<=m:=fw _ hm;have hp:NT (m,d)=Z (m / d,m%d,U):=by
  unfold NT
  grind[Q_,bT,decide_eq_false,B2,H3,G3]
 grind[J_,decide_eq_false,bT,Ji,fx]
theorem T8{m d G:Int}(hm:0<=m)(a:m<=9223372036854775807)(hd:1<=d)(sX:d<=9223372036854775807)(h:bN m.toNat d.toNat=1)(g:0<=G)(b:G<=9223372036854775807):∃c,HB ((m,d),(G,1))=Z c/\(c<0↔m<G*d):=by have i:0<=m / d:=bK hm (by omega);have h1:m / d<=m:=fw _ hm;have f:=df m d;have j:=dq m (show d≠0 by omega);have k:m / d<G↔m<G*d:=jU (by omega);unfold HB;simp only;rw[SG hm a hd sX h,SG g b (by omega) (by omega) (by grind[bN,jy])];simp only[bT,aw,bu];refine V5 (·=(m,d,G,1)) (λ_=>0) (λo=>∃c,o=Z c/\(c<0↔m<G*d)) ?_ rfl (by decide);rintro rec y rfl _;simp only;rw[TD hm a hd sX,TD g b (show(1:Int)<=1 by omega) (by omega)];simp only[bT,mF,eE];rw[bX d]at f;have hz:=aH i (show 0<=d by omega);rw[fx (n:=m / d*d),fx (n:=m-m / d*d),fx (n:=G),Int.sub_self,fx (n:=0)];unfold Ld;simp only;by_cases e:m / d=G;rw[hT e,aw,bu];by_cases z:m-m / d*d=0;rw[hT z,b6,z];exact⟨_,rfl,by omega⟩;rw[ft z,bu,l6,b6,ft (by omega),bu,hT (by omega),b6];exact⟨_,rfl,by omega⟩;rw[ft e,bj,b6];by_cases c:m / d<G;rw[hT c,b6];exact⟨_,rfl,by omega⟩;rw[ft c,bu,hT (by omega),b6];exact⟨_,rfl,by omega⟩
def aP9{c n:Int}(hc:0<c)(I:0<n):∃g m x h d y:Int,0<g/\0<m/\0<x/\0<h/\0<d/\0<y/\((bN c.toNat n.toNat:Nat):Int)=g/\n / g=m/\m<=n/\c / g=x/\x<=c/\((bN c.toNat m.toNat:Nat):Int)=h/\m / h=d/\d<=n/\c / h=y/\y<=c/\bN (x*y).toNat d.toNat=1/\∀G:Int,x*y<G*d↔c*c<G*n:=by
 obtain⟨C,rfl⟩:∃C:Nat,c=(C:Int):=⟨c.toNat,by omega⟩;obtain⟨N,rfl⟩:∃N:Nat,n=(N:Int):=⟨n.toNat,by omega⟩;have v:0<C:=by omega
 have J:0<N:=by omega
 have j:0<bN C N:=jN _ v;let ⟨X,o⟩:=lH C N;let ⟨CY,f⟩:=ly C N;have s:bN X CY=1:=by have:=lI (bN C N) X CY;rw[<-o,<-f]at this;exact(jA j (by omega:bN C N*1=bN C N*bN X CY)).symm
 have w:0<CY:=by grind[gh]
 have K:0<X:=by grind[gh]
 have hp:0<bN C CY:=jN _ v;let ⟨i,p⟩:=lH C CY;let ⟨D,l⟩:=ly C CY;have t:bN i D=1:=by have:=lI (bN C CY) i D;rw[<-p,<-l]at this;exact(jA hp (by omega:bN C CY*1=bN C CY*bN i D)).symm
 have M:0<D:=by grind[gh]
 have O:0<i:=by grind[gh]
 have u:bN X D=1:=mN ⟨bN C CY,by rw[Nat.mul_comm];exact l⟩ s;have co:bN (X*i) D=1:=mO u t;have le:∀ {a b k:Nat},0<k->a=k*b->b<=a:=λ{a b k} h e=>by rw[e];exact Nat.le_mul_of_pos_left _ h
 have fa:CY<=N:=le j f;have gb:X<=C:=le j o;have lb:D<=CY:=le hp l;have yF:i<=C:=le hp p;have r:∀ {a b k:Nat},0<k->a=k*b->(a:Int) / (k:Int)=(b:Int):=λ{a b k} h e=>by rw[e,dt,Int.mul_ediv_cancel_left _ (by omega)]
 generalize z:bN C N=g at j o f;generalize B:bN C CY=h at hp p l;refine⟨(g:Int),(CY:Int),(X:Int),(h:Int),(D:Int),(i:Int),by omega,by omega,by omega,by omega,by omega,by omega,?_,r j f,by omega,r j o,by omega,?_,r hp l,by omega,r hp p,by omega,?_,λG=>?_⟩;rw[aO,aO,z];rw[aO,aO,B];rw[<-dt,aO,aO];exact co;have E:(C:Int)*(C:Int)=((g*h:Nat):Int)*((X:Int)*(i:Int)):=by
  have a:(C:Int)=(g:Int)*(X:Int):=by rw[o,dt]
  have b:(C:Int)=(h:Int)*(i:Int):=by rw[p,dt]
  grind[dt]
 have H:G*(N:Int)=((g*h:Nat):Int)*(G*(D:Int)):=by
  have a:(N:Int)=(g:Int)*((h:Int)*(D:Int)):=by rw[f,dt,l,dt]
  rw[a,dt];grind
 have pp:0<((g*h:Nat):Int):=by have:=Nat.mul_pos j hp;omega
 rw[E,H];exact⟨λq=>Int.mul_lt_mul_of_pos_left q pp,λq=>Int.lt_of_mul_lt_mul_left q (by omega)⟩
def Ub{a b p:bs}(ha:d' a=Y)(j:d' b=Y)(hp:d' p=Y):∃m d:Int,F1 (a,b,p)=Z (m,d)/\0<=m/\m<=9223372036854775807/\1<=d/\d<=9223372036854775807/\bN m.toNat d.toNat=1/\∀G,m<G*d↔Ba a b p G:=by
 let ⟨_,s2,K⟩:=Gr ha j;let ⟨_,s5,s6⟩:=Gr ha hp;let ⟨_,s8,s9⟩:=Gr j hp;have g1:∀n:Nat,bN n 1=1:=jy;have M:CV [(a.1,a.2),(b.1,b.2),(p.1,p.2)]=Z Y:=by grind[LL]
 have d1:Ic ((a.1,a.2),(b.1,b.2),(a.1,a.2),(b.1,b.2))=Z (sl a b):=bg8 ha j ha j;have d2:Ic ((a.1,a.2),(b.1,b.2),(a.1,a.2),(p.1,p.2))=Z (A4 a b p):=bg8 ha j ha hp;have d3:Ic ((a.1,a.2),(p.1,p.2),(a.1,a.2),(p.1,p.2))=Z (sl a p):=bg8 ha hp ha hp;have d4:Ic ((b.1,b.2),(p.1,p.2),(b.1,b.2),(p.1,p.2))=Z (sl b p):=bg8 j hp j hp;have d5:we ((a.1,a.2),(b.1,b.2),(a.1,a.2),(p.1,p.2))=Z (fr a b p):=(yK ha j ha hp).1;unfold F1;simp only[bT];rw[M,d1,d2,d3,d4,d5];simp only[bT,aw,bu];unfold Ba;by_cases c1:A4 a b p<=0
 grind[decide_eq_true]
 rw[ft c1,bu];by_cases c2:sl a b<=A4 a b p
 grind[decide_eq_true]
 rw[ft c2,bu];have H:1<=sl a b:=by omega
 have ht:=aF7 ha j hp;have N:=T4 ha hp H;have zero:fr a b p=0->∃m d:Int,(Z ((0:Int),(1:Int)):dv bs)=Z (m,d)/\0<=m/\m<=9223372036854775807/\1<=d/\d<=9223372036854775807/\bN m.toNat d.toNat=1/\∀G,m<G*d↔if A4 a b p<=0 then sl a p<G else ite (sl a b<=A4 a b p) (sl b p<G) <|fr a b p*fr a b p<G*sl a b:=λz=>by
  refine⟨_,_,rfl,by omega,by omega,by omega,by omega,g1 _,λG=>?_⟩;rw[cc c1,cc c2,z,eE,eG];exact⟨λh=>cn h (by omega),λh=>by
   rcases(by omega:0<G\/G<=0)with q|q
   exact q;have:=Int.mul_nonpos_of_nonpos_of_nonneg q (show 0<=sl a b by omega);omega⟩
 have main:∀c:Int,0<c->c<=35184372088832->c*c=fr a b p*fr a b p->∃m d:Int,
   (a8 (DW (c,sl a b)) λe=>
    a8 ((cond (e=0) W <|some (ek ((sl a b).tdiv e)))) λl=>
    a8 (DW (c,l)) λf=>
    a8 ((cond (e=0) W <|some (ek (c.tdiv e)))) λk=>
    a8 ((cond (f=0) W <|some (ek (c.tdiv f)))) λi=>
    a8 ((cond (e=0) W <|some (ek ((sl a b).tdiv e)))) λr=>
    a8 ((cond (f=0) W <|some (ek (r.tdiv f)))) λs=>
    a8 ((cond (i=0) W <|some (ek ((9223372036854775807:Int).tdiv i)))) λt=>
    cond (t<k) (
    a8 (Hx (c,sl a b)) λu=>
    Z (u,(1:Int))) (
    Z ((ek (k*i)),s)))=Z (m,d)/\0<=m/\m<=9223372036854775807/\1<=d/\d<=9223372036854775807/\bN m.toNat d.toNat=1/\∀G,m<G*d↔if A4 a b p<=0 then sl a p<G else ite (sl a b<=A4 a b p) (sl b p<G) <|fr a b p*fr a b p<G*sl a b:=λc O P B=>by
  let ⟨g,I,x,h,d,y,f1,f2,f3,f4,f5,f6,Q,R,e3,S,e5,e6,e7,e8,e9,e10,C,D⟩:=aP9 (c:=c) (n:=sl a b) O (by omega);rw[Rr (by omega) (by omega) (by omega),Q];simp only[bT];rw[ft (by omega:¬g=0)];simp only[bu,bT];rw[B2,R,fx (n:=I),Rr (by omega) (by omega) (by omega),e6];simp only[bT];rw[ft (by omega:¬h=0),show c.tdiv g=x from(B2).trans S,show c.tdiv h=y from(B2).trans e9,show I.tdiv h=d from(B2).trans e7,fx (n:=x),fx (n:=y),fx (n:=d)];simp only[bu,bT];have VK:0<=(9223372036854775807:Int) / y:=bK (by omega) (by omega);have hy1:(9223372036854775807:Int) / y<=9223372036854775807:=fw _ (by omega);rw[ft (by omega:¬y=0),bu,bT,B2,fx];by_cases o:(9223372036854775807:Int) / y<x;rw[hT o,b6,aK3 (by omega) P H K (by rw[B];exact N),bT];have qs:0<=c*c / sl a b:=bK (sq_nonneg c) (by omega);have w1:c*c / sl a b<35184372088833:=cm (by omega) (by rw[B];omega);refine⟨_,_,rfl,qs,by omega,by omega,by omega,g1 _,λG=>?_⟩
  grind[jU]
  have v:x*y<=9223372036854775807:=by have a:=aP (show x<=9223372036854775807 / y by omega) (show 0<=y by omega);have b:=Int.ediv_mul_le 9223372036854775807 (show y≠0 by omega);omega
  have w:0<=x*y:=aH (by omega) (by omega);rw[ft o,bu,fx (n:=x*y) (by omega) v];refine⟨_,_,rfl,w,v,by omega,by omega,C,λG=>?_⟩;rw[cc c1,cc c2,<-B];exact D G
 by_cases J:fr a b p<0;rw[hT J,b6,fx,ft (by omega),bu];exact main (0-fr a b p) (by omega) (by omega) (by grind);rw[ft J,bu];by_cases E:fr a b p=0;rw[hT E,b6];exact zero E;rw[ft E,bu];exact main (fr a b p) (by omega) (by omega) rfl
def aR7{a b p:bs}(ha:d' a=Y)(g:d' b=Y)(hp:d' p=Y){G:Int}(i:0<=G)(h:G<=9223372036854775807):∃f c,F1 (a,b,p)=Z f/\HB ((f.1,f.2),(G,1))=Z c/\(c<0↔Ba a b p G):=by
 let ⟨m,d,e,h1,h2,j,k,l,n⟩:=Ub ha g hp
 grind[T8]
end Dp
open Go.Pg
open fp (kc ny ki l9 Tv wF)
set_option maxRecDepth 10000
namespace Dp
def zZ(id:Int)(al:gp):gp:=al.filter λn=>!decide (n.1=id)
theorem H2{id:Int}{al:gp}{n:b9}:n∈zZ id al↔n∈al/\n.1≠id:=by grind[zZ]
theorem R9(al:gp){id k:Int}(hk:k≠id):nQ (zZ id al) k=nQ al k:=by grind[nQ,zZ,List.find?,decide_eq_true,decide_eq_false]
def RH:∀ {l:eD},l.Pairwise (·<·)->qM l=Y
 | [],_=>rfl
 | [_],_=>rfl
 |a::b::l,h=>by rw[aR]at h;show(No (a<b)&&qM (b::l))=Y;rw[hT (h.1 b (by simp)),RH h.2];rfl
section
variable {ag:hI} {al:gp} {id:Int} (hd:na ag id=0)
include hd
theorem PM{a:ct}(ha:a∈ag):a.2.1≠id/\a.2.2.1≠id:=⟨λe=>(DG ha).1 (by rw[e];exact hd),λe=>(DG ha).2 (by rw[e];exact hd)⟩
theorem Fk(k:Int):pathOf (zZ id al) ag k=pathOf al ag k:=by unfold pathOf;cases ha:px ag k<;>grind[px,ba,R9,PM]
theorem Sk:∀l:hI,zb (zZ id al) ag l=zb al ag l
 | []=>rfl
 |a::l=>by simp only[zb,Fk hd,Sk l]
theorem aw3(n:b9):kc (zZ id al) ag n=kc al ag n:=by
 have e:np (zZ id al) ag n.1 ag=np al ag n.1 ag:=by unfold np;refine Ar (mo · ag) (funext λa=>?_);unfold ph;rw[Fk hd]
 unfold kc;rw[e]
theorem RL{n:b9}(h:n.1=id):kc al ag n=[]:=by unfold kc;rw[h,O1 hd];rfl
theorem Q1:∀(l:gp) (m:eY),uo ((zZ id l).map (kc al ag)) m=uo (l.map (kc al ag)) m
 | [],m=>rfl
 |n::l,m=>by
  by_cases e:n.1=id;have a:zZ id (n::l)=zZ id l:=by grind[zZ,decide_eq_true]
  rw[a,Q1 l m,aq,RL hd e];rfl;have a:zZ id (n::l)=n::zZ id l:=by grind[zZ,decide_eq_false]
  rw[a,aq,aq];exact Q1 l _
theorem Po:∀l:gp,((zZ id l).map (kc al ag)).flatten=(l.map (kc al ag)).flatten
 | []=>rfl
 |n::l=>by
  by_cases e:n.1=id;have a:zZ id (n::l)=zZ id l:=by grind[zZ,decide_eq_true]
  rw[a,Po l,aq,RL hd e];rfl;have a:zZ id (n::l)=n::zZ id l:=by grind[zZ,decide_eq_false]
  rw[a,aq,aq,cZ,cZ,Po l]
theorem Sf:l9 (zZ id al) ag=l9 al ag:=by
 have c:kc (zZ id al) ag=kc al ag:=funext λn=>aw3 hd n;have a:ny (zZ id al) ag=ny al ag:=by grind[ny,wF,Po]
 have b:ki (zZ id al) ag=ki al ag:=by grind[ki,Tv,wF,Q1]
 unfold l9;rw[a,b]
theorem Sb:l8 (zZ id al) ag=l8 al ag:=by grind[l8,wL,br,Fk]
theorem Nn:∀c:eD,l5 (zZ id al) ag c=l5 al ag c
 | []=>rfl
 |d::c=>by
  have e:vi (zZ id al) ag d=vi al ag d:=by unfold vi;rw[Fk hd]
  simp only[l5,e,Nn c]
theorem H0:m_ (zZ id al) ag=m_ al ag:=by grind[m_,Sf,l5,zZ,Nn]
theorem Q2(q:bs):q8 (zZ id al) ag q=q8 al ag q:=by grind[q8,H0,Sb,l5,zZ,Nn]
theorem Ss(c:eD):rm (zZ id al) ag c=rm al ag c:=by grind[rm,xn,Sf,Sb,l5,zZ,Nn,q8,Q2]
theorem aD8{fs:eD}(F:CD al ag fs):CD (zZ id al) ag fs :=⟨by rw[Ss hd];exact F.zero,λc hc D a=>by rw[H0 hd]at hc;rw[Ss hd]at a;exact F.all c hc D a,λc hc=>by rw[H0 hd]at hc;exact F.ne c hc,by rw[H0 hd];exact F.j0,by rw[H0 hd];exact F.len⟩
omit hd in
theorem QG:∀ {l c pre a:gp},c.Sublist l->(∀x∈a,x∈pre)->sC pre l=U->sC a c=U
 |_,_,_,_,.slnil,_,_=>rfl
 |_::l,c,pre,a,.cons n hs,hp,h=>by unfold sC at h;rw[cL]at h;exact QG hs (λx b=>aV.2 (.inl (hp x b))) h.2
 |_::l,_,pre,a,.cons₂ n hs,hp,h=>by
  unfold sC at h⊢;rw[cL]at h⊢;refine⟨bc.2 λx b=>bc.1 h.1 x (hp x b),QG hs (λx b=>?_) h.2⟩;rcases aV.1 b with b|b
  exact aV.2 (.inl (hp x b));exact aV.2 (.inr b)
theorem aI4{fs:eD}(h:fp al ag fs):fp (zZ id al) ag fs:=by
 have c:(zZ id al).Sublist al:=List.filter_sublist;have d:((zZ id al).map (·.1)).Sublist (al.map (·.1)):=c.map _;have i:=pq h.vL;have f:=i.sublist d;have b:=h.conn;unfold vP at b;refine⟨?_,RH f,h.rX,h.E8,?_,h.Gk,h.Oy,?_,h.J',?_,?_⟩;have:=h.AD
 grind[wT]
 exact aj.2 λx g=>aj.1 h.Oz x (d.subset g);exact aj.2 λx g=>aj.1 h.Yh x (c.subset g);unfold vP;cases tX:sC [] al with
 |true=>rw[tX]at b;simp at b
 |false=>
  rw[tX,bu]at b;rw[QG c (λ_ g=>g) tX,bu];cases he:ag.any (λa=>!(No (a.2.1∈al.map (·.1))&&No (a.2.2.1∈al.map (·.1))))with
  |true=>rw[he]at b;simp at b
  |false=>
   rw[he,bu]at b;have j:ag.any (λa=>!(No (a.2.1∈(zZ id al).map (·.1))&&No (a.2.2.1∈(zZ id al).map (·.1))))=U:=bc.2 λa ha=>by grind[bc,PM,zZ,aN,H2,Bool.not_eq_false']
   rw[j,bu];exact b
 have:=h.FT;unfold u_ at *;rw[Sk hd];cases l:zb al ag ag with
 |none=>rw[l]at this;cases this
 |some r=>
  rw[l]at this;simp only at this⊢;have e:(oy p2 r).Perm r:=tG (vA r);have n:∀k,k≠id->nv (mkMap (zZ id al) []) k=nv (mkMap al []) k:=λk hk=>by grind[nv,Xi,R9]
  have m:∀s∈oy p2 r,s.1.2.1≠id/\s.1.2.2.1≠id:=λs hs=>by let ⟨a,ha,o,p⟩:=X7 l s (e.mem_iff.1 hs);rw[o,p];exact PM hd ha
  grind[TM,qx,aj]
end
end Dp
namespace Dp
def af8(al:gp)(ag:hI)(fs:eD)(id:Int)(hl:aa al<=1000000):NS ((al,ag,fs),id)=Z (zZ id al,ag,fs):=by
 unfold NS;refine(vF (A:=gp) al (λi a=>((i:Int),a)) (λa rest=>Z (a++zZ id rest,ag,fs)) (λi a=>aa a<=i) (by omega) ?_ ?_ [] (by simp)).trans (by simp)
 grind[zZ]
 intro rec i a x rest a7 b hd c;simp only[fB a7,b6,iy hd,bT,f' a7]
 grind[zZ,decide_eq_true,aw,decide_eq_false,bj,m9,bT]
def aq2{p0:bs}{l:eY}(hl:aa l<=1000){q:bs}(r:d' q=Y)(E:d' p0=Y)(s:∀p∈l,d' p=Y){G:Int}(t:0<=G)(k:G<=9223372036854775807)(K:dv Bool) :
  rounds (α:=Int) (β:=Bool) (λm b=>
   cond (b<(aa ((p0::l)):Int)) (
   a8 (nth (p0::l) (ek (b-(1:Int)))) λd=>
   a8 (nth (p0::l) b) λe=>
   a8 (F1 ((d.1,d.2),(e.1,e.2),(q.1,q.2))) λh=>
   a8 (HB ((h.1,h.2),(G,(1:Int)))) λj=>
   cond (j<(0:Int)) (
    Z U) (
    m (ek (b+(1:Int))))) K) (1:Int)=bif (uz p0 l).any (λg=>No (Ba (pI g) (pC g) q G))then Z U else K:=by
 refine vF (A:=bs) l (λi _=>((i+1:Nat):Int)) (λa rest=>cond ((uz a rest).any (λg=>No (Ba (pI g) (pC g) q G))) (Z U) K) ((p0::l)[·]?=Z ·) (by omega) ?_ ?_ p0 rfl
 grind[aC,uz]
 intro rec i a x rest a7 ha hd H;have u:(p0::l)[i+1]?=Z x:=by rw[aI];exact oU hd
 have v:d' a=Y:=by grind[aG]
 have gA:d' x=Y:=s x (aG (oU hd));let ⟨f,c,w,z,B⟩:=aR7 v gA r t k;have o:F1 ((a.1,a.2),(x.1,x.2),(q.1,q.2))=Z f:=w;have C:ek (((i+1:Nat):Int)-1)=(i:Int):=by grind[fx]
 have D:ek (((i+1:Nat):Int)+1)=((i+1+1:Nat):Int):=f' (n:=2000000) (by omega);simp only[aC,fB (show i+1<aa l+1 by omega),b6,zB,ha,u,bT,C,D,o,z,uz,dD];have I:No (Ba (pI (a.1,a.2,x.1,x.2)) (pC (a.1,a.2,x.1,x.2)) q G)=No (c<0):=decide_eq_decide.2 B.symm
 grind
section
variable {al:gp} {ag:hI} {fs:eD} (h:fp al ag fs)
include h
theorem aM7{q:bs}(o:yU q=Y){gap:Int}(r:0<=gap)(h1:gap<=64) :
  JD ((al,ag,fs),q,gap)=Z (!((pz al ag ag).any λg=>No (Ba (pI g) (pC g) q (gap*gap)))&&!(al.any λn=>No ((n.2.1-q.1)*(n.2.1-q.1)+(n.2.2-q.2)*(n.2.2-q.2)<gap*gap))):=by
 have t:=h.pA;have u:=h.qF;have v:0<=gap*gap/\gap*gap<=64*64:=Eo r h1 r h1;have f:=rS o;have w:=Dx.1 o;unfold JD;simp only;rw[fx (n:=gap*gap)];refine(mP (A:=Unit) ag (λi _=>(i:Int)) (λ_ rest=>cond ((pz al ag rest).any (λg=>No (Ba (pI g) (pC g) q (gap*gap)))) (Z U) <|some (!(al.any λn=>No ((n.2.1-q.1)*(n.2.1-q.1)+(n.2.2-q.2)*(n.2.2-q.2)<gap*gap)))) (by omega) ?_ ?_ ()).trans ?_;intro rec _;simp only[kj,bu,pz,fX,List.any_nil];refine mP (A:=Unit) al (λi _=>(i:Int)) (λ_ rest=>Z (!(rest.any λn=>No ((n.2.1-q.1)*(n.2.1-q.1)+(n.2.2-q.2)*(n.2.2-q.2)<gap*gap)))) (by omega) ?_ ?_ ()
 grind[bj]
 intro s i _ x rest a7 hd j;have d:x∈al:=ax (hd▸aU ..);have z:=Dx.1 (h.tt d);let ⟨m1,m2⟩:=vR (a:=x.2.1-q.1) (b:=x.2.1-q.1) (m:=2097152) (n:=2097152);let ⟨m3,m4⟩:=vR (a:=x.2.2-q.2) (b:=x.2.2-q.2) (m:=2097152) (n:=2097152);simp only[fB a7,b6,iy hd,bT,f' a7,dD];rw[fx (n:=x.2.1-q.1),fx (n:=x.2.2-q.2),fx (n:=(x.2.1-q.1)*(x.2.1-q.1)),fx (n:=(x.2.2-q.2)*(x.2.2-q.2)),fx (n:=(x.2.1-q.1)*(x.2.1-q.1)+(x.2.2-q.2)*(x.2.2-q.2))];cases No ((x.2.1-q.1)*(x.2.1-q.1)+(x.2.2-q.2)*(x.2.2-q.2)<gap*gap)with
 |true=>rfl
 |false=>simpa using j ()
 intro rec i _ a rest a7 hd j;have ha:a∈ag:=ax (hd▸aU ..);let ⟨p,l,hp,k,B⟩:=FW h ha;have e:CU ((al,ag,fs),a.1)=Z (p::l,0):=by rw[Q7 h,hp]
 have c:∀x∈p::l,d' x=Y:=λx d=>rS (h.D0 ha hp x d);have C:pz al ag (a::rest)=uz p l++pz al ag rest:=by unfold pz;rw[b_,k];rfl
 simp only[fB a7,b6,iy hd,bT,f' a7,e];refine(aq2 (by omega) f (c p (by simp)) (λx d=>c x (by simp[d])) v.1 (by omega) _).trans ?_;rw[C,List.any_append];cases(uz p l).any λg=>No (Ba (pI g) (pC g) q (gap*gap))with
 |true=>rfl
 |false=>simpa using j ()
 grind[pz,Ba]
end
theorem az1{g:nE}{q:bs}{gap:Int}(B:0<=gap)(h:Ba (pI g) (pC g) q (gap*gap)):oJ gap q g=Y:=by
 have l:∀ {x y:Int},x*x+y*y<gap*gap->(-gap<=x/\x<=gap)/\-gap<=y/\y<=gap:=λ{x y} E=>by
  have f:=sq_nonneg x;have a2:=sq_nonneg y;have key:∀z:Int,z*z<gap*gap->-gap<=z/\z<=gap:=λz hz=>by
   rcases(by omega:z < -gap\/gap<z\/(-gap<=z/\z<=gap))with c|c|c
   have:=kQ (show gap<=-z by omega) (show gap<=-z by omega) B (by omega);have e:-z*-z=z*z:=by grind
   omega;have:=kQ (show gap<=z by omega) (show gap<=z by omega) B (by omega);omega;exact c
  exact⟨key x (by omega),key y (by omega)⟩
 have goal:∀o m K_ n:Int,min o m-gap<=q.1->q.1<=max o m+gap->min K_ n-gap<=q.2->q.2<=max K_ n+gap->(No (min o m-gap<=q.1)&&(No (q.1<=max o m+gap)&&(No (min K_ n-gap<=q.2)&&No (q.2<=max K_ n+gap))))=Y:=λo m K_ n a b c d=>by rw[hT a,hT b,hT c,hT d];rfl
 let ⟨f,a2,i,j⟩:=g;unfold oJ;simp only[pI,pC]at h;unfold Ba at h;by_cases c1:A4 (f,a2) (i,j) q<=0;rw[cr c1]at h;let ⟨C,D⟩:=l h
 grind
 rw[cc c1]at h;by_cases c2:sl (f,a2) (i,j)<=A4 (f,a2) (i,j) q;rw[cr c2]at h;let ⟨C,D⟩:=l h;simp only at C D;exact goal _ _ _ _ (by simp only;omega) (by simp only;omega) (by simp only;omega) (by simp only;omega);rw[cc c2]at h;have p:0<sl (f,a2) (i,j):=by omega
 have ix:sl (f,a2) (i,j)*(q.1-f)=A4 (f,a2) (i,j) q*(i-f)-fr (f,a2) (i,j) q*(j-a2):=by unfold sl A4 fr;grind
 have G:sl (f,a2) (i,j)*(q.2-a2)=A4 (f,a2) (i,j) q*(j-a2)+fr (f,a2) (i,j) q*(i-f):=by unfold sl A4 fr;grind
 have r:(i-f)*(i-f)<=sl (f,a2) (i,j):=by have:=sq_nonneg (j-a2);unfold sl;simp only;omega
 have s:(j-a2)*(j-a2)<=sl (f,a2) (i,j):=by have:=sq_nonneg (i-f);unfold sl;simp only;omega
 generalize sl (f,a2) (i,j)=L at *;generalize A4 (f,a2) (i,j) q=t at *;generalize fr (f,a2) (i,j) q=c at *;have k:∀d:Int,d*d<=L->-(gap*L)<=c*d/\c*d<=gap*L:=λd hd=>by
  have P:c*d*(c*d)=c*c*(d*d):=by grind
  have Q:gap*L*(gap*L)=gap*gap*L*L:=by grind
  have m1:c*c*(d*d)<=c*c*L:=bB hd (sq_nonneg c);have m2:c*c*L<=gap*gap*L*L:=aP (by omega) (by omega);have H:0<gap*L:=by
   rcases(by omega:gap=0\/0<gap)with z|z
   rw[z,eG,eH]at h;have:=sq_nonneg c;omega;exact cn z p
  rcases(by omega:c*d < -(gap*L)\/gap*L<c*d\/(-(gap*L)<=c*d/\c*d<=gap*L))with z|z|z
  have:=mb (show gap*L < -(c*d)by omega) (show gap*L<=-(c*d)by omega) (by omega:0<gap*L) (by omega);have e:-(c*d)*-(c*d)=c*d*(c*d):=by grind
  omega;have:=mb z (show gap*L<=c*d by omega) (by omega:0<gap*L) (by omega);omega;exact z
 have along:∀d b7 a7:Int,b7<=0->0<=a7->b7<=d->d<=a7->b7*L<=t*d/\t*d<=a7*L:=λd b7 a7 l0 v l2 w=>by have q5:t*d<=t*a7:=bB w (by omega);have nj:t*a7<=L*a7:=aP (by omega) v;have rM:t*b7<=t*d:=bB l2 (by omega);have s_:L*b7<=t*b7:=Int.mul_le_mul_of_nonpos_right (by omega) l0;rw[bX b7,bX a7];omega
 have fin:∀a b x u:Int,L*(x-a)=t*(b-a)+u->-(gap*L)<=u->u<=gap*L->min a b-gap<=x/\x<=max a b+gap:=λa b x u e I J=>by
  let ⟨R,S⟩:=along (b-a) (min a b-a) (max a b-a) (by omega) (by omega) (by omega) (by omega);have s1:L*(x-a)<=L*(max a b-a+gap):=by rw[e,Int.mul_add,bX L,bX L];omega
  have s2:L*(min a b-a-gap)<=L*(x-a):=by rw[e,c_,bX L,bX L];omega
  have t1:=eJ s1 p;have t2:=eJ s2 p;omega
 let ⟨I,J⟩:=k (j-a2) s;let ⟨K,M⟩:=k (i-f) r;let ⟨m,N⟩:=fin f i q.1 (-(c*(j-a2))) (by omega) (by omega) (by omega);let ⟨n,O⟩:=fin a2 j q.2 (c*(i-f)) G K M;exact goal _ _ _ _ m N n O
end Dp
open Go.Pg
open fp (kc ny ki l9)
set_option maxRecDepth 10000
namespace Dp
theorem RI(q:bs):∀(l:eY) (p:bs),qa q p l=(uz p l).any λg=>n' (pI g) (pC g) q
 | [],_=>rfl
 |b::l,p=>by show(n' p b q||qa q b l)=(n' p b q||(uz b l).any λg=>n' (pI g) (pC g) q);rw[RI q l b]
section
variable {al:gp} {ag:hI} {fs:eD} (h:fp al ag fs)
include h
theorem XH{outs:cu eD}(hp:outs.Perm (m_ al ag)){q:bs}(I:d' q=Y):∃k f:Int,Jf ((al,ag,fs),outs,q)=Z (k,f) /\
  (k=0↔(∀n∈al,n.2≠q)/\∀a∈ag,pB q ((pathOf al ag a.1).getD [])=U)/\(k=0->f=nx ag (q8 al ag q)):=by
 have hlA:=h.pA;have hlN:=h.qF;have J:=h.wK.len;have M:aa (m_ al ag)<=512:=bD (bJ ..) J;have N:aa outs<=512:=by rw[hp.length_eq];exact M
 have t:∀c∈outs,c∈m_ al ag:=λc hc=>hp.mem_iff.1 hc;unfold Jf;refine vB (A:=Unit) al (λi _=>(i:Int)) (λo=>∃k f:Int,o=Z (k,f)/\(k=0↔(∀n∈al,n.2≠q)/\∀a∈ag,pB q ((pathOf al ag a.1).getD [])=U)/\(k=0->f=nx ag (q8 al ag q))) (λi _=>∀n∈al.take i,n.2≠q) (by omega) ?_ ?_ () (by simp);intro rec _ G;rw[bI]at G;simp only[kj,bu];refine vB (A:=Unit) ag (λi _=>(i:Int)) (λo=>∃k f:Int,o=Z (k,f)/\(k=0↔(∀n∈al,n.2≠q)/\∀a∈ag,pB q ((pathOf al ag a.1).getD [])=U)/\(k=0->f=nx ag (q8 al ag q))) (λi _=>∀a∈ag.take i,pB q ((pathOf al ag a.1).getD [])=U) (by omega) ?_ ?_ () (by simp);intro u _ H;rw[bI]at H;simp only[kj,bu];rw[show AM ((al,ag,fs),outs,(q.1,q.2))=_ from ax5 h t N I,bT];have ho:=aH9 h (outs:=outs) (λc=>hp.mem_iff) I;cases hk:oI (l8 al ag) (pL al ag outs) q with
 |zero =>rw[hk]at ho;have C:q8 al ag q=[]:=(aK ho).symm;rw[hT (by omega),b6];exact⟨0,0,rfl,⟨λ_=>⟨G,H⟩,λ_=>rfl⟩,λ_=>by rw[C];rfl⟩
 |succ k=>
  rw[hk,aI]at ho;have hc:=t _ (aG ho);let ⟨c1,c2,c3⟩:=w7 h (BT h hc).1;rw[ft (by omega),bu,show((k+1:Nat):Int)-1=(k:Int)by omega,zB,ho];simp only[bT];have nc:nth (q8 al ag q) (0:Int)=Z ((q8 al ag q).headD 0):=by
   cases z:q8 al ag q with
   |nil=>exact b8 z c1
   |cons d r=>rw[show(0:Int)=((0:Nat):Int)by rfl,zB];rfl
  have O:nY ((q8 al ag q).headD 0):=by cases z:q8 al ag q<;>grind[q8,absurd]
  rw[nc,bT,K0 h O,bT];exact⟨0,_,rfl,⟨λ_=>⟨G,H⟩,λ_=>rfl⟩,λ_=>rfl⟩
 intro u i _ a rest a7 H hd P;have Q:=oU hd;have ha:a∈ag:=aG Q;let ⟨p,l,R,_,hll⟩:=FW h ha;have hnum:=h.num ha;have B:nY a.1:=by unfold nY;omega
 have S:xl al ag a.1=p::l:=by grind[xl,la]
 have D:CW ((al,ag,fs),a.1)=Z (p::l):=by rw[S4 h B,S]
 have g:∀x∈p::l,d' x=Y:=λx z=>rS (h.D0 ha R x z);simp only[fB a7,b6,iy hd,bT,f' a7,D];have inner:∀K:dv bs,rounds (α:=Int) (β:=bs) (λk21 s=>
   cond (s<(aa (p::l):Int)) (
   a8 (nth (p::l) (ek (s-(1:Int)))) λv=>
   a8 (nth (p::l) s) λw=>
   a8 (EZ ((v.1,v.2),(w.1,w.2),(q.1,q.2))) λE=>
   cond E (
    Z ((2:Int),a.1)) (
    k21 (ek (s+(1:Int))))) K) (1:Int)=bif pB q (p::l)then Z (2,a.1)else K:=λK=>by
  refine vF (A:=bs) l (λi _=>((i+1:Nat):Int)) (λb rest=>cond (qa q b rest) (Z (2,a.1)) K) ((p::l)[·]?=Z ·) (by omega) ?_ ?_ p rfl
  grind[aC,qa]
  intro rec3 j b x r2 hj hb hdj hrj;have z:(p::l)[j+1]?=Z x:=by rw[aI];exact oU hdj
  have rI:=g b (aG hb);have gA:=g x (aG z);have w1:ek (((j+1:Nat):Int)-1)=(j:Int):=by grind[fx]
  have w2:ek (((j+1:Nat):Int)+1)=((j+1+1:Nat):Int):=f' (n:=2000000) (by omega);have on:EZ ((b.1,b.2),(x.1,x.2),(q.1,q.2))=Z (n' b x q):=bc6 rI gA I;simp only[aC,fB (show j+1<aa l+1 by omega),b6,zB,hb,z,bT,w1,w2,on,qa]
  grind[n']
 have:=inner (u ((i+1:Nat):Int));refine cast (Ar (λo=>∃k f:Int,o=Z (k,f)/\(k=0↔(∀n∈al,n.2≠q)/\∀a∈ag,pB q ((pathOf al ag a.1).getD [])=U)/\(k=0->f=nx ag (q8 al ag q))) this.symm) ?_;cases ho:pB q (p::l)with
 |true=>grind[absurd]
 |false=>
  refine P () λb hb=>?_
  grind[bm]
 intro rec i _ n rest a7 G hd P;have hni:=oU hd;have hn:n∈al:=aG hni;simp only[fB a7,b6,iy hd,bT,f' a7];by_cases e:n.2=q
 grind[absurd]
 have ef:(No (n.2.1=q.1)&&No (n.2.2=q.2))=U:=by grind[eB]
 rw[ef,bu];refine P () λm hm=>?_
 grind[bm]
theorem Sq(F:CD al ag fs){q:bs}(b:yU q=Y):∃k f:Int,FX ((al,ag,fs),q)=Z (k,f,0) /\
  (k=0↔(∀n∈al,n.2≠q)/\∀a∈ag,pB q ((pathOf al ag a.1).getD [])=U)/\(k=0->f=nx ag (q8 al ag q)):=by
 let ⟨outs,ho,hp⟩:=aO6 h;let ⟨k,f,e,c,d⟩:=XH h hp (rS b);have g:N2 (q.1,q.2)=Z Y:=by grind[Dx,N2,decide_eq_true]
 refine⟨k,f,?_,c,d⟩
 grind[FX,Ro,bT,decide_true,aw,Jf]
end
end Dp
namespace Dp
section
variable {al:gp} {ag:hI} {fs:eD} (h:fp al ag fs)
include h
theorem Tk(q:bs):(pz al ag ag).any (λg=>n' (pI g) (pC g) q)=U↔∀a∈ag,pB q ((pathOf al ag a.1).getD [])=U:=by grind[Em,sy,n',pB,pathOf,FW,RI,pz,bc]
theorem Xv{n:b9}(c:n∈al)(hd:na ag n.1=0):∀a∈ag,pB n.2 ((pathOf al ag a.1).getD [])=U:=by let ⟨r,b⟩:=h.j7;exact aw8 h b λs hs=>aw0 h b hs c hd
omit h in
theorem bO7{g:nE}{q:bs}{gap:Int}(i:0<=gap):pg gap q g=(n' (pI g) (pC g) q||No (Ba (pI g) (pC g) q (gap*gap))):=by
 unfold pg;cases a:n' (pI g) (pC g) q||No (Ba (pI g) (pC g) q (gap*gap))with
 |false=>rw[iz]
 |true=>
  rw[fg];rw[bz]at a;rcases a with a|a
  unfold n' at a;rw[ab]at a;have b:=(ab _ _▸a.2).2;unfold sU at b;simp only[ab,kA]at b;let ⟨c,d,e,f⟩:=b;let ⟨j,a2,c1,c2⟩:=g;unfold oJ;simp only[pI,pC]at c d e f;simp only;rw[hT (by omega),hT (by omega),hT (by omega),hT (by omega)];rfl
  grind[az1]
theorem aK7(l:Au)(F:CD al ag fs)(hf:(oH ag (aa fs) Y (nP al ag) [] []).2=Y){n:b9}(i:n∈al)(hd:na ag n.1=0){gap:Int}(s:0<=gap)(h1:gap<=64)(q:bs) :
  Ev ((al,ag,fs,l),n.1,q,gap)=Z (qc (pz al ag ag) (qd al ag fs) al n.1 (l3 n) q gap):=by
 have u:=h.qF;have v:=h.pA;unfold Ev;simp only;rw[KP al ag fs n.1,h.vm i,aL3 al ag fs n.1 (by omega),hd];simp only[bT];rw[ft (by decide),bu,show HO (q.1,q.2)=_ from bc2 q];simp only[bT];unfold qc;cases j:yU q with
 |false=>rfl
 |true=>
  simp only[aw,bu,b6];rw[af8 al ag fs n.1 (by omega)];simp only[bT];have h':=aI4 hd h;have t:=aD8 hd F;have es:pz (zZ n.1 al) ag ag=pz al ag ag:=by grind[pz,mo,sy,Fk]
  rw[show JD ((zZ n.1 al,ag,fs),(q.1,q.2),gap)=_ from aM7 h' j s h1,es];simp only[bT];have o:∀ {g:nE},g∈pz al ag ag->pg gap q g=(n' (pI g) (pC g) q||No (Ba (pI g) (pC g) q (gap*gap))):=λp=>bO7 s;cases G:(pz al ag ag).any λg=>No (Ba (pI g) (pC g) q (gap*gap))with
  |true=>grind[pz,pg,dz,yR]
  |false=>
   cases H:(zZ n.1 al).any λm=>No ((m.2.1-q.1)*(m.2.1-q.1)+(m.2.2-q.2)*(m.2.2-q.2)<gap*gap)with
   |true=>grind[yR,dz,H2,decide_eq_false]
   |false=>
    simp only[bj,bw,aw,bu];have b:yU n.2=Y:=h.tt i;have c:=Xv h i hd;let ⟨w,f1,x,z,B⟩:=Sq h' t b;let ⟨k,f,g1,g2,g3⟩:=Sq h' t j;have r:w=0:=z.2 ⟨λm hm e=>by
     let ⟨m1,m2⟩:=H2.1 hm;exact R7 h m m1 n i m2 e,λa ha=>by rw[Fk hd];exact c a ha⟩
    rw[show FX ((zZ n.1 al,ag,fs),n.2.1,n.2.2)=_ from x,show FX ((zZ n.1 al,ag,fs),q.1,q.2)=_ from g1];simp only[bT];by_cases hk:k=0;let ⟨c1,c2⟩:=g2.1 hk;have d:∀a∈ag,pB q ((pathOf al ag a.1).getD [])=U:=λa ha=>by grind[Fk]
    have C:al.any (yR (gap*gap) n.1 q)=U:=bc.2 λm hm=>by grind[yR,decide_eq_true,H2,bc,eB]
    have D:(pz al ag ag).any (pg gap q)=U:=bc.2 λg p=>by
     rw[o p];have I:=bc.1 ((Tk h q).2 d) g p
     grind[bc]
    rw[C,D,hT hk];simp only[bu,b6];rw[ao3 h hf (rS j) d,show qo (l3 n) (qd al ag fs)=_ from ao3 h hf (rS b) c,g3 hk,B r,Q2 hd,Q2 hd];rfl;rw[ft hk,bu];by_cases c1:∀m∈zZ n.1 al,m.2≠q;have c2:¬ ∀a∈ag,pB q ((pathOf (zZ n.1 al) ag a.1).getD [])=U:=λc2=>hk (g2.2 ⟨c1,c2⟩);have J:(pz al ag ag).any (pg gap q)=Y:=by
     cases E:(pz al ag ag).any (λg=>n' (pI g) (pC g) q)with
     |false=>exact b8 (λa ha=>by rw[Fk hd];exact(Tk h q).1 E a ha) c2
     |true=>grind[dz]
    grind[yR]
    grind[yR,H2,dz,decide_eq_false]
end
end Dp
namespace Dp
def X3(al:gp)(ag:hI)(fs:eD):∃b,HV (al,ag,fs)=Z b/\(b=Y->aa al<=40/\aa ag<=40/\aa fs<=80):=by
 unfold HV;by_cases h1:(40:Int)<(aa al:Int);simp only[hT h1,b6];exact⟨_,rfl,λe=>by cases e⟩;simp only[ft h1,bu];by_cases h2:(40:Int)<(aa ag:Int);simp only[hT h2,b6];exact⟨_,rfl,λe=>by cases e⟩;simp only[ft h2,bu];by_cases c:(80:Int)<(aa fs:Int);simp only[hT c,b6];exact⟨_,rfl,λe=>by cases e⟩;simp only[ft c,bu];refine vB (A:=Int) ag (λi a=>(a,(i:Int))) (λo=>∃b,o=Z b/\(b=Y->aa al<=40/\aa ag<=40/\aa fs<=80)) (λ_ _=>True) (by omega) ?_ ?_ 0 trivial
 grind
 intro rec i a x rest a7 _ hd d;simp only[fB a7,b6,iy hd,bT,f' a7 (show aa ag<2^62 by omega)];cases No ((300:Int)<(aa x.2.2.2.1:Int))with
 |true=>exact⟨_,rfl,λe=>by cases e⟩
 |false=>exact d _ trivial
def aC9(al:gp)(ag:hI)(fs:eD)(l:Au):∃b,HN (al,ag,fs,l)=Z b/\(b=Y->aa al<=40/\aa ag<=40/\aa fs<=80/\aa l<=20/\∀f∈l,aa f.2.2.2.2<=70):=by
 unfold HN;let ⟨b,a,h⟩:=X3 al ag fs;simp only[a,bT];cases b;exact⟨_,rfl,λe=>by cases e⟩;let ⟨j,k,m⟩:=h rfl;simp only[aw,bu];by_cases d:(20:Int)<(aa l:Int)
 grind[decide_eq_true]
 simp only[ft d,bu];refine vB (A:=Unit) l (λi _=>(i:Int)) (λo=>∃b,o=Z b/\(b=Y->aa al<=40/\aa ag<=40/\aa fs<=80/\aa l<=20/\∀f∈l,aa f.2.2.2.2<=70)) (λi _=>∀f∈l.take i,aa f.2.2.2.2<=70) (by omega) ?_ ?_ () (by simp)
 grind[bI]
 intro rec i _ x rest a7 n hd g;simp only[fB a7,b6,iy hd,bT,f' a7 (show aa l<2^62 by omega)];by_cases c:(70:Int)<(aa x.2.2.2.2:Int)
 grind[decide_eq_true]
 rw[ft c,bu];cases No ((200:Int)<(x.2.2.2.1.size:Int))with
 |true=>exact⟨_,rfl,λe=>by cases e⟩
 |false=>
  refine g () λf hf=>?_
  grind[bm,oU]
end Dp
namespace Dp
theorem cn3{l:eD}(hl:aa l<=1000):aW8 (l,l)=Z Y:=(aF0 (by omega)).trans (by simp)
theorem ch9{l:eY}(hl:aa l<=1000):ap6 (l,l)=Z Y:=by
 unfold ap6;simp only[l6,aw,bu];refine mP (A:=Unit) l (λi _=>(i:Int)) (λ_ _=>Z Y) (by omega) ?_ ?_ ()
 grind
 intro rec i _ x rest a7 hd a;simp only[fB a7,b6,iy hd,bT,l6,bw,aw,bu,f' a7];exact a ()
end Dp
namespace Dp
def cl2(d x y:Int):(No (br qG (br qG x [-x]) [br qG y [-y]]=d))=No (br qG x [-x,y,-y]=d):=by grind[br,qG]
def cl3(d:Int)(k i:Nat)(hk:k<64)(a7:i<2*k+3)(hd:d=((k+1:Nat):Int))(acc:eY)(ha:aa acc<=100000000){β:Type}(K:Int×eY->dv β) :
  rounds (α:=Int×eY) (β:=β) (λc b=>
     cond (b.1<=d) (
     a8 (Tr b.1) λe=>
     a8 (Tr ((i:Int)-d)) λf=>
     cond ((br qG e [f])=d) (
      a8 (j6 16 b.2 [(b.1,(i:Int)-d)]) λg=>
      c ((ek (b.1+(1:Int))),g)) (
      c ((ek (b.1+(1:Int))),b.2))) <|K b) (-d,acc)=K (((2*k+3:Nat):Int)-d,acc++SN d (2*k+3) i):=by
 have l:aa (aQ (2*k+3))=2*k+3:=cO;have P9:(-d,acc)=(((0:Nat):Int)-d,acc):=by rw[show((0:Nat):Int)-d=-d by omega]
 rw[P9];refine(vF (A:=eY) (aQ (2*k+3)) (λj a=>((j:Int)-d,a)) (λa rest=>K (((2*k+3:Nat):Int)-d,a++rest.flatMap (Sw d ((i:Int)-d)))) (λj a=>aa a<=100000000+j) (by rw[l];omega) ?_ ?_ acc (by omega)).trans rfl
 grind[decide_eq_false]
 intro rec j a y rest hj o h p;have m:=NB h;subst m;rw[l]at hj;have s1:∀z:Int,-1000<=z->z<=1000->Tr z=Z (br qG z [-z]):=λz nq z2=>by grind[Tr,fx]
 simp only;rw[hT (by omega),b6,s1 _ (by omega) (by omega),s1 _ (by omega) (by omega)];simp only[bT];rw[cl2,fx (n:=(y:Int)-d+1),show(y:Int)-d+1=((y+1:Nat):Int)-d by omega]
 grind[Sw,br,qG,m9,bT,bG]
def cj1{gap:Int}(h:0<=gap)(h1:gap<=64):aV7 gap=Z (qH gap.toNat,0):=by
 obtain⟨n,rfl⟩:=Int.eq_ofNat_of_zero_le h;have f:aa (aQ n)=n:=cO;unfold aV7;rw[ft (by omega),bu,ft (by omega),bu];refine(vF (A:=eY) (aQ n) (λi a=>(((i+1:Nat):Int),a)) (λa rest=>Z (a++rest.flatMap RJ,0)) (λj a=>aa a<=40000*j) (by rw[f];omega) ?_ ?_ [] (by simp)).trans rfl
 grind[decide_eq_false]
 intro rec k a y rest hj p d q;have l:=NB d;subst l;rw[f]at hj;simp only;rw[hT (by omega),b6,fx (n:=0-((y+1:Nat):Int)),show 0-((y+1:Nat):Int)=((0:Nat):Int)-((y+1:Nat):Int)by omega];have hm:aa (aQ (2*y+3))=2*y+3:=cO;have hlen:=at0 y (by omega);refine(vF (A:=eY) (aQ (2*y+3)) (λi b=>(b,(i:Int)-((y+1:Nat):Int))) (λb g=>rec (((y+1+1:Nat):Int),b++g.flatMap (SN ((y+1:Nat):Int) (2*y+3)))) (λj b=>aa b<=40000*y+200*j) (by rw[hm];omega) ?_ ?_ a (by omega)).trans ?_;intro c b _;rw[hm];simp only;rw[ft (by omega),bu,fX,cg,fx (n:=((y+1:Nat):Int)+1)];rfl;intro c i b z g a7 r e m;have hz:=NB e;subst hz;rw[hm]at a7;simp only;have o:=ar5 ((y+1:Nat):Int) (2*y+3) z;rw[hT (by omega),b6,show((0:Nat):Int)-((y+1:Nat):Int)=-((y+1:Nat):Int)by omega];refine(cl3 ((y+1:Nat):Int) y z (by omega) a7 rfl b (by omega) _).trans ?_
 grind[fx,aX,bG]
 grind[aX,RJ,bG]
theorem ck2{l:Au}(hl:aa l<=1000)(hv:∀f∈l,aa f.2.2.2.2<=1000)(al:gp)(ag:hI)(fs:eD)(id:Int):aV8 ((al,ag,fs,l),1,id)=Z ((l.filter (Cv id)).map (·.1)):=by
 unfold aV8;refine(vF (A:=eD) l (λi a=>((i:Int),a)) (λa rest=>Z (a++(rest.filter (Cv id)).map (·.1))) (λi a=>aa a<=i) (by omega) ?_ ?_ [] (by simp)).trans rfl;intro rec a _;simp only[kj,bu,jI,dm,cg];intro rec i a x rest a7 b hd c;have d:=hv x (ax (hd▸aU ..));simp only[fB a7,b6,iy hd,bT,f' a7,F_,ba9 id (by omega:aa x.2.2.2.2<2^62),show(!decide ((1:Int)=0))=Y from rfl,cC]
 grind[Cv,om,bw,m9,bT]
def bK8{l:Au}(hl:aa l<=1000)(hv:∀f∈l,aa f.2.2.2.2<=1000)(al:gp)(ag:hI)(ha:aa ag<=1000000)(fs:eD)(id:Int):Tj ((al,ag,fs,l),id)=Z (vq ag l id):=by grind[Tj,vq,aL3,bT,na,decide_eq_true,ck2,Cv,dz,List.length_pos_iff,aL,List.filter_eq_nil_iff,bc,decide_eq_false]
def aV9{al:gp}{ag:hI}{fs:eD}{l:Au}(d:aa al<=1000)(ha:aa ag<=1000)(hf:aa fs<=1000)(hv:∀a∈ag,aa a.2.2.2.1<=1000)(hl:aa l<=1000)(hp:∀f∈l,aa f.2.2.2.2<=1000):DV ((al,ag,fs,l),(al,ag,fs,l))=Z Y:=by
 have c:aQ0 ((al,ag,fs),(al,ag,fs))=Z Y:=by
  unfold aQ0;simp only[l6,aw,bu];refine mP (A:=Unit) al (λi _=>(i:Int)) (λ_ _=>Z Y) (by omega) ?_ ?_ ();intro rec _;simp only[kj,bu];refine mP (A:=Unit) ag (λi _=>(i:Int)) (λ_ _=>Z Y) (by omega) ?_ ?_ ();intro rec _;simp only[kj,bu];refine mP (A:=Unit) fs (λi _=>(i:Int)) (λ_ _=>Z Y) (by omega) ?_ ?_ ();intro rec _;simp only[kj,bu];intro rec i _ x rest a7 hd b;simp only[fB a7,b6,iy hd,bT,l6,aw,bu,f' a7];exact b ();intro rec i _ x rest a7 hd b;have hv:=hv x (ax (hd▸aU ..):x∈ag);have ha:aP7 (x,x)=Z Y:=by grind[aP7,decide_true,ch9,bT]
  simp only[fB a7,b6,iy hd,bT,ha,aw,bu,f' a7];exact b ();intro rec i _ x rest a7 hd b;simp only[fB a7,b6,iy hd,bT,l6,bw,aw,bu,f' a7];exact b ()
 unfold DV;simp only[c,bT,l6,aw,bu];refine mP (A:=Unit) l (λi _=>(i:Int)) (λ_ _=>Z Y) (by omega) ?_ ?_ ();intro rec _;simp only[kj,bu];intro rec i _ x rest a7 hd b;have hp:=hp x (ax (hd▸aU ..));have ha:Xc (x,x)=Z Y:=by grind[Xc,decide_true,cn3,bT]
 simp only[fB a7,b6,iy hd,bT,ha,aw,bu,f' a7];exact b ()
end Dp
namespace Dp
def ck0{β:Type}(cur:gp)(hl:aa cur<=1000000)(id:Int)(p:bs)(K:gp×Int->dv β) :
  rounds (α:=gp×Int) (β:=β) (λe c=>
    cond (c.2<(aa (cur):Int)) (
    a8 (nth cur c.2) λb=>
    cond (b.1=id) (
     a8 (j6 24 c.1 [(b.1,p.1,p.2)]) λd=>
     e (d,(ek (c.2+(1:Int))))) (
     a8 (j6 24 c.1 [(b.1,b.2.1,b.2.2)]) λd=>
     e (d,(ek (c.2+(1:Int)))))) <|K c) (([]:gp),(0:Int))=K (put cur id p,(aa cur:Int)):=by
 refine(vF (A:=gp) cur (λi a=>(a,(i:Int))) (λa rest=>K (a++put rest id p,(aa cur:Int))) (λi a=>aa a<=i) (by omega) ?_ ?_ [] (by simp)).trans rfl
 grind[put]
 intro rec i a x rest a7 f hd g;simp only[fB a7,b6,iy hd,bT,f' a7]
 grind[put,decide_eq_true,m9,bT,decide_eq_false]
def bs8{cur:gp}{ag:hI}{fs:eD}(h:fp cur ag fs)(l:Au)(F:CD cur ag fs)(hf:(oH ag (aa fs) Y (nP cur ag) [] []).2=Y){n:b9}(d:n∈cur)(hd:na ag n.1=0){gap:Int}(e:0<=gap)(h1:gap<=64) :
  TN ((cur,ag,fs,l),n.1,gap)=Z (match vh (pz cur ag ag) (qd cur ag fs) (qH gap.toNat) gap cur n with|some p=>((put cur n.1 p,ag,fs,l),Y)|none=>((cur,ag,fs,l),U)):=by
 have f:=h.qF;have g:=Dx.1 (h.tt d);have loc:∀q:bs,n.2.1-gap<=q.1->q.1<=n.2.1+gap->n.2.2-gap<=q.2->q.2<=n.2.2+gap->Ev ((cur,ag,fs,l),n.1,q,gap)=Z (qc ((pz cur ag ag).filter (oJ (2*gap) (l3 n))) (qd cur ag fs) cur n.1 (l3 n) q gap):=λq j a2 a3 a4=>by rw[aK7 h l F hf d hd e h1 q,cb1 (p:=l3 n) (q:=q) j a2 a3 a4]
 unfold TN vh;simp only;rw[KP cur ag fs n.1,h.vm d];simp only[bT];rw[show Ev ((cur,ag,fs,l),n.1,(n.2.1,n.2.2),gap)=_ from loc (l3 n) (by simp only[l3];omega) (by simp only[l3];omega) (by simp only[l3];omega) (by simp only[l3];omega),bT];cases qc ((pz cur ag ag).filter (oJ (2*gap) (l3 n))) (qd cur ag fs) cur n.1 (l3 n) (l3 n) gap with
 |true=>rfl
 |false=>
  simp only[bu];rw[cj1 e h1];simp only[bT];have a:∀o∈qH gap.toNat,-gap<=o.1/\o.1<=gap/\-gap<=o.2/\o.2<=gap:=λo ho=>by have:=ax3 ho;omega
  have hlen:aa (qH gap.toNat)<=100000000:=by
   have key:∀m:Nat,m<=64->aa (qH m)<=40000*m:=λm hm=>by induction m<;>grind[qH,RJ,ib,List.flatMap_singleton,at0,aX]
   grind
  generalize qH gap.toNat=b at a hlen;refine(mP (A:=Unit) b (λi _=>(i:Int)) (λ_ rest=>Z (match(rest.find? (λo=>qc ((pz cur ag ag).filter (oJ (2*gap) (l3 n))) (qd cur ag fs) cur n.1 (l3 n) (n.2.1+o.1,n.2.2+o.2) gap)).map (λo=>(n.2.1+o.1,n.2.2+o.2))with|some p=>((put cur n.1 p,ag,fs,l),Y)|none=>((cur,ag,fs,l),U))) (by omega) ?_ ?_ ()).trans rfl
  grind
  intro rec i _ o rest a7 c k;let ⟨o1,o2,o3,o4⟩:=a o (ax (c▸aU ..));simp only[fB a7,b6,iy c,bT,f' a7,eA];rw[fx (n:=n.2.1+o.1),fx (n:=n.2.2+o.2),loc (n.2.1+o.1,n.2.2+o.2) (by simp only;omega) (by simp only;omega) (by simp only;omega) (by simp only;omega),bT];cases r:qc ((pz cur ag ag).filter (oJ (2*gap) (l3 n))) (qd cur ag fs) cur n.1 (l3 n) (n.2.1+o.1,n.2.2+o.2) gap with
  |false=>exact k ()
  |true =>simp only[aw,bu,ai];exact ck0 cur (by omega) n.1 (n.2.1+o.1,n.2.2+o.2) _
def MK:BX:=([],[],[],[])
def cj7{al:gp}{ag:hI}{fs:eD}{l:Au}{id gap:Int}(h:pD al ag fs l≠0):vz ((al,ag,fs,l),id,gap)=Z (MK,U,pD al ag fs l):=by unfold vz;simp only[E1,bT];rw[ft h];rfl
def cj6{al:gp}{ag:hI}{fs:eD}{l:Au}{id gap:Int}(h:pD al ag fs l=0)(a:¬(0<=gap/\gap<=64)):vz ((al,ag,fs,l),id,gap)=Z (MK,U,2):=by unfold vz;simp only[E1,bT,We a,h];rfl
def cj4{al:gp}{ag:hI}{fs:eD}{l:Au}{id gap:Int}(h:pD al ag fs l=0)(g0:0<=gap)(g1:gap<=64)(a:nQ al id=W):vz ((al,ag,fs,l),id,gap)=Z (MK,U,7):=by have hp:=(vX h).pl;unfold vz;simp only[E1,bT,IU g0 g1,h,hp.Hw,a];rfl
def cj5{al:gp}{ag:hI}{fs:eD}{l:Au}{n:b9}{gap:Int}(h:pD al ag fs l=0)(g0:0<=gap)(g1:gap<=64)(b:n∈al)(hm:vq ag l n.1=U):vz ((al,ag,fs,l),n.1,gap)=Z (MK,U,13):=by
 have a:=vX h;have hp:=a.pl;have c:=hp.pA;have d:=a.len;have hv:∀f∈l,aa f.2.2.2.2<=900000:=λf hf=>by have:=a.parts f hf;omega
 unfold vz;simp only[E1,bT,IU g0 g1,h,hp.Hw,hp.vm b,Nw (show aa l<=1000000 by omega) hv al ag (by omega) fs,hm];rfl
def cj3{al:gp}{ag:hI}{fs:eD}{l:Au}(t:aa al<=40)(u:aa ag<=40)(v:aa fs<=80)(w:aa l<=20)(j:∀f∈l,aa f.2.2.2.2<=70)(id gap:Int) :
  ∃s b e,vz ((al,ag,fs,l),id,gap)=Z (s,b,e)/\T5 ((al,ag,fs,l),id,gap)=Z (s,b,e)/\DV (s,s)=Z Y:=by
 have m:=az3 al ag fs l (by omega) (by omega) (by omega) (by omega) (λf hf=>by have:=j f hf;omega);have z0:DV (MK,MK)=Z Y:=aV9 (by simp) (by simp) (by simp) (by simp) (by simp) (by simp);have o:∀k,Tj ((al,ag,fs,l),k)=Z (vq ag l k):=λk=>bK8 (by omega) (λf hf=>by have:=j f hf;omega) al ag (by omega) fs k;unfold T5;simp only;rw[m];simp only[bT];by_cases d:pD al ag fs l=0;rw[hT d,aw,bu];have p:=vX d;by_cases g:0<=gap/\gap<=64;rw[ft (by omega:¬gap<0),bu,ft (by omega:¬ 64<gap),bu,KP al ag fs id];simp only[bT];cases h:nQ al id with
 |none=>exact⟨_,_,_,cj4 d g.1 g.2 h,rfl,z0⟩
 |some n=>
  have q:n∈al:=ba h;have hid:n.1=id:=by have:=dp h;simpa using this
  subst hid;simp only[aw,bu];rw[o n.1];simp only[bT];cases hm:vq ag l n.1 with
  |false=>exact⟨_,_,_,cj5 d g.1 g.2 q hm,rfl,z0⟩
  |true=>
   simp only[aw,bu];have hd:na ag n.1=0:=by grind[vq]
   have i:=p.pl;have r:=i.qF;rw[bs8 i l ((Dt i).1 p.wR) p.wR q hd g.1 g.2];simp only[bT];have hs:∀c:gp,aa c=aa al->DV ((c,ag,fs,l),(c,ag,fs,l))=Z Y:=λc hc=>aV9 (by omega) (by omega) (by omega) (λa ha=>by have:=i.q4 ha;omega) (by omega) (λf hf=>by have:=j f hf;omega)
   grind[ba5,vh,pz,qd,qH,put]
 refine⟨_,_,_,cj6 d g,?_,z0⟩;by_cases g0:gap<0;rw[hT g0];rfl;rw[ft g0,bu,hT (by omega)];rfl;rw[ft d];exact⟨_,_,_,cj7 d,rfl,z0⟩
def ci4(a:zd ()=Z Y)(al:gp)(ag:hI)(fs:eD)(l:Au)(id gap:Int):aT3 ((al,ag,fs,l),id,gap)=Z Y:=by
 unfold aT3;let ⟨b,c,hs⟩:=aC9 al ag fs l;simp only[c,a,bT];cases b;rfl;let ⟨d,f,g,h,i⟩:=hs rfl;let ⟨s,v,e,j,k,m⟩:=cj3 d f g h i id gap
 grind[aw,bT,decide_true,DV]
end Dp
def ck4{α β:Type}(f:α->β)(r:α)(es:cu α)(i:Nat):nV (f r) (es.map f) i=f (nV r es i):=by
 unfold nV
 grind
def bI8{α β:Type}(f:α->β){cf:α->α->Int}{a:β->β->Int}(hc:∀x y,a (f x) (f y)=cf x y):∀l:cu α,oy a (l.map f)=(oy cf l).map f
 | []=>rfl
 |r::l=>by
  have h:∀i,nV (f r) (f r::l.map f) i=f (nV r (r::l) i):=λi=>ck4 f r (r::l) i;have h2:nV (f r) (f r::l.map f)=f ∘ nV r (r::l):=funext h;rw[aq,IW,IW,cI,h2]
  grind
variable {ag:hI} {al ns':gp}
namespace Dp
def bh2(h:DT ag al ns'):sy ns' ag=sy al ag:=by grind[sy,Ui]
def cj9(h:DT ag al ns')(l:hI):pz ns' ag l=pz al ag l:=by unfold pz;rw[bh2 h]
def cj2(h:DT ag al ns')(l:hI)(m:cu (Int×eY)):pM ns' ag l m=pM al ag l m:=by unfold pM;rw[bh2 h]
def HD(x:zy):Int×eD×cu eD:=(x.1,x.2.1,x.2.2.1)
def bL2:∀(l:eD) {L L':cu kI},L.map sE=L'.map sE->(uY l L).map HD=(uY l L').map HD
 | [],_,_,_=>by simp[uY]
 |_::_,[],[],_=>rfl
 |_::_,[],_::_,h=>by simp at h
 |_::_,_::_,[],h=>by simp at h
 |f::l,x::L,y::L',h=>by simp only[aq,bW,sE,fC]at h;have a:=bL2 l (L:=L) (L':=L') h.2;unfold uY at *;simp only[jM,aq,HD,h.1.2.1,h.1.2.2];exact Ar _ a
def cj8(h:DT ag al ns')(fs:eD):(xW ns' ag fs).map HD=(xW al ag fs).map HD:=by
 have hd:(nP ns' ag).map sE=(nP al ag).map sE:=ch5 h;have hf:tT ns' ag fs=tT al ag fs:=by unfold tT;rw[aW7 _ _ _ hd]
 unfold xW;let a (x y:Int×eD×cu eD):Int:=A_ x.1 y.1;have hc:∀x y:zy,a (HD x) (HD y)=zq x y:=λ_ _=>rfl;rw[<-bI8 HD hc,<-bI8 HD hc,hf,bL2 _ hd]
def bL3(ol:zy->oP)(P:zy->Bool)(h1:∀x y:zy,HD x=HD y->ol x=ol y/\P x=P y):∀ {l a:cu zy},l.map HD=a.map HD->(l.filter P).map ol=(a.filter P).map ol
 | [],[],_=>rfl
 | [],_::_,h=>by simp at h
 |_::_,[],h=>by simp at h
 |x::l,y::a,h=>by simp only[aq,bW]at h;let ⟨c,d⟩:=h1 x y h.1;rw[cC,cC,d];have b:=bL3 ol P h1 h.2;split;rw[aq,aq,c,b];exact b
def ck3(h:DT ag al ns')(fs:eD):qd ns' ag fs=qd al ag fs:=by
 have e:l5 ns' ag=l5 al ag:=funext (bb8 h);unfold qd vw;rw[e,cj2 h];refine Ar (oy zr) (bL3 _ _ (λx y a=>?_) (cj8 h fs))
 grind[HD,fC]
end Dp
namespace Dp
structure KW(al:List b9)(ag:List ct)(cur:List b9):Prop where
 DU:DT ag al cur
 pos:∀n∈cur,yU n.2=Y
 ne:∀c∈cur,∀d∈cur,c.1≠d.1->l3 c≠l3 d
 off:∀n∈cur,na ag n.1=0->∀g∈pz al ag ag,n' (pI g) (pC g) n.2=U
def bK9(ag:hI):∀l:gp,DT ag l l
 | []=>trivial
 |n::l=>⟨rfl,λ_=>rfl,bK9 ag l⟩
def aW9{ag:hI}{id:Int}(hd:na ag id=0)(p:bs):∀ {l c:gp},DT ag l c->DT ag l (put c id p)
 | [],[],_=>trivial
 |n::l,m::c,h=>by have a:put (m::c) id p=(ite (m.1=id) (id,p.1,p.2) m)::put c id p:=rfl;rw[a];by_cases e:m.1=id;rw[cr e];exact⟨e.symm.trans h.1,λb=>b8 (by rw[<-h.1,e];exact hd) b,aW9 hd p h.2.2⟩;rw[cc e];exact⟨h.1,h.2.1,aW9 hd p h.2.2⟩
 | [],_::_,h=>h.elim
 |_::_,[],h=>h.elim
section
variable {al:gp} {ag:hI} {fs:eD} (h:fp al ag fs)
include h
theorem KW.start:KW al ag al :=
 ⟨bK9 ag al,λ_ a=>h.tt a,R7 h,λn a hd g b=>by
  have:=bc.1 ((Tk h n.2).2 (Xv h a hd)) g b;simpa using this⟩
theorem KW.ok{cur:gp}(s:KW al ag cur):fp cur ag fs:=by have a:=TG s.DU;refine ci3 h s.DU s.pos (be7 (s:=al) [] cur (by simpa using s.ne) (by grind[I_])) λr b ap2 hs n c hd=>?_;let ⟨g,d,e,f⟩:=q_ h b hs;rw[<-e,<-f];exact s.off n c hd g d
theorem KW.ck9{cur:gp}(s:KW al ag cur)(hf:(oH ag (aa fs) Y (nP al ag) [] []).2=Y):(oH ag (aa fs) Y (nP cur ag) [] []).2=Y:=by have e:oH ag (aa fs) Y (nP cur ag) [] []=oH ag (aa fs) Y (nP al ag) [] []:=aW7 Y [] [] (ch5 s.DU);rw[e];exact hf
theorem KW.put{cur:gp}(s:KW al ag cur){n:b9}(hd:na ag n.1=0){p:bs}{gap:Int}(j:0<=gap)(h1:gap<=64)(hf:qc (pz al ag ag) (qd al ag fs) cur n.1 (l3 n) p gap=Y):KW al ag (put cur n.1 p):=by
 have hp:=ch8 hf;let ⟨_,f2,f3,_⟩:=cm6.1 hf;refine⟨aW9 hd p s.DU,λm hm=>?_,λc hc d a b=>?_,λm hm f g i=>?_⟩;rcases T_ hm with⟨hm,_⟩|rfl
 exact s.pos m hm;exact hp;rcases T_ hc with⟨hc,c1⟩|rfl<;>rcases T_ a with⟨a,d1⟩|rfl
 exact s.ne c hc d a b;exact(f2 c hc c1).1;exact λe=>(f2 d a d1).1 e.symm;exact b8 rfl b;rcases T_ hm with⟨hm,_⟩|rfl
 exact s.off m hm f g i;have:=bc.1 f3 g i;rw[bO7 j]at this;simp only[bz,not_or,eZ]at this;exact this.1
theorem ck5{l:Au}(hl:aa l<=1000)(hv:∀f∈l,aa f.2.2.2.2<=1000)(hf:(oH ag (aa fs) Y (nP al ag) [] []).2=Y){gap:Int}(E:0<=gap)(h1:gap<=64) :
  rounds (α:=Int×BX) (β:=(BX×Int)) (λG a=>
   cond (a.1<(aa (a.2.1):Int)) (
    a8 (nth a.2.1 a.1) λd=>
    a8 (Tj ((a.2.1,a.2.2.1,a.2.2.2.1,a.2.2.2.2),d.1)) λg=>
    cond g (
    a8 (nth a.2.1 a.1) λj=>
    a8 (TN ((a.2.1,a.2.2.1,a.2.2.2.1,a.2.2.2.2),j.1,gap)) λb=>
    G ((ek (a.1+(1:Int))),b.1.1,b.1.2.1,b.1.2.2.1,b.1.2.2.2)) (
    G ((ek (a.1+(1:Int))),a.2.1,a.2.2.1,a.2.2.2.1,a.2.2.2.2))) (
    Z ((a.2.1,a.2.2.1,a.2.2.2.1,a.2.2.2.2),(0:Int)))) ((0:Int),al,ag,fs,l)=Z ((RD (pz al ag ag) (qd al ag fs) (qH gap.toNat) gap (vq ag l) al al,ag,fs,l),0):=by
 have I:=h.qF;have J:=h.pA;have t:=I_ h;refine vF (A:=gp) al (λi c=>((i:Int),c,ag,fs,l)) (λc rest=>Z ((RD (pz al ag ag) (qd al ag fs) (qH gap.toNat) gap (vq ag l) rest c,ag,fs,l),0)) (λi c=>KW al ag c/\∀m∈al.drop i,m∈c) (by omega) ?_ ?_ al ⟨KW.start h,λm hm=>by simpa using hm⟩;rintro rec c ⟨s,_⟩;have u:aa c=aa al:=by have:=Ar aa (TG s.DU);simpa using this
 simp only;rw[ft (by omega),bu];rfl;rintro rec i c n rest a7 ⟨s,v⟩ k H;have u:aa c=aa al:=by have:=Ar aa (TG s.DU);simpa using this
 have w:=oU k;have P:n∈al:=aG w;have x:al.drop (i+1)=rest:=by grind[lq,jr]
 have B:n∈c:=v n (by rw[k];simp);have K:(c.map (·.1)).Nodup:=by rw[TG s.DU];exact t
 have C:c[i]?=Z n:=by
  have e:=Ar (λz:eD=>z[i]?) (TG s.DU)
  grind[af,cn0,aA,aK]
 have M:∀m∈rest,m.1≠n.1:=λm hm e=>by grind[lf,cx,aN]
 have N:nth c (i:Int)=Z n:=by rw[zB];exact C
 simp only;rw[hT (by omega:((i:Nat):Int)<(aa c:Int)),b6,N];simp only[bT];rw[bK8 hl hv c ag (by omega) fs n.1,f' a7];simp only[bT];unfold RD;cases hm:vq ag l n.1 with
 |false=>grind
 |true=>
  have hd:na ag n.1=0:=by grind[vq]
  have q:=s.ok h;have r:=s.ck9 h hf;have qJ:=bs8 q l ((Dt q).1 r) r B hd E h1;rw[cj9 s.DU,ck3 s.DU]at qJ;rw[b6,b6,qJ];simp only[bT];unfold VO;cases D:vh (pz al ag ag) (qd al ag fs) (qH gap.toNat) gap c n with
  |none=>exact H c ⟨s,λm hm=>by grind⟩
  |some p=>
   obtain⟨fa,_,o,ho,rfl⟩:=cb3 D;have O:=ax3 ho;rw[cb1 (by simp only[l3];omega) (by simp only[l3];omega) (by simp only[l3];omega) (by simp only[l3];omega)]at fa;refine H _ ⟨s.put h hd E h1 fa,λm hm=>?_⟩
   grind[ch4]
end
def ck1{al:gp}{ag:hI}{fs:eD}{l:Au}(j:aa al<=40)(k:aa ag<=40)(m:aa fs<=80)(n:aa l<=20)(h:∀f∈l,aa f.2.2.2.2<=70)(gap:Int) :
  ∃s e,RR ((al,ag,fs,l),gap)=Z (s,e)/\T0 ((al,ag,fs,l),gap)=Z (s,e)/\DV (s,s)=Z Y:=by
 have i:=az3 al ag fs l (by omega) (by omega) (by omega) (by omega) (λf hf=>by have:=h f hf;omega);have z0:DV (MK,MK)=Z Y:=aV9 (by simp) (by simp) (by simp) (by simp) (by simp) (by simp);unfold T0;simp only;rw[i];simp only[bT];by_cases b:pD al ag fs l=0;rw[hT b,aw,bu];have g:=vX b;by_cases d:0<=gap/\gap<=64;rw[ft (by omega:¬gap<0),bu,ft (by omega:¬ 64<gap),bu];refine⟨_,_,cm9 g b d.1 d.2,ck5 g.pl (by omega) (λf hf=>by have:=h f hf;omega) g.wR d.1 d.2,?_⟩;have hlen:∀(r c:gp),aa (RD (pz al ag ag) (qd al ag fs) (qH gap.toNat) gap (vq ag l) r c)=aa c:=by
  intro r
  induction r<;>grind[RD,vq,VO,put]
 exact aV9 (by rw[hlen];omega) (by omega) (by omega) (λa ha=>by have:=g.pl.q4 ha;omega) (by omega) (λf hf=>by have:=h f hf;omega);refine⟨MK,2,?_,?_,z0⟩;unfold RR;simp only[E1,bT,We d,b];rfl;by_cases g0:gap<0;rw[hT g0];rfl;rw[ft g0,bu,hT (by omega)];rfl;rw[ft b];refine⟨MK,pD al ag fs l,?_,rfl,z0⟩;unfold RR;simp only[E1,bT];rw[ft b];rfl
def ci1(a:zd ()=Z Y)(al:gp)(ag:hI)(fs:eD)(l:Au)(gap:Int):aT6 ((al,ag,fs,l),gap)=Z Y:=by
 unfold aT6;let ⟨b,c,hs⟩:=aC9 al ag fs l;simp only[c,a,bT];cases b;rfl;let ⟨d,f,g,h,i⟩:=hs rfl;let ⟨s,e,j,k,m⟩:=ck1 d f g h i gap
 grind[aw,bT,decide_true,DV]
end Dp
end Go.Ab
