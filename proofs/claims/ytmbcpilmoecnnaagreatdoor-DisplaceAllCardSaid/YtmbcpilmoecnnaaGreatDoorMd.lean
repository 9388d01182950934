/- A part of the proof; its readable source lies in wip of the prover's repo (squeezed here for the limit of bytes). -/
import Derived.Test.YtmbcpilmoecnnaaGreatDoorMc
import Derived.Lib.DecodeN
import Derived.KernelRfl
set_option linter.all false
open BitVec renaming ofInt->aY,toNat_ofInt->fu
open Bool renaming and_assoc->gD,and_eq_true->ab,and_false->iz,and_self->bw,and_true->fg,eq_iff_iff->di,false_and->gz,false_eq_true->aJ,false_or->db,not_eq_true'->dc,not_false->bj,not_true->aw,or_eq_false_iff->cL,or_eq_true->bz,or_false->lZ,or_self->jn,true_and->bY,true_eq_false->kM,true->Y,false->U
open ByteArray renaming mk->cK
open Classical renaming byContradiction->fV,em->kY
open Decidable renaming decide->No
open Go.ByteArray renaming toList_eq->jx
open Go.IntKind renaming bits->ie,signed->gN,u64->ak,u8->fE,wrap->an,wrap_i64->il
open Go.Lib renaming contains->iN
open Go.Utf8 renaming decode->ch
open Int renaming add_mul->gE,dvd_mul_right->lu,dvd_trans->ml,ediv_le_self->fw,ediv_lt_of_lt_mul->cm,ediv_nonneg->bK,emod_lt_of_pos->dj,emod_nonneg->dq,eq_of_mul_eq_mul_left->cM,le_of_lt->dR,le_refl->cH,le_total->iL,lt_of_le_of_lt->dW,lt_of_mul_lt_mul_left->gm,lt_or_le->gP,lt_trichotomy->iG,max_comm->jF,min_comm->jE,mul_add->jd,mul_assoc->dP,mul_comm->bX,mul_ediv_add_emod->df,mul_ediv_cancel_left->jD,mul_eq_zero->gQ,mul_le_mul->kQ,mul_le_mul_of_nonneg_left->bB,mul_le_mul_of_nonneg_right->aP,mul_lt_mul_of_pos_left->cd,mul_lt_mul_of_pos_right->eC,mul_neg->cR,mul_neg_of_pos_of_neg->jz,mul_nonneg->aH,mul_one->eE,mul_pos->cn,mul_sub->c_,mul_zero->eG,natAbs_mul->lY,natCast_mul->dt,neg_mul->iU,neg_mul_neg->jb,pos_of_mul_pos_right->cE,pow_pos->mM,sub_mul->mL,tmod_eq_emod_of_nonneg->jq,toNat_natCast->aO,zero_mul->eH
open List renaming all_cons->bH,all_eq_true->aj,all_nil->dI,any_cons->dD,any_eq_false->bc,any_nil->jR,append_assoc->bG,append_nil->cg,cons_append->cS,drop_eq_getElem_cons->bL,filter_cons->cC,filter_nil->jI,find?_cons->eA,find?_some->dp,flatMap_cons->b_,flatMap_nil->fX,foldl->br,foldl_append->kX,foldl_cons->gY,getElem?_cons_succ->aI,getElem?_cons_zero->bP,getElem?_drop->iQ,getElem?_eq_getElem->af,getElem?_eq_none->bA,getElem?_eq_some_iff->au,getElem?_map->aS,getElem_mem->aA,getElem_of_mem->a_,getElem_zipWith->j_,idxOf_lt_length_iff->jw,length->aa,length_append->aX,length_cons->aC,length_drop->iM,length_filter_le->bJ,length_map->aL,length_nil->dA,length_pos_iff->dg,length_range->cO,length_singleton->fU,length_take->da,length_zipWith->ku,map_append->eQ,map_congr_left->bS,map_cons->aq,map_drop->l_,map_id->mC,map_map->cI,map_nil->dm,mem_append->aV,mem_cons->aF,mem_cons_of_mem->bp,mem_filter->aW,mem_flatMap->cW,mem_flatten->bU,mem_map->aM,mem_map_of_mem->aN,mem_of_find?_eq_some->ba,mem_of_getElem?->aG,mem_of_mem_drop->ax,mem_or_eq_of_mem_set->cJ,mem_range->ga,mem_singleton->cq,mergeSort_perm->cX,nil_append->bZ,nodup_cons->cx,not_mem_nil->gT,pairwise_cons->aR,pairwise_iff_getElem->dK,range->aQ,range_succ->ib,set_cons_succ->kP,singleton_append->jS,sum_cons->dw,tail->lq,tail_cons->lQ,take_length->bI,take_succ_cons->gk,take_zero->jo
open List.Pairwise renaming cons->mi,imp->mj,nil->lp
open List.cons renaming injEq->bW
open Nat renaming gcd->bN,gcd_comm->ka,gcd_le_right->lG,gcd_one_right->jy,le_of_lt->mB,le_refl->aB,le_trans->bD,lt_or_ge->cU,mod_eq_of_lt->cY,mod_lt->dZ,mul_le_mul->lX,mul_le_mul_left->kL,zero_le->dx
open Option renaming getD_some->cw,map_some->ai,some->Z,none->W
open Option.some renaming inj->aK,injEq->ah
open Or renaming inl->bE,inr->bq
open Prod renaming ext->eB
open Prod.mk renaming injEq->fC
open UInt8 renaming toNat_inj->lr
namespace Go.Ab
open Go
def Vh(xs:eD)(y:Int)(hl:aa xs<2^62):E0 (xs,y)=Z (ite (y∈xs) ((xs.idxOf y:Nat):Int) <| -1):=by
 unfold E0;simp only[bT];refine(mP (A:=Unit) xs (λi _=>(i:Int)) (λ_ rest=>Z (ite (y∈rest) ((aa xs-aa rest+rest.idxOf y:Nat):Int) <| -1)) (by omega) ?_ ?_ ()).trans ?_;intro rec a;simp;intro rec i a x rest a7 hd d;have hlen:aa rest=aa xs-(i+1):=by have:=Ar aa hd;simp at this;omega
 have c:((i:Int)<(aa xs:Int)):=by omega
 simp only[c,l6,b6,iy hd,bT];by_cases b:y=x;subst b;simp[hlen];omega;have e:ek ((i:Int)+1)=((i+1:Nat):Int):=by grind[fx]
 simp only[b,n4,bu,e];rw[d ()]
 grind
 simp
def HC(xs:eD)(y:Int)(hl:aa xs<2^62):wo (xs,y)=Z (No (y∈xs)):=by unfold wo;simp only[Vh xs y hl,bT];by_cases h:y∈xs<;>simp[h]
def nQ(al:gp)(id:Int):dv b9:=al.find? λn=>No (n.1=id)
def px(ag:hI)(id:Int):dv ct:=ag.find? λa=>No (a.1=id)
def rl{α:Type}{xs rest:cu α}{i:Nat}{x:α}(h:xs.drop i=x::rest):i<aa xs/\aa rest=aa xs-(i+1)/\x∈xs:=by
 have h1:=Ar aa h
 grind[ax]
theorem f'{i n:Nat}(h:i<n)(a:n<2^62:=by first|omega| (simp;omega)):ek ((i:Int)+1)=((i+1:Nat):Int):=by grind[fx]
theorem fB{i n:Nat}(h:i<n):No ((i:Int)<(n:Int))=Y:=by simpa using h
def kj(n:Nat):No ((n:Int)<(n:Int))=U:=by simp
def M9(al:gp)(ag:hI)(fs:eD)(id:Int)(hl:aa al<2^62):xt ((al,ag,fs),id)=Z (match nQ al id with|some n=>(n,Y)|none=>((0,0,0),U)):=by unfold xt;simp only[bT];refine(mP (A:=Unit) al (λi _=>(i:Int)) (λ_ rest=>Z (match nQ rest id with|some n=>(n,Y)|none=>((0,0,0),U))) (by omega) ?_ ?_ ()).trans rfl;intro rec a;simp[nQ];intro rec i a x rest a7 hd b;simp only[fB a7,b6,iy hd,bT,f' a7 hl];by_cases h:x.1=id;subst h;simp[nQ];simp only[h,n4,bu,b ()];simp[nQ,h]
def WI(al:gp)(ag:hI)(fs:eD)(id:Int)(hl:aa ag<2^62)(hv:∀a∈ag,aa a.2.2.2.1<=1000000000):BP ((al,ag,fs),id)=Z (match px ag id with|some a=>(a,Y)|none=>((0,0,0,[],0,0),U)):=by
 unfold BP;simp only[bT];refine(mP (A:=Unit) ag (λi _=>(i:Int)) (λ_ rest=>Z (match px rest id with|some n=>(n,Y)|none=>((0,0,0,[],0,0),U))) (by omega) ?_ ?_ ()).trans rfl;intro rec a;simp[px];intro rec i a x rest a7 hd b;have c:=hv x (rl hd).2.2;have hc:vo x.2.2.2.1=Z x.2.2.2.1:=by grind[vo,m9]
 simp only[fB a7,b6,iy hd,bT,f' a7 hl,hc];by_cases h:x.1=id;subst h;simp[px];simp only[h,n4,bu,b ()];simp[px,h]
def bk2(al:gp)(ag:hI)(fs:eD)(e:aa al<=1000000)(ha:aa ag<=1000000):Il (al,ag,fs)=Z (al.map (·.1),ag.map (·.1)):=by
 unfold Il;simp only[bT];refine(vF (A:=eD) al (λi a=>(a,(i:Int))) (λa rest=>Z (a++rest.map (·.1),ag.map (·.1))) (λi a=>aa a=i) (by omega) ?_ ?_ [] rfl).trans rfl;intro rec a f;simp only[kj,bu,dm,cg];refine(vF (A:=eD) ag (λi a=>(a,(i:Int))) (λb rest=>Z (a,b++rest.map (·.1))) (λi a=>aa a=i) (by omega) ?_ ?_ [] rfl).trans rfl;intro rec b g;simp[kj];intro rec i b x rest a7 c hd d;simp only[fB a7,b6,iy hd,bT,f' a7 (show aa ag<2^62 by omega)]
 grind[m9,bT]
 intro rec i a x rest a7 c hd d;simp only[fB a7,b6,iy hd,bT,f' a7 (show aa al<2^62 by omega)]
 grind[m9,bT]
def d'(p:bs):Bool:=No (-2097152<=p.1)&&No (p.1<=2097152)&&No (-2097152<=p.2)&&No (p.2<=2097152)
theorem wH(p:bs):d' p=Y↔-2097152<=p.1/\p.1<=2097152/\-2097152<=p.2/\p.2<=2097152:=by simp[d',and_assoc]
def fr(a b c:bs):Int:=(b.1-a.1)*(c.2-a.2)-(b.2-a.2)*(c.1-a.1)
def vR{a b m n:Int}(h1:-m<=a:=by omega)(h2:a<=m:=by omega)(g:-n<=b:=by omega)(h:b<=n:=by omega):-(m*n)<=a*b/\a*b<=m*n:=by
 have hm:0<=m:=by omega
 have c:0<=n:=by omega
 have d:a.natAbs<=m.natAbs:=by omega
 have e:b.natAbs<=n.natAbs:=by omega
 have f:=lX d e;rw[<-lY,<-lY]at f;have i:=aH hm c;omega
def aF7{a b c:bs}(ha:d' a=Y)(d:d' b=Y)(hc:d' c=Y):-35184372088832<=fr a b c/\fr a b c<=35184372088832:=by rw[wH]at ha d hc;have h1:=vR (a:=b.1-a.1) (b:=c.2-a.2) (m:=4194304) (n:=4194304);have h2:=vR (a:=b.2-a.2) (b:=c.1-a.1) (m:=4194304) (n:=4194304);unfold fr;omega
def V2(l:eY)(hl:aa l<2^62):vJ l=Z (l.all d'):=by
 refine(mP (A:=Unit) l (λi _=>(i:Int)) (λ_ rest=>Z (rest.all d')) (by omega) ?_ ?_ ()).trans rfl;simp;intro rec i a x rest a7 hd d;simp only[fB a7,iy hd,f' a7 hl];rw[d ()];by_cases h1:x.1 < -2097152;have:d' x=U:=by simp[d'];omega
 simp[h1,this];by_cases h2:2097152<x.1;have:d' x=U:=by simp[d'];omega
 simp[ h2,this];by_cases b:x.2 < -2097152;have:d' x=U:=by simp[d'];omega
 simp[ b,this];by_cases c:2097152<x.2;have:d' x=U:=by simp[d'];omega
 simp[ c,this];have:d' x=Y:=by rw[wH];omega
 simp[h1,h2,b,c,this]
def Fa(a b c:bs)(ha:d' a=Y)(d:d' b=Y)(hc:d' c=Y):xy (a,b,c)=Z (fr a b c):=by have f:=aF7 ha d hc;rw[wH]at ha d hc;have h1:=vR (a:=b.1-a.1) (b:=c.2-a.2) (m:=4194304) (n:=4194304);have h2:=vR (a:=b.2-a.2) (b:=c.1-a.1) (m:=4194304) (n:=4194304);unfold xy;rw[fx (n:=b.1-a.1),fx (n:=c.2-a.2),fx (n:=b.2-a.2),fx (n:=c.1-a.1),fx (n:=(b.1-a.1)*(c.2-a.2)),fx (n:=(b.2-a.2)*(c.1-a.1))];have e:=fx (n:=fr a b c);exact Ar Z e
def sP(a b c:bs):Int:=ite (d' a&&d' b&&d' c) (fr a b c) 0
def GS(a b c:bs):vJ [a,b,c]=Z (d' a&&d' b&&d' c):=by rw[V2 _ (by simp)];simp[gD]
def bo2(a b c d:bs):vJ [a,b,c,d]=Z (d' a&&d' b&&d' c&&d' d):=by rw[V2 _ (by simp)];simp[gD]
def bG3(a b c:bs):IZ (a,b,c)=Z (sP a b c):=by
 unfold IZ sP;simp only[ GS];cases h:(d' a&&d' b&&d' c)with
 |false=>simp
 |true =>simp only[ab]at h;simp only[aw,bu,Fa a b c h.1.1 h.1.2 h.2,bT,vE]
def l7(a b c:bs):Int:=ite (0<sP a b c) 1 <|ite (sP a b c<0) (-1) 0
def M8(a b c:bs):qR (a,b,c)=Z (l7 a b c):=by unfold qR l7;simp only[ bG3];by_cases h1:0<sP a b c;simp[h1];by_cases h2:sP a b c<0<;>simp[h1,h2]
theorem yP(a b:Int):br qG a [b]=max a b:=by simp only[br,qG];split<;>omega
def KS(a b:Int):br w6 a [b]=min a b:=by simp only[br,w6];split<;>omega
def sU(a b p:bs):Bool:=No (min a.1 b.1<=p.1)&&(No (p.1<=max a.1 b.1)&&(No (min a.2 b.2<=p.2)&&No (p.2<=max a.2 b.2)))
def n'(a b p:bs):Bool:=(d' a&&d' b&&d' p)&&(No (fr a b p=0)&&sU a b p)
def FH(a b p:bs):qV (a,b,p)=Z (n' a b p):=by
 unfold qV n';simp only[ GS];cases h:(d' a&&d' b&&d' p)with
 |false=>simp
 |true =>simp only[ab]at h;simp only[ Fa a b p h.1.1 h.1.2 h.2,bT,yP,KS,sU];cases No (fr a b p=0)<;>cases No (min a.1 b.1<=p.1)<;>cases No (p.1<=max a.1 b.1)<;>cases No (min a.2 b.2<=p.2)<;>simp
def hU(a b:bs):Bool:=No (a.1<b.1)||(No (a.1=b.1)&&No (a.2<b.2))
def bp6(a b:bs):pb (a,b)=Z (hU a b):=by unfold pb hU;cases No (a.1<b.1)<;>cases No (a.1=b.1)<;>rfl
def u9(a b:bs):Bool:=No (a.1=b.1)&&No (a.2=b.2)
theorem pt(a b:bs):u9 a b=Y↔a=b:=by simp[u9,Prod.ext_iff]
def p8(a b c d:bs):Int :=
 let e:=ite (hU b a) b <|a
 let g:=ite (hU b a) a <|b
 let h:=ite (hU d c) d <|c
 let i:=ite (hU d c) c <|d
 let f:=ite (hU e h) h <|e
 let l:=ite (hU i g) i <|g
 if u9 f l then 1 else ite (hU f l) 2 0
def bp3(a b c d:bs):Fx (a,b,c,d)=Z (p8 a b c d):=by unfold Fx p8;have e:∀p q:bs,(No (p.1=q.1)&&No (p.2=q.2))=u9 p q:=λ_ _=>rfl;have i:=λp q=>bp6 p q;simp only[ e];cases h1:hU b a<;>cases h2:hU d c<;>simp only[ vE,l4,aJ];cases g:hU a c<;>cases h:hU d b<;>simp only[ vE,l4,aJ];cases u9 a b<;>cases f:hU a b<;>simp_all;cases u9 a d<;>cases f:hU a d<;>simp_all;cases u9 c b<;>cases f:hU c b<;>simp_all;cases u9 c d<;>cases f:hU c d<;>simp_all;cases g:hU a d<;>cases h:hU c b<;>simp only[ vE,l4,aJ];cases u9 a b<;>cases f:hU a b<;>simp_all;cases u9 a c<;>cases f:hU a c<;>simp_all;cases u9 d b<;>cases f:hU d b<;>simp_all;cases u9 d c<;>cases f:hU d c<;>simp_all;cases g:hU b c<;>cases h:hU d a<;>simp only[ vE,l4,aJ];cases u9 b a<;>cases f:hU b a<;>simp_all;cases u9 b d<;>cases f:hU b d<;>simp_all;cases u9 c a<;>cases f:hU c a<;>simp_all;cases u9 c d<;>cases f:hU c d<;>simp_all;cases g:hU b d<;>cases h:hU c a<;>simp only[ vE,l4,aJ];cases u9 b a<;>cases f:hU b a<;>simp_all;cases u9 b c<;>cases f:hU b c<;>simp_all;cases u9 d a<;>cases f:hU d a<;>simp_all;cases u9 d c<;>cases f:hU d c<;>simp_all
def Wf(a b c:bs):l7 a b c=1\/l7 a b c=-1\/l7 a b c=0:=by unfold l7;split;exact .inl rfl;split;exact .inr (.inl rfl);exact .inr (.inr rfl)
def aP3(a b c d e f:bs):ek (l7 a b c*l7 d e f)=l7 a b c*l7 d e f:=by rcases Wf a b c with h|h|h<;>rcases Wf d e f with h'|h'|h'<;>rw[h,h']<;>exact fx
def oK(a b c d:bs):Int :=ite (d' a&&d' b&&d' c&&d' d) (ite (u9 a b) (ite (n' c d a) 1 0) <|ite (u9 c d) (ite (n' a b c) 1 0) <|ite (l7 a b c=0/\l7 a b d=0) (p8 a b c d) <|ite (l7 a b c*l7 a b d<=0/\l7 c d a*l7 c d b<=0) 1 <| 0) 0
def bJ6(a b c d:bs):FQ (a,b,c,d)=Z (oK a b c d):=by
 unfold FQ oK;have e:∀p q:bs,(No (p.1=q.1)&&No (p.2=q.2))=u9 p q:=λ_ _=>rfl;have i:=λp q r=>FH p q r;have j:=λp q r=>M8 p q r;have k:=λp q r s=>bp3 p q r s;simp only[bT,bo2,e,i,j,k,aP3];cases h:(d' a&&d' b&&d' c&&d' d)with
 |false=>simp
 |true=>
  cases u9 a b with
  |true=>cases n' c d a<;>simp
  |false=>
   cases u9 c d with
   |true=>cases n' a b c<;>simp
   |false =>by_cases h1:l7 a b c=0;by_cases h2:l7 a b d=0;simp[h1,h2];by_cases f:l7 c d a*l7 c d b<=0<;>simp[h1,h2,f];by_cases g:l7 a b c*l7 a b d<=0;by_cases f:l7 c d a*l7 c d b<=0<;>simp[h1,g,f];simp[h1,g]
def oQ(o p:bs):Bool:=No (p.2<o.2)||(No (p.2=o.2)&&No (p.1<o.1))
def bG7(o p:bs):Bn (o,p)=Z (oQ o p):=by unfold Bn oQ;cases No (p.2<o.2)<;>cases No (p.2=o.2)<;>rfl
def oo(o a b:bs):Bool:=(d' o&&d' a&&d' b)&&(!u9 a o&&(!u9 b o&&(ite (oQ o a=oQ o b) (No (0<fr o a b)) <|oQ o b)))
def bJ5(o a b:bs):BC (o,a,b)=Z (oo o a b):=by
 unfold BC oo;have e:∀p q:bs,(No (p.1=q.1)&&No (p.2=q.2))=u9 p q:=λ_ _=>rfl;have c:=λp q=>bG7 p q;simp only[ GS,e,c];cases h:(d' o&&d' a&&d' b)with
 |false=>simp
 |true =>simp only[ab]at h;have d:=Fa o a b h.1.1 h.1.2 h.2;simp only[ d];cases u9 a o<;>cases u9 b o<;>cases oQ o a<;>cases oQ o b<;>simp
def na(ag:hI)(id:Int):Nat:=(ag.map λa=>(ite (a.2.1=id) 1 0)+(ite (a.2.2.1=id) 1 0)).sum
def MR(al:gp)(ag:hI)(fs:eD)(id:Int)(ha:aa ag<=1000000):Df ((al,ag,fs),id)=Z ((na ag id:Nat):Int):=by
 unfold Df;simp[bT];refine(vF (A:=Nat) ag (λi a=>((i:Int),(a:Int))) (λa rest=>Z ((a+na rest id:Nat):Int)) (λi a=>a<=2*i) (by omega) ?_ ?_ 0 (by omega)).trans (by simp);intro rec a c;simp[na];intro rec i a x rest a7 c hd b;have d:=f' a7 (show aa ag<2^62 by omega);have e:ek ((a:Int)+1)=((a+1:Nat):Int):=by rw[fx];omega
 have f:ek (((a+1:Nat):Int)+1)=((a+2:Nat):Int):=by rw[fx];omega
 simp only[fB a7,b6,iy hd,bT,d,e,f];by_cases h1:x.2.1=id<;>by_cases h2:x.2.2.1=id;simp only[h1,h2,l6,b6];rw[b _ (by omega)];simp only[na,aq,dw,h1,h2,vE];congr 2;omega;simp only[h1,h2,l6,n4,b6,bu];rw[b _ (by omega)];simp only[na,aq,dw,h1,h2,vE,l4];congr 2;omega;simp only[h1,h2,l6,n4,b6,bu];rw[b _ (by omega)];simp only[na,aq,dw,h1,h2,vE,l4];congr 2;omega;simp only[h1,h2,l6,n4,b6,bu];rw[b _ (by omega)];simp only[na,aq,dw,h1,h2,vE,l4];congr 2;omega
def qM:eD->Bool
 | []=>Y
 | [_]=>Y
 |a::b::l=>No (a<b)&&qM (b::l)
def MD(xs:eD)(hl:aa xs<2^62):C9 xs=Z (qM xs):=by
 unfold C9;cases xs;exact Dh λrec=>by simp[qM]
 rename_i y ys;simp[aC]at hl;refine(vF (A:=Int) ys (λi a=>((i:Int)+1)) (λa rest=>Z (qM (a::rest))) ((y::ys)[·]?=Z ·) (by omega) ?_ ?_ y rfl).trans rfl;intro rec a b;simp[qM];intro rec i a x rest a7 b hd d;have e:No ((i:Int)+1<((aa (y::ys):Nat):Int))=Y:=by simp[aC,kA];omega
 have f:ek ((i:Int)+1-1)=((i:Nat):Int):=by rw[fx];omega
 have g:ek ((i:Int)+1+1)=((i+1:Nat):Int)+1:=by rw[fx];omega
 have c:nth (y::ys) ((i:Int)+1)=Z x:=by
  have:((i:Int)+1)=((i+1:Nat):Int):=by omega
  rw[this,zB,aI,<-zB,iy hd]
 simp only[bT,e,b6,f,zB,b,c,g];have j:(y::ys)[i+1]?=Z x:=by rw[<-zB];rw[<-c];congr 1
 rw[d x j];by_cases h:x<=a;have:¬a<x:=by omega
 simp[h,qM,this];have:a<x:=by omega
 simp[h,qM,this]
def pathOf(al:gp)(ag:hI)(id:Int):dv eY:=match px ag id with
 |none=>W
 |some a=>match nQ al a.2.1,nQ al a.2.2.1 with
  |some f,Z t=>Z (f.2::(a.2.2.2.1++[t.2]))
  |_,_=>W
def aZ8{α:Type}{z:α}{n:Int}(a:0<n)(h1:n<=1000000):GZ 16 z n=Z (List.replicate n.toNat z):=by
 unfold GZ;have b:No (ek n=n)=Y:=by rw[fx];simp
 have c:No (0<n)=Y:=by simpa using a
 have d:No ((2*n.toNat+1000)*16<=2^48)=Y:=by simp[kA];omega
 have e:No (n.toNat<=2^62)=Y:=by simp[kA];omega
 rw[b,c,d,e];rfl
theorem FG{ag:hI}{id:Int}{a:ct}(h:px ag id=Z a):a∈ag:=ba h
def V1(al:gp)(ag:hI)(fs:eD)(id:Int)(m:aa al<=1000000)(ha:aa ag<=1000000)(hv:∀a∈ag,aa a.2.2.2.1<=900000) :
  wE ((al,ag,fs),id)=Z (match pathOf al ag id with|some l=>(l,0)|none=>([],7)):=by
 unfold wE;simp only[WI al ag fs _ (show aa ag<2^62 by omega) (λa h=>by have:=hv a h;omega),M9 al ag fs _ (show aa al<2^62 by omega),bT];unfold pathOf;cases c:px ag id with
 |none=>simp
 |some a=>
  have b:=hv a (FG c);simp only[aw,bu];cases dC:nQ al a.2.1 with
  |none=>simp
  |some f=>
   simp only[aw,bu];cases cb:nQ al a.2.2.1 with
   |none=>simp
   |some t=>
    simp only[aw,bu];generalize n:a.2.2.2.1=via at b;have d:ek (1+(aa via:Int))=1+aa via:=fx;have e:ek (1+(aa via:Int)+1)=aa via+2:=by rw[fx];omega
    have g:No (1+(aa via:Int)<0)=U:=by simp[sG];omega
    have i:No ((aa via:Int)+2<0)=U:=by simp[sG];omega
    have j:ek ((aa via:Int)+2-0)=aa via+2:=by rw[fx];omega
    have k:No (0<(aa via:Int)+2)=Y:=by simp[kA];omega
    simp only[d,e,g,i,j,k,bu,b6];rw[aZ8 (by omega) (by omega)];simp[bT];rw[m9 (by omega) (by simp)];simp[bT,bZ];rw[m9];simp[bT];rw[m9];simp
def Ya{al:gp}{ag:hI}{id:Int}{l:eY}(h:pathOf al ag id=Z l):∃a,px ag id=Z a/\aa l=aa a.2.2.2.1+2:=by unfold pathOf at h;split at h;cases h;rename_i a ha;split at h;cases h;exact⟨a,ha,by simp⟩;cases h
def qL(n:Int):Bool:=No (1<=n)&&No (n<=1073741824)
def Mx(xs:eD)(hl:aa xs<2^62):C7 xs=Z (xs.all qL):=by
 unfold C7;have h1:∀n,Ii n=Z (!(qL n)):=λn=>by
  unfold Ii qL;by_cases h1:n<1;have:¬ 1<=n:=by omega
  simp[h1,this];have b:1<=n:=by omega
  by_cases h2:1073741824<n;have:¬n<=1073741824:=by omega
  simp[h1,h2,b,this];have:n<=1073741824:=by omega
  simp[h1,h2,b,this]
 have h2:G9 (xs,())=Z (!(xs.all qL)):=by unfold G9;simp;refine(mP (A:=Unit) xs (λi _=>(i:Int)) (λ_ rest=>Z (!(rest.all qL))) (by omega) ?_ ?_ ()).trans rfl;intro rec a;simp;intro rec i a x rest a7 hd c;simp only[fB a7,b6,iy hd,bT,f' a7 hl,h1];rw[c ()];cases h:qL x<;>simp[bH,h]
 simp[h2,bT,Bool.not_not]
def yU(p:bs):Bool:=No (-1048576<=p.1)&&No (p.1<=1048576)&&No (-1048576<=p.2)&&No (p.2<=1048576)
def rS{p:bs}(h:yU p=Y):d' p=Y:=by simp[yU,ab,kA]at h;rw[wH];omega
def Vl(p:bs):C8 p=Z (!(yU p)):=by
 unfold C8 yU;by_cases h1:p.1 < -1048576;have:¬ -1048576<=p.1:=by omega
 simp[h1,this];by_cases h2:1048576<p.1;have:¬p.1<=1048576:=by omega
 simp[h1,h2,this];by_cases a:p.2 < -1048576;have:¬ -1048576<=p.2:=by omega
 simp[h1,h2,a,this];have c:-1048576<=p.1:=by omega
 have a2:p.1<=1048576:=by omega
 have a3:-1048576<=p.2:=by omega
 by_cases b:1048576<p.2;have:¬p.2<=1048576:=by omega
 simp[h1,h2,a,b,this];have:p.2<=1048576:=by omega
 simp[h1,h2,a,b,c,a2,a3,this]
def bo4(l:eY)(hl:aa l<2^62):G5 (l,())=Z (!(l.all yU)):=by unfold G5;simp;refine(mP (A:=Unit) l (λi _=>(i:Int)) (λ_ rest=>Z (!(rest.all yU))) (by omega) ?_ ?_ ()).trans rfl;intro rec a;simp;intro rec i a x rest a7 hd b;have e:C8 x=Z (!(yU x)):=Vl x;simp only[fB a7,b6,iy hd,bT,f' a7 hl,e];rw[b ()];cases h:yU x<;>simp[bH,h]
def bp8(al:gp)(ag:hI)(fs:eD)(c:aa al<=1000000)(ha:aa ag<=1000000)(hv:∀a∈ag,aa a.2.2.2.1<=900000) :
  IM (al,ag,fs)=Z ((al.all λn=>yU n.2)&&(ag.all λa=>a.2.2.2.1.all yU)):=by
 unfold IM;simp;refine(mP (A:=Unit) al (λi _=>(i:Int)) (λ_ rest=>Z ((rest.all λn=>yU n.2)&&(ag.all λa=>a.2.2.2.1.all yU))) (by omega) ?_ ?_ ()).trans rfl;intro rec a;simp[bu,dI,bY];refine(mP (A:=Unit) ag (λi _=>(i:Int)) (λ_ rest=>Z (rest.all λa=>a.2.2.2.1.all yU)) (by omega) ?_ ?_ ()).trans rfl;intro rec a;simp;intro rec i a x rest a7 hd b;have d:=hv x (rl hd).2.2;simp only[fB a7,b6,iy hd,bT,f' a7 (show aa ag<2^62 by omega),bo4 x.2.2.2.1 (by omega)];rw[b ()];cases h:x.2.2.2.1.all yU<;>simp[h];intro rec i a x rest a7 hd b;simp only[fB a7,b6,iy hd,bT,f' a7 (show aa al<2^62 by omega),Vl];rw[b ()];cases h:yU x.2<;>simp[h]
def GH(n m:b9):Bool:=u9 n.2 m.2
def sC:gp->gp->Bool
 |_,[]=>U
 |pre,n::rest=>pre.any (GH n)||sC (pre++[n]) rest
def vP(al:gp)(ag:hI)(fs nodes:eD):Int :=cond (sC [] al) 8 <|cond (ag.any (λa=>!(No (a.2.1∈nodes)&&No (a.2.2.1∈nodes)))) 7 <|cond (ag.any (λa=>!((No (a.2.2.2.2.1=0)||No (a.2.2.2.2.1∈fs))&&(No (a.2.2.2.2.2=0)||No (a.2.2.2.2.2∈fs))))) 12 0
def bm1(al:gp)(ag:hI)(fs nodes:eD)(s:aa al<=1000000)(ha:aa ag<=1000000)(hf:aa fs<=1000000)(m:aa nodes<=1000000) :
  Is ((al,ag,fs),nodes)=Z (vP al ag fs nodes):=by
 have c:∀y,wo (nodes,y)=Z (No (y∈nodes)):=λy=>HC nodes y (by omega);have d:∀y,wo (fs,y)=Z (No (y∈fs)):=λy=>HC fs y (by omega);unfold Is;simp only[bT,c,d];refine(mP (A:=Unit) al (λi _=>(i:Int)) (λ_ rest=>Z (cond (sC (al.take (aa al-aa rest)) rest) 8 <|cond (ag.any (λa=>!(No (a.2.1∈nodes)&&No (a.2.2.1∈nodes)))) 7 <|cond (ag.any (λa=>!((No (a.2.2.2.2.1=0)||No (a.2.2.2.2.1∈fs))&&(No (a.2.2.2.2.2=0)||No (a.2.2.2.2.2∈fs))))) 12 0)) (by omega) ?_ ?_ ()).trans (by simp[vP])
 .intro rec u
  simp only[kj,bu,sC,bu];refine(mP (A:=Unit) ag (λi _=>(i:Int)) (λ_ rest=>Z (cond (rest.any (λa=>!(No (a.2.1∈nodes)&&No (a.2.2.1∈nodes)))) 7 <|cond (ag.any (λa=>!((No (a.2.2.2.2.1=0)||No (a.2.2.2.2.1∈fs))&&(No (a.2.2.2.2.2=0)||No (a.2.2.2.2.2∈fs))))) 12 0)) (by omega) ?_ ?_ ()).trans rfl
  .intro rec u
   simp only[kj,bu,jR,bu];refine(mP (A:=Unit) ag (λi _=>(i:Int)) (λ_ rest=>Z (cond (rest.any (λa=>!((No (a.2.2.2.2.1=0)||No (a.2.2.2.2.1∈fs))&&(No (a.2.2.2.2.2=0)||No (a.2.2.2.2.2∈fs))))) 12 0)) (by omega) ?_ ?_ ()).trans rfl
   .intro rec u
    simp
   intro rec i u x rest a7 hd b;simp only[fB a7,b6,iy hd,bT,f' a7 (show aa ag<2^62 by omega)];rw[b ()]
   grind
  intro rec i u x rest a7 hd b;simp only[fB a7,b6,iy hd,bT,f' a7 (show aa ag<2^62 by omega)];rw[b ()]
  grind
 intro rec i u x rest a7 hd b;have n:=rl hd;have o:aa al-aa (x::rest)=i:=by simp;omega
 have p:aa al-aa rest=i+1:=by omega
 have q:al.take (i+1)=al.take i++[x]:=by grind
 simp only[fB a7,b6,iy hd,bT,f' a7 (show aa al<2^62 by omega),N0 (mB a7)];simp only[o,sC];have e:=b ();rw[p,q]at e;have f:aa (al.take i)<2^62:=by simp;omega
 refine(mP (A:=Unit) (al.take i) (λi _=>(i:Int)) (λ_ k=>Z (cond (k.any (GH x)||sC (al.take i++[x]) rest) 8 <|cond (ag.any (λa=>!(No (a.2.1∈nodes)&&No (a.2.2.1∈nodes)))) 7 <|cond (ag.any (λa=>!((No (a.2.2.2.2.1=0)||No (a.2.2.2.2.1∈fs))&&(No (a.2.2.2.2.2=0)||No (a.2.2.2.2.2∈fs))))) 12 0)) (by omega) ?_ ?_ ()).trans rfl
 .grind
 intro l j u y k hj g h;have r:(No (x.2.1=y.2.1)&&No (x.2.2=y.2.2))=GH x y:=rfl;simp only[fB hj,b6,iy g,bT,f' hj f,r];rw[h ()]
 grind
abbrev Hu:=Int×Int×Int×eY×Int×Int×eY
abbrev fy:=Hu×Int
def Hu.path(l:Hu):eY:=l.2.2.2.2.2.2
def rT(a:ct)(l:eY):Hu:=(a.1,a.2.1,a.2.2.1,a.2.2.2.1,a.2.2.2.2.1,a.2.2.2.2.2,l)
def pf(a:ct)(l:eY):cu fy:=(aQ (aa l-1)).map λ(i:Nat)=>(rT a l,(i:Int))
def qt:eY->Bool
 | []=>Y
 | [_]=>Y
 |p::q::l=>!(u9 p q)&&qt (q::l)
def zb(al:gp)(ag:hI):hI->dv (cu fy)
 | []=>Z []
 |a::b=>match pathOf al ag a.1 with
  |none=>W
  |some l=>cond ((a.2.1=a.2.2.1&&aa l<4)||!(qt l)) W <|match zb al ag b with
   |some r=>Z (pf a l++r)
   |none=>W
def bb0{β:Type}(a:ct)(l:eY)(acc:cu fy)(K:cu fy×Int->dv β)(bad:β)(hl:aa l<=1000000)(f:2<=aa l)(w:aa acc<=300000000) :
  rounds (α:=cu ((Int×Int×Int×eY×Int×Int×eY)×Int)×Int) (β:=β) (λk x=>
    a8 (Z (No (x.2<ek ((aa l:Int)-1)))) λg=>
    cond g (
     a8 (nth l x.2) λm=>
     a8 (Z (ek (x.2+(1:Int)))) λn=>
     a8 (nth l n) λo=>
     a8 (Z ((λ(a b:Int×Int)=>(No (a.1=b.1)&&No (a.2=b.2))) m o)) λq=>
     cond q (
     Z bad) (
     a8 (j6 16 x.1 [((a.1,a.2.1,a.2.2.1,a.2.2.2.1,a.2.2.2.2.1,a.2.2.2.2.2,l),x.2)]) λr=>
     a8 (Z (ek (x.2+(1:Int)))) λt=>
     k (r,t))) <|K x) (acc,(0:Int))=bif qt l then K (acc++pf a l,(aa l:Int)-1)else Z bad:=by
 cases l;simp at f;rename_i p c;simp only[aC]at hl f;have C:ek ((aa (p::c):Nat)-1:Int)=(aa c:Int):=by rw[aC,fx];omega
 simp only[bT,C];refine(vF (A:=cu fy) c (λi s=>(s,(i:Int))) (λs rest=>cond (qt ((p::c).drop (aa c-aa rest))) (K (acc++pf a (p::c),(aa c:Int))) <|some bad)
  (λi s=>s=acc++(aQ i).map λ(j:Nat)=>(rT a (p::c),(j:Int))) (by omega) ?_ ?_ acc (by simp)).trans (by
   have:((aa (p::c):Nat):Int)-1=aa c:=by rw[aC];omega
   rw[this];simp)
 intro rec s hs;have u:qt ((p::c).drop (aa c))=Y:=by
  have:aa ((p::c).drop (aa c))=1:=by simp
  match h:(p::c).drop (aa c),this with
  | [x],_=>rfl
 simp only[kj,dA,Nat.sub_zero,u];subst hs;rfl;intro rec i s x rest a7 z hd D;have E:=rl hd;have e:aa c-aa (x::rest)=i:=by simp;omega
 have d:aa c-aa rest=i+1:=by omega
 have u:nth (p::c) (i:Int)=Z ((p::c)[i]'(by simp;omega)):=by rw[zB];exact af _
 have G:nth (p::c) ((i+1:Nat):Int)=Z x:=by rw[zB,aI,<-zB];exact iy hd
 have H:=f' a7 (show aa c<2^62 by omega);have B:(p::c).drop (i+1)=x::rest:=by simpa using hd
 have v:(p::c).drop i=(p::c)[i]'(by simp;omega)::x::rest:=by rw[bL (by simp;omega),B]
 rw[e,v];have hlen:aa s<=300000000+i:=by rw[z];simp;omega
 simp only[fB a7,u,H,G];rw[m9];have I:(No (((p::c)[i]'(by simp;omega)).1=x.1)&&No (((p::c)[i]'(by simp;omega)).2=x.2))=u9 ((p::c)[i]'(by simp;omega)) x:=rfl;simp only[bT,I];rw[D _ (by rw[z,ib,eQ];simp[rT]),d,B];simp only[qt];cases u9 ((p::c)[i]'(by simp;omega)) x<;>simp
structure vv(s:fy):Prop where
 b7:0<=s.2
 a7:s.2+1<aa s.1.path
 len:aa s.1.path<=1000000
def hi(s:fy):bs:=(s.1.path[s.2.toNat]?).getD (0,0)
def gl(s:fy):bs:=(s.1.path[s.2.toNat+1]?).getD (0,0)
def Ge{s:fy}(h:vv s):uh s=Z (hi s,gl s):=by
 let ⟨l,i⟩:=s;let ⟨h1,h2,a⟩:=h;simp only at h1 h2 a;unfold uh hi gl;have b:ek (i+1)=i+1:=fx;have c:nth l.path i=Z (l.path[i.toNat]'(by omega)):=by rw[aD4 h1];exact af _
 have d:nth l.path (i+1)=Z (l.path[i.toNat+1]'(by omega)):=by
  rw[aD4 (by omega)];have:(i+1).toNat=i.toNat+1:=by omega
  rw[this];exact af _
 simp only[ b];show a8 (nth l.path i) _=_;rw[c];show a8 (nth l.path (i+1)) _=_;rw[d];have e:l.path[i.toNat]?=Z (l.path[i.toNat]'(by omega)):=af _;have f:l.path[i.toNat+1]?=Z (l.path[i.toNat+1]'(by omega)):=af _;rw[e,f];rfl
def qu(s:fy):Int:=min (hi s).1 (gl s).1
def Co(s:fy):Int:=max (hi s).1 (gl s).1
def PR{s:fy}(h:vv s):yj s=Z (qu s):=by unfold yj;have:=Ge h;simp only[this,KS];rfl
def aY0{s:fy}(h:vv s):EY s=Z (Co s):=by unfold EY;have:=Ge h;simp only[this,yP];rfl
def tP(s:fy):Bool:=No (s.2=0)
def th(s:fy):Bool:=No (s.2=(aa s.1.path:Int)-2)
def aq6(s:fy):yd s=Z (tP s):=by unfold yd tP;simp
def P8{s:fy}(h:vv s):wq s=Z (th s):=by unfold wq th;have hl:=h.len;have e:ek ((aa s.1.path:Int)-2)=(aa s.1.path:Int)-2:=fx;show Z (No (s.2=ek ((aa s.1.path:Int)-2)))=_;rw[e]
def xw{a:ct}{l:eY}{s:fy}(h:s∈pf a l):∃i:Nat,i+1<aa l/\s=(rT a l,(i:Int)):=by obtain⟨i,a7,rfl⟩:=aM.1 h;rw[ga]at a7;exact⟨i,by omega,rfl⟩
def aK2{a:ct}{l:eY}(hl:aa l<=1000000){s:fy}(h:s∈pf a l):vv s:=by obtain⟨i,a7,rfl⟩:=xw h;exact⟨by simp,by show((i:Int)+1<(aa l:Int));omega,hl⟩
def Bt{al:gp}{ag:hI}:∀ {l:hI} {r:cu fy},zb al ag l=Z r->∀s∈r,∃a∈l,∃p,pathOf al ag a.1=Z p/\s∈pf a p
 | [],r,h,s,hs=>by simp[zb]at h;subst h;simp at hs
 |a::l,r,h,s,hs=>by
  unfold zb at h;split at h;cases h;rename_i p hp;cases hc:((No (a.2.1=a.2.2.1)&&No (aa p<4))||!(qt p))with
  |true=>rw[hc]at h;cases h
  |false=>
   rw[hc]at h;split at h;rename_i d b;cases h;rcases aV.1 hs with hs|hs
   exact⟨a,by simp,p,hp,hs⟩;let ⟨c,h1,h2⟩:=Bt b s hs;exact⟨c,by simp[h1],h2⟩;cases h
def mkMap(al:gp)(m:cu (Int×bs)):cu (Int×bs):=al.foldl (λm n=>wC (λ(a b:Int)=>No (a=b)) n.1 n.2 m) m
abbrev gd:Int->Int->Bool:=λa b=>No (a=b)
def Eh(a b:Int):gd a b=No (a=b):=rfl
theorem rV{V:Type}(k a:Int)(v:V):∀m:cu (Int×V),fh gd k (wC gd a v m)=if k=a then Z v else fh gd k m
 | []=>by by_cases h:k=a<;>simp[wC,fh]
 |p::m=>by have b:=rV k a v m;simp only[wC];by_cases h1:a=p.1;simp only[h1,l6,b6,fh,Eh];by_cases h:k=p.1<;>simp[h];simp only[h1,n4,bu,fh,Eh];by_cases h:k=p.1;simp[h];exact λe=>b8 e.symm h1;simp[h];exact b
theorem Ja(k:Int):∀(al:gp) (m:cu (Int×bs)),(∀n∈al,k≠n.1)->fh gd k (mkMap al m)=fh gd k m
 | [],m,_=>rfl
 |n::al,m,h=>by have a:=Ja k al (wC gd n.1 n.2 m) (λx b=>h x (by simp[b]));show fh gd k (mkMap al (wC gd n.1 n.2 m))=_;rw[a,rV,cc (h n (by simp))]
def nv(m:cu (Int×bs))(id:Int):bs:=(fh gd id m).getD (0,0)
def qx(s t:fy)(m:cu (Int×bs)):Bool :=
 let c:=oK (hi s) (gl s) (hi t) (gl t)
 bif No (s.1.1=t.1.1)then
  (cond (t.2<s.2) (cond (t.2+1=s.2||(t.1.2.1=t.1.2.2.1&&(tP t&&th s))) (No (c=1)) <|No (c=0)) (cond (s.2+1=t.2||(s.1.2.1=s.1.2.2.1&&(tP s&&th t))) (No (c=1)) <|No (c=0)))else cond (c=1) (((No (s.1.2.1=t.1.2.1)||No (s.1.2.1=t.1.2.2.1))&&(n' (hi s) (gl s) (nv m s.1.2.1)&&n' (hi t) (gl t) (nv m s.1.2.1))) ||
  ((No (s.1.2.2.1=t.1.2.1)||No (s.1.2.2.1=t.1.2.2.1))&&(n' (hi s) (gl s) (nv m s.1.2.2.1)&&n' (hi t) (gl t) (nv m s.1.2.2.1)))) <|No (c=0)
def aE5(m:cu (Int×bs))(id:Int):oD (fh (λ(a b:Int)=>No (a=b)) id m) (Z ((0:Int),(0:Int)))=Z (nv m id):=by unfold nv;cases fh gd id m<;>rfl
def bG0{s t:fy}(hs:vv s)(e:vv t)(m:cu (Int×bs)):E_ (s,t,m)=Z (qx s t m):=by have f:=hs.a7;have g:=e.a7;have h:=hs.len;have i:=e.len;have j:=hs.b7;have k:=e.b7;have l:=Ge hs;have n:=Ge e;have o:=λa b c d=>bJ6 a b c d;have p:=λa b c=>FH a b c;have q:=λs=>aq6 s;have r:=P8 hs;have u:=P8 e;have v:ek (t.2+1)=t.2+1:=fx;have w:ek (s.2+1)=s.2+1:=fx;unfold E_ qx;simp only[l,n,o,p,q,r,u,v,w,bT,aE5];generalize oK (hi s) (gl s) (hi t) (gl t)=c;generalize n' (hi s) (gl s) (nv m s.1.2.1)=o1;generalize n' (hi t) (gl t) (nv m s.1.2.1)=o2;generalize n' (hi s) (gl s) (nv m s.1.2.2.1)=o3;generalize n' (hi t) (gl t) (nv m s.1.2.2.1)=o4;generalize tP s=f1;generalize tP t=f2;generalize th s=l2;generalize th t=x8;generalize No (s.1.2.1=t.1.2.1)=d1;generalize No (s.1.2.1=t.1.2.2.1)=d2;generalize No (s.1.2.2.1=t.1.2.1)=d3;generalize No (s.1.2.2.1=t.1.2.2.1)=d4;generalize No (c=1)=c1;generalize No (t.2+1=s.2)=g1;generalize No (s.2+1=t.2)=g2;generalize No (s.1.2.1=s.1.2.2.1)=g3;generalize No (t.1.2.1=t.1.2.2.1)=g4;generalize No (t.2<s.2)=g5;cases No (s.1.1=t.1.1);cases c1;rfl;cases d1<;>cases d2<;>cases d3<;>cases d4<;>cases o1<;>cases o2<;>cases o3<;>cases o4<;>rfl;cases g5;cases g2<;>cases g3<;>cases f1<;>cases x8<;>rfl;cases g1<;>cases g4<;>cases f2<;>cases l2<;>rfl
open Go.Proofs Go.Shelf Go.Sort
def A_(a b:Int):Int:=ite (a<b) (-1) <|ite (b<a) 1 0
def cmp_eq(a b:Int):CG (a,b)=Z (A_ a b):=by
 have h:∀n,Ey n=Z U:=λn=>by unfold Ey;simp
 unfold CG A_;simp only[h];by_cases h1:a<b;simp[h1];by_cases h2:b<a<;>simp[h1,h2]
theorem uk{a b:Int}:A_ a b<0↔a<b:=by unfold A_;by_cases h1:a<b;simp[h1];by_cases h2:b<a<;>simp[h1,h2]
def p2(s t:fy):Int:=A_ (qu s) (qu t)
def vA(l:cu fy):Ordered p2 l :=IX (λx _=>by unfold p2;rw[uk];omega) (λx _ y _ z _ a b=>by unfold p2 at *;rw[uk]at *;omega) (λx _ y _ z _ a b=>by unfold p2 at *;rw[uk]at *;omega)
def bK3{l:cu fy}(hs:∀s∈l,vv s)(hl:aa l<4611686018427387904):G8 (l,2,())=Z (oy p2 l):=by refine Jw (λx a y b=>?_) (vA l) hl;unfold Iw;have c:=PR (hs x a);have d:=PR (hs y b);simp only[c,d,cmp_eq];rfl
def p6(s:fy)(n:b9):Bool:=!(n' (hi s) (gl s) n.2)||((tP s&&No (s.1.2.1=n.1))||(th s&&No (s.1.2.2.1=n.1)))
def wU(s:fy)(m:cu (Int×bs)):cu fy->Bool
 | []=>Y
 |t::r=>cond (Co s<qu t) Y <|qx s t m&&wU s m r
def tV(al:gp)(m:cu (Int×bs)):cu fy->Bool
 | []=>Y
 |s::r=>wU s m r&&(al.all (p6 s)&&tV al m r)
def u_(al:gp)(ag:hI):Bool:=match zb al ag ag with
 |none=>U
 |some l=>tV al (mkMap al []) (oy p2 l)
def aJ3(al:gp)(I:aa al<=1000000){s:fy}(hs:vv s)(K:dv Bool) :
  rounds (α:=Int) (β:=Bool) (λk x=>
   a8 (Z (No (x<(aa al:Int)))) λp=>
   cond p (
    a8 (nth al x) λe=>
    a8 (uh s) λn=>
    a8 (qV (n.1,n.2,e.2)) λq=>
    cond q (
    a8 (yd s) λg=>
    cond g (
     a8 (Z s.1) λh=>
     a8 (Z (No (h.2.1=e.1))) λr=>
     a8 (Z (!(r))) λj=>
     cond j (
     a8 (wq s) λd=>
     cond d (
      a8 (Z s.1) λm=>
      a8 (Z (No (m.2.2.1=e.1))) λt=>
      a8 (Z (!(t))) λv=>
      cond v (
      Z U) (
      a8 (Z (ek (x+(1:Int)))) λw=>
      k w)) (
      Z U)) (
     a8 (Z (ek (x+(1:Int)))) λd=>
     k d)) (
     a8 (wq s) λh=>
     cond h (
     a8 (Z s.1) λz=>
     a8 (Z (No (z.2.2.1=e.1))) λj=>
     a8 (Z (!(j))) λd=>
     cond d (
      Z U) (
      a8 (Z (ek (x+(1:Int)))) λm=>
      k m)) (
     Z U))) (
    a8 (Z (ek (x+(1:Int)))) λg=>
    k g)) K) (0:Int)=bif al.all (p6 s)then K else Z U:=by
 have B:=Ge hs;have C:=λa b c=>FH a b c;have D:=aq6 s;have E:=P8 hs;refine(mP (A:=Unit) al (λi _=>(i:Int)) (λ_ rest=>cond (rest.all (p6 s)) K <|some U) (by omega) ?_ ?_ ()).trans rfl;simp;intro rec i u x rest a7 hd G;have H:qV (((hi s).1,(hi s).2),((gl s).1,(gl s).2),x.2)=Z (n' (hi s) (gl s) x.2):=C _ _ x.2;simp only[fB a7,iy hd,bT,f' a7 (show aa al<2^62 by omega),B,D,E,H];rw[G (),bH];unfold p6;generalize n' (hi s) (gl s) x.2=o;generalize tP s=f;generalize th s=l;generalize No (s.1.2.1=x.1)=d1;generalize No (s.1.2.2.1=x.1)=d2;cases o<;>cases f<;>cases l<;>cases d1<;>cases d2<;>rfl
theorem Du(a:ct)(l:eY):aa (pf a l)=aa l-1:=by simp[pf]
def bS3(al:gp){β:Type}(k:aa al<=1000000)(K:Int×cu (Int×bs)->dv β) :
  rounds (α:=Int×cu (Int×bs)) (β:=β) (λh d=>
   a8 (Z (No (d.1<(aa al:Int)))) λe=>
   cond e (
   a8 (nth al d.1) λc=>
   a8 (Z (wC (λ(a b:Int)=>No (a=b)) c.1 c.2 d.2)) λf=>
   a8 (Z (ek (d.1+(1:Int)))) λg=>
   h (g,f)) <|K d) ((0:Int),([]:cu (Int×bs)))=K ((aa al:Int),mkMap al []):=by
 refine(mP (A:=cu (Int×bs)) al (λi m=>((i:Int),m)) (λm rest=>K ((aa al:Int),mkMap rest m)) (by omega) ?_ ?_ []).trans rfl;simp[mkMap];intro rec i m x rest a7 hd j;simp only[fB a7,iy hd,bT,f' a7 (show aa al<2^62 by omega)];rw[j];rfl
def bp7(al:gp)(ag:hI)(fs:eD)(hn:aa al<=1000)(ha:aa ag<=1000)(hv:∀a∈ag,aa a.2.2.2.1<=1000):II (al,ag,fs)=Z (u_ al ag):=by
 have f:∀id,wE ((al,ag,fs),id)=Z (match pathOf al ag id with|some l=>(l,0)|none=>([],7)):=λid=>V1 al ag fs id (by omega) (by omega) (λa h=>by have:=hv a h;omega);have g:∀id l,pathOf al ag id=Z l->2<=aa l/\aa l<=1002:=λid l h=>by let ⟨a,h1,h2⟩:=Ya h;have:=hv a (FG h1);omega
 have n:=λK=>bS3 al (β:=Bool) (by omega) K;have alone:=λ(s:fy) (hs:vv s) K=>aJ3 al (by omega) hs K;have b:=λ(a:ct) (l:eY) (acc:cu fy) (h1:aa l<=1000000) (h2:2<=aa l) (P:aa acc<=300000000) K=>bb0 (β:=Bool) a l acc K U h1 h2 P;simp only[bT]at n alone b;unfold II u_;simp only[bT,f];refine(vF (A:=cu fy) ag (λi s=>(s,(i:Int))) (λs rest=>Z (match zb al ag rest with|none=>U|some l=>tV al (mkMap al []) (oy p2 (s++l)))) (λi s=>aa s<=1002*i/\∀x∈s,vv x) (by omega) ?_ ?_ [] ⟨by simp,by simp⟩).trans (by simp);intro rec s E;simp only[kj,bu,zb,cg];refine(n _).trans ?_;let ⟨G,e⟩:=E;have hlen:aa s<=1002000:=by have:1002*aa ag<=1002*1000:=kL _ ha;omega
 simp only[bT,bK3 e (by omega)];have c:=tG (vA s);have k:∀x∈oy p2 s,vv x:=λx m=>e x (c.mem_iff.1 m);have o:aa (oy p2 s)<=1002000:=by rw[c.length_eq];exact hlen
 generalize oy p2 s=l at k o;refine(mP (A:=Unit) l (λi _=>(i:Int)) (λ_ rest=>Z (tV al (mkMap al []) rest)) (by omega) ?_ ?_ ()).trans rfl;intro rec u;simp[tV];intro rec i u x rest a7 hd C;have H:=rl hd;have m:=k x H.2.2;have d:l.drop (i+1)=rest:=by have:=Ar lq hd;simpa using this
 have I:tx l (Z ((i+1:Nat):Int)) W=Z rest:=by
  rw[af1 (by omega) (by omega)];have:((i+1:Nat):Int).toNat=i+1:=by omega
  rw[this,d]
 simp only[fB a7,b6,iy hd,bT,f' a7 (show aa l<2^62 by omega),I];have p:∀t∈rest,vv t:=λt q=>k t (by rw[<-d]at q;exact ax q);have hK:∀v,rec v=rec v:=λ_=>rfl;refine(mP (A:=Unit) rest (λj _=>(j:Int)) (λ_ r=>cond (wU x (mkMap al []) r) (cond (al.all (p6 x)) (Z (tV al (mkMap al []) rest)) <|some U) <|some U) (by omega) ?_ ?_ ()).trans ?_;intro w u;simp only[kj,bu,wU,b6];rw[alone x m,C ()];intro w j u t r hj z J;have q:=p t (rl z).2.2;have Q:yj t=Z (qu t):=PR q;have R:EY x=Z (Co x):=aY0 m;have S:E_ (x,t,mkMap al [])=Z (qx x t (mkMap al [])):=bG0 m q _;simp only[fB hj,b6,iy z,bT,f' hj (show aa rest<2^62 by omega),Q,R,S];rw[alone x m,C (),J ()];simp only[wU];generalize No (Co x<qu t)=q5;generalize qx x t (mkMap al [])=nj;cases q5<;>cases nj<;>simp;simp only[tV];generalize wU x (mkMap al []) rest=q5;generalize al.all (p6 x)=nj;cases q5<;>cases nj<;>simp;intro rec i s x rest a7 E hd C;let ⟨G,e⟩:=E;have D:1002*i<=1002*1000:=kL _ (by omega);simp only[fB a7,b6,iy hd,bT,f' a7 (show aa ag<2^62 by omega),zb];cases hp:pathOf al ag x.1 with
 |none=>simp
 |some l=>
  let ⟨M,o⟩:=g _ _ hp;have fin:rec (s++pf x l,((i+1:Nat):Int))=Z (match zb al ag rest with|none=>U|some l'=>tV al (mkMap al []) (oy p2 ((s++pf x l)++l'))):=C _ ⟨by rw[aX,Du];omega,λy B=>by
   rcases aV.1 B with B|B
   exact e y B;exact aK2 (by omega) B⟩
  simp only[l6,aw,bu];have key:=b x l s (by omega) M (by omega) (λs'=>rec (s'.1,((i+1:Nat):Int)));by_cases hc:x.2.1=x.2.2.1;simp only[hc,l6,b6,bY];by_cases O:aa l<4;have:No ((aa l:Int)<4)=Y:=by simp only[kA];omega
  simp[this,O];have N:No ((aa l:Int)<4)=U:=by simp only[sG];omega
  simp only[N,bu,O,n4,db];rw[hc]at key;refine key.trans ?_;cases qt l with
  |false=>simp
  |true =>simp only[b6,aw,bu,fin];cases zb al ag rest<;>simp
  simp only[hc,n4,bu,gz,db];refine key.trans ?_;cases qt l with
  |false=>simp
  |true =>simp only[b6,aw,bu,fin];cases zb al ag rest<;>simp
def wT(al:gp)(ag:hI)(fs:eD):Bool:=No (aa al<=256)&&(No (aa ag<=256)&&(No (aa fs<=64)&&ag.all λa=>No (aa a.2.2.2.1<=64)))
def tJ(al:gp)(ag:hI)(fs:eD):Int :=cond (!(wT al ag fs)) 3 <|cond (!(qM (al.map (·.1))&&(qM (ag.map (·.1))&&qM fs))) 10 <|cond (!((al.map (·.1)).all qL&&((ag.map (·.1)).all qL&&(fs.all qL&&((al.all λn=>yU n.2)&&(ag.all λa=>a.2.2.2.1.all yU)))))) 2 <|cond (!decide (vP al ag fs (al.map (·.1))=0)) (vP al ag fs (al.map (·.1))) <|cond (!(u_ al ag)) 11 0
def VN(al:gp)(ag:hI)(fs:eD):IV (al,ag,fs)=Z (tJ al ag fs):=by
 unfold IV tJ wT;simp only[bT];by_cases h1:aa al<=256;rotate_left
 grind
 by_cases h2:aa ag<=256;rotate_left
 grind
 by_cases c:aa fs<=64;rotate_left
 grind
 have d:No ((256:Int)<(aa al:Int))=U:=by grind
 have a2:No ((256:Int)<(aa ag:Int))=U:=by grind
 have a3:No ((64:Int)<(aa fs:Int))=U:=by grind
 simp only[d,a2,a3,bu,h1,h2,c,l6,bY];refine(vF (A:=Unit) ag (λi _=>(i:Int)) (λ_ rest=>Z (cond (!(rest.all λa=>No (aa a.2.2.2.1<=64))) 3 <|cond (!(qM (al.map (·.1))&&(qM (ag.map (·.1))&&qM fs))) 10 <|cond (!((al.map (·.1)).all qL&&((ag.map (·.1)).all qL&&(fs.all qL&&((al.all λn=>yU n.2)&&(ag.all λa=>a.2.2.2.1.all yU)))))) 2 <|cond (!decide (vP al ag fs (al.map (·.1))=0)) (vP al ag fs (al.map (·.1))) <|cond (!(u_ al ag)) 11 0)) (λi _=>∀a∈ag.take i,aa a.2.2.2.1<=64) (by omega) ?_ ?_ () (by simp)).trans rfl;intro rec u b;rw[bI]at b;have hv:∀a∈ag,aa a.2.2.2.1<=900000:=λa ha=>by have:=b a ha;omega
 simp only[kj,bu,dI,aw,bk2 al ag fs (by omega) (by omega),bT,MD _ (show aa (al.map (·.1))<2^62 by simp;omega),MD _ (show aa (ag.map (·.1))<2^62 by simp;omega),
  MD fs (by omega),Mx _ (show aa (al.map (·.1))<2^62 by simp;omega),Mx _ (show aa (ag.map (·.1))<2^62 by simp;omega),Mx fs (by omega),bp8 al ag fs (by omega) (by omega) hv,
  bm1 al ag fs (al.map (·.1)) (by omega) (by omega) (by omega) (by simp;omega),bp7 al ag fs (by omega) (by omega) (λa ha=>by have:=b a ha;omega)]
 grind
 intro rec i u x rest a7 b hd f;simp only[fB a7,b6,iy hd,bT,f' a7 (show aa ag<2^62 by omega),bH];by_cases h:aa x.2.2.2.1<=64;have e:No ((64:Int)<(aa x.2.2.2.1:Int))=U:=by grind
 simp only[e,bu,h,l6,bY];refine f () ?_
 grind
 grind
def tD(u:bs):Prop:=0<u.2\/u.2=0/\0<u.1
def eS(u v:bs):Int:=u.1*v.2-u.2*v.1
def Vb(u v w:bs):v.2*eS u w=u.2*eS v w+w.2*eS u v:=by
 unfold eS
 grind
def bQ2(u v:bs):eS v u=- eS u v:=by
 unfold eS
 grind
theorem aV5(u:bs):eS u u=0:=by have:=bQ2 u u;omega
def as7{u v w:bs}(hu:tD u)(hv:tD v)(hw:tD w)(h1:0<eS u v)(h2:0<eS v w):0<eS u w:=by
 have hid:=Vb u v w;have b:0<=u.2:=by unfold tD at hu;omega
 have c:0<=w.2:=by unfold tD at hw;omega
 rcases hv with hv|⟨hv,d⟩
 by_cases e:0<u.2;have q5:=cn e h2;have nj:=aH c (dR h1);exact cE (a:=v.2) (by omega) hv |> λh=>h
 by_cases f:0<w.2;have q5:=aH b (dR h2);have nj:=cn f h1;exact cE (a:=v.2) (by omega) hv |> λh=>h
 exfalso;have g:w.2=0:=by omega
 have i:0<w.1:=by unfold tD at hw;omega
 have:eS v w=- (v.2*w.1):=by unfold eS;rw[g];omega
 have:=cn hv i;omega;exfalso;have:eS u v=- (u.2*v.1):=by unfold eS;rw[hv];omega
 have:=aH b (dR d);omega
def ag5{u v w:bs}(hu:tD u)(hv:tD v)(hw:tD w)(h1:eS u v<=0)(h2:eS v w<=0):eS u w<=0:=by
 have hid:=Vb u v w;have a:0<=u.2:=by unfold tD at hu;omega
 have b:0<=w.2:=by unfold tD at hw;omega
 rcases hv with hv|⟨hv,c⟩
 have q5:=aH a (show 0<=- eS v w by omega);have nj:=aH b (show 0<=- eS u v by omega);rw[cR]at q5 nj;by_cases h:eS u w<=0;exact h;have:=cn hv (show 0<eS u w by omega);omega;have f:eS v w=v.1*w.2:=by unfold eS;rw[hv];omega
 have d:w.2=0:=by by_cases h:0<w.2;have:=cn c h;omega;omega
 have:eS u w=- (u.2*w.1):=by unfold eS;rw[d];omega
 have e:0<w.1:=by unfold tD at hw;omega
 have:=aH a (dR e);omega
def vec(o p:bs):bs:=(p.1-o.1,p.2-o.2)
def Gi(u:bs):bs:=(-u.1,-u.2)
def Dm(o p:bs)(h:p≠o):oQ o p=U↔tD (vec o p):=by
 unfold oQ tD vec
 grind
def Di(o p:bs)(h:p≠o):oQ o p=Y↔tD (Gi (vec o p)):=by
 unfold oQ tD vec Gi
 grind
def Vc(u v:bs):eS (Gi u) (Gi v)=eS u v:=by unfold eS Gi;simp only[jb]
def uR(o p:bs):Prop:=d' p=Y/\p≠o
theorem BV{o a b:bs}(ho:d' o=Y)(ha:uR o a)(c:uR o b):oo o a b=if oQ o a=oQ o b then No (0<eS (vec o a) (vec o b))else oQ o b:=by
 unfold oo;have d:u9 a o=U:=by
  cases h:u9 a o with
  |false=>rfl
  |true=>exact b8 ((pt a o).1 h) ha.2
 have e:u9 b o=U:=by
  cases h:u9 b o with
  |false=>rfl
  |true=>exact b8 ((pt b o).1 h) c.2
 simp only[ho,ha.1,c.1,d,e,bw,bj,bY];rfl
def Nl{o a:bs}(ho:d' o=Y)(ha:uR o a):oo o a a=U:=by grind[BV,aV5]
def Xg{o a b c:bs}(ho:d' o=Y)(ha:uR o a)(g:uR o b)(hc:uR o c)(h1:oo o a b=Y)(h2:oo o b c=Y):oo o a c=Y:=by rw[BV ho ha g]at h1;rw[BV ho g hc]at h2;rw[BV ho ha hc];cases d:oQ o a<;>cases e:oQ o b<;>cases f:oQ o c<;>simp only[d,e,f,vE,l4,aJ,kM]at h1 h2⊢;exact hT (as7 ((Dm o a ha.2).1 d) ((Dm o b g.2).1 e) ((Dm o c hc.2).1 f) (pK h1) (pK h2));refine hT ?_;have g1:=pK h1;have g2:=pK h2;rw[<-Vc]at g1 g2⊢;exact as7 ((Di o a ha.2).1 d) ((Di o b g.2).1 e) ((Di o c hc.2).1 f) g1 g2
def bO9{o a b c:bs}(ho:d' o=Y)(ha:uR o a)(g:uR o b)(hc:uR o c)(h1:oo o a b=U)(h2:oo o b c=U):oo o a c=U:=by rw[BV ho ha g]at h1;rw[BV ho g hc]at h2;rw[BV ho ha hc];cases d:oQ o a<;>cases e:oQ o b<;>cases f:oQ o c<;>simp only[d,e,f,vE,l4,aJ,kM]at h1 h2⊢;refine ft (λh=>?_);have g1:=of_decide_eq_false h1;have g2:=of_decide_eq_false h2;have:=ag5 ((Dm o a ha.2).1 d) ((Dm o b g.2).1 e) ((Dm o c hc.2).1 f) (by omega) (by omega);omega;refine ft (λh=>?_);have g1:=of_decide_eq_false h1;have g2:=of_decide_eq_false h2;rw[<-Vc]at g1 g2 h;have:=ag5 ((Di o a ha.2).1 d) ((Di o b g.2).1 e) ((Di o c hc.2).1 f) (by omega) (by omega);omega
def bT7{o a b:bs}(ho:d' o=Y)(ha:uR o a)(c:uR o b)(h:oo o a b=Y):oo o b a=U:=by
 cases h2:oo o b a with
 |false=>rfl
 |true=>have:=Xg ho ha c ha h h2;rw[Nl ho ha]at this;cases this
open Go.Proofs Go.Shelf Go.Sort
structure fp(al:List b9)(ag:List ct)(fs:List Int):Prop where
 AD:wT al ag fs=Y
 vL:qM (al.map (·.1))=Y
 rX:qM (ag.map (·.1))=Y
 E8:qM fs=Y
 Oz:(al.map (·.1)).all qL=Y
 Gk:(ag.map (·.1)).all qL=Y
 Oy:fs.all qL=Y
 Yh:(al.all λn=>yU n.2)=Y
 J':(ag.all λa=>a.2.2.2.1.all yU)=Y
 conn:vP al ag fs (al.map (·.1))=0
 FT:u_ al ag=Y
theorem De{al:gp}{ag:hI}{fs:eD}:tJ al ag fs=0↔fp al ag fs:=by
 constructor;intro h;unfold tJ at h;cases h1:wT al ag fs with
 |false=>rw[h1]at h;simp at h
 |true=>
  rw[h1]at h;simp only[aw,bu]at h;cases h2:(qM (al.map (·.1))&&(qM (ag.map (·.1))&&qM fs))with
  |false=>rw[h2]at h;simp at h
  |true=>
   rw[h2]at h;simp only[aw,bu]at h;cases b:((al.map (·.1)).all qL&&((ag.map (·.1)).all qL&&(fs.all qL&&((al.all λn=>yU n.2)&&(ag.all λa=>a.2.2.2.1.all yU)))))with
   |false=>rw[b]at h;simp at h
   |true=>
    rw[b]at h;simp only[aw,bu]at h;by_cases c:vP al ag fs (al.map (·.1))=0;simp only[c,l6,aw,bu]at h;cases d:u_ al ag with
    |false=>rw[d]at h;simp at h
    |true =>simp only[ab]at h2 b;exact⟨h1,h2.1,h2.2.1,h2.2.2,b.1,b.2.1,b.2.2.1,b.2.2.2.1,b.2.2.2.2,c,d⟩
    grind
 intro h;unfold tJ;simp[h.AD,h.vL,h.rX,h.E8,h.Oz,h.Gk,h.Oy,h.Yh,h.J',h.conn,h.FT]
theorem pq:∀ {l:eD},qM l=Y->l.Pairwise (·<·)
 | [],_=>lp
 | [a],_=>by simp
 |a::b::l,h=>by
  simp only[qM,ab,kA]at h;have d:=pq h.2;refine mi (λx c=>?_) d;rcases aF.1 c with rfl|c
  exact h.1;have:=(aR.1 d).1 x c;omega
def M5{α:Type}{f:α->Int}:∀ {l:cu α},(l.map f).Pairwise (·<·)->∀x∈l,l.find? (λy=>No (f y=f x))=Z x
 | [],_,x,a=>by simp at a
 |y::l,h,x,a=>by
  simp only[aq,aR]at h;rw[eA];rcases aF.1 a with rfl|a
  simp;have h1:=h.1 (f x) (aN a);have:¬f y=f x:=by omega
  simp only[this,n4];exact M5 h.2 x a
def I5{al:gp}{ag:hI}:∀ {l:hI} {r:cu fy},zb al ag l=Z r->∀a∈l,∃p,pathOf al ag a.1=Z p/\qt p=Y/\(a.2.1=a.2.2.1->4<=aa p)
 | [],r,h,a,ha=>by simp at ha
 |b::l,r,h,a,ha=>by
  unfold zb at h;split at h;cases h;rename_i p hp;cases hc:((No (b.2.1=b.2.2.1)&&No (aa p<4))||!(qt p))with
  |true=>rw[hc]at h;cases h
  |false=>
   rw[hc]at h;simp only[bu]at h;split at h;rename_i d c;rcases aF.1 ha with rfl|ha
   simp only[cL,Bool.and_eq_false_iff,sG,Bool.not_eq_false']at hc;refine⟨p,hp,hc.2,λe=>?_⟩;rcases hc.1 with h1|h1
   exact b8 e h1;omega;exact I5 c a ha;cases h
def J5:∀ {l:eY} {i:Nat} {p q:bs},qt l=Y->l[i]?=Z p->l[i+1]?=Z q->p≠q
 | [],i,p,q,_,h,_=>by simp at h
 | [a],0,p,q,_,_,h=>by simp at h
 | [a],i+1,p,q,_,h,_=>by simp at h
 |a::b::l,0,p,q,h,h1,h2=>by simp only[qt,ab,dc]at h;simp at h1 h2;subst h1;subst h2;intro e;rw[(pt a b).2 e]at h;cases h.1
 |a::b::l,i+1,p,q,h,h1,h2=>by simp only[qt,ab]at h;exact J5 h.2 (by simpa using h1) (by simpa using h2)
namespace fp
variable {al:gp} {ag:hI} {fs:eD} (h:fp al ag fs)
include h
theorem qF:aa al<=256:=by
 have:=h.AD
 grind[wT]
theorem pA:aa ag<=256:=by
 have:=h.AD
 grind[wT]
theorem wX:aa fs<=64:=by
 have:=h.AD
 grind[wT]
theorem q4{a:ct}(ha:a∈ag):aa a.2.2.2.1<=64:=by
 have:=h.AD
 grind[wT,aj]
theorem zD{a:ct}(ha:a∈ag):px ag a.1=Z a:=M5 (f:=λa:ct=>a.1) (pq h.rX) a ha
theorem vm{n:b9}(a:n∈al):nQ al n.1=Z n:=M5 (f:=λn:b9=>n.1) (pq h.vL) n a
theorem num{a:ct}(ha:a∈ag):1<=a.1/\a.1<=1073741824:=by have:=aj.1 h.Gk a.1 (aN ha);simpa[qL]using this
theorem j7:∃r,zb al ag ag=Z r:=by
 have:=h.FT
 grind[u_]
theorem path{a:ct}(ha:a∈ag):∃f t,nQ al a.2.1=Z f/\nQ al a.2.2.1=Z t/\pathOf al ag a.1=Z (f.2::(a.2.2.2.1++[t.2]))/\qt (f.2::(a.2.2.2.1++[t.2]))=Y/\(a.2.1=a.2.2.1->2<=aa a.2.2.2.1):=by
 let ⟨r,b⟩:=h.j7;let ⟨p,h1,h2,d⟩:=I5 b a ha;have c:=h1;unfold pathOf at h1;rw[h.zD ha]at h1
 grind
theorem tt{n:b9}(a:n∈al):yU n.2=Y:=aj.1 h.Yh n a
theorem D0{a:ct}(ha:a∈ag){l:eY}(hl:pathOf al ag a.1=Z l):∀p∈l,yU p=Y:=by
 let ⟨f,t,h1,h2,b,_⟩:=h.path ha;rw[hl]at b;cases b;intro p hp;rcases aF.1 hp with rfl|hp
 exact h.tt (ba h1);rcases aV.1 hp with hp|hp
 exact aj.1 (aj.1 h.J' a ha) p hp;simp at hp;subst hp;exact h.tt (ba h2)
theorem Hz(id:Int):wE ((al,ag,fs),id)=Z (match pathOf al ag id with|some l=>(l,0)|none=>([],7)) :=V1 al ag fs id (by have:=h.qF;omega) (by have:=h.pA;omega) (λa ha=>by have:=h.q4 ha;omega)
theorem Hw(id:Int):xt ((al,ag,fs),id)=Z (match nQ al id with|some n=>(n,Y)|none=>((0,0,0),U)) :=M9 al ag fs id (by have:=h.qF;omega)
theorem Rq(id:Int):BP ((al,ag,fs),id)=Z (match px ag id with|some a=>(a,Y)|none=>((0,0,0,[],0,0),U)) :=WI al ag fs id (by have:=h.pA;omega) (λa ha=>by have:=h.q4 ha;omega)
end fp
def ph(al:gp)(ag:hI)(node:Int)(a:ct):cu (Int×bs):=match pathOf al ag a.1 with
 |none=>[]
 |some l=>(ite (a.2.1=node) [(a.1,(l[1]?).getD (0,0))] [])++(ite (a.2.2.1=node) [(-a.1,(l[aa l-2]?).getD (0,0))] [])
def np(al:gp)(ag:hI)(node:Int)(l:hI):cu (Int×bs):=l.flatMap (ph al ag node)
def A0(o:bs)(m:cu (Int×bs))(d e:Int):Int:=ite (oo o (nv m d) (nv m e)) (-1) <|ite (oo o (nv m e) (nv m d)) 1 0
def aZ1(n:b9)(m:cu (Int×bs))(d e:Int):Bf (d,e,n,m)=Z (A0 n.2 m d e):=by have h1:=λo a b=>bJ5 o a b;have h2:=λa b=>h1 n.2 a b;unfold Bf A0;simp[aE5,h2];cases oo n.2 (nv m d) (nv m e);cases oo n.2 (nv m e) (nv m d)<;>simp;simp
def rv(m:cu (Int×bs))(l:cu (Int×bs)):cu (Int×bs):=l.foldl (λm p=>wC (λ(a b:Int)=>No (a=b)) p.1 p.2 m) m
def WM(k:Int):∀(l:cu (Int×bs)) (m:cu (Int×bs)),(∀p∈l,p.1≠k)->fh gd k (rv m l)=fh gd k m
 | [],m,_=>rfl
 |p::l,m,h=>by have:=WM k l (wC gd p.1 p.2 m) (λq a=>h q (by simp[a]));show fh gd k (rv (wC gd p.1 p.2 m) l)=_;rw[this,rV,cc (λe=>h p (by simp) e.symm)]
theorem E5:∀(l:cu (Int×bs)) (m:cu (Int×bs)),(l.map (·.1)).Nodup->∀p∈l,fh gd p.1 (rv m l)=Z p.2
 | [],m,_,p,hp=>by simp at hp
 |q::l,m,a,p,hp=>by
  simp only[aq,cx]at a;show fh gd p.1 (rv (wC gd q.1 q.2 m) l)=_;rcases aF.1 hp with rfl|hp
  rw[WM p.1 l _ (λx b e=>a.1 (by rw[<-e];exact aN b)),rV,cr rfl];exact E5 l _ a.2 p hp
def LX{n:Int}(h:1<=n/\n<=1073741824):ek (0-n)=-n:=by rw[fx];omega
namespace fp
variable {al:gp} {ag:hI} {fs:eD} (h:fp al ag fs)
include h
theorem Ci(node:Int):∀ {l:hI},(∀a∈l,a∈ag)->(l.map (·.1)).Pairwise (·<·)->((np al ag node l).map (·.1)).Nodup
 | [],_,_=>by simp[np]
 |a::l,hm,hp=>by
  have k:=Ci node (l:=l) (λx c=>hm x (by simp[c])) (by simp only[aq,aR]at hp;exact hp.2);have ha:=h.num (hm a (by simp));have key:∀(b:ct),b∈ag->∀p∈ph al ag node b,p.1=b.1\/p.1=-b.1:=λb d p hp=>by
   unfold ph at hp;split at hp;simp at hp;rcases aV.1 hp with hp|hp
   split at hp<;>simp at hp;exact .inl (by rw[hp]);split at hp<;>simp at hp;exact .inr (by rw[hp])
  have e:np al ag node (a::l)=ph al ag node a++np al ag node l:=rfl;rw[e,eQ,List.nodup_append];refine⟨?_,k,?_⟩;unfold ph;split;simp;by_cases h1:a.2.1=node<;>by_cases h2:a.2.2.1=node<;>simp[h1,h2];omega;intro x c y m n;obtain⟨p,f,rfl⟩:=aM.1 c;obtain⟨q,g,rfl⟩:=aM.1 m;let ⟨b,d,i⟩:=cW.1 g;have j:=hm b (by simp[d]);simp only[aq,aR]at hp;have o:=hp.1 b.1 (aN d);rcases key a (hm a (by simp)) p f with r|r<;>rcases key b j q i with s|s<;>omega
theorem GF{node:Int}{l:hI}(hm:∀a∈l,a∈ag){p:Int×bs}(hp:p∈np al ag node l):∃a∈l,∃q,pathOf al ag a.1=Z q/\((a.2.1=node/\p=(a.1,(q[1]?).getD (0,0)))\/(a.2.2.1=node/\p=(-a.1,(q[aa q-2]?).getD (0,0)))):=by
 let ⟨a,ha,hp⟩:=cW.1 hp;unfold ph at hp;split at hp;simp at hp;rename_i q b;refine⟨a,ha,q,b,?_⟩;rcases aV.1 hp with hp|hp
 split at hp<;>simp at hp;exact .inl ⟨by assumption,hp⟩;split at hp<;>simp at hp;exact .inr ⟨by assumption,hp⟩
theorem Px{n:b9}(g:nQ al n.1=Z n){l:hI}(hm:∀a∈l,a∈ag){p:Int×bs}(hp:p∈np al ag n.1 l):uR n.2 p.2:=by
 let ⟨a,ha,q,i,hc⟩:=h.GF hm hp;let ⟨f,t,h1,h2,j,k,_⟩:=h.path (hm a ha);have b:=h.D0 (hm a ha) i;rw[i]at j;cases j;rcases hc with⟨e,rfl⟩|⟨e,rfl⟩
 rw[e,g]at h1;cases h1;have d:(n.2::(a.2.2.2.1++[t.2]))[0]?=Z n.2:=rfl;obtain⟨x,c⟩:∃x,(n.2::(a.2.2.2.1++[t.2]))[1]?=Z x:=⟨_,af (by simp)⟩;refine⟨?_,?_⟩;rw[c];exact rS (b x (aG c));rw[c];exact λe=>J5 k d c e.symm;rw[e,g]at h2;cases h2;generalize m:f.2::(a.2.2.2.1++[n.2])=L at *;have hlen:aa L=aa a.2.2.2.1+2:=by rw[<-m];simp
 have d:L[aa L-2+1]?=Z n.2:=by
  have:aa L-2+1=aa a.2.2.2.1+1:=by omega
  rw[this,<-m];simp
 obtain⟨x,c⟩:∃x,L[aa L-2]?=Z x:=⟨_,af (by omega)⟩;refine⟨?_,?_⟩;rw[c];exact rS (b x (aG c));rw[c];exact J5 k c d
omit h in
theorem Kz(node:Int):∀(l:hI),aa (np al ag node l)<=2*aa l
 | []=>by simp[np]
 |a::l=>by
  have b:=Kz node l;have e:np al ag node (a::l)=ph al ag node a++np al ag node l:=rfl;have:aa (ph al ag node a)<=2:=by unfold ph;split;simp;by_cases h1:a.2.1=node<;>by_cases h2:a.2.2.1=node<;>simp[h1,h2]
  rw[e,aX,aC];omega
theorem MB{n:b9}(o:nQ al n.1=Z n)(i:n∈al):Ordered (A0 n.2 (rv [] (np al ag n.1 ag))) ((np al ag n.1 ag).map (·.1)):=by
 have j:=h.Ci n.1 (l:=ag) (λ_ ha=>ha) (pq h.rX);have c:∀d∈(np al ag n.1 ag).map (·.1),uR n.2 (nv (rv [] (np al ag n.1 ag)) d):=λd hd=>by obtain⟨p,hp,rfl⟩:=aM.1 hd;unfold nv;rw[E5 _ [] j p hp];exact h.Px o (λ_ ha=>ha) hp
 have ho:=rS (h.tt i);generalize rv [] (np al ag n.1 ag)=m at c;have f:∀d e,A0 n.2 m d e<0↔oo n.2 (nv m d) (nv m e)=Y:=λd e=>by unfold A0;cases oo n.2 (nv m d) (nv m e);cases oo n.2 (nv m e) (nv m d)<;>simp;simp
 refine IX (λx g=>?_) (λx g y k z hz a b=>?_) (λx g y k z hz a b=>?_);rw[f,Nl ho (c x g)];simp;rw[f]at a b⊢;exact Xg ho (c x g) (c y k) (c z hz) a b;rw[f,Bool.not_eq_true]at a b⊢;exact bO9 ho (c x g) (c y k) (c z hz) a b
def kc(al:gp)(ag:hI)(n:b9):eD:=oy (A0 n.2 (rv [] (np al ag n.1 ag))) ((np al ag n.1 ag).map (·.1))
theorem aG4(node:Int):Fp ((al,ag,fs),node)=Z (match nQ al node with|some n=>kc al ag n|none=>[]):=by
 have hlen:=h.pA;unfold Fp;simp only[h.Hw];cases o:nQ al node with
 |none=>simp
 |some n=>
  have c:n.1=node:=by have:=dp o;simpa using this
  subst c;have q:=ba o;simp only[ h.Hz];refine(vF (A:=eD×cu (Int×bs)) ag (λi a=>((i:Int),a.1,a.2)) (λa rest=>rE (λd e=>Bf (d,e,n,rv a.2 (np al ag n.1 rest))) (a.1++(np al ag n.1 rest).map (·.1))) (λi a=>aa a.1<=2*i) (by omega) ?_ ?_ ([],[]) (by simp)).trans ?_;intro rec a w;unfold L5;have e:np al ag n.1 []=[]:=rfl;rw[e];simp;have z:rv a.2 []=a.2:=rfl;rw[z];cases rE (λd e=>Bf (d,e,n,a.2)) a.1<;>rfl;intro rec i a x rest a7 w hd m;have r:=(rl hd).2.2;let ⟨f,t,h1,h2,s,B,H⟩:=h.path r;have g:=h.num r;have C:np al ag n.1 (x::rest)=ph al ag n.1 x++np al ag n.1 rest:=rfl;generalize D:f.2::(x.2.2.2.1++[t.2])=L at s B;have E:aa L=aa x.2.2.2.1+2:=by rw[<-D];simp
  have hv:=h.q4 r;obtain⟨q5,j⟩:∃p,L[1]?=Z p:=⟨_,af (by omega)⟩;obtain⟨nj,k⟩:∃p,L[aa L-2]?=Z p:=⟨_,af (by omega)⟩;have u:nth L (1:Int)=Z q5:=by have:=zB L 1;rw[j]at this;exact this
  have G:ek ((aa L:Int)-2)=((aa L-2:Nat):Int):=by rw[fx];omega
  have v:nth L ((aa L-2:Nat):Int)=Z nj:=by rw[zB];exact k
  simp only[fB a7,iy hd,bT,f' a7 (show aa ag<2^62 by omega),s,u,G,v,LX g];have l:ph al ag n.1 x=(ite (x.2.1=n.1) [(x.1,q5)] [])++(ite (x.2.2.1=n.1) [(-x.1,nj)] []):=by unfold ph;rw[s];simp[j,k]
  rw[C,l];by_cases c1:x.2.1=n.1<;>by_cases c2:x.2.2.1=n.1;simp[c1,c2];rw[m9];simp;rw[m9];have:=m (a.1++[x.1]++[-x.1],wC (λ(a b:Int)=>No (a=b)) (-x.1) nj (wC (λ(a b:Int)=>No (a=b)) x.1 q5 a.2)) (by simp;omega);refine this.trans ?_;simp[rv];simp[c1,c2];rw[m9];have:=m (a.1++[x.1],wC (λ(a b:Int)=>No (a=b)) x.1 q5 a.2) (by simp;omega);refine this.trans ?_;simp[rv];simp[c1,c2];rw[m9];have:=m (a.1++[-x.1],wC (λ(a b:Int)=>No (a=b)) (-x.1) nj a.2) (by simp;omega);refine this.trans ?_;simp[rv];simp[c1,c2];have:=m a (by omega);refine this.trans ?_;simp;have hl:=Kz (al:=al) (ag:=ag) n.1 ag;exact Jw (λx _ y _=>aZ1 n _ x y) (h.MB o q) (by simp;omega)
end fp
def qn(l:eD)(d:Int):Int:=ite (d∈l) ((l[(l.idxOf d+aa l-1)%aa l]?).getD 0) 0
def aU7(l:eD)(d:Int)(hl:aa l<=1000000):Fb (l,d)=Z (qn l d):=by
 unfold Fb qn;simp only[Vh l d (by omega),bT];by_cases hd:d∈l;have a7:l.idxOf d<aa l:=jw.2 hd;have a:No (((l.idxOf d:Nat):Int)<0)=U:=by grind
 have b:ek (((l.idxOf d:Nat):Int)+(aa l:Int))=((l.idxOf d+aa l:Nat):Int):=by grind[fx]
 have c:ek (((l.idxOf d+aa l:Nat):Int)-1)=((l.idxOf d+aa l-1:Nat):Int):=by grind[fx]
 have e:No ((aa l:Int)=0)=U:=by grind
 have f:Int.tmod ((l.idxOf d+aa l-1:Nat):Int) (aa l:Int)=(((l.idxOf d+aa l-1)%aa l:Nat):Int):=by grind
 have hm:(l.idxOf d+aa l-1)%aa l<aa l:=dZ _ (by omega);simp only[hd,vE,a,bu,b,c,e,f,zB,bT];rw[af hm];rfl;simp[hd]
theorem Dk{l:eD}{d:Int}(h:d∈l):qn l d∈l:=by grind[qn,jw,dZ,af,aA]
def ql(S:eD):cu (Int×Bool):=S.map λd=>(d,Y)
theorem aw4(d:Int):∀S:eD,fh gd d (ql S)=if d∈S then Z Y else W
 | []=>rfl
 |x::S=>by have a:=aw4 d S;show(cond (gd d x) (Z Y) <|fh gd d (ql S))=_;rw[a,Eh];by_cases h:d=x<;>simp[h]
theorem OY(d:Int):∀S:eD,d∉S->wC gd d Y (ql S)=ql (S++[d])
 | [],_=>rfl
 |x::S,h=>by simp only[aF,not_or]at h;have a:=OY d S h.2;show(cond (gd d x) ((d,Y)::ql S) <| (x,Y)::wC gd d Y (ql S))=_;rw[a,Eh];simp[h.1,ql]
theorem Jh(d:Int)(S:eD):oD (fh (λ(a b:Int)=>No (a=b)) d (ql S)) (Z U)=Z (No (d∈S)):=by grind[oD,fh,ql,aw4]
def rn(gA:Int->Int):Nat->eD->Int->eD->eD×eD
 | 0,S,_,c=>(c,S)
 |n+1,S,d,c=>ite (d∈S) (c,S) <|rn gA n (S++[d]) (gA d) (c++[d])
def pV(D S:eD):Nat:=aa (D.filter λd=>!decide (d∈S))
def N'{D S:eD}{d:Int}(hd:d∈D)(hs:d∉S):pV D (S++[d])<pV D S:=by
 unfold pV
 induction D with
 |nil=>simp at hd
 |cons x D a=>
  have mono:∀D:eD,aa (D.filter λy=>!decide (y∈S++[d]))<=aa (D.filter λy=>!decide (y∈S)):=λD=>by
   induction D with
   |nil=>simp
   |cons y D a=>grind
  grind
def bT2{β:Type}(mp:eY)(D:eD)(s:aa D<=100000)(o:∀d∈D,(fh gd d mp).getD 0∈D)(K:Int×eD×cu (Int×Bool)->dv β)(G:eD×eD->dv β)(t:∀d c S,K (d,c,ql S)=G (c,S)) :
  ∀(S:eD) (d:Int) (c:eD),d∈D->aa c+pV D S<=100000->rounds (α:=Int×eD×cu (Int×Bool)) (β:=β) (λl e=>
     a8 (oD (fh (λ(a b:Int)=>No (a=b)) e.1 e.2.2) (Z U)) λf=>
     a8 (Z (!(f))) λg=>
     cond g (
     a8 (Z (wC (λ(a b:Int)=>No (a=b)) e.1 Y e.2.2)) λi=>
     a8 (j6 8 e.2.1 [e.1]) λj=>
     a8 (oD (fh (λ(a b:Int)=>No (a=b)) e.1 mp) (Z (0:Int))) λk=>
     l (k,j,i)) <|K e) (d,c,ql S)=G (rn (λd=>(fh gd d mp).getD 0) (pV D S+1) S d c):=by
 have uG:∀d,oD (fh (λ(a b:Int)=>No (a=b)) d mp) (Z (0:Int))=Z ((fh gd d mp).getD 0):=λd=>by show oD (fh gd d mp) _=_;cases fh gd d mp<;>rfl
 generalize dC:(λ(l:Int×eD×cu (Int×Bool)->dv β) (e:Int×eD×cu (Int×Bool))=>
     a8 (oD (fh (λ(a b:Int)=>No (a=b)) e.1 e.2.2) (Z U)) λf=>
     a8 (Z (!(f))) λg=>
     cond g (
     a8 (Z (wC (λ(a b:Int)=>No (a=b)) e.1 Y e.2.2)) λi=>
     a8 (j6 8 e.2.1 [e.1]) λj=>
     a8 (oD (fh (λ(a b:Int)=>No (a=b)) e.1 mp) (Z (0:Int))) λk=>
     l (k,j,i)) <|K e)=F
 have u:∀rec d c S,d∈S->F rec (d,c,ql S)=G (c,S):=λrec d c S hs=>by grind[Jh,bT,decide_true,aw]
 have h1:∀rec d c S,d∉S->aa c<=100000->F rec (d,c,ql S)=rec ((fh gd d mp).getD 0,c++[d],ql (S++[d])):=λrec d c S hs hc=>by grind[wC,ql,OY,j6,m9,Jh,bT,decide_false,bj]
 have key:∀(n m:Nat) (S:eD) (d:Int) (c:eD),d∈D->aa c+pV D S<=100000->pV D S<n->n<=m->iter F m (d,c,ql S)=G (rn (λd=>(fh gd d mp).getD 0) n S d c):=by
  intro n
  induction n with
  |zero=>intro m S d c _ _ h;omega
  |succ n v=>
   intro m S d c hd hc w hm;cases m;omega;rename_i m;show F (iter F m) (d,c,ql S)=_;by_cases hs:d∈S
   grind[rn]
   have p:=N' hd hs
   grind[rn]
 intro S d c hd hc;have h2:pV D S<=aa D:=bJ _ _;have q:=aL7;have r:pV D S+1<=many:=bD (by omega) q;exact key (pV D S+1) many S d c hd hc (Nat.lt_succ_self _) r
def BS(l:eD)(m:eY):eY:=l.foldl (λm d=>wC (λ(a b:Int)=>No (a=b)) (-d) (qn l d) m) m
def uo(L:cu eD)(m:eY):eY:=L.foldl (λm l=>BS l m) m
def W8(l:eD)(D:eD):∀(r:eD) (m:eY),(∀d∈r,d∈l)->(∀d∈l,d∈D)->(∀k v,fh gd k m=Z v->v∈D) ->
  (∀k v,fh gd k (r.foldl (λm d=>wC (λ(a b:Int)=>No (a=b)) (-d) (qn l d) m) m)=Z v->v∈D)/\(∀k,(fh gd k m).isSome=Y->(fh gd k (r.foldl (λm d=>wC (λ(a b:Int)=>No (a=b)) (-d) (qn l d) m) m)).isSome=Y) /\
  ∀d∈r,(fh gd (-d) (r.foldl (λm d=>wC (λ(a b:Int)=>No (a=b)) (-d) (qn l d) m) m)).isSome=Y
 | [],m,_,_,hm=>⟨hm,λ_ h=>h,λd hd=>by simp at hd⟩
 |x::r,m,c,hl,hm=>by
  have e:=c x (by simp);have hp:∀k v,fh gd k (wC gd (-x) (qn l x) m)=Z v->v∈D:=λk v h=>by rw[rV]at h;split at h;cases h;exact hl _ (Dk e);exact hm k v h
  let ⟨h1,h2,f⟩:=W8 l D r (wC gd (-x) (qn l x) m) (λd hd=>c d (by simp[hd])) hl hp;refine⟨h1,λk hk=>h2 k ?_,λd hd=>?_⟩;rw[rV];split;rfl;exact hk;rcases aF.1 hd with rfl|hd
  exact h2 _ (by rw[rV,cr rfl];rfl);exact f d hd
def WX(D:eD):∀(L:cu eD) (m:eY),(∀l∈L,∀d∈l,d∈D)->(∀k v,fh gd k m=Z v->v∈D) ->
  (∀k v,fh gd k (uo L m)=Z v->v∈D)/\(∀k,(fh gd k m).isSome=Y->(fh gd k (uo L m)).isSome=Y)/\∀l∈L,∀d∈l,(fh gd (-d) (uo L m)).isSome=Y
 | [],m,_,hm=>⟨hm,λ_ h=>h,λl hl=>by simp at hl⟩
 |l::L,m,b,hm=>by
  let ⟨e,a2,a3⟩:=W8 l D l m (λ_ h=>h) (b l (by simp)) hm;let ⟨f,c,g⟩:=WX D L (BS l m) (λx a=>b x (by simp[a])) e;refine⟨f,λk hk=>c k (a2 k hk),λx a d hd=>?_⟩;rcases aF.1 a with rfl|a
  exact c _ (a3 d hd);exact g x a d hd
def qW(gA:Int->Int)(D:eD):eD->eD->cu eD->cu eD
 | [],_,acc=>acc
 |d::a,S,acc=>ite (d∈S) (qW gA D a S acc) <|let r:=rn gA (pV D S+1) S d []
   qW gA D a r.2 (acc++[r.1])
namespace fp
variable {al:gp} {ag:hI} {fs:eD} (h:fp al ag fs)
def wF(al:gp)(ag:hI):cu eD:=al.map (kc al ag)
def ny(al:gp)(ag:hI):eD:=(wF al ag).flatten
include h
theorem wG{n:b9}(a:n∈al):(kc al ag n).Perm ((np al ag n.1 ag).map (·.1)):=tG (h.MB (h.vm a) a)
theorem Mo{n:b9}(a:n∈al):aa (kc al ag n)<=512:=by rw[(h.wG a).length_eq,aL];have:=Kz (al:=al) (ag:=ag) n.1 ag;have:=h.pA;omega
theorem uP{d:Int}:d∈ny al ag↔∃a∈ag,d=a.1\/d=-a.1:=by
 constructor;intro hd;let ⟨l,hl,hd⟩:=bU.1 hd;obtain⟨n,b,rfl⟩:=aM.1 hl;rw[(h.wG b).mem_iff]at hd;obtain⟨p,hp,rfl⟩:=aM.1 hd;let ⟨a,ha,q,_,hc⟩:=h.GF (λ_ ha=>ha) hp;rcases hc with⟨_,rfl⟩|⟨_,rfl⟩
 exact⟨a,ha,.inl rfl⟩;exact⟨a,ha,.inr rfl⟩;rintro ⟨a,ha,hd⟩;let ⟨f,t,h1,h2,j,_⟩:=h.path ha;have mk:∀(n:b9),n∈al->d∈(ph al ag n.1 a).map (·.1)->d∈((al.map (kc al ag)).flatten):=λn b c=>by refine bU.2 ⟨_,aN b,?_⟩;rw[(h.wG b).mem_iff];let ⟨p,hp,e⟩:=aM.1 c;exact e▸aN (cW.2 ⟨a,ha,hp⟩)
 have g:f.1=a.2.1:=by have:=dp h1;simpa using this
 have i:t.1=a.2.2.1:=by have:=dp h2;simpa using this
 rcases hd with rfl|rfl
 refine mk f (ba h1) ?_;unfold ph;rw[j];simp[g];refine mk t (ba h2) ?_;unfold ph;rw[j];simp[i]
theorem JN{d:Int}(hd:d∈ny al ag):-d∈ny al ag:=by rw[h.uP]at hd⊢;obtain⟨a,ha,rfl|rfl⟩:=hd;exact⟨a,ha,.inr rfl⟩;exact⟨a,ha,.inl (by omega)⟩
theorem MJ:aa (ny al ag)<=512:=by
 have key:∀l:gp,(∀n∈l,n∈al)->aa ((l.map (kc al ag)).flatten)<=(l.map λn=>aa (np al ag n.1 ag)).sum:=by
  intro l
  induction l with
  |nil=> simp
  |cons n l c =>intro hl;have:=c (λx f=>hl x (by simp[f]));have e:=(h.wG (hl n (by simp))).length_eq;rw[aL]at e;simp only[aq,List.flatten_cons,aX,dw];omega
 have q:=key al (λ_ o=>o);have g:∀l:gp,(l.map (·.1)).Pairwise (·<·)->∀b:hI,(l.map λn=>aa (np al ag n.1 b)).sum<=2*aa b:=by
  intro l hp b
  induction b with
  |nil=>
   have:(l.map λn=>aa (np al ag n.1 [])).sum=0:=by
    clear hp
    induction l with
    |nil=>rfl
    |cons n l c=>simp only[aq,dw,c];rfl
   omega
  |cons a b c=>
   have e:∀n:b9,aa (np al ag n.1 (a::b))=aa (ph al ag n.1 a)+aa (np al ag n.1 b):=λn=>by have e:np al ag n.1 (a::b)=ph al ag n.1 a++np al ag n.1 b:=rfl;rw[e,aX]
   have k:(l.map λn=>aa (np al ag n.1 (a::b))).sum=(l.map λn=>aa (ph al ag n.1 a)).sum+(l.map λn=>aa (np al ag n.1 b)).sum:=by
    simp only[e];clear c hp
    induction l with
    |nil=>rfl
    |cons n l c=>simp only[aq,dw];omega
   have r:(l.map λn=>aa (ph al ag n.1 a)).sum<=2:=by
    have hle:∀n:b9,aa (ph al ag n.1 a)<=(ite (a.2.1=n.1) 1 0)+(ite (a.2.2.1=n.1) 1 0):=λn=>by unfold ph;split;simp;by_cases h1:a.2.1=n.1<;>by_cases h2:a.2.2.1=n.1<;>simp[h1,h2]
    have i:∀(x:Int) (l:gp),(l.map (·.1)).Pairwise (·<·)->(l.map λn=>ite (x=n.1) 1 0).sum<=1:=by
     intro x l
     induction l with
     |nil=> simp
     |cons n l c=>
      intro hp;simp only[aq,aR]at hp;by_cases f:x=n.1;have:(l.map λn=>ite (x=n.1) 1 0).sum=0:=by
       have d:∀m∈l,(ite (x=m.1) 1 0)=0:=λm hm=>by have:=hp.1 m.1 (aN hm);rw[cc (by omega)]
       clear c hp
       induction l with
       |nil=>rfl
       |cons m l j=>simp only[aq,dw,d m (by simp),j (λy p=>d y (by simp[p]))]
      simp[f];rw[<-f];omega;have:=c hp.2;simp[f];exact this
    have c1:=i a.2.1 l hp;have c2:=i a.2.2.1 l hp;have:(l.map λn=>aa (ph al ag n.1 a)).sum<=(l.map λn=>ite (a.2.1=n.1) 1 0).sum+(l.map λn=>ite (a.2.2.1=n.1) 1 0).sum:=by
     clear c c1 c2 k hp
     induction l with
     |nil=>simp
     |cons n l c=>simp only[aq,dw];have:=hle n;omega
    omega
   rw[k,aC];omega
 have s:=g al (pq h.vL) ag;have:=h.pA;show aa ((al.map (kc al ag)).flatten)<=_;omega
def Tv(al:gp)(ag:hI):eY:=uo (wF al ag) []
def ki(al:gp)(ag:hI)(d:Int):Int:=(fh gd d (Tv al ag)).getD 0
theorem qK{d:Int}(hd:d∈ny al ag):ki al ag d∈ny al ag:=by
 let ⟨h1,_,c⟩:=WX (ny al ag) (wF al ag) [] (λl hl d hd=>bU.2 ⟨l,hl,hd⟩) (λk v hv=>by simp[fh]at hv);let ⟨l,hl,a⟩:=bU.1 (h.JN hd);have b:=c l hl _ a;rw[Int.neg_neg]at b;unfold ki Tv;cases hv:fh gd d (uo (wF al ag) [])with
 |none=>rw[hv]at b;cases b
 |some v=>exact h1 d v hv
def l9(al:gp)(ag:hI):cu eD:=qW (ki al ag) (ny al ag) ((ny al ag).mergeSort λa b=>No (a<=b)) [] []
omit h in
theorem MW{α β:Type}{l rest:cu α}{i:Nat}{x:α}(f:α->β)(hd:l.drop i=x::rest):(l.take (i+1)).map f=(l.take i).map f++[f x]:=by
 rw[List.take_add_one];have:l[i]?=Z x:=by rw[<-zB];exact iy hd
 rw[this];simp
theorem RE:Bm (al,ag,fs)=Z (l9 al ag,0):=by
 have R:=h.qF;have g:=De.2 h;have hD:=h.MJ;unfold Bm;simp only[VN,g];refine(vF (A:=eD×eY) al (λi a=>(a.1,(i:Int),a.2)) (λ_ _=>Z (l9 al ag,0)) (λi a=>a.1=((al.take i).map (kc al ag)).flatten/\a.2=uo ((al.take i).map (kc al ag)) []/\aa a.1<=512*i) (by omega) ?_ ?_ ([],[]) ⟨by simp,by simp[uo],by simp⟩);intro rec a w;let ⟨h1,h2,I⟩:=w;rw[bI]at h1 h2;have J:a.1=ny al ag:=h1;have K:=h2;have es:C5 (ny al ag,1)=Z ((ny al ag).mergeSort λa b=>No (a<=b)):=by
  unfold C5;rw[<-aB3];have:No (aa (ny al ag)<4611686018427387904)=Y:=by simp only[kA];omega
  simp[this]
 simp only[kj,J,K,es];have f:=cX (ny al ag) (λa b=>No (a<=b));unfold l9;generalize hL:(ny al ag).mergeSort (λa b=>No (a<=b))=L at f;have M:aa L<=100000-10:=by rw[f.length_eq];omega
 have B:∀d∈L,d∈ny al ag:=λd hd=>f.mem_iff.1 hd;refine(vF (A:=cu eD×eD) L (λi b=>((i:Int),b.1,ql b.2)) (λb rest=>Z (qW (ki al ag) (ny al ag) rest b.2 b.1,0)) (λi b=>aa b.1<=i) (by omega) ?_ ?_ ([],[]) (by simp)).trans rfl;simp[qW];intro rec i b x rest a7 u hd v;have l:L[i]?=Z x:=by rw[<-zB];exact iy hd
 simp only[fB a7,bT,aO,l,ai,Jh,f' a7 (show aa L<2^62 by omega)];by_cases hs:x∈b.2;simp only[hs];have:=v b (by show aa b.1<=i+1;omega);refine this.trans ?_;simp[qW,hs];simp only[hs];have N:pV (ny al ag) b.2<=aa (ny al ag):=bJ _ _;have n:=bT2 (Tv al ag) (ny al ag) (by omega) (λd hd=>h.qK hd) (λo=>a8 (j6 24 b.1 [o.2.1]) λp=>rec (((i+1:Nat):Int),p,o.2.2)) (λr=>Z (qW (ki al ag) (ny al ag) rest r.2 (b.1++[r.1]),0)) (λd c S=>by
  have:j6 24 b.1 [c]=Z (b.1++[c]):=m9;rw[this];exact v (b.1++[c],S) (by show aa (b.1++[c])<=i+1;simp;omega)) b.2 x [] (B x (rl hd).2.2) (by simp;omega)
 simp only[bT]at n;refine n.trans ?_;simp only[qW,hs];rfl;intro rec i a x rest a7 w hd v;let ⟨h1,h2,I⟩:=w;have l:=(rl hd).2.2;have O:=h.Mo l;have C:Fp ((al,ag,fs),x.1)=Z (kc al ag x):=by rw[h.aG4,h.vm l]
 simp only[fB a7,iy hd,bT,f' a7 (show aa al<2^62 by omega),C];refine(vF (A:=eD×eY) (kc al ag x) (λj b=>(b.1,(j:Int),b.2)) (λ_ _=>Z (l9 al ag,0)) (λj b=>b.1=a.1++(kc al ag x).take j/\b.2=((kc al ag x).take j).foldl (λm d=>wC (λ(a b:Int)=>No (a=b)) (-d) (qn (kc al ag x) d) m) a.2) (by omega) ?_ ?_ a ⟨by simp,by simp⟩);intro q b u;let ⟨g1,g2⟩:=u;rw[bI]at g1 g2;simp only[kj];refine v b ⟨?_,?_,?_⟩;rw[MW _ hd,List.flatten_append,<-h1];simp[g1];rw[MW _ hd];unfold uo;rw[kX];show b.2=BS (kc al ag x) (uo ((al.take i).map (kc al ag)) []);rw[<-h2,g2];rfl;rw[g1,aX];omega;intro q j b y r2 hj u k D;let ⟨g1,g2⟩:=u;have P:=(rl k).2.2;have E:1<=y/\y<=1073741824\/-1073741824<=y/\y<=-1:=by have:y∈ny al ag:=bU.2 ⟨_,aN l,P⟩;rw[h.uP]at this;obtain⟨a',G,e|e⟩:=this<;>have:=h.num G<;>omega
 have s:ek (0-y)=-y:=by rw[fx];omega
 have Q:aa b.1<=512*i+j:=by rw[g1,aX,da];omega
 have H:Fb (kc al ag x,y)=Z (qn (kc al ag x) y):=aU7 _ _ (by omega);simp only[fB hj,iy k,bT,f' hj (show aa (kc al ag x)<2^62 by omega),s,H];rw[m9];have t:(kc al ag x).take (j+1)=(kc al ag x).take j++[y]:=by have:=MW (λz:Int=>z) k;simpa using this
 refine D (b.1++[y],_) ⟨?_,?_⟩;rw[t,g1,bG];rw[t,kX,<-g2];rfl
end fp
def bn1{al:gp}{ag:hI}{fs:eD}(h:tJ al ag fs≠0):Bm (al,ag,fs)=Z ([],tJ al ag fs):=by unfold Bm;simp only[VN,bT,h,n4,bj,b6]
abbrev kI:=zy
def wL(al:gp)(ag:hI)(l:hI)(m:cu (Int×eY)):cu (Int×eY):=l.foldl (λm a=>match pathOf al ag a.1 with|some p=>wC (λ(a b:Int)=>No (a=b)) a.1 p m|none=>m) m
def l8(al:gp)(ag:hI):cu (Int×eY):=wL al ag ag []
def nY(d:Int):Prop:=-9223372036854775808<d/\d<=9223372036854775807
def la(d:Int):Int:=max d (-d)
def Am(ag:hI)(d:Int):Int:=ite (d=0) 0 <|match px ag (la d)with
 |some a=>ite (0<d) a.2.2.2.2.1 <|a.2.2.2.2.2
 |none=>0
def qD(a:kI):cu eD:=a.2.1::a.2.2.1
def oH(ag:hI)(k:Nat):Bool->cu kI->eD->eD->eD×Bool
 |_,[],seen,out=>(out,No ((aa seen:Int)=(k:Int)))
 |true,a::r,seen,out=>cond ((qD a).all (λc=>c.all λd=>No (Am ag d=0))) (oH ag k U r seen (out++[0])) <| ([],U)
 |false,a::r,seen,out=>
  let f:=Am ag (a.2.1.headD 0)
  bif No (f=0)||No (f∈seen)then([],U)else cond ((qD a).all (λc=>c.all λd=>No (Am ag d=f))) (oH ag k U r (seen++[f]) (out++[f])) ([],U)
namespace fp
variable {al:gp} {ag:hI} {fs:eD} (h:fp al ag fs)
include h
theorem Yg:E4 (al,ag,fs)=Z (l8 al ag):=by
 have hlen:=h.pA;unfold E4 l8;simp only[ h.Hz];refine(mP (A:=cu (Int×eY)) ag (λi m=>((i:Int),m)) (λm rest=>Z (wL al ag rest m)) (by omega) ?_ ?_ []).trans rfl;simp[wL];intro rec i m x rest a7 hd a;simp only[fB a7,iy hd,bT,f' a7 (show aa ag<2^62 by omega)];cases hp:pathOf al ag x.1 with
 |none=>
  have:No ((7:Int)=0)=U:=by decide
  simp only[this,bu];rw[a];simp[wL,hp]
 |some p =>rw[a];simp[wL,hp]
theorem Yf:∀(l:hI) (m:cu (Int×eY)),(∀a∈l,a∈ag)->(l.map (·.1)).Pairwise (·<·)->∀a∈l,fh gd a.1 (wL al ag l m)=pathOf al ag a.1
 | [],m,_,_,a,ha=>by simp at ha
 |b::l,m,hm,hp,a,ha=>by
  simp only[aq,aR]at hp;let ⟨f,t,_,_,d,_⟩:=h.path (hm b (by simp));have e:wL al ag (b::l) m=wL al ag l (wC gd b.1 (f.2::(b.2.2.2.1++[t.2])) m):=by show br _ _ _=_;rw[gY,d];rfl
  have g:∀(l:hI) (m:cu (Int×eY)) (k:Int),(∀a∈l,a.1≠k)->fh gd k (wL al ag l m)=fh gd k m:=by
   intro l
   induction l with
   |nil=>intro m k _;rfl
   |cons x l i=>
    intro m k hk;show fh gd k (wL al ag l _)=_;rw[i _ k (λa ha=>hk a (by simp[ha]))];cases c:pathOf al ag x.1 with
    |none=>simp only[c]
    |some p =>simp only[c];have:=rV k x.1 p m;rw[cc (λe=>hk x (by simp) e.symm)]at this;exact this
  rw[e];rcases aF.1 ha with rfl|ha
  rw[g l _ a.1 (λx c=>by have:=hp.1 x.1 (aN c);omega),rV,cr rfl,d];exact Yf l _ (λx c=>hm x (by simp[c])) hp.2 a ha
theorem D1{a:ct}(ha:a∈ag):fh gd a.1 (l8 al ag)=pathOf al ag a.1:=h.Yf ag [] (λ_ h=>h) (pq h.rX) a ha
theorem U6{d:Int}(hd:nY d):FA ((al,ag,fs),d)=Z (ite (d=0) ((0,0,0,[],0,0),U) <|match px ag (la d)with|some a=>(a,Y)|none=>((0,0,0,[],0,0),U)):=by
 unfold FA;let ⟨h1,h2⟩:=hd;by_cases b:d=0;simp[b];have c:No (d=-9223372036854775808)=U:=by simp only[sG];omega
 have e:ek (0-d)=-d:=by rw[fx];omega
 simp only[b,c,e,yP,h.Rq];have f:la d=max d (-d):=rfl;rw[f];cases px ag (max d (-d))with
 |none=>rfl
 |some a=>rfl
theorem Uh{d:Int}(hd:nY d):Bu ((al,ag,fs),d)=Z (Am ag d):=by
 unfold Bu Am;simp only[h.U6 hd];by_cases b:d=0;simp[b];simp only[b];cases px ag (la d)with
 |none=>simp
 |some a =>by_cases h1:0<d<;>simp[h1]
theorem bf9{a:kI}(ha:aa a.2.2.1<=1000000):CZ a=Z (qD a):=by unfold CZ qD;have:j6 24 [a.2.1] a.2.2.1=Z ([a.2.1]++a.2.2.1):=m9;simp only[this];rfl
theorem bM3{β:Type}(f:Int)(cs:cu eD)(r:∀c∈cs,(∀d∈c,nY d)/\aa c<2^62)(hl:aa cs<2^62)(K:dv β)(bad:dv β) :
  rounds (α:=Int) (β:=β) (λs e=>
    a8 (Z (No (e<(aa cs:Int)))) λk=>
    cond k (
     a8 (nth cs e) λb=>
     a8 (Z (aa (b):Int)) λl=>
     rounds (α:=Int) (β:=β) (λt g=>
     a8 (Z (No (g<l))) λm=>
     cond m (
      a8 (nth b g) λa=>
      a8 (Bu ((al,ag,fs),a)) λn=>
      a8 (Z (!decide (n=f))) λo=>
      cond o bad (
      a8 (Z (ek (g+(1:Int)))) λp=>
      t p)) (
      a8 (Z (ek (e+(1:Int)))) λa=>
      s a)) (0:Int)) K) (0:Int)=bif cs.all (λc=>c.all λd=>No (Am ag d=f))then K else bad:=by
 refine(mP (A:=Unit) cs (λi _=>(i:Int)) (λ_ rest=>cond (rest.all (λc=>c.all λd=>No (Am ag d=f))) K bad) (by omega) ?_ ?_ ()).trans rfl;simp;intro rec i u x rest a7 hd D;let ⟨v,w⟩:=r x (rl hd).2.2;simp only[fB a7,iy hd,bT,f' a7 hl];rw[D (),bH];refine(mP (A:=Unit) x (λi _=>(i:Int)) (λ_ B=>cond (B.all (λd=>No (Am ag d=f))) (cond (rest.all (λc=>c.all λd=>No (Am ag d=f))) K bad) bad) (by omega) ?_ ?_ ()).trans ?_;simp;intro C j u y B hj q z;have E:=v y (rl q).2.2;simp only[fB hj,iy q,bT,f' hj w,h.Uh E];rw[z (),bH];cases No (Am ag y=f)<;>simp;cases x.all (λd=>No (Am ag d=f))<;>simp
structure aG3(a:kI):Prop where
 outer:(∀d∈a.2.1,nY d)/\aa a.2.1<=1000000
 inner:∀c∈a.2.2.1,(∀d∈c,nY d)/\aa c<=1000000
 IK:aa a.2.2.1<=1000000
theorem Vo{l:cu kI}(hl:aa l<=1000000)(o:∀a∈l,aG3 a)(p:∀a∈l.tail,a.2.1≠[]):Fg ((al,ag,fs),l)=Z (oH ag (aa fs) Y l [] []):=by
 have hF:=λ(f:Int) (cs:cu eD) h1 h2 K bad=>h.bM3 (β:=eD×Bool) f cs h1 h2 K bad;refine(vF (A:=eD×eD) l (λi a=>(a.2,(i:Int),ql a.1)) (λa rest=>Z (oH ag (aa fs) (No (aa rest=aa l)) rest a.1 a.2)) (λi a=>aa a.2<=i) (by omega) ?_ ?_ ([],[]) (by simp)).trans (by simp);intro rec a B;have e:(aa (ql a.1):Int)=(aa a.1:Int):=by simp[ql]
 simp only[kj,bu,oH,e];intro rec i a x rest a7 B hd w;have q:=rl hd;have g:=o x q.2.2;have r:=h.bf9 g.IK;have k:∀c∈qD x,(∀d∈c,nY d)/\aa c<2^62:=λc hc=>by
  rcases aF.1 hc with rfl|hc
  exact⟨g.outer.1,by have:=g.outer.2;omega⟩;exact⟨(g.inner c hc).1,by have:=(g.inner c hc).2;omega⟩
 have m:aa (qD x)<2^62:=by have:=g.IK;simp only[qD,aC];omega
 simp only[fB a7,iy hd,bT,f' a7 (show aa l<2^62 by omega),r];have z:No (aa rest=aa l)=U:=by simp only[sG];omega
 have b:∀f:Int,j6 8 a.2 [f]=Z (a.2++[f]):=λf=>m9;by_cases C:i=0;subst C;have s:No (aa (x::rest)=aa l)=Y:=by simp only[aC,kA];omega
 simp only[ s];refine(hF 0 (qD x) k m _ _).trans ?_;simp only[b,bT,oH];have t:aa (a.2++[(0:Int)])<=0+1:=by rw[aX];simp only[fU];omega
 have:=w (a.1,a.2++[0]) t;rw[z]at this;rw[this];cases(qD x).all (λc=>c.all λd=>No (Am ag d=0))<;>simp;have s:No (aa (x::rest)=aa l)=U:=by simp only[aC,sG];omega
 have D:No ((0:Int)<(i:Int))=Y:=by simp only[kA];omega
 have u:x∈l.tail:=by
  have:x∈l.drop 1:=by
   have hm:x∈l.drop i:=by rw[hd];simp
   have:l.drop i=(l.drop 1).drop (i-1):=by rw[List.drop_drop,show 1+(i-1)=i by omega]
   rw[this]at hm;exact ax hm
  simpa using this
 obtain⟨d0,n,j⟩:∃d0 n,x.2.1=d0::n:=by
  cases hc:x.2.1 with
  |nil=>exact b8 hc (p x u)
  |cons d0 n=>exact⟨d0,n,rfl⟩
 have v:nth x.2.1 (0:Int)=Z d0:=by have:=zB x.2.1 0;rw[j]at this⊢;exact this
 have tX:=g.outer.1 d0 (by rw[j];simp);have E:x.2.1.headD 0=d0:=by rw[j];rfl
 simp only[D,s,v,bT,h.Uh tX,Jh,oH,E];by_cases hz:Am ag d0=0;simp[hz];simp only[hz];by_cases hs:Am ag d0∈a.1;simp[hs];have G:=OY _ _ hs;simp only[hs,G];refine(hF (Am ag d0) (qD x) k m _ _).trans ?_;simp only[b,bT];have:=w (a.1++[Am ag d0],a.2++[Am ag d0]) (by simp;omega);rw[z]at this;rw[this];cases(qD x).all (λc=>c.all λd=>No (Am ag d=Am ag d0))<;>simp
end fp
def w5(at':bs)(st:Bool×Bool)(a b:bs):Bool×Bool :=cond (n' a b at') (st.1,Y) <|cond ((a.2<=at'.2&&(at'.2<b.2&&0<l7 a b at'))||(b.2<=at'.2&&(at'.2<a.2&&l7 a b at'<0))) (!st.1,st.2) st
def vj(at':bs):bs->eY->Bool×Bool->Bool×Bool
 |_,[],st=>st
 |p,q::r,st=>vj at' q r (w5 at' st p q)
def y7(at':bs)(l:eY)(st:Bool×Bool):Bool×Bool:=match l with
 | []=>st
 |p::r=>vj at' p r st
def tn(m:cu (Int×eY))(at':bs):eD->Bool×Bool->Bool×Bool
 | [],st=>st
 |d::r,st=>tn m at' r (y7 at' ((fh gd (la d) m).getD []) st)
def nF(m:cu (Int×eY))(od:eD)(at':bs):Bool:=cond (tn m at' od (U,U)).1 (!(tn m at' od (U,U)).2) U
def bZ3{β:Type}(at':bs)(p0:bs)(l:eY)(hl:aa l<=1000000)(K:Bool×Bool->dv β)(st:Bool×Bool) :
  rounds (α:=Int×Bool×Bool) (β:=β) (λf d=>
   cond (d.1<(aa (p0::l):Int)) (
   a8 (nth (p0::l) (ek (d.1-(1:Int)))) λg=>
   a8 (nth (p0::l) d.1) λh=>
   a8 (qV (g,h,at')) λj=>
   cond j (
    f (ek (d.1+(1:Int)),d.2.1,Y)) (
    cond (g.2<=at'.2) (
    cond (at'.2<h.2) (
     a8 (qR (g,h,at')) λk=>
     cond ((0:Int)<k) (
     f (ek (d.1+(1:Int)),!(d.2.1),d.2.2)) (
     cond (h.2<=at'.2) (
      cond (at'.2<g.2) (
      a8 (qR (g,h,at')) λm=>
      cond (m<(0:Int)) (
       f (ek (d.1+(1:Int)),!(d.2.1),d.2.2)) (
       f (ek (d.1+(1:Int)),d.2.1,d.2.2))) (
      f (ek (d.1+(1:Int)),d.2.1,d.2.2))) (
      f (ek (d.1+(1:Int)),d.2.1,d.2.2)))) (
     cond (h.2<=at'.2) (
     cond (at'.2<g.2) (
      a8 (qR (g,h,at')) λo=>
      cond (o<(0:Int)) (
      f (ek (d.1+(1:Int)),!(d.2.1),d.2.2)) (
      f (ek (d.1+(1:Int)),d.2.1,d.2.2))) (
      f (ek (d.1+(1:Int)),d.2.1,d.2.2))) (
     f (ek (d.1+(1:Int)),d.2.1,d.2.2)))) (
    cond (h.2<=at'.2) (
     cond (at'.2<g.2) (
     a8 (qR (g,h,at')) λp=>
     cond (p<(0:Int)) (
      f (ek (d.1+(1:Int)),!(d.2.1),d.2.2)) (
      f (ek (d.1+(1:Int)),d.2.1,d.2.2))) (
     f (ek (d.1+(1:Int)),d.2.1,d.2.2))) (
     f (ek (d.1+(1:Int)),d.2.1,d.2.2))))) (
   K d.2)) ((1:Int),st)=K (vj at' p0 l st):=by
 refine(vF (A:=bs×Bool×Bool) l (λi a=>(((i+1:Nat):Int),a.2)) (λa rest=>K (vj at' a.1 rest a.2)) ((p0::l)[·]?=Z ·.1) (by omega) ?_ ?_ (p0,st) rfl)
 grind[vj]
 intro rec i a x rest a7 s hd t;have r:(p0::l)[i+1]?=Z x:=by rw[aI,<-zB];exact iy hd
 have e:(aa (p0::l):Int)=((aa l+1:Nat):Int):=by simp
 have u:ek (((i+1:Nat):Int)-1)=(i:Int):=by grind[fx]
 have v:ek (((i+1:Nat):Int)+1)=((i+1+1:Nat):Int):=f' (n:=2000000) (by omega);have f1:∀a b c:bs,qV (a,b,c)=Z (n' a b c):=λa b c=>FH a b c;have f2:∀a b c:bs,qR (a,b,c)=Z (l7 a b c):=λa b c=>M8 a b c;simp only[e,fB (show i+1<aa l+1 by omega),b6,u,zB,s,r,bT,f1,f2,v];have w:=λq=>t (x,q) r
 grind[vj,w5,n',l7,decide_true,decide_false]
def JG(m:cu (Int×eY))(od:eD):Prop:=aa od<=1000000/\∀d∈od,nY d/\∃p0 l,fh gd (la d) m=Z (p0::l)/\aa l<=1000000
def bL7{m:cu (Int×eY)}{od:eD}(h:JG m od)(at':bs):AK (m,od,at')=Z (nF m od at'):=by
 have hF:=λ(p0:bs) (l:eY) hl K st=>bZ3 (β:=Bool) at' p0 l hl K st;unfold AK;simp only[bT];refine(mP (A:=Bool×Bool) od (λi a=>((i:Int),a.2,a.1)) (λa rest=>Z (cond (tn m at' rest a).1 (!(tn m at' rest a).2) U)) (by have:=h.1;omega) ?_ ?_ (U,U)).trans rfl
 grind[tn]
 intro rec i a d rest a7 hd k;have hm:d∈od:=by grind[ax]
 let ⟨⟨d1,d2⟩,p0,l,c,e⟩:=h.2 d hm;have f:ek (0-d)=-d:=by grind[fx]
 have g:fh (λ(a b:Int)=>No (a=b)) (max d (-d)) m=Z (p0::l):=c;have j:oD (Z (p0::l)) (W:dv eY)=Z (p0::l):=rfl;simp only[fB a7,b6,iy hd,bT,f,yP,g,j,f' a7 (show aa od<2^62 by have:=h.1;omega)];refine(hF p0 l e (λx=>rec (((i+1:Nat):Int),x.2,x.1)) a).trans ?_
 grind[vj,tn,y7]
def uA(p q:bs):Int:=p.1*q.2-q.1*p.2
def oZ:bs->eY->Int
 |_,[]=>0
 |p,q::r=>uA p q+oZ q r
def vI{a b A:Int}(h1:-A<=a:=by omega)(h2:a<=A:=by omega)(f:-A<=b:=by omega)(g:b<=A:=by omega):-(A*A)<=a*b/\a*b<=A*A:=by
 have d:0<=A:=by omega
 constructor;have h:a*b+A*A=(A+a)*b+A*(A-b):=by grind
 rcases iL 0 b with c|c
 have:=aH (show 0<=A+a by omega) c;have:=aH d (show 0<=A-b by omega);omega;have e:a*b+A*A=(A-a)*(-b)+A*(A+b):=by grind
 have:=aH (show 0<=A-a by omega) (show 0<=-b by omega);have:=aH d (show 0<=A+b by omega);omega;rcases iL 0 b with c|c
 have e:A*A-a*b=(A-a)*b+A*(A-b):=by grind
 have:=aH (show 0<=A-a by omega) c;have:=aH d (show 0<=A-b by omega);omega;have e:A*A-a*b=(A+a)*(-b)+A*(A+b):=by grind
 have:=aH (show 0<=A+a by omega) (show 0<=-b by omega);have:=aH d (show 0<=A+b by omega);omega
def ub(p:bs):Prop:=-2097152<=p.1/\p.1<=2097152/\-2097152<=p.2/\p.2<=2097152
def Nd:∀(l:eY) (p:bs),ub p->(∀q∈l,ub q)->-(8796093022208*(aa l:Int))<=oZ p l/\oZ p l<=8796093022208*(aa l:Int)
 | [],_,_,_=>by simp[oZ]
 |q::r,p,hp,hl=>by have a:=hl q (by simp);have c:=Nd r q a (λx b=>hl x (by simp[b]));let ⟨d,a2⟩:=vI (A:=2097152) hp.1 hp.2.1 a.2.2.1 a.2.2.2;let ⟨e,f⟩:=vI (A:=2097152) a.1 a.2.1 hp.2.2.1 hp.2.2.2;simp only[oZ,uA,aC];omega
def bZ6{β:Type}(p0:bs)(l:eY)(hl:aa l<=1000)(o:ub p0)(hc:∀q∈l,ub q)(K:Int->dv β) :
  rounds (α:=Int×Int) (β:=β) (λh b=>
    cond (b.2<(aa l:Int)) (
     a8 (nth (p0::l) b.2) λc=>
     a8 (nth (p0::l) (ek (b.2+(1:Int)))) λd=>
     a8 (nth (p0::l) (ek (b.2+(1:Int)))) λe=>
     a8 (nth (p0::l) b.2) λf=>
     h (ek (b.1+ek (ek (c.1*d.2)-ek (e.1*f.2))),ek (b.2+(1:Int)))) (
     K b.1)) ((0:Int),(0:Int))=K (oZ p0 l):=by
 refine(vF (A:=bs×Int) l (λi a=>(a.2,(i:Int))) (λa rest=>K (a.2+oZ a.1 rest)) (λi a=>(p0::l)[i]?=Z a.1/\ub a.1/\-(8796093022208*(i:Int))<=a.2/\a.2<=8796093022208*(i:Int)) (by omega) ?_ ?_ (p0,0) ⟨rfl,o,by simp,by simp⟩).trans (by simp)
 grind[oZ]
 intro rec i a x rest a7 j hd p;let ⟨j,hp,g1,g2⟩:=j;have m:(p0::l)[i+1]?=Z x:=by rw[aI,<-zB];exact iy hd
 have k:x∈l:=by grind
 have g:=hc x k;have r:ek ((i:Int)+1)=((i+1:Nat):Int):=f' (n:=2000000) (by omega);simp only[fB a7,b6,r,zB,j,m,bT];let ⟨z,a2⟩:=vI (A:=2097152) hp.1 hp.2.1 g.2.2.1 g.2.2.2;let ⟨B,C⟩:=vI (A:=2097152) g.1 g.2.1 hp.2.2.1 hp.2.2.2;have s:ek (a.1.1*x.2)=a.1.1*x.2:=fx;have t:ek (x.1*a.1.2)=x.1*a.1.2:=fx;have u:ek (a.1.1*x.2-x.1*a.1.2)=uA a.1 x:=fx;have v:uA a.1 x=a.1.1*x.2-x.1*a.1.2:=rfl;have w:ek (a.2+uA a.1 x)=a.2+uA a.1 x:=fx;rw[s,t,u,w];have:=p (x,a.2+uA a.1 x) ⟨m,g,by simp only;omega,by simp only;omega⟩
 grind[oZ]
def vi(al:gp)(ag:hI)(d:Int):Int:=match pathOf al ag (la d)with
 |some (p::l)=>ite (d<0) (-(oZ p l)) <|oZ p l
 |_=>0
def l5(al:gp)(ag:hI):eD->Int
 | []=>0
 |d::r=>vi al ag d+l5 al ag r
namespace fp
variable {al:gp} {ag:hI} {fs:eD} (h:fp al ag fs)
include h
theorem It{d:Int}(hd:∃a∈ag,a.1=la d):∃p0 l,pathOf al ag (la d)=Z (p0::l)/\aa l<=65/\ub p0/\∀q∈l,ub q:=by
 let ⟨a,ha,hid⟩:=hd;let ⟨f,t,_,_,hp,_⟩:=h.path ha;have hv:aa a.2.2.2.1<=64:=by
  have:=h.AD
  grind[wT,aj]
 have c:=h.D0 ha hp;have b:∀p:bs,yU p=Y->ub p:=λp hp=>by simp only[yU,ab,kA]at hp;exact⟨by omega,by omega,by omega,by omega⟩
 grind
theorem Uj{od:eD}(hc:aa od<=512)(hm:∀d∈od,nY d/\d≠0/\∃a∈ag,a.1=la d):Bs ((al,ag,fs),od)=Z (l5 al ag od):=by
 have hF:=λ(p0:bs) (l:eY) hl e hc K=>bZ6 (β:=Int) p0 l hl e hc K;unfold Bs;have hlen:No ((512:Int)<(aa od:Int))=U:=by grind
 simp only[bT,hlen,bu];refine(vF (A:=Int) od (λi a=>(a,(i:Int))) (λa rest=>Z (a+l5 al ag rest)) (λi a=>-(571746046443520*(i:Int))<=a/\a<=571746046443520*(i:Int)) (by omega) ?_ ?_ 0 ⟨by simp,by simp⟩).trans (by simp)
 grind[l5]
 intro rec i a d rest a7 o hd p;have f:d∈od:=by grind[ax]
 let ⟨k,e,j,b,hid⟩:=hm d f;let ⟨d1,d2⟩:=k;have c:px ag (la d)=Z j:=by rw[<-hid];exact h.zD b
 let ⟨p0,l,hp,hl,c0,cl⟩:=h.It ⟨j,b,hid⟩;have m:ek (0-d)=-d:=by grind[fx]
 have g:pathOf al ag (max d (-d))=Z (p0::l):=hp;simp only[fB a7,b6,iy hd,bT,h.U6 ⟨d1,d2⟩,e,l4,c,aw,bu,m,yP,h.Hz,g,l6];have n:ek ((aa (p0::l):Int)-1)=(aa l:Int):=by grind[fx,aC]
 simp only[n];refine(hF p0 l (by omega) c0 cl (λA=>cond (d<0) (rec (ek (a+ek (0-A)),ek ((i:Int)+1))) <|rec (ek (a+A),ek ((i:Int)+1)))).trans ?_;let ⟨q,r⟩:=Nd l p0 c0 cl
 grind[oZ,f',fx,decide_true,l5,vi,decide_false]
end fp
def xd(L:cu kI)(b:Nat):Int:=((L[b]?).map (·.1)).getD 0
def rz(m:cu (Int×eY))(at':bs)(L:cu kI):cu kI->Nat->Nat->Nat
 | [],_,b=>b
 |x::r,i,b=>rz m at' L r (i+1) (cond ((b=0||x.1<xd L b)&&nF m x.2.1 at') i b)
def oI(m:cu (Int×eY))(L:cu kI)(at':bs):Nat:=rz m at' L L.tail 1 0
def N9(m:cu (Int×eY))(at':bs)(L:cu kI):∀(r:cu kI) (i b n:Nat),i+aa r<=n->b<n->rz m at' L r i b<n
 | [],_,b,n,_,a=>a
 |x::r,i,b,n,a7,a=>by simp only[rz];simp only[aC]at a7;refine N9 m at' L r (i+1) _ n (by omega) ?_;cases(No (b=0)||No (x.1<xd L b))&&nF m x.2.1 at';exact a;simp only[b6];omega
def an3{β:Type}(m:cu (Int×eY))(at':bs)(c:kI)(l:cu kI)(hl:aa l<=1000000)(hp:∀a∈l,JG m a.2.1)(K:Int×Int->dv β) :
  rounds (α:=Int×Int) (β:=β) (λd b=>
    cond (b.1<((aa (c::l):Nat):Int)) (
    cond (b.2=(0:Int)) (
     a8 ((cond (0<=b.1&&b.1<((aa (c::l):Nat):Int)) (Z ()) W)) λ_=>
     a8 (((c::l)[(b.1).toNat]?).map (·.2.1)) λf=>
     a8 (AK (m,f,at')) λg=>
     cond g (
     d (ek (b.1+(1:Int)),b.1)) (
     d (ek (b.1+(1:Int)),b.2))) (
     a8 ((cond (0<=b.1&&b.1<((aa (c::l):Nat):Int)) (Z ()) W)) λ_=>
     a8 (((c::l)[(b.1).toNat]?).map (·.1)) λf=>
     a8 ((cond (0<=b.2&&b.2<((aa (c::l):Nat):Int)) (Z ()) W)) λ_=>
     a8 (((c::l)[(b.2).toNat]?).map (·.1)) λg=>
     cond (f<g) (
     a8 ((cond (0<=b.1&&b.1<((aa (c::l):Nat):Int)) (Z ()) W)) λ_=>
     a8 (((c::l)[(b.1).toNat]?).map (·.2.1)) λj=>
     a8 (AK (m,j,at')) λk=>
     cond k (
      d (ek (b.1+(1:Int)),b.1)) (
      d (ek (b.1+(1:Int)),b.2))) (
     d (ek (b.1+(1:Int)),b.2)))) (
    K b)) ((1:Int),(0:Int))=K (((aa l+1:Nat):Int),((oI m (c::l) at':Nat):Int)):=by
 have e:((aa (c::l):Nat):Int)=((aa l+1:Nat):Int):=by simp
 refine(vF (A:=Nat) l (λi a=>(((i+1:Nat):Int),(a:Int))) (λa rest=>K (((aa l+1:Nat):Int),((rz m at' (c::l) rest (aa l-aa rest+1) a:Nat):Int))) (λi a=>a<i+1) (by omega) ?_ ?_ 0 (by omega)).trans ?_;intro rec a w;simp only[e,kj,bu,rz];intro rec i a x rest a7 w hd s;have o:aa l-aa (x::rest)+1=i+1:=by have:=Ar aa hd;simp only[iM]at this⊢;omega
 have p:aa l-aa rest+1=i+1+1:=by simp only[aC]at o;have:=Ar aa hd;simp only[iM,aC]at this;omega
 have z:(c::l)[i+1]?=Z x:=by rw[aI,<-zB];exact iy hd
 have q:x∈l:=by
  have:x∈l.drop i:=by rw[hd];simp
  exact ax this
 have ha:a<aa (c::l):=by simp only[aC];omega
 have t:=af ha;have B:ek (((i+1:Nat):Int)+1)=((i+1+1:Nat):Int):=f' (n:=2000000) (by omega);have G:(No (0<=((i+1:Nat):Int))&&No (((i+1:Nat):Int)<((aa l+1:Nat):Int)))=Y:=by simp;omega
 have C:(No (0<=(a:Int))&&No ((a:Int)<((aa l+1:Nat):Int)))=Y:=by simp;omega
 have D:No ((a:Int)=0)=No (a=0):=by by_cases h:a=0<;>simp
 have r:=bL7 (hp x q) at';simp only[e,fB (show i+1<aa l+1 by omega),B,C,D,aO,z,t,ai,bT,r];have u:=s (i+1) (by omega);have v:=s a (by omega);simp only[p]at u v;rw[u,v,o];have E:xd (c::l) a=((c::l)[a]'ha).1:=by simp[xd,t]
 simp only[rz,E];cases h1:No (a=0)<;>cases h2:No (x.1<((c::l)[a]'ha).1)<;>cases H:nF m x.2.1 at'<;>rfl;simp only[Nat.sub_self,oI,lQ]
abbrev Ct:=Int×eD×Unit×Unit
def oY(L:cu kI)(k:Nat)(c:eD):cu kI:=match L[k]? with
 |some x=>L.set k (x.1,x.2.1,x.2.2.1++[c],x.2.2.2)
 |none=>L
def p_(L:cu kI)(k:Nat)(n:Int):cu kI:=match L[k]? with
 |some x=>L.set k (x.1,x.2.1,x.2.2.1,x.2.2.2++[n])
 |none=>L
structure vr(m:List (Int×List bs))(L:List kI)(n i j:Nat):Prop where
 len:aa L=n+1
 out:∀a∈L.tail,JG m a.2.1
 z8:∀a∈L,aa a.2.2.1<=i
 zC:∀a∈L,aa a.2.2.2<=j
def IC{α:Type}{L:cu α}{k:Nat}{y a:α}(h:a∈(L.set k y).tail):a∈L.tail\/(a=y/\1<=k/\k<aa L):=by
 cases L;simp at h;rename_i x l;cases k;exact .inl (by simpa using h);rename_i k;simp only[kP]at h⊢;by_cases hk:k<aa l;rcases cJ h with h|h
 exact .inl h;exact .inr ⟨h,by omega,by simp;omega⟩;rw[List.set_eq_of_length_le (by omega)]at h;exact .inl h
def Jt{α:Type}{L:cu α}{k:Nat}{x:α}(h:L[k]?=Z x)(hk:1<=k):x∈L.tail:=by cases L;simp at h;cases k;omega;exact aG h
theorem vr.oY{m:cu (Int×eY)}{L:cu kI}{n i j k:Nat}(h:vr m L n i j)(c:eD):vr m (oY L k c) n (i+1) j:=by
 unfold Go.Ab.oY;cases d:L[k]? with
 |none=>exact⟨h.len,h.out,λa ha=>by have:=h.z8 a ha;omega,h.zC⟩
 |some x=>
  have b:=aG d;refine⟨by simp[h.len],λa ha=>?_,λa ha=>?_,λa ha=>?_⟩;rcases IC ha with ha|⟨rfl,hk,_⟩
  exact h.out a ha;exact h.out x (Jt d hk);rcases cJ ha with ha|rfl
  have:=h.z8 a ha;omega;have:=h.z8 x b;simp;omega;rcases cJ ha with ha|rfl
  exact h.zC a ha;exact h.zC x b
theorem vr.p_{m:cu (Int×eY)}{L:cu kI}{n i j k:Nat}(h:vr m L n i j)(c:Int):vr m (p_ L k c) n i (j+1):=by
 unfold Go.Ab.p_;cases d:L[k]? with
 |none=>exact⟨h.len,h.out,h.z8,λa ha=>by have:=h.zC a ha;omega⟩
 |some x=>
  have b:=aG d;refine⟨by simp[h.len],λa ha=>?_,λa ha=>?_,λa ha=>?_⟩;rcases IC ha with ha|⟨rfl,hk,_⟩
  exact h.out a ha;exact h.out x (Jt d hk);rcases cJ ha with ha|rfl
  exact h.z8 a ha;exact h.z8 x b;rcases cJ ha with ha|rfl
  have:=h.zC a ha;omega;have:=h.zC x b;simp;omega
def vr.cons{m:cu (Int×eY)}{L:cu kI}{n i j:Nat}(h:vr m L n i j):∃a l,L=a::l:=by cases L;have:=h.len;simp at this;rename_i x l;exact⟨x,l,rfl⟩
def vr.Vq{m:cu (Int×eY)}{L:cu kI}{n i j:Nat}(h:vr m L n i j)(p:bs):oI m L p<aa L:=by obtain⟨a,l,rfl⟩:=h.cons;exact N9 m p _ l 1 0 _ (by simp;omega) (by simp)
def rq(m:cu (Int×eY))(c:eD):bs:=((((fh gd (la (c.headD 0)) m).getD [])[0]?).getD (0,0))
def sw(m:cu (Int×eY)):cu eD->cu kI->cu kI
 | [],L=>L
 |c::r,L=>sw m r (oY L (oI m L (rq m c)) c)
def ru(al:gp)(ag:hI)(m:cu (Int×eY)):gp->cu kI->cu kI
 | [],L=>L
 |n::r,L=>ru al ag m r (cond (na ag n.1=0) (p_ L (oI m L n.2) n.1) L)
def AW(al:gp)(ag:hI)(cs:cu eD):cu kI:=(0,[],[],[])::(cs.filter λc=>No (0<l5 al ag c)).map λc=>(l5 al ag c,c,[],[])
def sL(al:gp)(ag:hI)(m:cu (Int×eY))(cs:cu eD):cu kI :=ru al ag m al (sw m (cs.filter λc=>!decide (0<l5 al ag c)) (AW al ag cs))
structure Lh(ag:List ct)(cs:List (List Int)):Prop where
 len:aa cs<=512
 od:∀c∈cs,c≠[]/\aa c<=512/\∀d∈c,nY d/\d≠0/\∃a∈ag,a.1=la d
namespace fp
variable {al:gp} {ag:hI} {fs:eD} (h:fp al ag fs)
include h
theorem Vf{d:Int}(hd:∃a∈ag,a.1=la d):∃p0 l,fh gd (la d) (l8 al ag)=Z (p0::l)/\aa l<=65:=by let ⟨p0,l,hp,hl,_,_⟩:=h.It hd;let ⟨a,ha,hid⟩:=hd;exact⟨p0,l,by rw[<-hid,h.D1 ha,hid];exact hp,hl⟩
theorem bG2{cs:cu eD}(hc:Lh ag cs){c:eD}(hm:c∈cs):JG (l8 al ag) c:=by let ⟨_,h1,h2⟩:=hc.od c hm;refine⟨by omega,λd hd=>?_⟩;let ⟨g1,_,g3⟩:=h2 d hd;let ⟨p0,l,hl,a⟩:=h.Vf g3;exact⟨g1,p0,l,hl,by omega⟩
theorem Vg{cs:cu eD}(hc:Lh ag cs):Be ((al,ag,fs),cs,l8 al ag)=Z (sL al ag (l8 al ag) cs):=by
 have H:aa al<=256:=by have:=h.AD;simp only[wT,ab,kA]at this;exact this.1
 unfold Be;refine(vF (A:=cu eD×cu Ct) cs (λi a=>(a.1,(i:Int),U,a.2))
  (λa rest=>Z (ru al ag (l8 al ag) al (sw (l8 al ag) (a.1++rest.filter λc=>!decide (0<l5 al ag c)) ((a.2.map λx=>(x.1,x.2.1,[],[]))++(rest.filter λc=>No (0<l5 al ag c)).map λc=>(l5 al ag c,c,[],[])))))
  (λi a=>aa a.1<=i/\aa a.2<=i+1/\a.2≠[]/\(∀c∈a.1,c∈cs)/\∀x∈a.2.tail,x.2.1∈cs) (by have:=hc.len;omega) ?_ ?_ ([],[(0,[],(),())]) ⟨by simp,by simp,by simp,by simp,by simp⟩).trans ?_
 intro rec a I;let ⟨i1,i2,i3,i4,i5⟩:=I;have hlen:=hc.len;have v:zs (λx:Ct=>((x.1,x.2.1,([]:cu eD),([]:eD)):kI)) a.2=Z (a.2.map λx=>(x.1,x.2.1,[],[])):=by
  unfold zs;have:No (16*aa a.2<=tY)=Y:=by simp only[kA,tY];omega
  rw[this];rfl
 simp only[kj,v,jI,cg,dm];have hA:vr (l8 al ag) (a.2.map λx=>((x.1,x.2.1,[],[]):kI)) (aa a.2-1) 0 0:=by
  obtain⟨y,l,hl⟩:∃y l,a.2=y::l:=by
   cases J:a.2 with
   |nil=>exact b8 J i3
   |cons y l=>exact⟨y,l,rfl⟩
  rw[hl]at i5⊢;refine⟨by simp,λb w=>?_,λb w=>?_,λb w=>?_⟩;obtain⟨x,f,rfl⟩:=aM.1 w;exact h.bG2 hc (i5 x f);obtain⟨x,f,rfl⟩:=aM.1 w;simp;obtain⟨x,f,rfl⟩:=aM.1 w;simp
 generalize hL0:(a.2.map λx=>((x.1,x.2.1,[],[]):kI))=pL at *;have hnl:aa a.2-1<=1000000:=by omega
 generalize aa a.2-1=S at *;generalize hR:a.1=R at *;refine(vF (A:=cu kI) R (λi L=>((i:Int),L)) (λL rest=>Z (ru al ag (l8 al ag) al (sw (l8 al ag) rest L))) (λi L=>vr (l8 al ag) L S i 0) (by omega) ?_ ?_ pL hA);intro rec L g;simp only[kj,sw];refine(vF (A:=cu kI) al (λi L=>((i:Int),L)) (λL rest=>Z (ru al ag (l8 al ag) rest L)) (λi L=>vr (l8 al ag) L S (aa R) i) (by omega) ?_ ?_ L g);intro rec L g;simp only[kj,bu,ru];intro rec j L n rest hj g hd t;have z:ek ((j:Int)+1)=((j+1:Nat):Int):=f' (n:=2000000) (by omega);have B:=MR al ag fs n.1 (by have:=h.pA;omega);have e3:No (((na ag n.1:Nat):Int)=0)=No (na ag n.1=0):=by by_cases hz:na ag n.1=0<;>simp
 simp only[fB hj,iy hd,bT,B,e3,z,ru];cases hz:No (na ag n.1=0)with
 |false =>exact t L ⟨g.len,g.out,g.z8,λx f=>by have:=g.zC x f;omega⟩
 |true=>
  let ⟨s,l,o⟩:=g.cons;have u:aa l<=1000000:=by have:=g.len;rw[o]at this;simp at this;omega
  have m:=g.Vq n.2;have p:=t _ (g.p_ (k:=oI (l8 al ag) L n.2) n.1);have C:=g.zC;have q:=g.out;subst o;refine(an3 (β:=cu kI) (l8 al ag) n.2 s l u q _).trans ?_;generalize oI (l8 al ag) (s::l) n.2=k at *;have hk:=af m;have K:=C _ (aA m);generalize(s::l)[k]'m=y at *;have M:(No (0<=(k:Int))&&No ((k:Int)<((aa (s::l):Nat):Int)))=Y:=by simp only[ab,kA];omega
  have e:j6 8 y.2.2.2 [n.1]=Z (y.2.2.2++[n.1]):=m9;simp only[aO,hk,ai,bT,M,uM,e,qI];simp only[p_,hk]at p⊢;exact p
 intro rec j L c rest hj g hd t;have r:c∈cs:=by
  refine i4 c ?_;have:c∈R.drop j:=by rw[hd];simp
  exact ax this
 let ⟨c1,c2,N⟩:=hc.od c r;obtain⟨d,eS,rfl⟩:∃d eS,c=d::eS:=by cases c;exact b8 rfl c1;rename_i d eS;exact⟨d,eS,rfl⟩
 let ⟨⟨d1,d2⟩,_,g3⟩:=N d (by simp);let ⟨p0,pl,D,_⟩:=h.Vf g3;have e1:ek (0-d)=-d:=by rw[fx];omega
 have z:ek ((j:Int)+1)=((j+1:Nat):Int):=f' (n:=2000000) (by omega);have e3:(No (0<=(j:Int))&&No ((j:Int)<((aa R:Nat):Int)))=Y:=by simp only[ab,kA];omega
 have O:R[j]?=Z (d::eS):=by rw[<-zB];exact iy hd
 have n0:nth (d::eS) (0:Int)=Z d:=by have:=zB (d::eS) 0;exact this
 have n1:nth (p0::pl) (0:Int)=Z p0:=by have:=zB (p0::pl) 0;exact this
 have E:fh (λ(a b:Int)=>No (a=b)) (max d (-d)) (l8 al ag)=Z (p0::pl):=D;have e5:oD (Z (p0::pl)) (W:dv eY)=Z (p0::pl):=rfl;have P:rq (l8 al ag) (d::eS)=p0:=by simp[rq,D]
 simp only[fB hj,bT,aO,O,ai,n0,e1,yP,E,z,sw,P];let ⟨s,l,o⟩:=g.cons;have u:aa l<=1000000:=by have:=g.len;rw[o]at this;simp at this;omega
 have m:=g.Vq p0;have p:=t _ (g.oY (k:=oI (l8 al ag) L p0) (d::eS));have G:=g.z8;have q:=g.out;subst o;refine(an3 (β:=cu kI) (l8 al ag) p0 s l u q _).trans ?_;generalize oI (l8 al ag) (s::l) p0=k at *;have hk:=af m;have K:=G _ (aA m);generalize(s::l)[k]'m=y at *;have M:(No (0<=(k:Int))&&No ((k:Int)<((aa (s::l):Nat):Int)))=Y:=by simp only[ab,kA];omega
 have e:j6 24 y.2.2.1 [d::eS]=Z (y.2.2.1++[d::eS]):=m9;simp only[aO,hk,ai,bT,M,uM,e,qI];simp only[oY,hk]at p⊢;exact p;intro rec i a c rest a7 I hd t;let ⟨i1,i2,i3,i4,i5⟩:=I;have r:c∈cs:=by
  have:c∈cs.drop i:=by rw[hd];simp
  exact ax this
 let ⟨c1,c2,N⟩:=hc.od c r;have Q:=h.Uj c2 N;have z:ek ((i:Int)+1)=((i+1:Nat):Int):=f' (n:=2000000) (by have:=hc.len;omega);have hlen:=hc.len;simp only[fB a7,iy hd,bT,Q,z];by_cases ht:0<l5 al ag c;have e:j6 80 a.2 [(l5 al ag c,c,(),())]=Z (a.2++[(l5 al ag c,c,(),())]):=m9;simp only[ e,bT];have:=t (a.1,a.2++[(l5 al ag c,c,(),())]) ⟨by show aa a.1<=i+1;omega,by simp;omega,by simp,i4,λx f=>?_⟩;rw[this];simp[ht];obtain⟨y,l,hl⟩:∃y l,a.2=y::l:=by
  cases J:a.2 with
  |nil=>exact b8 J i3
  |cons y l=>exact⟨y,l,rfl⟩
 simp only[hl,lQ]at f i5;rcases aV.1 f with f|f
 exact i5 x f;simp at f;subst f;exact r;have e:j6 24 a.1 [c]=Z (a.1++[c]):=m9;simp only[ e,bT];have:=t (a.1++[c],a.2) ⟨by simp;omega,by show aa a.2<=i+1+1;omega,i3,λx f=>?_,i5⟩;rw[this];simp[ht];rcases aV.1 f with f|f
 exact i4 x f;simp at f;subst f;exact r;simp[sL,AW]
end fp
def aG0(D S:eD):pV D S<=aa D:=bJ _ _
def ND{gA:Int->Int}{D:eD}(b:∀d∈D,gA d∈D):∀(n:Nat) (S:eD) (d:Int) (c:eD),d∈D->(∀x∈c,x∈D) ->
  (∀x∈(rn gA n S d c).1,x∈D)/\(rn gA n S d c).1.length+pV D (rn gA n S d c).2<=aa c+pV D S/\aa c<=(rn gA n S d c).1.length
 | 0,S,d,c,_,hc=>by simp only[rn];exact⟨hc,by omega,by omega⟩
 |n+1,S,d,c,hd,hc=>by
  unfold rn;split;exact⟨hc,aB _,aB _⟩;rename_i hs;let ⟨h1,h2,e⟩:=ND b n (S++[d]) (gA d) (c++[d]) (b d hd) (λx a=>by
   rcases aV.1 a with a|a
   exact hc x a;simp at a;subst a;exact hd)
  have:=N' hd hs;simp only[aX,fU]at h2 e;exact⟨h1,by omega,by omega⟩
def NH{gA:Int->Int}{D:eD}(a:∀d∈D,gA d∈D):∀(b S:eD) (acc:cu eD),(∀d∈b,d∈D)->(∀c∈acc,c≠[]/\aa c<=aa D/\∀d∈c,d∈D) ->
  aa (qW gA D b S acc)<=aa acc+aa b/\∀c∈qW gA D b S acc,c≠[]/\aa c<=aa D/\∀d∈c,d∈D
 | [],S,acc,_,ha=>by simp only[qW];exact⟨by simp,ha⟩
 |d::b,S,acc,hd,ha=>by
  unfold qW;split;let ⟨h1,h2⟩:=NH a b S acc (λx f=>hd x (by simp[f])) ha;exact⟨by simp only[aC];omega,h2⟩;rename_i hs;have e:=hd d (by simp);let ⟨g1,g2,g3⟩:=ND a (pV D S+1) S d [] e (by simp);have g:(rn gA (pV D S+1) S d []).1≠[]:=by unfold rn;rw[cc hs];have:=(ND a (pV D S) (S++[d]) (gA d) ([]++[d]) (a d e) (by simpa using e)).2.2;intro he;rw[he]at this;simp at this
  let ⟨h1,h2⟩:=NH a b (rn gA (pV D S+1) S d []).2 (acc++[(rn gA (pV D S+1) S d []).1]) (λx f=>hd x (by simp[f])) (λc hc=>by
   rcases aV.1 hc with hc|hc
   exact ha c hc;simp at hc;subst hc;have:=aG0 D S;simp only[dA]at g2;exact⟨g,by omega,g1⟩)
  simp only[aX,fU]at h1;exact⟨by simp only[aC];omega,h2⟩
namespace fp
variable {al:gp} {ag:hI} {fs:eD} (h:fp al ag fs)
include h
theorem wK:Lh ag (l9 al ag):=by
 have e:=h.MJ;let ⟨h1,h2⟩:=NH (gA:=ki al ag) (D:=ny al ag) (λd hd=>h.qK hd) ((ny al ag).mergeSort λa b=>No (a<=b)) [] [] (λd hd=>(cX _ _).mem_iff.1 hd) (by simp);have hl:aa ((ny al ag).mergeSort λa b=>No (a<=b))=aa (ny al ag):=(cX _ _).length_eq;refine⟨by show aa (qW ..)<=_;simp only[dA]at h1;omega,λc hc=>?_⟩;let ⟨g1,g2,g3⟩:=h2 c hc;refine⟨g1,by omega,λd hd=>?_⟩;let ⟨a,ha,he⟩:=h.uP.1 (g3 d hd);have f:=h.num ha;refine⟨?_,?_,a,ha,?_⟩;unfold nY;rcases he with rfl|rfl<;>omega
 rcases he with rfl|rfl<;>omega
 unfold la;rcases he with rfl|rfl<;>omega
end fp
structure rh(L:List kI)(i:Nat):Prop where
 all:∀a∈L,((∀d∈a.2.1,nY d)/\aa a.2.1<=1000000)/\(∀c∈a.2.2.1,(∀d∈c,nY d)/\aa c<=1000000)/\aa a.2.2.1<=i
 ne:∀a∈L.tail,a.2.1≠[]
theorem rh.oY{L:cu kI}{i k:Nat}(h:rh L i){c:eD}(hc:(∀d∈c,nY d)/\aa c<=1000000):rh (oY L k c) (i+1):=by
 unfold Go.Ab.oY;cases f:L[k]? with
 |none=>exact⟨λa ha=>by let ⟨h1,h2,g⟩:=h.all a ha;exact⟨h1,h2,by omega⟩,h.ne⟩
 |some x=>
  have e:=aG f;refine⟨λa ha=>?_,λa ha=>?_⟩;rcases cJ ha with ha|rfl
  let ⟨h1,h2,g⟩:=h.all a ha;exact⟨h1,h2,by omega⟩;let ⟨h1,h2,g⟩:=h.all x e;refine⟨h1,λj b=>?_,by simp;omega⟩;rcases aV.1 b with b|b
  exact h2 j b;simp at b;subst b;exact hc;rcases IC ha with ha|⟨rfl,hk,_⟩
  exact h.ne a ha;exact h.ne x (Jt f hk)
theorem rh.p_{L:cu kI}{i k:Nat}(h:rh L i)(n:Int):rh (p_ L k n) i:=by
 unfold Go.Ab.p_;cases c:L[k]? with
 |none=>exact h
 |some x=>
  have b:=aG c;refine⟨λa ha=>?_,λa ha=>?_⟩;rcases cJ ha with ha|rfl
  exact h.all a ha;exact h.all x b;rcases IC ha with ha|⟨rfl,hk,_⟩
  exact h.ne a ha;exact h.ne x (Jt c hk)
def rh.sw{m:cu (Int×eY)}:∀(r:cu eD) (L:cu kI) (i:Nat),rh L i->(∀c∈r,(∀d∈c,nY d)/\aa c<=1000000)->rh (sw m r L) (i+aa r)
 | [],L,i,h,_=>h
 |c::r,L,i,h,a=>by have:=rh.sw (m:=m) r _ (i+1) (h.oY (k:=oI m L (rq m c)) (a c (by simp))) (λx b=>a x (by simp[b]));simp only[Go.Ab.sw,aC];rw[show i+(aa r+1)=i+1+aa r by omega];exact this
def rh.ru{al:gp}{ag:hI}{m:cu (Int×eY)}{i:Nat}:∀(r:gp) (L:cu kI),rh L i->rh (ru al ag m r L) i
 | [],L,h=>h
 |n::r,L,h=>by
  simp only[Go.Ab.ru];cases No (na ag n.1=0)with
  |false=>exact rh.ru r L h
  |true=>exact rh.ru r _ (h.p_ n.1)
def aA6{m:cu (Int×eY)}:∀(r:cu eD) (L:cu kI),aa (sw m r L)=aa L
 | [],L=>rfl
 |c::r,L=>by simp only[sw];rw[aA6 r];unfold oY;cases L[oI m L (rq m c)]?<;>simp
def at7{al:gp}{ag:hI}{m:cu (Int×eY)}:∀(r:gp) (L:cu kI),aa (ru al ag m r L)=aa L
 | [],L=>rfl
 |n::r,L=>by
  simp only[ru];rw[at7 r];cases No (na ag n.1=0)with
  |false=>rfl
  |true =>unfold p_;cases L[oI m L n.2]?<;>simp
open fp (l9)
def fp.Ih{al:gp}{ag:hI}{fs:eD}(h:fp al ag fs):rh (sL al ag (l8 al ag) (l9 al ag)) 512/\aa (sL al ag (l8 al ag) (l9 al ag))<=1000000:=by
  have hc:=h.wK;have g:rh (sL al ag (l8 al ag) (l9 al ag)) 512:=by
   have e:∀c∈l9 al ag,(∀d∈c,nY d)/\aa c<=1000000:=λc b=>by let ⟨_,g2,g3⟩:=hc.od c b;exact⟨λd hd=>(g3 d hd).1,by omega⟩
   have f:rh (AW al ag (l9 al ag)) 0:=by
    refine⟨λa ha=>?_,λa ha=>?_⟩;rcases aF.1 ha with rfl|ha
    simp;obtain⟨c,b,rfl⟩:=aM.1 ha;exact⟨e c (aW.1 b).1,by simp,by simp⟩;obtain⟨c,b,rfl⟩:=aM.1 ha;exact(hc.od c (aW.1 b).1).1
   have:=rh.ru (al:=al) (ag:=ag) (m:=l8 al ag) al _ (rh.sw (m:=l8 al ag) ((l9 al ag).filter λc=>!decide (0<l5 al ag c)) _ 0 f (λc b=>e c (aW.1 b).1));refine⟨λa ha=>?_,this.ne⟩;let ⟨h1,h2,i⟩:=this.all a ha;have hl:=bJ (λc=>!decide (0<l5 al ag c)) (l9 al ag);have:=hc.len;exact⟨h1,h2,by omega⟩
  have hlen:aa (sL al ag (l8 al ag) (l9 al ag))<=1000000:=by unfold sL;rw[at7,aA6];have hl:=bJ (λc=>No (0<l5 al ag c)) (l9 al ag);have:=hc.len;simp only[AW,aC,aL];omega
  exact⟨g,hlen⟩
def tH(al:gp)(ag:hI)(fs:eD):Int:=cond (tJ al ag fs=0) (cond (oH ag (aa fs) Y (sL al ag (l8 al ag) (l9 al ag)) [] []).2 0 12) <|tJ al ag fs
def bn8(al:gp)(ag:hI)(fs:eD):IB (al,ag,fs)=Z (tH al ag fs):=by unfold IB tH;by_cases hp:tJ al ag fs=0;have h:=De.1 hp;have hc:=h.wK;let ⟨b,hlen⟩:=h.Ih;have hf:=h.Vo (l:=sL al ag (l8 al ag) (l9 al ag)) hlen (λa ha=>by let ⟨h1,h2,c⟩:=b.all a ha;exact⟨h1,h2,by omega⟩) b.ne;simp only[h.RE,bT,h.Yg,h.Vg hc,hf,hp];cases(oH ag (aa fs) Y (sL al ag (l8 al ag) (l9 al ag)) [] []).2<;>rfl;simp only[bn1 hp,bT,hp,n4,bj,b6,bu]
end Go.Ab
namespace Go.Ab
open Go Go.Sort Go.Proofs Go.Shelf
def yM:gp:=[(32,32,0),(39,41,0),(45,46,0),(48,57,0),(65,90,1),(97,122,1),(192,214,1),(216,246,1),(248,591,1),(880,1023,2),(1024,1279,3),(1488,1514,4),(19968,40959,5)]
def Cp(c:Int):gp->Int
 | []=>-1
 |r::l=>cond (r.1<=c&&c<=r.2.1) r.2.2 <|Cp c l
def qU(r:Int):Int:=cond (r<0||1114111<r) (-1) <|Cp r yM
def Ik(r:Int):Fe r=Z (qU r):=by
 unfold Fe qU;by_cases h1:r<0;simp[h1];by_cases h2:(1114111:Int)<r;simp[h1,h2];have c:IntKind.i32.wrap r=r:=IntWalk.i32_in r ⟨by omega,by omega⟩;simp only[h1,h2,n4,bu,jn,c,Vz,bT];refine mP (A:=Unit) yM (λi _=>(i:Int)) (λ_ rest=>Z (Cp r rest)) (by simp[yM]) ?_ ?_ ();intro rec a;simp[yM,Cp];intro rec i a x rest a7 hd d;have e:No ((i:Int)<13)=Y:=by grind[yM,aC,dA]
 have b:nth yM (i:Int)=Z x:=iy hd;have f:ek ((i:Int)+1)=((i+1:Nat):Int):=f' (n:=100) (by grind);simp only[yM]at b;simp only[e,b6,b,bT,f,Cp];have:=d ()
 grind
def Rj(b:ByteArray)(n:Nat):1<=(ch b n).2/\(ch b n).2<=4/\(ch b n).1<=2097151:=by grind[Lib.decode_at,Lib.decodeN]
set_option maxRecDepth 10000
namespace Dp
def ce0(x:Int):x<0\/(0<=x/\x<32)\/x=32\/(32<x/\x<39)\/x=39\/x=40\/x=41\/(41<x/\x<45)\/x=45\/x=46\/x=47\/(48<=x/\x<=57)\/(57<x/\x<65)\/(65<=x/\x<=90)\/(90<x/\x<97)\/(97<=x/\x<=122)\/(122<x/\x<192)\/(192<=x/\x<=214)\/x=215\/(216<=x/\x<=246)\/x=247\/(248<=x/\x<=591)\/(591<x/\x<880)\/(880<=x/\x<=1023)\/(1024<=x/\x<=1279)\/(1279<x/\x<1488)\/(1488<=x/\x<=1514)\/(1514<x/\x<19968)\/(19968<=x/\x<=40959)\/(40959<x/\x<=1114111)\/1114111<x:=by omega
def aq8(x:Int):EE x=Z (qU x):=by
 unfold EE Mm qU yM;simp only[Cp,Cj];rcases ce0 x with h|h|h|h|h|h|h|h|h|h|h|h|h|h|h|h|h|h|h|h|h|h|h|h|h|h|h|h|h|h|h
 all_goals simp(disch:=omega) only [hT,ft,b6,bu,bT,fg,iz,bY,gz,Bool.or_true,lZ,Bool.true_or,db,bw,jn,aw,bj]
def ca9{x:Int}(h:0<=qU x):0<=x/\x<=40959:=by
 unfold qU at h;by_cases c:x<0\/1114111<x
 grind
 refine⟨by omega,fV λa=>?_⟩;have:(No (x<0)||No (1114111<x))=U:=by grind[cL,decide_eq_false]
 rw[this,bu]at h;unfold yM at h;simp(disch:=omega) only [Cp,hT,ft,b6,bu,fg,iz,bY,gz,bw]at h;omega
def fA(b:ByteArray):cu Nat:=b.data.toList.map (·.toNat)
def Gy(b:ByteArray):aa (fA b)=b.size:=by unfold fA;rw[aL];rfl
def be8{b:ByteArray}{i n:Nat}(h:(fA b)[i]?=Z n):n<256:=by
 unfold fA at h;rw[aS]at h;cases a:b.data.toList[i]? with
 |none=>rw[a]at h;cases h
 |some x=>rw[a]at h;cases h;exact x.toNat_lt
def QV{b:ByteArray}{i:Nat}(h:i<b.size):(fA b)[i]?=Z (b.get! i).toNat:=by
 unfold fA;let ⟨d⟩:=b;have h':i<d.size:=h;have e:(cK d).get! i=d[i]:=by show d[i]! = d[i];rw[getElem!_pos d i h']
 grind
def Gc(b:ByteArray)(i:Nat):pE b (i:Int)=((fA b)[i]?).map (λ(n:Nat)=>(n:Int)):=by
 unfold pE fA;rw[hT (by omega:(0:Int)<=(i:Int)),b6,aO,aS,Option.map_map];let ⟨d⟩:=b;by_cases h:i<d.size;have e:(cK d)[i]?=Z d[i]:=getElem?_pos (cK d) i h
 grind
 have e:(cK d)[i]?=W:=getElem?_neg (cK d) i h
 grind
def aZ2{b:ByteArray}{i j:Nat}(h:i<=j)(hj:j<=b.size):∃s,D8 b (Z (i:Int)) (Z (j:Int))=Z s/\fA s=((fA b).drop i).take (j-i)/\s.size=j-i:=by
 refine⟨b.extract i j,?_,?_,?_⟩;unfold D8 yi;simp[h,hj];unfold fA
 grind[l_,List.map_take,ByteArray.data_extract,Array.toList_extract,List.extract_eq_take_drop]
 rw[ByteArray.size_extract];omega
def SL{a b:ByteArray}:(a.toList==b.toList)=No (fA a=fA b):=by
 rw[jx,jx,di,beq_iff_eq,decide_eq_true_iff];unfold fA
 grind[List.map_inj_right,lr]
def ue:cu Nat->Nat
 | [a]=>a
 | [a,b]=>a%32*64+b%64
 | [a,b,c]=>a%16*4096+b%64*64+c%64
 |_=>0
def wZ(v:Nat):cu Nat:=ite (v<128) [v] <|ite (v<2048) [192+v / 64,128+v%64] [224+v / 4096,128+v / 64%64,128+v%64]
def ba2{s:ByteArray}(h:1<=s.size/\s.size<=3):HY s=Z (ue (fA s):Int):=by
 have hl:=Gy s;have lt:∀n∈fA s,n<256:=λn f=>by let ⟨i,a7⟩:=List.mem_iff_getElem?.1 f;exact be8 a7
 have n0:=Gc s 0;have e:=Gc s 1;have g:=Gc s 2;unfold HY;generalize fA s=L at *
 match L,hl,lt with
 | [],hl,_=>simp at hl;omega
 | [a],hl,lt=>
  have ha:=lt a (by simp)
  grind[decide_eq_true,pE,bP,bT,ue,fx]
 | [a,b],hl,lt=>
  have ha:=lt a (by simp);have j:=lt b (by simp);rw[ft (by simp at hl;omega),bu,hT (by simp at hl;omega),b6,show pE s 0=_ from n0,show pE s 1=_ from e];simp only[bP,aI,ai,bT,ue]
  grind[fx,bT]
 | [a,b,c],hl,lt=>
  have ha:=lt a (by simp);have j:=lt b (by simp);have hc:=lt c (by simp);rw[ft (by simp at hl;omega),bu,ft (by simp at hl;omega),bu,show pE s 0=_ from n0,show pE s 1=_ from e,show pE s 2=_ from g];simp only[bP,aI,ai,bT,ue]
  grind[fx,bT]
 |a::b::c::d::r,hl,_=>simp at hl;omega
def QQ(l:cu Nat)(h:∀n∈l,n<256):fA (zP (l.map (λ(n:Nat)=>(n:Int))))=l:=by
 unfold fA zP;simp only[cI]
 conv=>rhs;rw[<-mC l]
 grind[bS,aO,UInt8.toNat_ofNat_of_lt']
def u8{n:Nat}(h:n<256:=by omega):fE.wrap (n:Int)=(n:Int):=by show(n:Int)%256=n;omega
def bS0{v:Nat}(h:v<65536):∃u,H7 (v:Int)=Z u/\fA u=wZ v:=by
 unfold H7 wZ;have a:(v:Int).tdiv 64=((v / 64:Nat):Int):=rfl;have b:(v:Int).tmod 64=((v%64:Nat):Int):=rfl;have c:(v:Int).tdiv 4096=((v / 4096:Nat):Int):=rfl;have d:((v / 64:Nat):Int).tmod 64=((v / 64%64:Nat):Int):=rfl;by_cases h1:v<128;rw[hT (by omega),b6,cr h1,u8];exact⟨_,rfl,QQ [v] (by simp;omega)⟩;rw[ft (by omega),bu,cc h1];by_cases h2:v<2048;rw[hT (by omega),b6,cr h2,a,b,ft (by omega),bu,bu,bT,bT,fx (n:=((v / 64:Nat):Int)),
  show(192:Int)+((v / 64:Nat):Int)=((192+v / 64:Nat):Int)by omega,show(128:Int)+((v%64:Nat):Int)=((128+v%64:Nat):Int)by omega,fx,fx,u8,u8]
 exact⟨_,rfl,QQ [192+v / 64,128+v%64] (by simp;omega)⟩;have d1:No ((64:Int)=0)=U:=by decide
 have d2:No ((4096:Int)=0)=U:=by decide
 rw[ft (by omega),bu,cc h2];simp only[d1,d2,bu,bT,a,b,c];rw[fx (n:=((v / 64:Nat):Int)),d,fx (n:=((v / 4096:Nat):Int)),
  show(224:Int)+((v / 4096:Nat):Int)=((224+v / 4096:Nat):Int)by omega,show(128:Int)+((v%64:Nat):Int)=((128+v%64:Nat):Int)by omega,show(128:Int)+((v / 64%64:Nat):Int)=((128+v / 64%64:Nat):Int)by omega,fx,fx,fx,u8,u8,u8]
 exact⟨_,rfl,QQ [224+v / 4096,128+v / 64%64,128+v%64] (by simp;omega)⟩
end Dp
namespace Dp
def Ck(L:cu Nat)(i r n:Nat):Prop :=
 (r<128/\n=1/\L[i]?=Z r)\/(128<=r/\r<2048/\n=2/\L[i]?=Z (192+r / 64)/\L[i+1]?=Z (128+r%64)) \/
 (2048<=r/\r<65536/\n=3/\L[i]?=Z (224+r / 4096)/\L[i+1]?=Z (128+r / 64%64)/\L[i+2]?=Z (128+r%64))
def aH3{b:ByteArray}{i:Nat}(a7:i<b.size)(hs:0<=qU ((ch b i).1:Int)):Ck (fA b) i (ch b i).1 (ch b i).2:=by
 have hle:=(ca9 hs).2;rw[Lib.decode_at]at hle⊢;have a:=(b.get! i).toNat_lt;have h1:=(b.get! (i+1)).toNat_lt;have h2:=(b.get! (i+2)).toNat_lt;have g0:=QV a7;have g1:i+1<b.size->_:=λh=>QV (b:=b) (i:=i+1) h;have g2:i+2<b.size->_:=λh=>QV (b:=b) (i:=i+2) h;generalize(b.get! i).toNat=c at *;generalize(b.get! (i+1)).toNat=d at *;generalize(b.get! (i+2)).toNat=e at *;generalize(b.get! (i+3)).toNat=f at *;unfold Lib.decodeN at hle⊢
 grind[Ck,left]
def Runes(L:cu Nat):Nat->eD->Prop
 |i,[]=>i=aa L
 |i,c::cs=>∃r n:Nat,c=(r:Int)/\Ck L i r n/\0<=qU c/\Runes L (i+n) cs
def ag4{L:cu Nat}{i r n:Nat}(h:Ck L i r n):i+n<=aa L/\1<=n/\n<=3/\r<65536:=by
 have key:∀ {k x},L[k]?=Z x->k<aa L:=λ{k x} e=>by grind[cU,bA]
 rcases h with⟨h1,rfl,h2⟩|⟨h1,h2,rfl,b,a⟩|⟨h1,h2,rfl,b,a,c⟩
 have:=key h2;omega;have:=key a;omega;have:=key c;omega
def DI{L:cu Nat}{i a:Nat}(h:L[i]?=Z a):L.drop i=a::L.drop (i+1):=by grind[au,bL]
theorem au6{v:Nat}(h:v<128):wZ v=[v]:=by unfold wZ;rw[cr h]
theorem Hh{v:Nat}(h:128<=v)(h':v<2048):wZ v=[192+v / 64,128+v%64]:=by grind[wZ]
theorem bS1{v:Nat}(h:2048<=v):wZ v=[224+v / 4096,128+v / 64%64,128+v%64]:=by grind[wZ]
def W5{L:cu Nat}{p n:Nat}(b:1<=n/\n<=3)(hp:p+n<=aa L)(h:wZ (ue ((L.drop p).take n))=(L.drop p).take n):Ck L p (ue ((L.drop p).take n)) n:=by
 have get:∀k,k<aa L->∃a,L[k]?=Z a:=λk hk=>⟨_,af hk⟩;let ⟨a,ha⟩:=get p (by omega);rw[DI ha]at h⊢;have:n=1\/n=2\/n=3:=by omega
 rcases this with rfl|rfl|rfl
 have e:ue ([a])=a:=rfl;simp only[gk,jo]at h⊢;rw[e]at h⊢;unfold wZ at h;split at h;exact .inl ⟨by assumption,rfl,ha⟩;split at h<;>simp at h;let ⟨c,hc⟩:=get (p+1) (by omega);rw[DI hc]at h⊢;simp only[gk,jo]at h⊢;generalize ue [a,c]=v at h⊢;unfold wZ at h;split at h;simp at h;split at h;simp only[bW,and_true]at h;exact .inr (.inl ⟨by omega,by assumption,rfl,by rw[ha,h.1],by rw[hc,h.2]⟩);simp at h;let ⟨c,hc⟩:=get (p+1) (by omega);let ⟨d,hd⟩:=get (p+2) (by omega);rw[DI hc,show p+1+1=p+2 by omega,DI hd]at h⊢;simp only[gk,jo]at h⊢;have hv:ue [a,c,d]<65536:=by simp only[ue];omega
 generalize ue [a,c,d]=v at h hv⊢;unfold wZ at h;split at h;simp at h;split at h;simp at h;simp only[bW,and_true]at h;exact .inr (.inr ⟨by omega,hv,rfl,by rw[ha,h.1],by rw[hc,h.2.1],by rw[hd,h.2.2]⟩)
def Lk{b:ByteArray}{i r n:Nat}(st:Ck (fA b) i r n)(hs:0<=qU (r:Int)):ch b i=(r,n):=by
 have hle:=(ca9 hs).2;have d:=Gy b;have mY:=ag4 st;have at':∀ {k x},(fA b)[k]?=Z x->(b.get! k).toNat=x:=λ{k x} e=>by have hk:=(au.1 e).1;rw[QV (by omega)]at e;exact aK e
 rw[Lib.decode_at];generalize f:(b.get! (i+3)).toNat=h;rcases st with⟨h1,rfl,h2⟩|⟨h1,h2,rfl,a,c⟩|⟨h1,h2,rfl,a,c,g⟩
 rw[at' h2];unfold Lib.decodeN;rw[cr h1];rw[at' a,at' c];unfold Lib.decodeN;rw[cc (by omega),cr ⟨by omega,by omega,by omega⟩,cr (by omega)];exact eB (by show(192+r / 64)%32*64+(128+r%64)%64=r;omega) rfl;rw[at' a,at' c,at' g];unfold Lib.decodeN;rw[cc (by omega),cc (by omega),cr ⟨by omega,⟨by omega,by omega⟩,by omega,by omega⟩,cr ⟨by omega,.inl (by omega)⟩];exact eB (by show(224+r / 4096)%16*4096+(128+r / 64%64)%64*64+(128+r%64)%64=r;omega) rfl
def step_take{L:cu Nat}{i r n:Nat}(h:Ck L i r n):ue ((L.drop i).take n)=r/\wZ r=(L.drop i).take n:=by
 rcases h with⟨h1,rfl,h2⟩|⟨h1,h2,rfl,a,b⟩|⟨h1,h2,rfl,a,b,c⟩
 rw[DI h2];exact⟨rfl,au6 h1⟩;rw[DI a,DI b];exact⟨by simp[ue];omega,Hh h1 h2⟩;rw[DI a,DI b,DI c];exact⟨by simp[ue];omega,bS1 h1⟩
def CK(b:ByteArray)(p:Nat)(acc:eD)(o:dv (eD×Int)):Prop:=∃l e,o=Z (l,e)/\(e=0->∃t,l=acc++t/\Runes (fA b) p t/\aa l<=b.size)/\∀t,Runes (fA b) p t->e=0
section
variable {b:ByteArray} {p r n:Nat} {acc l:eD}
def Sm(h:p=b.size)(hl:aa acc<=p):CK b p acc (Z (acc,0)):=⟨_,_,rfl,λ_=>⟨[],by simp,by rw[h];exact(Gy b).symm,by omega⟩,λ_ _=>rfl⟩
def Sx(hp:p<b.size)(h:∀r n,Ck (fA b) p r n->0<=qU (r:Int)->False):CK b p acc (Z (l,4)):=⟨_,_,rfl,λe=>by(cases e),λt a=>by
 cases t;have:p=aa (fA b):=a;rw[Gy]at this;omega;rename_i c cs;obtain⟨r,n,rfl,st,hs,_⟩:=a;exact(h r n st hs).elim⟩
def Si{o:dv (eD×Int)}(st:Ck (fA b) p r n)(hs:0<=qU (r:Int))(h:CK b (p+n) (acc++[(r:Int)]) o):CK b p acc o:=by let ⟨l,e,i,h1,h2⟩:=h;refine⟨l,e,i,λj=>?_,λt a=>?_⟩;obtain⟨t,rfl,a,hl⟩:=h1 j;exact⟨r::t,by simp,⟨r,n,rfl,st,hs,a⟩,hl⟩;cases t;have:p=aa (fA b):=a;have:=ag4 st;omega;rename_i c cs;obtain⟨k,m,rfl,d,f,g⟩:=a;have:=(Lk st hs).symm.trans (Lk d f);simp only[fC]at this;obtain⟨rfl,rfl⟩:=this;exact h2 cs g
def RS:∀ {x y:eD} {p:Nat},Runes (fA b) p x->Runes (fA b) p y->x=y
 | [],[],_,_,_=>rfl
 | [],c::cs,_,h,⟨r,n,_,st,_⟩=>by have:=ag4 st;have h:_=aa (fA b):=h;omega
 |c::cs,[],_,⟨r,n,_,st,_⟩,h=>by have:=ag4 st;have h:_=aa (fA b):=h;omega
 |c::cs,i::g,p,⟨r,n,e,st,hs,h⟩,⟨j,k,f,a,d,h'⟩=>by have:=(Lk st (e▸hs)).symm.trans (Lk a (f▸d));simp only[fC]at this;obtain⟨rfl,rfl⟩:=this;rw[e,f,RS h h']
theorem aA0(d:b.size<=1000):CK b 0 [] (Bj b):=by
 unfold Bj;refine bI2 (λx:eD×Int=>∃p:Nat,x.2=(p:Int)/\p<=b.size/\aa x.1<=p) (b.size-·.2.toNat) (λx o=>CK b x.2.toNat x.1 o) ?_ (x:=([],0)) ⟨0,rfl,by omega,by simp⟩ (by omega);rintro rec ⟨acc,q⟩ ⟨p,e,hp,hl⟩ c;simp only at e hl;subst e;simp only[aO];by_cases a:p<b.size;have hs:Cu b (p:Int)=Z ((p:Int),((ch b p).1:Int),((p+(ch b p).2:Nat):Int)):=by unfold Cu;simp[a]
 let ⟨f,g,i⟩:=Rj b p;rw[hT a,b6,hs];simp only[bT,Ik];rw[fx];by_cases hz:qU ((ch b p).1:Int)<0;rw[hT hz,b6];exact Sx a λr n st h=>by rw[Lk st h]at hz;simp only at hz;omega
 rw[ft hz,bu,m9,bT];have st:=aH3 a (by omega);have mY:=ag4 st;rw[Gy]at mY;refine Si st (by omega) ?_;exact c (acc++[((ch b p).1:Int)],((p+(ch b p).2:Nat):Int)) ⟨p+(ch b p).2,rfl,mY.1,by simp;omega⟩ (by simp only[aO];omega);rw[ft a,bu];exact Sm (by omega) hl
def Wn(N:b.size<=1000):CK b 0 [] (HJ b):=by
 have D:=Gy b;unfold HJ;refine bI2 (λx:eD×Int=>∃p:Nat,x.2=(p:Int)/\p<=b.size/\aa x.1<=p) (b.size-·.2.toNat) (λx o=>CK b x.2.toNat x.1 o) ?_ (x:=([],0)) ⟨0,rfl,by omega,by simp⟩ (by omega);rintro rec ⟨acc,q⟩ ⟨p,e,hp,hl⟩ E;simp only at e hl;subst e;simp only[aO];by_cases t:p<b.size;rw[fB t,b6];have fin:∀a:eD×Int,((a.1=acc/\a.2=0/\∀r n,Ck (fA b) p r n->0<=qU (r:Int)->False)\/∃r n:Nat,a.2=(n:Int)/\Ck (fA b) p r n/\0<=qU (r:Int)/\a.1=acc++[(r:Int)]) ->
   CK b p acc (cond (a.2=(0:Int)) (Z (([]:eD),(4:Int))) <|rec (a.1,(ek ((p:Int)+a.2)))):=by
  rintro ⟨O,a2⟩ ha;rcases ha with⟨_,ha,B⟩|⟨r,n,ha,st,d,h1⟩
  simp only at ha;subst ha;exact Sx t B;simp only at ha h1;subst ha h1;have mY:=ag4 st;simp only;rw[ft (by omega),bu,fx,show(p:Int)+(n:Int)=((p+n:Nat):Int)by omega];exact Si st d (E (acc++[(r:Int)],((p+n:Nat):Int)) ⟨p+n,rfl,by omega,by simp;omega⟩ (by simp only[aO];omega))
 refine vB (A:=eD×Int) (aQ 3) (λj a=>(((j+1:Nat):Int),a.1,a.2)) (CK b p acc) (λj a=>(a.1=acc/\a.2=0/\∀r n,Ck (fA b) p r n->0<=qU (r:Int)->j<n)\/∃r n:Nat,a.2=(n:Int)/\Ck (fA b) p r n/\0<=qU (r:Int)/\a.1=acc++[(r:Int)]) (by decide) ?_ ?_ (acc,0) (.inl ⟨rfl,rfl,λr n st _=>(ag4 st).2.1⟩);rintro f a g;refine fin a (g.imp_left λ⟨x,y,z⟩=>⟨x,y,λr n st h=>?_⟩);have:=z r n st h;have:=ag4 st;simp at *;omega;rintro f j a y P hj g G v;rw[cO]at hj;have H:ek ((p:Int)+((j+1:Nat):Int))=((p+(j+1):Nat):Int):=by rw[fx];omega
 have I:ek (((j+1:Nat):Int)+1)=((j+1+1:Nat):Int):=f' (n:=100) (by omega);have J:No (((j+1:Nat):Int)<=3)=Y:=hT (by omega);simp only[J,b6,H,I];by_cases hu:a.2=0;obtain⟨c,B⟩:a.1=acc/\∀r n,Ck (fA b) p r n->0<=qU (r:Int)->j<n:=by
  rcases g with g|⟨r,n,h1,st,_⟩
  exact⟨g.1,g.2.2⟩;have:=ag4 st;omega
 by_cases C:p+(j+1)<=b.size;rw[hT (by omega:((p+(j+1):Nat):Int)<=(b.size:Int)),b6];let ⟨s,es,k,c8⟩:=aZ2 (b:=b) (i:=p) (j:=p+(j+1)) (by omega) C;rw[show p+(j+1)-p=j+1 by omega]at k c8;have hv:=ba2 (s:=s) (by omega);rw[k]at hv;rw[hT hu,b6];simp only[es,bT,hv,aq8];have next:(0<=qU ((ue (((fA b).drop p).take (j+1)):Nat):Int)->wZ (ue (((fA b).drop p).take (j+1)))≠((fA b).drop p).take (j+1))->CK b p acc (f (((j+1+1:Nat):Int),a.1,a.2)):=λw=>v a (.inl ⟨c,hu,λr n st hs=>by
  have h1:=B r n st hs;have:n≠j+1:=λe=>by subst e;let ⟨t1,t2⟩:=step_take st;rw[t1]at w;exact w hs t2
  omega⟩)
 cases hz:No (0<=qU ((ue (((fA b).drop p).take (j+1)):Nat):Int))with
 |false=>exact next λh=>by rw[hT h]at hz;cases hz
 |true=>
  have d:=pK hz;have m:ue (((fA b).drop p).take (j+1))<65536:=by have:=(ca9 d).2;omega
  let ⟨u,K,M⟩:=bS0 m;rw[b6,K,bT,SL,M,k];by_cases hc:wZ (ue (((fA b).drop p).take (j+1)))=((fA b).drop p).take (j+1);rw[hT hc,b6,c,m9,bT];exact v (acc++[((ue (((fA b).drop p).take (j+1)):Nat):Int)],((j+1:Nat):Int)) (.inr ⟨_,_,rfl,W5 ⟨by omega,by omega⟩ (by omega) hc,d,rfl⟩);rw[ft hc,bu];exact next λ_=>hc
 rw[ft (by omega:¬((p+(j+1):Nat):Int)<=(b.size:Int)),bu];exact fin a (.inl ⟨c,hu,λr n st hs=>by have:=B r n st hs;have:=ag4 st;omega⟩);have hf:=fin a (g.imp_left λ⟨_,y,_⟩=>(hu y).elim);rw[ft hu,bu,bu]at *;cases No (((p+(j+1):Nat):Int)<=(b.size:Int))<;>exact hf;rw[ft (by omega:¬(p:Int)<(b.size:Int)),bu];exact Sm (by omega) hl
end
end Dp
namespace Dp
def aK4{rs:eD}(hl:aa rs<=1000):HE rs=Z (rs.all λc=>No (qU c=0)):=by
 unfold HE;refine mP (A:=Unit) rs (λi _=>(i:Int)) (λ_ rest=>Z (rest.all λc=>No (qU c=0))) (by omega) ?_ ?_ ()
 grind
 intro rec i _ x rest a7 hd a;have:=a ();simp only[fB a7,b6,iy hd,bT,aq8,f' a7,this,bH]
 grind[qU]
def CT:eD->Bool
 |x::y::r=>(No (y=32)&&No (x=32))||CT (y::r)
 |_=>U
def RY:∀l:eD,CT l=Y↔∃k:Nat,l[k]?=Z 32/\l[k+1]?=Z 32
 | []=>by simp[CT]
 | [x]=>by simp[CT]
 |x::y::r=>by unfold CT;rw[bz,RY (y::r)];constructor;rintro (h|⟨k,h⟩);exact⟨0,by simp at h;simp[h]⟩;exact⟨k+1,by simpa using h⟩;rintro ⟨k,h⟩;cases k;left;simp at h;simp[h];rename_i k;exact .inr ⟨k,by simpa using h⟩
def aH0{c0:Int}{cs:eD}(hl:aa cs<=1000):∃z,(c0::cs)[aa cs]?=Z z/\HF (c0::cs)=Z (No (c0=32)||(No (z=32)||CT (c0::cs))):=by
 have hz:(c0::cs)[aa cs]?=Z (c0::cs)[aa cs]:=af (by simp);refine⟨_,hz,?_⟩;generalize(c0::cs)[aa cs]=z at hz;have n0:nth (c0::cs) (0:Int)=Z c0:=rfl;have c:nth (c0::cs) (ek ((aa (c0::cs):Int)-1))=Z z:=by rw[aC,fx,show((aa cs+1:Nat):Int)-1=(aa cs:Int)by omega,zB,hz]
 unfold HF;simp only[n0,c,bT];cases No (c0=32)with
 |true=>rfl
 |false=>
  cases No (z=32)with
  |true=>rfl
  |false=>
   simp only[bu,db];refine vF (A:=Int) cs (λi _=>((i+1:Nat):Int)) (λa rest=>Z (CT (a::rest))) ((c0::cs)[·]?=Z ·) (by omega) ?_ ?_ c0 rfl;intro rec a _;simp only[aC,kj,bu];rfl;intro rec i a x rest a7 ha hd d;have b:(c0::cs)[i+1]?=Z x:=by rw[aI];exact oU hd
   have e:ek (((i+1:Nat):Int)-1)=(i:Int):=by rw[fx];omega
   have f:ek (((i+1:Nat):Int)+1)=((i+1+1:Nat):Int):=f' (n:=2000000) (by omega);simp only[aC,fB (show i+1<aa cs+1 by omega),b6,zB,b,bT,e,f,ha,d x b];show _=Z ((No (x=32)&&No (a=32))||CT (x::rest));cases No (x=32)<;>cases No (a=32)<;>rfl
theorem K2{L:cu Nat}{p r n:Nat}(h:Ck L p r n)(e:(32:Int)=(r:Int)):n=1/\L[p]?=Z 32:=by
 have:r=32:=by omega
 subst this;rcases h with⟨h1,rfl,h2⟩|⟨h1,h2,rfl,a,b⟩|⟨h1,h2,rfl,a,b,c⟩
 exact⟨rfl,h2⟩;omega;omega
def Jz{L:List Nat}:∀ {rs:List Int} {i k:Nat},Runes L i rs->rs[k]?=Z 32->∃p,L[p]?=Z 32/\Runes L (p+1) (rs.drop (k+1))/\(k=0->p=i)
 | [],_,_,_,h=>by simp at h
 |x::rs,i,0,h,hk=>by obtain⟨r,n,e,st,_,a⟩:=h;simp only[bP,ah]at hk;obtain⟨rfl,hp⟩:=K2 st (hk.symm.trans e);exact⟨i,hp,a,λ_=>rfl⟩
 |x::rs,i,k+1,h,hk=>by obtain⟨r,n,e,st,_,a⟩:=h;obtain⟨p,h1,h2,_⟩:=Jz (rs:=rs) a (by simpa using hk);exact⟨p,h1,by simpa using h2,λe=>by omega⟩
def as4{L:cu Nat}{i r n p:Nat}(st:Ck L i r n)(h1:i<=p)(h2:p<i+n)(hp:L[p]?=Z 32):p=i/\r=32/\n=1:=by
 rcases st with⟨a,rfl,a2⟩|⟨a,a2,rfl,a3,a4⟩|⟨a,a2,rfl,a3,a4,a5⟩
 have:p=i:=by omega
 subst this;rw[hp]at a2;exact⟨rfl,(aK a2).symm,rfl⟩;exfalso;have:p=i\/p=i+1:=by omega
 rcases this with rfl|rfl
 rw[hp]at a3;have:=aK a3;omega;rw[hp]at a4;have:=aK a4;omega;exfalso;have:p=i\/p=i+1\/p=i+2:=by omega
 rcases this with rfl|rfl|rfl
 rw[hp]at a3;have:=aK a3;omega;rw[hp]at a4;have:=aK a4;omega;rw[hp]at a5;have:=aK a5;omega
def Le{L:cu Nat}{p:Nat}(hp:L[p]?=Z 32):∀ {rs:eD} {i:Nat},Runes L i rs->i<=p->∃k,rs[k]?=Z 32/\Runes L (p+1) (rs.drop (k+1))/\(i=p->k=0)
 | [],i,h,a7=>by have h:i=aa L:=h;have:=(au.1 hp).1;omega
 |c::cs,i,h,a7=>by
  let ⟨r,n,e,st,_,a⟩:=h;rcases cU p (i+n)with q|q
  obtain⟨rfl,rfl,rfl⟩:=as4 st a7 q hp;exact⟨0,by rw[e];rfl,a,λ_=>rfl⟩;let ⟨k,b,d,_⟩:=Le hp a q;have:=ag4 st;exact⟨k+1,by simpa using b,by simpa using d,λe=>by omega⟩
theorem aH7(b:ByteArray):iN b.data.toList [32,32]=Y↔∃p:Nat,(fA b)[p]?=Z 32/\(fA b)[p+1]?=Z 32:=by
 have key:∀p,Lib.occAt b.data.toList [32,32] p=Y↔(fA b)[p]?=Z 32/\(fA b)[p+1]?=Z 32:=λp=>by
  unfold Lib.occAt fA;rw[aS,aS];generalize b.data.toList=l;have a:l[p]?=(l.drop p)[0]?:=by simp
  have c:l[p+1]?=(l.drop p)[1]?:=by simp
  rw[a,c];have t:∀x:UInt8,x.toNat=32↔(32:UInt8)=x:=λx=>by rw[<-lr];exact eq_comm
  rcases l.drop p with _|⟨x,_|⟨y,r⟩⟩<;>simp[List.isPrefixOf,t]
 unfold iN;rw[decide_eq_true_iff];rcases Lib.index_spec b.data.toList [32,32]with⟨q,h⟩|⟨p,q,_,h,_⟩
 refine⟨λe=>by omega,λ⟨p,hp⟩=>?_⟩;have h1:=(au.1 hp.1).1;rw[Gy]at h1;have:=h p (mB h1);rw[(key p).2 hp]at this;cases this;exact⟨λ_=>⟨p,(key p).1 h⟩,λ_=>by omega⟩
def aQ8(b:ByteArray):∃c e,Bp b=Z c/\HX b=Z e/\(e=0↔c=0):=by
 have no:∀ {c e:Int},c≠0->e≠0->∃D E,Z c=Z D/\Z e=Z E/\(E=0↔D=0):=λh h'=>⟨_,_,rfl,rfl,λx=>(h' x).elim,λx=>(h x).elim⟩;unfold Bp FO HX;cases he:(b.toList==(cK #[]).toList)with
 |true=>exact no (by decide) (by decide)
 |false=>
  by_cases j:(40:Int)<(b.size:Int)
  .rw[hT j];exact no (by decide) (by decide)
  rw[ft j];simp only[bu];let ⟨l2,c1,g1,q5,fa⟩:=aA0 (b:=b) (by omega);let ⟨x8,c2,g2,nj,gb⟩:=Wn (b:=b) (by omega);rw[g1,g2];simp only[bT];by_cases z:c1=0
  .obtain⟨t,rfl,d,hl⟩:=q5 z
   have z2:=gb _ d;obtain⟨t2,rfl,o,_⟩:=nj z2;obtain rfl:=RS d o;rw[hT z,hT z2];simp only[bZ,aw,bu]at hl⊢;have q:=Gy b;rw[SL]at he;have s:=of_decide_eq_false he;cases m:fA b with
   |nil=>exact b8 m s
   |cons f vs=>
   cases l2 with
   |nil=>have h:0=aa (fA b):=d;rw[m]at h;cases h
   |cons c0 cs=>
   have u:aa cs<=1000:=by simp at hl;omega
   let ⟨G,hz,v⟩:=aH0 (c0:=c0) u
   have g0:(fA b)[0]?=Z f:=by rw[m];rfl
   have J:0<b.size:=by rw[<-q,m];simp
   obtain⟨g,h1⟩:∃g,(fA b)[b.size-1]?=Z g:=⟨_,af (by omega)⟩;have K:pE b (0:Int)=Z (f:Int):=by have:=Gc b 0;rw[g0]at this;exact this
   have H:=Gc b (b.size-1);rw[h1]at H;have M:No ((f:Int)=32)=No (c0=32):=decide_eq_decide.2 ⟨λe=>by
    have e:f=32:=by omega
    let ⟨k,fa,_,lb⟩:=Le (e▸g0) d (aB 0)
    rw[lb rfl]at fa;exact aK fa,λe=>by
    let ⟨p,fa,_,lb⟩:=Jz (k:=0) d (by rw[e];rfl)
    rw[lb rfl,g0]at fa;have:=aK fa;omega⟩
   have N:No ((g:Int)=32)=No (G=32):=decide_eq_decide.2 ⟨λe=>by
    have e:g=32:=by omega
    let ⟨k,fa,gb,_⟩:=Le (e▸h1) d (dx _)
    have hk:aa (c0::cs)<=k+1:=by
     cases I:(c0::cs).drop (k+1)with
     |nil=>exact List.drop_eq_nil_iff.1 I
     |cons c r=>rw[I]at gb;let ⟨r,n,_,st,_,_⟩:=gb;have:=ag4 st;omega
    have:=(au.1 fa).1;simp only[aC]at hk this;rw[show k=aa cs by omega,hz]at fa;exact aK fa,λe=>by
    let ⟨p,fa,gb,_⟩:=Jz d (e▸hz)
    rw[show(c0::cs).drop (aa cs+1)=[]by simp]at gb;have gb:p+1=aa (fA b):=gb;rw[show p=b.size-1 by omega,h1]at fa;have:=aK fa;omega⟩
   have O:iN b.data.toList [32,32]=CT (c0::cs):=by
    rw[di,aH7,RY];constructor
    .rintro ⟨p,q5,nj⟩
     let ⟨k,fa,gb,_⟩:=Le q5 d (dx _)
     let ⟨R,l,_,w⟩:=Le nj gb (aB _)
     rw[w rfl,iQ]at l;exact⟨k,fa,l⟩
    rintro ⟨k,P,Q⟩;let ⟨p,fa,gb,_⟩:=Jz d P;let ⟨S,l,_,w⟩:=Jz (k:=0) gb (by rw[iQ];exact Q);rw[w rfl]at l;exact⟨p,fa,l⟩
   have B:strings_Contains (b,cK #[32,32])=Z (iN b.data.toList [32,32]):=by unfold strings_Contains;rw[hT (by show b.size<4294967281;omega)];rfl
   rw[v,aK4 (by omega),K,fx,show(b.size:Int)-1=((b.size-1:Nat):Int)by omega,H,B];simp only[bT,ai,Ik,M,N,O];rw[ft (by simp;omega:¬(aa (c0::cs):Int)=0),bu];cases No (c0=32)with
   |true=>exact no (by decide) (by decide)
   |false=>
    cases No (G=32)with
    |true=>exact no (by decide) (by decide)
    |false=>
     cases CT (c0::cs)with
     |true=>exact no (by decide) (by decide)
     |false=>
      simp only[bu,jn];rw[show((0:Int))=((0:Nat):Int)from rfl];rw[mP (A:=Unit) (c0::cs) (λi _=>(i:Int)) (λ_ rest=>Z (cond (rest.all (λc=>No (qU c=0))) (([],14):eD×Int) (c0::cs,0))) (by simp;omega) (by
        intro rec _;simp only[kj,bu,dI];rfl) (by
        intro rec i a x rest a7 hd C;simp only[fB a7,b6,iy hd,bT,f' a7 (show aa (c0::cs)<2^62 by simp;omega),bH,C ()];cases No (qU x=0)<;>rfl) ()]
      cases(c0::cs).all λc=>No (qU c=0)with
      |true=>exact no (c:=14) (by decide) (by decide)
      |false=>exact⟨_,_,rfl,rfl,.rfl⟩
  have z2:c2≠0:=λh=>by
   let ⟨t,_,d,_⟩:=nj h
   exact z (fa _ d)
  rw[ft z,ft z2];exact no z z2
end Dp
def Br{α:Type}(xs:cu α)(hl:aa xs<=1000000)(P:α->dv Bool)(p:α->Bool)(hp:∀x∈xs,P x=Z (p x)) :
  rounds (α:=Int) (β:=Bool) (λf c=>
   cond (c<((aa xs:Nat):Int)) (a8 (nth xs c) λd=>a8 (P d) λb=>cond b (Z (No ((0:Int)<=c))) <|f (ek (c+(1:Int)))) <|some U) (0:Int)=Z (xs.any p):=by
 refine mP (A:=Unit) xs (λi _=>(i:Int)) (λ_ rest=>Z (rest.any p)) (by omega) ?_ ?_ ()
 grind
 intro rec i a x rest a7 hd g;have h:x∈xs:=by grind[ax]
 have e:No ((0:Int)<=(i:Int))=Y:=by simp
 simp only[fB a7,b6,iy hd,bT,hp x h,f' a7 (show aa xs<2^62 by omega),dD,g (),e];cases p x<;>rfl
def q5(f:AL):Bool:=No ((64:Int)<(aa f.2.2.2.2:Int))
def bY8(l:Au)(hl:aa l<=1000000):Lb (l,())=Z (l.any q5):=by unfold Lb;simp only[bT];exact Br l hl _ q5 λx _=>rfl
def nj(f:AL):Bool:=No (f.1<1)||(No (1073741824<f.1)||(No (f.2.2.1<1)||No (9<f.2.2.1)))
def bT0(l:Au)(hl:aa l<=1000000):La (l,())=Z (l.any nj):=by
 unfold La;simp only[bT];refine Br l hl _ nj λx _=>?_;unfold MN nj
 grind
def aJ5(k:Int):∃s,wv k=Z s:=by
 unfold wv
 repeat' (first|exact⟨_,rfl⟩| (generalize No (k=_)=c;cases c<;>simp only[b6,bu]))
noncomputable def om(k:Int):Int:=(wv k).getD 0
theorem BH(k:Int):wv k=Z (om k):=by let ⟨s,hs⟩:=aJ5 k;simp[om,hs]
noncomputable def rM(f:AL):Bool:=No (om f.2.1=0)
noncomputable def Er(b:ByteArray):Int:=(Bp b).getD 0
theorem aB8(b:ByteArray):Bp b=Z (Er b)/\∃e,HX b=Z e/\No (e=0)=No (Er b=0):=by let ⟨c,e,h,h',k⟩:=Dp.aQ8 b;simp[Er,h,h',k]
def bV7(l:Au)(hl:aa l<=1000000):K_ (l,())=Z (l.any rM):=by unfold K_;simp only[bT];refine Br l hl _ rM λx _=>?_;unfold MI rM;simp only[BH,bT]
noncomputable def s_(f:AL):Bool:=cond (!(f.2.2.2.1.toList==(cK #[]).toList)) (!decide (Er f.2.2.2.1=0)) U
def bY4(l:Au)(hl:aa l<=1000000):Lc (l,())=Z (l.any s_):=by
 unfold Lc;simp only[bT];refine Br l hl _ s_ λx _=>?_;unfold MH s_
 grind[aB8,bT]
noncomputable def xY(f:AL):Bool:=cond ((aa f.2.2.2.2:Int)=0) Y <|cond (om f.2.1=1) (No ((1:Int)<(aa f.2.2.2.2:Int))) U
def bS7(l:Au)(hl:aa l<=1000000):K7 (l,())=Z (l.any xY):=by
 unfold K7;simp only[bT];refine Br l hl _ xY λx _=>?_;unfold MQ xY
 grind[BH,bT,om]
noncomputable def uO(al:gp)(ag:hI)(fs:eD)(k:Int)(id:Int):Bool :=cond (om k=1) (!(nQ al id).isSome) <|cond (om k=2) (!(px ag id).isSome) <|cond (om k=3) (!decide (id∈fs)) Y
namespace fp
variable {al:gp} {ag:hI} {fs:eD} (h:fp al ag fs)
include h
theorem bn6(id:Int)(f:AL):H9 (id,f,(al,ag,fs))=Z (uO al ag fs f.2.1 id):=by
 have a:=h.qF;have dC:=h.wX;unfold H9 uO;simp only[BH,bT,M9 al ag fs id (by omega),h.Rq,Oj,HC fs id (by omega)]
 grind
theorem bn7(f:AL)(hl:aa f.2.2.2.2<=1000000):Ij ((al,ag,fs),f)=Z (f.2.2.2.2.any (uO al ag fs f.2.1)):=by unfold Ij Lv;simp only[bT];rw[Br f.2.2.2.2 hl _ (uO al ag fs f.2.1) λx _=>h.bn6 x f];rfl
theorem aM2(l:Au)(a:Au)(hl:aa l<=1000000)(hp:∀f∈l,aa f.2.2.2.2<=1000000):K8 (l,(al,ag,fs,a))=Z (l.any λf=>f.2.2.2.2.any (uO al ag fs f.2.1)):=by unfold K8;simp only[bT];refine Br l hl _ _ λf hf=>?_;unfold MS;simp only[h.bn7 f (hp f hf),bT]
end fp
def xo:eD->Bool
 | []=>Y
 | [_]=>Y
 |a::b::l=>!decide (b<=a)&&xo (b::l)
theorem aL6(l:eD)(hl:aa l<=1000000):IG l=Z (xo l):=by
 unfold IG;cases l;exact Dh λrec=>rfl;rename_i p0 l;simp only[aC]at hl;refine(vF (A:=Int) l (λi _=>((i+1:Nat):Int)) (λa rest=>Z (xo (a::rest))) ((p0::l)[·]?=Z ·) (by omega) ?_ ?_ p0 rfl)
 grind[xo]
 intro rec i a x rest a7 b hd g;have c:(p0::l)[i+1]?=Z x:=by rw[aI,<-zB];exact iy hd
 have e:(aa (p0::l):Int)=((aa l+1:Nat):Int):=by simp
 have d:ek (((i+1:Nat):Int)-1)=(i:Int):=by grind[fx]
 have f:ek (((i+1:Nat):Int)+1)=((i+1+1:Nat):Int):=f' (n:=2000000) (by omega);simp only[e,fB (show i+1<aa l+1 by omega),b6,d,zB,b,c,bT,f,xo]
 grind
abbrev sI:=Int×Int
def sd:sI->sI->Bool:=λ(a b:Int×Int)=>(No (a.1=b.1)&&No (a.2=b.2))
def uN(S:cu (sI×Bool))(k:sI):Bool:=(fh sd k S).getD U
def xP(k:Int):eD->cu (sI×Bool)->dv (cu (sI×Bool))
 | [],S=>Z S
 |p::r,S=>cond (uN S (k,p)) W <|xP k r (wC sd (k,p) Y S)
noncomputable def xN:Au->cu (sI×Bool)->Bool
 | [],_=>U
 |f::r,S=>cond (om f.2.1=2) (xN r S) <|match xP (cond (om f.2.1=3) f.2.1 0) f.2.2.2.2 S with
  |some a=>xN r a
  |none=>Y
def Wt(k:Int)(d:eD)(hl:aa d<=1000000)(K:Int×cu (sI×Bool)->dv Int)(V:dv Int)(S:cu (sI×Bool)) :
  rounds (α:=Int×cu (sI×Bool)) (β:=Int) (λh c=>
   cond (c.1<((aa d:Nat):Int)) (a8 (nth d c.1) λf=>
    a8 (oD (fh (λ(a b:Int×Int)=>(No (a.1=b.1)&&No (a.2=b.2))) (k,f) c.2) (Z U)) λg=>
    cond g V <|h (ek (c.1+(1:Int)),wC (λ(a b:Int×Int)=>(No (a.1=b.1)&&No (a.2=b.2))) (k,f) Y c.2)) <|K c) ((0:Int),S)=match xP k d S with|some j=>K (((aa d:Nat):Int),j)|none=>V:=by
 refine mP (A:=cu (sI×Bool)) d (λi a=>((i:Int),a)) (λa rest=>match xP k rest a with|some j=>K (((aa d:Nat):Int),j)|none=>V) (by omega) ?_ ?_ S
 grind[xP]
 intro rec i a x rest a7 hd l;have e:oD (fh (λ(a b:Int×Int)=>(No (a.1=b.1)&&No (a.2=b.2))) (k,x) a) (Z U)=Z (uN a (k,x)):=by unfold uN;show oD (fh sd (k,x) a) (Z U)=_;cases fh sd (k,x) a<;>rfl
 simp only[fB a7,b6,iy hd,bT,e,f' a7 (show aa d<2^62 by omega),xP];cases uN a (k,x)with
 |true=>rfl
 |false=>exact l _
def AZ:dv Int->Au->Bool
 |_,[]=>U
 |a,f::r=>cond ((match a with|some p=>No (f.1<=p)|none=>U)||!(xo f.2.2.2.2)) Y <|AZ (Z f.1) r
noncomputable def pD(al:gp)(ag:hI)(fs:eD)(l:Au):Int :=cond (!decide (tH al ag fs=0)) (tH al ag fs) <|cond (128<(aa l:Int)) 3 <|cond (l.any q5) 3 <|cond (AZ W l) 10 <|cond (l.any nj) 2 <|cond (l.any rM) 9 <|cond (l.any s_) 14 <|cond (l.any xY) 1 <|cond (l.any (λf=>f.2.2.2.2.any (uO al ag fs f.2.1))) 7 <|cond (xN l []) 13 0
def E1(al:gp)(ag:hI)(fs:eD)(l:Au):xr (al,ag,fs,l)=Z (pD al ag fs l):=by
 unfold xr pD;simp only[bn8,bT];cases d:No (tH al ag fs=0)with
 |false=>simp
 |true=>
  have hp:fp al ag fs:=by grind[De,tH,tJ]
  simp only[aw,bu];cases e:No ((128:Int)<(aa l:Int))with
  |true=>rfl
  |false=>
   have hl:aa l<=1000000:=by grind
   simp only[bu,bY8 l hl,bT];cases h1:l.any q5 with
   |true=>rfl
   |false=>
    have b:∀f∈l,aa f.2.2.2.2<=1000000:=λf hf=>by have:=bc.1 h1 f hf;simp only[q5,kA]at this;omega
    have hlen:aa l<=128:=by grind
    simp only[bu,bT0 l hl,bV7 l hl,bY4 l hl,bS7 l hl,hp.aM2 l l hl b,bT];refine(vF (A:=dv Int) l (λi _=>((i:Int),(i:Int))) (λa rest=>Z (cond (AZ a rest) (10:Int) <|cond (l.any nj) 2 <|cond (l.any rM) 9 <|cond (l.any s_) 14 <|cond (l.any xY) 1 <|cond (l.any (λf=>f.2.2.2.2.any (uO al ag fs f.2.1))) 7 <|cond (xN l []) 13 0))
     (λi a=>match a with|none=>i=0|some p=>0<i/\∃g:AL,l[i-1]?=Z g/\g.1=p) (by omega) ?_ ?_ W rfl).trans ?_
    rotate_left 2;rfl;intro rec a k;simp only[kj,bu,AZ];cases l.any nj with
    |true=>rfl
    |false=>
     cases l.any rM with
     |true=>rfl
     |false=>
      cases l.any s_ with
      |true=>rfl
      |false=>
       cases l.any xY with
       |true=>rfl
       |false=>
        cases l.any (λf=>f.2.2.2.2.any (uO al ag fs f.2.1))with
        |true=>rfl
        |false=>
         simp only[bu];refine(mP (A:=cu (sI×Bool)) l (λi a=>((i:Int),a)) (λa rest=>Z (cond (xN rest a) (13:Int) 0)) (by omega) ?_ ?_ [])
         grind[xN]
         intro rec i a x rest a7 hd d;have c:x∈l:=by grind[ax]
         have h:ek ((i:Int)+1)=((i+1:Nat):Int):=f' (n:=2000000) (by omega);have j:No ((0:Int)<=(i:Int))=Y:=by simp
         simp only[fB a7,b6,iy hd,bT,BH,h,j,xN];cases No (om x.2.1=2)with
         |true=>exact d a
         |false=>
          simp only[bu];cases No (om x.2.1=3)with
          |true=>
           simp only[b6];refine(Wt x.2.1 x.2.2.2.2 (b x c) _ _ a).trans ?_
           grind
          |false=>
           simp only[bu];refine(Wt 0 x.2.2.2.2 (b x c) _ _ a).trans ?_
           grind
    intro rec i a x rest a7 k hd d;have c:x∈l:=by grind[ax]
    have h:ek ((i:Int)+1)=((i+1:Nat):Int):=f' (n:=2000000) (by omega);have j:No ((0:Int)<=(i:Int))=Y:=by simp
    have m:l[i]?=Z x:=by rw[<-zB];exact iy hd
    grind[fB,iy,bT,aL6,AZ,xo,fx,zB]
def DT(ag:hI):gp->gp->Prop
 | [],[]=>True
 |n::l,a::b=>a.1=n.1/\(na ag n.1≠0->a=n)/\DT ag l b
 |_,_=>False
def TG{ag:hI}:∀ {al a:gp},DT ag al a->a.map (·.1)=al.map (·.1)
 | [],[],_=>rfl
 |n::l,b::c,h=>by rw[aq,aq,h.1,TG h.2.2]
 | [],_::_,h=>h.elim
 |_::_,[],h=>h.elim
def aW6{ag:hI}{id:Int}(hd:na ag id≠0):∀ {al a:gp},DT ag al a->nQ a id=nQ al id
 | [],[],_=>rfl
 |n::l,c::d,h=>by have b:=aW6 hd h.2.2;unfold nQ at *;rw[eA,eA,h.1];by_cases e:n.1=id;rw[hT e];simp only;rw[h.2.1 (by rw[e];exact hd)];rw[ft e];exact b
 | [],_::_,h=>h.elim
 |_::_,[],h=>h.elim
def ch6{ag:hI}:∀ {al a:gp},DT ag al a->∀b∈a,b∈al\/na ag b.1=0
 | [],[],_,b,c=>by simp at c
 |n::l,b::d,h,m,hm=>by
  rcases aF.1 hm with rfl|hm
  by_cases e:na ag n.1=0;right;rw[h.1];exact e;left;rw[h.2.1 e];exact List.mem_cons_self;rcases ch6 h.2.2 m hm with q|q
  exact bE (bp _ q);exact bq q
 | [],_::_,h,_,_=>h.elim
 |_::_,[],h,_,_=>h.elim
def DG{ag:hI}{a:ct}(ha:a∈ag):na ag a.2.1≠0/\na ag a.2.2.1≠0:=by
 induction ag with
 |nil=>simp at ha
 |cons b l c=>
  unfold na at *;rw[aq,dw,aq,dw];rcases aF.1 ha with rfl|ha
  rw[cr rfl,cr rfl];constructor<;>omega;have:=c ha;omega
variable {ag:hI} {al ns':gp}
theorem Ui(h:DT ag al ns')(id:Int):pathOf ns' ag id=pathOf al ag id:=by
 unfold pathOf;cases ha:px ag id with
 |none=>rfl
 |some a =>have hm:=ba ha;simp only;rw[aW6 (DG hm).1 h,aW6 (DG hm).2 h]
def ch2(h:DT ag al ns'):∀l:hI,zb ns' ag l=zb al ag l
 | []=>rfl
 |a::l=>by simp only[zb,Ui h,ch2 h l]
def cm8(h:DT ag al ns')(node:Int)(l:hI):np ns' ag node l=np al ag node l:=by refine Ar (List.flatMap · l) (funext λa=>?_);unfold ph;rw[Ui h]
def O1{node:Int}(hd:na ag node=0)(al:gp):np al ag node ag=[]:=by
 refine List.flatMap_eq_nil_iff.2 λa ha=>?_;have h1:a.2.1≠node:=λe=>(DG ha).1 (by rw[e];exact hd);have h2:a.2.2.1≠node:=λe=>(DG ha).2 (by rw[e];exact hd);unfold ph;cases pathOf al ag a.1 with
 |none=>rfl
 |some p=>simp only;rw[cc h1,cc h2];rfl
def cl1(h:DT ag al ns'){n a:b9}(h1:a.1=n.1)(h2:na ag n.1≠0->a=n):fp.kc ns' ag a=fp.kc al ag n:=by by_cases e:na ag n.1=0;unfold fp.kc;rw[h1,O1 e,O1 e];rfl;rw[h2 e];unfold fp.kc;rw[cm8 h]
def ch3(h:DT ag al ns'):fp.wF ns' ag=fp.wF al ag:=by
 have go:∀ {l a:gp},DT ag l a->a.map (fp.kc ns' ag)=l.map (fp.kc al ag):=by
  intro l
  induction l with
  |nil=>
   intro a hl;cases a with
   |nil=>rfl
   |cons _ _=>exact hl.elim
  |cons n l b =>intro a hl;cases a;exact hl.elim;rw[aq,aq,b hl.2.2,cl1 h hl.1 hl.2.1]
 exact go h
def cl0(h:DT ag al ns'):fp.l9 ns' ag=fp.l9 al ag:=by
 have a:fp.ny ns' ag=fp.ny al ag:=by unfold fp.ny;rw[ch3 h]
 have b:fp.ki ns' ag=fp.ki al ag:=by funext d;unfold fp.ki fp.Tv;rw[ch3 h]
 unfold fp.l9;rw[a,b]
def cm7(h:DT ag al ns'):l8 ns' ag=l8 al ag:=by refine Ar (br · [] ag) (funext λm=>funext λa=>?_);rw[Ui h]
def bb8(h:DT ag al ns'):∀c:eD,l5 ns' ag c=l5 al ag c
 | []=>rfl
 |d::c=>by
  have e:vi ns' ag d=vi al ag d:=by unfold vi;rw[Ui h]
  simp only[l5,e,bb8 h c]
def sE(x:kI):Int×eD×cu eD:=(x.1,x.2.1,x.2.2.1)
def ci2(L:cu kI)(k:Nat)(c:Int):(p_ L k c).map sE=L.map sE:=by
 unfold p_;cases a:L[k]? with
 |none=>rfl
 |some x=>
  simp only[List.map_set];refine List.ext_getElem? λi=>?_;rw[List.getElem?_set];by_cases e:k=i;subst e;have hk:k<aa L:=by
   rcases cU k (aa L)with q|q
   exact q;rw[bA q]at a;cases a
  rw[cr rfl,cr (by simpa using hk),aS,a];rfl;rw[cc e]
def be3{m:cu (Int×eY)}:∀(R:gp) (L:cu kI),(ru al ag m R L).map sE=L.map sE
 | [],_=>rfl
 |n::R,L=>by simp only[ru];rw[be3 R];cases No (na ag n.1=0);rfl;exact ci2 L _ _
def ch5(h:DT ag al ns'):(sL ns' ag (l8 ns' ag) (fp.l9 ns' ag)).map sE=(sL al ag (l8 al ag) (fp.l9 al ag)).map sE:=by have e:=funext (bb8 h);rw[cl0 h,cm7 h];unfold sL AW;rw[be3,be3,e]
def aW7{k:Nat}:∀ {L L':cu kI} (b:Bool) (seen out:eD),L.map sE=L'.map sE->oH ag k b L seen out=oH ag k b L' seen out
 | [],[],_,_,_,_=>rfl
 | [],_::_,_,_,_,h=>by simp at h
 |_::_,[],_,_,_,h=>by simp at h
 |x::L,y::L',b,seen,out,h=>by
  simp only[aq,bW,sE,fC]at h;have hc:qD x=qD y:=by unfold qD;rw[h.1.2.1,h.1.2.2]
  have a:=h.2;cases b;simp only[oH];rw[hc,h.1.2.1];rw[aW7 U _ _ a];simp only[oH];rw[hc,aW7 U seen (out++[0]) a]
theorem Xi{id:Int}(hp:(al.map (·.1)).Pairwise (·<·)):fh gd id (mkMap al [])=(nQ al id).map λn=>n.2:=by
 have at':∀ {n:b9} {al:gp} (m:cu (Int×bs)),(al.map (·.1)).Pairwise (·<·)->n∈al->fh gd n.1 (mkMap al m)=Z n.2:=by
  intro n al
  induction al with
  |nil=>intro m _ a;simp at a
  |cons u al b=>
   intro m hp a;rw[aq,aR]at hp;rcases aF.1 a with rfl|a
   show fh gd n.1 (mkMap al (wC gd n.1 n.2 m))=_;rw[Ja n.1 al _ (λv hv=>by have:=hp.1 v.1 (aN hv);omega),rV];simp;exact b _ hp.2 a
 cases a:nQ al id with
 |none=>
  rw[Ja id al [] (λn hm e=>by
   have:=List.find?_eq_none.1 a n hm;simp[e]at this)]
  rfl
 |some n=>
  have e:n.1=id:=by have:=dp a;simpa using this
  have:=at' [] hp (ba a);rw[e]at this;exact this
def ag1{s:fy}{m a:cu (Int×bs)}:∀ {l:cu fy},(∀t∈l,qx s t a=qx s t m)->wU s a l=wU s m l
 | [],_=>rfl
 |t::l,h=>by simp only[wU];rw[h t (by simp),ag1 λx b=>h x (by simp[b])]
theorem TM{m b:cu (Int×bs)}:∀ {l:cu fy},(∀s∈l,∀t∈l,qx s t b=qx s t m)->(∀s∈l,al.all (p6 s)=Y->ns'.all (p6 s)=Y)->tV al m l=Y->tV ns' b l=Y
 | [],_,_,_=>rfl
 |s::l,h1,h2,h=>by simp only[tV,ab]at h⊢;refine⟨?_,h2 s (by simp) h.2.1,TM (λs hs t a=>h1 s (by simp[hs]) t (by simp[a])) (λs hs=>h2 s (by simp[hs])) h.2.2⟩;rw[ag1 λt a=>h1 s (by simp) t (by simp[a])];exact h.1
def X7:∀ {l:hI} {r:cu fy},zb al ag l=Z r->∀s∈r,∃a∈l,s.1.2.1=a.2.1/\s.1.2.2.1=a.2.2.1
 | [],r,h,s,hs=>by simp only[zb,ah]at h;subst h;simp at hs
 |a::l,r,h,s,hs=>by
  simp only[zb]at h;cases hp:pathOf al ag a.1 with
  |none=>rw[hp]at h;cases h
  |some p=>
   rw[hp]at h;simp only at h;cases hc:(No (a.2.1=a.2.2.1)&&No (aa p<4))||!(qt p)with
   |true=>rw[hc]at h;cases h
   |false=>
    rw[hc,bu]at h;cases c:zb al ag l with
    |none=>rw[c]at h;cases h
    |some f =>
     rw[c]at h;simp only[ah]at h;subst h;rcases aV.1 hs with q|q
     obtain⟨i,_,rfl⟩:=aM.1 q;exact⟨a,by simp,rfl,rfl⟩;let ⟨b,d,e⟩:=X7 c s q;exact⟨b,by simp[d],e⟩
def ci3{fs:eD}(h:fp al ag fs)(hm:DT ag al ns')(hp:∀n∈ns',yU n.2=Y)(hd:sC [] ns'=U)
  (off:∀r,zb al ag ag=Z r->∀s∈r,∀n∈ns',na ag n.1=0->n' (hi s) (gl s) n.2=U):fp ns' ag fs:=by
 have b:=TG hm;have hlen:aa ns'=aa al:=by have:=Ar aa b;simpa using this
 refine⟨?_,by rw[b];exact h.vL,h.rX,h.E8,by rw[b];exact h.Oz,h.Gk,h.Oy,aj.2 hp,h.J',?_,?_⟩;have:=h.AD;unfold wT at *;rw[hlen];exact this;have:=h.conn;unfold vP at *;rw[b,hd];cases tX:sC [] al with
 |true=>rw[tX]at this;simp at this
 |false=>rw[tX]at this;exact this
 have:=h.FT;unfold u_ at *;rw[ch2 hm];cases j:zb al ag ag with
 |none=>rw[j]at this;cases this
 |some r=>
  rw[j]at this;have c:=tG (vA r);have e:=pq h.vL;have f:(ns'.map (·.1)).Pairwise (·<·):=by rw[b];exact e
  have g:∀id,na ag id≠0->nv (mkMap ns' []) id=nv (mkMap al []) id:=λid k=>by unfold nv;rw[Xi f,Xi e,aW6 k hm]
  have d:∀s∈oy p2 r,na ag s.1.2.1≠0/\na ag s.1.2.2.1≠0:=λs hs=>by let ⟨a,ha,m,o⟩:=X7 j s (c.mem_iff.1 hs);rw[m,o];exact DG ha
  refine TM (λs hs t p=>?_) (λs hs i=>?_) this;have h1:=g _ (d s hs).1;have h2:=g _ (d s hs).2;unfold qx;rw[h1,h2];refine aj.2 λn l=>?_;rcases ch6 hm n l with q|q
  exact aj.1 i n q;unfold p6;rw[off r j s (c.mem_iff.1 hs) n l q];rfl
end Go.Ab
namespace Go.Ab
open Go Go.Sort Go.Proofs Go.Shelf
namespace Dp
def l3(n:b9):bs:=n.2
def aW3(g2:Int)(p q:bs):Prop:=p≠q/\¬(p.1-q.1)*(p.1-q.1)+(p.2-q.2)*(p.2-q.2)<g2
section
variable (g2:Int) (okS:bs->Prop) (fc:bs->Int)
def fits(cur:gp)(id:Int)(p0 at':bs):Prop:=yU at'=Y/\(∀n∈cur,n.1≠id->aW3 g2 (l3 n) at')/\okS at'/\fc at'=fc p0
def put(cur:gp)(id:Int)(p:bs):gp:=cur.map λn=>ite (n.1=id) (id,p.1,p.2) n
variable {g2 okS fc}
def T_{cur:gp}{id:Int}{p:bs}{c:b9}(h:c∈put cur id p):(c∈cur/\c.1≠id)\/c=(id,p.1,p.2):=by
 obtain⟨n,a,rfl⟩:=aM.1 h
 grind
theorem ch4{cur:gp}{id:Int}{p:bs}{c:b9}(h:c∈cur)(a:c.1≠id):c∈put cur id p:=aM.2 ⟨c,h,cc a⟩
def ci0(cur:gp)(id:Int)(p:bs):(put cur id p).map (·.1)=cur.map (·.1):=by grind[put,cI,bS]
theorem cn0{s:gp}(b:(s.map (·.1)).Nodup){m n:b9}(hm:m∈s)(a:n∈s)(e:m.1=n.1):m=n:=by
 induction s with
 |nil=>simp at hm
 |cons x s c=>grind
end
theorem be7{s:gp}:∀(pre l:gp),(∀c∈pre++l,∀d∈pre++l,c.1≠d.1->l3 c≠l3 d)->((pre++l).map (·.1)).Nodup->sC pre l=U
 |pre,[],_,_=>rfl
 |pre,n::l,h,f=>by
  have e:pre++n::l=(pre++[n])++l:=by simp
  unfold sC;rw[be7 (s:=s) (pre++[n]) l (by rw[<-e];exact h) (by rw[<-e];exact f),lZ,bc];intro m hm;have b:m.1≠n.1:=by grind
  have:=h m (by simp[hm]) n (by simp) b;intro a;apply this;unfold GH u9 at a;simp only[ab,kA]at a;exact(eB a.1 a.2).symm
end Dp
abbrev nE:=Int×b9
def uz:bs->eY->cu nE
 |a,b::l=>(a.1,a.2,b.1,b.2)::uz b l
 |_,[]=>[]
def Em(l:eY):cu nE:=match l with
 |a::l=>uz a l
 | []=>[]
abbrev oP:=Int×Int×eY
namespace Dp
variable (al:gp) (ag:hI)
def sy(a:ct):eY:=(pathOf al ag a.1).getD []
def pz(l:hI):cu nE:=l.flatMap λa=>Em (sy al ag a)
def pM(l:hI)(m:cu (Int×eY)):cu (Int×eY):=l.foldl (λm a=>wC gd (-a.1) (sy al ag a).reverse (wC gd a.1 (sy al ag a) m)) m
def vn(m:cu (Int×eY))(c:eD):eY:=c.flatMap λd=>((fh gd d m).getD []).dropLast
def vw(l:cu zy):cu oP:=(l.filter λr=>!decide (r.2.1=[])).map λr=>(r.1,l5 al ag r.2.1,vn (pM al ag ag []) r.2.1)
def nP:cu kI:=sL al ag (l8 al ag) (fp.l9 al ag)
def tT(fs:eD):eD:=(oH ag (aa fs) Y (nP al ag) [] []).1
def uY(l:eD)(L:cu kI):cu zy:=l.zipWith (λf x=>(f,x.2.1,x.2.2.1,x.2.2.2)) L
def zq(x y:zy):Int:=A_ x.1 y.1
def zr(x y:oP):Int:=A_ x.2.1 y.2.1
def xW(fs:eD):cu zy:=oy zq (uY (tT al ag fs) (nP al ag))
def qd(fs:eD):cu oP:=oy zr (vw al ag (xW al ag fs))
end Dp
variable {ag:hI} {al ns':gp}
namespace Dp
end Dp
end Go.Ab
namespace Go.Ab
open Go Go.Sort Go.Proofs Go.Shelf
theorem Nu{ag:hI}{k:Nat}:∀(L:cu kI) (b:Bool) (seen out:eD),(oH ag k b L seen out).2=Y->(oH ag k b L seen out).1.length=aa out+aa L
 | [],b,seen,out,_=>by cases b<;>rfl
 |x::L,Y,seen,out,h=>by
  simp only[oH]at h⊢;cases hc:(qD x).all (λc=>c.all λd=>No (Am ag d=0))with
  |false=>rw[hc]at h;simp at h
  |true =>rw[hc,b6]at h;rw[b6,Nu L _ _ _ h];simp only[aX,aC,dA];omega
 |x::L,U,seen,out,h=>by
  simp only[oH]at h⊢;generalize Am ag (x.2.1.headD 0)=f at h⊢;cases hd:No (f=0)||No (f∈seen)with
  |true=>rw[hd]at h;simp at h
  |false=>
   rw[hd,bu]at h;rw[bu];cases hc:(qD x).all (λc=>c.all λd=>No (Am ag d=f))with
   |false=>rw[hc]at h;simp at h
   |true =>rw[hc,b6]at h;rw[b6,Nu L _ _ _ h];simp only[aX,aC,dA];omega
def bb7(L:cu kI)(k:Nat)(c:eD):∀a∈oY L k c,a.2.1∈L.map (·.2.1):=by
 unfold oY
 grind
def aW4(L:cu kI)(k:Nat)(c:Int):∀a∈p_ L k c,a.2.1∈L.map (·.2.1):=by
 unfold p_
 grind
def SO{m:cu (Int×eY)}:∀(r:cu eD) (L:cu kI),∀a∈sw m r L,a.2.1∈L.map (·.2.1)
 | [],L,a,ha=>aN ha
 |c::r,L,a,ha=>by have:=SO r _ a ha;let ⟨b,d,e⟩:=aM.1 this;rw[<-e];exact bb7 _ _ _ b d
def Rs{al:gp}{ag:hI}{m:cu (Int×eY)}:∀(r:gp) (L:cu kI),∀a∈ru al ag m r L,a.2.1∈L.map (·.2.1)
 | [],L,a,ha=>aN ha
 |n::r,L,a,ha=>by
  have:=Rs r _ a ha;let ⟨b,c,e⟩:=aM.1 this;rw[<-e];cases hd:No (na ag n.1=0)with
  |false=>rw[hd]at c;exact aN c
  |true=>rw[hd]at c;exact aW4 _ _ _ b c
def ao0{al:gp}{ag:hI}{m:cu (Int×eY)}{cs:cu eD}{a:kI}(ha:a∈sL al ag m cs):a.2.1=[]\/a.2.1∈cs:=by
 let ⟨b,d,e⟩:=aM.1 (Rs al _ a ha);let ⟨c,hc,f⟩:=aM.1 (SO _ _ b d);rw[<-e,<-f];rcases aF.1 hc with rfl|hc
 exact bE rfl
 grind
namespace Dp
def IA(l:cu zy):Ordered zq l :=IX (λx _=>by grind[zq,uk]) (λx _ y _ z _ a b=>by unfold zq at *;rw[uk]at *;omega) (λx _ y _ z _ a b=>by unfold zq at *;rw[uk]at *;omega)
def Iz(l:cu oP):Ordered zr l :=IX (λx _=>by grind[zr,uk]) (λx _ y _ z _ a b=>by unfold zr at *;rw[uk]at *;omega) (λx _ y _ z _ a b=>by unfold zr at *;rw[uk]at *;omega)
theorem aR2{l:cu zy}(hl:aa l<=1000000):G6 (l,4,())=Z (oy zq l):=by unfold G6;simp only[l6,b6];refine Jw (λx _ y _=>?_) (IA l) (by omega);unfold Im;simp only[cmp_eq,bT];rfl
def aP0{l:cu oP}(hl:aa l<=1000000):KN (l,3,())=Z (oy zr l):=by unfold KN;simp only[l6,b6];refine Jw (λx _ y _=>?_) (Iz l) (by omega);unfold HT;simp only[cmp_eq,bT];rfl
section
variable {al:gp} {ag:hI} {fs:eD} (h:fp al ag fs) (hf:(oH ag (aa fs) Y (nP al ag) [] []).2=Y)
include h hf
theorem Ua:aa (tT al ag fs)=aa (nP al ag):=by grind[tT,Nu]
theorem QH:aa (uY (tT al ag fs) (nP al ag))=aa (nP al ag):=by unfold uY;rw[ku,Ua h hf,Nat.min_self]
theorem bZ0:Ir (al,ag,fs)=Z (xW al ag fs,0):=by
 let ⟨d,hlen⟩:=h.Ih;have b:=h.Vo (l:=nP al ag) hlen (λa ha=>by let ⟨h1,h2,f⟩:=d.all a ha;exact⟨h1,h2,by omega⟩) d.ne;have hdiv:Be ((al,ag,fs),fp.l9 al ag,l8 al ag)=Z (nP al ag):=h.Vg h.wK;have hz:=QH h hf;have hl:=Ua h hf;unfold Ir;simp only[h.RE,bT,l6,aw,bu,h.Yg,hdiv,b,hf];have c:aa (nP al ag)<=1000000:=hlen;refine(vF (A:=cu zy) (uY (tT al ag fs) (nP al ag)) (λi a=>(a,(i:Int))) (λa rest=>Z (oy zq (a++rest),0)) (λi a=>aa a=i) (by omega) ?_ ?_ [] rfl).trans rfl
 grind[aR2,bT]
 intro rec i a x rest a7 g hd j;rw[hz]at a7;have e:(uY (tT al ag fs) (nP al ag))[i]?=Z x:=by rw[<-zB];exact iy hd
 unfold uY at e;rw[List.getElem?_zipWith]at e
 grind[tT,af,nP,aK,oH,fB,zB,bT,m9,f']
end
end Dp
set_option maxRecDepth 10000
namespace Dp
def NJ:∀(l:eY) (p:bs),aa (uz p l)=aa l
 | [],_=>rfl
 |_::l,_=>by simp only[uz,aC,NJ l]
def bY5{β:Type}(p0:bs)(l:eY)(hl:aa l<=1000)(acc:cu nE)(ha:aa acc<=1000000)(K:Int×cu nE->dv β) :
  rounds (α:=Int×cu nE) (β:=β) (λg b=>
   cond (b.1<((aa (p0::l):Nat):Int)) (
   a8 (nth (p0::l) (ek (b.1-(1:Int)))) λc=>
   a8 (nth (p0::l) b.1) λd=>
   a8 (j6 32 b.2 [(c.1,c.2,d.1,d.2)]) λf=>
   g ((ek (b.1+(1:Int))),f)) (
   K b)) ((1:Int),acc)=K (((aa l+1:Nat):Int),acc++uz p0 l):=by
 have e:((aa (p0::l):Nat):Int)=((aa l+1:Nat):Int):=by simp
 refine(vF (A:=bs×cu nE) l (λi a=>(((i+1:Nat):Int),a.2)) (λa rest=>K (((aa l+1:Nat):Int),a.2++uz a.1 rest)) (λi a=>(p0::l)[i]?=Z a.1/\aa a.2<=1000000+i) (by omega) ?_ ?_ (p0,acc) ⟨rfl,by omega⟩);intro rec a h;simp only[e,kj,bu,uz,cg];intro rec i a x rest a7 h hd k;have j:(p0::l)[i+1]?=Z x:=by rw[aI,<-zB];exact iy hd
 have m:ek (((i+1:Nat):Int)-1)=(i:Int):=by rw[fx];omega
 have o:ek (((i+1:Nat):Int)+1)=((i+1+1:Nat):Int):=f' (n:=2000000) (by omega);simp only[e,fB (show i+1<aa l+1 by omega),b6,m,o,zB,h,j,bT];rw[m9,bT];have:=k (x,a.2++[(a.1.1,a.1.2,x.1,x.2)]) ⟨j,by simp;omega⟩;rw[this];simp only[uz,bG,jS]
variable {al:gp} {ag:hI} {fs:eD}
theorem FW(h:fp al ag fs){a:ct}(ha:a∈ag):∃p l,pathOf al ag a.1=Z (p::l)/\sy al ag a=p::l/\aa l<=65:=by let ⟨f,t,_,_,hp,_⟩:=h.path ha;refine⟨_,_,hp,by unfold sy;rw[hp];rfl,?_⟩;have:=h.q4 ha;simp;omega
def bK2{β:Type}(h:fp al ag fs)(K:Int×cu nE×cu (Int×eY)->dv β) :
 rounds (α:=Int×cu nE×cu (Int×eY)) (β:=β) (λq j=>
  cond (j.1<(aa ag:Int)) (
  a8 (nth ag j.1) λg=>
  a8 (wE ((al,ag,fs),g.1)) λc=>
  rounds (α:=Int×cu nE) (β:=β) (λo e=>
   cond (e.1<(aa (c.1):Int)) (
   a8 (nth c.1 (ek (e.1-(1:Int)))) λd=>
   a8 (nth c.1 e.1) λf=>
   a8 (j6 32 e.2 [(d.1,d.2,f.1,f.2)]) λk=>
   o ((ek (e.1+(1:Int))),k)) (
   a8 (vo c.1) λd=>
   a8 (AJ (d,(2:Int))) λm=>
   q ((ek (j.1+(1:Int))),e.2,(wC (λ(a b:Int)=>No (a=b)) (ek (0-g.1)) m (wC (λ(a b:Int)=>No (a=b)) g.1 c.1 j.2.2))))) ((1:Int),j.2.1)) (K j)) ((0:Int),[],[])=K ((aa ag:Int),pz al ag ag,pM al ag ag []):=by
 have r:=h.pA;refine(vF (A:=cu nE×cu (Int×eY)) ag (λi a=>((i:Int),a.1,a.2)) (λa rest=>K ((aa ag:Int),a.1++pz al ag rest,pM al ag rest a.2)) (λi a=>aa a.1<=66*i) (by omega) ?_ ?_ ([],[]) (by simp)).trans (by simp);intro rec a s;simp only[kj,bu,pz,fX,cg,pM,List.foldl_nil];intro rec i a x rest a7 s hd t;have n:x∈ag:=by
  have:x∈ag.drop i:=by rw[hd];simp
  exact ax this
 let ⟨p,l,hp,u,hl⟩:=FW h n;have C:=h.num n;simp only[fB a7,iy hd,bT,h.Hz,hp];refine(bY5 p l (by omega) a.1 (by omega) _).trans ?_;have v:vo (p::l)=Z (p::l):=by unfold vo;rw[m9];rfl
 have w:AJ (p::l,2)=Z (p::l).reverse:=by unfold AJ;have:No (aa (p::l)<4611686018427387904)=Y:=hT (by simp;omega);simp only[l6,this,bw,b6]
 have z:ek (0-x.1)=-x.1:=by rw[fx];omega
 simp only[v,w,z,bT,f' a7 (show aa ag<2^62 by omega)];have B:=NJ l p;have:=t (a.1++uz p l,wC gd (-x.1) (p::l).reverse (wC gd x.1 (p::l) a.2)) (by simp;omega);rw[this];simp only[pz,b_,u,Em,bG,pM,gY]
def NX(h:fp al ag fs):∀(l:hI) (m:cu (Int×eY)),(∀a∈l,a∈ag)->(∀k p,fh gd k m=Z p->p≠[]/\aa p<=66) ->
  (∀k p,fh gd k (pM al ag l m)=Z p->p≠[]/\aa p<=66)/\(∀k,(fh gd k m).isSome=Y->(fh gd k (pM al ag l m)).isSome=Y)/\∀a∈l,(fh gd a.1 (pM al ag l m)).isSome=Y/\(fh gd (-a.1) (pM al ag l m)).isSome=Y
 | [],m,_,hm=>⟨hm,λ_ h=>h,λa ha=>by simp at ha⟩
 |a::l,m,hl,hm=>by
  let ⟨p,q,_,f,hlen⟩:=FW h (hl a (by simp));have c:∀k,fh gd k (wC gd (-a.1) (sy al ag a).reverse (wC gd a.1 (sy al ag a) m))=if k=-a.1 then Z (sy al ag a).reverse else ite (k=a.1) (Z (sy al ag a)) <|fh gd k m:=λk=>by rw[rV,rV]
  let ⟨i1,i2,i3⟩:=NX h l (wC gd (-a.1) (sy al ag a).reverse (wC gd a.1 (sy al ag a) m)) (λb e=>hl b (by simp[e])) (λk r d=>by
   rw[c]at d;split at d;cases d;rw[f];simp;omega;split at d;cases d;rw[f];simp;omega;exact hm k r d)
  refine⟨i1,λk hk=>i2 k ?_,λb e=>?_⟩;rw[c];split;rfl;split;rfl;exact hk;rcases aF.1 e with rfl|e
  refine⟨i2 _ ?_,i2 _ ?_⟩;rw[c];split;rfl;rw[cr rfl];rfl;rw[c,cr rfl];rfl;exact i3 b e
def bc0{β:Type}(m:cu (Int×eY))(c:eD)(hc:∀d∈c,∃l,fh gd d m=Z l/\l≠[]/\aa l<=66)(hl:aa c<=512)(K:Int×eY->dv β) :
  rounds (α:=Int×eY) (β:=β) (λk e=>
    cond (e.1<(aa c:Int)) (
     a8 (nth c e.1) λg=>
     a8 (oD (fh (λ(a b:Int)=>No (a=b)) g m) W) λf=>
     a8 (tx f W (Z (ek ((aa (f):Int)-(1:Int))))) λh=>
     a8 (j6 16 e.2 h) λj=>
     k ((ek (e.1+(1:Int))),j)) (K e)) ((0:Int),[])=K ((aa c:Int),vn m c):=by
 refine(vF (A:=eY) c (λi a=>((i:Int),a)) (λa rest=>K ((aa c:Int),a++vn m rest)) (λi a=>aa a<=66*i) (by omega) ?_ ?_ [] (by simp)).trans (by simp);intro rec a p;simp only[kj,bu,vn,fX,cg];intro rec i a x rest a7 p hd q;have n:x∈c:=by
  have:x∈c.drop i:=by rw[hd];simp
  exact ax this
 let ⟨l,h1,h2,t⟩:=hc x n;have o:=dg.2 h2;have r:=h1;have s:ek ((aa l:Int)-1)=((aa l-1:Nat):Int):=by rw[fx];omega
 simp only[fB a7,b6,iy hd,bT,r,oD,s,N0 (show aa l-1<=aa l by omega)];rw[m9,bT,f' a7,q _ (by simp;omega)];simp only[vn,b_,h1,cw,List.dropLast_eq_take,bG]
def aF8{β:Type}(h:fp al ag fs)(R:cu zy)(D:∀r∈R,r.2.1=[]\/r.2.1∈fp.l9 al ag)(hl:aa R<=1000000)(K:Int×cu oP->dv β) :
  rounds (α:=Int×cu oP) (β:=β) (λm e=>
   cond (e.1<(aa R:Int)) (
   a8 (nth R e.1) λc=>
   cond ((aa (c.2.1):Int)=(0:Int)) (
    m ((ek (e.1+(1:Int))),e.2)) (
    a8 (Bs ((al,ag,fs),c.2.1)) λn=>
    rounds (α:=Int×eY) (β:=β) (λs f=>
    cond (f.1<(aa (c.2.1):Int)) (
     a8 (nth c.2.1 f.1) λg=>
     a8 (oD (fh (λ(a b:Int)=>No (a=b)) g (pM al ag ag [])) W) λj=>
     a8 (tx j W (Z (ek ((aa (j):Int)-(1:Int))))) λo=>
     a8 (j6 16 f.2 o) λq=>
     s ((ek (f.1+(1:Int))),q)) (
     a8 (j6 40 e.2 [(c.1,n,f.2)]) λg=>
     m ((ek (e.1+(1:Int))),g))) ((0:Int),([]:eY)))) (K e)) ((0:Int),[])=K ((aa R:Int),vw al ag R):=by
 let ⟨g1,_,g3⟩:=NX h ag [] (λ_ h=>h) (λk p hk=>by simp[fh]at hk);refine(vF (A:=cu oP) R (λi a=>((i:Int),a)) (λa rest=>K ((aa R:Int),a++vw al ag rest)) (λi a=>aa a<=i) (by omega) ?_ ?_ [] (by simp)).trans (by simp);intro rec a E;simp only[kj,bu,vw,jI,dm,cg];intro rec i a x rest a7 E hd z;have t:x∈R:=by
  have:x∈R.drop i:=by rw[hd];simp
  exact ax this
 simp only[fB a7,iy hd,bT,f' a7 (show aa R<2^62 by omega)];by_cases he:x.2.1=[];have:=z a (by omega);simp only[dA,Int.natCast_zero,l6,b6,this,vw,cC,he,aw,aJ,l4];have u:=(D x t).resolve_left he;let ⟨c1,c2,B⟩:=h.wK.od _ u;have C:=dg.2 he;have G:No (((aa x.2.1:Nat):Int)=0)=U:=ft (by omega);rw[G,bu,h.Uj c2 B,bT];refine(bc0 _ x.2.1 (λd hd=>?_) c2 _).trans ?_;let ⟨_,_,b,H,v⟩:=B d hd;let ⟨s1,s2⟩:=g3 b H;have w:d=b.1\/d=-b.1:=by unfold la at v;omega
 have hs:(fh gd d (pM al ag ag [])).isSome=Y:=by
  rcases w with rfl|rfl
  exact s1;exact s2
 let ⟨l,hl⟩:=Option.isSome_iff_exists.1 hs;exact⟨l,hl,g1 d l hl⟩;rw[m9,bT,z _ (by simp;omega)];simp only[vw,cC,ft he,bj,vE,aq,bG,jS]
def MX(h:fp al ag fs)(hf:(oH ag (aa fs) Y (nP al ag) [] []).2=Y):CY (al,ag,fs)=Z (pz al ag ag,qd al ag fs):=by
 refine(bK2 h _).trans ?_;simp only[bZ0 h hf];have hz:=QH h hf;let ⟨_,hlen⟩:=h.Ih;have hp:(xW al ag fs).Perm (uY (tT al ag fs) (nP al ag)):=tG (IA _);have b:=hlen;refine(aF8 h (xW al ag fs) (λr c=>?_) (by rw[hp.length_eq,hz];exact b) _).trans ?_;have c:=hp.mem_iff.1 c;unfold uY at c;let ⟨i,a7,e⟩:=a_ c;rw[j_]at e;subst e;have d:i<aa (nP al ag):=by rw[ku]at a7;omega
 exact ao0 (a:=(nP al ag)[i]) (aA d);have f:aa (vw al ag (xW al ag fs))<=1000000:=by unfold vw;rw[aL];refine bD (bJ _ _) ?_;rw[hp.length_eq,hz];exact b
 simp only[aP0 f];rfl
end Dp
def rP(n:Int):0<=an ak n/\an ak n<=18446744073709551615:=by simp[an,ie,gN];omega
theorem G3{n:Int}(h:0<=n/\n<=18446744073709551615:=by omega):an ak n=n:=IntWalk.u64_in n h
def aS8{n:Int}(h:0<=n/\n<=255):fE.wrap n=n:=IntWalk.u8_in n h
def uT(i:Nat):Nat:=ite (i=0) 0 <|ite (i<2) 1 <|ite (i<4) 2 <|ite (i<8) 3 <|ite (i<16) 4 <|ite (i<32) 5 <|ite (i<64) 6 <|ite (i<128) 7 8
theorem aZ3:((aQ 256).all λi=>pE Ea (i:Int)==Z ((uT i:Nat):Int))=Y:=by decide +kernel
def bQ1{v:Int}(h:0<=v/\v<=255):pE Ea v=Z ((uT v.toNat:Nat):Int):=by grind[ aZ3]
def bY7{i:Nat}(h:i<=255):(uT i=0/\i=0)\/(uT i=1/\i=1)\/(uT i=2/\2<=i/\i<4)\/(uT i=3/\4<=i/\i<8)\/(uT i=4/\8<=i/\i<16)\/(uT i=5/\16<=i/\i<32)\/(uT i=6/\32<=i/\i<64)\/(uT i=7/\64<=i/\i<128)\/(uT i=8/\128<=i):=by grind[uT]
def fd{x k:Int}(hk:0<=k):x.fdiv k=x / k:=Int.fdiv_eq_ediv_of_nonneg x hk
def ap3:(2:Int)^(min (32:Int).toNat ak.bits)=4294967296:=by decide
def bL9:(2:Int)^(min (16:Int).toNat ak.bits)=65536:=by decide
def bM0:(2:Int)^(min (8:Int).toNat ak.bits)=256:=by decide
def Vp(x:Int):x.fdiv 4294967296=x / 4294967296:=fd (by decide)
def bi1(x:Int):x.fdiv 65536=x / 65536:=fd (by decide)
def bi2(x:Int):x.fdiv 256=x / 256:=fd (by decide)
def bi7:No ((32:Int)<0)=U:=by decide
def bi6:No ((16:Int)<0)=U:=by decide
def Jm{a b:Nat}:(2:Int)^(a+b)=2^a*2^b:=Int.pow_add 2 a b
def bn0{x q K:Int}{k:Nat}(b:K=2^k)(c:q=x / K)(h1:1<=q)(h2:q<=255)(hk:k<=56):∃n:Nat,((k:Int)+((uT q.toNat:Nat):Int))=(n:Int)/\1<=n/\n<=64/\(2:Int)^(n-1)<=x/\x<2^n:=by
 have a:0<K:=by grind
 have e:=Int.emod_add_mul_ediv x K;have m1:=dq x (show K≠0 by omega);have m2:=dj x a;have key:∀t:Nat,1<=t->t<=8->(2:Int)^(t-1)<=q->q<2^t->∃n:Nat,((k:Int)+(t:Int))=(n:Int)/\1<=n/\n<=64/\(2:Int)^(n-1)<=x/\x<2^n:=by
  intro t t1 t8 l2 x8;refine⟨k+t,by omega,by omega,by omega,?_,?_⟩;rw[show k+t-1=(t-1)+k by omega,Jm,<-b];have:(2:Int)^(t-1)*K<=q*K:=aP l2 (by omega)
  grind
  have d:(q+1)*K<=(2:Int)^t*K:=aP (by omega) (by omega)
  grind
 rcases bY7 (i:=q.toNat) (by omega)with h|h|h|h|h|h|h|h|h
 omega
 all_goals
  rw[h.1];exact key _ (by decide) (by decide) (by simp;omega) (by simp;omega)
theorem aP5{x:Int}(h:1<=x/\x<=18446744073709551615):∃n:Nat,Fy x=Z (n:Int)/\1<=n/\n<=64/\(2:Int)^(n-1)<=x/\x<2^n:=by
 have fin:∀(K q:Int) (k:Nat),K=2^k->q=x / K->1<=q->q<=255->k<=56->∃n:Nat,a8 (pE Ea (fE.wrap q)) (λb=>Z (ek ((k:Int)+ek b)))=Z (n:Int)/\1<=n/\n<=64/\(2:Int)^(n-1)<=x/\x<2^n:=by intro K q k c d fa gb hk;let ⟨n,e,r⟩:=bn0 c d fa gb hk;refine⟨n,?_,r⟩;rw[aS8 ⟨by omega,gb⟩,bQ1 ⟨by omega,gb⟩,bT,fx (n:=((uT q.toNat:Nat):Int)),e,fx]
 unfold Fy;simp only[LW,len8,bT,ap3,bL9,bM0,Vp,bi1,bi2,bi7,bi6,bu];by_cases c1:(4294967296:Int)<=x;simp only[c1];by_cases c2:(65536:Int)<=x / 4294967296;simp only[c2];by_cases a:(256:Int)<=x / 4294967296 / 65536;simp only[a];exact fin 72057594037927936 _ 56 (by decide) (by omega) (by omega) (by omega) (by decide);simp only[a];exact fin 281474976710656 _ 48 (by decide) (by omega) (by omega) (by omega) (by decide);simp only[c2];by_cases a:(256:Int)<=x / 4294967296;simp only[a];exact fin 1099511627776 _ 40 (by decide) (by omega) (by omega) (by omega) (by decide);simp only[a];exact fin 4294967296 _ 32 (by decide) (by omega) (by omega) (by omega) (by decide);simp only[c1];by_cases c2:(65536:Int)<=x;simp only[c2];by_cases a:(256:Int)<=x / 65536;simp only[a];exact fin 16777216 _ 24 (by decide) (by omega) (by omega) (by omega) (by decide);simp only[a];exact fin 65536 _ 16 (by decide) (by omega) (by omega) (by omega) (by decide);simp only[c2];by_cases a:(256:Int)<=x;simp only[a];exact fin 256 _ 8 (by decide) (by omega) (by omega) (by omega) (by decide);simp only[a];exact fin 1 _ 0 (by decide) (by omega) (by omega) (by omega) (by decide)
def r8{α:Type}{c:Bool}{e:α}(h:c=U):(cond c W <|some e)=Z e:=by rw[h];rfl
def bm5{x:Int}(h:1<=x/\x<=18446744073709551615):∃v,H5 x=Z v/\∃n:Nat,v=64-(n:Int)/\1<=n/\n<=64/\(2:Int)^(n-1)<=x/\x<2^n:=by grind[aP5,H5,bT,fx]
def tQ(x:Int):∃v,rU x=Z v/\0<=v/\v<=18446744073709551615/\(-9223372036854775808<=x->x<=9223372036854775807->v=(x.natAbs:Int)):=by unfold rU;by_cases h:x<0;simp only[h];simp only[an,ie,gN];simp;omega;simp only[h];refine⟨_,rfl,(rP _).1,(rP _).2,λh1 h2=>?_⟩;rw[G3];omega
def am1{n:Int}(h:0<=n):∃v,xx (n,U)=Z v/\0<=v.1/\v.1<=9223372036854775807/\(n<=9223372036854775807->v=(n,Y)):=by unfold xx;by_cases h1:9223372036854775807<n;simp only[h1];exact⟨_,rfl,by simp,by simp,λh=>by omega⟩;simp only[h1];rw[fx];exact⟨_,rfl,by simpa using h,by simp only;omega,λ_=>rfl⟩
theorem FC(a b:Nat)(d:b<=18446744073709551615):Bk ((a:Int),(b:Int))=Z ((bN a b:Nat):Int):=by
  refine(Fq (λx:Int×Int=>∃a b:Nat,x=((a:Int),(b:Int))/\b<=18446744073709551615) (·.2.toNat) (λx=>Z ((bN x.1.toNat x.2.toNat:Nat):Int)) ?_ ⟨a,b,rfl,d⟩ (by show((b:Int)).toNat<_;omega)).trans (by simp);rintro rec x ⟨a,b,rfl,d⟩ f;by_cases g:b=0;subst g;simp;have e:No ((b:Int)=0)=U:=ft (by omega);have em:(a:Int).tmod (b:Int)=((a%b:Nat):Int):=by rw[jq (by omega)];rfl
  have c:a%b<b:=dZ _ (by omega);simp only[e,bj,b6,bu,bT,em];rw[f ((b:Int),((a%b:Nat):Int)) ⟨b,a%b,rfl,by omega⟩ (by simp;exact c)];simp only[aO];rw[ka b (a%b),<-Nat.gcd_rec,ka]
def sq_nonneg(x:Int):0<=x*x:=by
  rcases iL 0 x with h|h
  exact aH h h;exact Int.mul_nonneg_of_nonpos_of_nonpos h h
def Dl{a b:bs}(ha:d' a=Y)(c:d' b=Y):vD (a,b)=Z ((b.1-a.1)*(b.1-a.1)+(b.2-a.2)*(b.2-a.2))/\0<=(b.1-a.1)*(b.1-a.1)+(b.2-a.2)*(b.2-a.2)/\(b.1-a.1)*(b.1-a.1)+(b.2-a.2)*(b.2-a.2)<=35184372088832:=by rw[wH]at ha c;let ⟨m1,m2⟩:=vR (a:=b.1-a.1) (b:=b.1-a.1) (m:=4194304) (n:=4194304);let ⟨m3,m4⟩:=vR (a:=b.2-a.2) (b:=b.2-a.2) (m:=4194304) (n:=4194304);have q5:0<=(b.1-a.1)*(b.1-a.1):=sq_nonneg _;have nj:0<=(b.2-a.2)*(b.2-a.2):=sq_nonneg _;unfold vD;rw[fx (n:=b.1-a.1),fx (n:=b.2-a.2),fx (n:=(b.1-a.1)*(b.1-a.1)),fx (n:=(b.2-a.2)*(b.2-a.2)),fx];exact⟨rfl,by omega,by omega⟩
namespace Dp
def Ly{v:Int}(a:0<=v)(h1:v<=18446744073709551615):an ak (aY ak.bits v &&& aY ak.bits (4294967295:Int)).toNat=v%4294967296:=by
 obtain⟨n,rfl⟩:∃n:Nat,v=(n:Int):=⟨v.toNat,by omega⟩;have e:(aY ak.bits (n:Int) &&& aY ak.bits (4294967295:Int)).toNat=n%4294967296:=by show(aY 64 (n:Int) &&& aY 64 (4294967295:Int)).toNat=_;rw[BitVec.toNat_and,fu,fu,show((4294967295:Int)%((2^64:Nat):Int)).toNat=2^32-1 by decide,Nat.and_two_pow_sub_one_eq_mod,show((n:Int)%((2^64:Nat):Int)).toNat=n by omega]
 rw[e,G3];omega
def Eo{x y m n:Int}(d:0<=x)(a:x<=m)(c:0<=y)(b:y<=n):0<=x*y/\x*y<=m*n:=⟨aH d c,kQ a b c (by omega)⟩
def Nf{x y:Int}(h:0<=x)(f:x<=18446744073709551615)(i:0<=y)(g:y<=18446744073709551615):zI (x,y)=Z (x*y / 18446744073709551616,x*y%18446744073709551616):=by
 unfold zI;simp only[bT,bi7,bu,ap3,Vp,Ly h f,Ly i g];obtain⟨c,a2⟩:∃a b,x=a*4294967296+b/\0<=b/\b<=4294967295/\0<=a/\a<=4294967295:=⟨x / 4294967296,x%4294967296,by omega⟩;obtain⟨d,rfl,q5,nj,rM,s_⟩:=a2;obtain⟨c1,c2⟩:∃a b,y=a*4294967296+b/\0<=b/\b<=4294967295/\0<=a/\a<=4294967295:=⟨y / 4294967296,y%4294967296,by omega⟩;obtain⟨K_,rfl,fa,gb,lb,yF⟩:=c2;rw[show(c*4294967296+d) / 4294967296=c by omega,show(c*4294967296+d)%4294967296=d by omega,show(c1*4294967296+K_) / 4294967296=c1 by omega,show(c1*4294967296+K_)%4294967296=K_ by omega];have e:(c*4294967296+d)*(c1*4294967296+K_)=c*c1*18446744073709551616+(c*K_+d*c1)*4294967296+d*K_:=by grind
 rw[e];let ⟨m1,m2⟩:=Eo rM s_ lb yF;let ⟨m3,m4⟩:=Eo rM s_ fa gb;let ⟨m5,m6⟩:=Eo q5 nj lb yF;let ⟨m7,m8⟩:=Eo q5 nj fa gb;generalize c*c1=A at *;generalize c*K_=B at *;generalize d*c1=C at *;generalize d*K_=D at *;clear e;rw[G3 (n:=D),G3 (n:=B),G3 (n:=B+D / 4294967296),Ly (by omega) (by omega),G3 (n:=C),G3 (n:=(B+D / 4294967296)%4294967296+C),G3 (n:=A),G3 (n:=A+(B+D / 4294967296) / 4294967296),G3];have j:an ak (A*18446744073709551616+(B+C)*4294967296+D)=(A*18446744073709551616+(B+C)*4294967296+D)%18446744073709551616:=by simp[an,ie,gN]
 rw[j];congr 2;omega
def O7{u d y a K_ q r:Int}(c:y=a*4294967296+K_)(h1:2147483648<=a)(f:0<=K_)(h:K_<=4294967295)(hd:0<=d)(VJ:0<=q)(i:r=u-q*a)(j:(u*4294967296+d) / y<=q)
  (b:(4294967296<=r/\q<=4294967296)\/q*K_<=4294967296*r+d):q=(u*4294967296+d) / y:=by
 have hyp:0<y:=by omega
 have e:q*y=q*a*4294967296+q*K_:=by rw[c];grind
 have hle:q*y<=u*4294967296+d:=by
  rcases b with⟨g1,g2⟩|g
  have m:q*K_<=4294967296*4294967295:=kQ g2 h f (by omega);generalize q*a=A at *;generalize q*K_=B at *;omega;generalize q*a=A at *;generalize q*K_=B at *;omega
 have:=Int.le_ediv_of_mul_le hyp hle;omega
def ax0{u d y a K_ q r:Int}(f:y=a*4294967296+K_)(h1:2147483648<=a)(h:0<=K_)(hd:0<=d)(sX:d<=4294967295)(hu:u<y)(i:r=u-q*a)
  (b:4294967296<=q\/4294967296*r+d<q*K_):(u*4294967296+d) / y<=q-1:=by
 have hyp:0<y:=by omega
 have e:q*y=q*a*4294967296+q*K_:=by rw[f];grind
 have c:u*4294967296+d<q*y:=by
  rcases b with g|g
  have:4294967296*y<=q*y:=aP g (by omega);omega;generalize q*a=A at *;generalize q*K_=B at *;omega
 have:=cm hyp c;omega
def SZ{u y a K_ d:Int}(c:y=a*4294967296+K_)(h1:2147483648<=a)(f:0<=K_)(i:K_<=4294967295)(b:0<=u)(hu:u<y)(hd:0<=d)(sX:d<=4294967295) :
  (u*4294967296+d) / y<=u / a/\0<=u / a/\u / a<=4294967297/\0<=u-u / a*a/\u-u / a*a<a:=by
 have hyp:0<y:=by omega
 have hm:=dq u (by omega:a≠0);have g:=dj u (by omega:0<a);have h:=df u a;have j:a*(u / a)=u / a*a:=bX ..;refine⟨?_,bK b (by omega),?_,by omega,by omega⟩;have:(u*4294967296+d) / y<u / a+1:=by
  refine cm hyp ?_;have e:(u / a+1)*y=(u / a*a+a)*4294967296+(u / a+1)*K_:=by rw[c];grind
  have p:0<=(u / a+1)*K_:=aH (by have:=bK b (show 0<=a by omega);omega) f;rw[e];generalize u / a*a=A at *;generalize(u / a+1)*K_=B at *;omega
 omega;have:u / a<4294967298:=by refine cm (by omega) ?_;omega
 omega
end Dp
namespace Dp
theorem LD(n:Int):an ak n=n%18446744073709551616:=by simp[an,ie,gN]
theorem B2{a b:Int}(ha:0<=a:=by omega):a.tdiv b=a / b:=Int.tdiv_eq_ediv_of_nonneg ha
section
variable {y y1 K_:Int} (hy:y=y1*4294967296+K_) (h1:2147483648<=y1) (h1':y1<=4294967295) (h3:0<=K_) (h4:K_<=4294967295)
include hy h1 h1' h3 h4
theorem RU{u d q r:Int}(c:0<=u)(hu:u<y)(hd:0<=d)(sX:d<=4294967295)(j:q<=4294967297)(f:r=u-q*y1)(g:0<=r)(i:r<=4294967295)
  (a:4294967296<=q\/4294967296*r+d<q*K_):(u*4294967296+d) / y<=q-1/\0<=q-1/\an ak (q-1)=q-1/\an ak (r+y1)=r+y1/\r+y1=u-(q-1)*y1/\(4294967296<=r+y1->q-1=(u*4294967296+d) / y):=by
 have b:=ax0 hy h1 h3 hd sX hu f a;have Ng:0<=(u*4294967296+d) / y:=bK (by omega) (by omega);have e:r+y1=u-(q-1)*y1:=by grind[mL]
 exact⟨b,by omega,G3,G3,e,λh=>O7 hy h1 h3 h4 hd (by omega) e b (.inl ⟨h,by omega⟩)⟩
theorem aD7{d a b u:Int}(e:0<=u)(hu:u<y)(hd:0<=a)(sX:a<=4294967295):MP d y y1 K_ a b u=Fw d y a b u ((u*4294967296+a) / y):=by
 let ⟨s1,s2,f,g,i⟩:=SZ hy h1 h3 h4 e hu hd sX;have j:=aH s2 (show 0<=y1 by omega);unfold MP;rw[r8 (ft (by omega)),bT,B2 e,G3 (n:=u / y1),G3 (n:=u / y1*y1),G3 (n:=u-u / y1*y1)];refine V5 (λx:Int×Int=>0<=x.2/\x.2<=4294967297/\x.1=u-x.2*y1/\0<=x.1/\x.1<=4294967295/\(u*4294967296+a) / y<=x.2) (·.2.toNat) (·=Fw d y a b u ((u*4294967296+a) / y)) ?_ ⟨s2,f,rfl,g,by simp only;omega,s1⟩ (by simp only;omega);rintro k ⟨r,q⟩ ⟨i1,i2,i3,i4,i5,i6⟩ l;simp only at i1 i2 i3 i4 i5 i6⊢;have go:(4294967296<=q\/4294967296*r+a<q*K_)->(cond ((4294967296:Int)<=an ak (r+y1)) (Fw d y a b u (an ak (q-(1:Int)))) (k (an ak (r+y1),an ak (q-(1:Int)))))=Fw d y a b u ((u*4294967296+a) / y):=λh=>by
  let ⟨t1,t2,t3,t4,t5,t6⟩:=RU hy h1 h1' h3 h4 e hu hd sX i2 i3 i4 i5 h
  grind[decide_eq_true,decide_eq_false]
 by_cases c:4294967296<=q
 grind[decide_eq_true]
 rw[ft c,bu];have m:=Eo i1 (show q<=4294967295 by omega) h3 h4;rw[G3 (n:=4294967296*r),G3 (n:=4294967296*r+a),G3 (n:=q*K_)];by_cases c2:4294967296*r+a<q*K_
 grind[decide_eq_true]
 rw[ft c2,bu,O7 hy h1 h3 h4 hd i1 i3 i6 (.inr (by omega))]
theorem aC2{c a b u:Int}(d:0<=u)(hu:u<y)(hd:0<=a)(sX:a<=4294967295)(hf:0<=b)(f:b<=4294967295) :
  MO c y y1 K_ u a b ((u*4294967296+a) / y)=Fw c y b ((u*4294967296+a) / y) ((u*4294967296+a)%y) (((u*4294967296+a)%y*4294967296+b) / y):=by
 have hyp:0<y:=by omega
 have hm:=dq (u*4294967296+a) (by omega:y≠0);have g:=dj (u*4294967296+a) hyp;have h:=df (u*4294967296+a) y;have e:an ak (an ak (an ak (u*(4294967296:Int))+a)-an ak ((u*4294967296+a) / y*y))=(u*4294967296+a)%y:=by grind[bX,LD]
 grind[MO,aD7]
end
def aS2{a c:Int}{s:Nat}(ha:0<=a)(hc:0<=c)(b:c<2^s)(d:a*2^s+c<=18446744073709551615):an ak (aY ak.bits (a*2^s) |||aY ak.bits c).toNat=a*2^s+c:=by
 obtain⟨n,rfl⟩:∃n:Nat,a=(n:Int):=⟨a.toNat,by omega⟩;obtain⟨m,rfl⟩:∃m:Nat,c=(m:Int):=⟨c.toNat,by omega⟩;have e:((n:Int)*2^s)=((2^s*n:Nat):Int):=by grind
 have hm:m<2^s:=by grind[Int.natCast_pow]
 rw[e]at d⊢;have f:(aY ak.bits ((2^s*n:Nat):Int) |||aY ak.bits (m:Int)).toNat=2^s*n+m:=by show(aY 64 ((2^s*n:Nat):Int) |||aY 64 (m:Int)).toNat=_;rw[BitVec.toNat_or,fu,fu,show(((2^s*n:Nat):Int)%((2^64:Nat):Int)).toNat=2^s*n by omega,show((m:Int)%((2^64:Nat):Int)).toNat=m by omega,<-Nat.two_pow_add_eq_or_of_lt hm]
 rw[f,G3];omega
def WR{u y un1 au5:Int}(b:0<y)(h1:0<=au5)(h2:au5<=4294967295):(u*4294967296+un1) / y*4294967296+((u*4294967296+un1)%y*4294967296+au5) / y=(u*18446744073709551616+un1*4294967296+au5) / y:=by
 have a:=df (u*4294967296+un1) y;have e:u*18446744073709551616+un1*4294967296+au5=((u*4294967296+un1)%y*4294967296+au5)+y*((u*4294967296+un1) / y*4294967296):=by grind
 rw[e,Int.add_mul_ediv_left _ _ (by omega)];omega
end Dp
namespace Dp
def Z1{a7 b7 y:Int}(g1:0<=a7)(g2:a7<y)(g3:y<=18446744073709551615)(l0:0<=b7)(l2:b7<=18446744073709551615):∃r,IY (a7,b7,y)=Z ((a7*18446744073709551616+b7) / y,r):=by
 unfold IY;simp only[bT];rw[ft (by omega:¬y=0),bu,ft (by omega:¬y<=a7),bu];by_cases o:a7=0;rw[hT o,b6,bu,bT,bu,bT,B2 l0,o];have:=bK l0 (show 0<=y by omega);have:=fw y l0;exact⟨_,by rw[G3,show(0:Int)*18446744073709551616+b7=b7 by omega]⟩;rw[ft o,bu];let ⟨p,I,n,hv,n1,n2,J,K⟩:=bm5 (x:=y) ⟨by omega,g3⟩;rw[I];simp only[bT,bi7,bu,ap3,Vp];have eb:ak.bits=64:=rfl;have M:an ak p=((64-n:Nat):Int):=by rw[G3];omega
 rw[M];generalize hs:64-n=s;have t:n+s=64:=by omega
 have nj:(2:Int)^n*2^s=18446744073709551616:=by rw[<-Jm,t];decide
 have v:(0:Int)<2^s:=mM (by decide);have H:(0:Int)<2^n:=mM (by decide);have h:min ((s:Nat):Int).toNat ak.bits=s:=by show min ((s:Nat):Int).toNat 64=s;omega
 rw[ft (by omega:¬((s:Nat):Int)<0),h];simp only[bu,bT];have z:an ak (64-((s:Nat):Int))=(n:Int):=by rw[G3];omega
 rw[z];have g:min ((n:Nat):Int).toNat ak.bits=n:=by show min ((n:Nat):Int).toNat 64=n;omega
 rw[ft (by omega:¬((n:Nat):Int)<0),g,bu,bT,fd (show(0:Int)<=2^n by omega)];have N:y*2^s<18446744073709551616:=by have:=eC K v;rw[nj]at this;exact this
 have B:9223372036854775808<=y*2^s:=by have:=aP J (show(0:Int)<=2^s by omega);rw[<-Jm,show n-1+s=63 by omega]at this;exact this
 have hh:a7*2^s+2^s<=y*2^s:=by
  have:=aP (show a7+1<=y by omega) (show(0:Int)<=2^s by omega)
  grind[gE]
 have xQ:0<=a7*2^s:=aH g1 (by omega);have c0:0<=b7 / 2^n:=bK l0 (by omega);have c1:b7 / 2^n<2^s:=cm H (by rw[bX,nj];omega);rw[G3 (n:=y*2^s),G3 (n:=a7*2^s),aS2 g1 c0 c1 (by omega)];have C:=df b7 (2^n);have D:=dq b7 (show(2:Int)^n≠0 by omega);have i:=dj b7 H;have O:b7%2^n*2^s<18446744073709551616:=by have:=eC i v;rw[nj]at this;exact this
 have E:0<=b7%2^n*2^s:=aH D (by omega);have j:b7*2^s=b7 / 2^n*18446744073709551616+b7%2^n*2^s:=by
  have:(2^n*(b7 / 2^n)+b7%2^n)*2^s=b7 / 2^n*(2^n*2^s)+b7%2^n*2^s:=by grind
  rw[C,nj]at this;exact this
 have G:an ak (b7*2^s)=b7%2^n*2^s:=by rw[LD,j];omega
 rw[G,Ly (by omega) (by omega),Ly (by omega) (by omega)];have cb:(a7*2^s+b7 / 2^n)*18446744073709551616+b7%2^n*2^s=(a7*18446744073709551616+b7)*2^s:=by
  have:(a7*18446744073709551616+b7)*2^s=a7*2^s*18446744073709551616+b7*2^s:=by grind
  rw[this,j];omega
 have P:(a7*18446744073709551616+b7) / y=((a7*18446744073709551616+b7)*2^s) / (y*2^s):=(Int.mul_ediv_mul_of_pos_left _ _ v).symm;rw[P,<-cb];have b:a7*2^s+b7 / 2^n<y*2^s:=by omega
 have e:0<=a7*2^s+b7 / 2^n:=by omega
 generalize a7*2^s+b7 / 2^n=u at b e⊢;generalize b7%2^n*2^s=w at O E⊢;generalize y*2^s=a at N B b⊢;have f:a=a / 4294967296*4294967296+a%4294967296:=by omega
 have l:2147483648<=a / 4294967296:=by omega
 have a2:a / 4294967296<=4294967295:=by omega
 have a3:0<=a%4294967296:=by omega
 have a4:a%4294967296<=4294967295:=by omega
 let ⟨s1,s2,Q,S,s5⟩:=SZ (d:=w / 4294967296) f l a3 a4 e b (by omega) (by omega);have s6:=aH s2 (show 0<=a / 4294967296 by omega);rw[ft (by omega:¬a / 4294967296=0),bu,bT,B2 e,G3 (n:=u / (a / 4294967296)),G3 (n:=u / (a / 4294967296)*(a / 4294967296)),G3 (n:=u-u / (a / 4294967296)*(a / 4294967296))];obtain⟨R,fin⟩:∃R,MO (s:Int) a (a / 4294967296) (a%4294967296) u (w / 4294967296) (w%4294967296) ((u*4294967296+w / 4294967296) / a)=Z ((u*18446744073709551616+w) / a,R):=by rw[aC2 f l a2 a3 a4 e b (by omega) (by omega) (by omega) (by omega)];unfold Fw;rw[r8 (ft (by omega)),bT];have d2:=WR (u:=u) (y:=a) (un1:=w / 4294967296) (au5:=w%4294967296) (by omega) (by omega) (by omega);rw[show u*18446744073709551616+w / 4294967296*4294967296+w%4294967296=u*18446744073709551616+w by omega]at d2;have fa:(u*4294967296+w / 4294967296) / a<4294967296:=cm (by omega) (by omega);have q1':0<=(u*4294967296+w / 4294967296) / a:=bK (by omega) (by omega);have m1:=dq (u*4294967296+w / 4294967296) (show a≠0 by omega);have m2:=dj (u*4294967296+w / 4294967296) (show 0<a by omega);have qN:((u*4294967296+w / 4294967296)%a*4294967296+w%4294967296) / a<4294967296:=cm (by omega) (by omega);have q0':0<=((u*4294967296+w / 4294967296)%a*4294967296+w%4294967296) / a:=bK (by omega) (by omega);exact⟨_,by rw[G3 (n:=(u*4294967296+w / 4294967296) / a*4294967296),G3,d2]⟩
 refine⟨R,?_⟩;refine V5 (λx:Int×Int=>0<=x.1/\x.1<=4294967297/\x.2=u-x.1*(a / 4294967296)/\0<=x.2/\x.2<=4294967295/\(u*4294967296+w / 4294967296) / a<=x.1) (·.1.toNat) (·=Z ((u*18446744073709551616+w) / a,R)) ?_ ⟨s2,Q,rfl,S,by simp only;omega,s1⟩ (by simp only;omega);rintro k ⟨q,r⟩ ⟨i1,i2,i3,i4,i5,i6⟩ ih;simp only at i1 i2 i3 i4 i5 i6⊢;have go:(4294967296<=q\/4294967296*r+w / 4294967296<q*(a%4294967296))->(cond ((4294967296:Int)<=an ak (r+a / 4294967296)) (MO (s:Int) a (a / 4294967296) (a%4294967296) u (w / 4294967296) (w%4294967296) (an ak (q-(1:Int)))) (k (an ak (q-(1:Int)),an ak (r+a / 4294967296))))=Z ((u*18446744073709551616+w) / a,R):=λhb=>by
  let ⟨t1,t2,t3,t4,t5,t6⟩:=RU f l a2 a3 a4 e b (by omega) (by omega) i2 i3 i4 i5 hb
  grind[decide_eq_true,decide_eq_false]
 by_cases c:4294967296<=q
 grind[decide_eq_true]
 rw[ft c,bu];have m:=Eo i1 (show q<=4294967295 by omega) a3 a4;rw[G3 (n:=4294967296*r),G3 (n:=4294967296*r+w / 4294967296),G3 (n:=q*(a%4294967296))];by_cases c2:4294967296*r+w / 4294967296<q*(a%4294967296)
 grind[decide_eq_true]
 rw[ft c2,bu,O7 f l a3 a4 (by omega) i1 i3 i6 (.inr (by omega))];exact fin
end Dp
namespace Dp
def sl(a b:bs):Int:=(b.1-a.1)*(b.1-a.1)+(b.2-a.2)*(b.2-a.2)
def A4(a b p:bs):Int:=(b.1-a.1)*(p.1-a.1)+(b.2-a.2)*(p.2-a.2)
def Ba(a b p:bs)(G:Int):Prop:=ite (A4 a b p<=0) (sl a p<G) <|ite (sl a b<=A4 a b p) (sl b p<G) <|fr a b p*fr a b p<G*sl a b
instance aU9 (a b p:bs) (G:Int):Decidable (Ba a b p G):=inferInstanceAs (Decidable (ite (A4 a b p<=0) (sl a p<G) <|ite (sl a b<=A4 a b p) (sl b p<G) <|fr a b p*fr a b p<G*sl a b))
theorem EV{x:Int}(a:0<=x)(h1:x<=9223372036854775807):rU x=Z x:=by
 let ⟨v,e,_,_,h⟩:=tQ x
 grind
def V9{t c:Int}(k:-9223372036854775807<=t)(j:t<=9223372036854775807)(hc:1<=c)(d:c<=9223372036854775807)(l:t*t<c*9223372036854775808):FD (t,t,c)=Z (t*t / c,0):=by
 let ⟨v,e,a,b,hv⟩:=tQ t;have hv:=hv (by omega) (by omega);have f:v*v=t*t:=by grind[Int.natAbs_eq]
 have g:=sq_nonneg t;have hm:=Nf a b a b;rw[f]at hm;have h:t*t / 18446744073709551616<c:=cm (by decide) (by omega);let ⟨r,hd⟩:=Z1 (a7:=t*t / 18446744073709551616) (b7:=t*t%18446744073709551616) (y:=c) (by omega) h (by omega) (by omega) (by omega);rw[show t*t / 18446744073709551616*18446744073709551616+t*t%18446744073709551616=t*t by omega]at hd;have hw:t*t / c<9223372036854775808:=cm (by omega) (by omega);have i:0<=t*t / c:=bK g (by omega);let ⟨s,es,_,_,hs⟩:=am1 i;have hs:=hs (by omega);unfold FD;simp only[bT,e,hm,EV (x:=c) (by omega) d]
 grind[decide_eq_false,bT,aw,bj]
def aM8{a b:Int}(h1:0<=a)(h2:a<=9223372036854775807)(d:1<=b)(c:b<=9223372036854775807):DK (a,b)=Z ((bN a.toNat b.toNat:Nat):Int):=by unfold DK;simp only[EV h1 h2,EV (show 0<=b by omega) c,bT];have:=FC a.toNat b.toNat (by omega);rw[show((a.toNat:Nat):Int)=a by omega,show((b.toNat:Nat):Int)=b by omega]at this;rw[this,bT];have hle:bN a.toNat b.toNat<=b.toNat:=lG _ (by omega);let ⟨s,es,_,_,hs⟩:=am1 (n:=((bN a.toNat b.toNat:Nat):Int)) (by omega);rw[es,hs (by omega)];rfl
def aF2{m d G:Int}(hm:0<=m)(a:m<=9223372036854775807)(hd:1<=d)(sX:d<=9223372036854775807)(h:bN m.toNat d.toNat=1)(e:0<=G)(b:G<=9223372036854775807):∃c,wM ((m,d),(G,1))=Z c/\(c<0↔m<G*d):=by
 have val:∀ {x y:Int},0<=x->x<=9223372036854775807->1<=y->y<=9223372036854775807->bN x.toNat y.toNat=1->BE (x,y)=Z Y:=λ{x y} h1 h2 i j k=>by grind[BE,decide_eq_true,EV,bT,FC]
 have f:=val hm a hd sX h;have g:=val e b (show(1:Int)<=1 by omega) (by omega) (by grind[bN,jy]);have m1:=Nf hm (show m<=18446744073709551615 by omega) (show(0:Int)<=1 by omega) (by omega);have m2:=Nf e (show G<=18446744073709551615 by omega) (show 0<=d by omega) (by omega);have l:0<=G*d:=aH e (by omega);unfold wM;simp only[f,g,bT,aw,bu,EV hm a,EV e b,EV (show(0:Int)<=1 by omega) (by omega),EV (show 0<=d by omega) sX,m1,m2,ft (show ¬m<0 by omega),ft (show ¬G<0 by omega),BEq.rfl,eE];generalize G*d=X at *;by_cases c1:m / 18446744073709551616=X / 18446744073709551616<;>grind[decide_eq_true,decide_eq_false]
def aQ6(a b p:bs):sl a b*sl a p=A4 a b p*A4 a b p+fr a b p*fr a b p:=by unfold sl A4 fr;grind
def aH2{t L:Int}(c:0<L):∃g D R:Int,g=((bN (t*t%L).toNat L.toNat:Nat):Int)/\1<=g/\g<=L/\D=L / g/\R=t*t%L / g/\L=g*D/\t*t%L=g*R/\1<=D/\0<=R/\R<D/\bN (t*t / L*D+R).toNat D.toNat=1/\(∀G:Int,t*t / L*D+R<G*D↔t*t<G*L)/\∀G:Int,t*t / L<G↔t*t<G*L:=by
 have u:=dq (t*t) (by omega:L≠0);have h1:=dj (t*t) c;have m:=df (t*t) L;have n:0<=t*t / L:=bK (sq_nonneg t) (by omega);generalize o:t*t / L=kO at *;obtain⟨x,f⟩:∃x:Nat,t*t%L=(x:Int):=⟨(t*t%L).toNat,by omega⟩;obtain⟨y,i⟩:∃y:Nat,L=(y:Int):=⟨L.toNat,by omega⟩;obtain⟨w,hw⟩:∃w:Nat,kO=(w:Int):=⟨kO.toNat,by omega⟩;have hyp:0<y:=by omega
 have j:0<bN x y:=Nat.gcd_pos_of_pos_right _ hyp;let ⟨d,hd⟩:=Nat.gcd_dvd_right x y;let ⟨r,a⟩:=Nat.gcd_dvd_left x y;have co:bN r d=1:=by
  have:=Nat.gcd_mul_left (bN x y) r d;rw[<-a,<-hd]at this;have h2:bN x y*1=bN x y*bN r d:=by omega
  exact(Nat.eq_of_mul_eq_mul_left j h2).symm
 have b:=lG x hyp;have k:bN (t*t%L).toNat L.toNat=bN x y:=by rw[f,i];rfl
 generalize bN x y=K at hd a j b k;have l:L=(K:Int)*(d:Int):=by rw[i,hd,dt]
 have p:t*t%L=(K:Int)*(r:Int):=by rw[f,a,dt]
 have q:t*t=(K:Int)*(kO*(d:Int)+(r:Int)):=by grind
 refine⟨(K:Int),(d:Int),(r:Int),by rw[k],by omega,by omega,?_,?_,l,p,?_,by omega,?_,?_,?_,?_⟩
 grind[jD]
 grind[jD]
 grind[Nat.eq_zero_or_pos]
 have:K*r<K*d:=by omega
 have:=Nat.lt_of_mul_lt_mul_left this;omega;have e:(kO*(d:Int)+(r:Int)).toNat=r+d*w:=by rw[hw,show((w:Int)*(d:Int)+(r:Int))=((r+d*w:Nat):Int)by grind];omega
 grind[aO,ka,Nat.gcd_add_mul_left_right]
 intro G;have s:G*L=(K:Int)*(G*(d:Int)):=by
  conv=>lhs;rw[l]
  grind
 rw[q,s];exact⟨λh=>cd h (by omega),λh=>gm h (by omega)⟩;intro G;rw[<-o];exact Int.ediv_lt_iff_lt_mul c
end Dp
namespace Dp
def Gr{a b:bs}(ha:d' a=Y)(c:d' b=Y):vD (a,b)=Z (sl a b)/\0<=sl a b/\sl a b<=35184372088832:=Dl ha c
theorem aN2{a b p:bs}(ha:d' a=Y)(c:d' b=Y)(hp:d' p=Y):ek (ek (ek (b.1-a.1)*ek (p.1-a.1))+ek (ek (b.2-a.2)*ek (p.2-a.2)))=A4 a b p:=by rw[wH]at ha c hp;let ⟨m1,m2⟩:=vR (a:=b.1-a.1) (b:=p.1-a.1) (m:=4194304) (n:=4194304);let ⟨m3,m4⟩:=vR (a:=b.2-a.2) (b:=p.2-a.2) (m:=4194304) (n:=4194304);rw[fx (n:=b.1-a.1),fx (n:=p.1-a.1),fx (n:=b.2-a.2),fx (n:=p.2-a.2),fx (n:=(b.1-a.1)*(p.1-a.1)),fx (n:=(b.2-a.2)*(p.2-a.2)),fx];rfl
def T4{a b p:bs}(ha:d' a=Y)(hp:d' p=Y)(c:1<=sl a b):fr a b p*fr a b p<=sl a b*35184372088832:=by have h1:=aQ6 a b p;have h2:=sq_nonneg (A4 a b p);have d:sl a b*sl a p<=sl a b*35184372088832:=bB (Gr ha hp).2.2 (by omega);omega
def aA9{a b p:bs}(ha:d' a=Y)(e:d' b=Y)(hp:d' p=Y):∃m d:Int,yw (a,b,p)=Z (m,d)/\0<=m/\m<=9223372036854775807/\1<=d/\d<=9223372036854775807/\bN m.toNat d.toNat=1/\∀G,m<G*d↔Ba a b p G:=by
 let ⟨s1,s2,s3⟩:=Gr ha e;let ⟨w,x,s6⟩:=Gr ha hp;let ⟨z,C,s9⟩:=Gr e hp;have g1:∀n:Nat,bN n 1=1:=jy;unfold yw;dsimp only;rw[GS,ha,e,hp,s1,w,z,Fa a b p ha e hp];simp only[bT,bw,aw,bu,aN2 ha e hp];unfold Ba;by_cases c1:A4 a b p<=0;rw[hT c1,b6];refine⟨_,_,rfl,x,by omega,by omega,by omega,g1 _,λG=>?_⟩;rw[cr c1,eE];rw[ft c1,bu];by_cases c2:sl a b<=A4 a b p;rw[hT c2,b6];refine⟨_,_,rfl,C,by omega,by omega,by omega,g1 _,λG=>?_⟩;rw[cc c1,cr c2,eE];rw[ft c2,bu];have i:1<=sl a b:=by omega
 have ht:=aF7 ha e hp;have hq:=T4 ha hp i;have j:=sq_nonneg (fr a b p);let ⟨g,D,R,E,k1,k2,o,H,k3,k4,I,k6,k7,q,r,f⟩:=aH2 (t:=fr a b p) (L:=sl a b) (by omega);have J:fr a b p*fr a b p / sl a b<=35184372088832:=by have:fr a b p*fr a b p / sl a b<35184372088833:=cm (by omega) (by omega);omega
 have c:0<=fr a b p*fr a b p / sl a b:=bK j (by omega);have k:=df (fr a b p*fr a b p) (sl a b);have h:=dq (fr a b p*fr a b p) (show sl a b≠0 by omega);have K:=dj (fr a b p*fr a b p) (show 0<sl a b by omega);rw[V9 (by omega) (by omega) i (by omega) (by omega)];simp only[bT];have l:ek (ek (fr a b p*fr a b p)-ek (fr a b p*fr a b p / sl a b*sl a b))=fr a b p*fr a b p%sl a b:=by rw[bX (sl a b)]at k;rw[ek,il,ek,il,ek,il];generalize fr a b p*fr a b p / sl a b*sl a b=B at *;generalize fr a b p*fr a b p%sl a b=Q at *;generalize fr a b p*fr a b p=T at *;omega
 rw[l,aM8 h (by omega) i (by omega),<-E];simp only[bT];rw[ft (by omega:¬g=0)];simp only[bu,bT];rw[B2 (by omega:0<=sl a b),B2 h,<-o,<-H];have M:D<=sl a b:=by rw[o];exact fw _ (by omega)
 rw[fx (n:=D),fx (n:=R),G3 (n:=D),G3 (n:=R),G3 (n:=fr a b p*fr a b p / sl a b),Nf c (by omega) (show 0<=D by omega) (by omega)];simp only[bT];have hM:=Eo c J (show 0<=D by omega) (show D<=35184372088832 by omega);generalize fr a b p*fr a b p / sl a b=kO at *;have N:=q;have O:=r;have s:=f;generalize hX:kO*D=X at *;have P:zJ (X%18446744073709551616,R,0)=Z ((X%18446744073709551616+R+0)%18446744073709551616,(X%18446744073709551616+R+0) / 18446744073709551616):=by unfold zJ;rw[hT (by simp only;omega),hT (by simp only;omega)];rfl
 rw[P];simp only[bT];rw[G3 (n:=X / 18446744073709551616+(X%18446744073709551616+R+0) / 18446744073709551616)];have last:∀G,kO<G*1↔fr a b p*fr a b p<G*sl a b:=λG=>by rw[eE];exact f G
 by_cases u:0<X / 18446744073709551616+(X%18446744073709551616+R+0) / 18446744073709551616;rw[hT u,b6];refine⟨_,_,rfl,c,by omega,by omega,by omega,g1 _,λG=>?_⟩;rw[cc c1,cc c2];exact last G;rw[ft u,bu];by_cases v:9223372036854775807<(X%18446744073709551616+R+0)%18446744073709551616;rw[hT v,b6];refine⟨_,_,rfl,c,by omega,by omega,by omega,g1 _,λG=>?_⟩;rw[cc c1,cc c2];exact last G;rw[ft v,bu];have S:(X%18446744073709551616+R+0)%18446744073709551616=X+R:=by omega
 rw[S,fx (n:=X+R)];refine⟨_,_,rfl,by omega,by omega,I,by omega,q,λG=>?_⟩;rw[cc c1,cc c2];exact r G
end Dp
def sn{α:Type}{c:Bool}{a b:dv α}(ha:∃v,a=Z v)(d:∃v,b=Z v):∃v,(cond c a b)=Z v:=by cases c<;>assumption
def Ud(a b c d:Int)(p:bs):DH ((a,b,c,d),p)=Z (No (a<=p.1)&&(No (p.1<=c)&&(No (b<=p.2)&&No (p.2<=d)))):=by unfold DH;cases No (a<=p.1)<;>cases No (p.1<=c)<;>cases No (b<=p.2)<;>rfl
namespace Dp
def pI(g:nE):bs:=(g.1,g.2.1)
def pC(g:nE):bs:=g.2.2
def oJ(gap:Int)(at':bs)(g:nE):Bool:=No (min g.1 g.2.2.1-gap<=at'.1)&&(No (at'.1<=max g.1 g.2.2.1+gap)&&(No (min g.2.1 g.2.2.2-gap<=at'.2)&&No (at'.2<=max g.2.1 g.2.2.2+gap)))
theorem Dx{p:bs}:yU p=Y↔-1048576<=p.1/\p.1<=1048576/\-1048576<=p.2/\p.2<=1048576:=by simp[yU,and_assoc]
def ah6{g:nE}(ha:yU (pI g)=Y)(a:yU (pC g)=Y)(p:bs){gap:Int}(b:0<=gap)(h1:gap<=200):yl (g,p,gap)=Z (oJ gap p g):=by have ha:=Dx.1 ha;have a:=Dx.1 a;simp only[pI,pC]at ha a;unfold yl oJ;simp only[KS,yP];rw[fx,fx,fx,fx,Ud];rfl
def yZ(q a b:bs):Bool :=cond (b.2<a.2) (cond (b.2<=q.2) (cond (q.2<a.2) (No (0<l7 b a q)) U) U) (cond (a.2<=q.2) (cond (q.2<b.2) (No (0<l7 a b q)) U) U)
def rD(P:eY)(q:bs):eY->Nat->Bool->Bool
 | [],_,b=>b
 |x::r,i,b=>rD P q r (i+1) (cond (yZ q x ((P[(i+1)%aa P]?).getD (0,0))) (!b) b)
def qo(q:bs):cu oP->Int
 | []=>0
 |o::r=>cond (rD o.2.2 q o.2.2 0 U) o.1 <|qo q r
def aI2{β:Type}(P:eY)(q:bs)(hl:aa P<=1000000)(K:Int×Bool->dv β) :
  rounds (α:=Int×Bool) (β:=β) (λc b=>
   cond (b.1<(aa P:Int)) (
   a8 (nth P b.1) λd=>
   a8 ((cond ((aa P:Int)=0) W <|some ((ek (b.1+(1:Int))).tmod (aa P:Int)))) λg=>
   a8 (nth P g) λe=>
   cond (e.2<d.2) (
    cond (e.2<=q.2) (
    cond (q.2<d.2) (
     a8 (qR (e,d,q)) λf=>
     cond ((0:Int)<f) (
     c ((ek (b.1+(1:Int))),(!(b.2)))) (
     c ((ek (b.1+(1:Int))),b.2))) (
     c ((ek (b.1+(1:Int))),b.2))) (
    c ((ek (b.1+(1:Int))),b.2))) (
    cond (d.2<=q.2) (
    cond (q.2<e.2) (
     a8 (qR (d,e,q)) λf=>
     cond ((0:Int)<f) (
     c ((ek (b.1+(1:Int))),(!(b.2)))) (
     c ((ek (b.1+(1:Int))),b.2))) (
     c ((ek (b.1+(1:Int))),b.2))) (
    c ((ek (b.1+(1:Int))),b.2)))) (K b)) ((0:Int),U)=K ((aa P:Int),rD P q P 0 U):=by
 refine(vF (A:=Bool) P (λi a=>((i:Int),a)) (λa rest=>K ((aa P:Int),rD P q rest (aa P-aa rest) a)) (λ_ _=>True) (by omega) ?_ ?_ U trivial).trans (by simp);intro rec a _;simp only[kj,bu,rD];intro rec i a x rest a7 _ hd h;let ⟨_,m,_⟩:=rl hd;have h1:aa P-aa (x::rest)=i:=by simp only[aC];omega
 have h2:aa P-aa rest=i+1:=by omega
 have n:No ((aa P:Int)=0)=U:=ft (by omega);have o:((i+1:Nat):Int).tmod (aa P:Int)=(((i+1)%aa P:Nat):Int):=by rw[jq (by omega)];rfl
 have hm:(i+1)%aa P<aa P:=dZ _ (by omega);have j:=af hm;simp only[fB a7,iy hd,bT,n,bu,f' a7 (show aa P<2^62 by omega),o,zB,j,M8,h1];simp only[rD,j,cw];have k:=h a trivial;have l:=h (!a) trivial;rw[h2]at k l;generalize P[(i+1)%aa P]'hm=y;unfold yZ;rw[k,l];cases No (y.2<x.2)<;>cases No (y.2<=q.2)<;>cases No (q.2<x.2)<;>cases No (x.2<=q.2)<;>cases No (q.2<y.2)<;>cases No (0<l7 y x q)<;>cases No (0<l7 x y q)<;>rfl
def RB{l1:cu oP}(hl:aa l1<=1000000)(hp:∀o∈l1,aa o.2.2<=1000000)(j7:cu nE)(q:bs):AS ((j7,l1),q)=Z (qo q l1):=by
 refine mP (A:=Unit) l1 (λi _=>(i:Int)) (λ_ rest=>Z (qo q rest)) (by omega) ?_ ?_ ();intro rec a;simp only[kj,bu,qo];intro rec i a x rest a7 hd c;have b:x∈l1:=by
  have:x∈l1.drop i:=by rw[hd];simp
  exact ax this
 simp only[fB a7,iy hd];refine(aI2 x.2.2 q (hp x b) _).trans ?_;have:=c ();simp only[f' a7 (show aa l1<2^62 by omega),this,qo];cases rD x.2.2 q x.2.2 0 U<;>rfl
def yR(g2 id:Int)(at':bs)(n:b9):Bool:=!decide (n.1=id)&&(No (n.2.1=at'.1)&&No (n.2.2=at'.2)||No ((n.2.1-at'.1)*(n.2.1-at'.1)+(n.2.2-at'.2)*(n.2.2-at'.2)<g2))
def pg(gap:Int)(at':bs)(g:nE):Bool:=oJ gap at' g&&(n' (pI g) (pC g) at'||No (Ba (pI g) (pC g) at' (gap*gap)))
def qc(j7:cu nE)(l1:cu oP)(cur:gp)(id:Int)(p0 at':bs)(gap:Int):Bool :=cond (yU at') (cond (cur.any (yR (gap*gap) id at')) U <|cond (j7.any (pg gap at')) U <|No (qo at' l1=qo p0 l1)) U
def bT9(cur:gp)(hl:aa cur<=1000000)(hp:∀n∈cur,yU (l3 n)=Y)(id:Int)(q:bs)(j:yU q=Y){gap:Int}(u:0<=gap)(h1:gap<=64)(K:dv Bool) :
  rounds (α:=Int) (β:=Bool) (λg d=>
  cond (d<(aa cur:Int)) (
   a8 (nth cur d) λc=>
   a8 (Z (ek (c.2.1-q.1))) λe=>
   a8 (Z (ek (c.2.2-q.2))) λf=>
   cond (!decide (c.1=id)) (
   cond (c.2.1=q.1&&c.2.2=q.2) (
    Z U) (
    cond ((ek ((ek (e*e))+(ek (f*f))))<(ek (gap*gap))) (
    Z U) (
    g (ek (d+(1:Int)))))) (
   g (ek (d+(1:Int))))) K) (0:Int)=bif cur.any (yR (gap*gap) id q)then Z U else K:=by
 have k:ek (gap*gap)=gap*gap:=by have:=vI (A:=64) (a:=gap) (b:=gap);exact fx
 have j:=Dx.1 j;refine mP (A:=Unit) cur (λi _=>(i:Int)) (λ_ rest=>cond (rest.any (yR (gap*gap) id q)) (Z U) K) (by omega) ?_ ?_ ();intro rec a;simp only[kj,bu,jR];intro rec i a x rest a7 hd l;have h:x∈cur:=by
  have:x∈cur.drop i:=by rw[hd];simp
  exact ax this
 have m:=Dx.1 (hp x h);simp only[l3]at m;have v:=vI (A:=2097152) (a:=x.2.1-q.1) (b:=x.2.1-q.1);have w:=vI (A:=2097152) (a:=x.2.2-q.2) (b:=x.2.2-q.2);have o:ek (x.2.1-q.1)=x.2.1-q.1:=fx;have p:ek (x.2.2-q.2)=x.2.2-q.2:=fx;have r:ek ((x.2.1-q.1)*(x.2.1-q.1))=(x.2.1-q.1)*(x.2.1-q.1):=fx;have s:ek ((x.2.2-q.2)*(x.2.2-q.2))=(x.2.2-q.2)*(x.2.2-q.2):=fx;have t:ek ((x.2.1-q.1)*(x.2.1-q.1)+(x.2.2-q.2)*(x.2.2-q.2))=(x.2.1-q.1)*(x.2.1-q.1)+(x.2.2-q.2)*(x.2.2-q.2):=fx;have:=l ();simp only[fB a7,iy hd,bT,f' a7 (show aa cur<2^62 by omega),this,o,p,r,s,t,k,dD];unfold yR;cases No (x.1=id)<;>cases No (x.2.1=q.1)&&No (x.2.2=q.2)<;>cases No ((x.2.1-q.1)*(x.2.1-q.1)+(x.2.2-q.2)*(x.2.2-q.2)<gap*gap)<;>rfl
structure yL(j7:List nE):Prop where
 len:aa j7<=1000000
 pos:∀g∈j7,yU (pI g)=Y/\yU (pC g)=Y
def bX6{j7:cu nE}(hs:yL j7)(q:bs)(s:yU q=Y){gap:Int}(n:0<=gap)(h1:gap<=64)(K:dv Bool) :
  rounds (α:=Int) (β:=Bool) (λg f=>
   cond (f<(aa j7:Int)) (
    a8 (nth j7 f) λe=>
    a8 (yl (e,q,gap)) λh=>
    cond (!(h)) (
    g (ek (f+(1:Int)))) (
    a8 (qV ((e.1,e.2.1),e.2.2,q)) λj=>
    cond j (
     Z U) (
     a8 (yw ((e.1,e.2.1),e.2.2,q)) λk=>
     a8 (wM (k,((ek (gap*gap)),(1:Int)))) λl=>
     cond (l<(0:Int)) (
     Z U) (
     g (ek (f+(1:Int))))))) K) (0:Int)=bif j7.any (pg gap q)then Z U else K:=by
 have t:ek (gap*gap)=gap*gap:=by have:=vI (A:=64) (a:=gap) (b:=gap);exact fx
 have hl:=hs.len;refine mP (A:=Unit) j7 (λi _=>(i:Int)) (λ_ rest=>cond (rest.any (pg gap q)) (Z U) K) (by omega) ?_ ?_ ();intro rec a;simp only[kj,bu,jR];intro rec i a x rest a7 hd u;have o:x∈j7:=by
  have:x∈j7.drop i:=by rw[hd];simp
  exact ax this
 let ⟨p,r⟩:=hs.pos x o;let ⟨m,d,v,m1,m2,m3,m4,m5,m6⟩:=aA9 (rS p) (rS r) (rS s);have w:=Eo n h1 n h1;let ⟨c,z,hc⟩:=aF2 m1 m2 m3 m4 m5 w.1 (by omega);have B:=ah6 p r q n (by omega);have C:qV ((x.1,x.2.1),x.2.2,q)=Z (n' (pI x) (pC x) q):=FH _ _ _;have D:yw ((x.1,x.2.1),x.2.2,q)=Z (m,d):=v;have E:=z;have G:No (Ba (pI x) (pC x) q (gap*gap))=No (c<0):=decide_eq_decide.2 ((m6 _).symm.trans hc.symm)
 have:=u ();simp only[fB a7,iy hd,bT,f' a7 (show aa j7<2^62 by omega),this,B,C,D,E,t,dD];unfold pg;rw[G];cases oJ gap q x<;>cases n' (pI x) (pC x) q<;>cases No (c<0)<;>rfl
structure Hf(l1:List oP):Prop where
 len:aa l1<=1000000
 sy:∀o∈l1,aa o.2.2<=1000000
def PE{j7:cu nE}{l1:cu oP}{cur:gp}(hs:yL j7)(ho:Hf l1)(hl:aa cur<=1000000)(hp:∀n∈cur,yU (l3 n)=Y)(j0:b9)(q:bs){gap:Int}(a:0<=gap)(h1:gap<=64) :
  xj ((j7,l1),cur,j0,q,gap)=Z (qc j7 l1 cur j0.1 (l3 j0) q gap):=by
 unfold xj qc;have c:DH ((-1048576,-1048576,1048576,1048576),q)=Z (yU q):=by rw[Ud];unfold yU;simp only[gD]
 simp only[c];cases b:yU q with
 |false=>rfl
 |true=>
  simp only[ b6];refine(bT9 cur hl hp j0.1 q b a h1 _).trans ?_;cases cur.any (yR (gap*gap) j0.1 q)with
  |true=>rfl
  |false=>
   refine(bX6 hs q b a h1 _).trans ?_;cases j7.any (pg gap q)with
   |true=>rfl
   |false =>have f1:=RB ho.len ho.sy j7 q;have f2:AS ((j7,l1),j0.2)=Z (qo (l3 j0) l1):=RB ho.len ho.sy j7 (l3 j0);simp only[bu,f1,f2,bT]
end Dp
namespace Dp
def Sw(d y:Int)(j:Nat):eY:=cond (br qG ((j:Int)-d) [-((j:Int)-d),y,-y]=d) [((j:Int)-d,y)] []
def SN(d:Int)(n:Nat)(i:Nat):eY:=(aQ n).flatMap (Sw d ((i:Int)-d))
def RJ(k:Nat):eY:=(aQ (2*k+3)).flatMap (SN ((k+1:Nat):Int) (2*k+3))
def qH(n:Nat):eY:=(aQ n).flatMap RJ
def aP4(d y:Int)(j:Nat):aa (Sw d y j)<=1:=by
 unfold Sw
 grind
def Jv{α β:Type}{f:α->cu β}{c:Nat}(hf:∀x,aa (f x)<=c):∀l:cu α,aa (l.flatMap f)<=c*aa l
 | []=>by simp
 |x::l=>by rw[b_,aX,aC,Nat.mul_add];have:=Jv hf l;have:=hf x;omega
def ar5(d:Int)(n i:Nat):aa (SN d n i)<=n:=by
 have:=Jv (aP4 d ((i:Int)-d)) (aQ n)
 grind[cO,SN]
theorem NB{n i x:Nat}{rest:cu Nat}(h:(aQ n).drop i=x::rest):x=i:=by
 have h1:(aQ n)[i]?=Z x:=by rw[<-zB];exact iy h
 grind
def cb6{β:Type}(d:Int)(k i:Nat)(hk:k<64)(a7:i<2*k+3)(hd:d=((k+1:Nat):Int))(acc:eY)(ha:aa acc<=100000000)(K:Int×eY->dv β) :
  rounds (α:=Int×eY) (β:=β) (λf b=>
     cond (b.1<(((2*k+3:Nat):Int))) (
     a8 (Z (ek (b.1-d))) λc=>
     a8 (Z (ek ((i:Int)-d))) λe=>
     cond ((br qG c [(ek (0-c)),e,(ek (0-e))])=d) (
      a8 (j6 16 b.2 [(c,e)]) λg=>
      f ((ek (b.1+(1:Int))),g)) (
      f ((ek (b.1+(1:Int))),b.2))) (K b)) ((0:Int),acc)=K (((2*k+3:Nat):Int),acc++SN d (2*k+3) i):=by
 have h:aa (aQ (2*k+3))=2*k+3:=cO;refine(vF (A:=eY) (aQ (2*k+3)) (λi a=>((i:Int),a)) (λa rest=>K (((2*k+3:Nat):Int),a++rest.flatMap (Sw d ((i:Int)-d)))) (λj a=>aa a<=100000000+j) (by rw[h];omega) ?_ ?_ acc (by omega)).trans rfl
 grind
 grind[NB,fx,fB,bT,f',m9,Sw,br,qG,bG]
def aE8{β:Type}(d:Int)(k:Nat)(hk:k<64)(hd:d=((k+1:Nat):Int))(acc:eY)(ha:aa acc<=50000000)(K:eY×Int->dv β) :
  rounds (α:=eY×Int) (β:=β) (λl c=>
    cond (c.2<(((2*k+3:Nat):Int))) (
    rounds (α:=Int×eY) (β:=β) (λg b=>
     cond (b.1<(((2*k+3:Nat):Int))) (
     a8 (Z (ek (b.1-d))) λe=>
     a8 (Z (ek (c.2-d))) λf=>
     cond ((br qG e [(ek (0-e)),f,(ek (0-f))])=d) (
      a8 (j6 16 b.2 [(e,f)]) λh=>
      g ((ek (b.1+(1:Int))),h)) (
      g ((ek (b.1+(1:Int))),b.2))) (
     l (b.2,(ek (c.2+(1:Int)))))) ((0:Int),c.1)) (K c)) (acc,(0:Int))=K (acc++RJ k,((2*k+3:Nat):Int)):=by
 have n:aa (aQ (2*k+3))=2*k+3:=cO;refine(vF (A:=eY) (aQ (2*k+3)) (λi a=>(a,(i:Int))) (λa rest=>K (a++rest.flatMap (SN d (2*k+3)),((2*k+3:Nat):Int))) (λj a=>aa a<=50000000+200*j) (by rw[n];omega) ?_ ?_ acc (by omega)).trans (by subst hd;rfl)
 grind
 intro rec j a x rest hj p m q;have o:=NB m;subst o;rw[n]at hj;simp only[fB hj,b6];refine(cb6 d k x hk hj hd a (by omega) _).trans ?_;have:=ar5 d (2*k+3) x;simp only[f' hj (show 2*k+3<2^62 by omega)]
 grind
theorem at0(k:Nat)(hk:k<64):aa (RJ k)<=40000:=by have:=Jv (ar5 ((k+1:Nat):Int) (2*k+3)) (aQ (2*k+3));rw[cO]at this;have h2:(2*k+3)*(2*k+3)<=131*131:=lX (by omega) (by omega);unfold RJ;omega
def IU{gap:Int}(d:0<=gap)(h1:gap<=64):wu gap=Z (qH gap.toNat,0):=by
 obtain⟨n,rfl⟩:=Int.eq_ofNat_of_zero_le d;have c:aa (aQ n)=n:=cO;unfold wu;have c1:No ((n:Int)<0)=U:=ft (by omega);have c2:No ((64:Int)<(n:Int))=U:=ft (by omega);simp only[c1,c2,bu];refine(vF (A:=eY) (aQ n) (λi a=>(a,(i:Int))) (λa rest=>Z (a++rest.flatMap RJ,0)) (λj a=>aa a<=40000*j) (by rw[c];omega) ?_ ?_ [] (by simp)).trans rfl
 grind
 intro rec j a x rest hj h b k;have e:=NB b;subst e;rw[c]at hj;have f:ek ((x:Int)+1)=((x+1:Nat):Int):=f' hj;have g:ek (ek (2*((x+1:Nat):Int))+1)=((2*x+3:Nat):Int):=by grind[fx]
 simp only[fB hj,b6,f,bT,g];refine(aE8 _ x (by omega) rfl a (by omega) _).trans ?_;have:=at0 x (by omega)
 grind
def We{gap:Int}(h:¬(0<=gap/\gap<=64)):wu gap=Z ([],2):=by
 unfold wu
 grind
def ax3{n:Nat}{o:bs}(h:o∈qH n):-(n:Int)<=o.1/\o.1<=n/\-(n:Int)<=o.2/\o.2<=n:=by grind[qH,RJ,SN,Sw,br,qG,cq]
end Dp
set_option maxRecDepth 10000
namespace Dp
def aN8{β:Type}(cur:gp)(hl:aa cur<=1000000)(id:Int)(i0:Nat)(j0:b9)(a7:cur[i0]?=Z j0)(hid:j0.1=id)(f:∀j m,j<i0->cur[j]?=Z m->m.1≠id)(K:Int->dv β)(N:dv β) :
  rounds (α:=Int) (β:=β) (λc a=>
      cond (a<(aa cur:Int)) (
       a8 ((cond (0<=a&&a<(aa cur:Int)) (Z ()) W)) λ_=>
       a8 ((cur[(a).toNat]?).map (λx=>x)) λb=>
       cond (b.1=id) (K a) (
       c (ek (a+(1:Int))))) N) (0:Int)=K (i0:Int):=by
 have g:i0<aa cur:=by grind
 refine(Fq (λx:Int=>∃i:Nat,x=i/\i<=i0) (λx=>(i0-x.toNat)) (λ_=>K (i0:Int)) ?_ ⟨0,rfl,by omega⟩ ?_);rintro rec x ⟨i,rfl,hle⟩ h;have h1:i<aa cur:=by omega
 have k:No (0<=(i:Int))=Y:=hT (by omega);have d:cur[i]?=Z (cur[i]'h1):=af h1;simp only[fB h1,b6,k,bw,bT,aO,d,ai];by_cases e:i=i0
 grind
 have:=f i _ (by omega) d;rw[ft this,bu,f' h1];exact h _ ⟨i+1,rfl,by omega⟩ (by grind)
 grind
def bY2{β:Type}{j7:cu nE}(hs:yL j7)(p:bs){gap:Int}(m:0<=gap)(h1:gap<=64)(K:Int×cu nE->dv β) :
  rounds (α:=Int×cu (Int×b9)) (β:=β) (λd b=>
        cond (b.1<(aa j7:Int)) (
        a8 (nth j7 b.1) λc=>
        a8 (yl (c,p,(ek ((2:Int)*gap)))) λe=>
        cond e (
         a8 (j6 32 b.2 [c]) λf=>
         d ((ek (b.1+(1:Int))),f)) (
         d ((ek (b.1+(1:Int))),b.2))) (K b)) ((0:Int),[])=K ((aa j7:Int),j7.filter (oJ (2*gap) p)):=by
 have hl:=hs.len;refine(vF (A:=cu nE) j7 (λi a=>((i:Int),a)) (λa rest=>K ((aa j7:Int),a++rest.filter (oJ (2*gap) p))) (λi a=>aa a<=i) (by omega) ?_ ?_ [] (by simp)).trans (by simp)
 grind
 intro rec i a x rest a7 n hd o;have g:x∈j7:=by grind[ax]
 let ⟨h,j⟩:=hs.pos x g;have k:ek (2*gap)=2*gap:=fx;have l:yl (x,p,2*gap)=Z (oJ (2*gap) p x):=ah6 h j p (by omega) (by omega);simp only[fB a7,b6,iy hd,bT,f' a7 (show aa j7<2^62 by omega),k,l,cC]
 grind[oJ,m9,bT]
def aK1{β:Type}{j7:cu nE}{l1:cu oP}{cur:gp}(hs:yL j7)(ho:Hf l1)(hl:aa cur<=1000000)(hp:∀n∈cur,yU (l3 n)=Y)(j0:b9)(f:yU (l3 j0)=Y){gap:Int}(l:0<=gap)(h1:gap<=64)
  (b:eY) (m:∀o∈b,-64<=o.1/\o.1<=64/\-64<=o.2/\o.2<=64) (g:aa b<2^62) (h:bs->dv β) (N:dv β) :
  rounds (α:=Int) (β:=β) (λj d=>
         cond (d<(aa b:Int)) (
          a8 (nth b d) λc=>
          a8 (xj ((j7,l1),cur,j0,(ek (j0.2.1+c.1),ek (j0.2.2+c.2)),gap)) λe=>
          cond e (h c) (
          j (ek (d+(1:Int))))) N) (0:Int) =
   match b.find? (λo=>qc j7 l1 cur j0.1 (l3 j0) (j0.2.1+o.1,j0.2.2+o.2) gap)with
   |some o=>h o
   |none=>N:=by
 refine mP (A:=Unit) b (λi _=>(i:Int)) (λ_ rest=>match rest.find? (λo=>qc j7 l1 cur j0.1 (l3 j0) (j0.2.1+o.1,j0.2.2+o.2) gap)with
   |some o=>h o
   |none=>N) (by omega) ?_ ?_ ()
 grind
 intro rec i a x rest a7 hd p;have k:x∈b:=by grind[ax]
 have u:=m x k;have q:=Dx.1 f;simp only[l3]at q;have r:ek (j0.2.1+x.1)=j0.2.1+x.1:=fx;have s:ek (j0.2.2+x.2)=j0.2.2+x.2:=fx;have t:xj ((j7,l1),cur,j0,(j0.2.1+x.1,j0.2.2+x.2),gap)=Z (qc j7 l1 cur j0.1 (l3 j0) (j0.2.1+x.1,j0.2.2+x.2) gap):=PE hs ho hl hp j0 _ l h1;have:=p ();simp only[fB a7,b6,iy hd,bT,r,s,t,f' a7 g,this,eA]
 grind
def vh(j7:cu nE)(l1:cu oP)(a:eY)(gap:Int)(cur:gp)(n:b9):dv bs :=cond (qc (j7.filter (oJ (2*gap) (l3 n))) l1 cur n.1 (l3 n) (l3 n) gap) W <| (a.find? (λo=>qc (j7.filter (oJ (2*gap) (l3 n))) l1 cur n.1 (l3 n) (n.2.1+o.1,n.2.2+o.2) gap)).map λo=>(n.2.1+o.1,n.2.2+o.2)
def Ri:∀ {cur:gp} {i:Nat} {j0:b9} (p:bs),cur[i]?=Z j0->(cur.map (·.1)).Nodup->cur.set i (j0.1,p.1,p.2)=put cur j0.1 p
 | [],_,_,_,h,_=>by simp at h
 |x::cur,0,j0,p,h,a=>by simp only[bP,ah]at h;subst h;rw[aq,cx]at a;simp only[List.set_cons_zero,put,aq,vE,bW,qj];have:cur.map (λn=>ite (n.1=x.1) (x.1,p.1,p.2) n)=cur.map id:=bS λy c=>cc λe=>a.1 (by rw[<-e];exact aN c);rw[this,mC]
 |x::cur,i+1,j0,p,h,a=>by rw[aI]at h;rw[aq,cx]at a;have b:x.1≠j0.1:=λe=>a.1 (by rw[e];exact aN (aG h));simp only[kP,put,aq,cc b];exact Ar _ (Ri p h a.2)
end Dp
namespace Dp
def yL.filter{j7:cu nE}(hs:yL j7)(P:nE->Bool):yL (j7.filter P) :=⟨bD (bJ _ _) hs.len,λg a=>hs.pos g (aW.1 a).1⟩
def aC7{β:Type}{j7:cu nE}{l1:cu oP}{cur:gp}(hs:yL j7)(ho:Hf l1)(hl:aa cur<=1000000)(hp:∀n∈cur,yU (l3 n)=Y)(s:(cur.map (·.1)).Nodup)(j0:b9)(c:j0∈cur){gap:Int}(g:0<=gap)(h1:gap<=64)
  (a:eY) (l:∀o∈a,-64<=o.1/\o.1<=64/\-64<=o.2/\o.2<=64) (h:aa a<2^62) (q:dv β) (r:gp->dv β) (N:dv β) :
  G_ j7 l1 cur j0.1 a gap q r N =
   match vh j7 l1 a gap cur j0 with
   |some p=>r (put cur j0.1 p)
   |none=>q:=by
 unfold G_;let ⟨i0,i,a7⟩:=a_ c;have b:cur[i0]?=Z j0:=by grind
 refine(aN8 cur hl j0.1 i0 j0 b rfl (λj m hj hm e=>?_) _ N).trans ?_;have t:j<aa cur:=by omega
 have z:(cur.map (·.1))[j]?=Z j0.1:=by grind
 have B:(cur.map (·.1))[i0]?=Z j0.1:=by rw[aS,b];rfl
 grind[List.getElem?_inj]
 have u:No (0<=(i0:Int))=Y:=hT (by omega);simp only[fB i,u,bw,b6,bT,aO,b,ai];refine(bY2 hs (l3 j0) g h1 _).trans ?_;have d:=hs.filter (oJ (2*gap) (l3 j0));have f:=hp j0 c;have v:xj ((j7.filter (oJ (2*gap) (l3 j0)),l1),cur,j0,j0.2,gap)=Z (qc (j7.filter (oJ (2*gap) (l3 j0))) l1 cur j0.1 (l3 j0) (l3 j0) gap):=PE d ho hl hp j0 (l3 j0) g h1;simp only[v,bT];unfold vh;cases qc (j7.filter (oJ (2*gap) (l3 j0))) l1 cur j0.1 (l3 j0) (l3 j0) gap with
 |true=>rfl
 |false=>
  rw[bu,bu];refine(aK1 d ho hl hp j0 f g h1 a l h _ _).trans ?_;cases k:a.find? (λo=>qc (j7.filter (oJ (2*gap) (l3 j0))) l1 cur j0.1 (l3 j0) (j0.2.1+o.1,j0.2.2+o.2) gap)with
  |none=>rfl
  |some o=>
   have C:=l o (ba k);have w:=Dx.1 f;simp only[l3]at w;have D:ek (j0.2.1+o.1)=j0.2.1+o.1:=fx;have E:ek (j0.2.2+o.2)=j0.2.2+o.2:=fx;have es:qI cur i0 (λx y=>(x.1,y.1,y.2)) (j0.2.1+o.1,j0.2.2+o.2)=Z (put cur j0.1 (j0.2.1+o.1,j0.2.2+o.2)):=by unfold qI;rw[b];exact Ar Z (Ri _ b s)
   grind[bT]
def af4{β:Type}(ag:hI)(hl:aa ag<=1000000)(hv:∀a∈ag,aa a.2.2.2.1<=900000)(K:Int×hI->dv β) :
  rounds (α:=Int×hI) (β:=β) (λf c=>
   cond (c.1<(aa ag:Int)) (
   a8 (nth ag c.1) λb=>
   a8 (vo b.2.2.2.1) λd=>
   a8 (j6 64 c.2 [(b.1,b.2.1,b.2.2.1,d,b.2.2.2.2.1,b.2.2.2.2.2)]) λe=>
   f ((ek (c.1+(1:Int))),e)) (K c)) ((0:Int),[])=K ((aa ag:Int),ag):=by
 refine(vF (A:=hI) ag (λi a=>((i:Int),a)) (λa rest=>K ((aa ag:Int),a++rest)) (λi a=>aa a<=i) (by omega) ?_ ?_ [] (by simp)).trans (by simp)
 grind
 intro rec i a x rest a7 j hd k;have g:x∈ag:=by grind[ax]
 have:=hv x g;have h:vo x.2.2.2.1=Z x.2.2.2.1:=by grind[vo,m9]
 simp only[fB a7,b6,iy hd,bT,h,f' a7 (show aa ag<2^62 by omega)]
 grind[m9,bT]
def Xh{β:Type}(l:Au)(hl:aa l<=1000000)(hv:∀f∈l,aa f.2.2.2.2<=900000)(K:Int×Au->dv β) :
  rounds (α:=Int×Au) (β:=β) (λg c=>
    cond (c.1<(aa l:Int)) (
    a8 (nth l c.1) λb=>
    a8 (xp b.2.2.2.2) λd=>
    a8 (j6 64 c.2 [(b.1,b.2.1,b.2.2.1,b.2.2.2.1,d)]) λe=>
    g ((ek (c.1+(1:Int))),e)) (K c)) ((0:Int),[])=K ((aa l:Int),l):=by
 refine(vF (A:=Au) l (λi a=>((i:Int),a)) (λa rest=>K ((aa l:Int),a++rest)) (λi a=>aa a<=i) (by omega) ?_ ?_ [] (by simp)).trans (by simp)
 grind
 intro rec i a x rest a7 k hd m;have h:x∈l:=by grind[ax]
 have:=hv x h;have j:xp x.2.2.2.2=Z x.2.2.2.2:=by grind[xp,m9]
 simp only[fB a7,b6,iy hd,bT,j,f' a7 (show aa l<2^62 by omega)]
 grind[m9,bT]
end Dp
namespace Dp
structure RF(al:List b9)(ag:List ct)(fs:List Int)(l:List AL):Prop where
 pl:fp al ag fs
 wR:(oH ag (aa fs) Y (nP al ag) [] []).2=Y
 len:aa l<=128
 parts:∀f∈l,aa f.2.2.2.2<=64
def so{c:Bool}{a b:Int}(ha:a≠0)(h:(cond c a b)=0):c=U/\b=0:=by grind
def vX{al:gp}{ag:hI}{fs:eD}{l:Au}(a:pD al ag fs l=0):RF al ag fs l:=by
 unfold pD at a;have b:tH al ag fs=0:=by grind
 rw[b]at a;simp only[l6,aw,bu]at a;unfold tH at b;by_cases hc:tJ al ag fs=0;rw[hc]at b;simp only[l6,b6]at b;let ⟨h1,a⟩:=so (by decide) a;let ⟨h2,a⟩:=so (by decide) a;refine⟨De.1 hc,?_,by grind,λf hf=>?_⟩;unfold nP
 grind
 have:=bc.1 h2 f hf;simp[q5]at this;omega;simp[hc]at b
def WN:∀ {l:eY} {p:bs} {g:nE},g∈uz p l->pI g∈p::l/\pC g∈p::l
 | [],_,_,h=>by simp[uz]at h
 |b::l,p,g,h=>by
  rcases aF.1 h with rfl|h
  exact⟨by simp[pI],by simp[pC]⟩;have:=WN h;exact⟨bp _ this.1,bp _ this.2⟩
section
variable {al:gp} {ag:hI} {fs:eD} (h:fp al ag fs)
include h
theorem Qn:yL (pz al ag ag):=by
 constructor;have key:∀l:hI,(∀a∈l,a∈ag)->aa (pz al ag l)<=66*aa l:=by
  intro l
  induction l with
  |nil=>intro _;simp[pz]
  |cons a l f=>
   intro hl;have:=f λb i=>hl b (by simp[i]);let ⟨p,q,_,d,hlen⟩:=FW h (hl a (by simp));unfold pz at *;have e:aa (Em (p::q))=aa q:=NJ q p
   grind
 have:=key ag λ_ h=>h;have:=h.pA;omega;intro g c;let ⟨a,ha,c⟩:=cW.1 c;let ⟨p,q,hp,d,_⟩:=FW h ha;rw[d]at c;have hm:=WN (show g∈uz p q from c);exact⟨h.D0 ha hp _ hm.1,h.D0 ha hp _ hm.2⟩
theorem Lj(hf:(oH ag (aa fs) Y (nP al ag) [] []).2=Y):Hf (qd al ag fs):=by
 have hp:(qd al ag fs).Perm (vw al ag (xW al ag fs)):=tG (Iz _);have hz:=QH h hf;let ⟨_,hlen⟩:=h.Ih;have g:(xW al ag fs).Perm (uY (tT al ag fs) (nP al ag)):=tG (IA _);have b:aa (nP al ag)<=1000000:=hlen;let ⟨g1,_,_⟩:=NX h ag [] (λ_ h=>h) (λk p hk=>by simp[fh]at hk);constructor;rw[hp.length_eq];unfold vw;rw[aL];refine bD (bJ _ _) ?_;rw[g.length_eq,hz];exact b;intro o ho;obtain⟨r,l,rfl⟩:=aM.1 (hp.mem_iff.1 ho);have l:=g.mem_iff.1 (aW.1 l).1;unfold uY at l;let ⟨i,a7,e⟩:=a_ l;rw[j_]at e;subst e;have m:i<aa (nP al ag):=by grind
 have j:=ao0 (a:=(nP al ag)[i]) (aA m);simp only;have n:(nP al ag)[i].2.1.length<=512:=by
  rcases j with e|e
  rw[e];simp;exact(h.wK.od _ e).2.1
 have:=Jv (f:=λd=>((fh gd d (pM al ag ag [])).getD []).dropLast) (c:=66) (λd=>by
  cases hd:fh gd d (pM al ag ag [])with
  |none=>simp
  |some p=>have:=(g1 d p hd).2;simp;omega) (nP al ag)[i].2.1
 unfold vn;omega
theorem I_:(al.map (·.1)).Nodup:=mj (λh=>by omega) (pq h.vL)
end
noncomputable def Cv(id:Int)(f:AL):Bool:=No (om f.2.1=1)&&No (id∈f.2.2.2.2)
def aQ2{l:Au}(hl:aa l<=1000000)(hv:∀f∈l,aa f.2.2.2.2<=900000)(al:gp)(ag:hI)(fs:eD)(id:Int):Ix ((al,ag,fs,l),1,id)=Z ((l.filter (Cv id)).map (·.1)):=by
 unfold Ix;simp only[show No ((1:Int)<1)=U from rfl,show No ((3:Int)<1)=U from rfl,bu];refine(vF (A:=eD) l (λi a=>((i:Int),a)) (λa rest=>Z (a++(rest.filter (Cv id)).map (·.1))) (λi a=>aa a<=i) (by omega) ?_ ?_ [] (by simp)).trans (by simp)
 grind
 intro rec i a x rest a7 c hd d;have b:x∈l:=by grind[ax]
 have:=hv x b;simp only[fB a7,b6,iy hd,bT,BH,HC _ _ (show aa x.2.2.2.2<2^62 by omega),f' a7 (show aa l<2^62 by omega),cC]
 grind[j6,m9,bT,Cv,om]
noncomputable def vq(ag:hI)(l:Au)(id:Int):Bool:=No (na ag id=0)&&l.any (Cv id)
def Nw{l:Au}(hl:aa l<=1000000)(hv:∀f∈l,aa f.2.2.2.2<=900000)(al:gp)(ag:hI)(ha:aa ag<=1000000)(fs:eD)(id:Int):E2 ((al,ag,fs,l),id)=Z (vq ag l id):=by
 unfold E2 vq;simp only[MR al ag fs id ha,bT,aQ2 hl hv];have a:No (((na ag id:Nat):Int)=0)=No (na ag id=0):=by grind
 rw[a];cases No (na ag id=0)with
 |false=>rfl
 |true=>
  simp only[b6,bY,ah,aL];cases b:l.any (Cv id)with
  |true =>let ⟨f,hf,hu⟩:=List.any_eq_true.1 b;have:0<aa (l.filter (Cv id)):=List.length_pos_of_mem (aW.2 ⟨hf,hu⟩);exact hT (by omega)
  |false=>grind[Cv,List.filter_eq_nil_iff,bc]
end Dp
namespace Dp
section
variable (j7:cu nE) (l1:cu oP) (offs:eY) (gap:Int) (mov:Int->Bool)
noncomputable def VO(cur:gp)(n:b9):gp:=match vh j7 l1 offs gap cur n with
 |some p=>put cur n.1 p
 |none=>cur
noncomputable def RD:gp->gp->gp
 | [],cur=>cur
 |n::r,cur=>RD r (cond (mov n.1) (VO j7 l1 offs gap cur n) cur)
end
def cb3{j7:cu nE}{l1:cu oP}{a:eY}{gap:Int}{cur:gp}{n:b9}{p:bs}(h:vh j7 l1 a gap cur n=Z p):qc (j7.filter (oJ (2*gap) (l3 n))) l1 cur n.1 (l3 n) p gap=Y/\qc (j7.filter (oJ (2*gap) (l3 n))) l1 cur n.1 (l3 n) (l3 n) gap=U/\∃o∈a,p=(n.2.1+o.1,n.2.2+o.2):=by
 unfold vh at h;cases hf:qc (j7.filter (oJ (2*gap) (l3 n))) l1 cur n.1 (l3 n) (l3 n) gap with
 |true=>rw[hf]at h;simp at h
 |false =>rw[hf,bu]at h;obtain⟨o,ho,rfl⟩:=Option.map_eq_some_iff.1 h;have h2:=dp ho;exact⟨h2,rfl,o,ba ho,rfl⟩
def ch8{j7:cu nE}{l1:cu oP}{cur:gp}{id:Int}{p0 p:bs}{gap:Int}(h:qc j7 l1 cur id p0 p gap=Y):yU p=Y:=by
 unfold qc at h;cases hp:yU p with
 |true=>rfl
 |false=>rw[hp]at h;simp at h
structure Ep(al cur:List b9):Prop where
 ids:cur.map (·.1)=al.map (·.1)
 pos:∀m∈cur,yU (l3 m)=Y
theorem Ep.put{al cur:gp}(h:Ep al cur)(id:Int){p:bs}(hp:yU p=Y):Ep al (put cur id p) :=
 ⟨(ci0 _ _ _).trans h.ids,λm hm=>by
  rcases T_ hm with⟨hm,_⟩|rfl
  exact h.pos m hm;exact hp⟩
section
variable {al:gp} {ag:hI} {fs:eD} {l:Au} (h:RF al ag fs l)
include h
theorem T6:EH al=Z al:=by have:=h.pl.qF;unfold EH;rw[m9];rfl
theorem Th:xp fs=Z fs:=by have:=h.pl.wX;unfold xp;rw[m9];rfl
theorem LQ:Ep al al:=⟨rfl,λm hm=>h.pl.tt hm⟩
theorem Rf{gap:Int}(b:0<=gap)(h1:gap<=64):(∀o∈qH gap.toNat,-64<=o.1/\o.1<=64/\-64<=o.2/\o.2<=64)/\aa (qH gap.toNat)<2^62:=by
 refine⟨λo ho=>by have:=ax3 ho;omega,?_⟩;have a:gap.toNat<=64:=by omega
 have key:∀n,n<=64->aa (qH n)<=40000*n:=by
  intro n
  induction n with
  |zero=> simp[qH]
  |succ n c =>intro a;have:=at0 n (by omega);unfold qH at *;rw[ib,List.flatMap_append,aX,b_,fX,cg];omega
 have:=key _ a;omega
theorem cm9(u:pD al ag fs l=0){gap:Int}(g0:0<=gap)(g1:gap<=64) :
  RR ((al,ag,fs,l),gap)=Z ((RD (pz al ag ag) (qd al ag fs) (qH gap.toNat) gap (vq ag l) al al,ag,fs,l),0):=by
 have v:=h.pl.pA;have w:=h.pl.qF;have z:=h.len;let ⟨tu,ol⟩:=Rf h g0 g1;have hv:∀f∈l,aa f.2.2.2.2<=900000:=λf hf=>by have:=h.parts f hf;omega
 have o:xr (al,ag,fs,l)=Z 0:=by rw[E1,u]
 unfold RR;simp only[o,IU g0 g1,T6 h];refine(af4 ag (by omega) (λa ha=>by have:=h.pl.q4 ha;omega) _).trans ?_;simp only[Th h];refine(Xh l (by omega) hv _).trans ?_;simp only[MX h.pl h.wR];have hs:=Qn h.pl;have ho:=Lj h.pl h.wR;have k:=I_ h.pl;generalize pz al ag ag=j7 at hs⊢;generalize qd al ag fs=l1 at ho⊢;generalize qH gap.toNat=c at tu ol⊢;refine(vF (A:=gp) al (λi a=>((i:Int),a)) (λa rest=>Z ((RD j7 l1 c gap (vq ag l) rest a,ag,fs,l),0)) (λi a=>Ep al a/\∀m∈al.drop i,m∈a) (by omega) ?_ ?_ al ⟨LQ h,λm hm=>by simpa using hm⟩).trans rfl;intro rec a g;simp only[kj,bu,RD];intro rec i a x rest a7 g hd q;let ⟨g,n⟩:=g;have r:=n x (by rw[hd];simp);have b:al.drop (i+1)=rest:=by have:=Ar lq hd;simpa using this
 have B:aa a=aa al:=by have:=Ar aa g.ids;simpa using this
 have s:(a.map (·.1)).Nodup:=by rw[g.ids];exact k
 have t:∀m∈rest,m.1≠x.1:=λm hm e=>by
  have j:((x::rest).map (·.1)).Nodup:=by rw[<-hd,l_];exact k.sublist (List.drop_sublist _ _)
  rw[aq,cx]at j;exact j.1 (by rw[<-e];exact aN hm)
 have d:∀m∈rest,m∈a:=λm hm=>n m (by rw[hd];simp[hm]);simp only[fB a7,iy hd,bT,f' a7 (show aa al<2^62 by omega),Nw (show aa l<=1000000 by omega) hv al ag (by omega) fs,RD];cases hm:vq ag l x.1 with
 |false =>exact q a ⟨g,λm hm=>d m (by rw[<-b];exact hm)⟩
 |true=>
  refine(aC7 hs ho (by omega) g.pos s x r g0 g1 c tu ol _ _ _).trans ?_;unfold VO;cases C:vh j7 l1 c gap a x with
  |none=>exact q a ⟨g,λm hm=>d m (by rw[<-b];exact hm)⟩
  |some p =>refine q (put a x.1 p) ⟨g.put _ (ch8 (cb3 C).1),λm hm=>?_⟩;rw[b]at hm;exact ch4 (d m hm) (t m hm)
theorem ba5(d:pD al ag fs l=0){gap:Int}(g0:0<=gap)(g1:gap<=64){n:b9}(c:n∈al)(hm:vq ag l n.1=Y) :
  vz ((al,ag,fs,l),n.1,gap)=Z (match vh (pz al ag ag) (qd al ag fs) (qH gap.toNat) gap al n with|some p=>((put al n.1 p,ag,fs,l),Y,0)|none=>((al,ag,fs,l),U,0)):=by
 have e:=h.pl.pA;have g:=h.pl.qF;have i:=h.len;let ⟨tu,ol⟩:=Rf h g0 g1;have hv:∀f∈l,aa f.2.2.2.2<=900000:=λf hf=>by have:=h.parts f hf;omega
 have b:xr (al,ag,fs,l)=Z 0:=by rw[E1,d]
 unfold vz;simp only[b,IU g0 g1,h.pl.Hw,h.pl.vm c,T6 h,Nw (show aa l<=1000000 by omega) hv al ag (by omega) fs,hm];refine(af4 ag (by omega) (λa ha=>by have:=h.pl.q4 ha;omega) _).trans ?_;simp only[Th h];refine(Xh l (by omega) hv _).trans ?_;simp only[MX h.pl h.wR];refine(aC7 (Qn h.pl) (Lj h.pl h.wR) (by omega) (LQ h).pos (I_ h.pl) n c g0 g1 (qH gap.toNat) tu ol _ _ _).trans ?_;cases vh (pz al ag ag) (qd al ag fs) (qH gap.toNat) gap al n<;>rfl
theorem aM6(b:pD al ag fs l=0){gap:Int}(g0:0<=gap)(g1:gap<=64){n:b9}(c:n∈al)(hm:vq ag l n.1=U) :
  ∃s,vz ((al,ag,fs,l),n.1,gap)=Z (s,U,13):=by
 have d:=h.pl.pA;have e:=h.len;have hv:∀f∈l,aa f.2.2.2.2<=900000:=λf hf=>by have:=h.parts f hf;omega
 have a:xr (al,ag,fs,l)=Z 0:=by rw[E1,b]
 unfold vz;simp only[a,IU g0 g1,h.pl.Hw,h.pl.vm c,Nw (show aa l<=1000000 by omega) hv al ag (by omega) fs,hm];exact⟨_,rfl⟩
theorem aR8(b:pD al ag fs l=0){gap:Int}(g0:0<=gap)(g1:gap<=64)(id:Int)(p:bs) :
  zx ((al,ag,fs,l),id,p,gap)=Z (match nQ al id with|some n=>cond (0<na ag id) U <|qc (pz al ag ag) (qd al ag fs) al n.1 (l3 n) p gap|none=>U):=by
 have c:=h.pl.pA;have d:=h.pl.qF;have a:xr (al,ag,fs,l)=Z 0:=by rw[E1,b]
 have c1:No (gap<0)=U:=ft (by omega);have c2:No (64<gap)=U:=ft (by omega);unfold zx;simp only[a,c1,c2,h.pl.Hw];cases f:nQ al id with
 |none=>rfl
 |some n=>
  have g:No ((0:Int)<((na ag id:Nat):Int))=No (0<na ag id):=by by_cases e:0<na ag id<;>simp
  have i:=PE (Qn h.pl) (Lj h.pl h.wR) (by omega) (LQ h).pos n p g0 g1;simp only[ MR al ag fs id (show aa ag<=1000000 by omega),bT,g,MX h.pl h.wR,i];cases No (0<na ag id)<;>rfl
end
end Dp
namespace Dp
theorem cn1{j7:cu nE}{gap:Int}{p q:bs}(h1:p.1-gap<=q.1)(h2:q.1<=p.1+gap)(a:p.2-gap<=q.2)(b:q.2<=p.2+gap):(j7.filter (oJ (2*gap) p)).any (pg gap q)=j7.any (pg gap q):=by grind[List.any_filter,pg,oJ]
def cb1{j7:cu nE}{l1:cu oP}{cur:gp}{id gap:Int}{p q:bs}(h1:p.1-gap<=q.1)(h2:q.1<=p.1+gap)(a:p.2-gap<=q.2)(b:q.2<=p.2+gap):qc (j7.filter (oJ (2*gap) p)) l1 cur id p q gap=qc j7 l1 cur id p q gap:=by grind[qc,cn1]
theorem cn2{g2 id:Int}{q:bs}{n:b9}:yR g2 id q n=U↔(n.1≠id->aW3 g2 (l3 n) q):=by
 unfold yR aW3 l3
 grind
def cm6{j7:cu nE}{l1:cu oP}{cur:gp}{id gap:Int}{p q:bs}:qc j7 l1 cur id p q gap=Y↔fits (gap*gap) (λq=>j7.any (pg gap q)=U) (qo · l1) cur id p q:=by grind[qc,fits,yU,yR,aW3,bc,cn2,aJ,pg,qo]
def as5{al:gp}{m:cu (Int×bs)}:∀ {l:cu fy},tV al m l=Y->∀s∈l,al.all (p6 s)=Y
 | [],_,s,hs=>by simp at hs
 |x::l,h,s,hs=>by
  simp only[tV,ab]at h;rcases aF.1 hs with rfl|hs
  exact h.2.1;exact as5 h.2.2 s hs
def aD3:∀(pre l:gp),sC pre l=U->(∀c∈pre,∀d∈l,l3 c≠l3 d)/\l.Pairwise (l3 ·≠l3 ·)
 |_,[],_=>⟨by simp,.nil⟩
 |pre,n::l,h=>by
  unfold sC at h;rw[cL]at h;let ⟨i1,i2⟩:=aD3 (pre++[n]) l h.2;refine⟨λc hc d hd=>?_,aR.2 ⟨λd hd=>i1 n (by simp) d hd,i2⟩⟩;rcases aF.1 hd with rfl|hd
  have:=bc.1 h.1 c hc;unfold GH at this;intro e;apply this;rw[pt];exact e.symm;exact i1 c (by simp[hc]) d hd
theorem cb4:∀ {l:eY} {p a b:bs} {i:Nat},(p::l)[i]?=Z a->(p::l)[i+1]?=Z b->(a.1,a.2,b.1,b.2)∈uz p l
 | [],_,_,_,i,_,h=>by simp at h
 |x::l,p,a,b,0,h1,h2=>by simp only[bP,aI,ah]at h1 h2;subst h1;subst h2;simp[uz]
 |x::l,p,a,b,i+1,h1,h2=>by rw[aI]at h1 h2;exact bp _ (cb4 h1 h2)
section
variable {al:gp} {ag:hI} {fs:eD} (h:fp al ag fs)
include h
theorem q_{r:cu fy}(f:zb al ag ag=Z r){s:fy}(hs:s∈r):∃g∈pz al ag ag,pI g=hi s/\pC g=gl s:=by let ⟨a,ha,p,hp,hm⟩:=Bt f s hs;obtain⟨i,a7,rfl⟩:=xw hm;let ⟨p0,q,b,j,_⟩:=FW h ha;rw[hp]at b;have e:=aK b;subst e;have c:(p0::q)[i]?=Z ((p0::q)[i]'(by omega)):=af _;have d:(p0::q)[i+1]?=Z ((p0::q)[i+1]'a7):=af _;refine⟨_,cW.2 ⟨a,ha,by rw[j];exact cb4 c d⟩,?_,?_⟩;show _=((p0::q)[(i:Int).toNat]?).getD (0,0);rw[aO,c];rfl;show _=((p0::q)[(i:Int).toNat+1]?).getD (0,0);rw[aO,d];rfl
theorem aw0{r:cu fy}(b:zb al ag ag=Z r){s:fy}(hs:s∈r){n:b9}(c:n∈al)(hd:na ag n.1=0):n' (hi s) (gl s) n.2=U:=by
 have hp:=h.FT;unfold u_ at hp;rw[b]at hp;have hm:s∈oy p2 r:=(tG (vA r)).mem_iff.2 hs;have hf:=aj.1 (as5 hp s hm) n c;let ⟨a,ha,p,_,hm⟩:=Bt b s hs;obtain⟨i,_,rfl⟩:=xw hm;have d:=DG ha
 grind[p6,rT,decide_false,dc]
theorem R7:∀c∈al,∀d∈al,c.1≠d.1->l3 c≠l3 d:=by
 have hc:=h.conn;unfold vP at hc;have hd:sC [] al=U:=by
  cases i:sC [] al with
  |false=>rfl
  |true=>rw[i]at hc;simp at hc
 have hp:=(aD3 [] al hd).2;intro c hc d hd f;have key:∀ {l:gp},l.Pairwise (l3 ·≠l3 ·)->c∈l->d∈l->c≠d->l3 c≠l3 d:=by
  intro l hl a b g
  induction l with
  |nil=>simp at a
  |cons x l j=>
   rw[aR]at hl;rcases aF.1 a with rfl|a<;>rcases aF.1 b with rfl|b
   exact(g rfl).elim;exact hl.1 d b;exact λe=>hl.1 c (by assumption) e.symm;exact j hl.2 a b
 exact key hp hc hd (λe=>f (by rw[e]))
end
end Dp
end Go.Ab
namespace Go.Pg
abbrev qT:=Int×Int
def gg{α:Type}:List α->(α->Int)->Int
 | [],_=>0
 |a::l,f=>f a+gg l f
section
variable {α β:Type}
def ns{f g:α->Int}:∀ {l:List α},(∀a∈l,f a=g a)->gg l f=gg l g
 | [],_=>rfl
 |a::l,h=>by have h1:=h a (by simp);have h2:=ns (f:=f) (g:=g) (l:=l) λb c=>h b (by simp[c]);simp only[gg,h1,h2]
def ss(f g:α->Int):∀l:List α,gg l (λa=>f a+g a)=gg l f+gg l g
 | []=>by simp[gg]
 |a::l=>by have:=ss f g l;simp only[gg];omega
def yI(f g:α->Int):∀l:List α,gg l (λa=>f a-g a)=gg l f-gg l g
 | []=>by simp[gg]
 |a::l=>by have:=yI f g l;simp only[gg];omega
def GC(f:α->Int):∀l:List α,gg l (- f ·)=- gg l f
 | []=>by simp[gg]
 |a::l=>by have:=GC f l;simp only[gg];omega
def uq{f:α->Int}{l:List α}(h:∀a∈l,f a=0):gg l f=0:=by
 induction l with
 |nil=>rfl
 |cons a l c=>simp only[gg,h a (by simp),c λb d=>h b (by simp[d])];rfl
def JQ(c:Int)(f:α->Int):∀l:List α,gg l (c*f ·)=c*gg l f
 | []=>by simp[gg]
 |a::l=>by have:=JQ c f l;simp only[gg,this,jd]
def zQ(f:α->Int):∀l m:List α,gg (l++m) f=gg l f+gg m f
 | [],m=>by simp[gg]
 |a::l,m=>by have:=zQ f l m;simp only[cS,gg];omega
def PK{f:α->Int}{l m:List α}(h:l.Perm m):gg l f=gg m f:=by
 induction h with
 |nil=>rfl
 |cons x _ a=>simp only[gg,a]
 |swap x y l=>simp only[gg];omega
 |trans _ _ h1 h2=>exact h1.trans h2
def DY(g:β->α)(f:α->Int):∀l:List β,gg (l.map g) f=gg l (λb=>f (g b))
 | []=>rfl
 |b::l=>by simp only[aq,gg,DY g f l]
def Om(p:α->Bool)(f:α->Int):∀l:List α,gg (l.filter p) f=gg l (λa=>ite (p a) (f a) 0)
 | []=>rfl
 |a::l=>by
  have:=Om p f l;by_cases h:p a=Y;simp only[cC,h,vE,gg,this];simp only[ gg]
  grind
def J2(f:α->β->Int):∀(l:List α) (m:List β),gg l (λa=>gg m (f a))=gg m (λb=>gg l (f · b))
 | [],m=>by simp only[gg];exact(uq λ_ _=>rfl).symm
 |a::l,m=>by simp only[gg,J2 f l m];rw[<-ss]
end
structure Net(ι:Type) where
 E:List ι
 b7:ι->qT
 a7:ι->qT
 M:Int
 s:ι->Int
 p7:0<M
 ord:∀e∈E,(b7 e).2<(a7 e).2\/((b7 e).2=(a7 e).2/\(b7 e).1<(a7 e).1)
 AB:∀e∈E,(b7 e).2<(a7 e).2->s e*((a7 e).2-(b7 e).2)=M*((a7 e).1-(b7 e).1)
namespace Net
variable {ι:Type} (N:Net ι)
def X(e:ι)(y:Int):Int:=N.M*(N.b7 e).1+N.s e*(y-(N.b7 e).2)
def up(e:ι):Prop:=(N.b7 e).2<(N.a7 e).2
instance (e:ι):Decidable (N.up e):=by unfold up;infer_instance
def eS(e:ι)(k:Int):Prop:=(N.b7 e).2<=k/\k<(N.a7 e).2
instance (e:ι) (k:Int):Decidable (N.eS e k):=by unfold eS;infer_instance
def vG(e:ι):N.X e (N.b7 e).2=N.M*(N.b7 e).1:=by simp[X]
def yo{e:ι}(he:e∈N.E)(hu:N.up e):N.X e (N.a7 e).2=N.M*(N.a7 e).1:=by have:=N.AB e he hu;unfold X;rw[this,c_];omega
structure wx:Prop where
 nodup:N.E.Nodup
 fr:∀e∈N.E,∀f∈N.E,∀k,N.eS e k->N.eS f k->N.X e k<N.X f k->N.X e (k+1)<=N.X f (k+1)
 Vd:∀e∈N.E,∀f∈N.E,∀k,N.eS e k->N.eS f k->N.X e (k+1)<N.X f (k+1)->N.X e k<=N.X f k
 apart:∀e∈N.E,∀f∈N.E,∀k,N.eS e k->N.eS f k->N.X e k=N.X f k->N.X e (k+1)=N.X f (k+1)->e=f
 KK:∀e∈N.E,∀f∈N.E,∀k,N.up e->N.up f->e≠f->(N.b7 e).2<=k->k<=(N.a7 e).2->(N.b7 f).2<=k->k<=(N.a7 f).2->N.X e k=N.X f k->(k=(N.b7 e).2\/k=(N.a7 e).2)
 flat:∀e∈N.E,∀f∈N.E,N.up e->¬N.up f->(N.b7 e).2<=(N.b7 f).2->(N.b7 f).2<=(N.a7 e).2->N.M*(N.b7 f).1<=N.X e (N.b7 f).2->N.X e (N.b7 f).2<=N.M*(N.a7 f).1 ->
  ((N.b7 f).2=(N.b7 e).2\/(N.b7 f).2=(N.a7 e).2)/\(N.X e (N.b7 f).2=N.M*(N.b7 f).1\/N.X e (N.b7 f).2=N.M*(N.a7 f).1)
 sv:∀e∈N.E,∀f∈N.E,¬N.up e->¬N.up f->(N.b7 e).2=(N.b7 f).2->(N.b7 e).1<(N.a7 f).1->(N.b7 f).1<(N.a7 e).1->e=f
def rR(d:ι->Int):Prop:=∀A:qT->Bool,gg N.E (λe=>d e*((ite (A (N.b7 e)) 1 0)-(ite (A (N.a7 e)) 1 0)))=0
def vK(d:ι->Int)(k a:Int):Int:=gg N.E λe=>ite (N.eS e k/\N.X e k<a) (d e) 0
def below(d:ι->Int)(k a:Int):Int:=gg N.E λe=>ite (N.eS e (k-1)/\N.X e k<a) (d e) 0
def uG(d:ι->Int)(k a:Int):Int:=gg N.E λe=>ite (¬N.up e/\(N.b7 e).2=k/\N.M*(N.b7 e).1<a/\a<=N.M*(N.a7 e).1) (d e) 0
def line{d:ι->Int}(hd:N.rR d)(k a:Int):N.vK d k a+N.uG d k a=N.below d k a:=by
 have h:=hd λv=>No (v.2=k/\N.M*v.1<a);have e:gg N.E (λe=>d e*((ite (No ((N.b7 e).2=k/\N.M*(N.b7 e).1<a)=Y) 1 0)-(ite (No ((N.a7 e).2=k/\N.M*(N.a7 e).1<a)=Y) 1 0)))=gg N.E (λe=>((ite (N.eS e k/\N.X e k<a) (d e) 0)+(ite (¬N.up e/\(N.b7 e).2=k/\N.M*(N.b7 e).1<a/\a<=N.M*(N.a7 e).1) (d e) 0))-(ite (N.eS e (k-1)/\N.X e k<a) (d e) 0)):=by
  refine ns λe he=>?_;simp only[kA];rcases N.ord e he with ho|⟨ho,g⟩
  have hu:N.up e:=ho;by_cases h1:(N.b7 e).2=k;have f:N.X e k=N.M*(N.b7 e).1:=by rw[<-h1];exact N.vG e
  have c1:N.eS e k:=⟨by omega,by omega⟩;have c2:¬N.eS e (k-1):=λh=>by have:=h.1;omega
  have i:¬(N.a7 e).2=k:=by omega
  simp only[h1,c1,c2,i,hu,f];split<;>simp;by_cases h2:(N.a7 e).2=k;have f:N.X e k=N.M*(N.a7 e).1:=by rw[<-h2];exact N.yo he hu
  have c1:¬N.eS e k:=λh=>by have:=h.2;omega
  have c2:N.eS e (k-1):=⟨by omega,by omega⟩;simp only[h1,h2,c1,c2,f,false_and,l4];split<;>simp;have c:N.eS e k↔N.eS e (k-1):=by unfold eS;omega
  simp only[h1,h2,c,hu,false_and,not_true_eq_false,l4];omega;have hu:¬N.up e:=λh=>by unfold up at h;omega
  have c1:∀k,¬N.eS e k:=λk h=>by have:=h.1;have:=h.2;omega
  have l:=cd g N.p7;simp only[c1,hu,<-ho];by_cases h1:(N.b7 e).2=k;simp only[h1];by_cases h2:N.M*(N.b7 e).1<a;by_cases b:N.M*(N.a7 e).1<a;have j:¬a<=N.M*(N.a7 e).1:=by omega
  simp[h2,b,j];simp[h2,b];have b:¬N.M*(N.a7 e).1<a:=by omega
  simp[h2,b];simp[h1]
 rw[e,yI,ss]at h;show gg N.E _+gg N.E _=gg N.E _;omega
def kO(d:ι->Int)(k:Int)(u:ι):Int:=gg N.E λe=>ite (N.eS e k/\N.X e k+N.X e (k+1)<N.X u k+N.X u (k+1)) (d e) 0
variable {N} (hP:N.wx)
include hP
theorem O5{e u:ι}(he:e∈N.E)(hu:u∈N.E){k:Int}(h1:N.eS e k)(h2:N.eS u k):N.X e k+N.X e (k+1)<N.X u k+N.X u (k+1)↔N.X e k<N.X u k\/(N.X e k=N.X u k/\N.X e (k+1)<N.X u (k+1)):=by
 have a:=hP.fr e he u hu k h1 h2;have b:=hP.fr u hu e he k h2 h1;constructor;intro h;rcases iG (N.X e k) (N.X u k)with c|c|c
 exact bE c;exact bq ⟨c,by omega⟩;omega;rintro (h|⟨h,h'⟩);omega;omega
theorem aP6{e u:ι}(he:e∈N.E)(hu:u∈N.E){k:Int}(h1:N.eS e k)(h2:N.eS u k):N.X e k+N.X e (k+1)<N.X u k+N.X u (k+1)↔N.X e (k+1)<N.X u (k+1)\/(N.X e (k+1)=N.X u (k+1)/\N.X e k<N.X u k):=by
 have a:=hP.Vd e he u hu k h1 h2;have b:=hP.Vd u hu e he k h2 h1;constructor;intro h;rcases iG (N.X e (k+1)) (N.X u (k+1))with c|c|c
 exact bE c;exact bq ⟨c,by omega⟩;omega;rintro (h|⟨h,h'⟩);omega;omega
theorem Ul(d:ι->Int){u:ι}(hu:u∈N.E){k:Int}(h2:N.eS u k):N.kO d k u=N.vK d k (N.X u k)+gg N.E (λe=>ite (N.eS e k/\N.X e k=N.X u k/\N.X e (k+1)<N.X u (k+1)) (d e) 0):=by
 unfold kO vK;rw[<-ss];refine ns λe he=>?_;by_cases h1:N.eS e k;have:=O5 hP he hu h1 h2;simp only[ this];by_cases c1:N.X e k<N.X u k;have c2:¬N.X e k=N.X u k:=by omega
 simp[ c2];simp[c1];simp[h1]
theorem Um(d:ι->Int){u:ι}(hu:u∈N.E){k:Int}(h2:N.eS u k):N.kO d k u=N.below d (k+1) (N.X u (k+1))+gg N.E (λe=>ite (N.eS e k/\N.X e (k+1)=N.X u (k+1)/\N.X e k<N.X u k) (d e) 0):=by
 unfold kO below;rw[<-ss];refine ns λe he=>?_;by_cases h1:N.eS e k;have:=aP6 hP he hu h1 h2;simp only[ this];by_cases c1:N.X e (k+1)<N.X u (k+1);have c2:¬N.X e (k+1)=N.X u (k+1):=by omega
 simp[ c2];simp[c1];simp[h1]
theorem sV{e:ι}{k:Int}(h:N.eS e k):N.up e:=by have:=h.1;have:=h.2;unfold up;omega
theorem bd6{d:ι->Int}(hd:N.rR d){u:ι}(hu:u∈N.E){k:Int}(h1:N.eS u k)(h2:N.eS u (k+1)):N.kO d k u=N.kO d (k+1) u:=by
 have a:=sV hP h1;have i1:(N.b7 u).2<k+1:=by have:=h1.1;omega
 have i2:=h2.2;have i:gg N.E (λe=>ite (N.eS e k/\N.X e (k+1)=N.X u (k+1)/\N.X e k<N.X u k) (d e) 0)=0:=uq λe he=>by
  by_cases c:N.eS e k/\N.X e (k+1)=N.X u (k+1)/\N.X e k<N.X u k;let ⟨c1,c2,g⟩:=c;have b:u≠e:=λh=>by subst h;omega
  have:=hP.KK u hu e he (k+1) a (sV hP c1) b (by omega) (by omega) (by have:=c1.1;omega) (by have:=c1.2;omega) c2.symm;omega;rw[cc c]
 have j:gg N.E (λe=>ite (N.eS e (k+1)/\N.X e (k+1)=N.X u (k+1)/\N.X e (k+1+1)<N.X u (k+1+1)) (d e) 0)=0:=uq λe he=>by
  by_cases c:N.eS e (k+1)/\N.X e (k+1)=N.X u (k+1)/\N.X e (k+1+1)<N.X u (k+1+1);let ⟨c1,c2,g⟩:=c;have b:u≠e:=λh=>by subst h;omega
  have:=hP.KK u hu e he (k+1) a (sV hP c1) b (by omega) (by omega) (by have:=c1.1;omega) (by have:=c1.2;omega) c2.symm;omega;rw[cc c]
 have m:N.uG d (k+1) (N.X u (k+1))=0:=uq λf hf=>by by_cases c:¬N.up f/\(N.b7 f).2=k+1/\N.M*(N.b7 f).1<N.X u (k+1)/\N.X u (k+1)<=N.M*(N.a7 f).1;let ⟨c1,c2,g,n⟩:=c;have:=hP.flat u hu f hf a c1 (by omega) (by omega) (by rw[c2];omega) (by rw[c2];omega);omega;rw[cc c]
 have l:=N.line hd (k+1) (N.X u (k+1));rw[Um hP d hu h1,Ul hP d hu h2,i,j];omega
theorem Sh{d:ι->Int}(hd:N.rR d){u:ι}(hu:u∈N.E)(n:Nat):∀ {k:Int},N.eS u k->N.eS u (k+n)->N.kO d k u=N.kO d (k+n) u:=by
 induction n with
 |zero=> simp
 |succ n b =>intro k h1 h2;have a:N.eS u (k+1):=⟨by have:=h1.1;omega,by have:=h2.2;omega⟩;rw[bd6 hP hd hu h1 a,show k+((n+1:Nat):Int)=k+1+(n:Int)by omega];exact b a (by rw[show k+1+(n:Int)=k+((n+1:Nat):Int)by omega];exact h2)
theorem Uk{d:ι->Int}(hd:N.rR d){u:ι}(hu:u∈N.E){k a:Int}(h1:N.eS u k)(h2:N.eS u a):N.kO d k u=N.kO d a u:=by
 rcases iL k a with h|h
 have:=Sh hP hd hu (a-k).toNat h1 (by rw[show k+((a-k).toNat:Int)=a by omega];exact h2);rw[show k+((a-k).toNat:Int)=a by omega]at this;exact this;have:=Sh hP hd hu (k-a).toNat h2 (by rw[show a+((k-a).toNat:Int)=k by omega];exact h1);rw[show a+((k-a).toNat:Int)=k by omega]at this;exact this.symm
end Net
end Go.Pg
namespace Go.Pg
namespace Net
variable {ι:Type} {N:Net ι} (hP:N.wx)
def yv(N:Net ι)(d:ι->Int)(v:qT):Int:=gg N.E λe=>ite (N.up e/\N.b7 e=v) (d e) 0
def C'(N:Net ι)(d:ι->Int)(v:qT):Int:=gg N.E λe=>ite (N.up e/\N.a7 e=v) (d e) 0
def Bh(N:Net ι)(d:ι->Int)(v:qT):Int:=gg N.E λe=>ite (¬N.up e/\N.b7 e=v) (d e) 0
def Bi(N:Net ι)(d:ι->Int)(v:qT):Int:=gg N.E λe=>ite (¬N.up e/\N.a7 e=v) (d e) 0
def RZ{d:ι->Int}(hd:N.rR d)(v:qT):N.yv d v+N.Bh d v=N.C' d v+N.Bi d v:=by
 have h:=hd λp=>No (p=v);have e:gg N.E (λe=>d e*((ite (No (N.b7 e=v)=Y) 1 0)-(ite (No (N.a7 e=v)=Y) 1 0)))=gg N.E (λe=>((ite (N.up e/\N.b7 e=v) (d e) 0)+(ite (¬N.up e/\N.b7 e=v) (d e) 0))-((ite (N.up e/\N.a7 e=v) (d e) 0)+(ite (¬N.up e/\N.a7 e=v) (d e) 0))):=by refine ns λe _=>?_;by_cases h1:N.up e<;>by_cases h2:N.b7 e=v<;>by_cases a:N.a7 e=v<;>simp[h1,h2,a]
 rw[e,yI,ss,ss]at h;unfold yv C' Bh Bi;omega
def L2(N:Net ι)(v:qT):Prop:=∃e∈N.E,N.b7 e=v\/N.a7 e=v
include hP
omit hP in
theorem yH{e:ι}(he:e∈N.E)(h:¬N.up e):(N.b7 e).2=(N.a7 e).2/\(N.b7 e).1<(N.a7 e).1:=by
 rcases N.ord e he with ho|ho
 exact b8 ho h;exact ho
theorem Np(d:ι->Int){v:qT}(hv:N.L2 v):N.uG d v.2 (N.M*v.1)=N.Bi d v:=by
 refine ns λf hf=>?_;by_cases h1:N.up f;simp[h1];let ⟨k,l⟩:=yH hf h1;by_cases h2:N.a7 f=v;have c:(N.b7 f).2=v.2/\N.M*(N.b7 f).1<N.M*v.1/\N.M*v.1<=N.M*(N.a7 f).1:=by rw[<-h2];exact⟨k,cd l N.p7,cH _⟩
 simp[ h2,c];have c:¬((N.b7 f).2=v.2/\N.M*(N.b7 f).1<N.M*v.1/\N.M*v.1<=N.M*(N.a7 f).1):=by
  rintro ⟨c1,c2,i⟩;have c2:=gm c2 (dR N.p7);have i:=Int.le_of_mul_le_mul_left i N.p7;have n:v.1≠(N.a7 f).1:=λh=>h2 (eB h.symm (by omega));let ⟨e,he,a⟩:=hv;by_cases b:N.up e;rcases a with a|a
  have g:N.X e (N.b7 f).2=N.M*v.1:=by rw[c1,<-a];exact N.vG e
  have:=hP.flat e he f hf b h1 (by rw[a];omega) (by unfold up at b;rw[a]at b;omega) (by rw[g];exact bB (by omega) (dR N.p7)) (by rw[g];exact bB (by omega) (dR N.p7));rw[g]at this;rcases this.2 with h|h
  have:=cM (by have:=N.p7;omega) h;omega;have:=cM (by have:=N.p7;omega) h;omega;have g:N.X e (N.b7 f).2=N.M*v.1:=by rw[c1,<-a];exact N.yo he b
  have:=hP.flat e he f hf b h1 (by unfold up at b;rw[a]at b;omega) (by rw[a];omega) (by rw[g];exact bB (by omega) (dR N.p7)) (by rw[g];exact bB (by omega) (dR N.p7));rw[g]at this;rcases this.2 with h|h
  have:=cM (by have:=N.p7;omega) h;omega;have:=cM (by have:=N.p7;omega) h;omega;let ⟨m,j⟩:=yH he b;rcases a with a|a
  have:=hP.sv e he f hf b h1 (by rw[a];omega) (by rw[a];omega) (by rw[a]at j;omega);subst this;rw[a]at c2;omega;have:=hP.sv e he f hf b h1 (by rw[m,a];omega) (by rw[a]at j;omega) (by rw[a];omega);subst this;exact h2 a
 simp only[h1,h2,not_false_eq_true,qj,l4];rw[cc c]
theorem bd5(d:ι->Int){u:ι}(hu:u∈N.E)(h:N.up u){v:qT}(hv:N.b7 u=v):N.kO d v.2 u=N.vK d v.2 (N.M*v.1)+gg N.E (λe=>ite (N.up e/\N.b7 e=v/\N.X e (v.2+1)<N.X u (v.2+1)) (d e) 0):=by
 subst hv;have f:=N.vG u;have hc:N.eS u (N.b7 u).2:=⟨cH _,h⟩;rw[Ul hP d hu hc,f];congr 1;refine ns λe he=>?_;by_cases c:N.up e/\N.b7 e=N.b7 u/\N.X e ((N.b7 u).2+1)<N.X u ((N.b7 u).2+1);let ⟨c1,c2,a⟩:=c;rw[cr ⟨⟨by rw[c2];omega,by unfold up at c1;rw[c2]at c1;exact c1⟩,by rw[<-c2];exact N.vG e,a⟩,cr ⟨c1,c2,a⟩];rw[cc c,cc];rintro ⟨c1,c2,a⟩;have b:e≠u:=λh=>by subst h;omega
 have i:=hP.KK e he u hu (N.b7 u).2 (sV hP c1) h b c1.1 (by have:=c1.2;omega) (cH _) (by unfold up at h;omega) (by rw[c2,f]);have g:(N.b7 u).2=(N.b7 e).2:=by have:=c1.2;omega
 refine c ⟨sV hP c1,eB ?_ g.symm,a⟩;have:=N.vG e;rw[<-g,c2]at this;exact(cM (by have:=N.p7;omega) this).symm
theorem bd4(d:ι->Int){u:ι}(hu:u∈N.E)(h:N.up u){v:qT}(hv:N.a7 u=v):N.kO d (v.2-1) u=N.below d v.2 (N.M*v.1)+gg N.E (λe=>ite (N.up e/\N.a7 e=v/\N.X e (v.2-1)<N.X u (v.2-1)) (d e) 0):=by
 subst hv;have g:=N.yo hu h;have hc:N.eS u ((N.a7 u).2-1):=⟨by unfold up at h;omega,by omega⟩;have j:(N.a7 u).2-1+1=(N.a7 u).2:=by omega
 rw[Um hP d hu hc,j,g];congr 1;refine ns λe he=>?_;by_cases c:N.up e/\N.a7 e=N.a7 u/\N.X e ((N.a7 u).2-1)<N.X u ((N.a7 u).2-1);let ⟨c1,c2,a⟩:=c;have b:=N.yo he c1;rw[cr ⟨⟨by unfold up at c1;rw[c2]at c1;omega,by rw[c2];omega⟩,by rw[<-c2];exact b,a⟩,cr ⟨c1,c2,a⟩];rw[cc c,cc];rintro ⟨c1,c2,a⟩;have f:e≠u:=λh=>by subst h;omega
 have k:=hP.KK e he u hu (N.a7 u).2 (sV hP c1) h f (by have:=c1.1;omega) (by have:=c1.2;omega) (by unfold up at h;omega) (cH _) (by rw[c2,g]);have i:(N.a7 u).2=(N.a7 e).2:=by have:=c1.1;omega
 refine c ⟨sV hP c1,eB ?_ i.symm,a⟩;have:=N.yo he (sV hP c1);rw[<-i,c2]at this;exact(cM (by have:=N.p7;omega) this).symm
theorem bp0(d:ι->Int){f:ι}(hf:f∈N.E)(h:¬N.up f):N.vK d (N.b7 f).2 (N.M*(N.a7 f).1)=N.vK d (N.b7 f).2 (N.M*(N.b7 f).1)+N.yv d (N.b7 f):=by
 let ⟨o,m⟩:=yH hf h;have n:=cd m N.p7;unfold vK yv;rw[<-ss];refine ns λe he=>?_;by_cases c:N.eS e (N.b7 f).2;have g:=sV hP c;simp only[c,g,qj];by_cases c1:N.b7 e=N.b7 f;have j:N.X e (N.b7 f).2=N.M*(N.b7 f).1:=by rw[<-c1];exact N.vG e
 simp only[c1,j,n];omega;simp only[c1,l4];by_cases c2:N.X e (N.b7 f).2<N.M*(N.b7 f).1;have k:N.X e (N.b7 f).2<N.M*(N.a7 f).1:=by omega
 simp only[c2,k];omega;by_cases k:N.X e (N.b7 f).2<N.M*(N.a7 f).1;have:=hP.flat e he f hf g h c.1 (by have:=c.2;omega) (by omega) (by omega);have l:(N.b7 f).2=(N.b7 e).2:=by have:=c.2;omega
 have j:N.X e (N.b7 f).2=N.M*(N.b7 f).1:=by omega
 have i:=N.vG e;rw[<-l,j]at i;exact b8 (eB (cM (by have:=N.p7;omega) i).symm l.symm) c1;omega;have c1:¬(N.up e/\N.b7 e=N.b7 f):=by rintro ⟨a,b⟩;exact c ⟨by rw[b];omega,by unfold up at a;rw[b]at a;exact a⟩
 simp[c,c1]
end Net
end Go.Pg
namespace Go.Pg
def B7{α:Type}[DecidableEq α](f:α->Int){u:α}:∀ {l:List α},l.Nodup->u∈l->gg l (λa=>ite (a=u) (f a) 0)=f u
 | [],_,h=>by simp at h
 |a::l,c,h=>by
  have c:=cx.1 c;simp only[gg];by_cases e:a=u;subst e;rw[cr rfl,uq λb d=>cc λ(h:b=a)=>c.1 (h▸d)];omega;rcases aF.1 h with h|h
  exact b8 h.symm e;rw[cc e,B7 f c.2 h];omega
namespace Net
variable {ι:Type} {N:Net ι} (hP:N.wx)
abbrev pJ(ι:Type):=ι×Bool
def src(N:Net ι)(h:pJ ι):qT:=cond h.2 (N.b7 h.1) <|N.a7 h.1
def dst(N:Net ι)(h:pJ ι):qT:=cond h.2 (N.a7 h.1) <|N.b7 h.1
def rev(h:pJ ι):pJ ι:=(h.1,!h.2)
def dl(d:ι->Int)(h:pJ ι):Int:=cond h.2 (d h.1) <|-d h.1
def L(N:Net ι)(d:ι->Int)(h:pJ ι):Int :=ite (N.up h.1) (cond h.2 (N.kO d (N.b7 h.1).2 h.1) <|N.kO d (N.b7 h.1).2 h.1+d h.1) (cond h.2 (N.vK d (N.b7 h.1).2 (N.M*(N.a7 h.1).1)) <|N.below d (N.b7 h.1).2 (N.M*(N.a7 h.1).1))
def cls(N:Net ι)(h:pJ ι):Nat:=ite (N.up h.1) (cond h.2 1 3) (cond h.2 0 2)
def nh(N:Net ι)(k:Int)(g h:pJ ι):Prop:=N.cls g<N.cls h\/(N.cls g=1/\N.cls h=1/\N.X h.1 (k+1)<N.X g.1 (k+1))\/(N.cls g=3/\N.cls h=3/\N.X g.1 (k-1)<N.X h.1 (k-1))
def og(N:Net ι):List (pJ ι):=N.E.flatMap λe=>[(e,Y),(e,U)]
def D9(F:pJ ι->Int):gg N.og F=gg N.E (λe=>F (e,Y)+F (e,U)):=by
 unfold og;generalize N.E=E
 induction E with
 |nil=>rfl
 |cons e E a =>simp only[b_,cS,bZ,gg];omega
include hP
theorem aC0(d:ι->Int){f:ι}(hf:f∈N.E)(h:¬N.up f):N.Bi d (N.a7 f)=d f:=by
 open Classical in
 rw[<-B7 d hP.nodup hf];refine ns λe he=>?_;by_cases c:e=f;subst c;simp[h];rw[cc c,cc];rintro ⟨c1,c2⟩;let ⟨a,b⟩:=yH he c1;let ⟨g,i⟩:=yH hf h;exact c (hP.sv e he f hf c1 h (by rw[a,c2,g]) (by rw[<-c2];exact b) (by rw[c2];exact i))
theorem aZ7(d:ι->Int){f:ι}(hf:f∈N.E)(h:¬N.up f):N.Bh d (N.b7 f)=d f:=by
 open Classical in
 rw[<-B7 d hP.nodup hf];refine ns λe he=>?_;by_cases c:e=f;subst c;simp[h];rw[cc c,cc];rintro ⟨c1,c2⟩;let ⟨g,a⟩:=yH he c1;let ⟨i,b⟩:=yH hf h;exact c (hP.sv e he f hf c1 h (by rw[c2]) (by rw[c2];exact b) (by rw[<-c2];exact a))
theorem Hi{d:ι->Int}(hd:N.rR d){h:pJ ι}(a:h.1∈N.E):N.L d (rev h)=N.L d h+dl d h:=by let ⟨e,b⟩:=h;have a:e∈N.E:=a;unfold L rev dl;by_cases hu:N.up e;cases b;simp only[hu,vE,bj,b6,bu];omega;simp only[hu,vE,aw,b6,bu];let ⟨c,f⟩:=yH a hu;have l:=N.line hd (N.a7 e).2 (N.M*(N.a7 e).1);rw[Np hP d ⟨e,a,bq rfl⟩,aC0 hP d a hu]at l;rw[<-c]at l;cases b;simp only[hu,l4,bj,b6,bu];omega;simp only[hu,l4,aw,b6,bu];omega
open Classical in
theorem aO5{d:ι->Int}(hd:N.rR d){h:pJ ι}(z:h.1∈N.E){v:qT}(hv:N.src h=v) :
  N.L d h=N.below d v.2 (N.M*v.1)+N.C' d v-gg N.og (λg=>ite (N.src g=v/\(g=h\/N.nh v.2 g h)) (dl d g) 0):=by
 let ⟨u,b⟩:=h;have hu:u∈N.E:=z;have q:N.L2 v:=by cases b;exact⟨u,hu,bq hv⟩;exact⟨u,hu,bE hv⟩
 have n:=N.line hd v.2 (N.M*v.1);rw[Np hP d q]at n;have t:=RZ hd v;rw[D9];by_cases a:N.up u;cases b;have hv:N.a7 u=v:=hv;have o:N.L d (u,U)=N.kO d (v.2-1) u+d u:=by have c1:N.eS u (N.b7 u).2:=⟨cH _,a⟩;have c2:N.eS u (v.2-1):=⟨by unfold up at a;rw[hv]at a;omega,by rw[hv];omega⟩;simp only[L,a,vE,bu,Uk hP hd hu c1 c2]
 have f:N.cls (u,U)=3:=by simp[cls,a]
 have p:gg N.E (λe=>(ite (N.src (e,Y)=v/\((e,Y)=(u,U)\/N.nh v.2 (e,Y) (u,U))) (dl d (e,Y)) 0)+(ite (N.src (e,U)=v/\((e,U)=(u,U)\/N.nh v.2 (e,U) (u,U))) (dl d (e,U)) 0))
   = gg N.E (λe=>((ite (N.up e/\N.b7 e=v) (d e) 0)+(ite (¬N.up e/\N.b7 e=v) (d e) 0))-((ite (¬N.up e/\N.a7 e=v) (d e) 0)+((ite (e=u) (d e) 0)+(ite (N.up e/\N.a7 e=v/\N.X e (v.2-1)<N.X u (v.2-1)) (d e) 0)))):=by
  refine ns λe he=>?_;have s1:N.src (e,Y)=N.b7 e:=rfl;have d1:dl d (e,Y)=d e:=rfl;have s2:N.src (e,U)=N.a7 e:=rfl;have d2:dl d (e,U)=- d e:=rfl;by_cases c:N.up e;have l:N.cls (e,Y)=1:=by simp[cls,c]
  have m:N.cls (e,U)=3:=by simp[cls,c]
  have i:((e,Y)=(u,U)\/N.nh v.2 (e,Y) (u,U)):=by right;unfold nh;rw[l,f];omega
  have k:N.a7 e=v->(((e,U)=(u,U)\/N.nh v.2 (e,U) (u,U))↔(e=u\/N.X e (v.2-1)<N.X u (v.2-1))):=by intro _;constructor;rintro (h|h);cases h;exact bE rfl;unfold nh at h;rw[m,f]at h;simp only at h;right;omega;rintro (h|h);rw[h];exact bE rfl;exact bq (bq (bq ⟨m,f,h⟩))
  by_cases j:e=u;subst j;have s:¬N.X e (v.2-1)<N.X e (v.2-1):=by omega
  simp only[s1,s2,d1,d2,c,hv,qj,i,and_true,not_true_eq_false,false_and,l4,true_or,vE,s,and_false];split<;>omega;by_cases c2:N.a7 e=v;have:=k c2;simp only[s1,s2,d1,d2,c,c2,qj,i,and_true,not_true_eq_false,false_and,l4,j,this,false_or];by_cases w:N.X e (v.2-1)<N.X u (v.2-1);simp only[w,vE];omega;simp only[w,l4];omega;simp only[s1,s2,d1,d2,c,c2,qj,i,and_true,not_true_eq_false,false_and,l4,j];omega;have l:N.cls (e,Y)=0:=by simp[cls,c]
  have m:N.cls (e,U)=2:=by simp[cls,c]
  have i:((e,Y)=(u,U)\/N.nh v.2 (e,Y) (u,U)):=by right;unfold nh;rw[l,f];omega
  have k:((e,U)=(u,U)\/N.nh v.2 (e,U) (u,U)):=by right;unfold nh;rw[m,f];omega
  have j:¬e=u:=λh=>c (h▸a);simp only[s1,s2,d1,d2,c,i,k,and_true,false_and,l4,not_false_eq_true,qj,j];split<;>split<;>omega
 rw[p,yI,ss,ss,ss,o,bd4 hP d hu a hv,B7 d hP.nodup hu];have:gg N.E (λe=>ite (¬N.up e/\N.b7 e=v) (d e) 0)=N.Bh d v:=rfl;have:gg N.E (λe=>ite (N.up e/\N.b7 e=v) (d e) 0)=N.yv d v:=rfl;have:gg N.E (λe=>ite (¬N.up e/\N.a7 e=v) (d e) 0)=N.Bi d v:=rfl;omega;have hv:N.b7 u=v:=hv;have o:N.L d (u,Y)=N.kO d v.2 u:=by simp only[L,a,vE,b6,hv]
 have f:N.cls (u,Y)=1:=by simp[cls,a]
 have p:gg N.E (λe=>(ite (N.src (e,Y)=v/\((e,Y)=(u,Y)\/N.nh v.2 (e,Y) (u,Y))) (dl d (e,Y)) 0)+(ite (N.src (e,U)=v/\((e,U)=(u,Y)\/N.nh v.2 (e,U) (u,Y))) (dl d (e,U)) 0))
   = gg N.E (λe=>(ite (¬N.up e/\N.b7 e=v) (d e) 0)+((ite (N.up e/\N.b7 e=v) (d e) 0)-(ite (N.up e/\N.b7 e=v/\N.X e (v.2+1)<N.X u (v.2+1)) (d e) 0))):=by
  refine ns λe he=>?_;have s1:N.src (e,Y)=N.b7 e:=rfl;have d1:dl d (e,Y)=d e:=rfl;by_cases c:N.up e;have l:N.cls (e,Y)=1:=by simp[cls,c]
  have m:N.cls (e,U)=3:=by simp[cls,c]
  have k:¬((e,U)=(u,Y)\/N.nh v.2 (e,U) (u,Y)):=by rintro (h|h);cases h;unfold nh at h;rw[m,f]at h;omega
  rw[cc (λh:_/\_=>k h.2)];simp only[s1,d1,c,not_true_eq_false,false_and,l4,qj];by_cases c1:N.b7 e=v;simp only[c1,qj,vE];have i:((e,Y)=(u,Y)\/N.nh v.2 (e,Y) (u,Y))↔¬N.X e (v.2+1)<N.X u (v.2+1):=by
   constructor;rintro (h|h);cases h;omega;unfold nh at h;rw[l,f]at h;simp only at h;omega;intro h;by_cases h2:N.X u (v.2+1)<N.X e (v.2+1);exact bq (bq (bE ⟨l,f,h2⟩));left;have ce:N.eS e v.2:=⟨by rw[c1];omega,by unfold up at c;rw[c1]at c;exact c⟩;have B:N.eS u v.2:=⟨by rw[hv];omega,by unfold up at a;rw[hv]at a;exact a⟩;have C:N.X e v.2=N.M*v.1:=by rw[<-c1];exact N.vG e
   have D:N.X u v.2=N.M*v.1:=by rw[<-hv];exact N.vG u
   have:=hP.apart e he u hu v.2 ce B (by rw[C,D]) (by omega);rw[this]
  by_cases c2:N.X e (v.2+1)<N.X u (v.2+1);rw[cc (λh=>(i.1 h) c2),cr c2];omega;rw[cr (i.2 c2),cc c2];omega;simp[c1];have l:N.cls (e,Y)=0:=by simp[cls,c]
  have m:N.cls (e,U)=2:=by simp[cls,c]
  have i:((e,Y)=(u,Y)\/N.nh v.2 (e,Y) (u,Y)):=by right;unfold nh;rw[l,f];omega
  have k:¬((e,U)=(u,Y)\/N.nh v.2 (e,U) (u,Y)):=by rintro (h|h);cases h;unfold nh at h;rw[m,f]at h;omega
  rw[cc (λh:_/\_=>k h.2)];simp only[s1,d1,c,i,and_true,not_false_eq_true,qj,false_and,l4];omega
 rw[p,ss,yI,o,bd5 hP d hu a hv];have:gg N.E (λe=>ite (¬N.up e/\N.b7 e=v) (d e) 0)=N.Bh d v:=rfl;have:gg N.E (λe=>ite (N.up e/\N.b7 e=v) (d e) 0)=N.yv d v:=rfl;omega;cases b;have hv:N.a7 u=v:=hv;let ⟨G,I⟩:=yH hu a;have o:N.L d (u,U)=N.below d v.2 (N.M*v.1):=by simp only[L,a,l4,bu,G,hv]
 have f:N.cls (u,U)=2:=by simp[cls,a]
 have p:gg N.E (λe=>(ite (N.src (e,Y)=v/\((e,Y)=(u,U)\/N.nh v.2 (e,Y) (u,U))) (dl d (e,Y)) 0)+(ite (N.src (e,U)=v/\((e,U)=(u,U)\/N.nh v.2 (e,U) (u,U))) (dl d (e,U)) 0))
   = gg N.E (λe=>((ite (N.up e/\N.b7 e=v) (d e) 0)+(ite (¬N.up e/\N.b7 e=v) (d e) 0))-(ite (e=u) (d e) 0)):=by
  refine ns λe he=>?_;have s1:N.src (e,Y)=N.b7 e:=rfl;have d1:dl d (e,Y)=d e:=rfl;have s2:N.src (e,U)=N.a7 e:=rfl;have d2:dl d (e,U)=- d e:=rfl;have i:((e,Y)=(u,U)\/N.nh v.2 (e,Y) (u,U)):=by right;unfold nh;rw[f];left;unfold cls;split<;>simp
  have k:((e,U)=(u,U)\/N.nh v.2 (e,U) (u,U))↔e=u:=by
   constructor;rintro (h|h);cases h;rfl;unfold nh at h;rw[f]at h;have:2<=N.cls (e,U):=by unfold cls;split<;>simp
   omega;rintro rfl;exact bE rfl
  by_cases j:e=u;subst j;have r:=k.2 rfl;by_cases c1:N.b7 e=v;rw[cr ⟨c1,i⟩,cr ⟨hv,r⟩,cc (a ·.1),cr ⟨a,c1⟩,cr rfl,d1,d2];omega;rw[cc (c1 ·.1),cr ⟨hv,r⟩,cc (a ·.1),cc (c1 ·.2),cr rfl,d2];omega;simp only[s1,s2,d1,d2,i,and_true,k,j,and_false,l4];by_cases c:N.up e<;>by_cases c1:N.b7 e=v<;>simp[c,c1]
 rw[p,yI,ss,o,B7 d hP.nodup hu];have h1:=aC0 hP d hu a;rw[hv]at h1;have:gg N.E (λe=>ite (¬N.up e/\N.b7 e=v) (d e) 0)=N.Bh d v:=rfl;have:gg N.E (λe=>ite (N.up e/\N.b7 e=v) (d e) 0)=N.yv d v:=rfl;omega;have hv:N.b7 u=v:=hv;have o:N.L d (u,Y)=N.vK d v.2 (N.M*v.1)+N.yv d v:=by have:=bp0 hP d hu a;simp only[L,a,l4,b6];rw[<-hv];exact this
 have f:N.cls (u,Y)=0:=by simp[cls,a]
 have p:gg N.E (λe=>(ite (N.src (e,Y)=v/\((e,Y)=(u,Y)\/N.nh v.2 (e,Y) (u,Y))) (dl d (e,Y)) 0)+(ite (N.src (e,U)=v/\((e,U)=(u,Y)\/N.nh v.2 (e,U) (u,Y))) (dl d (e,U)) 0))
   = gg N.E (λe=>ite (e=u) (d e) 0):=by
  refine ns λe he=>?_;have rI:∀b,¬N.nh v.2 (e,b) (u,Y):=by intro b h;unfold nh at h;rw[f]at h;omega
  have x:¬((e,U)=(u,Y)):=λh=>by cases h
  have d1:dl d (e,Y)=d e:=rfl;by_cases j:e=u;subst j;simp only[rI,x,or_false,and_false,l4,and_true,vE,d1,show N.src (e,Y)=v from hv];omega;have H:¬((e,Y)=(u,Y)):=λh=>j (by cases h;rfl);simp only[rI,H,x,or_false,and_false,l4,j];rfl
 rw[p,o,B7 d hP.nodup hu];have:=aZ7 hP d hu a;rw[hv]at this;omega
end Net
end Go.Pg
namespace Go.Pg
namespace Net
variable {ι:Type} {N:Net ι} (hP:N.wx)
def aY1(k:Int)(h:pJ ι):¬N.nh k h h:=by unfold nh;omega
def bc3{k:Int}{g h:pJ ι}(a:N.nh k g h):¬N.nh k h g:=by unfold nh at *;omega
def Gf{h:pJ ι}:h∈N.og↔h.1∈N.E:=by
 unfold og;rw[cW];constructor;rintro ⟨e,he,h2⟩;simp only[aF,gT,or_false]at h2;rcases h2 with rfl|rfl<;>exact he
 intro h1;refine⟨h.1,h1,?_⟩;let ⟨e,b⟩:=h;cases b<;>simp
open Classical in
def bM7{d:ι->Int}(hd:N.rR d)(v:qT):gg N.og (λg=>ite (N.src g=v) (dl d g) 0)=0:=by
 have a:=RZ hd v;rw[D9];have e:gg N.E (λe=>(ite (N.src (e,Y)=v) (dl d (e,Y)) 0)+(ite (N.src (e,U)=v) (dl d (e,U)) 0))=gg N.E (λe=>((ite (N.up e/\N.b7 e=v) (d e) 0)+(ite (¬N.up e/\N.b7 e=v) (d e) 0))-((ite (N.up e/\N.a7 e=v) (d e) 0)+(ite (¬N.up e/\N.a7 e=v) (d e) 0))):=by refine ns λe _=>?_;have s1:N.src (e,Y)=N.b7 e:=rfl;have d1:dl d (e,Y)=d e:=rfl;have s2:N.src (e,U)=N.a7 e:=rfl;have d2:dl d (e,U)=- d e:=rfl;rw[s1,s2,d1,d2];by_cases c:N.up e<;>by_cases c1:N.b7 e=v<;>by_cases c2:N.a7 e=v<;>simp[c,c1,c2]<;>omega
 rw[e,yI,ss,ss];have:gg N.E (λe=>ite (¬N.up e/\N.b7 e=v) (d e) 0)=N.Bh d v:=rfl;have:gg N.E (λe=>ite (N.up e/\N.b7 e=v) (d e) 0)=N.yv d v:=rfl;have:gg N.E (λe=>ite (¬N.up e/\N.a7 e=v) (d e) 0)=N.Bi d v:=rfl;have:gg N.E (λe=>ite (N.up e/\N.a7 e=v) (d e) 0)=N.C' d v:=rfl;omega
structure CF(N:Net ι)(v:qT)(l:List (pJ ι)):Prop where
 mem:∀h,h∈l↔h.1∈N.E/\N.src h=v
 nodup:l.Nodup
 sorted:l.Pairwise (N.nh v.2)
include hP
theorem VG:N.og.Nodup:=by
 have a:=hP.nodup;unfold og;generalize N.E=E at a
 induction E with
 |nil=>exact List.nodup_nil
 |cons e E d=>
  have a:=cx.1 a;simp only[b_,cS,bZ];have key:∀b,∀h∈E.flatMap (λe=>[(e,Y),(e,U)]),h≠(e,b):=by rintro b h f rfl;let ⟨g,c,h2⟩:=cW.1 f;simp only[aF,gT,or_false]at h2;rcases h2 with h2|h2<;>(cases h2;exact a.1 c)
  refine cx.2 ⟨?_,cx.2 ⟨λh=>key _ _ h rfl,d a.2⟩⟩;intro h;rcases aF.1 h with h|h
  cases h;exact key _ _ h rfl
open Classical in
theorem ag7{v:qT}{l:List (pJ ι)}(hl:CF N v l)(F:pJ ι->Int):gg N.og (λg=>ite (N.src g=v) (F g) 0)=gg l F:=by
 have hp:(N.og.filter λg=>No (N.src g=v)).Perm l:=by refine(List.perm_ext_iff_of_nodup ((VG hP).filter _) hl.nodup).2 λh=>?_;rw[aW,Gf,hl.mem];simp
 rw[<-PK hp,Om];refine ns λg _=>?_;simp
theorem ED{d:ι->Int}(hd:N.rR d){v:qT}{l:List (pJ ι)}(hl:CF N v l){i:Nat}(a7:i<aa l):N.L d l[i]=N.below d v.2 (N.M*v.1)+N.C' d v-gg (l.take (i+1)) (dl d):=by
 classical
 have hm:=(hl.mem l[i]).1 (aA a7);rw[aO5 hP hd hm.1 hm.2];congr 1;have e:gg N.og (λg=>ite (N.src g=v/\(g=l[i]\/N.nh v.2 g l[i])) (dl d g) 0)=gg N.og (λg=>ite (N.src g=v) (ite (g=l[i]\/N.nh v.2 g l[i]) (dl d g) 0) 0):=by refine ns λg _=>?_;by_cases c:N.src g=v<;>simp[c]
 rw[e,ag7 hP hl];have split:∀F:pJ ι->Int,gg l F=gg (l.take (i+1)) F+gg (l.drop (i+1)) F:=λF=>by rw[<-zQ,List.take_append_drop]
 rw[split];have f:gg (l.take (i+1)) (λg=>ite (g=l[i]\/N.nh v.2 g l[i]) (dl d g) 0)=gg (l.take (i+1)) (dl d):=by refine ns λg a=>?_;obtain⟨j,hj,rfl⟩:=a_ a;simp only[da]at hj;rw[List.getElem_take];rw[cr];by_cases c:j=i;subst c;exact bE rfl;exact bq (dK.1 hl.sorted j i (by omega) a7 (by omega))
 have k:gg (l.drop (i+1)) (λg=>ite (g=l[i]\/N.nh v.2 g l[i]) (dl d g) 0)=0:=by refine uq λg a=>?_;obtain⟨j,hj,rfl⟩:=a_ a;simp only[iM]at hj;rw[List.getElem_drop];have b:=dK.1 hl.sorted i (i+1+j) a7 (by omega) (by omega);rw[cc];rintro (h|h);rw[h]at b;exact aY1 _ _ b;exact bc3 h b
 rw[f,k];omega
theorem Mf{d:ι->Int}(hd:N.rR d){v:qT}{l:List (pJ ι)}(hl:CF N v l){i:Nat}(a7:i<aa l) :
  N.L d (l[(i+aa l-1)%aa l]'(dZ _ (by omega)))=N.L d (rev l[i]):=by
 have hm:=(hl.mem l[i]).1 (aA a7);have f:=Hi hP hd hm.1;rw[f];have hlen:0<aa l:=by omega
 have b:gg l (dl d)=0:=by
  classical
  rw[<-ag7 hP hl (dl d)];exact bM7 hd v
 by_cases c:i=0;subst c;have e:(0+aa l-1)%aa l=aa l-1:=by rw[cY (by omega)];omega
 have h1:=ED hP hd hl (i:=aa l-1) (by omega);have h2:=ED hP hd hl (i:=0) a7;have g:l.take (aa l-1+1)=l:=by rw[List.take_of_length_le (by omega)]
 rw[g,b]at h1;have h:gg (l.take (0+1)) (dl d)=dl d l[0]:=by cases l;simp at a7;rename_i a l;simp[gg]
 rw[h]at h2;simp only[e];omega;have e:(i+aa l-1)%aa l=i-1:=by rw[show i+aa l-1=i-1+aa l by omega,Nat.add_mod_right,cY (by omega)]
 have h1:=ED hP hd hl (i:=i-1) (by omega);have h2:=ED hP hd hl (i:=i) a7;rw[show i-1+1=i by omega]at h1;rw[List.take_succ_eq_append_getElem a7,zQ]at h2;simp only[gg]at h2;simp only[e];omega
end Net
end Go.Pg
namespace Go.Pg
open Classical
def GD{α:Type}(f:α->Int):∀ {l:List α},l≠[]->∃m∈l,∀x∈l,f m<=f x
 | [],h=>b8 rfl h
 |a::l,_=>by
  by_cases e:l=[];exact⟨a,by simp,λx b=>by grind⟩;let ⟨m,hm,h⟩:=GD f e
  grind
noncomputable def ind(p:Prop):Int:=ite p 1 0
def bl2{p:Prop}(h:p):ind p=1:=cr h
def tk{p:Prop}(h:¬p):ind p=0:=cc h
namespace Net
structure nK{ι:Type}(N:Net ι)(κ:Type) where
 c:pJ ι->κ
 gA:pJ ι->pJ ι
 mem:∀h:pJ ι,h.1∈N.E->(gA h).1∈N.E
 NY:∀h:pJ ι,h.1∈N.E->c (gA h)=c h
 left:∀h:pJ ι,h.1∈N.E->∀d,N.rR d->N.L d (gA h)=N.L d h
 closed:∀(C:κ) (A:qT->Int),gg N.og (λh=>ite (c h=C) (A (N.src h)-A (N.dst h)) 0)=0
namespace nK
variable {ι κ:Type} {N:Net ι} (w:N.nK κ)
inductive qX:pJ ι->pJ ι->Prop
 |refl (h:pJ ι):qX h h
 |gA {g h:pJ ι} (hm:h.1∈N.E):qX g h->qX g (w.gA h)
 |Ej {g h:pJ ι} (hm:h.1∈N.E):qX g (w.gA h)->qX g h
 |rev {g h:pJ ι}:qX g h->qX g (rev h)
noncomputable def mv(C:κ)(e:ι):Int:=ind (w.c (e,U)=C)-ind (w.c (e,Y)=C)
def ux(C:κ):N.rR (w.mv C):=by
 intro A;have h:=w.closed C (λp=>ite (A p) 1 0);rw[D9]at h;have e:gg N.E (λe=>w.mv C e*((ite (A (N.b7 e)) 1 0)-(ite (A (N.a7 e)) 1 0)))=- gg N.E (λe=>(ite (w.c (e,Y)=C) ((ite (A (N.src (e,Y))) (1:Int) 0)-(ite (A (N.dst (e,Y))) 1 0)) 0)+(ite (w.c (e,U)=C) ((ite (A (N.src (e,U))) (1:Int) 0)-(ite (A (N.dst (e,U))) 1 0)) 0)):=by rw[<-GC];refine ns λe _=>?_;have s1:N.src (e,Y)=N.b7 e:=rfl;have s2:N.src (e,U)=N.a7 e:=rfl;have d:N.dst (e,Y)=N.a7 e:=rfl;have f:N.dst (e,U)=N.b7 e:=rfl;rw[s1,s2,d,f];unfold mv ind;by_cases a:w.c (e,Y)=C<;>by_cases b:w.c (e,U)=C<;>simp only[a,b,vE,l4]<;>omega
 rw[e,h];rfl
def bg7(C:κ)(h:pJ ι):dl (w.mv C) h=ind (w.c (Net.rev h)=C)-ind (w.c h=C):=by let ⟨e,b⟩:=h;cases b;show-(w.mv C e)=_;unfold mv Net.rev;simp only[bj];omega;rfl
def Bw{C:κ}{e:ι}(h:∀b,w.c (e,b)≠C):w.mv C e=0:=by unfold mv;rw[tk (h U),tk (h Y)];rfl
def oc{f g h:pJ ι}(a:w.qX f g)(b:w.qX g h):w.qX f h:=by
 induction b with
 |refl=>exact a
 |gA hm _ c=>exact .gA hm c
 |Ej hm _ c=>exact .Ej hm c
 |rev _ c=>exact .rev c
def rev_rev(h:pJ ι):Net.rev (Net.rev h)=h:=by simp[Net.rev]
def xC{g h:pJ ι}(a:w.qX g h):w.qX h g:=by
 induction a with
 |refl=>exact .refl _
 | @gA h' hm _ b=>exact oc w (.Ej hm (.refl _)) b
 | @Ej h' hm _ b=>exact oc w (.gA hm (.refl _)) b
 | @rev h' _ b=>exact oc w (by have:=qX.rev (w:=w) (.refl (Net.rev h'));rw[rev_rev]at this;exact this) b
def rB(e:ι)(b a:Bool):w.qX (e,b) (e,a):=by
 by_cases c:b=a;subst c;exact .refl _;have h:(e,a)=Net.rev (e,b):=by cases b<;>cases a<;>simp[Net.rev]at c⊢
 rw[h];exact .rev (.refl _)
def bf3{g h:pJ ι}(a:w.qX g h)(c:g.1∈N.E):h.1∈N.E:=by
 induction a with
 |refl=>exact c
 |gA hm _ b=>exact w.mem _ b
 |Ej hm _ b=>exact hm
 |rev _ b=>exact b
variable (hP:N.wx)
include hP
theorem Bd(C:κ){g h:pJ ι}(a:w.qX g h)(d:g.1∈N.E):N.L (w.mv C) h-ind (w.c h=C)=N.L (w.mv C) g-ind (w.c g=C):=by
 induction a with
 |refl=>rfl
 | @gA h' hm a b =>rw[w.NY _ hm,w.left _ hm _ (w.ux C)];exact b
 | @Ej h' hm a b =>rw[w.NY _ hm,w.left _ hm _ (w.ux C)]at b;exact b
 | @rev h' a b =>have hm:=w.bf3 a d;rw[Hi hP (w.ux C) hm,w.bg7];omega
omit hP in
theorem HP{C:κ}{g:pJ ι}(d:∀h,w.c h=C->h.1∈N.E->w.qX g h){p:ι->Prop}[DecidablePred p](hp:∀t∈N.E,p t->∀b,¬w.qX g (t,b)):gg N.E (λt=>ite (p t) (w.mv C t) 0)=0:=by refine uq λt a=>?_;by_cases c:p t;rw[cr c];exact w.Bw λb e=>hp t a c b (d (t,b) e a);rw[cc c]
theorem NM{t u:ι}(a:t∈N.E)(hu:u∈N.E){k:Int}(c1:N.eS t k)(c2:N.eS u k)(h:N.X t k+N.X t (k+1)=N.X u k+N.X u (k+1)):t=u:=by
 rcases iG (N.X t k) (N.X u k)with h1|h1|h1
 have:=(O5 hP a hu c1 c2).2 (bE h1);omega;exact hP.apart t a u hu k c1 c2 h1 (by omega);have:=(O5 hP hu a c2 c1).2 (bE h1);omega
theorem CX(d:ι->Int)(hd:N.rR d){u:ι}(hu:u∈N.E){k:Int}(hc:N.eS u k):N.L d (u,Y)=N.kO d k u:=by have a:=sV hP hc;have c1:N.eS u (N.b7 u).2:=⟨cH _,a⟩;simp only[L,a];exact Uk hP hd hu c1 hc
theorem base{g:pJ ι}(q:g.1∈N.E):∃d,w.qX g d/\d.1∈N.E/\∀C,(∀h,w.c h=C->h.1∈N.E->w.qX g h)->N.L (w.mv C) d=0:=by
 by_cases hex:∃e∈N.E,N.up e/\w.qX g (e,Y);let ⟨e,he,i,j⟩:=hex;have k:(N.E.filter λt=>No (N.eS t (N.b7 e).2/\w.qX g (t,Y)))≠[]:=by intro d;have:e∈(N.E.filter λt=>No (N.eS t (N.b7 e).2/\w.qX g (t,Y))):=aW.2 ⟨he,by simp only[kA];exact⟨⟨cH _,i⟩,j⟩⟩;rw[d]at this;cases this
 let ⟨u,hu,f⟩:=GD (λt=>N.X t (N.b7 e).2+N.X t ((N.b7 e).2+1)) k;let ⟨hu,a⟩:=aW.1 hu;simp only[kA]at a;refine⟨(u,Y),a.2,hu,λC l=>?_⟩;rw[CX hP _ (w.ux C) hu a.1];refine w.HP l λt m hp b n=>?_;have:=f t (aW.2 ⟨m,by simp only[kA];exact⟨hp.1,w.oc n (w.rB t b Y)⟩⟩);omega;refine⟨(g.1,Y),w.oc (.refl g) (by let ⟨e,b⟩:=g;exact w.rB e b Y),q,λC l=>?_⟩;have o:¬N.up g.1:=λh=>hex ⟨g.1,q,h,by let ⟨e,b⟩:=g;exact w.rB e b Y⟩;simp only[L,o];refine w.HP (p:=λt=>N.eS t (N.b7 g.1).2/\N.X t (N.b7 g.1).2<N.M*(N.a7 g.1).1) l λt m hp b n=>?_;exact hex ⟨t,m,sV hP hp.1,w.oc n (w.rB t b Y)⟩
theorem bE3{g:pJ ι}(e:g.1∈N.E):∃d,w.qX g d/\d.1∈N.E/\∀C,(∀h,w.c h=C->h.1∈N.E->w.qX g h)->∀h,w.qX g h->N.L (w.mv C) h=ind (w.c h=C)-ind (w.c d=C):=by let ⟨d,h1,h2,f⟩:=w.base hP e;refine⟨d,h1,h2,λC i h j=>?_⟩;have a:=w.Bd hP C h1 e;have b:=w.Bd hP C j e;have:=f C i;omega
theorem bp1{C D:κ}{g f:pJ ι}(G:g.1∈N.E)(l:f.1∈N.E)(s:∀h,w.c h=C->h.1∈N.E->w.qX g h)(H:∀h,w.c h=D->h.1∈N.E->w.qX f h)(I:¬w.qX g f):N.L (w.mv C) f=0\/N.L (w.mv D) g=0:=by
 have m:=λh a hm e=>I (w.oc (s h e hm) (w.xC a));have q:=λh a hm e=>I (w.oc a (w.xC (H h e hm)));by_cases hex:∃e∈N.E,N.up e/\w.qX g (e,Y);let ⟨e,he,x,z⟩:=hex;have B:(N.E.filter λt=>No (N.eS t (N.b7 e).2/\(w.qX g (t,Y)\/w.qX f (t,Y))))≠[]:=by intro J;have:e∈(N.E.filter λt=>No (N.eS t (N.b7 e).2/\(w.qX g (t,Y)\/w.qX f (t,Y)))):=aW.2 ⟨he,by simp only[kA];exact⟨⟨cH _,x⟩,bE z⟩⟩;rw[J]at this;cases this
 let ⟨u,hu,j⟩:=GD (λt=>N.X t (N.b7 e).2+N.X t ((N.b7 e).2+1)) B;let ⟨hu,i⟩:=aW.1 hu;simp only[kA]at i;rcases i.2 with d|d
 have K:N.L (w.mv D) (u,Y)=0:=by rw[CX hP _ (w.ux D) hu i.1];refine w.HP H λt o hp b r=>?_;have:=j t (aW.2 ⟨o,by simp only[kA];exact⟨hp.1,bq (w.oc r (w.rB t b Y))⟩⟩);omega
 have v:=w.Bd hP D d G;rw[tk (q _ d hu),tk (q _ (.refl _) G)]at v;omega;have K:N.L (w.mv C) (u,Y)=0:=by rw[CX hP _ (w.ux C) hu i.1];refine w.HP s λt o hp b r=>?_;have:=j t (aW.2 ⟨o,by simp only[kA];exact⟨hp.1,bE (w.oc r (w.rB t b Y))⟩⟩);omega
 have v:=w.Bd hP C d l;rw[tk (m _ d hu),tk (m _ (.refl _) l)]at v;omega;have hz:∀(p:ι->Prop) [DecidablePred p],(∀t∈N.E,p t->N.up t)->gg N.E (λt=>ite (p t) (w.mv C t) 0)=0  :=λp _ hp =>w.HP s λt o h b r=>hex ⟨t,o,hp t o h,w.oc r (w.rB t b Y)⟩;have hd:=w.Bw λb=>m (f.1,b) (by let ⟨e,M⟩:=f;exact w.rB e M b) l;unfold L;have nq:∀k u,N.kO (w.mv C) k u=0:=λk u=>hz (λt=>N.eS t k/\N.X t k+N.X t (k+1)<N.X u k+N.X u (k+1)) λt _ h=>sV hP h.1;have z2:∀k n,N.vK (w.mv C) k n=0:=λk n=>hz (λt=>N.eS t k/\N.X t k<n) λt _ h=>sV hP h.1;have z3:∀k n,N.below (w.mv C) k n=0:=λk n=>hz (λt=>N.eS t (k-1)/\N.X t k<n) λt _ h=>sV hP h.1;rw[nq,z2,z3,hd];cases f.2<;>simp
end nK
end Net
end Go.Pg
namespace Go.Pg
open Classical
def tz{α:Type}(key F:α->Int):List α->Int
 |u::v::l=>F u*(key v-key u)+tz key F (v::l)
 |_=>0
def J6{α:Type}{key F G:α->Int}:∀ {l:List α},l.Pairwise (key ·<key ·)->(∀u∈l,F u<=G u)->tz key F l<=tz key G l
 | [],_,_=>cH _
 | [_],_,_=>cH _
 |u::v::l,hs,h=>by have h1:=h u (by simp);have hk:=(aR.1 hs).1 v (by simp);have b:=J6 (l:=v::l) (aR.1 hs).2 λx a=>h x (by simp at a⊢;right;exact a);have:=aP h1 (show 0<=key v-key u by omega);simp only[tz];omega
def Ru{α:Type}{key F G:α->Int}:∀ {l:List α},l.Pairwise (key ·<key ·)->(∀u∈l,F u<=G u)->∀u∈l,F u<G u->(∀z,l.getLast?=Z z->F z=G z)->tz key F l<tz key G l
 | [],_,_,u,hu,_,_=>by simp at hu
 | [a],_,_,u,hu,b,hz=>by grind[cq]
 |a::v::l,hs,h,u,hu,b,hz=>by
  have h1:=h a (by simp);have hk:=(aR.1 hs).1 v (by simp);have c:=(aR.1 hs).2;have h2:∀x∈v::l,F x<=G x:=λx d=>h x (by simp at d⊢;right;exact d);simp only[tz];rcases aF.1 hu with rfl|hu
  have e:=J6 c h2;have:=eC b (show 0<key v-key u by omega);omega;have e:=Ru c h2 u hu b (λz f=>hz z (by grind));have:=aP h1 (show 0<=key v-key a by omega);omega
def U3{α:Type}(key d:α->Int):∀(l:List α) (u:α) (w:Int) (F:α->Int) (pre:List α),w=gg pre d->(∀(p q:List α) (x:α),u::l=p++x::q->F x=w+gg p d+d x) ->
  ∀z,(u::l).getLast?=Z z->tz key F (u::l)+w*key u+gg (u::l) (λx=>d x*key x)=(w+gg (u::l) d)*key z
 | [],u,w,F,pre,_,_,z,hz=>by simp at hz;subst hz;simp only[tz,gg,gE];omega
 |v::l,u,w,F,pre,hw,dC,z,hz=>by
  rw[List.getLast?_cons_cons]at hz;have b:=dC [] (v::l) u rfl;simp only[gg,Int.add_zero]at b;have c:=U3 key d l v (w+d u) F (pre++[u]) (by rw[zQ,hw];simp[gg]) (λp q x a=>by
   have:=dC (u::p) q x (by rw[a];rfl);simp only[gg]at this;omega) z hz
  simp only[tz,gg]at c⊢
  grind[c_,gE]
namespace Net
variable {ι:Type} {N:Net ι} (hP:N.wx)
def key(N:Net ι)(k:Int)(e:ι):Int:=N.X e k+N.X e (k+1)
def aq1{d:ι->Int}(hd:N.rR d)(k:Int):gg N.E (λe=>ite (N.eS e k) (d e) 0)=0:=by
 have h:=hd λp=>No (p.2<=k);refine Eq.trans ?_ h;refine ns λe he=>?_;simp only[kA];have ho:=N.ord e he;by_cases c1:(N.b7 e).2<=k<;>by_cases c2:(N.a7 e).2<=k;have:¬N.eS e k:=λh=>by have:=h.2;omega
 simp[c1,c2,this];have:N.eS e k:=⟨c1,by omega⟩;simp[c1,c2,this];omega;have:¬N.eS e k:=λh=>c1 h.1;simp[c1,c2,this]
include hP
theorem strip(k:Int):∃l:List ι,l.Perm (N.E.filter λe=>No (N.eS e k))/\l.Pairwise (N.key k ·<N.key k ·):=by
 refine⟨(N.E.filter λe=>No (N.eS e k)).mergeSort (λa b=>No (N.key k a<=N.key k b)),cX ..,?_⟩;have h1:=List.pairwise_mergeSort (le:=λa b=>No (N.key k a<=N.key k b)) (λa b c h1 h2=>by simp only[kA]at *;omega) (λa b=>by simp only[bz,kA];omega) (N.E.filter λe=>No (N.eS e k));have h2:((N.E.filter λe=>No (N.eS e k)).mergeSort (λa b=>No (N.key k a<=N.key k b))).Nodup:=(cX _ _).nodup_iff.2 (hP.nodup.filter _);have f:∀x∈(N.E.filter λe=>No (N.eS e k)).mergeSort (λa b=>No (N.key k a<=N.key k b)),x∈N.E/\N.eS x k:=λx g=>by have:=(cX _ _).mem_iff.1 g;rw[aW]at this;simpa using this
 have m:=dK.1 h1;have n:=dK.1 h2;refine dK.2 λi j a7 hj d=>?_;have a:=m i j a7 hj d;have b:=n i j a7 hj d;simp only[kA]at a;have m1:=f _ (aA a7);have m2:=f _ (aA hj);have:N.key k _≠N.key k _:=λh=>b (nK.NM hP m1.1 m2.1 m1.2 m2.2 h);omega
theorem Ot{d:ι->Int}(hd:N.rR d){k:Int}{l:List ι}(hp:l.Perm (N.E.filter λe=>No (N.eS e k)))(hs:l.Pairwise (N.key k ·<N.key k ·)) :
  gg N.E (λe=>ite (N.eS e k) (d e*N.key k e) 0)=- tz (N.key k) (λu=>N.L d (u,U)) l/\∀z,l.getLast?=Z z->N.L d (z,U)=0:=by
 have f:∀u∈l,u∈N.E/\N.eS u k:=λu hu=>by have:=hp.mem_iff.1 hu;rw[aW]at this;simpa using this
 have a:∀F:ι->Int,gg l F=gg N.E (λe=>ite (N.eS e k) (F e) 0):=λF=>by rw[PK hp,Om];exact ns λe _=>by simp
 have dC:∀(p q:List ι) (x:ι),l=p++x::q->N.L d (x,U)=gg p d+d x:=by
  intro p q x hl;have j:=f x (by rw[hl];simp);have n:N.L d (x,U)=N.kO d k x+d x:=by have:=Hi hP hd (h:=(x,Y)) j.1;rw[nK.CX hP _ hd j.1 j.2]at this;exact this
  have o:N.kO d k x=gg l (λt=>ite (N.key k t<N.key k x) (d t) 0):=by rw[a];refine ns λt _=>?_;by_cases c:N.eS t k;simp only[c,qj,vE];rfl;simp[c]
  have g:=hs;rw[hl]at g;let ⟨_,s2,m⟩:=List.pairwise_append.1 g;have r:gg l (λt=>ite (N.key k t<N.key k x) (d t) 0)=gg p d:=by
   rw[hl,zQ];have s:gg p (λt=>ite (N.key k t<N.key k x) (d t) 0)=gg p d:=ns λt i=>cr (m t i x (by simp));have a2:gg (x::q) (λt=>ite (N.key k t<N.key k x) (d t) 0)=0:=uq λt i=>by
    rcases aF.1 i with rfl|i
    exact cc (by omega);have:=(aR.1 s2).1 t i;exact cc (by omega)
   omega
  omega
 have b:gg l d=0:=by rw[a];exact aq1 hd k
 constructor;rw[<-a];cases l;simp[gg,tz];rename_i u l;obtain⟨z,hz⟩:∃z,(u::l).getLast?=Z z:=by
  cases hz:(u::l).getLast? with
  |none=>simp at hz
  |some z=>exact⟨z,rfl⟩
 have:=U3 (N.key k) d l u 0 (λu=>N.L d (u,U)) [] rfl (λp q x hl=>by
  have:=dC p q x hl;omega) z hz
 rw[b]at this;omega;intro z hz;cases l;simp at hz;rename_i u l;let ⟨ys,e⟩:=List.getLast?_eq_some_iff.1 hz;have:=dC ys [] z (by rw[e]);rw[e,zQ]at b;simp only[gg]at b;omega
end Net
end Go.Pg
namespace Go.Pg
open Classical
def L_{α:Type}{f g:α->Int}:∀ {l:List α},(∀a∈l,f a<=g a)->gg l f<=gg l g
 | [],_=>cH _
 |a::l,h=>by have h1:=h a (by simp);have h2:=L_ (f:=f) (g:=g) (l:=l) λb c=>h b (by simp[c]);simp only[gg];omega
def ap8{α:Type}{f g:α->Int}:∀ {l:List α},(∀a∈l,f a<=g a)->∀a∈l,f a<g a->gg l f<gg l g
 | [],_,a,ha,_=>by simp at ha
 |b::l,h,a,ha,c=>by
  have h1:=h b (by simp);have h2:∀x∈l,f x<=g x:=λx d=>h x (by simp[d]);simp only[gg];rcases aF.1 ha with rfl|ha
  have:=L_ h2;omega;have:=ap8 h2 a ha c;omega
namespace Net
variable {ι κ:Type} {N:Net ι} (hP:N.wx)
def hJ(N:Net ι)(e:ι):Int:=((N.b7 e).1+(N.a7 e).1)*((N.a7 e).2-(N.b7 e).2)
def vV(N:Net ι)(h:pJ ι):Int:=(N.src h).1*(N.dst h).2-(N.dst h).1*(N.src h).2
noncomputable def tN(w:N.nK κ)(C:κ):Int:=gg N.og (λh=>ite (w.c h=C) (N.vV h) 0)
def bG8(a b c d:Int):a*d-b*c-(a*c-b*d)=(a+b)*(d-c):=by rw[gE,c_,c_];omega
def bW4(w:N.nK κ)(C:κ):tN w C=- gg N.E (λe=>w.mv C e*N.hJ e):=by
 have h:=w.closed C (λp=>p.1*p.2);have e:tN w C-gg N.og (λh=>ite (w.c h=C) ((N.src h).1*(N.src h).2-(N.dst h).1*(N.dst h).2) 0)=- gg N.E (λe=>w.mv C e*N.hJ e):=by unfold tN;rw[<-yI,D9,<-GC];refine ns λe _=>?_;have q5:=bG8 (N.b7 e).1 (N.a7 e).1 (N.b7 e).2 (N.a7 e).2;have s1:N.src (e,Y)=N.b7 e:=rfl;have s2:N.src (e,U)=N.a7 e:=rfl;have d:N.dst (e,Y)=N.a7 e:=rfl;have f:N.dst (e,U)=N.b7 e:=rfl;unfold vV hJ nK.mv ind;rw[s1,s2,d,f,<-q5];by_cases a:w.c (e,Y)=C<;>by_cases b:w.c (e,U)=C<;>simp only[a,b,vE,l4]<;>omega
 rw[<-e,h];omega
def wa(e:ι)(N:Net ι)(x:Int):Int:=max (N.b7 e).2 (min (N.a7 e).2 x)
def AO(N:Net ι)(e:ι)(k:Int):Int:=2*(N.M*(N.b7 e).1)*(k-(N.b7 e).2)+N.s e*((k-(N.b7 e).2)*(k-(N.b7 e).2))
def bb1(e:ι)(k:Int):N.AO e (k+1)-N.AO e k=N.key k e:=by
 unfold AO key X;have b:k+1-(N.b7 e).2=(k-(N.b7 e).2)+1:=by omega
 rw[b];generalize k-(N.b7 e).2=t;generalize N.M*(N.b7 e).1=a;generalize N.s e=s;have h1:(t+1)*(t+1)=t*t+t+t+1:=by rw[gE,jd,eE,Int.one_mul];omega
 rw[h1];simp only[jd,eE];omega
def aA7{e:ι}(he:e∈N.E){a:Int}(ha:a<=(N.b7 e).2):∀n:Nat,gg (aQ n) (λj:Nat=>ite (N.eS e (a+j)) (N.key (a+j) e) 0)=N.AO e (wa e N (a+n))
 | 0=>by
  have ho:=N.ord e he;have:wa e N (a+(0:Nat))=(N.b7 e).2:=by unfold wa;omega
  rw[this];simp[gg,AO]
 |n+1=>by
  have ho:=N.ord e he;rw[ib,zQ,aA7 he ha n];simp only[gg];by_cases c:N.eS e (a+n);have h1:=c.1;have h2:=c.2;have c1:wa e N (a+n)=a+n:=by unfold wa;omega
  have c2:wa e N (a+(n+1:Nat))=a+n+1:=by unfold wa;omega
  have:=bb1 (N:=N) e (a+n);rw[cr c,c1,c2];omega;have c2:wa e N (a+(n+1:Nat))=wa e N (a+n):=by unfold eS at c;unfold wa;omega
  rw[cc c,c2];omega
def aS3{e:ι}(he:e∈N.E):N.AO e (N.a7 e).2=N.M*N.hJ e:=by
 unfold AO hJ;rcases N.ord e he with ho|⟨ho,_⟩
 have hs:=N.AB e he ho;rw[<-dP (N.s e),hs];generalize(N.a7 e).2-(N.b7 e).2=t;have h2:2*(N.M*(N.b7 e).1)+N.M*((N.a7 e).1-(N.b7 e).1)=N.M*((N.b7 e).1+(N.a7 e).1):=by rw[c_,jd];omega
 rw[<-gE,h2,dP];rw[<-ho];simp
def bounds(N:Net ι):∃(a:Int) (n:Nat),∀e∈N.E,a<=(N.b7 e).2/\(N.a7 e).2<=a+n:=by
 generalize N.E=E
 induction E with
 |nil=>exact⟨0,0,λe h=>by simp at h⟩
 |cons e E b=>
  let ⟨a,n,h⟩:=b;refine⟨min a (N.b7 e).2,(max (a+n) (N.a7 e).2-min a (N.b7 e).2).toNat,λf hf=>?_⟩;rcases aF.1 hf with rfl|hf
  omega;have:=h f hf;omega
include hP
noncomputable def B9(k:Int):List ι:=(strip hP k).choose
theorem Ds(k:Int):(B9 hP k).Perm (N.E.filter λe=>No (N.eS e k))/\(B9 hP k).Pairwise (N.key k ·<N.key k ·):=(strip hP k).choose_spec
theorem NC{k:Int}{e:ι}:e∈B9 hP k↔e∈N.E/\N.eS e k:=by rw[(Ds hP k).1.mem_iff,aW];simp
theorem Wj:∃(a:Int) (n:Nat),(∀e∈N.E,a<=(N.b7 e).2/\(N.a7 e).2<=a+n)/\∀ {κ:Type} (w:N.nK κ) (C:κ),N.M*tN w C=gg (aQ n) (λj:Nat=>tz (N.key (a+j)) (λu=>N.L (w.mv C) (u,U)) (B9 hP (a+j))):=by
 let ⟨a,n,c⟩:=bounds N;refine⟨a,n,c,λw C=>?_⟩;have d:N.M*gg N.E (λe=>w.mv C e*N.hJ e)=gg N.E (λe=>gg (aQ n) (λj:Nat=>ite (N.eS e (a+j)) (w.mv C e*N.key (a+j) e) 0)):=by
  rw[<-JQ];refine ns λe he=>?_;have b:=c e he;have ho:=N.ord e he;have h1:=aA7 he b.1 n;have c1:wa e N (a+n)=(N.a7 e).2:=by unfold wa;omega
  rw[c1,aS3 he]at h1;have h2:gg (aQ n) (λj:Nat=>ite (N.eS e (a+j)) (w.mv C e*N.key (a+j) e) 0)=gg (aQ n) (λj:Nat=>w.mv C e*(ite (N.eS e (a+j)) (N.key (a+j) e) 0)):=ns λj _=>by split<;>simp
  rw[h2,JQ,h1,<-dP,<-dP,bX N.M]
 rw[bW4,cR,d,J2,<-GC];refine ns λj _=>?_;let ⟨q5,nj⟩:=Ds hP (a+j);have:=(Ot hP (w.ux C) q5 nj).1;show-gg N.E (λe=>ite (N.eS e (a+j)) (w.mv C e*N.key (a+j) e) 0)=_;omega
theorem aY9{κ b:Type}(w:N.nK κ)(w':N.nK b){C:κ}{D:b}(h:∀e∈N.E,N.up e->N.L (w.mv C) (e,U)<=N.L (w'.mv D) (e,U)){u:ι}(hu:u∈N.E)(c:N.up u)(d:N.L (w.mv C) (u,U)<N.L (w'.mv D) (u,U)):tN w C<tN w' D:=by
 let ⟨a,n,f,hs⟩:=Wj hP;have h1:=hs w C;have h2:=hs w' D;have g:=f u hu;have hc:N.eS u (N.b7 u).2:=⟨cH _,c⟩;have hj:((N.b7 u).2-a).toNat<n:=by unfold up at c;omega
 have i:a+(((N.b7 u).2-a).toNat:Int)=(N.b7 u).2:=by omega
 have:N.M*tN w C<N.M*tN w' D:=by
  rw[h1,h2];have hle:∀k,∀x∈B9 hP k,N.L (w.mv C) (x,U)<=N.L (w'.mv D) (x,U):=λk x l=>by have:=(NC hP).1 l;exact h x this.1 (sV hP this.2)
  refine ap8 (λj _=>J6 (Ds hP _).2 (hle _)) ((N.b7 u).2-a).toNat (ga.2 hj) ?_;rw[i];refine Ru (Ds hP _).2 (hle _) u ((NC hP).2 ⟨hu,hc⟩) d λz hz=>?_;let ⟨q5,nj⟩:=Ds hP (N.b7 u).2;rw[(Ot hP (w.ux C) q5 nj).2 z hz,(Ot hP (w'.ux D) q5 nj).2 z hz]
 exact gm this (dR N.p7)
end Net
end Go.Pg
namespace Go.Pg
open Classical
def an6{α:Type}(key:α->Int):∀l:List α,tz key (λ_=>0) l=0
 | []=>rfl
 | [_]=>rfl
 |u::v::l=>by simp only[tz,an6 key (v::l)];omega
namespace Net
namespace nK
variable {ι κ:Type} {N:Net ι} (w:N.nK κ) (hP:N.wx)
def CR(C:κ)(g:pJ ι):Prop:=∀h,w.c h=C->h.1∈N.E->w.qX g h
structure yn(N:Net ι)(k:Int)(S:ι->Prop):Prop where
 eS:∀t∈N.E,S t->N.eS t k
 ng:∀t∈N.E,∀s∈N.E,S t->N.eS s k->N.key k s<N.key k t->S s
noncomputable def qg(C:κ)(S:ι->Prop):Int:=gg N.E (λt=>ite (S t) (w.mv C t) 0)
include hP
theorem EC{u:ι}(hu:u∈N.E){k:Int}(hc:N.eS u k)(C:κ):N.L (w.mv C) (u,U)=w.qg C (λt=>N.eS t k/\N.key k t<=N.key k u):=by
 have e:N.L (w.mv C) (u,U)=N.kO (w.mv C) k u+w.mv C u:=by have:=Hi hP (w.ux C) (h:=(u,Y)) hu;rw[CX hP _ (w.ux C) hu hc]at this;exact this
 rw[e,<-B7 (w.mv C) hP.nodup hu];unfold kO qg;rw[<-ss];refine ns λt f=>?_;by_cases c:t=u;subst c;have h1:¬(N.eS t k/\N.X t k+N.X t (k+1)<N.X t k+N.X t (k+1)):=λh=>by have:=h.2;omega
 have h2:N.eS t k/\N.key k t<=N.key k t:=⟨hc,cH _⟩;rw[cc h1,cr rfl,cr h2];omega;rw[cc c];by_cases h1:N.eS t k/\N.X t k+N.X t (k+1)<N.X u k+N.X u (k+1);have h2:N.eS t k/\N.key k t<=N.key k u:=⟨h1.1,by have:=h1.2;unfold key;omega⟩;rw[cr h1,cr h2];omega;have h2:¬(N.eS t k/\N.key k t<=N.key k u):=by rintro ⟨a,b⟩;have d:N.key k t≠N.key k u:=λh=>c (NM hP f hu a hc h);exact h1 ⟨a,by unfold key at b d;omega⟩
 rw[cc h1,cc h2];rfl
theorem Ue{u:ι}(hu:u∈N.E){k:Int}(hc:N.eS u k)(C:κ):N.L (w.mv C) (u,Y)=w.qg C (λt=>N.eS t k/\N.key k t<N.key k u):=by rw[CX hP _ (w.ux C) hu hc];refine ns λt a=>?_;by_cases h:N.eS t k/\N.key k t<N.key k u;have h':N.eS t k/\N.X t k+N.X t (k+1)<N.X u k+N.X u (k+1):=h;rw[cr h,cr h'];have h':¬(N.eS t k/\N.X t k+N.X t (k+1)<N.X u k+N.X u (k+1)):=h;rw[cc h,cc h']
omit hP in
theorem Rl(k:Int)(x:Int):yn N k (λt=>N.eS t k/\N.key k t<=x) :=⟨λt _ h=>h.1,λt _ s _ h hs a=>⟨hs,by have:=h.2;omega⟩⟩
omit hP in
theorem P9(k:Int)(x:Int):yn N k (λt=>N.eS t k/\N.key k t<x) :=⟨λt _ h=>h.1,λt _ s _ h hs a=>⟨hs,by have:=h.2;omega⟩⟩
theorem last{g:pJ ι}{k:Int}{S:ι->Prop}(h:yn N k S) :
  (∀t∈N.E,S t->∀b,¬w.qX g (t,b))\/∃v∈N.E,S v/\N.eS v k/\w.qX g (v,Y)/\∀t∈N.E,S t->N.key k v<N.key k t->∀b,¬w.qX g (t,b):=by
 by_cases c:(N.E.filter λt=>No (S t/\w.qX g (t,Y)))=[];left;intro t e hp b f;have:t∈(N.E.filter λt=>No (S t/\w.qX g (t,Y))):=aW.2 ⟨e,by simp only[kA];exact⟨hp,w.oc f (w.rB t b Y)⟩⟩;rw[c]at this;cases this;right;let ⟨u,hu,d⟩:=GD (- N.key k ·) c;let ⟨hu,a⟩:=aW.1 hu;simp only[kA]at a;refine⟨u,hu,a.1,h.eS u hu a.1,a.2,λt e hp i b f=>?_⟩;have:=d t (aW.2 ⟨e,by simp only[kA];exact⟨hp,w.oc f (w.rB t b Y)⟩⟩);omega
theorem AE{C:κ}{g:pJ ι}(i:w.CR C g){k:Int}{S:ι->Prop}(e:yn N k S){v:ι}(hv:v∈N.E)(c:S v)(j:∀t∈N.E,S t->N.key k v<N.key k t->∀b,¬w.qX g (t,b)):w.qg C S=N.L (w.mv C) (v,U):=by
 have hc:=e.eS v hv c;rw[w.EC hP hv hc];refine ns λt d=>?_;by_cases h1:S t;rw[cr h1];by_cases h2:N.eS t k/\N.key k t<=N.key k v;rw[cr h2];rw[cc h2];have f:N.key k v<N.key k t:=by
  rcases gP (N.key k v) (N.key k t)with h|h
  exact h;exact b8 ⟨e.eS t d h1,h⟩ h2
 exact w.Bw λb l=>j t d h1 f b (i (t,b) l d);rw[cc h1,cc];rintro ⟨a,b⟩;rcases gP (N.key k t) (N.key k v)with h|h
 exact h1 (e.ng v hv t d c a h);have:=NM hP d hv a hc (show N.key k t=N.key k v by omega);rw[this]at h1;exact h1 c
omit hP in
theorem Cr{C:κ}{g:pJ ι}(a:w.CR C g){S:ι->Prop}(c:∀t∈N.E,S t->∀b,¬w.qX g (t,b)):w.qg C S=0:=w.HP a c
structure Bb(C:κ)(g:pJ ι):Prop where
 mem:g.1∈N.E
 part:w.CR C g
 own:∀h,w.qX g h->N.L (w.mv C) h=ind (w.c h=C)
omit hP in
theorem VT(p:Prop):ind p=0\/ind p=1:=by unfold ind;split<;>simp
theorem OW{C:κ}{g:pJ ι}(hO:w.Bb C g){k:Int}{S:ι->Prop}(c:yn N k S):w.qg C S=0\/w.qg C S=1:=by
 rcases w.last hP (g:=g) c with h|⟨v,hv,a,hc,b,d⟩
 exact bE (w.Cr hO.part h);rw[w.AE hP hO.part c hv a d,hO.own _ (w.oc b (w.rB v Y U))];exact VT _
theorem bE2{C:κ}{g:pJ ι}(k:g.1∈N.E)(b:w.CR C g)(ha:0<tN w C):w.Bb C g:=by
 let ⟨o,h1,h2,l⟩:=w.bE3 hP k;refine⟨k,b,?_⟩;by_cases c:w.c o=C;have hle:∀e∈N.E,N.up e->N.L (w.mv C) (e,U)<=0:=by
  intro e he d;have hc:N.eS e (N.b7 e).2:=⟨cH _,d⟩;have m:=Rl (N:=N) (N.b7 e).2 (N.key (N.b7 e).2 e);rw[w.EC hP he hc];rcases w.last hP (g:=g) m with h|⟨v,hv,f,p,i,q⟩
  rw[w.Cr b h];exact cH _;rw[w.AE hP b m hv f q,l C b _ (w.oc i (w.rB v Y U)),bl2 c];rcases VT (w.c (v,U)=C)with h|h<;>omega
 let ⟨a,n,_,hs⟩:=Wj hP;have t:=hs w C;have r:gg (aQ n) (λj:Nat=>tz (N.key (a+j)) (λu=>N.L (w.mv C) (u,U)) (B9 hP (a+j)))<=gg (aQ n) (λ_=>0):=by refine L_ λj _=>?_;rw[<-an6 (N.key (a+j)) (B9 hP (a+j))];exact J6 (Ds hP _).2 λu hu=>by have:=(NC hP).1 hu;exact hle u this.1 (sV hP this.2)
 rw[uq (λ_ _=>rfl)]at r;have:=cn N.p7 ha;omega;intro h s;rw[l C b h s,tk c];omega
theorem inside{C D:κ}{g p:pJ ι}(c:w.Bb C g)(l:w.Bb D p)(hn:¬w.qX g p)(ha:N.L (w.mv C) p=0){k:Int}{S:ι->Prop}(m:yn N k S)(h1:w.qg C S=1)(h2:w.qg D S=1):tN w C<tN w D:=by
 have q:=λh a hm e=>hn (w.oc (c.part h e hm) (w.xC a));have r:=λh a hm e=>hn (w.oc a (w.xC (l.part h e hm)));have z:∀h,w.qX p h->h.1∈N.E->N.L (w.mv C) h=0:=λh a hm=>by have v:=w.Bd hP C a l.mem;rw[tk (q _ a hm),tk (q _ (.refl _) l.mem)]at v;omega
 have B:∀h,w.qX g h->h.1∈N.E->N.L (w.mv D) h=N.L (w.mv D) g:=λh a hm=>by have v:=w.Bd hP D a c.mem;rw[tk (r _ a hm),tk (r _ (.refl _) c.mem)]at v;omega
 have f:∀ {k:Int} {S:ι->Prop},yn N k S->w.qg C S=1->w.qg D S=N.L (w.mv D) g/\∃v∈N.E,N.eS v k/\w.qX g (v,Y):=by
  intro k S m h1;rcases w.last hP (g:=g) m with h|⟨v,hv,G,hc,d,H⟩
  rw[w.Cr c.part h]at h1;cases h1;rw[w.AE hP c.part m hv G H]at h1;refine⟨?_,v,hv,hc,d⟩;have P:∀t∈N.E,S t->N.key k v<N.key k t->∀b,¬w.qX p (t,b):=by intro t i I Q b hb;have R:=m.eS t i I;have e1:=z _ (w.oc hb (w.rB t b Y)) i;rw[w.Ue hP i R]at e1;have e2:=w.AE hP c.part (P9 (N:=N) k (N.key k t)) hv ⟨hc,Q⟩ (λs hs J K b2=>H s hs (m.ng t i s hs I J.1 J.2) K b2);omega
  rw[w.AE hP l.part m hv G P];exact B _ (w.oc d (w.rB v Y U)) hv
 let ⟨hb,v,hv,d,hcn⟩:=f m h1;have hb1:N.L (w.mv D) g=1:=by omega
 have hle:∀e∈N.E,N.up e->N.L (w.mv C) (e,U)<=N.L (w.mv D) (e,U):=by
  intro e he hup;have hc:N.eS e (N.b7 e).2:=⟨cH _,hup⟩;have hW:=Rl (N:=N) (N.b7 e).2 (N.key (N.b7 e).2 e);rw[w.EC hP he hc,w.EC hP he hc];rcases w.OW hP c hW with h|h
  rcases w.OW hP l hW with h'|h'<;>omega
  have:=(f hW h).1;omega
 have hne:(N.E.filter λt=>No (N.eS t k/\w.qX g (t,Y)))≠[]:=by intro h0;have:v∈(N.E.filter λt=>No (N.eS t k/\w.qX g (t,Y))):=aW.2 ⟨hv,by simp only[kA];exact⟨d,hcn⟩⟩;rw[h0]at this;cases this
 let ⟨u,hu,j⟩:=GD (N.key k ·) hne;let ⟨hu,n⟩:=aW.1 hu;simp only[kA]at n;have hCu:w.qg C (λt=>N.eS t k/\N.key k t<N.key k u)=0:=w.Cr c.part λt i hp b o=>by have:=j t (aW.2 ⟨i,by simp only[kA];exact⟨hp.1,w.oc o (w.rB t b Y)⟩⟩);omega
 have M:w.qg D (λt=>N.eS t k/\N.key k t<N.key k u)=1:=by rw[<-w.Ue hP hu n.1,B _ n.2 hu,hb1]
 rcases w.last hP (g:=p) (P9 (N:=N) k (N.key k u))with h|⟨x,hx,hSx,O,hcnx,hnx⟩
 rw[w.Cr l.part h]at M;cases M;refine aY9 hP w w hle hx (sV hP O) ?_;have e1:=w.AE hP l.part (P9 (N:=N) k (N.key k u)) hx hSx hnx;have e2:N.L (w.mv C) (x,U)=0:=by rw[w.EC hP hx O];refine w.Cr c.part λt i hp b o=>?_;have:=j t (aW.2 ⟨i,by simp only[kA];exact⟨hp.1,w.oc o (w.rB t b Y)⟩⟩);omega
 omega
theorem bd9{C D:κ}{g q:pJ ι}(d:w.Bb C g)(f:w.Bb D q)(o:C≠D){k:Int}{S:ι->Prop}(i:yn N k S)(h1:w.qg C S=1)(h2:w.qg D S=1):tN w C≠tN w D:=by
 by_cases j:w.qX g q;exfalso;have p:=λh e hm=>w.oc j (f.part h e hm);rcases w.last hP (g:=g) i with h|⟨v,hv,l,hc,m,n⟩
 rw[w.Cr d.part h]at h1;cases h1;rw[w.AE hP d.part i hv l n,d.own _ (w.oc m (w.rB v Y U))]at h1;rw[w.AE hP p i hv l n,f.own _ (w.oc (w.xC j) (w.oc m (w.rB v Y U)))]at h2;have a:w.c (v,U)=C:=by by_cases c:w.c (v,U)=C;exact c;rw[tk c]at h1;cases h1
 have b:w.c (v,U)=D:=by by_cases c:w.c (v,U)=D;exact c;rw[tk c]at h2;cases h2
 exact o (a.symm.trans b);rcases w.bp1 hP d.mem f.mem d.part f.part j with h|h
 have:=w.inside hP d f j h i h1 h2;omega;have:=w.inside hP f d (λc=>j (w.xC c)) h i h2 h1;omega
end nK
end Net
end Go.Pg
namespace Go.Ab
open Go
def qZ(a b c d:bs):Prop:=oK a b c d=0\/(oK a b c d=1/\∃p,(p=a\/p=b)/\(p=c\/p=d))
theorem Ft{a b c:bs}(ha:d' a=Y)(d:d' b=Y)(hc:d' c=Y):sP a b c=fr a b c:=by unfold sP;simp[ha,d,hc]
theorem aU4{a b c d e f:bs}(h:(sP a b c<=0/\0<=sP d e f)\/(0<=sP a b c/\sP d e f<=0)):l7 a b c*l7 d e f<=0:=by grind[l7]
theorem Oe{a b c:bs}:l7 a b c=0↔sP a b c=0:=by grind[l7]
def pe(M s:Int)(a:bs)(y:Int):Int:=M*a.1+s*(y-a.2)
def bU8{M s:Int}{a b p:bs}(hs:s*(b.2-a.2)=M*(b.1-a.1)):M*fr a b p=(b.2-a.2)*(pe M s a p.2-M*p.1):=by grind[fr,pe,c_,dP,bX]
def xu{M s:Int}{a b p:bs}(c:0<M)(hu:a.2<b.2)(hs:s*(b.2-a.2)=M*(b.1-a.1)) :
  (0<fr a b p↔M*p.1<pe M s a p.2)/\(fr a b p<0↔pe M s a p.2<M*p.1):=by
 have h:=bU8 (p:=p) hs;generalize fr a b p=x at h;generalize hz:pe M s a p.2-M*p.1=z at h;have d:0<b.2-a.2:=by omega
 constructor;constructor;intro e;have:=cn c e;rw[h]at this;have:=cE this d;omega;intro f;have:0<(b.2-a.2)*z:=cn d (by omega);rw[<-h]at this;exact cE this c;constructor;intro e;have:M*x<0:=jz c e;rw[h]at this;have:0<(b.2-a.2)*(-z):=by rw[cR];omega
 have:=cE this d;omega;intro f;have:0<(b.2-a.2)*(-z):=cn d (by omega);rw[cR,<-h,<-cR]at this;have:=cE this c;omega
theorem Jl{M s:Int}{a b:bs}(hs:s*(b.2-a.2)=M*(b.1-a.1)):pe M s a b.2=M*b.1:=by grind[pe,c_]
theorem Jd(M s:Int)(a:bs):pe M s a a.2=M*a.1:=by simp[pe]
def bT5(M s t:Int)(a c:bs)(y z:Int):(pe M s a z-pe M t c z)-(pe M s a y-pe M t c y)=(s-t)*(z-y):=by grind[pe,mL,c_]
def M6{a b c d:bs}(ha:d' a=Y)(g:d' b=Y)(hc:d' c=Y)(hd:d' d=Y)(e:a≠b)(f:c≠d)
  (h1:(fr a b c<=0/\0<=fr a b d)\/(0<=fr a b c/\fr a b d<=0)) (h2:(fr c d a<=0/\0<=fr c d b)\/(0<=fr c d a/\fr c d b<=0)) (h:¬(fr a b c=0/\fr a b d=0)):oK a b c d=1:=by grind[oK,u9,pt,Ft,l7,Oe,aU4,bw,aJ]
section
variable {M s t:Int} {a b c d:bs} (hM:0<M) (ha:d' a=Y) (hb:d' b=Y) (hc:d' c=Y) (hd:d' d=Y) (hu:a.2<b.2) (hv:c.2<d.2)
 (hs:s*(b.2-a.2)=M*(b.1-a.1)) (ht:t*(d.2-c.2)=M*(d.1-c.1))
def oV(M s t:Int)(a c:bs)(y:Int):Int:=pe M s a y-pe M t c y
theorem u7(M s t:Int)(a c:bs)(y z:Int):oV M s t a c z-oV M s t a c y=(s-t)*(z-y):=bT5 M s t a c y z
include hM ha hb hc hd hu hv hs ht
theorem av9:(oV M s t a c c.2=pe M s a c.2-M*c.1)/\(oV M s t a c d.2=pe M s a d.2-M*d.1)/\(oV M s t a c a.2=M*a.1-pe M t c a.2)/\(oV M s t a c b.2=M*b.1-pe M t c b.2):=by grind[oV,Jd,Jl]
theorem J8(h1:(oV M s t a c c.2<=0/\0<=oV M s t a c d.2)\/(0<=oV M s t a c c.2/\oV M s t a c d.2<=0))(h2:(oV M s t a c a.2<=0/\0<=oV M s t a c b.2)\/(0<=oV M s t a c a.2/\oV M s t a c b.2<=0))(e:¬(oV M s t a c c.2=0/\oV M s t a c d.2=0)):oK a b c d=1:=by let ⟨f,g,i,j⟩:=av9 hM ha hb hc hd hu hv hs ht;have l2:=xu (p:=c) hM hu hs;have x8:=xu (p:=d) hM hu hs;have pG:=xu (p:=a) hM hv ht;have k:=xu (p:=b) hM hv ht;exact M6 ha hb hc hd (λh=>by rw[h]at hu;omega) (λh=>by rw[h]at hv;omega) (by omega) (by omega) (by omega)
theorem PC{p:bs}(h1:p=a\/p=b)(h2:p=c\/p=d):oV M s t a c p.2=0:=by grind[pe,Jd,Jl,oV]
theorem aN9(hm:qZ a b c d){k:Int}(g:a.2<=k)(h:k+1<=b.2)(i:c.2<=k)(j:k+1<=d.2):¬(oV M s t a c k<0/\0<oV M s t a c (k+1))/\¬(0<oV M s t a c k/\oV M s t a c (k+1)<0):=by
 have st:=u7 M s t a c k (k+1);have rO:=u7 M s t a c a.2 k;have b4:=u7 M s t a c c.2 k;have se:=u7 M s t a c (k+1) b.2;have l:=u7 M s t a c (k+1) d.2;have m:(s-t)*(k+1-k)=s-t:=by grind
 constructor;rintro ⟨h1,h2⟩;have hp:0<=s-t:=by omega
 have q5:=aH hp (show 0<=k-a.2 by omega);have nj:=aH hp (show 0<=k-c.2 by omega);have rM:=aH hp (show 0<=b.2-(k+1)by omega);have s_:=aH hp (show 0<=d.2-(k+1)by omega);have e:=J8 hM ha hb hc hd hu hv hs ht (bE ⟨by omega,by omega⟩) (bE ⟨by omega,by omega⟩) (by omega);rcases hm with hm|⟨_,p,fa,gb⟩<;>grind[PC]
 rintro ⟨h1,h2⟩;have hp:0<=t-s:=by omega
 have q5:=aH hp (show 0<=k-a.2 by omega);have nj:=aH hp (show 0<=k-c.2 by omega);have rM:=aH hp (show 0<=b.2-(k+1)by omega);have s_:=aH hp (show 0<=d.2-(k+1)by omega);have f:∀x,(t-s)*x=- ((s-t)*x):=λx=>by grind[iU]
 rw[f]at q5 nj rM s_;have e:=J8 hM ha hb hc hd hu hv hs ht (bq ⟨by omega,by omega⟩) (bq ⟨by omega,by omega⟩) (by omega);rcases hm with hm|⟨_,p,fa,gb⟩<;>grind[PC]
end
theorem I6(a b c:bs):fr b a c=- fr a b c:=by grind[fr,iU,c_,bX]
theorem bR5(a b c:bs):sP b a c=- sP a b c:=by grind[sP,d',I6]
theorem Nv(a b c:bs):l7 b a c=- l7 a b c:=by grind[l7,bR5]
theorem Xj(a b:bs)(h:a≠b):hU b a=!hU a b:=by grind[eB,hU]
theorem bJ2{a b:bs}(c d:bs)(h:a≠b):p8 b a c d=p8 a b c d:=by grind[p8,Xj,hU]
theorem bI5(a b:bs){c d:bs}(h:c≠d):p8 a b d c=p8 a b c d:=by grind[p8,Xj,hU]
def bU4{a b:bs}(c d:bs)(h:a≠b):oK b a c d=oK a b c d:=by
 unfold oK;have e:u9 a b=U:=by grind[pt]
 have f:u9 b a=U:=by grind[pt]
 grind[d',n',fr,I6,sU,jE,jF,aJ,u9,l7,Nv,jb,bX,bJ2]
def bW7(a b:bs){c d:bs}(h:c≠d):oK a b d c=oK a b c d:=by
 unfold oK;have e:u9 c d=U:=by grind[pt]
 have f:u9 d c=U:=by grind[pt]
 grind[d',n',fr,I6,sU,jE,jF,u9,aJ,l7,bX,Nv,jb,bI5]
def qZ.GM{a b c d:bs}(h:a≠b)(m:qZ a b c d):qZ b a c d:=by
 unfold qZ at *;rw[bU4 c d h];rcases m with m|⟨m,p,h1,h2⟩
 exact bE m;exact bq ⟨m,p,h1.symm,h2⟩
def qZ.KG{a b c d:bs}(h:c≠d)(m:qZ a b c d):qZ a b d c:=by
 unfold qZ at *;rw[bW7 a b h];rcases m with m|⟨m,p,h1,h2⟩
 exact bE m;exact bq ⟨m,p,h1,h2.symm⟩
def bK7{M s:Int}{a b c d:bs}(m:0<M)(hu:a.2<b.2)(hv:c.2<d.2)(l2:∀p,p=a\/p=b\/p=c\/p=d->M*p.1=pe M s a p.2) :
  (max a.2 c.2<min b.2 d.2->p8 a b c d=2)/\(max a.2 c.2=min b.2 d.2->p8 a b c d=1):=by
 have t:=l2 a (by simp);have u:=l2 b (by simp);have lc:=l2 c (by simp);have ld:=l2 d (by simp);have g:∀p q:bs,(p=a\/p=b\/p=c\/p=d)->(q=a\/q=b\/q=c\/q=d)->M*(q.1-p.1)=s*(q.2-p.2):=by
  intro p q hp e;have h1:=l2 p hp;have h2:=l2 q e;unfold pe at h1 h2;have n:s*(q.2-p.2)=s*(q.2-a.2)-s*(p.2-a.2):=by rw[<-c_];congr 1;omega
  rw[c_];omega
 have i:∀p q:bs,(p=a\/p=b\/p=c\/p=d)->(q=a\/q=b\/q=c\/q=d)->p.2=q.2->p=q:=by
  intro p q hp e h;have:=g p q hp e;rw[show q.2-p.2=0 by omega,eG]at this;rcases gQ.1 this with h2|h2
  omega;exact eB (by omega) h
 by_cases hs:0<=s
 .have nh:∀p q:bs,(p=a\/p=b\/p=c\/p=d)->(q=a\/q=b\/q=c\/q=d)->hU p q=No (p.2<q.2):=by
   intro p q hp e;have h:=g p q hp e;unfold hU;by_cases h1:p.2<q.2;have h2:=aH hs (show 0<=q.2-p.2 by omega);rw[<-h]at h2;have n:0<=q.1-p.1:=by
    rcases gP (q.1-p.1) 0 with f|f
    have:=jz m f;omega;exact f
   by_cases f:p.1<q.1;simp[h1,f];have j:p.1=q.1:=by omega
   simp[h1,j];by_cases h2:p.2=q.2;have:=i p q hp e h2;subst this;simp;have n:=aH hs (show 0<=p.2-q.2 by omega);have f:s*(p.2-q.2)=- (s*(q.2-p.2)):=by rw[<-cR];congr 1;omega
   rw[f,<-h]at n;have j:¬p.1<q.1:=λk=>by have:=cn m (show 0<q.1-p.1 by omega);omega
   simp[h1,j]
  have o:hU b a=U:=by rw[nh b a (by simp) (by simp)];exact ft (by omega)
  have r:hU d c=U:=by rw[nh d c (by simp) (by simp)];exact ft (by omega)
  unfold p8;simp only[o,r,aJ,l4,nh a c (by simp) (by simp),nh d b (by simp) (by simp),kA];by_cases c1:a.2<c.2<;>by_cases c2:d.2<b.2<;>simp only[c1,c2,vE,l4]
  all_goals
   constructor;intro h;rw[nh _ _ (by simp) (by simp)];rw[cc (λhe=>by have:=Ar Prod.snd ((pt _ _).1 he);omega),cr (hT (by omega))];intro h;rw[cr ((pt _ _).2 (i _ _ (by simp) (by simp) (by omega)))]
 have nh:∀p q:bs,(p=a\/p=b\/p=c\/p=d)->(q=a\/q=b\/q=c\/q=d)->hU p q=No (q.2<p.2):=by
  intro p q hp e;have h:=g p q hp e;unfold hU;by_cases h1:q.2<p.2;have h2:=Int.mul_pos_of_neg_of_neg (show s<0 by omega) (show q.2-p.2<0 by omega);rw[<-h]at h2;have n:=cE h2 m;have f:p.1<q.1:=by omega
  simp[h1,f];by_cases h2:p.2=q.2;have:=i p q hp e h2;subst this;simp;have l:s*(q.2-p.2)<0:=Int.mul_neg_of_neg_of_pos (show s<0 by omega) (show 0<q.2-p.2 by omega);rw[<-h]at l;have j:¬p.1<q.1:=λk=>by have:=cn m (show 0<q.1-p.1 by omega);omega
  have k:¬p.1=q.1:=λk=>by rw[k,Int.sub_self,eG]at l;omega
  simp[h1,j,k]
 grind[hU,decide_eq_true,p8,pt]
section
variable {M s t:Int} {a b c d:bs} (hM:0<M) (ha:d' a=Y) (hb:d' b=Y) (hc:d' c=Y) (hd:d' d=Y) (hu:a.2<b.2) (hv:c.2<d.2)
 (hs:s*(b.2-a.2)=M*(b.1-a.1)) (ht:t*(d.2-c.2)=M*(d.1-c.1))
def WJ{a b c d:bs}(ha:d' a=Y)(hb:d' b=Y)(hc:d' c=Y)(hd:d' d=Y)(e:a≠b)(f:c≠d)(h1:fr a b c=0)(h2:fr a b d=0):oK a b c d=p8 a b c d:=by grind[oK,u9,pt,Ft,l7,Oe,bw,aJ]
include hM ha hb hc hd hu hv hs ht
theorem af2(qJ:s=t){k:Int}(j:oV M s t a c k=0)(hm:qZ a b c d):¬max a.2 c.2<min b.2 d.2:=by
 subst qJ;let ⟨g,i,l,m⟩:=av9 hM ha hb hc hd hu hv hs ht;have z:∀y,oV M s s a c y=0:=λy=>by grind[u7]
 rw[z]at g i;have l2:∀p,p=a\/p=b\/p=c\/p=d->M*p.1=pe M s a p.2:=by grind[Jd,Jl]
 have g1:=xu (p:=c) hM hu hs;have g2:=xu (p:=d) hM hu hs;have e:=WJ ha hb hc hd (λh=>by rw[h]at hu;omega) (λh=>by rw[h]at hv;omega) (by omega) (by omega);intro f;rcases hm with hm|⟨hm,_⟩<;>rw[e,(bK7 hM hu hv l2).1 f]at hm<;>omega
theorem aO4(hm:qZ a b c d){k:Int}(h:a.2<=k)(i:k<=b.2)(j:c.2<=k)(l:k<=d.2)(e:oV M s t a c k=0):(k=a.2\/k=b.2)/\(k=c.2\/k=d.2):=by
 by_cases qJ:s=t;have:=af2 hM ha hb hc hd hu hv hs ht qJ e hm;omega;have rO:=u7 M s t a c a.2 k;have b4:=u7 M s t a c c.2 k;have se:=u7 M s t a c k b.2;have m:=u7 M s t a c k d.2;have f:=u7 M s t a c c.2 d.2;have n:¬(oV M s t a c c.2=0/\oV M s t a c d.2=0):=by grind[gQ]
 have g:oK a b c d=1:=by
  rcases gP s t with hl|hl
  have o:∀x,(t-s)*x=- ((s-t)*x):=λx=>by grind[iU]
  have q5:=aH (show 0<=t-s by omega) (show 0<=k-a.2 by omega);have nj:=aH (show 0<=t-s by omega) (show 0<=k-c.2 by omega);have rM:=aH (show 0<=t-s by omega) (show 0<=b.2-k by omega);have s_:=aH (show 0<=t-s by omega) (show 0<=d.2-k by omega)
  grind[J8]
  have q5:=aH (show 0<=s-t by omega) (show 0<=k-a.2 by omega);have nj:=aH (show 0<=s-t by omega) (show 0<=k-c.2 by omega);have rM:=aH (show 0<=s-t by omega) (show 0<=b.2-k by omega);have s_:=aH (show 0<=s-t by omega) (show 0<=d.2-k by omega)
  grind[J8]
 rcases hm with hm|⟨_,p,fa,gb⟩<;>grind[PC,u7,gQ]
theorem aH8(hm:qZ a b c d){k:Int}(f:a.2<=k)(g:k+1<=b.2)(h:c.2<=k)(i:k+1<=d.2)(e:oV M s t a c k=0)(h1:oV M s t a c (k+1)=0):False:=by have h2:=u7 M s t a c k (k+1);rw[e,h1,show k+1-k=1 by omega,eE]at h2;have:=af2 hM ha hb hc hd hu hv hs ht (by omega) e hm;omega
end
def ba7{M s:Int}{a b c d:bs}(e:0<M)(ha:d' a=Y)(f:d' b=Y)(hc:d' c=Y)(hd:d' d=Y)(hu:a.2<b.2)(hv:c.2=d.2)(hw:c.1<d.1)
  (hs:s*(b.2-a.2)=M*(b.1-a.1)) (hm:qZ a b c d\/qZ c d a b) (n:a.2<=c.2) (o:c.2<=b.2) (q:M*c.1<=pe M s a c.2) (r:pe M s a c.2<=M*d.1) :
  (c.2=a.2\/c.2=b.2)/\(pe M s a c.2=M*c.1\/pe M s a c.2=M*d.1):=by
 have l2:=xu (p:=c) e hu hs;have x8:=xu (p:=d) e hu hs;rw[<-hv]at x8;have j:M*c.1<M*d.1:=cd hw e;have s1:fr c d a<=0:=by
  unfold fr;rw[show d.2-c.2=0 by omega,eH];have:=aH (show 0<=d.1-c.1 by omega) (show 0<=c.2-a.2 by omega)
  grind[cR]
 have s2:0<=fr c d b:=by unfold fr;rw[show d.2-c.2=0 by omega,eH];have:=aH (show 0<=d.1-c.1 by omega) (show 0<=b.2-c.2 by omega);omega
 have g:a≠b:=λh=>by rw[h]at hu;omega
 have i:c≠d:=λh=>by rw[h]at hw;omega
 have k:=M6 ha f hc hd g i (bq ⟨by omega,by omega⟩) (bE ⟨s1,s2⟩) (by omega);have l:oK c d a b=1:=M6 hc hd ha f i g (bE ⟨s1,s2⟩) (bq ⟨by omega,by omega⟩) (by grind[fr,gQ]);have m:∃p,(p=a\/p=b)/\(p=c\/p=d):=by
  rcases hm with(h|⟨_,h⟩)| (h|⟨_,p,h1,h2⟩)
  omega;exact h;omega;exact⟨p,h2,h1⟩
 grind[pe,Jd,Jl]
def ag0{a b c d:bs}(ha:d' a=Y)(i:d' b=Y)(hc:d' c=Y)(hd:d' d=Y)(hu:a.2=b.2)(f:a.1<b.1)(hv:c.2=d.2)(g:c.1<d.1)(k:a.2=c.2)
  (hm:qZ a b c d) (h1:a.1<d.1) (h2:c.1<b.1):False:=by
 have z:∀p,p.2=a.2->fr a b p=0:=λp h=>by grind[fr]
 have e:=WJ ha i hc hd (λh=>by rw[h]at f;omega) (λh=>by rw[h]at g;omega) (z c (by omega)) (z d (by omega));have nh:∀p q:bs,p.2=q.2->hU p q=No (p.1<q.1):=by grind[hU]
 have l:hU b a=U:=by grind[decide_eq_false]
 have m:hU d c=U:=by grind[decide_eq_false]
 have j:p8 a b c d=2:=by grind[p8,aJ,pt,decide_eq_true]
 rcases hm with hm|⟨hm,_⟩<;>rw[e,j]at hm<;>omega
open Go.Pg
def uV(a b c d:bs):Prop:=max a.1 b.1<min c.1 d.1\/max c.1 d.1<min a.1 b.1
def Sep(a b c d:bs):Prop:=qZ a b c d\/qZ c d a b\/uV a b c d
def Sep.swap{a b c d:bs}(h:Sep a b c d):Sep c d a b:=by
 rcases h with h|h|h
 exact bq (bE h);exact bE h;exact bq (bq h.symm)
def Sep.GM{a b c d:bs}(n:a≠b)(h:Sep a b c d):Sep b a c d:=by
 rcases h with h|h|h
 exact bE (h.GM n);exact bq (bE (h.KG n));refine bq (bq ?_);unfold uV at *;omega
def Sep.KG{a b c d:bs}(n:c≠d)(h:Sep a b c d):Sep a b d c:=(h.swap.GM n).swap
structure q6(ι:Type) where
 E:List ι
 src:ι->bs
 dst:ι->bs
namespace q6
variable {ι:Type} (F:q6 ι)
structure Ok:Prop where
 nodup:F.E.Nodup
 ne:∀e∈F.E,F.src e≠F.dst e
 Ao:∀e∈F.E,d' (F.src e)=Y/\d' (F.dst e)=Y
 meet:∀e∈F.E,∀f∈F.E,e≠f->Sep (F.src e) (F.dst e) (F.src f) (F.dst f)
def fwd(e:ι):Bool:=No ((F.src e).2<(F.dst e).2\/((F.src e).2=(F.dst e).2/\(F.src e).1<(F.dst e).1))
def b7(e:ι):bs:=cond (F.fwd e) (F.src e) <|F.dst e
def a7(e:ι):bs:=cond (F.fwd e) (F.dst e) <|F.src e
def xZ(e:ι):Int:=ite ((F.b7 e).2<(F.a7 e).2) ((F.a7 e).2-(F.b7 e).2) 1
def prod:cu ι->Int
 | []=>1
 |e::l=>F.xZ e*prod l
def bJ4(e:ι):0<F.xZ e:=by unfold xZ;split<;>omega
def Cg:∀l,0<F.prod l
 | []=>by simp[prod]
 |e::l=>cn (F.bJ4 e) (Cg l)
def an5{e:ι}:∀ {l:cu ι},e∈l->F.xZ e∣F.prod l
 |f::l,h=>by
  rcases aF.1 h with rfl|h
  exact lu _ _;exact ml (an5 h) (Int.dvd_mul_left _ _)
def y_{F:q6 ι}(dC:F.Ok){e:ι}(he:e∈F.E):(F.b7 e).2<(F.a7 e).2\/((F.b7 e).2=(F.a7 e).2/\(F.b7 e).1<(F.a7 e).1):=by
 have a:=dC.ne e he;unfold b7 a7;cases h:F.fwd e;unfold fwd at h
 grind
 unfold fwd at h
 grind
def hY(dC:F.Ok):Net ι where
 E:=F.E
 b7:=F.b7
 a7:=F.a7
 M:=F.prod F.E
 s:=λe=>F.prod F.E*((F.a7 e).1-(F.b7 e).1) / F.xZ e
 p7:=F.Cg _
 ord:=λe he=>y_ dC he
 AB:=λe he hu=>by have a:F.xZ e=(F.a7 e).2-(F.b7 e).2:=cr hu;have h:=F.an5 he;have h2:F.xZ e∣F.prod F.E*((F.a7 e).1-(F.b7 e).1):=ml h (lu _ _);rw[<-a];exact Int.ediv_mul_cancel h2
def pO{F:q6 ι}(dC:F.Ok){e:ι}(he:e∈F.E):d' (F.b7 e)=Y/\d' (F.a7 e)=Y:=by
 have:=dC.Ao e he;unfold b7 a7
 grind
def LC{F:q6 ι}(dC:F.Ok){e f:ι}(he:e∈F.E)(hf:f∈F.E)(h:e≠f):Sep (F.b7 e) (F.a7 e) (F.b7 f) (F.a7 f):=by have m:=dC.meet e he f hf h;have a:=dC.ne e he;have b:=dC.ne f hf;unfold b7 a7;cases F.fwd e<;>cases F.fwd f;exact(m.GM a).KG b;exact m.GM a;exact m.KG b;exact m
section
variable (dC:F.Ok)
def H6{e:ι}(he:e∈F.E)(hu:(F.b7 e).2<(F.a7 e).2){k:Int}(a:(F.b7 e).2<=k)(b:k<=(F.a7 e).2) :
  F.prod F.E*min (F.b7 e).1 (F.a7 e).1<=(F.hY dC).X e k/\(F.hY dC).X e k<=F.prod F.E*max (F.b7 e).1 (F.a7 e).1:=by
 have c:=F.Cg F.E;have d:(F.hY dC).X e (F.b7 e).2=F.prod F.E*(F.b7 e).1:=Net.vG _ e;have f:(F.hY dC).X e (F.a7 e).2=F.prod F.E*(F.a7 e).1:=Net.yo (F.hY dC) he hu;have st:∀y z,(F.hY dC).X e z-(F.hY dC).X e y=(F.hY dC).s e*(z-y):=λy z=>by
  unfold Net.X
  grind
 have s1:=st (F.b7 e).2 k;have s2:=st k (F.a7 e).2;have m1:F.prod F.E*min (F.b7 e).1 (F.a7 e).1<=F.prod F.E*(F.b7 e).1:=bB (by omega) (by omega);have m2:F.prod F.E*min (F.b7 e).1 (F.a7 e).1<=F.prod F.E*(F.a7 e).1:=bB (by omega) (by omega);have m3:F.prod F.E*(F.b7 e).1<=F.prod F.E*max (F.b7 e).1 (F.a7 e).1:=bB (by omega) (by omega);have m4:F.prod F.E*(F.a7 e).1<=F.prod F.E*max (F.b7 e).1 (F.a7 e).1:=bB (by omega) (by omega);rcases gP ((F.hY dC).s e) 0 with h|h
 have q5:=aH (show 0<=- (F.hY dC).s e by omega) (show 0<=k-(F.b7 e).2 by omega);have nj:=aH (show 0<=- (F.hY dC).s e by omega) (show 0<=(F.a7 e).2-k by omega);rw[iU]at q5 nj;omega;have q5:=aH h (show 0<=k-(F.b7 e).2 by omega);have nj:=aH h (show 0<=(F.a7 e).2-k by omega);omega
structure C1(e f:ι):Prop where
 ME:∀k,(F.hY dC).eS e k->(F.hY dC).eS f k->¬((F.hY dC).X e k<(F.hY dC).X f k/\(F.hY dC).X f (k+1)<(F.hY dC).X e (k+1))/\¬((F.hY dC).X f k<(F.hY dC).X e k/\(F.hY dC).X e (k+1)<(F.hY dC).X f (k+1))
 U5:∀k,(F.hY dC).eS e k->(F.hY dC).eS f k->(F.hY dC).X e k=(F.hY dC).X f k->(F.hY dC).X e (k+1)=(F.hY dC).X f (k+1)->False
 ar2:∀k,(F.b7 e).2<=k->k<=(F.a7 e).2->(F.b7 f).2<=k->k<=(F.a7 f).2->(F.hY dC).X e k=(F.hY dC).X f k->(k=(F.b7 e).2\/k=(F.a7 e).2)/\(k=(F.b7 f).2\/k=(F.a7 f).2)
def C1.symm{e f:ι}(h:F.C1 dC e f):F.C1 dC f e :=⟨λk a b=>(h.ME k b a).symm,λk a b x y=>h.U5 k b a x.symm y.symm,λk a b c d x=>(h.ar2 k c d a b x.symm).symm⟩
def Yc{e f:ι}(he:e∈F.E)(hf:f∈F.E)(b:(F.b7 e).2<(F.a7 e).2)(c:(F.b7 f).2<(F.a7 f).2)(hm:qZ (F.b7 e) (F.a7 e) (F.b7 f) (F.a7 f)):F.C1 dC e f:=by
 have d:=(F.hY dC).p7;have a:∀e f y,oV (F.hY dC).M ((F.hY dC).s e) ((F.hY dC).s f) (F.b7 e) (F.b7 f) y=(F.hY dC).X e y-(F.hY dC).X f y:=λ_ _ _=>rfl;have hF:=(F.hY dC).AB;constructor;intro k c1 c2;have h:=aN9 d (pO dC he).1 (pO dC he).2 (pO dC hf).1 (pO dC hf).2 b c (hF e he b) (hF f hf c) hm (k:=k) c1.1 c1.2 c2.1 c2.2
 grind
 intro k c1 c2 h1 h2;exact aH8 d (pO dC he).1 (pO dC he).2 (pO dC hf).1 (pO dC hf).2 b c (hF e he b) (hF f hf c) hm (k:=k) c1.1 c1.2 c2.1 c2.2 (by rw[a];omega) (by rw[a];omega);intro k g i j l h;exact aO4 d (pO dC he).1 (pO dC he).2 (pO dC hf).1 (pO dC hf).2 b c (hF e he b) (hF f hf c) hm (k:=k) g i j l (by rw[a];omega)
def Yb{e f:ι}(he:e∈F.E)(hf:f∈F.E)(a:(F.b7 e).2<(F.a7 e).2)(b:(F.b7 f).2<(F.a7 f).2)(hm:max (F.b7 e).1 (F.a7 e).1<min (F.b7 f).1 (F.a7 f).1):F.C1 dC e f:=by
 have lt:∀k,(F.b7 e).2<=k->k<=(F.a7 e).2->(F.b7 f).2<=k->k<=(F.a7 f).2->(F.hY dC).X e k<(F.hY dC).X f k:=λk c d g h=>by have h1:=(F.H6 dC he a c d).2;have h2:=(F.H6 dC hf b g h).1;have j:=cd hm (F.Cg F.E);omega
 have i:∀k,(F.hY dC).eS e k->(F.hY dC).eS f k->(F.hY dC).X e k<(F.hY dC).X f k/\(F.hY dC).X e (k+1)<(F.hY dC).X f (k+1):=λk c1 c2=>by
  have l:(F.b7 e).2<=k:=c1.1;have a2:k<(F.a7 e).2:=c1.2;have a3:(F.b7 f).2<=k:=c2.1;have a4:k<(F.a7 f).2:=c2.2
  grind
 constructor
 grind
 grind
 grind
def pair{e f:ι}(he:e∈F.E)(hf:f∈F.E)(a:(F.b7 e).2<(F.a7 e).2)(b:(F.b7 f).2<(F.a7 f).2)(h:e≠f):F.C1 dC e f:=by
 rcases LC dC he hf h with m|m|m|m
 exact F.Yc dC he hf a b m;exact(F.Yc dC hf he b a m).symm;exact F.Yb dC he hf a b m;exact(F.Yb dC hf he b a m).symm
def w8:(F.hY dC).wx:=by
 have t:=(F.hY dC).p7;have hF:=(F.hY dC).AB;constructor;exact dC.nodup;intro e he f hf k c1 c2 h;by_cases a:e=f;subst a;omega;have:=((F.pair dC he hf (dW c1.1 c1.2) (dW c2.1 c2.2) a).ME k c1 c2).1;omega;intro e he f hf k c1 c2 h;by_cases a:e=f;subst a;omega;have:=((F.pair dC he hf (dW c1.1 c1.2) (dW c2.1 c2.2) a).ME k c1 c2).2;omega;intro e he f hf k c1 c2 h1 h2;rcases kY (e=f)with h|a
 exact h;exact((F.pair dC he hf (dW c1.1 c1.2) (dW c2.1 c2.2) a).U5 k c1 c2 h1 h2).elim;intro e he f hf k d u a l n v w h;exact((F.pair dC he hf d u a).ar2 k l n v w h).1;intro e he f hf d p l n r s;have a:e≠f:=λh=>p (h▸d);have o:=y_ dC hf;have q:¬(F.b7 f).2<(F.a7 f).2:=p;have x:(F.b7 f).2=(F.a7 f).2:=by omega
 have z:(F.b7 f).1<(F.a7 f).1:=by omega
 have m:=LC dC he hf a;by_cases c:uV (F.b7 e) (F.a7 e) (F.b7 f) (F.a7 f);have b:=F.H6 dC he d l n;have B:F.prod F.E*(F.b7 f).1<=(F.hY dC).X e (F.b7 f).2:=r;have C:(F.hY dC).X e (F.b7 f).2<=F.prod F.E*(F.a7 f).1:=s;have J:F.prod F.E*min (F.b7 e).1 (F.a7 e).1<=(F.hY dC).X e (F.b7 f).2/\(F.hY dC).X e (F.b7 f).2<=F.prod F.E*max (F.b7 e).1 (F.a7 e).1:=b;rcases c with h|h
 have:=cd (show max (F.b7 e).1 (F.a7 e).1<(F.b7 f).1 by omega) (F.Cg F.E);omega;have:=cd (show(F.a7 f).1<min (F.b7 e).1 (F.a7 e).1 by omega) (F.Cg F.E);omega;have D:qZ (F.b7 e) (F.a7 e) (F.b7 f) (F.a7 f)\/qZ (F.b7 f) (F.a7 f) (F.b7 e) (F.a7 e):=by
  rcases m with m|m|m
  exact bE m;exact bq m;exact(c m).elim
 exact ba7 t (pO dC he).1 (pO dC he).2 (pO dC hf).1 (pO dC hf).2 d x z (hF e he d) D l n r s;intro e he f hf G p H h1 h2;rcases kY (e=f)with h|a
 exact h;have I:¬(F.b7 e).2<(F.a7 e).2:=G;have q:¬(F.b7 f).2<(F.a7 f).2:=p;have g:(F.b7 e).1<(F.a7 f).1:=h1;have i:(F.b7 f).1<(F.a7 e).1:=h2;have j:=H;have o1:=y_ dC he;have o2:=y_ dC hf;rcases LC dC he hf a with m|m|m
 exact(ag0 (pO dC he).1 (pO dC he).2 (pO dC hf).1 (pO dC hf).2 (by omega) (by omega) (by omega) (by omega) j m g i).elim;exact(ag0 (pO dC hf).1 (pO dC hf).2 (pO dC he).1 (pO dC he).2 (by omega) (by omega) (by omega) (by omega) j.symm m i g).elim;unfold uV at m;omega
end
end q6
end Go.Ab
