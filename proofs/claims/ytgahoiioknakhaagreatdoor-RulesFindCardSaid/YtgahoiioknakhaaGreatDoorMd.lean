/- A part of the proof; its readable source lies in wip of the prover's repo (squeezed here for the limit of bytes). -/
import Derived.Test.YtgahoiioknakhaaGreatDoorMc
import Derived.Lib.DecodeN
import Derived.KernelRfl
set_option linter.all false
open BitVec renaming ofInt->aW,toNat_ofInt->eW
open Bool renaming and_assoc->fR,and_eq_false_iff->fG,and_eq_true->ab,and_false->jZ,and_self->bG,and_true->fQ,eq_false_iff->gM,eq_iff_iff->dc,false_and->gC,false_eq_true->aF,false_or->cR,not_eq_true->eT,not_false->aQ,not_true->ar,or_eq_false_iff->dM,or_eq_true->bx,or_self->jq,true_and->bQ,true_eq_false->kG,true->Y,false->U
open ByteArray renaming mk->bU
open Classical renaming byContradiction->fV,em->ji
open Decidable renaming decide->No
open Go.ByteArray renaming toList_eq->jz
open Go.IntKind renaming bits->ik,signed->gP,u64->ak,u8->fu,wrap->an,wrap_i64->iw
open Go.Lib renaming contains->iO
open Go.Utf8 renaming decode->cg
open Int renaming add_mul->gF,dvd_mul_right->kZ,dvd_trans->lY,ediv_le_self->fg,ediv_lt_of_lt_mul->cm,ediv_nonneg->bH,emod_lt_of_pos->cX,emod_nonneg->df,eq_of_mul_eq_mul_left->cH,le_of_lt->dL,le_refl->cq,le_total->iM,lt_of_le_of_lt->dW,lt_of_mul_lt_mul_left->gm,lt_or_gt_of_ne->kR,lt_or_le->gU,lt_trichotomy->iH,max_comm->iy,min_comm->jG,mul_add->jg,mul_assoc->dm,mul_comm->cT,mul_ediv_add_emod->dg,mul_ediv_cancel_left->jF,mul_eq_zero->gV,mul_le_mul->kH,mul_le_mul_of_nonneg_left->bI,mul_le_mul_of_nonneg_right->aM,mul_lt_mul_of_pos_left->cd,mul_lt_mul_of_pos_right->eE,mul_neg->cn,mul_neg_of_pos_of_neg->jA,mul_nonneg->aB,mul_one->fE,mul_pos->bR,mul_pos_of_neg_of_neg->cN,mul_sub->cZ,mul_zero->dV,natAbs_mul->lO,natCast_mul->cY,natCast_pow->lG,neg_mul->dX,neg_mul_neg->dS,neg_neg->jf,one_mul->mC,pos_of_mul_pos_right->bV,pow_pos->mD,sub_mul->kJ,toNat_natCast->aO,zero_mul->eM
open List renaming all_cons->bE,all_eq_true->aj,all_nil->dD,append_assoc->cz,append_nil->ba,cons_append->cV,drop_eq_getElem_cons->bJ,find?_some->eB,flatMap_cons->db,foldl->bf,foldl_append->kQ,getElem?_cons_succ->aK,getElem?_cons_zero->ch,getElem?_drop->iT,getElem?_eq_getElem->af,getElem?_eq_some_iff->aq,getElem?_map->aS,getElem_inj->gY,getElem_mem->au,getElem_of_mem->bk,idxOf_lt_length_iff->gq,length->aa,length_append->aL,length_cons->aA,length_drop->iN,length_filter_le->cB,length_map->aI,length_nil->cP,length_pos_of_mem->jJ,length_singleton->fU,length_take->cQ,map_append->ez,map_cons->aD,map_nil->cM,mem_append->aV,mem_append_left->dz,mem_append_right->ic,mem_cons->aG,mem_cons_of_mem->bC,mem_cons_self->aR,mem_filter->aY,mem_flatMap->bW,mem_flatten->bZ,mem_map->aN,mem_map_of_mem->aX,mem_of_find?_eq_some->bh,mem_of_getElem?->aH,mem_of_mem_drop->aC,mem_or_eq_of_mem_set->cF,mem_range->gf,mergeSort_perm->cO,nil_append->br,nodup_append->dP,nodup_cons->dq,not_mem_nil->kY,pairwise_cons->aU,pairwise_iff_getElem->dF,pairwise_map->cE,perm_ext_iff_of_nodup->jh,range->aT,range_succ->ja,sum_cons->dK,tail_cons->lF,take_length->bN,take_succ_cons->gk,take_zero->jr
open List.Pairwise renaming cons->lX,nil->jY,of_cons->iI
open List.cons renaming injEq->cW
open Nat renaming add_mod_right->gT,gcd->bS,gcd_comm->j_,gcd_le_right->lq,le_of_lt->mi,le_refl->ay,lt_or_ge->cU,mod_eq_of_lt->da,mod_lt->eZ,mul_le_mul_left->kF,zero_add->bj,zero_le->di
open Option renaming map_some->ai,some->Z,none->W
open Option.some renaming inj->aJ,injEq->ah
open Or renaming inl->bw,inr->bm
open Prod renaming ext->fC,ext_iff->lW,fst->lP
open Prod.mk renaming injEq->iq
open UInt8 renaming toNat_inj->kX
namespace Go.Ab
open Go
def Vh(xs:eD)(y:Int)(hl:aa xs<2^62):E0 (xs,y)=Z (ite (y∈xs) ((xs.idxOf y:Nat):Int) <| -1):=by
 unfold E0;simp only[bT];refine(mP (A:=Unit) xs (λi _=>(i:Int)) (λ_ rest=>Z (ite (y∈rest) ((aa xs-aa rest+rest.idxOf y:Nat):Int) <| -1)) (by omega) ?_ ?_ ()).trans ?_;intro rec a;simp;intro rec i a x rest a7 hd d;have hlen:aa rest=aa xs-(i+1):=by have:=Ar aa hd;simp at this;omega
 have c:((i:Int)<(aa xs:Int)):=by omega
 simp only[c,l6,b6,fm hd,bT];by_cases b:y=x;subst b;simp[hlen];omega;have e:ek ((i:Int)+1)=((i+1:Nat):Int):=by grind[fx]
 simp only[b,n4,bu,e];rw[d ()]
 grind
 simp
theorem HC(xs:eD)(y:Int)(hl:aa xs<2^62):wo (xs,y)=Z (No (y∈xs)):=by unfold wo;simp only[Vh xs y hl,bT];by_cases h:y∈xs<;>simp[h]
def nQ(al:gp)(id:Int):dv b9:=al.find? λn=>No (n.1=id)
def px(ag:hI)(id:Int):dv ct:=ag.find? λa=>No (a.1=id)
def rl{α:Type}{xs rest:cu α}{i:Nat}{x:α}(h:xs.drop i=x::rest):i<aa xs/\aa rest=aa xs-(i+1)/\x∈xs:=by
 have h1:=Ar aa h
 grind[aC]
theorem f'{i n:Nat}(h:i<n)(a:n<2^62:=by first|omega| (simp;omega)):ek ((i:Int)+1)=((i+1:Nat):Int):=by grind[fx]
theorem fB{i n:Nat}(h:i<n):No ((i:Int)<(n:Int))=Y:=by simpa using h
def kj(n:Nat):No ((n:Int)<(n:Int))=U:=by simp
def M9(al:gp)(ag:hI)(fs:eD)(id:Int)(hl:aa al<2^62):xt ((al,ag,fs),id)=Z (match nQ al id with|some n=>(n,Y)|none=>((0,0,0),U)):=by unfold xt;simp only[bT];refine(mP (A:=Unit) al (λi _=>(i:Int)) (λ_ rest=>Z (match nQ rest id with|some n=>(n,Y)|none=>((0,0,0),U))) (by omega) ?_ ?_ ()).trans rfl;intro rec a;simp[nQ];intro rec i a x rest a7 hd b;simp only[fB a7,b6,fm hd,bT,f' a7 hl];by_cases h:x.1=id;subst h;simp[nQ];simp only[h,n4,bu,b ()];simp[nQ,h]
def WI(al:gp)(ag:hI)(fs:eD)(id:Int)(hl:aa ag<2^62)(hv:∀a∈ag,aa a.2.2.2.1<=1000000000):BP ((al,ag,fs),id)=Z (match px ag id with|some a=>(a,Y)|none=>((0,0,0,[],0,0),U)):=by
 unfold BP;simp only[bT];refine(mP (A:=Unit) ag (λi _=>(i:Int)) (λ_ rest=>Z (match px rest id with|some n=>(n,Y)|none=>((0,0,0,[],0,0),U))) (by omega) ?_ ?_ ()).trans rfl;intro rec a;simp[px];intro rec i a x rest a7 hd b;have c:=hv x (rl hd).2.2;have hc:vo x.2.2.2.1=Z x.2.2.2.1:=by grind[vo,m9]
 simp only[fB a7,b6,fm hd,bT,f' a7 hl,hc];by_cases h:x.1=id;subst h;simp[px];simp only[h,n4,bu,b ()];simp[px,h]
def bk2(al:gp)(ag:hI)(fs:eD)(e:aa al<=1000000)(ha:aa ag<=1000000):Il (al,ag,fs)=Z (al.map (·.1),ag.map (·.1)):=by
 unfold Il;simp only[bT];refine(vF (A:=eD) al (λi a=>(a,(i:Int))) (λa rest=>Z (a++rest.map (·.1),ag.map (·.1))) (λi a=>aa a=i) (by omega) ?_ ?_ [] rfl).trans rfl;intro rec a f;simp only[kj,bu,cM,ba];refine(vF (A:=eD) ag (λi a=>(a,(i:Int))) (λb rest=>Z (a,b++rest.map (·.1))) (λi a=>aa a=i) (by omega) ?_ ?_ [] rfl).trans rfl;intro rec b g;simp[kj];intro rec i b x rest a7 c hd d;simp only[fB a7,b6,fm hd,bT,f' a7 (show aa ag<2^62 by omega)]
 grind[m9,bT]
 intro rec i a x rest a7 c hd d;simp only[fB a7,b6,fm hd,bT,f' a7 (show aa al<2^62 by omega)]
 grind[m9,bT]
def d'(p:bs):Bool:=No (-2097152<=p.1)&&No (p.1<=2097152)&&No (-2097152<=p.2)&&No (p.2<=2097152)
theorem wH(p:bs):d' p=Y↔-2097152<=p.1/\p.1<=2097152/\-2097152<=p.2/\p.2<=2097152:=by simp[d',and_assoc]
def fr(a b c:bs):Int:=(b.1-a.1)*(c.2-a.2)-(b.2-a.2)*(c.1-a.1)
def vR{a b m n:Int}(h1:-m<=a:=by omega)(h2:a<=m:=by omega)(g:-n<=b:=by omega)(h:b<=n:=by omega):-(m*n)<=a*b/\a*b<=m*n:=by
 have hm:0<=m:=by omega
 have c:0<=n:=by omega
 have d:a.natAbs<=m.natAbs:=by omega
 have e:b.natAbs<=n.natAbs:=by omega
 have f:=Nat.mul_le_mul d e;rw[<-lO,<-lO]at f;have i:=aB hm c;omega
def aF7{a b c:bs}(ha:d' a=Y)(d:d' b=Y)(hc:d' c=Y):-35184372088832<=fr a b c/\fr a b c<=35184372088832:=by rw[wH]at ha d hc;have h1:=vR (a:=b.1-a.1) (b:=c.2-a.2) (m:=4194304) (n:=4194304);have h2:=vR (a:=b.2-a.2) (b:=c.1-a.1) (m:=4194304) (n:=4194304);unfold fr;omega
def V2(l:eY)(hl:aa l<2^62):vJ l=Z (l.all d'):=by
 refine(mP (A:=Unit) l (λi _=>(i:Int)) (λ_ rest=>Z (rest.all d')) (by omega) ?_ ?_ ()).trans rfl;simp;intro rec i a x rest a7 hd d;simp only[fB a7,fm hd,f' a7 hl];rw[d ()];by_cases h1:x.1 < -2097152;have:d' x=U:=by simp[d'];omega
 simp[h1,this];by_cases h2:2097152<x.1;have:d' x=U:=by simp[d'];omega
 simp[ h2,this];by_cases b:x.2 < -2097152;have:d' x=U:=by simp[d'];omega
 simp[ b,this];by_cases c:2097152<x.2;have:d' x=U:=by simp[d'];omega
 simp[ c,this];have:d' x=Y:=by rw[wH];omega
 simp[h1,h2,b,c,this]
def Fa(a b c:bs)(ha:d' a=Y)(d:d' b=Y)(hc:d' c=Y):xy (a,b,c)=Z (fr a b c):=by have f:=aF7 ha d hc;rw[wH]at ha d hc;have h1:=vR (a:=b.1-a.1) (b:=c.2-a.2) (m:=4194304) (n:=4194304);have h2:=vR (a:=b.2-a.2) (b:=c.1-a.1) (m:=4194304) (n:=4194304);unfold xy;rw[fx (n:=b.1-a.1),fx (n:=c.2-a.2),fx (n:=b.2-a.2),fx (n:=c.1-a.1),fx (n:=(b.1-a.1)*(c.2-a.2)),fx (n:=(b.2-a.2)*(c.1-a.1))];have e:=fx (n:=fr a b c);exact Ar Z e
def sP(a b c:bs):Int:=ite (d' a&&d' b&&d' c) (fr a b c) 0
def GS(a b c:bs):vJ [a,b,c]=Z (d' a&&d' b&&d' c):=by rw[V2 _ (by simp)];simp[fR]
def bo2(a b c d:bs):vJ [a,b,c,d]=Z (d' a&&d' b&&d' c&&d' d):=by rw[V2 _ (by simp)];simp[fR]
def bG3(a b c:bs):IZ (a,b,c)=Z (sP a b c):=by
 unfold IZ sP;simp only[ GS];cases h:(d' a&&d' b&&d' c)with
 |false=>simp
 |true =>simp only[ab]at h;simp only[ar,bu,Fa a b c h.1.1 h.1.2 h.2,bT,vE]
def l7(a b c:bs):Int:=ite (0<sP a b c) 1 <|ite (sP a b c<0) (-1) 0
def M8(a b c:bs):qR (a,b,c)=Z (l7 a b c):=by unfold qR l7;simp only[ bG3];by_cases h1:0<sP a b c;simp[h1];by_cases h2:sP a b c<0<;>simp[h1,h2]
theorem yP(a b:Int):bf qG a [b]=max a b:=by simp only[bf,qG];split<;>omega
def KS(a b:Int):bf w6 a [b]=min a b:=by simp only[bf,w6];split<;>omega
def sU(a b p:bs):Bool:=No (min a.1 b.1<=p.1)&&(No (p.1<=max a.1 b.1)&&(No (min a.2 b.2<=p.2)&&No (p.2<=max a.2 b.2)))
def n'(a b p:bs):Bool:=(d' a&&d' b&&d' p)&&(No (fr a b p=0)&&sU a b p)
def FH(a b p:bs):qV (a,b,p)=Z (n' a b p):=by
 unfold qV n';simp only[ GS];cases h:(d' a&&d' b&&d' p)with
 |false=>simp
 |true =>simp only[ab]at h;simp only[ Fa a b p h.1.1 h.1.2 h.2,bT,yP,KS,sU];cases No (fr a b p=0)<;>cases No (min a.1 b.1<=p.1)<;>cases No (p.1<=max a.1 b.1)<;>cases No (min a.2 b.2<=p.2)<;>simp
def hU(a b:bs):Bool:=No (a.1<b.1)||(No (a.1=b.1)&&No (a.2<b.2))
def bp6(a b:bs):pb (a,b)=Z (hU a b):=by unfold pb hU;cases No (a.1<b.1)<;>cases No (a.1=b.1)<;>rfl
def u9(a b:bs):Bool:=No (a.1=b.1)&&No (a.2=b.2)
theorem pt(a b:bs):u9 a b=Y↔a=b:=by simp[u9,lW]
def p8(a b c d:bs):Int :=
 let e:=ite (hU b a) b <|a
 let g:=ite (hU b a) a <|b
 let h:=ite (hU d c) d <|c
 let i:=ite (hU d c) c <|d
 let f:=ite (hU e h) h <|e
 let l:=ite (hU i g) i <|g
 if u9 f l then 1 else ite (hU f l) 2 0
def bp3(a b c d:bs):Fx (a,b,c,d)=Z (p8 a b c d):=by unfold Fx p8;have e:∀p q:bs,(No (p.1=q.1)&&No (p.2=q.2))=u9 p q:=λ_ _=>rfl;have i:=λp q=>bp6 p q;simp only[ e];cases h1:hU b a<;>cases h2:hU d c<;>simp only[ vE,l4,aF];cases g:hU a c<;>cases h:hU d b<;>simp only[ vE,l4,aF];cases u9 a b<;>cases f:hU a b<;>simp_all;cases u9 a d<;>cases f:hU a d<;>simp_all;cases u9 c b<;>cases f:hU c b<;>simp_all;cases u9 c d<;>cases f:hU c d<;>simp_all;cases g:hU a d<;>cases h:hU c b<;>simp only[ vE,l4,aF];cases u9 a b<;>cases f:hU a b<;>simp_all;cases u9 a c<;>cases f:hU a c<;>simp_all;cases u9 d b<;>cases f:hU d b<;>simp_all;cases u9 d c<;>cases f:hU d c<;>simp_all;cases g:hU b c<;>cases h:hU d a<;>simp only[ vE,l4,aF];cases u9 b a<;>cases f:hU b a<;>simp_all;cases u9 b d<;>cases f:hU b d<;>simp_all;cases u9 c a<;>cases f:hU c a<;>simp_all;cases u9 c d<;>cases f:hU c d<;>simp_all;cases g:hU b d<;>cases h:hU c a<;>simp only[ vE,l4,aF];cases u9 b a<;>cases f:hU b a<;>simp_all;cases u9 b c<;>cases f:hU b c<;>simp_all;cases u9 d a<;>cases f:hU d a<;>simp_all;cases u9 d c<;>cases f:hU d c<;>simp_all
def Wf(a b c:bs):l7 a b c=1\/l7 a b c=-1\/l7 a b c=0:=by unfold l7;split;exact .inl rfl;split;exact .inr (.inl rfl);exact .inr (.inr rfl)
def aP3(a b c d e f:bs):ek (l7 a b c*l7 d e f)=l7 a b c*l7 d e f:=by rcases Wf a b c with h|h|h<;>rcases Wf d e f with h'|h'|h'<;>rw[h,h']<;>exact fx
def oK(a b c d:bs):Int :=ite (d' a&&d' b&&d' c&&d' d) (ite (u9 a b) (ite (n' c d a) 1 0) <|ite (u9 c d) (ite (n' a b c) 1 0) <|ite (l7 a b c=0/\l7 a b d=0) (p8 a b c d) <|ite (l7 a b c*l7 a b d<=0/\l7 c d a*l7 c d b<=0) 1 <| 0) 0
def bJ6(a b c d:bs):FQ (a,b,c,d)=Z (oK a b c d):=by
 unfold FQ oK;have e:∀p q:bs,(No (p.1=q.1)&&No (p.2=q.2))=u9 p q:=λ_ _=>rfl;have i:=λp q r=>FH p q r;have j:=λp q r=>M8 p q r;have k:=λp q r s=>bp3 p q r s;simp only[bT,bo2,e,i,j,k,aP3];cases h:(d' a&&d' b&&d' c&&d' d)with
 |false=>simp
 |true=>
  cases u9 a b with
  |true=>cases n' c d a<;>simp
  |false=>
   cases u9 c d with
   |true=>cases n' a b c<;>simp
   |false =>by_cases h1:l7 a b c=0;by_cases h2:l7 a b d=0;simp[h1,h2];by_cases f:l7 c d a*l7 c d b<=0<;>simp[h1,h2,f];by_cases g:l7 a b c*l7 a b d<=0;by_cases f:l7 c d a*l7 c d b<=0<;>simp[h1,g,f];simp[h1,g]
def oQ(o p:bs):Bool:=No (p.2<o.2)||(No (p.2=o.2)&&No (p.1<o.1))
def bG7(o p:bs):Bn (o,p)=Z (oQ o p):=by unfold Bn oQ;cases No (p.2<o.2)<;>cases No (p.2=o.2)<;>rfl
def oo(o a b:bs):Bool:=(d' o&&d' a&&d' b)&&(!u9 a o&&(!u9 b o&&(ite (oQ o a=oQ o b) (No (0<fr o a b)) <|oQ o b)))
def bJ5(o a b:bs):BC (o,a,b)=Z (oo o a b):=by
 unfold BC oo;have e:∀p q:bs,(No (p.1=q.1)&&No (p.2=q.2))=u9 p q:=λ_ _=>rfl;have c:=λp q=>bG7 p q;simp only[ GS,e,c];cases h:(d' o&&d' a&&d' b)with
 |false=>simp
 |true =>simp only[ab]at h;have d:=Fa o a b h.1.1 h.1.2 h.2;simp only[ d];cases u9 a o<;>cases u9 b o<;>cases oQ o a<;>cases oQ o b<;>simp
def na(ag:hI)(id:Int):Nat:=(ag.map λa=>(ite (a.2.1=id) 1 0)+(ite (a.2.2.1=id) 1 0)).sum
def MR(al:gp)(ag:hI)(fs:eD)(id:Int)(ha:aa ag<=1000000):Df ((al,ag,fs),id)=Z ((na ag id:Nat):Int):=by
 unfold Df;simp[bT];refine(vF (A:=Nat) ag (λi a=>((i:Int),(a:Int))) (λa rest=>Z ((a+na rest id:Nat):Int)) (λi a=>a<=2*i) (by omega) ?_ ?_ 0 (by omega)).trans (by simp);intro rec a c;simp[na];intro rec i a x rest a7 c hd b;have d:=f' a7 (show aa ag<2^62 by omega);have e:ek ((a:Int)+1)=((a+1:Nat):Int):=by rw[fx];omega
 have f:ek (((a+1:Nat):Int)+1)=((a+2:Nat):Int):=by rw[fx];omega
 simp only[fB a7,b6,fm hd,bT,d,e,f];by_cases h1:x.2.1=id<;>by_cases h2:x.2.2.1=id;simp only[h1,h2,l6,b6];rw[b _ (by omega)];simp only[na,aD,dK,h1,h2,vE];congr 2;omega;simp only[h1,h2,l6,n4,b6,bu];rw[b _ (by omega)];simp only[na,aD,dK,h1,h2,vE,l4];congr 2;omega;simp only[h1,h2,l6,n4,b6,bu];rw[b _ (by omega)];simp only[na,aD,dK,h1,h2,vE,l4];congr 2;omega;simp only[h1,h2,l6,n4,b6,bu];rw[b _ (by omega)];simp only[na,aD,dK,h1,h2,vE,l4];congr 2;omega
def qM:eD->Bool
 | []=>Y
 | [_]=>Y
 |a::b::l=>No (a<b)&&qM (b::l)
def MD(xs:eD)(hl:aa xs<2^62):C9 xs=Z (qM xs):=by
 unfold C9;cases xs;exact Dh λrec=>by simp[qM]
 rename_i y ys;simp[aA]at hl;refine(vF (A:=Int) ys (λi a=>((i:Int)+1)) (λa rest=>Z (qM (a::rest))) ((y::ys)[·]?=Z ·) (by omega) ?_ ?_ y rfl).trans rfl;intro rec a b;simp[qM];intro rec i a x rest a7 b hd d;have e:No ((i:Int)+1<((aa (y::ys):Nat):Int))=Y:=by simp[aA,kA];omega
 have f:ek ((i:Int)+1-1)=((i:Nat):Int):=by rw[fx];omega
 have g:ek ((i:Int)+1+1)=((i+1:Nat):Int)+1:=by rw[fx];omega
 have c:nth (y::ys) ((i:Int)+1)=Z x:=by
  have:((i:Int)+1)=((i+1:Nat):Int):=by omega
  rw[this,zB,aK,<-zB,fm hd]
 simp only[bT,e,b6,f,zB,b,c,g];have j:(y::ys)[i+1]?=Z x:=by rw[<-zB];rw[<-c];congr 1
 rw[d x j];by_cases h:x<=a;have:¬a<x:=by omega
 simp[h,qM,this];have:a<x:=by omega
 simp[h,qM,this]
def pathOf(al:gp)(ag:hI)(id:Int):dv eY:=match px ag id with
 |none=>W
 |some a=>match nQ al a.2.1,nQ al a.2.2.1 with
  |some f,Z t=>Z (f.2::(a.2.2.2.1++[t.2]))
  |_,_=>W
def aZ8{α:Type}{z:α}{n:Int}(a:0<n)(h1:n<=1000000):GZ 16 z n=Z (List.replicate n.toNat z):=by
 unfold GZ;have b:No (ek n=n)=Y:=by rw[fx];simp
 have c:No (0<n)=Y:=by simpa using a
 have d:No ((2*n.toNat+1000)*16<=2^48)=Y:=by simp[kA];omega
 have e:No (n.toNat<=2^62)=Y:=by simp[kA];omega
 rw[b,c,d,e];rfl
theorem FG{ag:hI}{id:Int}{a:ct}(h:px ag id=Z a):a∈ag:=bh h
def V1(al:gp)(ag:hI)(fs:eD)(id:Int)(m:aa al<=1000000)(ha:aa ag<=1000000)(hv:∀a∈ag,aa a.2.2.2.1<=900000) :
  wE ((al,ag,fs),id)=Z (match pathOf al ag id with|some l=>(l,0)|none=>([],7)):=by
 unfold wE;simp only[WI al ag fs _ (show aa ag<2^62 by omega) (λa h=>by have:=hv a h;omega),M9 al ag fs _ (show aa al<2^62 by omega),bT];unfold pathOf;cases c:px ag id with
 |none=>simp
 |some a=>
  have b:=hv a (FG c);simp only[ar,bu];cases dC:nQ al a.2.1 with
  |none=>simp
  |some f=>
   simp only[ar,bu];cases cb:nQ al a.2.2.1 with
   |none=>simp
   |some t=>
    simp only[ar,bu];generalize n:a.2.2.2.1=via at b;have d:ek (1+(aa via:Int))=1+aa via:=fx;have e:ek (1+(aa via:Int)+1)=aa via+2:=by rw[fx];omega
    have g:No (1+(aa via:Int)<0)=U:=by simp[sG];omega
    have i:No ((aa via:Int)+2<0)=U:=by simp[sG];omega
    have j:ek ((aa via:Int)+2-0)=aa via+2:=by rw[fx];omega
    have k:No (0<(aa via:Int)+2)=Y:=by simp[kA];omega
    simp only[d,e,g,i,j,k,bu,b6];rw[aZ8 (by omega) (by omega)];simp[bT];rw[m9 (by omega) (by simp)];simp[bT,br];rw[m9];simp[bT];rw[m9];simp
def Ya{al:gp}{ag:hI}{id:Int}{l:eY}(h:pathOf al ag id=Z l):∃a,px ag id=Z a/\aa l=aa a.2.2.2.1+2:=by unfold pathOf at h;split at h;cases h;rename_i a ha;split at h;cases h;exact⟨a,ha,by simp⟩;cases h
def qL(n:Int):Bool:=No (1<=n)&&No (n<=1073741824)
def Mx(xs:eD)(hl:aa xs<2^62):C7 xs=Z (xs.all qL):=by
 unfold C7;have h1:∀n,Ii n=Z (!(qL n)):=λn=>by
  unfold Ii qL;by_cases h1:n<1;have:¬ 1<=n:=by omega
  simp[h1,this];have b:1<=n:=by omega
  by_cases h2:1073741824<n;have:¬n<=1073741824:=by omega
  simp[h1,h2,b,this];have:n<=1073741824:=by omega
  simp[h1,h2,b,this]
 have h2:G9 (xs,())=Z (!(xs.all qL)):=by unfold G9;simp;refine(mP (A:=Unit) xs (λi _=>(i:Int)) (λ_ rest=>Z (!(rest.all qL))) (by omega) ?_ ?_ ()).trans rfl;intro rec a;simp;intro rec i a x rest a7 hd c;simp only[fB a7,b6,fm hd,bT,f' a7 hl,h1];rw[c ()];cases h:qL x<;>simp[bE,h]
 simp[h2,bT,Bool.not_not]
def yU(p:bs):Bool:=No (-1048576<=p.1)&&No (p.1<=1048576)&&No (-1048576<=p.2)&&No (p.2<=1048576)
def rS{p:bs}(h:yU p=Y):d' p=Y:=by simp[yU,ab,kA]at h;rw[wH];omega
def Vl(p:bs):C8 p=Z (!(yU p)):=by
 unfold C8 yU;by_cases h1:p.1 < -1048576;have:¬ -1048576<=p.1:=by omega
 simp[h1,this];by_cases h2:1048576<p.1;have:¬p.1<=1048576:=by omega
 simp[h1,h2,this];by_cases a:p.2 < -1048576;have:¬ -1048576<=p.2:=by omega
 simp[h1,h2,a,this];have c:-1048576<=p.1:=by omega
 have a2:p.1<=1048576:=by omega
 have a3:-1048576<=p.2:=by omega
 by_cases b:1048576<p.2;have:¬p.2<=1048576:=by omega
 simp[h1,h2,a,b,this];have:p.2<=1048576:=by omega
 simp[h1,h2,a,b,c,a2,a3,this]
def bo4(l:eY)(hl:aa l<2^62):G5 (l,())=Z (!(l.all yU)):=by unfold G5;simp;refine(mP (A:=Unit) l (λi _=>(i:Int)) (λ_ rest=>Z (!(rest.all yU))) (by omega) ?_ ?_ ()).trans rfl;intro rec a;simp;intro rec i a x rest a7 hd b;have e:C8 x=Z (!(yU x)):=Vl x;simp only[fB a7,b6,fm hd,bT,f' a7 hl,e];rw[b ()];cases h:yU x<;>simp[bE,h]
def bp8(al:gp)(ag:hI)(fs:eD)(c:aa al<=1000000)(ha:aa ag<=1000000)(hv:∀a∈ag,aa a.2.2.2.1<=900000) :
  IM (al,ag,fs)=Z ((al.all λn=>yU n.2)&&(ag.all λa=>a.2.2.2.1.all yU)):=by
 unfold IM;simp;refine(mP (A:=Unit) al (λi _=>(i:Int)) (λ_ rest=>Z ((rest.all λn=>yU n.2)&&(ag.all λa=>a.2.2.2.1.all yU))) (by omega) ?_ ?_ ()).trans rfl;intro rec a;simp[bu,dD,bQ];refine(mP (A:=Unit) ag (λi _=>(i:Int)) (λ_ rest=>Z (rest.all λa=>a.2.2.2.1.all yU)) (by omega) ?_ ?_ ()).trans rfl;intro rec a;simp;intro rec i a x rest a7 hd b;have d:=hv x (rl hd).2.2;simp only[fB a7,b6,fm hd,bT,f' a7 (show aa ag<2^62 by omega),bo4 x.2.2.2.1 (by omega)];rw[b ()];cases h:x.2.2.2.1.all yU<;>simp[h];intro rec i a x rest a7 hd b;simp only[fB a7,b6,fm hd,bT,f' a7 (show aa al<2^62 by omega),Vl];rw[b ()];cases h:yU x.2<;>simp[h]
def GH(n m:b9):Bool:=u9 n.2 m.2
def sC:gp->gp->Bool
 |_,[]=>U
 |pre,n::rest=>pre.any (GH n)||sC (pre++[n]) rest
def vP(al:gp)(ag:hI)(fs nodes:eD):Int :=cond (sC [] al) 8 <|cond (ag.any (λa=>!(No (a.2.1∈nodes)&&No (a.2.2.1∈nodes)))) 7 <|cond (ag.any (λa=>!((No (a.2.2.2.2.1=0)||No (a.2.2.2.2.1∈fs))&&(No (a.2.2.2.2.2=0)||No (a.2.2.2.2.2∈fs))))) 12 0
def bm1(al:gp)(ag:hI)(fs nodes:eD)(s:aa al<=1000000)(ha:aa ag<=1000000)(hf:aa fs<=1000000)(m:aa nodes<=1000000) :
  Is ((al,ag,fs),nodes)=Z (vP al ag fs nodes):=by
 have c:∀y,wo (nodes,y)=Z (No (y∈nodes)):=λy=>HC nodes y (by omega);have d:∀y,wo (fs,y)=Z (No (y∈fs)):=λy=>HC fs y (by omega);unfold Is;simp only[bT,c,d];refine(mP (A:=Unit) al (λi _=>(i:Int)) (λ_ rest=>Z (cond (sC (al.take (aa al-aa rest)) rest) 8 <|cond (ag.any (λa=>!(No (a.2.1∈nodes)&&No (a.2.2.1∈nodes)))) 7 <|cond (ag.any (λa=>!((No (a.2.2.2.2.1=0)||No (a.2.2.2.2.1∈fs))&&(No (a.2.2.2.2.2=0)||No (a.2.2.2.2.2∈fs))))) 12 0)) (by omega) ?_ ?_ ()).trans (by simp[vP])
 .intro rec u
  simp only[kj,bu,sC,bu];refine(mP (A:=Unit) ag (λi _=>(i:Int)) (λ_ rest=>Z (cond (rest.any (λa=>!(No (a.2.1∈nodes)&&No (a.2.2.1∈nodes)))) 7 <|cond (ag.any (λa=>!((No (a.2.2.2.2.1=0)||No (a.2.2.2.2.1∈fs))&&(No (a.2.2.2.2.2=0)||No (a.2.2.2.2.2∈fs))))) 12 0)) (by omega) ?_ ?_ ()).trans rfl
  .intro rec u
   simp only[kj,bu,List.any_nil,bu];refine(mP (A:=Unit) ag (λi _=>(i:Int)) (λ_ rest=>Z (cond (rest.any (λa=>!((No (a.2.2.2.2.1=0)||No (a.2.2.2.2.1∈fs))&&(No (a.2.2.2.2.2=0)||No (a.2.2.2.2.2∈fs))))) 12 0)) (by omega) ?_ ?_ ()).trans rfl
   .intro rec u
    simp
   intro rec i u x rest a7 hd b;simp only[fB a7,b6,fm hd,bT,f' a7 (show aa ag<2^62 by omega)];rw[b ()]
   grind
  intro rec i u x rest a7 hd b;simp only[fB a7,b6,fm hd,bT,f' a7 (show aa ag<2^62 by omega)];rw[b ()]
  grind
 intro rec i u x rest a7 hd b;have n:=rl hd;have o:aa al-aa (x::rest)=i:=by simp;omega
 have p:aa al-aa rest=i+1:=by omega
 have q:al.take (i+1)=al.take i++[x]:=by grind
 simp only[fB a7,b6,fm hd,bT,f' a7 (show aa al<2^62 by omega),N0 (mi a7)];simp only[o,sC];have e:=b ();rw[p,q]at e;have f:aa (al.take i)<2^62:=by simp;omega
 refine(mP (A:=Unit) (al.take i) (λi _=>(i:Int)) (λ_ k=>Z (cond (k.any (GH x)||sC (al.take i++[x]) rest) 8 <|cond (ag.any (λa=>!(No (a.2.1∈nodes)&&No (a.2.2.1∈nodes)))) 7 <|cond (ag.any (λa=>!((No (a.2.2.2.2.1=0)||No (a.2.2.2.2.1∈fs))&&(No (a.2.2.2.2.2=0)||No (a.2.2.2.2.2∈fs))))) 12 0)) (by omega) ?_ ?_ ()).trans rfl
 .grind
 intro l j u y k hj g h;have r:(No (x.2.1=y.2.1)&&No (x.2.2=y.2.2))=GH x y:=rfl;simp only[fB hj,b6,fm g,bT,f' hj f,r];rw[h ()]
 grind
abbrev Hu:=Int×Int×Int×eY×Int×Int×eY
abbrev fy:=Hu×Int
def Hu.path(l:Hu):eY:=l.2.2.2.2.2.2
def rT(a:ct)(l:eY):Hu:=(a.1,a.2.1,a.2.2.1,a.2.2.2.1,a.2.2.2.2.1,a.2.2.2.2.2,l)
def pf(a:ct)(l:eY):cu fy:=(aT (aa l-1)).map λ(i:Nat)=>(rT a l,(i:Int))
def qt:eY->Bool
 | []=>Y
 | [_]=>Y
 |p::q::l=>!(u9 p q)&&qt (q::l)
def zb(al:gp)(ag:hI):hI->dv (cu fy)
 | []=>Z []
 |a::b=>match pathOf al ag a.1 with
  |none=>W
  |some l=>cond ((a.2.1=a.2.2.1&&aa l<4)||!(qt l)) W <|match zb al ag b with
   |some r=>Z (pf a l++r)
   |none=>W
def bb0{β:Type}(a:ct)(l:eY)(acc:cu fy)(K:cu fy×Int->dv β)(bad:β)(hl:aa l<=1000000)(f:2<=aa l)(w:aa acc<=300000000) :
  rounds (α:=cu ((Int×Int×Int×eY×Int×Int×eY)×Int)×Int) (β:=β) (λk x=>
    a8 (Z (No (x.2<ek ((aa l:Int)-1)))) λg=>
    cond g (
     a8 (nth l x.2) λm=>
     a8 (Z (ek (x.2+(1:Int)))) λn=>
     a8 (nth l n) λo=>
     a8 (Z ((λ(a b:Int×Int)=>(No (a.1=b.1)&&No (a.2=b.2))) m o)) λq=>
     cond q (
     Z bad) (
     a8 (j6 16 x.1 [((a.1,a.2.1,a.2.2.1,a.2.2.2.1,a.2.2.2.2.1,a.2.2.2.2.2,l),x.2)]) λr=>
     a8 (Z (ek (x.2+(1:Int)))) λt=>
     k (r,t))) <|K x) (acc,(0:Int))=bif qt l then K (acc++pf a l,(aa l:Int)-1)else Z bad:=by
 cases l;simp at f;rename_i p c;simp only[aA]at hl f;have C:ek ((aa (p::c):Nat)-1:Int)=(aa c:Int):=by rw[aA,fx];omega
 simp only[bT,C];refine(vF (A:=cu fy) c (λi s=>(s,(i:Int))) (λs rest=>cond (qt ((p::c).drop (aa c-aa rest))) (K (acc++pf a (p::c),(aa c:Int))) <|some bad)
  (λi s=>s=acc++(aT i).map λ(j:Nat)=>(rT a (p::c),(j:Int))) (by omega) ?_ ?_ acc (by simp)).trans (by
   have:((aa (p::c):Nat):Int)-1=aa c:=by rw[aA];omega
   rw[this];simp)
 intro rec s hs;have u:qt ((p::c).drop (aa c))=Y:=by
  have:aa ((p::c).drop (aa c))=1:=by simp
  match h:(p::c).drop (aa c),this with
  | [x],_=>rfl
 simp only[kj,cP,Nat.sub_zero,u];subst hs;rfl;intro rec i s x rest a7 z hd D;have E:=rl hd;have e:aa c-aa (x::rest)=i:=by simp;omega
 have d:aa c-aa rest=i+1:=by omega
 have u:nth (p::c) (i:Int)=Z ((p::c)[i]'(by simp;omega)):=by rw[zB];exact af _
 have G:nth (p::c) ((i+1:Nat):Int)=Z x:=by rw[zB,aK,<-zB];exact fm hd
 have H:=f' a7 (show aa c<2^62 by omega);have B:(p::c).drop (i+1)=x::rest:=by simpa using hd
 have v:(p::c).drop i=(p::c)[i]'(by simp;omega)::x::rest:=by rw[bJ (by simp;omega),B]
 rw[e,v];have hlen:aa s<=300000000+i:=by rw[z];simp;omega
 simp only[fB a7,u,H,G];rw[m9];have I:(No (((p::c)[i]'(by simp;omega)).1=x.1)&&No (((p::c)[i]'(by simp;omega)).2=x.2))=u9 ((p::c)[i]'(by simp;omega)) x:=rfl;simp only[bT,I];rw[D _ (by rw[z,ja,ez];simp[rT]),d,B];simp only[qt];cases u9 ((p::c)[i]'(by simp;omega)) x<;>simp
structure vv(s:fy):Prop where
 b7:0<=s.2
 a7:s.2+1<aa s.1.path
 len:aa s.1.path<=1000000
def hi(s:fy):bs:=(s.1.path[s.2.toNat]?).getD (0,0)
def gl(s:fy):bs:=(s.1.path[s.2.toNat+1]?).getD (0,0)
def Ge{s:fy}(h:vv s):uh s=Z (hi s,gl s):=by
 let ⟨l,i⟩:=s;let ⟨h1,h2,a⟩:=h;simp only at h1 h2 a;unfold uh hi gl;have b:ek (i+1)=i+1:=fx;have c:nth l.path i=Z (l.path[i.toNat]'(by omega)):=by rw[aD4 h1];exact af _
 have d:nth l.path (i+1)=Z (l.path[i.toNat+1]'(by omega)):=by
  rw[aD4 (by omega)];have:(i+1).toNat=i.toNat+1:=by omega
  rw[this];exact af _
 simp only[ b];show a8 (nth l.path i) _=_;rw[c];show a8 (nth l.path (i+1)) _=_;rw[d];have e:l.path[i.toNat]?=Z (l.path[i.toNat]'(by omega)):=af _;have f:l.path[i.toNat+1]?=Z (l.path[i.toNat+1]'(by omega)):=af _;rw[e,f];rfl
def qu(s:fy):Int:=min (hi s).1 (gl s).1
def Co(s:fy):Int:=max (hi s).1 (gl s).1
def PR{s:fy}(h:vv s):yj s=Z (qu s):=by unfold yj;have:=Ge h;simp only[this,KS];rfl
def aY0{s:fy}(h:vv s):EY s=Z (Co s):=by unfold EY;have:=Ge h;simp only[this,yP];rfl
def tP(s:fy):Bool:=No (s.2=0)
def th(s:fy):Bool:=No (s.2=(aa s.1.path:Int)-2)
def aq6(s:fy):yd s=Z (tP s):=by unfold yd tP;simp
def P8{s:fy}(h:vv s):wq s=Z (th s):=by unfold wq th;have hl:=h.len;have e:ek ((aa s.1.path:Int)-2)=(aa s.1.path:Int)-2:=fx;show Z (No (s.2=ek ((aa s.1.path:Int)-2)))=_;rw[e]
def xw{a:ct}{l:eY}{s:fy}(h:s∈pf a l):∃i:Nat,i+1<aa l/\s=(rT a l,(i:Int)):=by obtain⟨i,a7,rfl⟩:=aN.1 h;rw[gf]at a7;exact⟨i,by omega,rfl⟩
def aK2{a:ct}{l:eY}(hl:aa l<=1000000){s:fy}(h:s∈pf a l):vv s:=by obtain⟨i,a7,rfl⟩:=xw h;exact⟨by simp,by show((i:Int)+1<(aa l:Int));omega,hl⟩
def Bt{al:gp}{ag:hI}:∀ {l:hI} {r:cu fy},zb al ag l=Z r->∀s∈r,∃a∈l,∃p,pathOf al ag a.1=Z p/\s∈pf a p
 | [],r,h,s,hs=>by simp[zb]at h;subst h;simp at hs
 |a::l,r,h,s,hs=>by
  unfold zb at h;split at h;cases h;rename_i p hp;cases hc:((No (a.2.1=a.2.2.1)&&No (aa p<4))||!(qt p))with
  |true=>rw[hc]at h;cases h
  |false=>
   rw[hc]at h;split at h;rename_i d b;cases h;rcases aV.1 hs with hs|hs
   exact⟨a,by simp,p,hp,hs⟩;let ⟨c,h1,h2⟩:=Bt b s hs;exact⟨c,by simp[h1],h2⟩;cases h
def mkMap(al:gp)(m:cu (Int×bs)):cu (Int×bs):=al.foldl (λm n=>wC (λ(a b:Int)=>No (a=b)) n.1 n.2 m) m
abbrev gd:Int->Int->Bool:=λa b=>No (a=b)
def Eh(a b:Int):gd a b=No (a=b):=rfl
theorem rV{V:Type}(k a:Int)(v:V):∀m:cu (Int×V),fh gd k (wC gd a v m)=if k=a then Z v else fh gd k m
 | []=>by by_cases h:k=a<;>simp[wC,fh]
 |p::m=>by have b:=rV k a v m;simp only[wC];by_cases h1:a=p.1;simp only[h1,l6,b6,fh,Eh];by_cases h:k=p.1<;>simp[h];simp only[h1,n4,bu,fh,Eh];by_cases h:k=p.1;simp[h];exact λe=>b8 e.symm h1;simp[h];exact b
theorem Ja(k:Int):∀(al:gp) (m:cu (Int×bs)),(∀n∈al,k≠n.1)->fh gd k (mkMap al m)=fh gd k m
 | [],m,_=>rfl
 |n::al,m,h=>by have a:=Ja k al (wC gd n.1 n.2 m) (λx b=>h x (by simp[b]));show fh gd k (mkMap al (wC gd n.1 n.2 m))=_;rw[a,rV,cc (h n (by simp))]
def nv(m:cu (Int×bs))(id:Int):bs:=(fh gd id m).getD (0,0)
def qx(s t:fy)(m:cu (Int×bs)):Bool :=
 let c:=oK (hi s) (gl s) (hi t) (gl t)
 bif No (s.1.1=t.1.1)then
  (cond (t.2<s.2) (cond (t.2+1=s.2||(t.1.2.1=t.1.2.2.1&&(tP t&&th s))) (No (c=1)) <|No (c=0)) (cond (s.2+1=t.2||(s.1.2.1=s.1.2.2.1&&(tP s&&th t))) (No (c=1)) <|No (c=0)))else cond (c=1) (((No (s.1.2.1=t.1.2.1)||No (s.1.2.1=t.1.2.2.1))&&(n' (hi s) (gl s) (nv m s.1.2.1)&&n' (hi t) (gl t) (nv m s.1.2.1))) ||
  ((No (s.1.2.2.1=t.1.2.1)||No (s.1.2.2.1=t.1.2.2.1))&&(n' (hi s) (gl s) (nv m s.1.2.2.1)&&n' (hi t) (gl t) (nv m s.1.2.2.1)))) <|No (c=0)
def aE5(m:cu (Int×bs))(id:Int):oD (fh (λ(a b:Int)=>No (a=b)) id m) (Z ((0:Int),(0:Int)))=Z (nv m id):=by unfold nv;cases fh gd id m<;>rfl
def bG0{s t:fy}(hs:vv s)(e:vv t)(m:cu (Int×bs)):E_ (s,t,m)=Z (qx s t m):=by have f:=hs.a7;have g:=e.a7;have h:=hs.len;have i:=e.len;have j:=hs.b7;have k:=e.b7;have l:=Ge hs;have n:=Ge e;have o:=λa b c d=>bJ6 a b c d;have p:=λa b c=>FH a b c;have q:=λs=>aq6 s;have r:=P8 hs;have u:=P8 e;have v:ek (t.2+1)=t.2+1:=fx;have w:ek (s.2+1)=s.2+1:=fx;unfold E_ qx;simp only[l,n,o,p,q,r,u,v,w,bT,aE5];generalize oK (hi s) (gl s) (hi t) (gl t)=c;generalize n' (hi s) (gl s) (nv m s.1.2.1)=o1;generalize n' (hi t) (gl t) (nv m s.1.2.1)=o2;generalize n' (hi s) (gl s) (nv m s.1.2.2.1)=o3;generalize n' (hi t) (gl t) (nv m s.1.2.2.1)=o4;generalize tP s=f1;generalize tP t=f2;generalize th s=l2;generalize th t=x8;generalize No (s.1.2.1=t.1.2.1)=d1;generalize No (s.1.2.1=t.1.2.2.1)=d2;generalize No (s.1.2.2.1=t.1.2.1)=d3;generalize No (s.1.2.2.1=t.1.2.2.1)=d4;generalize No (c=1)=c1;generalize No (t.2+1=s.2)=g1;generalize No (s.2+1=t.2)=g2;generalize No (s.1.2.1=s.1.2.2.1)=g3;generalize No (t.1.2.1=t.1.2.2.1)=g4;generalize No (t.2<s.2)=g5;cases No (s.1.1=t.1.1);cases c1;rfl;cases d1<;>cases d2<;>cases d3<;>cases d4<;>cases o1<;>cases o2<;>cases o3<;>cases o4<;>rfl;cases g5;cases g2<;>cases g3<;>cases f1<;>cases x8<;>rfl;cases g1<;>cases g4<;>cases f2<;>cases l2<;>rfl
open Go.Proofs Go.Shelf Go.Sort
def A_(a b:Int):Int:=ite (a<b) (-1) <|ite (b<a) 1 0
def cmp_eq(a b:Int):CG (a,b)=Z (A_ a b):=by
 have h:∀n,Ey n=Z U:=λn=>by unfold Ey;simp
 unfold CG A_;simp only[h];by_cases h1:a<b;simp[h1];by_cases h2:b<a<;>simp[h1,h2]
theorem uk{a b:Int}:A_ a b<0↔a<b:=by unfold A_;by_cases h1:a<b;simp[h1];by_cases h2:b<a<;>simp[h1,h2]
def p2(s t:fy):Int:=A_ (qu s) (qu t)
def vA(l:cu fy):Ordered p2 l :=IX (λx _=>by unfold p2;rw[uk];omega) (λx _ y _ z _ a b=>by unfold p2 at *;rw[uk]at *;omega) (λx _ y _ z _ a b=>by unfold p2 at *;rw[uk]at *;omega)
def bK3{l:cu fy}(hs:∀s∈l,vv s)(hl:aa l<4611686018427387904):G8 (l,2,())=Z (oy p2 l):=by refine Jw (λx a y b=>?_) (vA l) hl;unfold Iw;have c:=PR (hs x a);have d:=PR (hs y b);simp only[c,d,cmp_eq];rfl
def p6(s:fy)(n:b9):Bool:=!(n' (hi s) (gl s) n.2)||((tP s&&No (s.1.2.1=n.1))||(th s&&No (s.1.2.2.1=n.1)))
def wU(s:fy)(m:cu (Int×bs)):cu fy->Bool
 | []=>Y
 |t::r=>cond (Co s<qu t) Y <|qx s t m&&wU s m r
def tV(al:gp)(m:cu (Int×bs)):cu fy->Bool
 | []=>Y
 |s::r=>wU s m r&&(al.all (p6 s)&&tV al m r)
def u_(al:gp)(ag:hI):Bool:=match zb al ag ag with
 |none=>U
 |some l=>tV al (mkMap al []) (oy p2 l)
def aJ3(al:gp)(I:aa al<=1000000){s:fy}(hs:vv s)(K:dv Bool) :
  rounds (α:=Int) (β:=Bool) (λk x=>
   a8 (Z (No (x<(aa al:Int)))) λp=>
   cond p (
    a8 (nth al x) λe=>
    a8 (uh s) λn=>
    a8 (qV (n.1,n.2,e.2)) λq=>
    cond q (
    a8 (yd s) λg=>
    cond g (
     a8 (Z s.1) λh=>
     a8 (Z (No (h.2.1=e.1))) λr=>
     a8 (Z (!(r))) λj=>
     cond j (
     a8 (wq s) λd=>
     cond d (
      a8 (Z s.1) λm=>
      a8 (Z (No (m.2.2.1=e.1))) λt=>
      a8 (Z (!(t))) λv=>
      cond v (
      Z U) (
      a8 (Z (ek (x+(1:Int)))) λw=>
      k w)) (
      Z U)) (
     a8 (Z (ek (x+(1:Int)))) λd=>
     k d)) (
     a8 (wq s) λh=>
     cond h (
     a8 (Z s.1) λz=>
     a8 (Z (No (z.2.2.1=e.1))) λj=>
     a8 (Z (!(j))) λd=>
     cond d (
      Z U) (
      a8 (Z (ek (x+(1:Int)))) λm=>
      k m)) (
     Z U))) (
    a8 (Z (ek (x+(1:Int)))) λg=>
    k g)) K) (0:Int)=bif al.all (p6 s)then K else Z U:=by
 have B:=Ge hs;have C:=λa b c=>FH a b c;have D:=aq6 s;have E:=P8 hs;refine(mP (A:=Unit) al (λi _=>(i:Int)) (λ_ rest=>cond (rest.all (p6 s)) K <|some U) (by omega) ?_ ?_ ()).trans rfl;simp;intro rec i u x rest a7 hd G;have H:qV (((hi s).1,(hi s).2),((gl s).1,(gl s).2),x.2)=Z (n' (hi s) (gl s) x.2):=C _ _ x.2;simp only[fB a7,fm hd,bT,f' a7 (show aa al<2^62 by omega),B,D,E,H];rw[G (),bE];unfold p6;generalize n' (hi s) (gl s) x.2=o;generalize tP s=f;generalize th s=l;generalize No (s.1.2.1=x.1)=d1;generalize No (s.1.2.2.1=x.1)=d2;cases o<;>cases f<;>cases l<;>cases d1<;>cases d2<;>rfl
theorem Du(a:ct)(l:eY):aa (pf a l)=aa l-1:=by simp[pf]
def bS3(al:gp){β:Type}(k:aa al<=1000000)(K:Int×cu (Int×bs)->dv β) :
  rounds (α:=Int×cu (Int×bs)) (β:=β) (λh d=>
   a8 (Z (No (d.1<(aa al:Int)))) λe=>
   cond e (
   a8 (nth al d.1) λc=>
   a8 (Z (wC (λ(a b:Int)=>No (a=b)) c.1 c.2 d.2)) λf=>
   a8 (Z (ek (d.1+(1:Int)))) λg=>
   h (g,f)) <|K d) ((0:Int),([]:cu (Int×bs)))=K ((aa al:Int),mkMap al []):=by
 refine(mP (A:=cu (Int×bs)) al (λi m=>((i:Int),m)) (λm rest=>K ((aa al:Int),mkMap rest m)) (by omega) ?_ ?_ []).trans rfl;simp[mkMap];intro rec i m x rest a7 hd j;simp only[fB a7,fm hd,bT,f' a7 (show aa al<2^62 by omega)];rw[j];rfl
def bp7(al:gp)(ag:hI)(fs:eD)(hn:aa al<=1000)(ha:aa ag<=1000)(hv:∀a∈ag,aa a.2.2.2.1<=1000):II (al,ag,fs)=Z (u_ al ag):=by
 have f:∀id,wE ((al,ag,fs),id)=Z (match pathOf al ag id with|some l=>(l,0)|none=>([],7)):=λid=>V1 al ag fs id (by omega) (by omega) (λa h=>by have:=hv a h;omega);have g:∀id l,pathOf al ag id=Z l->2<=aa l/\aa l<=1002:=λid l h=>by let ⟨a,h1,h2⟩:=Ya h;have:=hv a (FG h1);omega
 have n:=λK=>bS3 al (β:=Bool) (by omega) K;have alone:=λ(s:fy) (hs:vv s) K=>aJ3 al (by omega) hs K;have b:=λ(a:ct) (l:eY) (acc:cu fy) (h1:aa l<=1000000) (h2:2<=aa l) (P:aa acc<=300000000) K=>bb0 (β:=Bool) a l acc K U h1 h2 P;simp only[bT]at n alone b;unfold II u_;simp only[bT,f];refine(vF (A:=cu fy) ag (λi s=>(s,(i:Int))) (λs rest=>Z (match zb al ag rest with|none=>U|some l=>tV al (mkMap al []) (oy p2 (s++l)))) (λi s=>aa s<=1002*i/\∀x∈s,vv x) (by omega) ?_ ?_ [] ⟨by simp,by simp⟩).trans (by simp);intro rec s E;simp only[kj,bu,zb,ba];refine(n _).trans ?_;let ⟨G,e⟩:=E;have hlen:aa s<=1002000:=by have:1002*aa ag<=1002*1000:=kF _ ha;omega
 simp only[bT,bK3 e (by omega)];have c:=tG (vA s);have k:∀x∈oy p2 s,vv x:=λx m=>e x (c.mem_iff.1 m);have o:aa (oy p2 s)<=1002000:=by rw[c.length_eq];exact hlen
 generalize oy p2 s=l at k o;refine(mP (A:=Unit) l (λi _=>(i:Int)) (λ_ rest=>Z (tV al (mkMap al []) rest)) (by omega) ?_ ?_ ()).trans rfl;intro rec u;simp[tV];intro rec i u x rest a7 hd C;have H:=rl hd;have m:=k x H.2.2;have d:l.drop (i+1)=rest:=by have:=Ar List.tail hd;simpa using this
 have I:tx l (Z ((i+1:Nat):Int)) W=Z rest:=by
  rw[af1 (by omega) (by omega)];have:((i+1:Nat):Int).toNat=i+1:=by omega
  rw[this,d]
 simp only[fB a7,b6,fm hd,bT,f' a7 (show aa l<2^62 by omega),I];have p:∀t∈rest,vv t:=λt q=>k t (by rw[<-d]at q;exact aC q);have hK:∀v,rec v=rec v:=λ_=>rfl;refine(mP (A:=Unit) rest (λj _=>(j:Int)) (λ_ r=>cond (wU x (mkMap al []) r) (cond (al.all (p6 x)) (Z (tV al (mkMap al []) rest)) <|some U) <|some U) (by omega) ?_ ?_ ()).trans ?_;intro w u;simp only[kj,bu,wU,b6];rw[alone x m,C ()];intro w j u t r hj z J;have q:=p t (rl z).2.2;have Q:yj t=Z (qu t):=PR q;have R:EY x=Z (Co x):=aY0 m;have S:E_ (x,t,mkMap al [])=Z (qx x t (mkMap al [])):=bG0 m q _;simp only[fB hj,b6,fm z,bT,f' hj (show aa rest<2^62 by omega),Q,R,S];rw[alone x m,C (),J ()];simp only[wU];generalize No (Co x<qu t)=q5;generalize qx x t (mkMap al [])=nj;cases q5<;>cases nj<;>simp;simp only[tV];generalize wU x (mkMap al []) rest=q5;generalize al.all (p6 x)=nj;cases q5<;>cases nj<;>simp;intro rec i s x rest a7 E hd C;let ⟨G,e⟩:=E;have D:1002*i<=1002*1000:=kF _ (by omega);simp only[fB a7,b6,fm hd,bT,f' a7 (show aa ag<2^62 by omega),zb];cases hp:pathOf al ag x.1 with
 |none=>simp
 |some l=>
  let ⟨M,o⟩:=g _ _ hp;have fin:rec (s++pf x l,((i+1:Nat):Int))=Z (match zb al ag rest with|none=>U|some l'=>tV al (mkMap al []) (oy p2 ((s++pf x l)++l'))):=C _ ⟨by rw[aL,Du];omega,λy B=>by
   rcases aV.1 B with B|B
   exact e y B;exact aK2 (by omega) B⟩
  simp only[l6,ar,bu];have key:=b x l s (by omega) M (by omega) (λs'=>rec (s'.1,((i+1:Nat):Int)));by_cases hc:x.2.1=x.2.2.1;simp only[hc,l6,b6,bQ];by_cases O:aa l<4;have:No ((aa l:Int)<4)=Y:=by simp only[kA];omega
  simp[this,O];have N:No ((aa l:Int)<4)=U:=by simp only[sG];omega
  simp only[N,bu,O,n4,cR];rw[hc]at key;refine key.trans ?_;cases qt l with
  |false=>simp
  |true =>simp only[b6,ar,bu,fin];cases zb al ag rest<;>simp
  simp only[hc,n4,bu,gC,cR];refine key.trans ?_;cases qt l with
  |false=>simp
  |true =>simp only[b6,ar,bu,fin];cases zb al ag rest<;>simp
def wT(al:gp)(ag:hI)(fs:eD):Bool:=No (aa al<=256)&&(No (aa ag<=256)&&(No (aa fs<=64)&&ag.all λa=>No (aa a.2.2.2.1<=64)))
def tJ(al:gp)(ag:hI)(fs:eD):Int :=cond (!(wT al ag fs)) 3 <|cond (!(qM (al.map (·.1))&&(qM (ag.map (·.1))&&qM fs))) 10 <|cond (!((al.map (·.1)).all qL&&((ag.map (·.1)).all qL&&(fs.all qL&&((al.all λn=>yU n.2)&&(ag.all λa=>a.2.2.2.1.all yU)))))) 2 <|cond (!decide (vP al ag fs (al.map (·.1))=0)) (vP al ag fs (al.map (·.1))) <|cond (!(u_ al ag)) 11 0
def VN(al:gp)(ag:hI)(fs:eD):IV (al,ag,fs)=Z (tJ al ag fs):=by
 unfold IV tJ wT;simp only[bT];by_cases h1:aa al<=256;rotate_left
 grind
 by_cases h2:aa ag<=256;rotate_left
 grind
 by_cases c:aa fs<=64;rotate_left
 grind
 have d:No ((256:Int)<(aa al:Int))=U:=by grind
 have a2:No ((256:Int)<(aa ag:Int))=U:=by grind
 have a3:No ((64:Int)<(aa fs:Int))=U:=by grind
 simp only[d,a2,a3,bu,h1,h2,c,l6,bQ];refine(vF (A:=Unit) ag (λi _=>(i:Int)) (λ_ rest=>Z (cond (!(rest.all λa=>No (aa a.2.2.2.1<=64))) 3 <|cond (!(qM (al.map (·.1))&&(qM (ag.map (·.1))&&qM fs))) 10 <|cond (!((al.map (·.1)).all qL&&((ag.map (·.1)).all qL&&(fs.all qL&&((al.all λn=>yU n.2)&&(ag.all λa=>a.2.2.2.1.all yU)))))) 2 <|cond (!decide (vP al ag fs (al.map (·.1))=0)) (vP al ag fs (al.map (·.1))) <|cond (!(u_ al ag)) 11 0)) (λi _=>∀a∈ag.take i,aa a.2.2.2.1<=64) (by omega) ?_ ?_ () (by simp)).trans rfl;intro rec u b;rw[bN]at b;have hv:∀a∈ag,aa a.2.2.2.1<=900000:=λa ha=>by have:=b a ha;omega
 simp only[kj,bu,dD,ar,bk2 al ag fs (by omega) (by omega),bT,MD _ (show aa (al.map (·.1))<2^62 by simp;omega),MD _ (show aa (ag.map (·.1))<2^62 by simp;omega),
  MD fs (by omega),Mx _ (show aa (al.map (·.1))<2^62 by simp;omega),Mx _ (show aa (ag.map (·.1))<2^62 by simp;omega),Mx fs (by omega),bp8 al ag fs (by omega) (by omega) hv,
  bm1 al ag fs (al.map (·.1)) (by omega) (by omega) (by omega) (by simp;omega),bp7 al ag fs (by omega) (by omega) (λa ha=>by have:=b a ha;omega)]
 grind
 intro rec i u x rest a7 b hd f;simp only[fB a7,b6,fm hd,bT,f' a7 (show aa ag<2^62 by omega),bE];by_cases h:aa x.2.2.2.1<=64;have e:No ((64:Int)<(aa x.2.2.2.1:Int))=U:=by grind
 simp only[e,bu,h,l6,bQ];refine f () ?_
 grind
 grind
def tD(u:bs):Prop:=0<u.2\/u.2=0/\0<u.1
def eS(u v:bs):Int:=u.1*v.2-u.2*v.1
def Vb(u v w:bs):v.2*eS u w=u.2*eS v w+w.2*eS u v:=by
 unfold eS
 grind
def bQ2(u v:bs):eS v u=- eS u v:=by
 unfold eS
 grind
theorem aV5(u:bs):eS u u=0:=by have:=bQ2 u u;omega
def as7{u v w:bs}(hu:tD u)(hv:tD v)(hw:tD w)(h1:0<eS u v)(h2:0<eS v w):0<eS u w:=by
 have hid:=Vb u v w;have b:0<=u.2:=by unfold tD at hu;omega
 have c:0<=w.2:=by unfold tD at hw;omega
 rcases hv with hv|⟨hv,d⟩
 by_cases e:0<u.2;have q5:=bR e h2;have nj:=aB c (dL h1);exact bV (a:=v.2) (by omega) hv |> λh=>h
 by_cases f:0<w.2;have q5:=aB b (dL h2);have nj:=bR f h1;exact bV (a:=v.2) (by omega) hv |> λh=>h
 exfalso;have g:w.2=0:=by omega
 have i:0<w.1:=by unfold tD at hw;omega
 have:eS v w=- (v.2*w.1):=by unfold eS;rw[g];omega
 have:=bR hv i;omega;exfalso;have:eS u v=- (u.2*v.1):=by unfold eS;rw[hv];omega
 have:=aB b (dL d);omega
def ag5{u v w:bs}(hu:tD u)(hv:tD v)(hw:tD w)(h1:eS u v<=0)(h2:eS v w<=0):eS u w<=0:=by
 have hid:=Vb u v w;have a:0<=u.2:=by unfold tD at hu;omega
 have b:0<=w.2:=by unfold tD at hw;omega
 rcases hv with hv|⟨hv,c⟩
 have q5:=aB a (show 0<=- eS v w by omega);have nj:=aB b (show 0<=- eS u v by omega);rw[cn]at q5 nj;by_cases h:eS u w<=0;exact h;have:=bR hv (show 0<eS u w by omega);omega;have f:eS v w=v.1*w.2:=by unfold eS;rw[hv];omega
 have d:w.2=0:=by by_cases h:0<w.2;have:=bR c h;omega;omega
 have:eS u w=- (u.2*w.1):=by unfold eS;rw[d];omega
 have e:0<w.1:=by unfold tD at hw;omega
 have:=aB a (dL e);omega
def vec(o p:bs):bs:=(p.1-o.1,p.2-o.2)
def Gi(u:bs):bs:=(-u.1,-u.2)
def Dm(o p:bs)(h:p≠o):oQ o p=U↔tD (vec o p):=by
 unfold oQ tD vec
 grind
def Di(o p:bs)(h:p≠o):oQ o p=Y↔tD (Gi (vec o p)):=by
 unfold oQ tD vec Gi
 grind
def Vc(u v:bs):eS (Gi u) (Gi v)=eS u v:=by unfold eS Gi;simp only[dS]
def uR(o p:bs):Prop:=d' p=Y/\p≠o
theorem BV{o a b:bs}(ho:d' o=Y)(ha:uR o a)(c:uR o b):oo o a b=if oQ o a=oQ o b then No (0<eS (vec o a) (vec o b))else oQ o b:=by
 unfold oo;have d:u9 a o=U:=by
  cases h:u9 a o with
  |false=>rfl
  |true=>exact b8 ((pt a o).1 h) ha.2
 have e:u9 b o=U:=by
  cases h:u9 b o with
  |false=>rfl
  |true=>exact b8 ((pt b o).1 h) c.2
 simp only[ho,ha.1,c.1,d,e,bG,aQ,bQ];rfl
def Nl{o a:bs}(ho:d' o=Y)(ha:uR o a):oo o a a=U:=by grind[BV,aV5]
def Xg{o a b c:bs}(ho:d' o=Y)(ha:uR o a)(g:uR o b)(hc:uR o c)(h1:oo o a b=Y)(h2:oo o b c=Y):oo o a c=Y:=by rw[BV ho ha g]at h1;rw[BV ho g hc]at h2;rw[BV ho ha hc];cases d:oQ o a<;>cases e:oQ o b<;>cases f:oQ o c<;>simp only[d,e,f,vE,l4,aF,kG]at h1 h2⊢;exact hT (as7 ((Dm o a ha.2).1 d) ((Dm o b g.2).1 e) ((Dm o c hc.2).1 f) (pK h1) (pK h2));refine hT ?_;have g1:=pK h1;have g2:=pK h2;rw[<-Vc]at g1 g2⊢;exact as7 ((Di o a ha.2).1 d) ((Di o b g.2).1 e) ((Di o c hc.2).1 f) g1 g2
def bO9{o a b c:bs}(ho:d' o=Y)(ha:uR o a)(g:uR o b)(hc:uR o c)(h1:oo o a b=U)(h2:oo o b c=U):oo o a c=U:=by rw[BV ho ha g]at h1;rw[BV ho g hc]at h2;rw[BV ho ha hc];cases d:oQ o a<;>cases e:oQ o b<;>cases f:oQ o c<;>simp only[d,e,f,vE,l4,aF,kG]at h1 h2⊢;refine fc (λh=>?_);have g1:=of_decide_eq_false h1;have g2:=of_decide_eq_false h2;have:=ag5 ((Dm o a ha.2).1 d) ((Dm o b g.2).1 e) ((Dm o c hc.2).1 f) (by omega) (by omega);omega;refine fc (λh=>?_);have g1:=of_decide_eq_false h1;have g2:=of_decide_eq_false h2;rw[<-Vc]at g1 g2 h;have:=ag5 ((Di o a ha.2).1 d) ((Di o b g.2).1 e) ((Di o c hc.2).1 f) (by omega) (by omega);omega
def bT7{o a b:bs}(ho:d' o=Y)(ha:uR o a)(c:uR o b)(h:oo o a b=Y):oo o b a=U:=by
 cases h2:oo o b a with
 |false=>rfl
 |true=>have:=Xg ho ha c ha h h2;rw[Nl ho ha]at this;cases this
open Go.Proofs Go.Shelf Go.Sort
structure fp(al:List b9)(ag:List ct)(fs:List Int):Prop where
 AD:wT al ag fs=Y
 vL:qM (al.map (·.1))=Y
 rX:qM (ag.map (·.1))=Y
 E8:qM fs=Y
 Oz:(al.map (·.1)).all qL=Y
 Gk:(ag.map (·.1)).all qL=Y
 Oy:fs.all qL=Y
 Yh:(al.all λn=>yU n.2)=Y
 J':(ag.all λa=>a.2.2.2.1.all yU)=Y
 conn:vP al ag fs (al.map (·.1))=0
 FT:u_ al ag=Y
theorem De{al:gp}{ag:hI}{fs:eD}:tJ al ag fs=0↔fp al ag fs:=by
 constructor;intro h;unfold tJ at h;cases h1:wT al ag fs with
 |false=>rw[h1]at h;simp at h
 |true=>
  rw[h1]at h;simp only[ar,bu]at h;cases h2:(qM (al.map (·.1))&&(qM (ag.map (·.1))&&qM fs))with
  |false=>rw[h2]at h;simp at h
  |true=>
   rw[h2]at h;simp only[ar,bu]at h;cases b:((al.map (·.1)).all qL&&((ag.map (·.1)).all qL&&(fs.all qL&&((al.all λn=>yU n.2)&&(ag.all λa=>a.2.2.2.1.all yU)))))with
   |false=>rw[b]at h;simp at h
   |true=>
    rw[b]at h;simp only[ar,bu]at h;by_cases c:vP al ag fs (al.map (·.1))=0;simp only[c,l6,ar,bu]at h;cases d:u_ al ag with
    |false=>rw[d]at h;simp at h
    |true =>simp only[ab]at h2 b;exact⟨h1,h2.1,h2.2.1,h2.2.2,b.1,b.2.1,b.2.2.1,b.2.2.2.1,b.2.2.2.2,c,d⟩
    grind
 intro h;unfold tJ;simp[h.AD,h.vL,h.rX,h.E8,h.Oz,h.Gk,h.Oy,h.Yh,h.J',h.conn,h.FT]
theorem pq:∀ {l:eD},qM l=Y->l.Pairwise (·<·)
 | [],_=>jY
 | [a],_=>by simp
 |a::b::l,h=>by
  simp only[qM,ab,kA]at h;have d:=pq h.2;refine lX (λx c=>?_) d;rcases aG.1 c with rfl|c
  exact h.1;have:=(aU.1 d).1 x c;omega
def M5{α:Type}{f:α->Int}:∀ {l:cu α},(l.map f).Pairwise (·<·)->∀x∈l,l.find? (λy=>No (f y=f x))=Z x
 | [],_,x,a=>by simp at a
 |y::l,h,x,a=>by
  simp only[aD,aU]at h;rw[List.find?_cons];rcases aG.1 a with rfl|a
  simp;have h1:=h.1 (f x) (aX a);have:¬f y=f x:=by omega
  simp only[this,n4];exact M5 h.2 x a
def I5{al:gp}{ag:hI}:∀ {l:hI} {r:cu fy},zb al ag l=Z r->∀a∈l,∃p,pathOf al ag a.1=Z p/\qt p=Y/\(a.2.1=a.2.2.1->4<=aa p)
 | [],r,h,a,ha=>by simp at ha
 |b::l,r,h,a,ha=>by
  unfold zb at h;split at h;cases h;rename_i p hp;cases hc:((No (b.2.1=b.2.2.1)&&No (aa p<4))||!(qt p))with
  |true=>rw[hc]at h;cases h
  |false=>
   rw[hc]at h;simp only[bu]at h;split at h;rename_i d c;rcases aG.1 ha with rfl|ha
   simp only[dM,fG,sG,Bool.not_eq_false']at hc;refine⟨p,hp,hc.2,λe=>?_⟩;rcases hc.1 with h1|h1
   exact b8 e h1;omega;exact I5 c a ha;cases h
def J5:∀ {l:eY} {i:Nat} {p q:bs},qt l=Y->l[i]?=Z p->l[i+1]?=Z q->p≠q
 | [],i,p,q,_,h,_=>by simp at h
 | [a],0,p,q,_,_,h=>by simp at h
 | [a],i+1,p,q,_,h,_=>by simp at h
 |a::b::l,0,p,q,h,h1,h2=>by simp only[qt,ab,Bool.not_eq_true']at h;simp at h1 h2;subst h1;subst h2;intro e;rw[(pt a b).2 e]at h;cases h.1
 |a::b::l,i+1,p,q,h,h1,h2=>by simp only[qt,ab]at h;exact J5 h.2 (by simpa using h1) (by simpa using h2)
namespace fp
variable {al:gp} {ag:hI} {fs:eD} (h:fp al ag fs)
include h
theorem qF:aa al<=256:=by
 have:=h.AD
 grind[wT]
theorem pA:aa ag<=256:=by
 have:=h.AD
 grind[wT]
theorem wX:aa fs<=64:=by
 have:=h.AD
 grind[wT]
theorem q4{a:ct}(ha:a∈ag):aa a.2.2.2.1<=64:=by
 have:=h.AD
 grind[wT,aj]
theorem zD{a:ct}(ha:a∈ag):px ag a.1=Z a:=M5 (f:=λa:ct=>a.1) (pq h.rX) a ha
theorem vm{n:b9}(a:n∈al):nQ al n.1=Z n:=M5 (f:=λn:b9=>n.1) (pq h.vL) n a
theorem num{a:ct}(ha:a∈ag):1<=a.1/\a.1<=1073741824:=by have:=aj.1 h.Gk a.1 (aX ha);simpa[qL]using this
theorem j7:∃r,zb al ag ag=Z r:=by
 have:=h.FT
 grind[u_]
theorem path{a:ct}(ha:a∈ag):∃f t,nQ al a.2.1=Z f/\nQ al a.2.2.1=Z t/\pathOf al ag a.1=Z (f.2::(a.2.2.2.1++[t.2]))/\qt (f.2::(a.2.2.2.1++[t.2]))=Y/\(a.2.1=a.2.2.1->2<=aa a.2.2.2.1):=by
 let ⟨r,b⟩:=h.j7;let ⟨p,h1,h2,d⟩:=I5 b a ha;have c:=h1;unfold pathOf at h1;rw[h.zD ha]at h1
 grind
theorem tt{n:b9}(a:n∈al):yU n.2=Y:=aj.1 h.Yh n a
theorem D0{a:ct}(ha:a∈ag){l:eY}(hl:pathOf al ag a.1=Z l):∀p∈l,yU p=Y:=by
 let ⟨f,t,h1,h2,b,_⟩:=h.path ha;rw[hl]at b;cases b;intro p hp;rcases aG.1 hp with rfl|hp
 exact h.tt (bh h1);rcases aV.1 hp with hp|hp
 exact aj.1 (aj.1 h.J' a ha) p hp;simp at hp;subst hp;exact h.tt (bh h2)
theorem Hz(id:Int):wE ((al,ag,fs),id)=Z (match pathOf al ag id with|some l=>(l,0)|none=>([],7)) :=V1 al ag fs id (by have:=h.qF;omega) (by have:=h.pA;omega) (λa ha=>by have:=h.q4 ha;omega)
theorem Hw(id:Int):xt ((al,ag,fs),id)=Z (match nQ al id with|some n=>(n,Y)|none=>((0,0,0),U)) :=M9 al ag fs id (by have:=h.qF;omega)
theorem Rq(id:Int):BP ((al,ag,fs),id)=Z (match px ag id with|some a=>(a,Y)|none=>((0,0,0,[],0,0),U)) :=WI al ag fs id (by have:=h.pA;omega) (λa ha=>by have:=h.q4 ha;omega)
end fp
def ph(al:gp)(ag:hI)(node:Int)(a:ct):cu (Int×bs):=match pathOf al ag a.1 with
 |none=>[]
 |some l=>(ite (a.2.1=node) [(a.1,(l[1]?).getD (0,0))] [])++(ite (a.2.2.1=node) [(-a.1,(l[aa l-2]?).getD (0,0))] [])
def np(al:gp)(ag:hI)(node:Int)(l:hI):cu (Int×bs):=l.flatMap (ph al ag node)
def A0(o:bs)(m:cu (Int×bs))(d e:Int):Int:=ite (oo o (nv m d) (nv m e)) (-1) <|ite (oo o (nv m e) (nv m d)) 1 0
def aZ1(n:b9)(m:cu (Int×bs))(d e:Int):Bf (d,e,n,m)=Z (A0 n.2 m d e):=by have h1:=λo a b=>bJ5 o a b;have h2:=λa b=>h1 n.2 a b;unfold Bf A0;simp[aE5,h2];cases oo n.2 (nv m d) (nv m e);cases oo n.2 (nv m e) (nv m d)<;>simp;simp
def rv(m:cu (Int×bs))(l:cu (Int×bs)):cu (Int×bs):=l.foldl (λm p=>wC (λ(a b:Int)=>No (a=b)) p.1 p.2 m) m
def WM(k:Int):∀(l:cu (Int×bs)) (m:cu (Int×bs)),(∀p∈l,p.1≠k)->fh gd k (rv m l)=fh gd k m
 | [],m,_=>rfl
 |p::l,m,h=>by have:=WM k l (wC gd p.1 p.2 m) (λq a=>h q (by simp[a]));show fh gd k (rv (wC gd p.1 p.2 m) l)=_;rw[this,rV,cc (λe=>h p (by simp) e.symm)]
theorem E5:∀(l:cu (Int×bs)) (m:cu (Int×bs)),(l.map (·.1)).Nodup->∀p∈l,fh gd p.1 (rv m l)=Z p.2
 | [],m,_,p,hp=>by simp at hp
 |q::l,m,a,p,hp=>by
  simp only[aD,dq]at a;show fh gd p.1 (rv (wC gd q.1 q.2 m) l)=_;rcases aG.1 hp with rfl|hp
  rw[WM p.1 l _ (λx b e=>a.1 (by rw[<-e];exact aX b)),rV,cr rfl];exact E5 l _ a.2 p hp
def LX{n:Int}(h:1<=n/\n<=1073741824):ek (0-n)=-n:=by rw[fx];omega
namespace fp
variable {al:gp} {ag:hI} {fs:eD} (h:fp al ag fs)
include h
theorem Ci(node:Int):∀ {l:hI},(∀a∈l,a∈ag)->(l.map (·.1)).Pairwise (·<·)->((np al ag node l).map (·.1)).Nodup
 | [],_,_=>by simp[np]
 |a::l,hm,hp=>by
  have k:=Ci node (l:=l) (λx c=>hm x (by simp[c])) (by simp only[aD,aU]at hp;exact hp.2);have ha:=h.num (hm a (by simp));have key:∀(b:ct),b∈ag->∀p∈ph al ag node b,p.1=b.1\/p.1=-b.1:=λb d p hp=>by
   unfold ph at hp;split at hp;simp at hp;rcases aV.1 hp with hp|hp
   split at hp<;>simp at hp;exact .inl (by rw[hp]);split at hp<;>simp at hp;exact .inr (by rw[hp])
  have e:np al ag node (a::l)=ph al ag node a++np al ag node l:=rfl;rw[e,ez,dP];refine⟨?_,k,?_⟩;unfold ph;split;simp;by_cases h1:a.2.1=node<;>by_cases h2:a.2.2.1=node<;>simp[h1,h2];omega;intro x c y m n;obtain⟨p,f,rfl⟩:=aN.1 c;obtain⟨q,g,rfl⟩:=aN.1 m;let ⟨b,d,i⟩:=bW.1 g;have j:=hm b (by simp[d]);simp only[aD,aU]at hp;have o:=hp.1 b.1 (aX d);rcases key a (hm a (by simp)) p f with r|r<;>rcases key b j q i with s|s<;>omega
theorem GF{node:Int}{l:hI}(hm:∀a∈l,a∈ag){p:Int×bs}(hp:p∈np al ag node l):∃a∈l,∃q,pathOf al ag a.1=Z q/\((a.2.1=node/\p=(a.1,(q[1]?).getD (0,0)))\/(a.2.2.1=node/\p=(-a.1,(q[aa q-2]?).getD (0,0)))):=by
 let ⟨a,ha,hp⟩:=bW.1 hp;unfold ph at hp;split at hp;simp at hp;rename_i q b;refine⟨a,ha,q,b,?_⟩;rcases aV.1 hp with hp|hp
 split at hp<;>simp at hp;exact .inl ⟨by assumption,hp⟩;split at hp<;>simp at hp;exact .inr ⟨by assumption,hp⟩
theorem Px{n:b9}(g:nQ al n.1=Z n){l:hI}(hm:∀a∈l,a∈ag){p:Int×bs}(hp:p∈np al ag n.1 l):uR n.2 p.2:=by
 let ⟨a,ha,q,i,hc⟩:=h.GF hm hp;let ⟨f,t,h1,h2,j,k,_⟩:=h.path (hm a ha);have b:=h.D0 (hm a ha) i;rw[i]at j;cases j;rcases hc with⟨e,rfl⟩|⟨e,rfl⟩
 rw[e,g]at h1;cases h1;have d:(n.2::(a.2.2.2.1++[t.2]))[0]?=Z n.2:=rfl;obtain⟨x,c⟩:∃x,(n.2::(a.2.2.2.1++[t.2]))[1]?=Z x:=⟨_,af (by simp)⟩;refine⟨?_,?_⟩;rw[c];exact rS (b x (aH c));rw[c];exact λe=>J5 k d c e.symm;rw[e,g]at h2;cases h2;generalize m:f.2::(a.2.2.2.1++[n.2])=L at *;have hlen:aa L=aa a.2.2.2.1+2:=by rw[<-m];simp
 have d:L[aa L-2+1]?=Z n.2:=by
  have:aa L-2+1=aa a.2.2.2.1+1:=by omega
  rw[this,<-m];simp
 obtain⟨x,c⟩:∃x,L[aa L-2]?=Z x:=⟨_,af (by omega)⟩;refine⟨?_,?_⟩;rw[c];exact rS (b x (aH c));rw[c];exact J5 k c d
omit h in
theorem Kz(node:Int):∀(l:hI),aa (np al ag node l)<=2*aa l
 | []=>by simp[np]
 |a::l=>by
  have b:=Kz node l;have e:np al ag node (a::l)=ph al ag node a++np al ag node l:=rfl;have:aa (ph al ag node a)<=2:=by unfold ph;split;simp;by_cases h1:a.2.1=node<;>by_cases h2:a.2.2.1=node<;>simp[h1,h2]
  rw[e,aL,aA];omega
theorem MB{n:b9}(o:nQ al n.1=Z n)(i:n∈al):Ordered (A0 n.2 (rv [] (np al ag n.1 ag))) ((np al ag n.1 ag).map (·.1)):=by
 have j:=h.Ci n.1 (l:=ag) (λ_ ha=>ha) (pq h.rX);have c:∀d∈(np al ag n.1 ag).map (·.1),uR n.2 (nv (rv [] (np al ag n.1 ag)) d):=λd hd=>by obtain⟨p,hp,rfl⟩:=aN.1 hd;unfold nv;rw[E5 _ [] j p hp];exact h.Px o (λ_ ha=>ha) hp
 have ho:=rS (h.tt i);generalize rv [] (np al ag n.1 ag)=m at c;have f:∀d e,A0 n.2 m d e<0↔oo n.2 (nv m d) (nv m e)=Y:=λd e=>by unfold A0;cases oo n.2 (nv m d) (nv m e);cases oo n.2 (nv m e) (nv m d)<;>simp;simp
 refine IX (λx g=>?_) (λx g y k z hz a b=>?_) (λx g y k z hz a b=>?_);rw[f,Nl ho (c x g)];simp;rw[f]at a b⊢;exact Xg ho (c x g) (c y k) (c z hz) a b;rw[f,eT]at a b⊢;exact bO9 ho (c x g) (c y k) (c z hz) a b
def l1(al:gp)(ag:hI)(n:b9):eD:=oy (A0 n.2 (rv [] (np al ag n.1 ag))) ((np al ag n.1 ag).map (·.1))
theorem aG4(node:Int):Fp ((al,ag,fs),node)=Z (match nQ al node with|some n=>l1 al ag n|none=>[]):=by
 have hlen:=h.pA;unfold Fp;simp only[h.Hw];cases o:nQ al node with
 |none=>simp
 |some n=>
  have c:n.1=node:=by have:=eB o;simpa using this
  subst c;have q:=bh o;simp only[ h.Hz];refine(vF (A:=eD×cu (Int×bs)) ag (λi a=>((i:Int),a.1,a.2)) (λa rest=>rE (λd e=>Bf (d,e,n,rv a.2 (np al ag n.1 rest))) (a.1++(np al ag n.1 rest).map (·.1))) (λi a=>aa a.1<=2*i) (by omega) ?_ ?_ ([],[]) (by simp)).trans ?_;intro rec a w;unfold L5;have e:np al ag n.1 []=[]:=rfl;rw[e];simp;have z:rv a.2 []=a.2:=rfl;rw[z];cases rE (λd e=>Bf (d,e,n,a.2)) a.1<;>rfl;intro rec i a x rest a7 w hd m;have r:=(rl hd).2.2;let ⟨f,t,h1,h2,s,B,H⟩:=h.path r;have g:=h.num r;have C:np al ag n.1 (x::rest)=ph al ag n.1 x++np al ag n.1 rest:=rfl;generalize D:f.2::(x.2.2.2.1++[t.2])=L at s B;have E:aa L=aa x.2.2.2.1+2:=by rw[<-D];simp
  have hv:=h.q4 r;obtain⟨q5,j⟩:∃p,L[1]?=Z p:=⟨_,af (by omega)⟩;obtain⟨nj,k⟩:∃p,L[aa L-2]?=Z p:=⟨_,af (by omega)⟩;have u:nth L (1:Int)=Z q5:=by have:=zB L 1;rw[j]at this;exact this
  have G:ek ((aa L:Int)-2)=((aa L-2:Nat):Int):=by rw[fx];omega
  have v:nth L ((aa L-2:Nat):Int)=Z nj:=by rw[zB];exact k
  simp only[fB a7,fm hd,bT,f' a7 (show aa ag<2^62 by omega),s,u,G,v,LX g];have l:ph al ag n.1 x=(ite (x.2.1=n.1) [(x.1,q5)] [])++(ite (x.2.2.1=n.1) [(-x.1,nj)] []):=by unfold ph;rw[s];simp[j,k]
  rw[C,l];by_cases c1:x.2.1=n.1<;>by_cases c2:x.2.2.1=n.1;simp[c1,c2];rw[m9];simp;rw[m9];have:=m (a.1++[x.1]++[-x.1],wC (λ(a b:Int)=>No (a=b)) (-x.1) nj (wC (λ(a b:Int)=>No (a=b)) x.1 q5 a.2)) (by simp;omega);refine this.trans ?_;simp[rv];simp[c1,c2];rw[m9];have:=m (a.1++[x.1],wC (λ(a b:Int)=>No (a=b)) x.1 q5 a.2) (by simp;omega);refine this.trans ?_;simp[rv];simp[c1,c2];rw[m9];have:=m (a.1++[-x.1],wC (λ(a b:Int)=>No (a=b)) (-x.1) nj a.2) (by simp;omega);refine this.trans ?_;simp[rv];simp[c1,c2];have:=m a (by omega);refine this.trans ?_;simp;have hl:=Kz (al:=al) (ag:=ag) n.1 ag;exact Jw (λx _ y _=>aZ1 n _ x y) (h.MB o q) (by simp;omega)
end fp
def qn(l:eD)(d:Int):Int:=ite (d∈l) ((l[(l.idxOf d+aa l-1)%aa l]?).getD 0) 0
def aU7(l:eD)(d:Int)(hl:aa l<=1000000):Fb (l,d)=Z (qn l d):=by
 unfold Fb qn;simp only[Vh l d (by omega),bT];by_cases hd:d∈l;have a7:l.idxOf d<aa l:=gq.2 hd;have a:No (((l.idxOf d:Nat):Int)<0)=U:=by grind
 have b:ek (((l.idxOf d:Nat):Int)+(aa l:Int))=((l.idxOf d+aa l:Nat):Int):=by grind[fx]
 have c:ek (((l.idxOf d+aa l:Nat):Int)-1)=((l.idxOf d+aa l-1:Nat):Int):=by grind[fx]
 have e:No ((aa l:Int)=0)=U:=by grind
 have f:Int.tmod ((l.idxOf d+aa l-1:Nat):Int) (aa l:Int)=(((l.idxOf d+aa l-1)%aa l:Nat):Int):=by grind
 have hm:(l.idxOf d+aa l-1)%aa l<aa l:=eZ _ (by omega);simp only[hd,vE,a,bu,b,c,e,f,zB,bT];rw[af hm];rfl;simp[hd]
theorem Dk{l:eD}{d:Int}(h:d∈l):qn l d∈l:=by grind[qn,gq,eZ,af,au]
def ql(S:eD):cu (Int×Bool):=S.map λd=>(d,Y)
theorem aw4(d:Int):∀S:eD,fh gd d (ql S)=if d∈S then Z Y else W
 | []=>rfl
 |x::S=>by have a:=aw4 d S;show(cond (gd d x) (Z Y) <|fh gd d (ql S))=_;rw[a,Eh];by_cases h:d=x<;>simp[h]
theorem OY(d:Int):∀S:eD,d∉S->wC gd d Y (ql S)=ql (S++[d])
 | [],_=>rfl
 |x::S,h=>by simp only[aG,not_or]at h;have a:=OY d S h.2;show(cond (gd d x) ((d,Y)::ql S) <| (x,Y)::wC gd d Y (ql S))=_;rw[a,Eh];simp[h.1,ql]
theorem Jh(d:Int)(S:eD):oD (fh (λ(a b:Int)=>No (a=b)) d (ql S)) (Z U)=Z (No (d∈S)):=by grind[oD,fh,ql,aw4]
def rn(gA:Int->Int):Nat->eD->Int->eD->eD×eD
 | 0,S,_,c=>(c,S)
 |n+1,S,d,c=>ite (d∈S) (c,S) <|rn gA n (S++[d]) (gA d) (c++[d])
def pV(D S:eD):Nat:=aa (D.filter λd=>!decide (d∈S))
def N'{D S:eD}{d:Int}(hd:d∈D)(hs:d∉S):pV D (S++[d])<pV D S:=by
 unfold pV
 induction D with
 |nil=>simp at hd
 |cons x D a=>
  have mono:∀D:eD,aa (D.filter λy=>!decide (y∈S++[d]))<=aa (D.filter λy=>!decide (y∈S)):=λD=>by
   induction D with
   |nil=>simp
   |cons y D a=>grind
  grind
def bT2{β:Type}(mp:eY)(D:eD)(s:aa D<=100000)(o:∀d∈D,(fh gd d mp).getD 0∈D)(K:Int×eD×cu (Int×Bool)->dv β)(G:eD×eD->dv β)(t:∀d c S,K (d,c,ql S)=G (c,S)) :
  ∀(S:eD) (d:Int) (c:eD),d∈D->aa c+pV D S<=100000->rounds (α:=Int×eD×cu (Int×Bool)) (β:=β) (λl e=>
     a8 (oD (fh (λ(a b:Int)=>No (a=b)) e.1 e.2.2) (Z U)) λf=>
     a8 (Z (!(f))) λg=>
     cond g (
     a8 (Z (wC (λ(a b:Int)=>No (a=b)) e.1 Y e.2.2)) λi=>
     a8 (j6 8 e.2.1 [e.1]) λj=>
     a8 (oD (fh (λ(a b:Int)=>No (a=b)) e.1 mp) (Z (0:Int))) λk=>
     l (k,j,i)) <|K e) (d,c,ql S)=G (rn (λd=>(fh gd d mp).getD 0) (pV D S+1) S d c):=by
 have uG:∀d,oD (fh (λ(a b:Int)=>No (a=b)) d mp) (Z (0:Int))=Z ((fh gd d mp).getD 0):=λd=>by show oD (fh gd d mp) _=_;cases fh gd d mp<;>rfl
 generalize dC:(λ(l:Int×eD×cu (Int×Bool)->dv β) (e:Int×eD×cu (Int×Bool))=>
     a8 (oD (fh (λ(a b:Int)=>No (a=b)) e.1 e.2.2) (Z U)) λf=>
     a8 (Z (!(f))) λg=>
     cond g (
     a8 (Z (wC (λ(a b:Int)=>No (a=b)) e.1 Y e.2.2)) λi=>
     a8 (j6 8 e.2.1 [e.1]) λj=>
     a8 (oD (fh (λ(a b:Int)=>No (a=b)) e.1 mp) (Z (0:Int))) λk=>
     l (k,j,i)) <|K e)=F
 have u:∀rec d c S,d∈S->F rec (d,c,ql S)=G (c,S):=λrec d c S hs=>by grind[Jh,bT,decide_true,ar]
 have h1:∀rec d c S,d∉S->aa c<=100000->F rec (d,c,ql S)=rec ((fh gd d mp).getD 0,c++[d],ql (S++[d])):=λrec d c S hs hc=>by grind[wC,ql,OY,j6,m9,Jh,bT,decide_false,aQ]
 have key:∀(n m:Nat) (S:eD) (d:Int) (c:eD),d∈D->aa c+pV D S<=100000->pV D S<n->n<=m->iter F m (d,c,ql S)=G (rn (λd=>(fh gd d mp).getD 0) n S d c):=by
  intro n
  induction n with
  |zero=>intro m S d c _ _ h;omega
  |succ n v=>
   intro m S d c hd hc w hm;cases m;omega;rename_i m;show F (iter F m) (d,c,ql S)=_;by_cases hs:d∈S
   grind[rn]
   have p:=N' hd hs
   grind[rn]
 intro S d c hd hc;have h2:pV D S<=aa D:=cB _ _;have q:=aL7;have r:pV D S+1<=many:=Nat.le_trans (by omega) q;exact key (pV D S+1) many S d c hd hc (Nat.lt_succ_self _) r
def BS(l:eD)(m:eY):eY:=l.foldl (λm d=>wC (λ(a b:Int)=>No (a=b)) (-d) (qn l d) m) m
def uo(L:cu eD)(m:eY):eY:=L.foldl (λm l=>BS l m) m
def W8(l:eD)(D:eD):∀(r:eD) (m:eY),(∀d∈r,d∈l)->(∀d∈l,d∈D)->(∀k v,fh gd k m=Z v->v∈D) ->
  (∀k v,fh gd k (r.foldl (λm d=>wC (λ(a b:Int)=>No (a=b)) (-d) (qn l d) m) m)=Z v->v∈D)/\(∀k,(fh gd k m).isSome=Y->(fh gd k (r.foldl (λm d=>wC (λ(a b:Int)=>No (a=b)) (-d) (qn l d) m) m)).isSome=Y) /\
  ∀d∈r,(fh gd (-d) (r.foldl (λm d=>wC (λ(a b:Int)=>No (a=b)) (-d) (qn l d) m) m)).isSome=Y
 | [],m,_,_,hm=>⟨hm,λ_ h=>h,λd hd=>by simp at hd⟩
 |x::r,m,c,hl,hm=>by
  have e:=c x (by simp);have hp:∀k v,fh gd k (wC gd (-x) (qn l x) m)=Z v->v∈D:=λk v h=>by rw[rV]at h;split at h;cases h;exact hl _ (Dk e);exact hm k v h
  let ⟨h1,h2,f⟩:=W8 l D r (wC gd (-x) (qn l x) m) (λd hd=>c d (by simp[hd])) hl hp;refine⟨h1,λk hk=>h2 k ?_,λd hd=>?_⟩;rw[rV];split;rfl;exact hk;rcases aG.1 hd with rfl|hd
  exact h2 _ (by rw[rV,cr rfl];rfl);exact f d hd
def WX(D:eD):∀(L:cu eD) (m:eY),(∀l∈L,∀d∈l,d∈D)->(∀k v,fh gd k m=Z v->v∈D) ->
  (∀k v,fh gd k (uo L m)=Z v->v∈D)/\(∀k,(fh gd k m).isSome=Y->(fh gd k (uo L m)).isSome=Y)/\∀l∈L,∀d∈l,(fh gd (-d) (uo L m)).isSome=Y
 | [],m,_,hm=>⟨hm,λ_ h=>h,λl hl=>by simp at hl⟩
 |l::L,m,b,hm=>by
  let ⟨e,a2,a3⟩:=W8 l D l m (λ_ h=>h) (b l (by simp)) hm;let ⟨f,c,g⟩:=WX D L (BS l m) (λx a=>b x (by simp[a])) e;refine⟨f,λk hk=>c k (a2 k hk),λx a d hd=>?_⟩;rcases aG.1 a with rfl|a
  exact c _ (a3 d hd);exact g x a d hd
def qW(gA:Int->Int)(D:eD):eD->eD->cu eD->cu eD
 | [],_,acc=>acc
 |d::a,S,acc=>ite (d∈S) (qW gA D a S acc) <|let r:=rn gA (pV D S+1) S d []
   qW gA D a r.2 (acc++[r.1])
namespace fp
variable {al:gp} {ag:hI} {fs:eD} (h:fp al ag fs)
def wF(al:gp)(ag:hI):cu eD:=al.map (l1 al ag)
def ny(al:gp)(ag:hI):eD:=(wF al ag).flatten
include h
theorem wG{n:b9}(a:n∈al):(l1 al ag n).Perm ((np al ag n.1 ag).map (·.1)):=tG (h.MB (h.vm a) a)
theorem Mo{n:b9}(a:n∈al):aa (l1 al ag n)<=512:=by rw[(h.wG a).length_eq,aI];have:=Kz (al:=al) (ag:=ag) n.1 ag;have:=h.pA;omega
theorem uP{d:Int}:d∈ny al ag↔∃a∈ag,d=a.1\/d=-a.1:=by
 constructor;intro hd;let ⟨l,hl,hd⟩:=bZ.1 hd;obtain⟨n,b,rfl⟩:=aN.1 hl;rw[(h.wG b).mem_iff]at hd;obtain⟨p,hp,rfl⟩:=aN.1 hd;let ⟨a,ha,q,_,hc⟩:=h.GF (λ_ ha=>ha) hp;rcases hc with⟨_,rfl⟩|⟨_,rfl⟩
 exact⟨a,ha,.inl rfl⟩;exact⟨a,ha,.inr rfl⟩;rintro ⟨a,ha,hd⟩;let ⟨f,t,h1,h2,j,_⟩:=h.path ha;have mk:∀(n:b9),n∈al->d∈(ph al ag n.1 a).map (·.1)->d∈((al.map (l1 al ag)).flatten):=λn b c=>by refine bZ.2 ⟨_,aX b,?_⟩;rw[(h.wG b).mem_iff];let ⟨p,hp,e⟩:=aN.1 c;exact e▸aX (bW.2 ⟨a,ha,hp⟩)
 have g:f.1=a.2.1:=by have:=eB h1;simpa using this
 have i:t.1=a.2.2.1:=by have:=eB h2;simpa using this
 rcases hd with rfl|rfl
 refine mk f (bh h1) ?_;unfold ph;rw[j];simp[g];refine mk t (bh h2) ?_;unfold ph;rw[j];simp[i]
theorem JN{d:Int}(hd:d∈ny al ag):-d∈ny al ag:=by rw[h.uP]at hd⊢;obtain⟨a,ha,rfl|rfl⟩:=hd;exact⟨a,ha,.inr rfl⟩;exact⟨a,ha,.inl (by omega)⟩
theorem MJ:aa (ny al ag)<=512:=by
 have key:∀l:gp,(∀n∈l,n∈al)->aa ((l.map (l1 al ag)).flatten)<=(l.map λn=>aa (np al ag n.1 ag)).sum:=by
  intro l
  induction l with
  |nil=> simp
  |cons n l c =>intro hl;have:=c (λx f=>hl x (by simp[f]));have e:=(h.wG (hl n (by simp))).length_eq;rw[aI]at e;simp only[aD,List.flatten_cons,aL,dK];omega
 have q:=key al (λ_ o=>o);have g:∀l:gp,(l.map (·.1)).Pairwise (·<·)->∀b:hI,(l.map λn=>aa (np al ag n.1 b)).sum<=2*aa b:=by
  intro l hp b
  induction b with
  |nil=>
   have:(l.map λn=>aa (np al ag n.1 [])).sum=0:=by
    clear hp
    induction l with
    |nil=>rfl
    |cons n l c=>simp only[aD,dK,c];rfl
   omega
  |cons a b c=>
   have e:∀n:b9,aa (np al ag n.1 (a::b))=aa (ph al ag n.1 a)+aa (np al ag n.1 b):=λn=>by have e:np al ag n.1 (a::b)=ph al ag n.1 a++np al ag n.1 b:=rfl;rw[e,aL]
   have k:(l.map λn=>aa (np al ag n.1 (a::b))).sum=(l.map λn=>aa (ph al ag n.1 a)).sum+(l.map λn=>aa (np al ag n.1 b)).sum:=by
    simp only[e];clear c hp
    induction l with
    |nil=>rfl
    |cons n l c=>simp only[aD,dK];omega
   have r:(l.map λn=>aa (ph al ag n.1 a)).sum<=2:=by
    have hle:∀n:b9,aa (ph al ag n.1 a)<=(ite (a.2.1=n.1) 1 0)+(ite (a.2.2.1=n.1) 1 0):=λn=>by unfold ph;split;simp;by_cases h1:a.2.1=n.1<;>by_cases h2:a.2.2.1=n.1<;>simp[h1,h2]
    have i:∀(x:Int) (l:gp),(l.map (·.1)).Pairwise (·<·)->(l.map λn=>ite (x=n.1) 1 0).sum<=1:=by
     intro x l
     induction l with
     |nil=> simp
     |cons n l c=>
      intro hp;simp only[aD,aU]at hp;by_cases f:x=n.1;have:(l.map λn=>ite (x=n.1) 1 0).sum=0:=by
       have d:∀m∈l,(ite (x=m.1) 1 0)=0:=λm hm=>by have:=hp.1 m.1 (aX hm);rw[cc (by omega)]
       clear c hp
       induction l with
       |nil=>rfl
       |cons m l j=>simp only[aD,dK,d m (by simp),j (λy p=>d y (by simp[p]))]
      simp[f];rw[<-f];omega;have:=c hp.2;simp[f];exact this
    have c1:=i a.2.1 l hp;have c2:=i a.2.2.1 l hp;have:(l.map λn=>aa (ph al ag n.1 a)).sum<=(l.map λn=>ite (a.2.1=n.1) 1 0).sum+(l.map λn=>ite (a.2.2.1=n.1) 1 0).sum:=by
     clear c c1 c2 k hp
     induction l with
     |nil=>simp
     |cons n l c=>simp only[aD,dK];have:=hle n;omega
    omega
   rw[k,aA];omega
 have s:=g al (pq h.vL) ag;have:=h.pA;show aa ((al.map (l1 al ag)).flatten)<=_;omega
def KN(al:gp)(ag:hI):eY:=uo (wF al ag) []
def ki(al:gp)(ag:hI)(d:Int):Int:=(fh gd d (KN al ag)).getD 0
theorem qK{d:Int}(hd:d∈ny al ag):ki al ag d∈ny al ag:=by
 let ⟨h1,_,c⟩:=WX (ny al ag) (wF al ag) [] (λl hl d hd=>bZ.2 ⟨l,hl,hd⟩) (λk v hv=>by simp[fh]at hv);let ⟨l,hl,a⟩:=bZ.1 (h.JN hd);have b:=c l hl _ a;rw[jf]at b;unfold ki KN;cases hv:fh gd d (uo (wF al ag) [])with
 |none=>rw[hv]at b;cases b
 |some v=>exact h1 d v hv
def l9(al:gp)(ag:hI):cu eD:=qW (ki al ag) (ny al ag) ((ny al ag).mergeSort λa b=>No (a<=b)) [] []
omit h in
theorem MW{α β:Type}{l rest:cu α}{i:Nat}{x:α}(f:α->β)(hd:l.drop i=x::rest):(l.take (i+1)).map f=(l.take i).map f++[f x]:=by
 rw[List.take_add_one];have:l[i]?=Z x:=by rw[<-zB];exact fm hd
 rw[this];simp
theorem RE:Bm (al,ag,fs)=Z (l9 al ag,0):=by
 have R:=h.qF;have g:=De.2 h;have hD:=h.MJ;unfold Bm;simp only[VN,g];refine(vF (A:=eD×eY) al (λi a=>(a.1,(i:Int),a.2)) (λ_ _=>Z (l9 al ag,0)) (λi a=>a.1=((al.take i).map (l1 al ag)).flatten/\a.2=uo ((al.take i).map (l1 al ag)) []/\aa a.1<=512*i) (by omega) ?_ ?_ ([],[]) ⟨by simp,by simp[uo],by simp⟩);intro rec a w;let ⟨h1,h2,I⟩:=w;rw[bN]at h1 h2;have J:a.1=ny al ag:=h1;have K:=h2;have es:C5 (ny al ag,1)=Z ((ny al ag).mergeSort λa b=>No (a<=b)):=by
  unfold C5;rw[<-aB3];have:No (aa (ny al ag)<4611686018427387904)=Y:=by simp only[kA];omega
  simp[this]
 simp only[kj,J,K,es];have f:=cO (ny al ag) (λa b=>No (a<=b));unfold l9;generalize hL:(ny al ag).mergeSort (λa b=>No (a<=b))=L at f;have M:aa L<=100000-10:=by rw[f.length_eq];omega
 have B:∀d∈L,d∈ny al ag:=λd hd=>f.mem_iff.1 hd;refine(vF (A:=cu eD×eD) L (λi b=>((i:Int),b.1,ql b.2)) (λb rest=>Z (qW (ki al ag) (ny al ag) rest b.2 b.1,0)) (λi b=>aa b.1<=i) (by omega) ?_ ?_ ([],[]) (by simp)).trans rfl;simp[qW];intro rec i b x rest a7 u hd v;have l:L[i]?=Z x:=by rw[<-zB];exact fm hd
 simp only[fB a7,bT,aO,l,ai,Jh,f' a7 (show aa L<2^62 by omega)];by_cases hs:x∈b.2;simp only[hs];have:=v b (by show aa b.1<=i+1;omega);refine this.trans ?_;simp[qW,hs];simp only[hs];have N:pV (ny al ag) b.2<=aa (ny al ag):=cB _ _;have n:=bT2 (KN al ag) (ny al ag) (by omega) (λd hd=>h.qK hd) (λo=>a8 (j6 24 b.1 [o.2.1]) λp=>rec (((i+1:Nat):Int),p,o.2.2)) (λr=>Z (qW (ki al ag) (ny al ag) rest r.2 (b.1++[r.1]),0)) (λd c S=>by
  have:j6 24 b.1 [c]=Z (b.1++[c]):=m9;rw[this];exact v (b.1++[c],S) (by show aa (b.1++[c])<=i+1;simp;omega)) b.2 x [] (B x (rl hd).2.2) (by simp;omega)
 simp only[bT]at n;refine n.trans ?_;simp only[qW,hs];rfl;intro rec i a x rest a7 w hd v;let ⟨h1,h2,I⟩:=w;have l:=(rl hd).2.2;have O:=h.Mo l;have C:Fp ((al,ag,fs),x.1)=Z (l1 al ag x):=by rw[h.aG4,h.vm l]
 simp only[fB a7,fm hd,bT,f' a7 (show aa al<2^62 by omega),C];refine(vF (A:=eD×eY) (l1 al ag x) (λj b=>(b.1,(j:Int),b.2)) (λ_ _=>Z (l9 al ag,0)) (λj b=>b.1=a.1++(l1 al ag x).take j/\b.2=((l1 al ag x).take j).foldl (λm d=>wC (λ(a b:Int)=>No (a=b)) (-d) (qn (l1 al ag x) d) m) a.2) (by omega) ?_ ?_ a ⟨by simp,by simp⟩);intro q b u;let ⟨g1,g2⟩:=u;rw[bN]at g1 g2;simp only[kj];refine v b ⟨?_,?_,?_⟩;rw[MW _ hd,List.flatten_append,<-h1];simp[g1];rw[MW _ hd];unfold uo;rw[kQ];show b.2=BS (l1 al ag x) (uo ((al.take i).map (l1 al ag)) []);rw[<-h2,g2];rfl;rw[g1,aL];omega;intro q j b y r2 hj u k D;let ⟨g1,g2⟩:=u;have P:=(rl k).2.2;have E:1<=y/\y<=1073741824\/-1073741824<=y/\y<=-1:=by have:y∈ny al ag:=bZ.2 ⟨_,aX l,P⟩;rw[h.uP]at this;obtain⟨a',G,e|e⟩:=this<;>have:=h.num G<;>omega
 have s:ek (0-y)=-y:=by rw[fx];omega
 have Q:aa b.1<=512*i+j:=by rw[g1,aL,cQ];omega
 have H:Fb (l1 al ag x,y)=Z (qn (l1 al ag x) y):=aU7 _ _ (by omega);simp only[fB hj,fm k,bT,f' hj (show aa (l1 al ag x)<2^62 by omega),s,H];rw[m9];have t:(l1 al ag x).take (j+1)=(l1 al ag x).take j++[y]:=by have:=MW (λz:Int=>z) k;simpa using this
 refine D (b.1++[y],_) ⟨?_,?_⟩;rw[t,g1,cz];rw[t,kQ,<-g2];rfl
end fp
def bn1{al:gp}{ag:hI}{fs:eD}(h:tJ al ag fs≠0):Bm (al,ag,fs)=Z ([],tJ al ag fs):=by unfold Bm;simp only[VN,bT,h,n4,aQ,b6]
abbrev kI:=zy
def wL(al:gp)(ag:hI)(l:hI)(m:cu (Int×eY)):cu (Int×eY):=l.foldl (λm a=>match pathOf al ag a.1 with|some p=>wC (λ(a b:Int)=>No (a=b)) a.1 p m|none=>m) m
def l8(al:gp)(ag:hI):cu (Int×eY):=wL al ag ag []
def nY(d:Int):Prop:=-9223372036854775808<d/\d<=9223372036854775807
def la(d:Int):Int:=max d (-d)
def Am(ag:hI)(d:Int):Int:=ite (d=0) 0 <|match px ag (la d)with
 |some a=>ite (0<d) a.2.2.2.2.1 <|a.2.2.2.2.2
 |none=>0
def qD(a:kI):cu eD:=a.2.1::a.2.2.1
def oH(ag:hI)(k:Nat):Bool->cu kI->eD->eD->eD×Bool
 |_,[],seen,out=>(out,No ((aa seen:Int)=(k:Int)))
 |true,a::r,seen,out=>cond ((qD a).all (λc=>c.all λd=>No (Am ag d=0))) (oH ag k U r seen (out++[0])) <| ([],U)
 |false,a::r,seen,out=>
  let f:=Am ag (a.2.1.headD 0)
  bif No (f=0)||No (f∈seen)then([],U)else cond ((qD a).all (λc=>c.all λd=>No (Am ag d=f))) (oH ag k U r (seen++[f]) (out++[f])) ([],U)
namespace fp
variable {al:gp} {ag:hI} {fs:eD} (h:fp al ag fs)
include h
theorem Yg:E4 (al,ag,fs)=Z (l8 al ag):=by
 have hlen:=h.pA;unfold E4 l8;simp only[ h.Hz];refine(mP (A:=cu (Int×eY)) ag (λi m=>((i:Int),m)) (λm rest=>Z (wL al ag rest m)) (by omega) ?_ ?_ []).trans rfl;simp[wL];intro rec i m x rest a7 hd a;simp only[fB a7,fm hd,bT,f' a7 (show aa ag<2^62 by omega)];cases hp:pathOf al ag x.1 with
 |none=>
  have:No ((7:Int)=0)=U:=by decide
  simp only[this,bu];rw[a];simp[wL,hp]
 |some p =>rw[a];simp[wL,hp]
theorem Yf:∀(l:hI) (m:cu (Int×eY)),(∀a∈l,a∈ag)->(l.map (·.1)).Pairwise (·<·)->∀a∈l,fh gd a.1 (wL al ag l m)=pathOf al ag a.1
 | [],m,_,_,a,ha=>by simp at ha
 |b::l,m,hm,hp,a,ha=>by
  simp only[aD,aU]at hp;let ⟨f,t,_,_,d,_⟩:=h.path (hm b (by simp));have e:wL al ag (b::l) m=wL al ag l (wC gd b.1 (f.2::(b.2.2.2.1++[t.2])) m):=by show bf _ _ _=_;rw[List.foldl_cons,d];rfl
  have g:∀(l:hI) (m:cu (Int×eY)) (k:Int),(∀a∈l,a.1≠k)->fh gd k (wL al ag l m)=fh gd k m:=by
   intro l
   induction l with
   |nil=>intro m k _;rfl
   |cons x l i=>
    intro m k hk;show fh gd k (wL al ag l _)=_;rw[i _ k (λa ha=>hk a (by simp[ha]))];cases c:pathOf al ag x.1 with
    |none=>simp only[c]
    |some p =>simp only[c];have:=rV k x.1 p m;rw[cc (λe=>hk x (by simp) e.symm)]at this;exact this
  rw[e];rcases aG.1 ha with rfl|ha
  rw[g l _ a.1 (λx c=>by have:=hp.1 x.1 (aX c);omega),rV,cr rfl,d];exact Yf l _ (λx c=>hm x (by simp[c])) hp.2 a ha
theorem D1{a:ct}(ha:a∈ag):fh gd a.1 (l8 al ag)=pathOf al ag a.1:=h.Yf ag [] (λ_ h=>h) (pq h.rX) a ha
theorem U6{d:Int}(hd:nY d):FA ((al,ag,fs),d)=Z (ite (d=0) ((0,0,0,[],0,0),U) <|match px ag (la d)with|some a=>(a,Y)|none=>((0,0,0,[],0,0),U)):=by
 unfold FA;let ⟨h1,h2⟩:=hd;by_cases b:d=0;simp[b];have c:No (d=-9223372036854775808)=U:=by simp only[sG];omega
 have e:ek (0-d)=-d:=by rw[fx];omega
 simp only[b,c,e,yP,h.Rq];have f:la d=max d (-d):=rfl;rw[f];cases px ag (max d (-d))with
 |none=>rfl
 |some a=>rfl
theorem Uh{d:Int}(hd:nY d):Bu ((al,ag,fs),d)=Z (Am ag d):=by
 unfold Bu Am;simp only[h.U6 hd];by_cases b:d=0;simp[b];simp only[b];cases px ag (la d)with
 |none=>simp
 |some a =>by_cases h1:0<d<;>simp[h1]
theorem bf9{a:kI}(ha:aa a.2.2.1<=1000000):CZ a=Z (qD a):=by unfold CZ qD;have:j6 24 [a.2.1] a.2.2.1=Z ([a.2.1]++a.2.2.1):=m9;simp only[this];rfl
theorem bM3{β:Type}(f:Int)(cs:cu eD)(r:∀c∈cs,(∀d∈c,nY d)/\aa c<2^62)(hl:aa cs<2^62)(K:dv β)(bad:dv β) :
  rounds (α:=Int) (β:=β) (λs e=>
    a8 (Z (No (e<(aa cs:Int)))) λk=>
    cond k (
     a8 (nth cs e) λb=>
     a8 (Z (aa (b):Int)) λl=>
     rounds (α:=Int) (β:=β) (λt g=>
     a8 (Z (No (g<l))) λm=>
     cond m (
      a8 (nth b g) λa=>
      a8 (Bu ((al,ag,fs),a)) λn=>
      a8 (Z (!decide (n=f))) λo=>
      cond o bad (
      a8 (Z (ek (g+(1:Int)))) λp=>
      t p)) (
      a8 (Z (ek (e+(1:Int)))) λa=>
      s a)) (0:Int)) K) (0:Int)=bif cs.all (λc=>c.all λd=>No (Am ag d=f))then K else bad:=by
 refine(mP (A:=Unit) cs (λi _=>(i:Int)) (λ_ rest=>cond (rest.all (λc=>c.all λd=>No (Am ag d=f))) K bad) (by omega) ?_ ?_ ()).trans rfl;simp;intro rec i u x rest a7 hd D;let ⟨v,w⟩:=r x (rl hd).2.2;simp only[fB a7,fm hd,bT,f' a7 hl];rw[D (),bE];refine(mP (A:=Unit) x (λi _=>(i:Int)) (λ_ B=>cond (B.all (λd=>No (Am ag d=f))) (cond (rest.all (λc=>c.all λd=>No (Am ag d=f))) K bad) bad) (by omega) ?_ ?_ ()).trans ?_;simp;intro C j u y B hj q z;have E:=v y (rl q).2.2;simp only[fB hj,fm q,bT,f' hj w,h.Uh E];rw[z (),bE];cases No (Am ag y=f)<;>simp;cases x.all (λd=>No (Am ag d=f))<;>simp
structure aG3(a:kI):Prop where
 outer:(∀d∈a.2.1,nY d)/\aa a.2.1<=1000000
 inner:∀c∈a.2.2.1,(∀d∈c,nY d)/\aa c<=1000000
 IK:aa a.2.2.1<=1000000
theorem Vo{l:cu kI}(hl:aa l<=1000000)(o:∀a∈l,aG3 a)(p:∀a∈l.tail,a.2.1≠[]):Fg ((al,ag,fs),l)=Z (oH ag (aa fs) Y l [] []):=by
 have hF:=λ(f:Int) (cs:cu eD) h1 h2 K bad=>h.bM3 (β:=eD×Bool) f cs h1 h2 K bad;refine(vF (A:=eD×eD) l (λi a=>(a.2,(i:Int),ql a.1)) (λa rest=>Z (oH ag (aa fs) (No (aa rest=aa l)) rest a.1 a.2)) (λi a=>aa a.2<=i) (by omega) ?_ ?_ ([],[]) (by simp)).trans (by simp);intro rec a B;have e:(aa (ql a.1):Int)=(aa a.1:Int):=by simp[ql]
 simp only[kj,bu,oH,e];intro rec i a x rest a7 B hd w;have q:=rl hd;have g:=o x q.2.2;have r:=h.bf9 g.IK;have k:∀c∈qD x,(∀d∈c,nY d)/\aa c<2^62:=λc hc=>by
  rcases aG.1 hc with rfl|hc
  exact⟨g.outer.1,by have:=g.outer.2;omega⟩;exact⟨(g.inner c hc).1,by have:=(g.inner c hc).2;omega⟩
 have m:aa (qD x)<2^62:=by have:=g.IK;simp only[qD,aA];omega
 simp only[fB a7,fm hd,bT,f' a7 (show aa l<2^62 by omega),r];have z:No (aa rest=aa l)=U:=by simp only[sG];omega
 have b:∀f:Int,j6 8 a.2 [f]=Z (a.2++[f]):=λf=>m9;by_cases C:i=0;subst C;have s:No (aa (x::rest)=aa l)=Y:=by simp only[aA,kA];omega
 simp only[ s];refine(hF 0 (qD x) k m _ _).trans ?_;simp only[b,bT,oH];have t:aa (a.2++[(0:Int)])<=0+1:=by rw[aL];simp only[fU];omega
 have:=w (a.1,a.2++[0]) t;rw[z]at this;rw[this];cases(qD x).all (λc=>c.all λd=>No (Am ag d=0))<;>simp;have s:No (aa (x::rest)=aa l)=U:=by simp only[aA,sG];omega
 have D:No ((0:Int)<(i:Int))=Y:=by simp only[kA];omega
 have u:x∈l.tail:=by
  have:x∈l.drop 1:=by
   have hm:x∈l.drop i:=by rw[hd];simp
   have:l.drop i=(l.drop 1).drop (i-1):=by rw[List.drop_drop,show 1+(i-1)=i by omega]
   rw[this]at hm;exact aC hm
  simpa using this
 obtain⟨d0,n,j⟩:∃d0 n,x.2.1=d0::n:=by
  cases hc:x.2.1 with
  |nil=>exact b8 hc (p x u)
  |cons d0 n=>exact⟨d0,n,rfl⟩
 have v:nth x.2.1 (0:Int)=Z d0:=by have:=zB x.2.1 0;rw[j]at this⊢;exact this
 have tX:=g.outer.1 d0 (by rw[j];simp);have E:x.2.1.headD 0=d0:=by rw[j];rfl
 simp only[D,s,v,bT,h.Uh tX,Jh,oH,E];by_cases hz:Am ag d0=0;simp[hz];simp only[hz];by_cases hs:Am ag d0∈a.1;simp[hs];have G:=OY _ _ hs;simp only[hs,G];refine(hF (Am ag d0) (qD x) k m _ _).trans ?_;simp only[b,bT];have:=w (a.1++[Am ag d0],a.2++[Am ag d0]) (by simp;omega);rw[z]at this;rw[this];cases(qD x).all (λc=>c.all λd=>No (Am ag d=Am ag d0))<;>simp
end fp
def vn(at':bs)(st:Bool×Bool)(a b:bs):Bool×Bool :=cond (n' a b at') (st.1,Y) <|cond ((a.2<=at'.2&&(at'.2<b.2&&0<l7 a b at'))||(b.2<=at'.2&&(at'.2<a.2&&l7 a b at'<0))) (!st.1,st.2) st
def vj(at':bs):bs->eY->Bool×Bool->Bool×Bool
 |_,[],st=>st
 |p,q::r,st=>vj at' q r (vn at' st p q)
def y7(at':bs)(l:eY)(st:Bool×Bool):Bool×Bool:=match l with
 | []=>st
 |p::r=>vj at' p r st
def tn(m:cu (Int×eY))(at':bs):eD->Bool×Bool->Bool×Bool
 | [],st=>st
 |d::r,st=>tn m at' r (y7 at' ((fh gd (la d) m).getD []) st)
def nF(m:cu (Int×eY))(od:eD)(at':bs):Bool:=cond (tn m at' od (U,U)).1 (!(tn m at' od (U,U)).2) U
def bZ3{β:Type}(at':bs)(p0:bs)(l:eY)(hl:aa l<=1000000)(K:Bool×Bool->dv β)(st:Bool×Bool) :
  rounds (α:=Int×Bool×Bool) (β:=β) (λf d=>
   cond (d.1<(aa (p0::l):Int)) (
   a8 (nth (p0::l) (ek (d.1-(1:Int)))) λg=>
   a8 (nth (p0::l) d.1) λh=>
   a8 (qV (g,h,at')) λj=>
   cond j (
    f (ek (d.1+(1:Int)),d.2.1,Y)) (
    cond (g.2<=at'.2) (
    cond (at'.2<h.2) (
     a8 (qR (g,h,at')) λk=>
     cond ((0:Int)<k) (
     f (ek (d.1+(1:Int)),!(d.2.1),d.2.2)) (
     cond (h.2<=at'.2) (
      cond (at'.2<g.2) (
      a8 (qR (g,h,at')) λm=>
      cond (m<(0:Int)) (
       f (ek (d.1+(1:Int)),!(d.2.1),d.2.2)) (
       f (ek (d.1+(1:Int)),d.2.1,d.2.2))) (
      f (ek (d.1+(1:Int)),d.2.1,d.2.2))) (
      f (ek (d.1+(1:Int)),d.2.1,d.2.2)))) (
     cond (h.2<=at'.2) (
     cond (at'.2<g.2) (
      a8 (qR (g,h,at')) λo=>
      cond (o<(0:Int)) (
      f (ek (d.1+(1:Int)),!(d.2.1),d.2.2)) (
      f (ek (d.1+(1:Int)),d.2.1,d.2.2))) (
      f (ek (d.1+(1:Int)),d.2.1,d.2.2))) (
     f (ek (d.1+(1:Int)),d.2.1,d.2.2)))) (
    cond (h.2<=at'.2) (
     cond (at'.2<g.2) (
     a8 (qR (g,h,at')) λp=>
     cond (p<(0:Int)) (
      f (ek (d.1+(1:Int)),!(d.2.1),d.2.2)) (
      f (ek (d.1+(1:Int)),d.2.1,d.2.2))) (
     f (ek (d.1+(1:Int)),d.2.1,d.2.2))) (
     f (ek (d.1+(1:Int)),d.2.1,d.2.2))))) (
   K d.2)) ((1:Int),st)=K (vj at' p0 l st):=by
 refine(vF (A:=bs×Bool×Bool) l (λi a=>(((i+1:Nat):Int),a.2)) (λa rest=>K (vj at' a.1 rest a.2)) ((p0::l)[·]?=Z ·.1) (by omega) ?_ ?_ (p0,st) rfl)
 grind[vj]
 intro rec i a x rest a7 s hd t;have r:(p0::l)[i+1]?=Z x:=by rw[aK,<-zB];exact fm hd
 have e:(aa (p0::l):Int)=((aa l+1:Nat):Int):=by simp
 have u:ek (((i+1:Nat):Int)-1)=(i:Int):=by grind[fx]
 have v:ek (((i+1:Nat):Int)+1)=((i+1+1:Nat):Int):=f' (n:=2000000) (by omega);have f1:∀a b c:bs,qV (a,b,c)=Z (n' a b c):=λa b c=>FH a b c;have f2:∀a b c:bs,qR (a,b,c)=Z (l7 a b c):=λa b c=>M8 a b c;simp only[e,fB (show i+1<aa l+1 by omega),b6,u,zB,s,r,bT,f1,f2,v];have w:=λq=>t (x,q) r
 grind[vj,vn,n',l7,decide_true,decide_false]
def JG(m:cu (Int×eY))(od:eD):Prop:=aa od<=1000000/\∀d∈od,nY d/\∃p0 l,fh gd (la d) m=Z (p0::l)/\aa l<=1000000
def bL7{m:cu (Int×eY)}{od:eD}(h:JG m od)(at':bs):AK (m,od,at')=Z (nF m od at'):=by
 have hF:=λ(p0:bs) (l:eY) hl K st=>bZ3 (β:=Bool) at' p0 l hl K st;unfold AK;simp only[bT];refine(mP (A:=Bool×Bool) od (λi a=>((i:Int),a.2,a.1)) (λa rest=>Z (cond (tn m at' rest a).1 (!(tn m at' rest a).2) U)) (by have:=h.1;omega) ?_ ?_ (U,U)).trans rfl
 grind[tn]
 intro rec i a d rest a7 hd k;have hm:d∈od:=by grind[aC]
 let ⟨⟨d1,d2⟩,p0,l,c,e⟩:=h.2 d hm;have f:ek (0-d)=-d:=by grind[fx]
 have g:fh (λ(a b:Int)=>No (a=b)) (max d (-d)) m=Z (p0::l):=c;have j:oD (Z (p0::l)) (W:dv eY)=Z (p0::l):=rfl;simp only[fB a7,b6,fm hd,bT,f,yP,g,j,f' a7 (show aa od<2^62 by have:=h.1;omega)];refine(hF p0 l e (λx=>rec (((i+1:Nat):Int),x.2,x.1)) a).trans ?_
 grind[vj,tn,y7]
def uA(p q:bs):Int:=p.1*q.2-q.1*p.2
def oZ:bs->eY->Int
 |_,[]=>0
 |p,q::r=>uA p q+oZ q r
def vI{a b A:Int}(h1:-A<=a:=by omega)(h2:a<=A:=by omega)(f:-A<=b:=by omega)(g:b<=A:=by omega):-(A*A)<=a*b/\a*b<=A*A:=by
 have d:0<=A:=by omega
 constructor;have h:a*b+A*A=(A+a)*b+A*(A-b):=by grind
 rcases iM 0 b with c|c
 have:=aB (show 0<=A+a by omega) c;have:=aB d (show 0<=A-b by omega);omega;have e:a*b+A*A=(A-a)*(-b)+A*(A+b):=by grind
 have:=aB (show 0<=A-a by omega) (show 0<=-b by omega);have:=aB d (show 0<=A+b by omega);omega;rcases iM 0 b with c|c
 have e:A*A-a*b=(A-a)*b+A*(A-b):=by grind
 have:=aB (show 0<=A-a by omega) c;have:=aB d (show 0<=A-b by omega);omega;have e:A*A-a*b=(A+a)*(-b)+A*(A+b):=by grind
 have:=aB (show 0<=A+a by omega) (show 0<=-b by omega);have:=aB d (show 0<=A+b by omega);omega
def mQ(p:bs):Prop:=-2097152<=p.1/\p.1<=2097152/\-2097152<=p.2/\p.2<=2097152
def Nd:∀(l:eY) (p:bs),mQ p->(∀q∈l,mQ q)->-(8796093022208*(aa l:Int))<=oZ p l/\oZ p l<=8796093022208*(aa l:Int)
 | [],_,_,_=>by simp[oZ]
 |q::r,p,hp,hl=>by have a:=hl q (by simp);have c:=Nd r q a (λx b=>hl x (by simp[b]));let ⟨d,a2⟩:=vI (A:=2097152) hp.1 hp.2.1 a.2.2.1 a.2.2.2;let ⟨e,f⟩:=vI (A:=2097152) a.1 a.2.1 hp.2.2.1 hp.2.2.2;simp only[oZ,uA,aA];omega
def bZ6{β:Type}(p0:bs)(l:eY)(hl:aa l<=1000)(o:mQ p0)(hc:∀q∈l,mQ q)(K:Int->dv β) :
  rounds (α:=Int×Int) (β:=β) (λh b=>
    cond (b.2<(aa l:Int)) (
     a8 (nth (p0::l) b.2) λc=>
     a8 (nth (p0::l) (ek (b.2+(1:Int)))) λd=>
     a8 (nth (p0::l) (ek (b.2+(1:Int)))) λe=>
     a8 (nth (p0::l) b.2) λf=>
     h (ek (b.1+ek (ek (c.1*d.2)-ek (e.1*f.2))),ek (b.2+(1:Int)))) (
     K b.1)) ((0:Int),(0:Int))=K (oZ p0 l):=by
 refine(vF (A:=bs×Int) l (λi a=>(a.2,(i:Int))) (λa rest=>K (a.2+oZ a.1 rest)) (λi a=>(p0::l)[i]?=Z a.1/\mQ a.1/\-(8796093022208*(i:Int))<=a.2/\a.2<=8796093022208*(i:Int)) (by omega) ?_ ?_ (p0,0) ⟨rfl,o,by simp,by simp⟩).trans (by simp)
 grind[oZ]
 intro rec i a x rest a7 j hd p;let ⟨j,hp,g1,g2⟩:=j;have m:(p0::l)[i+1]?=Z x:=by rw[aK,<-zB];exact fm hd
 have k:x∈l:=by grind
 have g:=hc x k;have r:ek ((i:Int)+1)=((i+1:Nat):Int):=f' (n:=2000000) (by omega);simp only[fB a7,b6,r,zB,j,m,bT];let ⟨z,a2⟩:=vI (A:=2097152) hp.1 hp.2.1 g.2.2.1 g.2.2.2;let ⟨B,C⟩:=vI (A:=2097152) g.1 g.2.1 hp.2.2.1 hp.2.2.2;have s:ek (a.1.1*x.2)=a.1.1*x.2:=fx;have t:ek (x.1*a.1.2)=x.1*a.1.2:=fx;have u:ek (a.1.1*x.2-x.1*a.1.2)=uA a.1 x:=fx;have v:uA a.1 x=a.1.1*x.2-x.1*a.1.2:=rfl;have w:ek (a.2+uA a.1 x)=a.2+uA a.1 x:=fx;rw[s,t,u,w];have:=p (x,a.2+uA a.1 x) ⟨m,g,by simp only;omega,by simp only;omega⟩
 grind[oZ]
def vi(al:gp)(ag:hI)(d:Int):Int:=match pathOf al ag (la d)with
 |some (p::l)=>ite (d<0) (-(oZ p l)) <|oZ p l
 |_=>0
def l5(al:gp)(ag:hI):eD->Int
 | []=>0
 |d::r=>vi al ag d+l5 al ag r
namespace fp
variable {al:gp} {ag:hI} {fs:eD} (h:fp al ag fs)
include h
theorem It{d:Int}(hd:∃a∈ag,a.1=la d):∃p0 l,pathOf al ag (la d)=Z (p0::l)/\aa l<=65/\mQ p0/\∀q∈l,mQ q:=by
 let ⟨a,ha,hid⟩:=hd;let ⟨f,t,_,_,hp,_⟩:=h.path ha;have hv:aa a.2.2.2.1<=64:=by
  have:=h.AD
  grind[wT,aj]
 have c:=h.D0 ha hp;have b:∀p:bs,yU p=Y->mQ p:=λp hp=>by simp only[yU,ab,kA]at hp;exact⟨by omega,by omega,by omega,by omega⟩
 grind
theorem Uj{od:eD}(hc:aa od<=512)(hm:∀d∈od,nY d/\d≠0/\∃a∈ag,a.1=la d):Bs ((al,ag,fs),od)=Z (l5 al ag od):=by
 have hF:=λ(p0:bs) (l:eY) hl e hc K=>bZ6 (β:=Int) p0 l hl e hc K;unfold Bs;have hlen:No ((512:Int)<(aa od:Int))=U:=by grind
 simp only[bT,hlen,bu];refine(vF (A:=Int) od (λi a=>(a,(i:Int))) (λa rest=>Z (a+l5 al ag rest)) (λi a=>-(571746046443520*(i:Int))<=a/\a<=571746046443520*(i:Int)) (by omega) ?_ ?_ 0 ⟨by simp,by simp⟩).trans (by simp)
 grind[l5]
 intro rec i a d rest a7 o hd p;have f:d∈od:=by grind[aC]
 let ⟨k,e,j,b,hid⟩:=hm d f;let ⟨d1,d2⟩:=k;have c:px ag (la d)=Z j:=by rw[<-hid];exact h.zD b
 let ⟨p0,l,hp,hl,c0,cl⟩:=h.It ⟨j,b,hid⟩;have m:ek (0-d)=-d:=by grind[fx]
 have g:pathOf al ag (max d (-d))=Z (p0::l):=hp;simp only[fB a7,b6,fm hd,bT,h.U6 ⟨d1,d2⟩,e,l4,c,ar,bu,m,yP,h.Hz,g,l6];have n:ek ((aa (p0::l):Int)-1)=(aa l:Int):=by grind[fx,aA]
 simp only[n];refine(hF p0 l (by omega) c0 cl (λA=>cond (d<0) (rec (ek (a+ek (0-A)),ek ((i:Int)+1))) <|rec (ek (a+A),ek ((i:Int)+1)))).trans ?_;let ⟨q,r⟩:=Nd l p0 c0 cl
 grind[oZ,f',fx,decide_true,l5,vi,decide_false]
end fp
def xd(L:cu kI)(b:Nat):Int:=((L[b]?).map (·.1)).getD 0
def rz(m:cu (Int×eY))(at':bs)(L:cu kI):cu kI->Nat->Nat->Nat
 | [],_,b=>b
 |x::r,i,b=>rz m at' L r (i+1) (cond ((b=0||x.1<xd L b)&&nF m x.2.1 at') i b)
def oI(m:cu (Int×eY))(L:cu kI)(at':bs):Nat:=rz m at' L L.tail 1 0
def N9(m:cu (Int×eY))(at':bs)(L:cu kI):∀(r:cu kI) (i b n:Nat),i+aa r<=n->b<n->rz m at' L r i b<n
 | [],_,b,n,_,a=>a
 |x::r,i,b,n,a7,a=>by simp only[rz];simp only[aA]at a7;refine N9 m at' L r (i+1) _ n (by omega) ?_;cases(No (b=0)||No (x.1<xd L b))&&nF m x.2.1 at';exact a;simp only[b6];omega
def an3{β:Type}(m:cu (Int×eY))(at':bs)(c:kI)(l:cu kI)(hl:aa l<=1000000)(hp:∀a∈l,JG m a.2.1)(K:Int×Int->dv β) :
  rounds (α:=Int×Int) (β:=β) (λd b=>
    cond (b.1<((aa (c::l):Nat):Int)) (
    cond (b.2=(0:Int)) (
     a8 ((cond (0<=b.1&&b.1<((aa (c::l):Nat):Int)) (Z ()) W)) λ_=>
     a8 (((c::l)[(b.1).toNat]?).map (·.2.1)) λf=>
     a8 (AK (m,f,at')) λg=>
     cond g (
     d (ek (b.1+(1:Int)),b.1)) (
     d (ek (b.1+(1:Int)),b.2))) (
     a8 ((cond (0<=b.1&&b.1<((aa (c::l):Nat):Int)) (Z ()) W)) λ_=>
     a8 (((c::l)[(b.1).toNat]?).map (·.1)) λf=>
     a8 ((cond (0<=b.2&&b.2<((aa (c::l):Nat):Int)) (Z ()) W)) λ_=>
     a8 (((c::l)[(b.2).toNat]?).map (·.1)) λg=>
     cond (f<g) (
     a8 ((cond (0<=b.1&&b.1<((aa (c::l):Nat):Int)) (Z ()) W)) λ_=>
     a8 (((c::l)[(b.1).toNat]?).map (·.2.1)) λj=>
     a8 (AK (m,j,at')) λk=>
     cond k (
      d (ek (b.1+(1:Int)),b.1)) (
      d (ek (b.1+(1:Int)),b.2))) (
     d (ek (b.1+(1:Int)),b.2)))) (
    K b)) ((1:Int),(0:Int))=K (((aa l+1:Nat):Int),((oI m (c::l) at':Nat):Int)):=by
 have e:((aa (c::l):Nat):Int)=((aa l+1:Nat):Int):=by simp
 refine(vF (A:=Nat) l (λi a=>(((i+1:Nat):Int),(a:Int))) (λa rest=>K (((aa l+1:Nat):Int),((rz m at' (c::l) rest (aa l-aa rest+1) a:Nat):Int))) (λi a=>a<i+1) (by omega) ?_ ?_ 0 (by omega)).trans ?_;intro rec a w;simp only[e,kj,bu,rz];intro rec i a x rest a7 w hd s;have o:aa l-aa (x::rest)+1=i+1:=by have:=Ar aa hd;simp only[iN]at this⊢;omega
 have p:aa l-aa rest+1=i+1+1:=by simp only[aA]at o;have:=Ar aa hd;simp only[iN,aA]at this;omega
 have z:(c::l)[i+1]?=Z x:=by rw[aK,<-zB];exact fm hd
 have q:x∈l:=by
  have:x∈l.drop i:=by rw[hd];simp
  exact aC this
 have ha:a<aa (c::l):=by simp only[aA];omega
 have t:=af ha;have B:ek (((i+1:Nat):Int)+1)=((i+1+1:Nat):Int):=f' (n:=2000000) (by omega);have G:(No (0<=((i+1:Nat):Int))&&No (((i+1:Nat):Int)<((aa l+1:Nat):Int)))=Y:=by simp;omega
 have C:(No (0<=(a:Int))&&No ((a:Int)<((aa l+1:Nat):Int)))=Y:=by simp;omega
 have D:No ((a:Int)=0)=No (a=0):=by by_cases h:a=0<;>simp
 have r:=bL7 (hp x q) at';simp only[e,fB (show i+1<aa l+1 by omega),B,C,D,aO,z,t,ai,bT,r];have u:=s (i+1) (by omega);have v:=s a (by omega);simp only[p]at u v;rw[u,v,o];have E:xd (c::l) a=((c::l)[a]'ha).1:=by simp[xd,t]
 simp only[rz,E];cases h1:No (a=0)<;>cases h2:No (x.1<((c::l)[a]'ha).1)<;>cases H:nF m x.2.1 at'<;>rfl;simp only[Nat.sub_self,oI,lF]
abbrev Ct:=Int×eD×Unit×Unit
def oY(L:cu kI)(k:Nat)(c:eD):cu kI:=match L[k]? with
 |some x=>L.set k (x.1,x.2.1,x.2.2.1++[c],x.2.2.2)
 |none=>L
def p_(L:cu kI)(k:Nat)(n:Int):cu kI:=match L[k]? with
 |some x=>L.set k (x.1,x.2.1,x.2.2.1,x.2.2.2++[n])
 |none=>L
structure vr(m:List (Int×List bs))(L:List kI)(n i j:Nat):Prop where
 len:aa L=n+1
 out:∀a∈L.tail,JG m a.2.1
 z8:∀a∈L,aa a.2.2.1<=i
 zC:∀a∈L,aa a.2.2.2<=j
def IC{α:Type}{L:cu α}{k:Nat}{y a:α}(h:a∈(L.set k y).tail):a∈L.tail\/(a=y/\1<=k/\k<aa L):=by
 cases L;simp at h;rename_i x l;cases k;exact .inl (by simpa using h);rename_i k;simp only[List.set_cons_succ]at h⊢;by_cases hk:k<aa l;rcases cF h with h|h
 exact .inl h;exact .inr ⟨h,by omega,by simp;omega⟩;rw[List.set_eq_of_length_le (by omega)]at h;exact .inl h
def Jt{α:Type}{L:cu α}{k:Nat}{x:α}(h:L[k]?=Z x)(hk:1<=k):x∈L.tail:=by cases L;simp at h;cases k;omega;exact aH h
theorem vr.oY{m:cu (Int×eY)}{L:cu kI}{n i j k:Nat}(h:vr m L n i j)(c:eD):vr m (oY L k c) n (i+1) j:=by
 unfold Go.Ab.oY;cases d:L[k]? with
 |none=>exact⟨h.len,h.out,λa ha=>by have:=h.z8 a ha;omega,h.zC⟩
 |some x=>
  have b:=aH d;refine⟨by simp[h.len],λa ha=>?_,λa ha=>?_,λa ha=>?_⟩;rcases IC ha with ha|⟨rfl,hk,_⟩
  exact h.out a ha;exact h.out x (Jt d hk);rcases cF ha with ha|rfl
  have:=h.z8 a ha;omega;have:=h.z8 x b;simp;omega;rcases cF ha with ha|rfl
  exact h.zC a ha;exact h.zC x b
theorem vr.p_{m:cu (Int×eY)}{L:cu kI}{n i j k:Nat}(h:vr m L n i j)(c:Int):vr m (p_ L k c) n i (j+1):=by
 unfold Go.Ab.p_;cases d:L[k]? with
 |none=>exact⟨h.len,h.out,h.z8,λa ha=>by have:=h.zC a ha;omega⟩
 |some x=>
  have b:=aH d;refine⟨by simp[h.len],λa ha=>?_,λa ha=>?_,λa ha=>?_⟩;rcases IC ha with ha|⟨rfl,hk,_⟩
  exact h.out a ha;exact h.out x (Jt d hk);rcases cF ha with ha|rfl
  exact h.z8 a ha;exact h.z8 x b;rcases cF ha with ha|rfl
  have:=h.zC a ha;omega;have:=h.zC x b;simp;omega
def vr.cons{m:cu (Int×eY)}{L:cu kI}{n i j:Nat}(h:vr m L n i j):∃a l,L=a::l:=by cases L;have:=h.len;simp at this;rename_i x l;exact⟨x,l,rfl⟩
def vr.Vq{m:cu (Int×eY)}{L:cu kI}{n i j:Nat}(h:vr m L n i j)(p:bs):oI m L p<aa L:=by obtain⟨a,l,rfl⟩:=h.cons;exact N9 m p _ l 1 0 _ (by simp;omega) (by simp)
def rq(m:cu (Int×eY))(c:eD):bs:=((((fh gd (la (c.headD 0)) m).getD [])[0]?).getD (0,0))
def sw(m:cu (Int×eY)):cu eD->cu kI->cu kI
 | [],L=>L
 |c::r,L=>sw m r (oY L (oI m L (rq m c)) c)
def ru(al:gp)(ag:hI)(m:cu (Int×eY)):gp->cu kI->cu kI
 | [],L=>L
 |n::r,L=>ru al ag m r (cond (na ag n.1=0) (p_ L (oI m L n.2) n.1) L)
def AW(al:gp)(ag:hI)(cs:cu eD):cu kI:=(0,[],[],[])::(cs.filter λc=>No (0<l5 al ag c)).map λc=>(l5 al ag c,c,[],[])
def sL(al:gp)(ag:hI)(m:cu (Int×eY))(cs:cu eD):cu kI :=ru al ag m al (sw m (cs.filter λc=>!decide (0<l5 al ag c)) (AW al ag cs))
structure Lh(ag:List ct)(cs:List (List Int)):Prop where
 len:aa cs<=512
 od:∀c∈cs,c≠[]/\aa c<=512/\∀d∈c,nY d/\d≠0/\∃a∈ag,a.1=la d
namespace fp
variable {al:gp} {ag:hI} {fs:eD} (h:fp al ag fs)
include h
theorem Vf{d:Int}(hd:∃a∈ag,a.1=la d):∃p0 l,fh gd (la d) (l8 al ag)=Z (p0::l)/\aa l<=65:=by let ⟨p0,l,hp,hl,_,_⟩:=h.It hd;let ⟨a,ha,hid⟩:=hd;exact⟨p0,l,by rw[<-hid,h.D1 ha,hid];exact hp,hl⟩
theorem bG2{cs:cu eD}(hc:Lh ag cs){c:eD}(hm:c∈cs):JG (l8 al ag) c:=by let ⟨_,h1,h2⟩:=hc.od c hm;refine⟨by omega,λd hd=>?_⟩;let ⟨g1,_,g3⟩:=h2 d hd;let ⟨p0,l,hl,a⟩:=h.Vf g3;exact⟨g1,p0,l,hl,by omega⟩
theorem Vg{cs:cu eD}(hc:Lh ag cs):Be ((al,ag,fs),cs,l8 al ag)=Z (sL al ag (l8 al ag) cs):=by
 have H:aa al<=256:=by have:=h.AD;simp only[wT,ab,kA]at this;exact this.1
 unfold Be;refine(vF (A:=cu eD×cu Ct) cs (λi a=>(a.1,(i:Int),U,a.2))
  (λa rest=>Z (ru al ag (l8 al ag) al (sw (l8 al ag) (a.1++rest.filter λc=>!decide (0<l5 al ag c)) ((a.2.map λx=>(x.1,x.2.1,[],[]))++(rest.filter λc=>No (0<l5 al ag c)).map λc=>(l5 al ag c,c,[],[])))))
  (λi a=>aa a.1<=i/\aa a.2<=i+1/\a.2≠[]/\(∀c∈a.1,c∈cs)/\∀x∈a.2.tail,x.2.1∈cs) (by have:=hc.len;omega) ?_ ?_ ([],[(0,[],(),())]) ⟨by simp,by simp,by simp,by simp,by simp⟩).trans ?_
 intro rec a I;let ⟨i1,i2,i3,i4,i5⟩:=I;have hlen:=hc.len;have v:zs (λx:Ct=>((x.1,x.2.1,([]:cu eD),([]:eD)):kI)) a.2=Z (a.2.map λx=>(x.1,x.2.1,[],[])):=by
  unfold zs;have:No (16*aa a.2<=tY)=Y:=by simp only[kA,tY];omega
  rw[this];rfl
 simp only[kj,v,List.filter_nil,ba,cM];have hA:vr (l8 al ag) (a.2.map λx=>((x.1,x.2.1,[],[]):kI)) (aa a.2-1) 0 0:=by
  obtain⟨y,l,hl⟩:∃y l,a.2=y::l:=by
   cases J:a.2 with
   |nil=>exact b8 J i3
   |cons y l=>exact⟨y,l,rfl⟩
  rw[hl]at i5⊢;refine⟨by simp,λb w=>?_,λb w=>?_,λb w=>?_⟩;obtain⟨x,f,rfl⟩:=aN.1 w;exact h.bG2 hc (i5 x f);obtain⟨x,f,rfl⟩:=aN.1 w;simp;obtain⟨x,f,rfl⟩:=aN.1 w;simp
 generalize hL0:(a.2.map λx=>((x.1,x.2.1,[],[]):kI))=pL at *;have hnl:aa a.2-1<=1000000:=by omega
 generalize aa a.2-1=S at *;generalize hR:a.1=R at *;refine(vF (A:=cu kI) R (λi L=>((i:Int),L)) (λL rest=>Z (ru al ag (l8 al ag) al (sw (l8 al ag) rest L))) (λi L=>vr (l8 al ag) L S i 0) (by omega) ?_ ?_ pL hA);intro rec L g;simp only[kj,sw];refine(vF (A:=cu kI) al (λi L=>((i:Int),L)) (λL rest=>Z (ru al ag (l8 al ag) rest L)) (λi L=>vr (l8 al ag) L S (aa R) i) (by omega) ?_ ?_ L g);intro rec L g;simp only[kj,bu,ru];intro rec j L n rest hj g hd t;have z:ek ((j:Int)+1)=((j+1:Nat):Int):=f' (n:=2000000) (by omega);have B:=MR al ag fs n.1 (by have:=h.pA;omega);have e3:No (((na ag n.1:Nat):Int)=0)=No (na ag n.1=0):=by by_cases hz:na ag n.1=0<;>simp
 simp only[fB hj,fm hd,bT,B,e3,z,ru];cases hz:No (na ag n.1=0)with
 |false =>exact t L ⟨g.len,g.out,g.z8,λx f=>by have:=g.zC x f;omega⟩
 |true=>
  let ⟨s,l,o⟩:=g.cons;have u:aa l<=1000000:=by have:=g.len;rw[o]at this;simp at this;omega
  have m:=g.Vq n.2;have p:=t _ (g.p_ (k:=oI (l8 al ag) L n.2) n.1);have C:=g.zC;have q:=g.out;subst o;refine(an3 (β:=cu kI) (l8 al ag) n.2 s l u q _).trans ?_;generalize oI (l8 al ag) (s::l) n.2=k at *;have hk:=af m;have K:=C _ (au m);generalize(s::l)[k]'m=y at *;have M:(No (0<=(k:Int))&&No ((k:Int)<((aa (s::l):Nat):Int)))=Y:=by simp only[ab,kA];omega
  have e:j6 8 y.2.2.2 [n.1]=Z (y.2.2.2++[n.1]):=m9;simp only[aO,hk,ai,bT,M,uM,e,qI];simp only[p_,hk]at p⊢;exact p
 intro rec j L c rest hj g hd t;have r:c∈cs:=by
  refine i4 c ?_;have:c∈R.drop j:=by rw[hd];simp
  exact aC this
 let ⟨c1,c2,N⟩:=hc.od c r;obtain⟨d,eS,rfl⟩:∃d eS,c=d::eS:=by cases c;exact b8 rfl c1;rename_i d eS;exact⟨d,eS,rfl⟩
 let ⟨⟨d1,d2⟩,_,g3⟩:=N d (by simp);let ⟨p0,pl,D,_⟩:=h.Vf g3;have e1:ek (0-d)=-d:=by rw[fx];omega
 have z:ek ((j:Int)+1)=((j+1:Nat):Int):=f' (n:=2000000) (by omega);have e3:(No (0<=(j:Int))&&No ((j:Int)<((aa R:Nat):Int)))=Y:=by simp only[ab,kA];omega
 have O:R[j]?=Z (d::eS):=by rw[<-zB];exact fm hd
 have n0:nth (d::eS) (0:Int)=Z d:=by have:=zB (d::eS) 0;exact this
 have n1:nth (p0::pl) (0:Int)=Z p0:=by have:=zB (p0::pl) 0;exact this
 have E:fh (λ(a b:Int)=>No (a=b)) (max d (-d)) (l8 al ag)=Z (p0::pl):=D;have e5:oD (Z (p0::pl)) (W:dv eY)=Z (p0::pl):=rfl;have P:rq (l8 al ag) (d::eS)=p0:=by simp[rq,D]
 simp only[fB hj,bT,aO,O,ai,n0,e1,yP,E,z,sw,P];let ⟨s,l,o⟩:=g.cons;have u:aa l<=1000000:=by have:=g.len;rw[o]at this;simp at this;omega
 have m:=g.Vq p0;have p:=t _ (g.oY (k:=oI (l8 al ag) L p0) (d::eS));have G:=g.z8;have q:=g.out;subst o;refine(an3 (β:=cu kI) (l8 al ag) p0 s l u q _).trans ?_;generalize oI (l8 al ag) (s::l) p0=k at *;have hk:=af m;have K:=G _ (au m);generalize(s::l)[k]'m=y at *;have M:(No (0<=(k:Int))&&No ((k:Int)<((aa (s::l):Nat):Int)))=Y:=by simp only[ab,kA];omega
 have e:j6 24 y.2.2.1 [d::eS]=Z (y.2.2.1++[d::eS]):=m9;simp only[aO,hk,ai,bT,M,uM,e,qI];simp only[oY,hk]at p⊢;exact p;intro rec i a c rest a7 I hd t;let ⟨i1,i2,i3,i4,i5⟩:=I;have r:c∈cs:=by
  have:c∈cs.drop i:=by rw[hd];simp
  exact aC this
 let ⟨c1,c2,N⟩:=hc.od c r;have Q:=h.Uj c2 N;have z:ek ((i:Int)+1)=((i+1:Nat):Int):=f' (n:=2000000) (by have:=hc.len;omega);have hlen:=hc.len;simp only[fB a7,fm hd,bT,Q,z];by_cases ht:0<l5 al ag c;have e:j6 80 a.2 [(l5 al ag c,c,(),())]=Z (a.2++[(l5 al ag c,c,(),())]):=m9;simp only[ e,bT];have:=t (a.1,a.2++[(l5 al ag c,c,(),())]) ⟨by show aa a.1<=i+1;omega,by simp;omega,by simp,i4,λx f=>?_⟩;rw[this];simp[ht];obtain⟨y,l,hl⟩:∃y l,a.2=y::l:=by
  cases J:a.2 with
  |nil=>exact b8 J i3
  |cons y l=>exact⟨y,l,rfl⟩
 simp only[hl,lF]at f i5;rcases aV.1 f with f|f
 exact i5 x f;simp at f;subst f;exact r;have e:j6 24 a.1 [c]=Z (a.1++[c]):=m9;simp only[ e,bT];have:=t (a.1++[c],a.2) ⟨by simp;omega,by show aa a.2<=i+1+1;omega,i3,λx f=>?_,i5⟩;rw[this];simp[ht];rcases aV.1 f with f|f
 exact i4 x f;simp at f;subst f;exact r;simp[sL,AW]
end fp
def aG0(D S:eD):pV D S<=aa D:=cB _ _
def ND{gA:Int->Int}{D:eD}(b:∀d∈D,gA d∈D):∀(n:Nat) (S:eD) (d:Int) (c:eD),d∈D->(∀x∈c,x∈D) ->
  (∀x∈(rn gA n S d c).1,x∈D)/\(rn gA n S d c).1.length+pV D (rn gA n S d c).2<=aa c+pV D S/\aa c<=(rn gA n S d c).1.length
 | 0,S,d,c,_,hc=>by simp only[rn];exact⟨hc,by omega,by omega⟩
 |n+1,S,d,c,hd,hc=>by
  unfold rn;split;exact⟨hc,ay _,ay _⟩;rename_i hs;let ⟨h1,h2,e⟩:=ND b n (S++[d]) (gA d) (c++[d]) (b d hd) (λx a=>by
   rcases aV.1 a with a|a
   exact hc x a;simp at a;subst a;exact hd)
  have:=N' hd hs;simp only[aL,fU]at h2 e;exact⟨h1,by omega,by omega⟩
def NH{gA:Int->Int}{D:eD}(a:∀d∈D,gA d∈D):∀(b S:eD) (acc:cu eD),(∀d∈b,d∈D)->(∀c∈acc,c≠[]/\aa c<=aa D/\∀d∈c,d∈D) ->
  aa (qW gA D b S acc)<=aa acc+aa b/\∀c∈qW gA D b S acc,c≠[]/\aa c<=aa D/\∀d∈c,d∈D
 | [],S,acc,_,ha=>by simp only[qW];exact⟨by simp,ha⟩
 |d::b,S,acc,hd,ha=>by
  unfold qW;split;let ⟨h1,h2⟩:=NH a b S acc (λx f=>hd x (by simp[f])) ha;exact⟨by simp only[aA];omega,h2⟩;rename_i hs;have e:=hd d (by simp);let ⟨g1,g2,g3⟩:=ND a (pV D S+1) S d [] e (by simp);have g:(rn gA (pV D S+1) S d []).1≠[]:=by unfold rn;rw[cc hs];have:=(ND a (pV D S) (S++[d]) (gA d) ([]++[d]) (a d e) (by simpa using e)).2.2;intro he;rw[he]at this;simp at this
  let ⟨h1,h2⟩:=NH a b (rn gA (pV D S+1) S d []).2 (acc++[(rn gA (pV D S+1) S d []).1]) (λx f=>hd x (by simp[f])) (λc hc=>by
   rcases aV.1 hc with hc|hc
   exact ha c hc;simp at hc;subst hc;have:=aG0 D S;simp only[cP]at g2;exact⟨g,by omega,g1⟩)
  simp only[aL,fU]at h1;exact⟨by simp only[aA];omega,h2⟩
namespace fp
variable {al:gp} {ag:hI} {fs:eD} (h:fp al ag fs)
include h
theorem wK:Lh ag (l9 al ag):=by
 have e:=h.MJ;let ⟨h1,h2⟩:=NH (gA:=ki al ag) (D:=ny al ag) (λd hd=>h.qK hd) ((ny al ag).mergeSort λa b=>No (a<=b)) [] [] (λd hd=>(cO _ _).mem_iff.1 hd) (by simp);have hl:aa ((ny al ag).mergeSort λa b=>No (a<=b))=aa (ny al ag):=(cO _ _).length_eq;refine⟨by show aa (qW ..)<=_;simp only[cP]at h1;omega,λc hc=>?_⟩;let ⟨g1,g2,g3⟩:=h2 c hc;refine⟨g1,by omega,λd hd=>?_⟩;let ⟨a,ha,he⟩:=h.uP.1 (g3 d hd);have f:=h.num ha;refine⟨?_,?_,a,ha,?_⟩;unfold nY;rcases he with rfl|rfl<;>omega
 rcases he with rfl|rfl<;>omega
 unfold la;rcases he with rfl|rfl<;>omega
end fp
structure rh(L:List kI)(i:Nat):Prop where
 all:∀a∈L,((∀d∈a.2.1,nY d)/\aa a.2.1<=1000000)/\(∀c∈a.2.2.1,(∀d∈c,nY d)/\aa c<=1000000)/\aa a.2.2.1<=i
 ne:∀a∈L.tail,a.2.1≠[]
theorem rh.oY{L:cu kI}{i k:Nat}(h:rh L i){c:eD}(hc:(∀d∈c,nY d)/\aa c<=1000000):rh (oY L k c) (i+1):=by
 unfold Go.Ab.oY;cases f:L[k]? with
 |none=>exact⟨λa ha=>by let ⟨h1,h2,g⟩:=h.all a ha;exact⟨h1,h2,by omega⟩,h.ne⟩
 |some x=>
  have e:=aH f;refine⟨λa ha=>?_,λa ha=>?_⟩;rcases cF ha with ha|rfl
  let ⟨h1,h2,g⟩:=h.all a ha;exact⟨h1,h2,by omega⟩;let ⟨h1,h2,g⟩:=h.all x e;refine⟨h1,λj b=>?_,by simp;omega⟩;rcases aV.1 b with b|b
  exact h2 j b;simp at b;subst b;exact hc;rcases IC ha with ha|⟨rfl,hk,_⟩
  exact h.ne a ha;exact h.ne x (Jt f hk)
theorem rh.p_{L:cu kI}{i k:Nat}(h:rh L i)(n:Int):rh (p_ L k n) i:=by
 unfold Go.Ab.p_;cases c:L[k]? with
 |none=>exact h
 |some x=>
  have b:=aH c;refine⟨λa ha=>?_,λa ha=>?_⟩;rcases cF ha with ha|rfl
  exact h.all a ha;exact h.all x b;rcases IC ha with ha|⟨rfl,hk,_⟩
  exact h.ne a ha;exact h.ne x (Jt c hk)
def rh.sw{m:cu (Int×eY)}:∀(r:cu eD) (L:cu kI) (i:Nat),rh L i->(∀c∈r,(∀d∈c,nY d)/\aa c<=1000000)->rh (sw m r L) (i+aa r)
 | [],L,i,h,_=>h
 |c::r,L,i,h,a=>by have:=rh.sw (m:=m) r _ (i+1) (h.oY (k:=oI m L (rq m c)) (a c (by simp))) (λx b=>a x (by simp[b]));simp only[Go.Ab.sw,aA];rw[show i+(aa r+1)=i+1+aa r by omega];exact this
def rh.ru{al:gp}{ag:hI}{m:cu (Int×eY)}{i:Nat}:∀(r:gp) (L:cu kI),rh L i->rh (ru al ag m r L) i
 | [],L,h=>h
 |n::r,L,h=>by
  simp only[Go.Ab.ru];cases No (na ag n.1=0)with
  |false=>exact rh.ru r L h
  |true=>exact rh.ru r _ (h.p_ n.1)
def aA6{m:cu (Int×eY)}:∀(r:cu eD) (L:cu kI),aa (sw m r L)=aa L
 | [],L=>rfl
 |c::r,L=>by simp only[sw];rw[aA6 r];unfold oY;cases L[oI m L (rq m c)]?<;>simp
def at7{al:gp}{ag:hI}{m:cu (Int×eY)}:∀(r:gp) (L:cu kI),aa (ru al ag m r L)=aa L
 | [],L=>rfl
 |n::r,L=>by
  simp only[ru];rw[at7 r];cases No (na ag n.1=0)with
  |false=>rfl
  |true =>unfold p_;cases L[oI m L n.2]?<;>simp
open fp (l9)
def fp.Ih{al:gp}{ag:hI}{fs:eD}(h:fp al ag fs):rh (sL al ag (l8 al ag) (l9 al ag)) 512/\aa (sL al ag (l8 al ag) (l9 al ag))<=1000000:=by
  have hc:=h.wK;have g:rh (sL al ag (l8 al ag) (l9 al ag)) 512:=by
   have e:∀c∈l9 al ag,(∀d∈c,nY d)/\aa c<=1000000:=λc b=>by let ⟨_,g2,g3⟩:=hc.od c b;exact⟨λd hd=>(g3 d hd).1,by omega⟩
   have f:rh (AW al ag (l9 al ag)) 0:=by
    refine⟨λa ha=>?_,λa ha=>?_⟩;rcases aG.1 ha with rfl|ha
    simp;obtain⟨c,b,rfl⟩:=aN.1 ha;exact⟨e c (aY.1 b).1,by simp,by simp⟩;obtain⟨c,b,rfl⟩:=aN.1 ha;exact(hc.od c (aY.1 b).1).1
   have:=rh.ru (al:=al) (ag:=ag) (m:=l8 al ag) al _ (rh.sw (m:=l8 al ag) ((l9 al ag).filter λc=>!decide (0<l5 al ag c)) _ 0 f (λc b=>e c (aY.1 b).1));refine⟨λa ha=>?_,this.ne⟩;let ⟨h1,h2,i⟩:=this.all a ha;have hl:=cB (λc=>!decide (0<l5 al ag c)) (l9 al ag);have:=hc.len;exact⟨h1,h2,by omega⟩
  have hlen:aa (sL al ag (l8 al ag) (l9 al ag))<=1000000:=by unfold sL;rw[at7,aA6];have hl:=cB (λc=>No (0<l5 al ag c)) (l9 al ag);have:=hc.len;simp only[AW,aA,aI];omega
  exact⟨g,hlen⟩
def tH(al:gp)(ag:hI)(fs:eD):Int:=cond (tJ al ag fs=0) (cond (oH ag (aa fs) Y (sL al ag (l8 al ag) (l9 al ag)) [] []).2 0 12) <|tJ al ag fs
def bn8(al:gp)(ag:hI)(fs:eD):IB (al,ag,fs)=Z (tH al ag fs):=by unfold IB tH;by_cases hp:tJ al ag fs=0;have h:=De.1 hp;have hc:=h.wK;let ⟨b,hlen⟩:=h.Ih;have hf:=h.Vo (l:=sL al ag (l8 al ag) (l9 al ag)) hlen (λa ha=>by let ⟨h1,h2,c⟩:=b.all a ha;exact⟨h1,h2,by omega⟩) b.ne;simp only[h.RE,bT,h.Yg,h.Vg hc,hf,hp];cases(oH ag (aa fs) Y (sL al ag (l8 al ag) (l9 al ag)) [] []).2<;>rfl;simp only[bn1 hp,bT,hp,n4,aQ,b6,bu]
end Go.Ab
namespace Go.Ab
open Go Go.Sort Go.Proofs Go.Shelf
def yM:gp:=[(32,32,0),(39,41,0),(45,46,0),(48,57,0),(65,90,1),(97,122,1),(192,214,1),(216,246,1),(248,591,1),(880,1023,2),(1024,1279,3),(1488,1514,4),(19968,40959,5)]
def Cp(c:Int):gp->Int
 | []=>-1
 |r::l=>cond (r.1<=c&&c<=r.2.1) r.2.2 <|Cp c l
def qU(r:Int):Int:=cond (r<0||1114111<r) (-1) <|Cp r yM
def Ik(r:Int):Fe r=Z (qU r):=by
 unfold Fe qU;by_cases h1:r<0;simp[h1];by_cases h2:(1114111:Int)<r;simp[h1,h2];have c:IntKind.i32.wrap r=r:=IntWalk.i32_in r ⟨by omega,by omega⟩;simp only[h1,h2,n4,bu,jq,c,Vz,bT];refine mP (A:=Unit) yM (λi _=>(i:Int)) (λ_ rest=>Z (Cp r rest)) (by simp[yM]) ?_ ?_ ();intro rec a;simp[yM,Cp];intro rec i a x rest a7 hd d;have e:No ((i:Int)<13)=Y:=by grind[yM,aA,cP]
 have b:nth yM (i:Int)=Z x:=fm hd;have f:ek ((i:Int)+1)=((i+1:Nat):Int):=f' (n:=100) (by grind);simp only[yM]at b;simp only[e,b6,b,bT,f,Cp];have:=d ()
 grind
def Rj(b:ByteArray)(n:Nat):1<=(cg b n).2/\(cg b n).2<=4/\(cg b n).1<=2097151:=by grind[Lib.decode_at,Lib.decodeN]
set_option maxRecDepth 10000
namespace Dp
def ce0(x:Int):x<0\/(0<=x/\x<32)\/x=32\/(32<x/\x<39)\/x=39\/x=40\/x=41\/(41<x/\x<45)\/x=45\/x=46\/x=47\/(48<=x/\x<=57)\/(57<x/\x<65)\/(65<=x/\x<=90)\/(90<x/\x<97)\/(97<=x/\x<=122)\/(122<x/\x<192)\/(192<=x/\x<=214)\/x=215\/(216<=x/\x<=246)\/x=247\/(248<=x/\x<=591)\/(591<x/\x<880)\/(880<=x/\x<=1023)\/(1024<=x/\x<=1279)\/(1279<x/\x<1488)\/(1488<=x/\x<=1514)\/(1514<x/\x<19968)\/(19968<=x/\x<=40959)\/(40959<x/\x<=1114111)\/1114111<x:=by omega
def aq8(x:Int):EE x=Z (qU x):=by
 unfold EE Mm qU yM;simp only[Cp,Cj];rcases ce0 x with h|h|h|h|h|h|h|h|h|h|h|h|h|h|h|h|h|h|h|h|h|h|h|h|h|h|h|h|h|h|h
 all_goals simp(disch:=omega) only [hT,fc,b6,bu,bT,fQ,jZ,bQ,gC,Bool.or_true,Bool.or_false,Bool.true_or,cR,bG,jq,ar,aQ]
def ca9{x:Int}(h:0<=qU x):0<=x/\x<=40959:=by
 unfold qU at h;by_cases c:x<0\/1114111<x
 grind
 refine⟨by omega,fV λa=>?_⟩;have:(No (x<0)||No (1114111<x))=U:=by grind[dM,decide_eq_false]
 rw[this,bu]at h;unfold yM at h;simp(disch:=omega) only [Cp,hT,fc,b6,bu,fQ,jZ,bQ,gC,bG]at h;omega
def fA(b:ByteArray):cu Nat:=b.data.toList.map (·.toNat)
def Gy(b:ByteArray):aa (fA b)=b.size:=by unfold fA;rw[aI];rfl
def be8{b:ByteArray}{i n:Nat}(h:(fA b)[i]?=Z n):n<256:=by
 unfold fA at h;rw[aS]at h;cases a:b.data.toList[i]? with
 |none=>rw[a]at h;cases h
 |some x=>rw[a]at h;cases h;exact x.toNat_lt
def QV{b:ByteArray}{i:Nat}(h:i<b.size):(fA b)[i]?=Z (b.get! i).toNat:=by
 unfold fA;let ⟨d⟩:=b;have h':i<d.size:=h;have e:(bU d).get! i=d[i]:=by show d[i]! = d[i];rw[getElem!_pos d i h']
 grind
def Gc(b:ByteArray)(i:Nat):pE b (i:Int)=((fA b)[i]?).map (λ(n:Nat)=>(n:Int)):=by
 unfold pE fA;rw[hT (by omega:(0:Int)<=(i:Int)),b6,aO,aS,Option.map_map];let ⟨d⟩:=b;by_cases h:i<d.size;have e:(bU d)[i]?=Z d[i]:=getElem?_pos (bU d) i h
 grind
 have e:(bU d)[i]?=W:=getElem?_neg (bU d) i h
 grind
def aZ2{b:ByteArray}{i j:Nat}(h:i<=j)(hj:j<=b.size):∃s,D8 b (Z (i:Int)) (Z (j:Int))=Z s/\fA s=((fA b).drop i).take (j-i)/\s.size=j-i:=by
 refine⟨b.extract i j,?_,?_,?_⟩;unfold D8 yi;simp[h,hj];unfold fA
 grind[List.map_drop,List.map_take,ByteArray.data_extract,Array.toList_extract,List.extract_eq_take_drop]
 rw[ByteArray.size_extract];omega
def SL{a b:ByteArray}:(a.toList==b.toList)=No (fA a=fA b):=by
 rw[jz,jz,dc,beq_iff_eq,decide_eq_true_iff];unfold fA
 grind[List.map_inj_right,kX]
def ue:cu Nat->Nat
 | [a]=>a
 | [a,b]=>a%32*64+b%64
 | [a,b,c]=>a%16*4096+b%64*64+c%64
 |_=>0
def wZ(v:Nat):cu Nat:=ite (v<128) [v] <|ite (v<2048) [192+v / 64,128+v%64] [224+v / 4096,128+v / 64%64,128+v%64]
def ba2{s:ByteArray}(h:1<=s.size/\s.size<=3):HY s=Z (ue (fA s):Int):=by
 have hl:=Gy s;have lt:∀n∈fA s,n<256:=λn f=>by let ⟨i,a7⟩:=List.mem_iff_getElem?.1 f;exact be8 a7
 have n0:=Gc s 0;have e:=Gc s 1;have g:=Gc s 2;unfold HY;generalize fA s=L at *
 match L,hl,lt with
 | [],hl,_=>simp at hl;omega
 | [a],hl,lt=>
  have ha:=lt a (by simp)
  grind[decide_eq_true,pE,ch,bT,ue,fx]
 | [a,b],hl,lt=>
  have ha:=lt a (by simp);have j:=lt b (by simp);rw[fc (by simp at hl;omega),bu,hT (by simp at hl;omega),b6,show pE s 0=_ from n0,show pE s 1=_ from e];simp only[ch,aK,ai,bT,ue]
  grind[fx,bT]
 | [a,b,c],hl,lt=>
  have ha:=lt a (by simp);have j:=lt b (by simp);have hc:=lt c (by simp);rw[fc (by simp at hl;omega),bu,fc (by simp at hl;omega),bu,show pE s 0=_ from n0,show pE s 1=_ from e,show pE s 2=_ from g];simp only[ch,aK,ai,bT,ue]
  grind[fx,bT]
 |a::b::c::d::r,hl,_=>simp at hl;omega
def QQ(l:cu Nat)(h:∀n∈l,n<256):fA (zP (l.map (λ(n:Nat)=>(n:Int))))=l:=by
 unfold fA zP;simp only[List.map_map]
 conv=>rhs;rw[<-List.map_id l]
 grind[List.map_congr_left,aO,UInt8.toNat_ofNat_of_lt']
def u8{n:Nat}(h:n<256:=by omega):fu.wrap (n:Int)=(n:Int):=by show(n:Int)%256=n;omega
def bS0{v:Nat}(h:v<65536):∃u,H7 (v:Int)=Z u/\fA u=wZ v:=by
 unfold H7 wZ;have a:(v:Int).tdiv 64=((v / 64:Nat):Int):=rfl;have b:(v:Int).tmod 64=((v%64:Nat):Int):=rfl;have c:(v:Int).tdiv 4096=((v / 4096:Nat):Int):=rfl;have d:((v / 64:Nat):Int).tmod 64=((v / 64%64:Nat):Int):=rfl;by_cases h1:v<128;rw[hT (by omega),b6,cr h1,u8];exact⟨_,rfl,QQ [v] (by simp;omega)⟩;rw[fc (by omega),bu,cc h1];by_cases h2:v<2048;rw[hT (by omega),b6,cr h2,a,b,fc (by omega),bu,bu,bT,bT,fx (n:=((v / 64:Nat):Int)),
  show(192:Int)+((v / 64:Nat):Int)=((192+v / 64:Nat):Int)by omega,show(128:Int)+((v%64:Nat):Int)=((128+v%64:Nat):Int)by omega,fx,fx,u8,u8]
 exact⟨_,rfl,QQ [192+v / 64,128+v%64] (by simp;omega)⟩;have d1:No ((64:Int)=0)=U:=by decide
 have d2:No ((4096:Int)=0)=U:=by decide
 rw[fc (by omega),bu,cc h2];simp only[d1,d2,bu,bT,a,b,c];rw[fx (n:=((v / 64:Nat):Int)),d,fx (n:=((v / 4096:Nat):Int)),
  show(224:Int)+((v / 4096:Nat):Int)=((224+v / 4096:Nat):Int)by omega,show(128:Int)+((v%64:Nat):Int)=((128+v%64:Nat):Int)by omega,show(128:Int)+((v / 64%64:Nat):Int)=((128+v / 64%64:Nat):Int)by omega,fx,fx,fx,u8,u8,u8]
 exact⟨_,rfl,QQ [224+v / 4096,128+v / 64%64,128+v%64] (by simp;omega)⟩
end Dp
namespace Dp
def Ck(L:cu Nat)(i r n:Nat):Prop :=
 (r<128/\n=1/\L[i]?=Z r)\/(128<=r/\r<2048/\n=2/\L[i]?=Z (192+r / 64)/\L[i+1]?=Z (128+r%64)) \/
 (2048<=r/\r<65536/\n=3/\L[i]?=Z (224+r / 4096)/\L[i+1]?=Z (128+r / 64%64)/\L[i+2]?=Z (128+r%64))
def aH3{b:ByteArray}{i:Nat}(a7:i<b.size)(hs:0<=qU ((cg b i).1:Int)):Ck (fA b) i (cg b i).1 (cg b i).2:=by
 have hle:=(ca9 hs).2;rw[Lib.decode_at]at hle⊢;have a:=(b.get! i).toNat_lt;have h1:=(b.get! (i+1)).toNat_lt;have h2:=(b.get! (i+2)).toNat_lt;have g0:=QV a7;have g1:i+1<b.size->_:=λh=>QV (b:=b) (i:=i+1) h;have g2:i+2<b.size->_:=λh=>QV (b:=b) (i:=i+2) h;generalize(b.get! i).toNat=c at *;generalize(b.get! (i+1)).toNat=d at *;generalize(b.get! (i+2)).toNat=e at *;generalize(b.get! (i+3)).toNat=f at *;unfold Lib.decodeN at hle⊢
 grind[Ck,left]
def Runes(L:cu Nat):Nat->eD->Prop
 |i,[]=>i=aa L
 |i,c::cs=>∃r n:Nat,c=(r:Int)/\Ck L i r n/\0<=qU c/\Runes L (i+n) cs
def ag4{L:cu Nat}{i r n:Nat}(h:Ck L i r n):i+n<=aa L/\1<=n/\n<=3/\r<65536:=by
 have key:∀ {k x},L[k]?=Z x->k<aa L:=λ{k x} e=>by grind[cU,List.getElem?_eq_none]
 rcases h with⟨h1,rfl,h2⟩|⟨h1,h2,rfl,b,a⟩|⟨h1,h2,rfl,b,a,c⟩
 have:=key h2;omega;have:=key a;omega;have:=key c;omega
def DI{L:cu Nat}{i a:Nat}(h:L[i]?=Z a):L.drop i=a::L.drop (i+1):=by grind[aq,bJ]
theorem au6{v:Nat}(h:v<128):wZ v=[v]:=by unfold wZ;rw[cr h]
theorem Hh{v:Nat}(h:128<=v)(h':v<2048):wZ v=[192+v / 64,128+v%64]:=by grind[wZ]
theorem bS1{v:Nat}(h:2048<=v):wZ v=[224+v / 4096,128+v / 64%64,128+v%64]:=by grind[wZ]
def W5{L:cu Nat}{p n:Nat}(b:1<=n/\n<=3)(hp:p+n<=aa L)(h:wZ (ue ((L.drop p).take n))=(L.drop p).take n):Ck L p (ue ((L.drop p).take n)) n:=by
 have get:∀k,k<aa L->∃a,L[k]?=Z a:=λk hk=>⟨_,af hk⟩;let ⟨a,ha⟩:=get p (by omega);rw[DI ha]at h⊢;have:n=1\/n=2\/n=3:=by omega
 rcases this with rfl|rfl|rfl
 have e:ue ([a])=a:=rfl;simp only[gk,jr]at h⊢;rw[e]at h⊢;unfold wZ at h;split at h;exact .inl ⟨by assumption,rfl,ha⟩;split at h<;>simp at h;let ⟨c,hc⟩:=get (p+1) (by omega);rw[DI hc]at h⊢;simp only[gk,jr]at h⊢;generalize ue [a,c]=v at h⊢;unfold wZ at h;split at h;simp at h;split at h;simp only[cW,and_true]at h;exact .inr (.inl ⟨by omega,by assumption,rfl,by rw[ha,h.1],by rw[hc,h.2]⟩);simp at h;let ⟨c,hc⟩:=get (p+1) (by omega);let ⟨d,hd⟩:=get (p+2) (by omega);rw[DI hc,show p+1+1=p+2 by omega,DI hd]at h⊢;simp only[gk,jr]at h⊢;have hv:ue [a,c,d]<65536:=by simp only[ue];omega
 generalize ue [a,c,d]=v at h hv⊢;unfold wZ at h;split at h;simp at h;split at h;simp at h;simp only[cW,and_true]at h;exact .inr (.inr ⟨by omega,hv,rfl,by rw[ha,h.1],by rw[hc,h.2.1],by rw[hd,h.2.2]⟩)
def Lk{b:ByteArray}{i r n:Nat}(st:Ck (fA b) i r n)(hs:0<=qU (r:Int)):cg b i=(r,n):=by
 have hle:=(ca9 hs).2;have d:=Gy b;have mY:=ag4 st;have at':∀ {k x},(fA b)[k]?=Z x->(b.get! k).toNat=x:=λ{k x} e=>by have hk:=(aq.1 e).1;rw[QV (by omega)]at e;exact aJ e
 rw[Lib.decode_at];generalize f:(b.get! (i+3)).toNat=h;rcases st with⟨h1,rfl,h2⟩|⟨h1,h2,rfl,a,c⟩|⟨h1,h2,rfl,a,c,g⟩
 rw[at' h2];unfold Lib.decodeN;rw[cr h1];rw[at' a,at' c];unfold Lib.decodeN;rw[cc (by omega),cr ⟨by omega,by omega,by omega⟩,cr (by omega)];exact fC (by show(192+r / 64)%32*64+(128+r%64)%64=r;omega) rfl;rw[at' a,at' c,at' g];unfold Lib.decodeN;rw[cc (by omega),cc (by omega),cr ⟨by omega,⟨by omega,by omega⟩,by omega,by omega⟩,cr ⟨by omega,.inl (by omega)⟩];exact fC (by show(224+r / 4096)%16*4096+(128+r / 64%64)%64*64+(128+r%64)%64=r;omega) rfl
def step_take{L:cu Nat}{i r n:Nat}(h:Ck L i r n):ue ((L.drop i).take n)=r/\wZ r=(L.drop i).take n:=by
 rcases h with⟨h1,rfl,h2⟩|⟨h1,h2,rfl,a,b⟩|⟨h1,h2,rfl,a,b,c⟩
 rw[DI h2];exact⟨rfl,au6 h1⟩;rw[DI a,DI b];exact⟨by simp[ue];omega,Hh h1 h2⟩;rw[DI a,DI b,DI c];exact⟨by simp[ue];omega,bS1 h1⟩
def CK(b:ByteArray)(p:Nat)(acc:eD)(o:dv (eD×Int)):Prop:=∃l e,o=Z (l,e)/\(e=0->∃t,l=acc++t/\Runes (fA b) p t/\aa l<=b.size)/\∀t,Runes (fA b) p t->e=0
section
variable {b:ByteArray} {p r n:Nat} {acc l:eD}
def Sm(h:p=b.size)(hl:aa acc<=p):CK b p acc (Z (acc,0)):=⟨_,_,rfl,λ_=>⟨[],by simp,by rw[h];exact(Gy b).symm,by omega⟩,λ_ _=>rfl⟩
def Sx(hp:p<b.size)(h:∀r n,Ck (fA b) p r n->0<=qU (r:Int)->False):CK b p acc (Z (l,4)):=⟨_,_,rfl,λe=>by(cases e),λt a=>by
 cases t;have:p=aa (fA b):=a;rw[Gy]at this;omega;rename_i c cs;obtain⟨r,n,rfl,st,hs,_⟩:=a;exact(h r n st hs).elim⟩
def Si{o:dv (eD×Int)}(st:Ck (fA b) p r n)(hs:0<=qU (r:Int))(h:CK b (p+n) (acc++[(r:Int)]) o):CK b p acc o:=by let ⟨l,e,i,h1,h2⟩:=h;refine⟨l,e,i,λj=>?_,λt a=>?_⟩;obtain⟨t,rfl,a,hl⟩:=h1 j;exact⟨r::t,by simp,⟨r,n,rfl,st,hs,a⟩,hl⟩;cases t;have:p=aa (fA b):=a;have:=ag4 st;omega;rename_i c cs;obtain⟨k,m,rfl,d,f,g⟩:=a;have:=(Lk st hs).symm.trans (Lk d f);simp only[iq]at this;obtain⟨rfl,rfl⟩:=this;exact h2 cs g
def RS:∀ {x y:eD} {p:Nat},Runes (fA b) p x->Runes (fA b) p y->x=y
 | [],[],_,_,_=>rfl
 | [],c::cs,_,h,⟨r,n,_,st,_⟩=>by have:=ag4 st;have h:_=aa (fA b):=h;omega
 |c::cs,[],_,⟨r,n,_,st,_⟩,h=>by have:=ag4 st;have h:_=aa (fA b):=h;omega
 |c::cs,i::g,p,⟨r,n,e,st,hs,h⟩,⟨j,k,f,a,d,h'⟩=>by have:=(Lk st (e▸hs)).symm.trans (Lk a (f▸d));simp only[iq]at this;obtain⟨rfl,rfl⟩:=this;rw[e,f,RS h h']
theorem aA0(d:b.size<=1000):CK b 0 [] (Bj b):=by
 unfold Bj;refine bI2 (λx:eD×Int=>∃p:Nat,x.2=(p:Int)/\p<=b.size/\aa x.1<=p) (b.size-·.2.toNat) (λx o=>CK b x.2.toNat x.1 o) ?_ (x:=([],0)) ⟨0,rfl,by omega,by simp⟩ (by omega);rintro rec ⟨acc,q⟩ ⟨p,e,hp,hl⟩ c;simp only at e hl;subst e;simp only[aO];by_cases a:p<b.size;have hs:Cu b (p:Int)=Z ((p:Int),((cg b p).1:Int),((p+(cg b p).2:Nat):Int)):=by unfold Cu;simp[a]
 let ⟨f,g,i⟩:=Rj b p;rw[hT a,b6,hs];simp only[bT,Ik];rw[fx];by_cases hz:qU ((cg b p).1:Int)<0;rw[hT hz,b6];exact Sx a λr n st h=>by rw[Lk st h]at hz;simp only at hz;omega
 rw[fc hz,bu,m9,bT];have st:=aH3 a (by omega);have mY:=ag4 st;rw[Gy]at mY;refine Si st (by omega) ?_;exact c (acc++[((cg b p).1:Int)],((p+(cg b p).2:Nat):Int)) ⟨p+(cg b p).2,rfl,mY.1,by simp;omega⟩ (by simp only[aO];omega);rw[fc a,bu];exact Sm (by omega) hl
def Wn(N:b.size<=1000):CK b 0 [] (HJ b):=by
 have D:=Gy b;unfold HJ;refine bI2 (λx:eD×Int=>∃p:Nat,x.2=(p:Int)/\p<=b.size/\aa x.1<=p) (b.size-·.2.toNat) (λx o=>CK b x.2.toNat x.1 o) ?_ (x:=([],0)) ⟨0,rfl,by omega,by simp⟩ (by omega);rintro rec ⟨acc,q⟩ ⟨p,e,hp,hl⟩ E;simp only at e hl;subst e;simp only[aO];by_cases t:p<b.size;rw[fB t,b6];have fin:∀a:eD×Int,((a.1=acc/\a.2=0/\∀r n,Ck (fA b) p r n->0<=qU (r:Int)->False)\/∃r n:Nat,a.2=(n:Int)/\Ck (fA b) p r n/\0<=qU (r:Int)/\a.1=acc++[(r:Int)]) ->
   CK b p acc (cond (a.2=(0:Int)) (Z (([]:eD),(4:Int))) <|rec (a.1,(ek ((p:Int)+a.2)))):=by
  rintro ⟨O,a2⟩ ha;rcases ha with⟨_,ha,B⟩|⟨r,n,ha,st,d,h1⟩
  simp only at ha;subst ha;exact Sx t B;simp only at ha h1;subst ha h1;have mY:=ag4 st;simp only;rw[fc (by omega),bu,fx,show(p:Int)+(n:Int)=((p+n:Nat):Int)by omega];exact Si st d (E (acc++[(r:Int)],((p+n:Nat):Int)) ⟨p+n,rfl,by omega,by simp;omega⟩ (by simp only[aO];omega))
 refine vB (A:=eD×Int) (aT 3) (λj a=>(((j+1:Nat):Int),a.1,a.2)) (CK b p acc) (λj a=>(a.1=acc/\a.2=0/\∀r n,Ck (fA b) p r n->0<=qU (r:Int)->j<n)\/∃r n:Nat,a.2=(n:Int)/\Ck (fA b) p r n/\0<=qU (r:Int)/\a.1=acc++[(r:Int)]) (by decide) ?_ ?_ (acc,0) (.inl ⟨rfl,rfl,λr n st _=>(ag4 st).2.1⟩);rintro f a g;refine fin a (g.imp_left λ⟨x,y,z⟩=>⟨x,y,λr n st h=>?_⟩);have:=z r n st h;have:=ag4 st;simp at *;omega;rintro f j a y P hj g G v;rw[List.length_range]at hj;have H:ek ((p:Int)+((j+1:Nat):Int))=((p+(j+1):Nat):Int):=by rw[fx];omega
 have I:ek (((j+1:Nat):Int)+1)=((j+1+1:Nat):Int):=f' (n:=100) (by omega);have J:No (((j+1:Nat):Int)<=3)=Y:=hT (by omega);simp only[J,b6,H,I];by_cases hu:a.2=0;obtain⟨c,B⟩:a.1=acc/\∀r n,Ck (fA b) p r n->0<=qU (r:Int)->j<n:=by
  rcases g with g|⟨r,n,h1,st,_⟩
  exact⟨g.1,g.2.2⟩;have:=ag4 st;omega
 by_cases C:p+(j+1)<=b.size;rw[hT (by omega:((p+(j+1):Nat):Int)<=(b.size:Int)),b6];let ⟨s,es,k,c8⟩:=aZ2 (b:=b) (i:=p) (j:=p+(j+1)) (by omega) C;rw[show p+(j+1)-p=j+1 by omega]at k c8;have hv:=ba2 (s:=s) (by omega);rw[k]at hv;rw[hT hu,b6];simp only[es,bT,hv,aq8];have next:(0<=qU ((ue (((fA b).drop p).take (j+1)):Nat):Int)->wZ (ue (((fA b).drop p).take (j+1)))≠((fA b).drop p).take (j+1))->CK b p acc (f (((j+1+1:Nat):Int),a.1,a.2)):=λw=>v a (.inl ⟨c,hu,λr n st hs=>by
  have h1:=B r n st hs;have:n≠j+1:=λe=>by subst e;let ⟨t1,t2⟩:=step_take st;rw[t1]at w;exact w hs t2
  omega⟩)
 cases hz:No (0<=qU ((ue (((fA b).drop p).take (j+1)):Nat):Int))with
 |false=>exact next λh=>by rw[hT h]at hz;cases hz
 |true=>
  have d:=pK hz;have m:ue (((fA b).drop p).take (j+1))<65536:=by have:=(ca9 d).2;omega
  let ⟨u,K,M⟩:=bS0 m;rw[b6,K,bT,SL,M,k];by_cases hc:wZ (ue (((fA b).drop p).take (j+1)))=((fA b).drop p).take (j+1);rw[hT hc,b6,c,m9,bT];exact v (acc++[((ue (((fA b).drop p).take (j+1)):Nat):Int)],((j+1:Nat):Int)) (.inr ⟨_,_,rfl,W5 ⟨by omega,by omega⟩ (by omega) hc,d,rfl⟩);rw[fc hc,bu];exact next λ_=>hc
 rw[fc (by omega:¬((p+(j+1):Nat):Int)<=(b.size:Int)),bu];exact fin a (.inl ⟨c,hu,λr n st hs=>by have:=B r n st hs;have:=ag4 st;omega⟩);have hf:=fin a (g.imp_left λ⟨_,y,_⟩=>(hu y).elim);rw[fc hu,bu,bu]at *;cases No (((p+(j+1):Nat):Int)<=(b.size:Int))<;>exact hf;rw[fc (by omega:¬(p:Int)<(b.size:Int)),bu];exact Sm (by omega) hl
end
end Dp
namespace Dp
def aK4{rs:eD}(hl:aa rs<=1000):HE rs=Z (rs.all λc=>No (qU c=0)):=by
 unfold HE;refine mP (A:=Unit) rs (λi _=>(i:Int)) (λ_ rest=>Z (rest.all λc=>No (qU c=0))) (by omega) ?_ ?_ ()
 grind
 intro rec i _ x rest a7 hd a;have:=a ();simp only[fB a7,b6,fm hd,bT,aq8,f' a7,this,bE]
 grind[qU]
def CT:eD->Bool
 |x::y::r=>(No (y=32)&&No (x=32))||CT (y::r)
 |_=>U
def RY:∀l:eD,CT l=Y↔∃k:Nat,l[k]?=Z 32/\l[k+1]?=Z 32
 | []=>by simp[CT]
 | [x]=>by simp[CT]
 |x::y::r=>by unfold CT;rw[bx,RY (y::r)];constructor;rintro (h|⟨k,h⟩);exact⟨0,by simp at h;simp[h]⟩;exact⟨k+1,by simpa using h⟩;rintro ⟨k,h⟩;cases k;left;simp at h;simp[h];rename_i k;exact .inr ⟨k,by simpa using h⟩
def aH0{c0:Int}{cs:eD}(hl:aa cs<=1000):∃z,(c0::cs)[aa cs]?=Z z/\HF (c0::cs)=Z (No (c0=32)||(No (z=32)||CT (c0::cs))):=by
 have hz:(c0::cs)[aa cs]?=Z (c0::cs)[aa cs]:=af (by simp);refine⟨_,hz,?_⟩;generalize(c0::cs)[aa cs]=z at hz;have n0:nth (c0::cs) (0:Int)=Z c0:=rfl;have c:nth (c0::cs) (ek ((aa (c0::cs):Int)-1))=Z z:=by rw[aA,fx,show((aa cs+1:Nat):Int)-1=(aa cs:Int)by omega,zB,hz]
 unfold HF;simp only[n0,c,bT];cases No (c0=32)with
 |true=>rfl
 |false=>
  cases No (z=32)with
  |true=>rfl
  |false=>
   simp only[bu,cR];refine vF (A:=Int) cs (λi _=>((i+1:Nat):Int)) (λa rest=>Z (CT (a::rest))) ((c0::cs)[·]?=Z ·) (by omega) ?_ ?_ c0 rfl;intro rec a _;simp only[aA,kj,bu];rfl;intro rec i a x rest a7 ha hd d;have b:(c0::cs)[i+1]?=Z x:=by rw[aK];exact oU hd
   have e:ek (((i+1:Nat):Int)-1)=(i:Int):=by rw[fx];omega
   have f:ek (((i+1:Nat):Int)+1)=((i+1+1:Nat):Int):=f' (n:=2000000) (by omega);simp only[aA,fB (show i+1<aa cs+1 by omega),b6,zB,b,bT,e,f,ha,d x b];show _=Z ((No (x=32)&&No (a=32))||CT (x::rest));cases No (x=32)<;>cases No (a=32)<;>rfl
theorem K2{L:cu Nat}{p r n:Nat}(h:Ck L p r n)(e:(32:Int)=(r:Int)):n=1/\L[p]?=Z 32:=by
 have:r=32:=by omega
 subst this;rcases h with⟨h1,rfl,h2⟩|⟨h1,h2,rfl,a,b⟩|⟨h1,h2,rfl,a,b,c⟩
 exact⟨rfl,h2⟩;omega;omega
def Jz{L:List Nat}:∀ {rs:List Int} {i k:Nat},Runes L i rs->rs[k]?=Z 32->∃p,L[p]?=Z 32/\Runes L (p+1) (rs.drop (k+1))/\(k=0->p=i)
 | [],_,_,_,h=>by simp at h
 |x::rs,i,0,h,hk=>by obtain⟨r,n,e,st,_,a⟩:=h;simp only[ch,ah]at hk;obtain⟨rfl,hp⟩:=K2 st (hk.symm.trans e);exact⟨i,hp,a,λ_=>rfl⟩
 |x::rs,i,k+1,h,hk=>by obtain⟨r,n,e,st,_,a⟩:=h;obtain⟨p,h1,h2,_⟩:=Jz (rs:=rs) a (by simpa using hk);exact⟨p,h1,by simpa using h2,λe=>by omega⟩
def as4{L:cu Nat}{i r n p:Nat}(st:Ck L i r n)(h1:i<=p)(h2:p<i+n)(hp:L[p]?=Z 32):p=i/\r=32/\n=1:=by
 rcases st with⟨a,rfl,a2⟩|⟨a,a2,rfl,a3,a4⟩|⟨a,a2,rfl,a3,a4,a5⟩
 have:p=i:=by omega
 subst this;rw[hp]at a2;exact⟨rfl,(aJ a2).symm,rfl⟩;exfalso;have:p=i\/p=i+1:=by omega
 rcases this with rfl|rfl
 rw[hp]at a3;have:=aJ a3;omega;rw[hp]at a4;have:=aJ a4;omega;exfalso;have:p=i\/p=i+1\/p=i+2:=by omega
 rcases this with rfl|rfl|rfl
 rw[hp]at a3;have:=aJ a3;omega;rw[hp]at a4;have:=aJ a4;omega;rw[hp]at a5;have:=aJ a5;omega
def Le{L:cu Nat}{p:Nat}(hp:L[p]?=Z 32):∀ {rs:eD} {i:Nat},Runes L i rs->i<=p->∃k,rs[k]?=Z 32/\Runes L (p+1) (rs.drop (k+1))/\(i=p->k=0)
 | [],i,h,a7=>by have h:i=aa L:=h;have:=(aq.1 hp).1;omega
 |c::cs,i,h,a7=>by
  let ⟨r,n,e,st,_,a⟩:=h;rcases cU p (i+n)with q|q
  obtain⟨rfl,rfl,rfl⟩:=as4 st a7 q hp;exact⟨0,by rw[e];rfl,a,λ_=>rfl⟩;let ⟨k,b,d,_⟩:=Le hp a q;have:=ag4 st;exact⟨k+1,by simpa using b,by simpa using d,λe=>by omega⟩
theorem aH7(b:ByteArray):iO b.data.toList [32,32]=Y↔∃p:Nat,(fA b)[p]?=Z 32/\(fA b)[p+1]?=Z 32:=by
 have key:∀p,Lib.occAt b.data.toList [32,32] p=Y↔(fA b)[p]?=Z 32/\(fA b)[p+1]?=Z 32:=λp=>by
  unfold Lib.occAt fA;rw[aS,aS];generalize b.data.toList=l;have a:l[p]?=(l.drop p)[0]?:=by simp
  have c:l[p+1]?=(l.drop p)[1]?:=by simp
  rw[a,c];have t:∀x:UInt8,x.toNat=32↔(32:UInt8)=x:=λx=>by rw[<-kX];exact eq_comm
  rcases l.drop p with _|⟨x,_|⟨y,r⟩⟩<;>simp[List.isPrefixOf,t]
 unfold iO;rw[decide_eq_true_iff];rcases Lib.index_spec b.data.toList [32,32]with⟨q,h⟩|⟨p,q,_,h,_⟩
 refine⟨λe=>by omega,λ⟨p,hp⟩=>?_⟩;have h1:=(aq.1 hp.1).1;rw[Gy]at h1;have:=h p (mi h1);rw[(key p).2 hp]at this;cases this;exact⟨λ_=>⟨p,(key p).1 h⟩,λ_=>by omega⟩
def aQ8(b:ByteArray):∃c e,Bp b=Z c/\HX b=Z e/\(e=0↔c=0):=by
 have no:∀ {c e:Int},c≠0->e≠0->∃D E,Z c=Z D/\Z e=Z E/\(E=0↔D=0):=λh h'=>⟨_,_,rfl,rfl,λx=>(h' x).elim,λx=>(h x).elim⟩;unfold Bp FO HX;cases he:(b.toList==(bU #[]).toList)with
 |true=>exact no (by decide) (by decide)
 |false=>
  by_cases j:(40:Int)<(b.size:Int)
  .rw[hT j];exact no (by decide) (by decide)
  rw[fc j];simp only[bu];let ⟨l2,c1,g1,q5,fa⟩:=aA0 (b:=b) (by omega);let ⟨x8,c2,g2,nj,gb⟩:=Wn (b:=b) (by omega);rw[g1,g2];simp only[bT];by_cases z:c1=0
  .obtain⟨t,rfl,d,hl⟩:=q5 z
   have z2:=gb _ d;obtain⟨t2,rfl,o,_⟩:=nj z2;obtain rfl:=RS d o;rw[hT z,hT z2];simp only[br,ar,bu]at hl⊢;have q:=Gy b;rw[SL]at he;have s:=of_decide_eq_false he;cases m:fA b with
   |nil=>exact b8 m s
   |cons f vs=>
   cases l2 with
   |nil=>have h:0=aa (fA b):=d;rw[m]at h;cases h
   |cons c0 cs=>
   have u:aa cs<=1000:=by simp at hl;omega
   let ⟨G,hz,v⟩:=aH0 (c0:=c0) u
   have g0:(fA b)[0]?=Z f:=by rw[m];rfl
   have J:0<b.size:=by rw[<-q,m];simp
   obtain⟨g,h1⟩:∃g,(fA b)[b.size-1]?=Z g:=⟨_,af (by omega)⟩;have K:pE b (0:Int)=Z (f:Int):=by have:=Gc b 0;rw[g0]at this;exact this
   have H:=Gc b (b.size-1);rw[h1]at H;have M:No ((f:Int)=32)=No (c0=32):=decide_eq_decide.2 ⟨λe=>by
    have e:f=32:=by omega
    let ⟨k,fa,_,kc⟩:=Le (e▸g0) d (ay 0)
    rw[kc rfl]at fa;exact aJ fa,λe=>by
    let ⟨p,fa,_,kc⟩:=Jz (k:=0) d (by rw[e];rfl)
    rw[kc rfl,g0]at fa;have:=aJ fa;omega⟩
   have N:No ((g:Int)=32)=No (G=32):=decide_eq_decide.2 ⟨λe=>by
    have e:g=32:=by omega
    let ⟨k,fa,gb,_⟩:=Le (e▸h1) d (di _)
    have hk:aa (c0::cs)<=k+1:=by
     cases I:(c0::cs).drop (k+1)with
     |nil=>exact List.drop_eq_nil_iff.1 I
     |cons c r=>rw[I]at gb;let ⟨r,n,_,st,_,_⟩:=gb;have:=ag4 st;omega
    have:=(aq.1 fa).1;simp only[aA]at hk this;rw[show k=aa cs by omega,hz]at fa;exact aJ fa,λe=>by
    let ⟨p,fa,gb,_⟩:=Jz d (e▸hz)
    rw[show(c0::cs).drop (aa cs+1)=[]by simp]at gb;have gb:p+1=aa (fA b):=gb;rw[show p=b.size-1 by omega,h1]at fa;have:=aJ fa;omega⟩
   have O:iO b.data.toList [32,32]=CT (c0::cs):=by
    rw[dc,aH7,RY];constructor
    .rintro ⟨p,q5,nj⟩
     let ⟨k,fa,gb,_⟩:=Le q5 d (di _)
     let ⟨R,l,_,w⟩:=Le nj gb (ay _)
     rw[w rfl,iT]at l;exact⟨k,fa,l⟩
    rintro ⟨k,P,Q⟩;let ⟨p,fa,gb,_⟩:=Jz d P;let ⟨S,l,_,w⟩:=Jz (k:=0) gb (by rw[iT];exact Q);rw[w rfl]at l;exact⟨p,fa,l⟩
   have B:strings_Contains (b,bU #[32,32])=Z (iO b.data.toList [32,32]):=by unfold strings_Contains;rw[hT (by show b.size<4294967281;omega)];rfl
   rw[v,aK4 (by omega),K,fx,show(b.size:Int)-1=((b.size-1:Nat):Int)by omega,H,B];simp only[bT,ai,Ik,M,N,O];rw[fc (by simp;omega:¬(aa (c0::cs):Int)=0),bu];cases No (c0=32)with
   |true=>exact no (by decide) (by decide)
   |false=>
    cases No (G=32)with
    |true=>exact no (by decide) (by decide)
    |false=>
     cases CT (c0::cs)with
     |true=>exact no (by decide) (by decide)
     |false=>
      simp only[bu,jq];rw[show((0:Int))=((0:Nat):Int)from rfl];rw[mP (A:=Unit) (c0::cs) (λi _=>(i:Int)) (λ_ rest=>Z (cond (rest.all (λc=>No (qU c=0))) (([],14):eD×Int) (c0::cs,0))) (by simp;omega) (by
        intro rec _;simp only[kj,bu,dD];rfl) (by
        intro rec i a x rest a7 hd C;simp only[fB a7,b6,fm hd,bT,f' a7 (show aa (c0::cs)<2^62 by simp;omega),bE,C ()];cases No (qU x=0)<;>rfl) ()]
      cases(c0::cs).all λc=>No (qU c=0)with
      |true=>exact no (c:=14) (by decide) (by decide)
      |false=>exact⟨_,_,rfl,rfl,.rfl⟩
  have z2:c2≠0:=λh=>by
   let ⟨t,_,d,_⟩:=nj h
   exact z (fa _ d)
  rw[fc z,fc z2];exact no z z2
end Dp
def Br{α:Type}(xs:cu α)(hl:aa xs<=1000000)(P:α->dv Bool)(p:α->Bool)(hp:∀x∈xs,P x=Z (p x)) :
  rounds (α:=Int) (β:=Bool) (λf c=>
   cond (c<((aa xs:Nat):Int)) (a8 (nth xs c) λd=>a8 (P d) λb=>cond b (Z (No ((0:Int)<=c))) <|f (ek (c+(1:Int)))) <|some U) (0:Int)=Z (xs.any p):=by
 refine mP (A:=Unit) xs (λi _=>(i:Int)) (λ_ rest=>Z (rest.any p)) (by omega) ?_ ?_ ()
 grind
 intro rec i a x rest a7 hd g;have h:x∈xs:=by grind[aC]
 have e:No ((0:Int)<=(i:Int))=Y:=by simp
 simp only[fB a7,b6,fm hd,bT,hp x h,f' a7 (show aa xs<2^62 by omega),List.any_cons,g (),e];cases p x<;>rfl
def q5(f:AL):Bool:=No ((64:Int)<(aa f.2.2.2.2:Int))
def bY8(l:Au)(hl:aa l<=1000000):Lb (l,())=Z (l.any q5):=by unfold Lb;simp only[bT];exact Br l hl _ q5 λx _=>rfl
def nj(f:AL):Bool:=No (f.1<1)||(No (1073741824<f.1)||(No (f.2.2.1<1)||No (9<f.2.2.1)))
def bT0(l:Au)(hl:aa l<=1000000):La (l,())=Z (l.any nj):=by
 unfold La;simp only[bT];refine Br l hl _ nj λx _=>?_;unfold MN nj
 grind
def aJ5(k:Int):∃s,wv k=Z s:=by
 unfold wv
 repeat' (first|exact⟨_,rfl⟩| (generalize No (k=_)=c;cases c<;>simp only[b6,bu]))
noncomputable def om(k:Int):Int:=(wv k).getD 0
theorem BH(k:Int):wv k=Z (om k):=by let ⟨s,hs⟩:=aJ5 k;simp[om,hs]
noncomputable def rM(f:AL):Bool:=No (om f.2.1=0)
noncomputable def Er(b:ByteArray):Int:=(Bp b).getD 0
theorem aB8(b:ByteArray):Bp b=Z (Er b)/\∃e,HX b=Z e/\No (e=0)=No (Er b=0):=by let ⟨c,e,h,h',k⟩:=Dp.aQ8 b;simp[Er,h,h',k]
def bV7(l:Au)(hl:aa l<=1000000):K_ (l,())=Z (l.any rM):=by unfold K_;simp only[bT];refine Br l hl _ rM λx _=>?_;unfold MI rM;simp only[BH,bT]
noncomputable def s_(f:AL):Bool:=cond (!(f.2.2.2.1.toList==(bU #[]).toList)) (!decide (Er f.2.2.2.1=0)) U
def bY4(l:Au)(hl:aa l<=1000000):Lc (l,())=Z (l.any s_):=by
 unfold Lc;simp only[bT];refine Br l hl _ s_ λx _=>?_;unfold MH s_
 grind[aB8,bT]
noncomputable def xY(f:AL):Bool:=cond ((aa f.2.2.2.2:Int)=0) Y <|cond (om f.2.1=1) (No ((1:Int)<(aa f.2.2.2.2:Int))) U
def bS7(l:Au)(hl:aa l<=1000000):K7 (l,())=Z (l.any xY):=by
 unfold K7;simp only[bT];refine Br l hl _ xY λx _=>?_;unfold MQ xY
 grind[BH,bT,om]
noncomputable def uO(al:gp)(ag:hI)(fs:eD)(k:Int)(id:Int):Bool :=cond (om k=1) (!(nQ al id).isSome) <|cond (om k=2) (!(px ag id).isSome) <|cond (om k=3) (!decide (id∈fs)) Y
namespace fp
variable {al:gp} {ag:hI} {fs:eD} (h:fp al ag fs)
include h
theorem bn6(id:Int)(f:AL):H9 (id,f,(al,ag,fs))=Z (uO al ag fs f.2.1 id):=by
 have a:=h.qF;have dC:=h.wX;unfold H9 uO;simp only[BH,bT,M9 al ag fs id (by omega),h.Rq,Oj,HC fs id (by omega)]
 grind
theorem bn7(f:AL)(hl:aa f.2.2.2.2<=1000000):Ij ((al,ag,fs),f)=Z (f.2.2.2.2.any (uO al ag fs f.2.1)):=by unfold Ij Lv;simp only[bT];rw[Br f.2.2.2.2 hl _ (uO al ag fs f.2.1) λx _=>h.bn6 x f];rfl
theorem aM2(l:Au)(a:Au)(hl:aa l<=1000000)(hp:∀f∈l,aa f.2.2.2.2<=1000000):K8 (l,(al,ag,fs,a))=Z (l.any λf=>f.2.2.2.2.any (uO al ag fs f.2.1)):=by unfold K8;simp only[bT];refine Br l hl _ _ λf hf=>?_;unfold MS;simp only[h.bn7 f (hp f hf),bT]
end fp
def xo:eD->Bool
 | []=>Y
 | [_]=>Y
 |a::b::l=>!decide (b<=a)&&xo (b::l)
theorem aL6(l:eD)(hl:aa l<=1000000):IG l=Z (xo l):=by
 unfold IG;cases l;exact Dh λrec=>rfl;rename_i p0 l;simp only[aA]at hl;refine(vF (A:=Int) l (λi _=>((i+1:Nat):Int)) (λa rest=>Z (xo (a::rest))) ((p0::l)[·]?=Z ·) (by omega) ?_ ?_ p0 rfl)
 grind[xo]
 intro rec i a x rest a7 b hd g;have c:(p0::l)[i+1]?=Z x:=by rw[aK,<-zB];exact fm hd
 have e:(aa (p0::l):Int)=((aa l+1:Nat):Int):=by simp
 have d:ek (((i+1:Nat):Int)-1)=(i:Int):=by grind[fx]
 have f:ek (((i+1:Nat):Int)+1)=((i+1+1:Nat):Int):=f' (n:=2000000) (by omega);simp only[e,fB (show i+1<aa l+1 by omega),b6,d,zB,b,c,bT,f,xo]
 grind
abbrev sI:=Int×Int
def sd:sI->sI->Bool:=λ(a b:Int×Int)=>(No (a.1=b.1)&&No (a.2=b.2))
def uN(S:cu (sI×Bool))(k:sI):Bool:=(fh sd k S).getD U
def xP(k:Int):eD->cu (sI×Bool)->dv (cu (sI×Bool))
 | [],S=>Z S
 |p::r,S=>cond (uN S (k,p)) W <|xP k r (wC sd (k,p) Y S)
noncomputable def xN:Au->cu (sI×Bool)->Bool
 | [],_=>U
 |f::r,S=>cond (om f.2.1=2) (xN r S) <|match xP (cond (om f.2.1=3) f.2.1 0) f.2.2.2.2 S with
  |some a=>xN r a
  |none=>Y
def Wt(k:Int)(ps:eD)(hl:aa ps<=1000000)(K:Int×cu (sI×Bool)->dv Int)(V:dv Int)(S:cu (sI×Bool)) :
  rounds (α:=Int×cu (sI×Bool)) (β:=Int) (λg c=>
   cond (c.1<((aa ps:Nat):Int)) (a8 (nth ps c.1) λd=>
    a8 (oD (fh (λ(a b:Int×Int)=>(No (a.1=b.1)&&No (a.2=b.2))) (k,d) c.2) (Z U)) λf=>
    cond f V <|g (ek (c.1+(1:Int)),wC (λ(a b:Int×Int)=>(No (a.1=b.1)&&No (a.2=b.2))) (k,d) Y c.2)) <|K c) ((0:Int),S)=match xP k ps S with|some h=>K (((aa ps:Nat):Int),h)|none=>V:=by
 refine mP (A:=cu (sI×Bool)) ps (λi a=>((i:Int),a)) (λa rest=>match xP k rest a with|some h=>K (((aa ps:Nat):Int),h)|none=>V) (by omega) ?_ ?_ S
 grind[xP]
 intro rec i a x rest a7 hd j;have e:oD (fh (λ(a b:Int×Int)=>(No (a.1=b.1)&&No (a.2=b.2))) (k,x) a) (Z U)=Z (uN a (k,x)):=by unfold uN;show oD (fh sd (k,x) a) (Z U)=_;cases fh sd (k,x) a<;>rfl
 simp only[fB a7,b6,fm hd,bT,e,f' a7 (show aa ps<2^62 by omega),xP];cases uN a (k,x)with
 |true=>rfl
 |false=>exact j _
def AZ:dv Int->Au->Bool
 |_,[]=>U
 |a,f::r=>cond ((match a with|some p=>No (f.1<=p)|none=>U)||!(xo f.2.2.2.2)) Y <|AZ (Z f.1) r
noncomputable def pD(al:gp)(ag:hI)(fs:eD)(l:Au):Int :=cond (!decide (tH al ag fs=0)) (tH al ag fs) <|cond (128<(aa l:Int)) 3 <|cond (l.any q5) 3 <|cond (AZ W l) 10 <|cond (l.any nj) 2 <|cond (l.any rM) 9 <|cond (l.any s_) 14 <|cond (l.any xY) 1 <|cond (l.any (λf=>f.2.2.2.2.any (uO al ag fs f.2.1))) 7 <|cond (xN l []) 13 0
theorem E1(al:gp)(ag:hI)(fs:eD)(l:Au):xr (al,ag,fs,l)=Z (pD al ag fs l):=by
 unfold xr pD;simp only[bn8,bT];cases d:No (tH al ag fs=0)with
 |false=>simp
 |true=>
  have hp:fp al ag fs:=by grind[De,tH,tJ]
  simp only[ar,bu];cases e:No ((128:Int)<(aa l:Int))with
  |true=>rfl
  |false=>
   have hl:aa l<=1000000:=by grind
   simp only[bu,bY8 l hl,bT];cases h1:l.any q5 with
   |true=>rfl
   |false=>
    have b:∀f∈l,aa f.2.2.2.2<=1000000:=λf hf=>by have:=List.any_eq_false.1 h1 f hf;simp only[q5,kA]at this;omega
    have hlen:aa l<=128:=by grind
    simp only[bu,bT0 l hl,bV7 l hl,bY4 l hl,bS7 l hl,hp.aM2 l l hl b,bT];refine(vF (A:=dv Int) l (λi _=>((i:Int),(i:Int))) (λa rest=>Z (cond (AZ a rest) (10:Int) <|cond (l.any nj) 2 <|cond (l.any rM) 9 <|cond (l.any s_) 14 <|cond (l.any xY) 1 <|cond (l.any (λf=>f.2.2.2.2.any (uO al ag fs f.2.1))) 7 <|cond (xN l []) 13 0))
     (λi a=>match a with|none=>i=0|some p=>0<i/\∃g:AL,l[i-1]?=Z g/\g.1=p) (by omega) ?_ ?_ W rfl).trans ?_
    rotate_left 2;rfl;intro rec a k;simp only[kj,bu,AZ];cases l.any nj with
    |true=>rfl
    |false=>
     cases l.any rM with
     |true=>rfl
     |false=>
      cases l.any s_ with
      |true=>rfl
      |false=>
       cases l.any xY with
       |true=>rfl
       |false=>
        cases l.any (λf=>f.2.2.2.2.any (uO al ag fs f.2.1))with
        |true=>rfl
        |false=>
         simp only[bu];refine(mP (A:=cu (sI×Bool)) l (λi a=>((i:Int),a)) (λa rest=>Z (cond (xN rest a) (13:Int) 0)) (by omega) ?_ ?_ [])
         grind[xN]
         intro rec i a x rest a7 hd d;have c:x∈l:=by grind[aC]
         have h:ek ((i:Int)+1)=((i+1:Nat):Int):=f' (n:=2000000) (by omega);have j:No ((0:Int)<=(i:Int))=Y:=by simp
         simp only[fB a7,b6,fm hd,bT,BH,h,j,xN];cases No (om x.2.1=2)with
         |true=>exact d a
         |false=>
          simp only[bu];cases No (om x.2.1=3)with
          |true=>
           simp only[b6];refine(Wt x.2.1 x.2.2.2.2 (b x c) _ _ a).trans ?_
           grind
          |false=>
           simp only[bu];refine(Wt 0 x.2.2.2.2 (b x c) _ _ a).trans ?_
           grind
    intro rec i a x rest a7 k hd d;have c:x∈l:=by grind[aC]
    have h:ek ((i:Int)+1)=((i+1:Nat):Int):=f' (n:=2000000) (by omega);have j:No ((0:Int)<=(i:Int))=Y:=by simp
    have m:l[i]?=Z x:=by rw[<-zB];exact fm hd
    grind[fB,fm,bT,aL6,AZ,xo,fx,zB]
end Go.Ab
namespace Go.Ab
open Go Go.Sort Go.Proofs Go.Shelf
variable {ag:hI} {al ns':gp}
def sE(x:kI):Int×eD×cu eD:=(x.1,x.2.1,x.2.2.1)
namespace Dp
variable (al:gp) (ag:hI)
def nP:cu kI:=sL al ag (l8 al ag) (fp.l9 al ag)
end Dp
variable {ag:hI} {al ns':gp}
namespace Dp
end Dp
end Go.Ab
namespace Go.Ab
open Go Go.Sort Go.Proofs Go.Shelf
set_option maxRecDepth 10000
def rP(n:Int):0<=an ak n/\an ak n<=18446744073709551615:=by simp[an,ik,gP];omega
theorem G3{n:Int}(h:0<=n/\n<=18446744073709551615:=by omega):an ak n=n:=IntWalk.u64_in n h
def aS8{n:Int}(h:0<=n/\n<=255):fu.wrap n=n:=IntWalk.u8_in n h
def uT(i:Nat):Nat:=ite (i=0) 0 <|ite (i<2) 1 <|ite (i<4) 2 <|ite (i<8) 3 <|ite (i<16) 4 <|ite (i<32) 5 <|ite (i<64) 6 <|ite (i<128) 7 8
theorem aZ3:((aT 256).all λi=>pE Ea (i:Int)==Z ((uT i:Nat):Int))=Y:=by decide +kernel
def bQ1{v:Int}(h:0<=v/\v<=255):pE Ea v=Z ((uT v.toNat:Nat):Int):=by grind[ aZ3]
def bY7{i:Nat}(h:i<=255):(uT i=0/\i=0)\/(uT i=1/\i=1)\/(uT i=2/\2<=i/\i<4)\/(uT i=3/\4<=i/\i<8)\/(uT i=4/\8<=i/\i<16)\/(uT i=5/\16<=i/\i<32)\/(uT i=6/\32<=i/\i<64)\/(uT i=7/\64<=i/\i<128)\/(uT i=8/\128<=i):=by grind[uT]
def fd{x k:Int}(hk:0<=k):x.fdiv k=x / k:=Int.fdiv_eq_ediv_of_nonneg x hk
def ap3:(2:Int)^(min (32:Int).toNat ak.bits)=4294967296:=by decide
def bL9:(2:Int)^(min (16:Int).toNat ak.bits)=65536:=by decide
def bM0:(2:Int)^(min (8:Int).toNat ak.bits)=256:=by decide
def Vp(x:Int):x.fdiv 4294967296=x / 4294967296:=fd (by decide)
def bi1(x:Int):x.fdiv 65536=x / 65536:=fd (by decide)
def bi2(x:Int):x.fdiv 256=x / 256:=fd (by decide)
def bi7:No ((32:Int)<0)=U:=by decide
def bi6:No ((16:Int)<0)=U:=by decide
def Jm{a b:Nat}:(2:Int)^(a+b)=2^a*2^b:=Int.pow_add 2 a b
def bn0{x q K:Int}{k:Nat}(b:K=2^k)(c:q=x / K)(h1:1<=q)(h2:q<=255)(hk:k<=56):∃n:Nat,((k:Int)+((uT q.toNat:Nat):Int))=(n:Int)/\1<=n/\n<=64/\(2:Int)^(n-1)<=x/\x<2^n:=by
 have a:0<K:=by grind
 have e:=Int.emod_add_mul_ediv x K;have m1:=df x (show K≠0 by omega);have m2:=cX x a;have key:∀t:Nat,1<=t->t<=8->(2:Int)^(t-1)<=q->q<2^t->∃n:Nat,((k:Int)+(t:Int))=(n:Int)/\1<=n/\n<=64/\(2:Int)^(n-1)<=x/\x<2^n:=by
  intro t t1 t8 l2 x8;refine⟨k+t,by omega,by omega,by omega,?_,?_⟩;rw[show k+t-1=(t-1)+k by omega,Jm,<-b];have:(2:Int)^(t-1)*K<=q*K:=aM l2 (by omega)
  grind
  have d:(q+1)*K<=(2:Int)^t*K:=aM (by omega) (by omega)
  grind
 rcases bY7 (i:=q.toNat) (by omega)with h|h|h|h|h|h|h|h|h
 omega
 all_goals
  rw[h.1];exact key _ (by decide) (by decide) (by simp;omega) (by simp;omega)
theorem aP5{x:Int}(h:1<=x/\x<=18446744073709551615):∃n:Nat,Fy x=Z (n:Int)/\1<=n/\n<=64/\(2:Int)^(n-1)<=x/\x<2^n:=by
 have fin:∀(K q:Int) (k:Nat),K=2^k->q=x / K->1<=q->q<=255->k<=56->∃n:Nat,a8 (pE Ea (fu.wrap q)) (λb=>Z (ek ((k:Int)+ek b)))=Z (n:Int)/\1<=n/\n<=64/\(2:Int)^(n-1)<=x/\x<2^n:=by intro K q k c d fa gb hk;let ⟨n,e,r⟩:=bn0 c d fa gb hk;refine⟨n,?_,r⟩;rw[aS8 ⟨by omega,gb⟩,bQ1 ⟨by omega,gb⟩,bT,fx (n:=((uT q.toNat:Nat):Int)),e,fx]
 unfold Fy;simp only[LW,len8,bT,ap3,bL9,bM0,Vp,bi1,bi2,bi7,bi6,bu];by_cases c1:(4294967296:Int)<=x;simp only[c1];by_cases c2:(65536:Int)<=x / 4294967296;simp only[c2];by_cases a:(256:Int)<=x / 4294967296 / 65536;simp only[a];exact fin 72057594037927936 _ 56 (by decide) (by omega) (by omega) (by omega) (by decide);simp only[a];exact fin 281474976710656 _ 48 (by decide) (by omega) (by omega) (by omega) (by decide);simp only[c2];by_cases a:(256:Int)<=x / 4294967296;simp only[a];exact fin 1099511627776 _ 40 (by decide) (by omega) (by omega) (by omega) (by decide);simp only[a];exact fin 4294967296 _ 32 (by decide) (by omega) (by omega) (by omega) (by decide);simp only[c1];by_cases c2:(65536:Int)<=x;simp only[c2];by_cases a:(256:Int)<=x / 65536;simp only[a];exact fin 16777216 _ 24 (by decide) (by omega) (by omega) (by omega) (by decide);simp only[a];exact fin 65536 _ 16 (by decide) (by omega) (by omega) (by omega) (by decide);simp only[c2];by_cases a:(256:Int)<=x;simp only[a];exact fin 256 _ 8 (by decide) (by omega) (by omega) (by omega) (by decide);simp only[a];exact fin 1 _ 0 (by decide) (by omega) (by omega) (by omega) (by decide)
def r8{α:Type}{c:Bool}{e:α}(h:c=U):(cond c W <|some e)=Z e:=by rw[h];rfl
def bm5{x:Int}(h:1<=x/\x<=18446744073709551615):∃v,H5 x=Z v/\∃n:Nat,v=64-(n:Int)/\1<=n/\n<=64/\(2:Int)^(n-1)<=x/\x<2^n:=by grind[aP5,H5,bT,fx]
def tQ(x:Int):∃v,rU x=Z v/\0<=v/\v<=18446744073709551615/\(-9223372036854775808<=x->x<=9223372036854775807->v=(x.natAbs:Int)):=by unfold rU;by_cases h:x<0;simp only[h];simp only[an,ik,gP];simp;omega;simp only[h];refine⟨_,rfl,(rP _).1,(rP _).2,λh1 h2=>?_⟩;rw[G3];omega
def am1{n:Int}(h:0<=n):∃v,xx (n,U)=Z v/\0<=v.1/\v.1<=9223372036854775807/\(n<=9223372036854775807->v=(n,Y)):=by unfold xx;by_cases h1:9223372036854775807<n;simp only[h1];exact⟨_,rfl,by simp,by simp,λh=>by omega⟩;simp only[h1];rw[fx];exact⟨_,rfl,by simpa using h,by simp only;omega,λ_=>rfl⟩
theorem FC(a b:Nat)(d:b<=18446744073709551615):Bk ((a:Int),(b:Int))=Z ((bS a b:Nat):Int):=by
  refine(Fq (λx:Int×Int=>∃a b:Nat,x=((a:Int),(b:Int))/\b<=18446744073709551615) (·.2.toNat) (λx=>Z ((bS x.1.toNat x.2.toNat:Nat):Int)) ?_ ⟨a,b,rfl,d⟩ (by show((b:Int)).toNat<_;omega)).trans (by simp);rintro rec x ⟨a,b,rfl,d⟩ f;by_cases g:b=0;subst g;simp;have e:No ((b:Int)=0)=U:=fc (by omega);have em:(a:Int).tmod (b:Int)=((a%b:Nat):Int):=by rw[Int.tmod_eq_emod_of_nonneg (by omega)];rfl
  have c:a%b<b:=eZ _ (by omega);simp only[e,aQ,b6,bu,bT,em];rw[f ((b:Int),((a%b:Nat):Int)) ⟨b,a%b,rfl,by omega⟩ (by simp;exact c)];simp only[aO];rw[j_ b (a%b),<-Nat.gcd_rec,j_]
def sq_nonneg(x:Int):0<=x*x:=by
  rcases iM 0 x with h|h
  exact aB h h;exact Int.mul_nonneg_of_nonpos_of_nonpos h h
def Dl{a b:bs}(ha:d' a=Y)(c:d' b=Y):vD (a,b)=Z ((b.1-a.1)*(b.1-a.1)+(b.2-a.2)*(b.2-a.2))/\0<=(b.1-a.1)*(b.1-a.1)+(b.2-a.2)*(b.2-a.2)/\(b.1-a.1)*(b.1-a.1)+(b.2-a.2)*(b.2-a.2)<=35184372088832:=by rw[wH]at ha c;let ⟨m1,m2⟩:=vR (a:=b.1-a.1) (b:=b.1-a.1) (m:=4194304) (n:=4194304);let ⟨m3,m4⟩:=vR (a:=b.2-a.2) (b:=b.2-a.2) (m:=4194304) (n:=4194304);have q5:0<=(b.1-a.1)*(b.1-a.1):=sq_nonneg _;have nj:0<=(b.2-a.2)*(b.2-a.2):=sq_nonneg _;unfold vD;rw[fx (n:=b.1-a.1),fx (n:=b.2-a.2),fx (n:=(b.1-a.1)*(b.1-a.1)),fx (n:=(b.2-a.2)*(b.2-a.2)),fx];exact⟨rfl,by omega,by omega⟩
namespace Dp
def Ly{v:Int}(a:0<=v)(h1:v<=18446744073709551615):an ak (aW ak.bits v &&& aW ak.bits (4294967295:Int)).toNat=v%4294967296:=by
 obtain⟨n,rfl⟩:∃n:Nat,v=(n:Int):=⟨v.toNat,by omega⟩;have e:(aW ak.bits (n:Int) &&& aW ak.bits (4294967295:Int)).toNat=n%4294967296:=by show(aW 64 (n:Int) &&& aW 64 (4294967295:Int)).toNat=_;rw[BitVec.toNat_and,eW,eW,show((4294967295:Int)%((2^64:Nat):Int)).toNat=2^32-1 by decide,Nat.and_two_pow_sub_one_eq_mod,show((n:Int)%((2^64:Nat):Int)).toNat=n by omega]
 rw[e,G3];omega
def Eo{x y m n:Int}(d:0<=x)(a:x<=m)(c:0<=y)(b:y<=n):0<=x*y/\x*y<=m*n:=⟨aB d c,kH a b c (by omega)⟩
def Nf{x y:Int}(h:0<=x)(f:x<=18446744073709551615)(i:0<=y)(g:y<=18446744073709551615):zI (x,y)=Z (x*y / 18446744073709551616,x*y%18446744073709551616):=by
 unfold zI;simp only[bT,bi7,bu,ap3,Vp,Ly h f,Ly i g];obtain⟨c,a2⟩:∃a b,x=a*4294967296+b/\0<=b/\b<=4294967295/\0<=a/\a<=4294967295:=⟨x / 4294967296,x%4294967296,by omega⟩;obtain⟨d,rfl,q5,nj,rM,s_⟩:=a2;obtain⟨c1,c2⟩:∃a b,y=a*4294967296+b/\0<=b/\b<=4294967295/\0<=a/\a<=4294967295:=⟨y / 4294967296,y%4294967296,by omega⟩;obtain⟨K_,rfl,fa,gb,kc,yF⟩:=c2;rw[show(c*4294967296+d) / 4294967296=c by omega,show(c*4294967296+d)%4294967296=d by omega,show(c1*4294967296+K_) / 4294967296=c1 by omega,show(c1*4294967296+K_)%4294967296=K_ by omega];have e:(c*4294967296+d)*(c1*4294967296+K_)=c*c1*18446744073709551616+(c*K_+d*c1)*4294967296+d*K_:=by grind
 rw[e];let ⟨m1,m2⟩:=Eo rM s_ kc yF;let ⟨m3,m4⟩:=Eo rM s_ fa gb;let ⟨m5,m6⟩:=Eo q5 nj kc yF;let ⟨m7,m8⟩:=Eo q5 nj fa gb;generalize c*c1=A at *;generalize c*K_=B at *;generalize d*c1=C at *;generalize d*K_=D at *;clear e;rw[G3 (n:=D),G3 (n:=B),G3 (n:=B+D / 4294967296),Ly (by omega) (by omega),G3 (n:=C),G3 (n:=(B+D / 4294967296)%4294967296+C),G3 (n:=A),G3 (n:=A+(B+D / 4294967296) / 4294967296),G3];have j:an ak (A*18446744073709551616+(B+C)*4294967296+D)=(A*18446744073709551616+(B+C)*4294967296+D)%18446744073709551616:=by simp[an,ik,gP]
 rw[j];congr 2;omega
def O7{u d y a K_ q r:Int}(c:y=a*4294967296+K_)(h1:2147483648<=a)(f:0<=K_)(h:K_<=4294967295)(hd:0<=d)(VJ:0<=q)(i:r=u-q*a)(j:(u*4294967296+d) / y<=q)
  (b:(4294967296<=r/\q<=4294967296)\/q*K_<=4294967296*r+d):q=(u*4294967296+d) / y:=by
 have hyp:0<y:=by omega
 have e:q*y=q*a*4294967296+q*K_:=by rw[c];grind
 have hle:q*y<=u*4294967296+d:=by
  rcases b with⟨g1,g2⟩|g
  have m:q*K_<=4294967296*4294967295:=kH g2 h f (by omega);generalize q*a=A at *;generalize q*K_=B at *;omega;generalize q*a=A at *;generalize q*K_=B at *;omega
 have:=Int.le_ediv_of_mul_le hyp hle;omega
def ax0{u d y a K_ q r:Int}(f:y=a*4294967296+K_)(h1:2147483648<=a)(h:0<=K_)(hd:0<=d)(sX:d<=4294967295)(hu:u<y)(i:r=u-q*a)
  (b:4294967296<=q\/4294967296*r+d<q*K_):(u*4294967296+d) / y<=q-1:=by
 have hyp:0<y:=by omega
 have e:q*y=q*a*4294967296+q*K_:=by rw[f];grind
 have c:u*4294967296+d<q*y:=by
  rcases b with g|g
  have:4294967296*y<=q*y:=aM g (by omega);omega;generalize q*a=A at *;generalize q*K_=B at *;omega
 have:=cm hyp c;omega
def SZ{u y a K_ d:Int}(c:y=a*4294967296+K_)(h1:2147483648<=a)(f:0<=K_)(i:K_<=4294967295)(b:0<=u)(hu:u<y)(hd:0<=d)(sX:d<=4294967295) :
  (u*4294967296+d) / y<=u / a/\0<=u / a/\u / a<=4294967297/\0<=u-u / a*a/\u-u / a*a<a:=by
 have hyp:0<y:=by omega
 have hm:=df u (by omega:a≠0);have g:=cX u (by omega:0<a);have h:=dg u a;have j:a*(u / a)=u / a*a:=cT ..;refine⟨?_,bH b (by omega),?_,by omega,by omega⟩;have:(u*4294967296+d) / y<u / a+1:=by
  refine cm hyp ?_;have e:(u / a+1)*y=(u / a*a+a)*4294967296+(u / a+1)*K_:=by rw[c];grind
  have p:0<=(u / a+1)*K_:=aB (by have:=bH b (show 0<=a by omega);omega) f;rw[e];generalize u / a*a=A at *;generalize(u / a+1)*K_=B at *;omega
 omega;have:u / a<4294967298:=by refine cm (by omega) ?_;omega
 omega
end Dp
namespace Dp
theorem LD(n:Int):an ak n=n%18446744073709551616:=by simp[an,ik,gP]
theorem B2{a b:Int}(ha:0<=a:=by omega):a.tdiv b=a / b:=Int.tdiv_eq_ediv_of_nonneg ha
section
variable {y y1 K_:Int} (hy:y=y1*4294967296+K_) (h1:2147483648<=y1) (h1':y1<=4294967295) (h3:0<=K_) (h4:K_<=4294967295)
include hy h1 h1' h3 h4
theorem RU{u d q r:Int}(f:0<=u)(hu:u<y)(hd:0<=d)(sX:d<=4294967295)(j:q<=4294967297)(b:r=u-q*y1)(g:0<=r)(i:r<=4294967295)
  (a:4294967296<=q\/4294967296*r+d<q*K_):(u*4294967296+d) / y<=q-1/\0<=q-1/\an ak (q-1)=q-1/\an ak (r+y1)=r+y1/\r+y1=u-(q-1)*y1/\(4294967296<=r+y1->q-1=(u*4294967296+d) / y):=by
 have c:=ax0 hy h1 h3 hd sX hu b a;have Ng:0<=(u*4294967296+d) / y:=bH (by omega) (by omega);have e:r+y1=u-(q-1)*y1:=by rw[b,kJ,mC];omega
 exact⟨c,by omega,G3,G3,e,λh=>O7 hy h1 h3 h4 hd (by omega) e c (.inl ⟨h,by omega⟩)⟩
theorem aD7{d a b u:Int}(e:0<=u)(hu:u<y)(hd:0<=a)(sX:a<=4294967295):MP d y y1 K_ a b u=Fw d y a b u ((u*4294967296+a) / y):=by
 let ⟨s1,s2,f,g,j⟩:=SZ hy h1 h3 h4 e hu hd sX;have l:=aB s2 (show 0<=y1 by omega);unfold MP;rw[r8 (fc (by omega)),bT,B2 e,G3 (n:=u / y1),G3 (n:=u / y1*y1),G3 (n:=u-u / y1*y1)];refine V5 (λx:Int×Int=>0<=x.2/\x.2<=4294967297/\x.1=u-x.2*y1/\0<=x.1/\x.1<=4294967295/\(u*4294967296+a) / y<=x.2) (·.2.toNat) (·=Fw d y a b u ((u*4294967296+a) / y)) ?_ ⟨s2,f,rfl,g,by simp only;omega,s1⟩ (by simp only;omega);rintro k ⟨r,q⟩ ⟨i1,i2,i3,i4,i5,i6⟩ h;simp only at i1 i2 i3 i4 i5 i6⊢;have go:(4294967296<=q\/4294967296*r+a<q*K_)->(cond ((4294967296:Int)<=an ak (r+y1)) (Fw d y a b u (an ak (q-(1:Int)))) (k (an ak (r+y1),an ak (q-(1:Int)))))=Fw d y a b u ((u*4294967296+a) / y):=λi=>by let ⟨t1,t2,t3,t4,t5,t6⟩:=RU hy h1 h1' h3 h4 e hu hd sX i2 i3 i4 i5 i;rw[t3,t4];by_cases c:4294967296<=r+y1;rw[hT c,b6,t6 c];rw[fc c,bu];exact h (r+y1,q-1) ⟨t2,by simp only;omega,t5,by simp only;omega,by simp only;omega,t1⟩ (by simp only;omega)
 by_cases c:4294967296<=q;rw[hT c,b6];exact go (.inl c);rw[fc c,bu];have m:=Eo i1 (show q<=4294967295 by omega) h3 h4;rw[G3 (n:=4294967296*r),G3 (n:=4294967296*r+a),G3 (n:=q*K_)];by_cases c2:4294967296*r+a<q*K_;rw[hT c2,b6];exact go (.inr c2);rw[fc c2,bu,O7 hy h1 h3 h4 hd i1 i3 i6 (.inr (by omega))]
theorem aC2{c a b u:Int}(h:0<=u)(hu:u<y)(hd:0<=a)(sX:a<=4294967295)(hf:0<=b)(d:b<=4294967295) :
  MO c y y1 K_ u a b ((u*4294967296+a) / y)=Fw c y b ((u*4294967296+a) / y) ((u*4294967296+a)%y) (((u*4294967296+a)%y*4294967296+b) / y):=by
 have hyp:0<y:=by omega
 have hm:=df (u*4294967296+a) (by omega:y≠0);have f:=cX (u*4294967296+a) hyp;have g:=dg (u*4294967296+a) y;have e:an ak (an ak (an ak (u*(4294967296:Int))+a)-an ak ((u*4294967296+a) / y*y))=(u*4294967296+a)%y:=by rw[cT y]at g;rw[LD,LD,LD,LD];generalize(u*4294967296+a) / y*y=B at *;generalize(u*4294967296+a)%y=R at *;omega
 unfold MO;rw[e];exact aD7 hy h1 h1' h3 h4 hm f hf d
end
def aS2{a c:Int}{s:Nat}(ha:0<=a)(hc:0<=c)(b:c<2^s)(d:a*2^s+c<=18446744073709551615):an ak (aW ak.bits (a*2^s) |||aW ak.bits c).toNat=a*2^s+c:=by
 obtain⟨n,rfl⟩:∃n:Nat,a=(n:Int):=⟨a.toNat,by omega⟩;obtain⟨m,rfl⟩:∃m:Nat,c=(m:Int):=⟨c.toNat,by omega⟩;have e:((n:Int)*2^s)=((2^s*n:Nat):Int):=by rw[cY,lG,cT];rfl
 have hm:m<2^s:=by
  have:((m:Nat):Int)<((2^s:Nat):Int):=by rw[lG];exact b
  omega
 rw[e]at d⊢;have f:(aW ak.bits ((2^s*n:Nat):Int) |||aW ak.bits (m:Int)).toNat=2^s*n+m:=by show(aW 64 ((2^s*n:Nat):Int) |||aW 64 (m:Int)).toNat=_;rw[BitVec.toNat_or,eW,eW,show(((2^s*n:Nat):Int)%((2^64:Nat):Int)).toNat=2^s*n by omega,show((m:Int)%((2^64:Nat):Int)).toNat=m by omega,<-Nat.two_pow_add_eq_or_of_lt hm]
 rw[f,G3];omega
def WR{u y un1 au5:Int}(b:0<y)(h1:0<=au5)(h2:au5<=4294967295):(u*4294967296+un1) / y*4294967296+((u*4294967296+un1)%y*4294967296+au5) / y=(u*18446744073709551616+un1*4294967296+au5) / y:=by
 have a:=dg (u*4294967296+un1) y;have e:u*18446744073709551616+un1*4294967296+au5=((u*4294967296+un1)%y*4294967296+au5)+y*((u*4294967296+un1) / y*4294967296):=by
  generalize(u*4294967296+un1) / y=Q at *;generalize(u*4294967296+un1)%y=R at *;have:y*(Q*4294967296)=y*Q*4294967296:=by grind
  rw[this];omega
 rw[e,Int.add_mul_ediv_left _ _ (by omega)];omega
end Dp
namespace Dp
def Z1{a7 b7 y:Int}(g1:0<=a7)(g2:a7<y)(g3:y<=18446744073709551615)(l0:0<=b7)(l2:b7<=18446744073709551615):∃r,IY (a7,b7,y)=Z ((a7*18446744073709551616+b7) / y,r):=by
 unfold IY;simp only[bT];rw[fc (by omega:¬y=0),bu,fc (by omega:¬y<=a7),bu];by_cases o:a7=0;rw[hT o,b6,bu,bT,bu,bT,B2 l0,o];have:=bH l0 (show 0<=y by omega);have:=fg y l0;exact⟨_,by rw[G3,show(0:Int)*18446744073709551616+b7=b7 by omega]⟩;rw[fc o,bu];let ⟨p,H,n,hv,n1,n2,I,J⟩:=bm5 (x:=y) ⟨by omega,g3⟩;rw[H];simp only[bT,bi7,bu,ap3,Vp];have eb:ak.bits=64:=rfl;have K:an ak p=((64-n:Nat):Int):=by rw[G3];omega
 rw[K];generalize hs:64-n=s;have t:n+s=64:=by omega
 have nj:(2:Int)^n*2^s=18446744073709551616:=by rw[<-Jm,t];decide
 have ps:(0:Int)<2^s:=mD (by decide);have G:(0:Int)<2^n:=mD (by decide);have h:min ((s:Nat):Int).toNat ak.bits=s:=by show min ((s:Nat):Int).toNat 64=s;omega
 rw[fc (by omega:¬((s:Nat):Int)<0),h];simp only[bu,bT];have v:an ak (64-((s:Nat):Int))=(n:Int):=by rw[G3];omega
 rw[v];have g:min ((n:Nat):Int).toNat ak.bits=n:=by show min ((n:Nat):Int).toNat 64=n;omega
 rw[fc (by omega:¬((n:Nat):Int)<0),g,bu,bT,fd (show(0:Int)<=2^n by omega)];have M:y*2^s<18446744073709551616:=by have:=eE J ps;rw[nj]at this;exact this
 have z:9223372036854775808<=y*2^s:=by have:=aM I (show(0:Int)<=2^s by omega);rw[<-Jm,show n-1+s=63 by omega]at this;exact this
 have hh:a7*2^s+2^s<=y*2^s:=by
  have:=aM (show a7+1<=y by omega) (show(0:Int)<=2^s by omega)
  grind[gF]
 have xQ:0<=a7*2^s:=aB g1 (by omega);have c0:0<=b7 / 2^n:=bH l0 (by omega);have c1:b7 / 2^n<2^s:=cm G (by rw[cT,nj];omega);rw[G3 (n:=y*2^s),G3 (n:=a7*2^s),aS2 g1 c0 c1 (by omega)];have B:=dg b7 (2^n);have C:=df b7 (show(2:Int)^n≠0 by omega);have i:=cX b7 G;have N:b7%2^n*2^s<18446744073709551616:=by have:=eE i ps;rw[nj]at this;exact this
 have D:0<=b7%2^n*2^s:=aB C (by omega);have j:b7*2^s=b7 / 2^n*18446744073709551616+b7%2^n*2^s:=by
  have:(2^n*(b7 / 2^n)+b7%2^n)*2^s=b7 / 2^n*(2^n*2^s)+b7%2^n*2^s:=by grind
  rw[B,nj]at this;exact this
 have E:an ak (b7*2^s)=b7%2^n*2^s:=by rw[LD,j];omega
 rw[E,Ly (by omega) (by omega),Ly (by omega) (by omega)];have cb:(a7*2^s+b7 / 2^n)*18446744073709551616+b7%2^n*2^s=(a7*18446744073709551616+b7)*2^s:=by
  have:(a7*18446744073709551616+b7)*2^s=a7*2^s*18446744073709551616+b7*2^s:=by grind
  rw[this,j];omega
 have O:(a7*18446744073709551616+b7) / y=((a7*18446744073709551616+b7)*2^s) / (y*2^s):=(Int.mul_ediv_mul_of_pos_left _ _ ps).symm;rw[O,<-cb];have b:a7*2^s+b7 / 2^n<y*2^s:=by omega
 have e:0<=a7*2^s+b7 / 2^n:=by omega
 generalize a7*2^s+b7 / 2^n=u at b e⊢;generalize b7%2^n*2^s=w at N D⊢;generalize y*2^s=a at M z b⊢;have f:a=a / 4294967296*4294967296+a%4294967296:=by omega
 have l:2147483648<=a / 4294967296:=by omega
 have a2:a / 4294967296<=4294967295:=by omega
 have a3:0<=a%4294967296:=by omega
 have a4:a%4294967296<=4294967295:=by omega
 let ⟨s1,s2,P,Q,s5⟩:=SZ (d:=w / 4294967296) f l a3 a4 e b (by omega) (by omega);have s6:=aB s2 (show 0<=a / 4294967296 by omega);rw[fc (by omega:¬a / 4294967296=0),bu,bT,B2 e,G3 (n:=u / (a / 4294967296)),G3 (n:=u / (a / 4294967296)*(a / 4294967296)),G3 (n:=u-u / (a / 4294967296)*(a / 4294967296))];obtain⟨R,fin⟩:∃R,MO (s:Int) a (a / 4294967296) (a%4294967296) u (w / 4294967296) (w%4294967296) ((u*4294967296+w / 4294967296) / a)=Z ((u*18446744073709551616+w) / a,R):=by rw[aC2 f l a2 a3 a4 e b (by omega) (by omega) (by omega) (by omega)];unfold Fw;rw[r8 (fc (by omega)),bT];have d2:=WR (u:=u) (y:=a) (un1:=w / 4294967296) (au5:=w%4294967296) (by omega) (by omega) (by omega);rw[show u*18446744073709551616+w / 4294967296*4294967296+w%4294967296=u*18446744073709551616+w by omega]at d2;have fa:(u*4294967296+w / 4294967296) / a<4294967296:=cm (by omega) (by omega);have S:0<=(u*4294967296+w / 4294967296) / a:=bH (by omega) (by omega);have m1:=df (u*4294967296+w / 4294967296) (show a≠0 by omega);have m2:=cX (u*4294967296+w / 4294967296) (show 0<a by omega);have qN:((u*4294967296+w / 4294967296)%a*4294967296+w%4294967296) / a<4294967296:=cm (by omega) (by omega);have q0':0<=((u*4294967296+w / 4294967296)%a*4294967296+w%4294967296) / a:=bH (by omega) (by omega);exact⟨_,by rw[G3 (n:=(u*4294967296+w / 4294967296) / a*4294967296),G3,d2]⟩
 refine⟨R,?_⟩;refine V5 (λx:Int×Int=>0<=x.1/\x.1<=4294967297/\x.2=u-x.1*(a / 4294967296)/\0<=x.2/\x.2<=4294967295/\(u*4294967296+w / 4294967296) / a<=x.1) (·.1.toNat) (·=Z ((u*18446744073709551616+w) / a,R)) ?_ ⟨s2,P,rfl,Q,by simp only;omega,s1⟩ (by simp only;omega);rintro k ⟨q,r⟩ ⟨i1,i2,i3,i4,i5,i6⟩ ih;simp only at i1 i2 i3 i4 i5 i6⊢;have go:(4294967296<=q\/4294967296*r+w / 4294967296<q*(a%4294967296))->(cond ((4294967296:Int)<=an ak (r+a / 4294967296)) (MO (s:Int) a (a / 4294967296) (a%4294967296) u (w / 4294967296) (w%4294967296) (an ak (q-(1:Int)))) (k (an ak (q-(1:Int)),an ak (r+a / 4294967296))))=Z ((u*18446744073709551616+w) / a,R):=λhb=>by
  let ⟨t1,t2,t3,t4,t5,t6⟩:=RU f l a2 a3 a4 e b (by omega) (by omega) i2 i3 i4 i5 hb
  grind[decide_eq_true,decide_eq_false]
 by_cases c:4294967296<=q
 grind[decide_eq_true]
 rw[fc c,bu];have m:=Eo i1 (show q<=4294967295 by omega) a3 a4;rw[G3 (n:=4294967296*r),G3 (n:=4294967296*r+w / 4294967296),G3 (n:=q*(a%4294967296))];by_cases c2:4294967296*r+w / 4294967296<q*(a%4294967296)
 grind[decide_eq_true]
 rw[fc c2,bu,O7 f l a3 a4 (by omega) i1 i3 i6 (.inr (by omega))];exact fin
end Dp
namespace Dp
def sl(a b:bs):Int:=(b.1-a.1)*(b.1-a.1)+(b.2-a.2)*(b.2-a.2)
def A4(a b p:bs):Int:=(b.1-a.1)*(p.1-a.1)+(b.2-a.2)*(p.2-a.2)
def Ba(a b p:bs)(G:Int):Prop:=ite (A4 a b p<=0) (sl a p<G) <|ite (sl a b<=A4 a b p) (sl b p<G) <|fr a b p*fr a b p<G*sl a b
instance aU9 (a b p:bs) (G:Int):Decidable (Ba a b p G):=inferInstanceAs (Decidable (ite (A4 a b p<=0) (sl a p<G) <|ite (sl a b<=A4 a b p) (sl b p<G) <|fr a b p*fr a b p<G*sl a b))
theorem EV{x:Int}(a:0<=x)(h1:x<=9223372036854775807):rU x=Z x:=by
 let ⟨v,e,_,_,h⟩:=tQ x
 grind
def V9{t c:Int}(k:-9223372036854775807<=t)(j:t<=9223372036854775807)(hc:1<=c)(d:c<=9223372036854775807)(l:t*t<c*9223372036854775808):FD (t,t,c)=Z (t*t / c,0):=by
 let ⟨v,e,a,b,hv⟩:=tQ t;have hv:=hv (by omega) (by omega);have f:v*v=t*t:=by grind[Int.natAbs_eq]
 have g:=sq_nonneg t;have hm:=Nf a b a b;rw[f]at hm;have h:t*t / 18446744073709551616<c:=cm (by decide) (by omega);let ⟨r,hd⟩:=Z1 (a7:=t*t / 18446744073709551616) (b7:=t*t%18446744073709551616) (y:=c) (by omega) h (by omega) (by omega) (by omega);rw[show t*t / 18446744073709551616*18446744073709551616+t*t%18446744073709551616=t*t by omega]at hd;have hw:t*t / c<9223372036854775808:=cm (by omega) (by omega);have i:0<=t*t / c:=bH g (by omega);let ⟨s,es,_,_,hs⟩:=am1 i;have hs:=hs (by omega);unfold FD;simp only[bT,e,hm,EV (x:=c) (by omega) d]
 grind[decide_eq_false,bT,ar,aQ]
def aM8{a b:Int}(h1:0<=a)(h2:a<=9223372036854775807)(d:1<=b)(c:b<=9223372036854775807):DK (a,b)=Z ((bS a.toNat b.toNat:Nat):Int):=by unfold DK;simp only[EV h1 h2,EV (show 0<=b by omega) c,bT];have:=FC a.toNat b.toNat (by omega);rw[show((a.toNat:Nat):Int)=a by omega,show((b.toNat:Nat):Int)=b by omega]at this;rw[this,bT];have hle:bS a.toNat b.toNat<=b.toNat:=lq _ (by omega);let ⟨s,es,_,_,hs⟩:=am1 (n:=((bS a.toNat b.toNat:Nat):Int)) (by omega);rw[es,hs (by omega)];rfl
def aQ6(a b p:bs):sl a b*sl a p=A4 a b p*A4 a b p+fr a b p*fr a b p:=by unfold sl A4 fr;grind
def aH2{t L:Int}(c:0<L):∃g D R:Int,g=((bS (t*t%L).toNat L.toNat:Nat):Int)/\1<=g/\g<=L/\D=L / g/\R=t*t%L / g/\L=g*D/\t*t%L=g*R/\1<=D/\0<=R/\R<D/\bS (t*t / L*D+R).toNat D.toNat=1/\(∀G:Int,t*t / L*D+R<G*D↔t*t<G*L)/\∀G:Int,t*t / L<G↔t*t<G*L:=by
 have u:=df (t*t) (by omega:L≠0);have h1:=cX (t*t) c;have m:=dg (t*t) L;have n:0<=t*t / L:=bH (sq_nonneg t) (by omega);generalize o:t*t / L=kO at *;obtain⟨x,f⟩:∃x:Nat,t*t%L=(x:Int):=⟨(t*t%L).toNat,by omega⟩;obtain⟨y,i⟩:∃y:Nat,L=(y:Int):=⟨L.toNat,by omega⟩;obtain⟨w,hw⟩:∃w:Nat,kO=(w:Int):=⟨kO.toNat,by omega⟩;have hyp:0<y:=by omega
 have j:0<bS x y:=Nat.gcd_pos_of_pos_right _ hyp;let ⟨d,hd⟩:=Nat.gcd_dvd_right x y;let ⟨r,a⟩:=Nat.gcd_dvd_left x y;have co:bS r d=1:=by
  have:=Nat.gcd_mul_left (bS x y) r d;rw[<-a,<-hd]at this;have h2:bS x y*1=bS x y*bS r d:=by omega
  exact(Nat.eq_of_mul_eq_mul_left j h2).symm
 have b:=lq x hyp;have k:bS (t*t%L).toNat L.toNat=bS x y:=by rw[f,i];rfl
 generalize bS x y=K at hd a j b k;have l:L=(K:Int)*(d:Int):=by rw[i,hd,cY]
 have p:t*t%L=(K:Int)*(r:Int):=by rw[f,a,cY]
 have q:t*t=(K:Int)*(kO*(d:Int)+(r:Int)):=by grind
 refine⟨(K:Int),(d:Int),(r:Int),by rw[k],by omega,by omega,?_,?_,l,p,?_,by omega,?_,?_,?_,?_⟩
 grind[jF]
 grind[jF]
 grind[Nat.eq_zero_or_pos]
 have:K*r<K*d:=by omega
 have:=Nat.lt_of_mul_lt_mul_left this;omega;have e:(kO*(d:Int)+(r:Int)).toNat=r+d*w:=by rw[hw,show((w:Int)*(d:Int)+(r:Int))=((r+d*w:Nat):Int)by grind];omega
 grind[aO,j_,Nat.gcd_add_mul_left_right]
 intro G;have s:G*L=(K:Int)*(G*(d:Int)):=by
  conv=>lhs;rw[l]
  grind
 rw[q,s];exact⟨λh=>cd h (by omega),λh=>gm h (by omega)⟩;intro G;rw[<-o];exact Int.ediv_lt_iff_lt_mul c
end Dp
namespace Dp
def Gr{a b:bs}(ha:d' a=Y)(c:d' b=Y):vD (a,b)=Z (sl a b)/\0<=sl a b/\sl a b<=35184372088832:=Dl ha c
theorem aN2{a b p:bs}(ha:d' a=Y)(c:d' b=Y)(hp:d' p=Y):ek (ek (ek (b.1-a.1)*ek (p.1-a.1))+ek (ek (b.2-a.2)*ek (p.2-a.2)))=A4 a b p:=by rw[wH]at ha c hp;let ⟨m1,m2⟩:=vR (a:=b.1-a.1) (b:=p.1-a.1) (m:=4194304) (n:=4194304);let ⟨m3,m4⟩:=vR (a:=b.2-a.2) (b:=p.2-a.2) (m:=4194304) (n:=4194304);rw[fx (n:=b.1-a.1),fx (n:=p.1-a.1),fx (n:=b.2-a.2),fx (n:=p.2-a.2),fx (n:=(b.1-a.1)*(p.1-a.1)),fx (n:=(b.2-a.2)*(p.2-a.2)),fx];rfl
def T4{a b p:bs}(ha:d' a=Y)(hp:d' p=Y)(c:1<=sl a b):fr a b p*fr a b p<=sl a b*35184372088832:=by have h1:=aQ6 a b p;have h2:=sq_nonneg (A4 a b p);have d:sl a b*sl a p<=sl a b*35184372088832:=bI (Gr ha hp).2.2 (by omega);omega
def Sp{a b p:bs}(ha:d' a=Y)(e:d' b=Y)(hp:d' p=Y):∃m d:Int,yw (a,b,p)=Z (m,d)/\0<=m/\m<=9223372036854775807/\1<=d/\d<=9223372036854775807/\bS m.toNat d.toNat=1/\∀G,m<G*d↔Ba a b p G:=by
 let ⟨s1,s2,s3⟩:=Gr ha e;let ⟨w,x,s6⟩:=Gr ha hp;let ⟨z,C,s9⟩:=Gr e hp;have g1:∀n:Nat,bS n 1=1:=Nat.gcd_one_right;unfold yw;dsimp only;rw[GS,ha,e,hp,s1,w,z,Fa a b p ha e hp];simp only[bT,bG,ar,bu,aN2 ha e hp];unfold Ba;by_cases c1:A4 a b p<=0;rw[hT c1,b6];refine⟨_,_,rfl,x,by omega,by omega,by omega,g1 _,λG=>?_⟩;rw[cr c1,fE];rw[fc c1,bu];by_cases c2:sl a b<=A4 a b p;rw[hT c2,b6];refine⟨_,_,rfl,C,by omega,by omega,by omega,g1 _,λG=>?_⟩;rw[cc c1,cr c2,fE];rw[fc c2,bu];have i:1<=sl a b:=by omega
 have ht:=aF7 ha e hp;have hq:=T4 ha hp i;have j:=sq_nonneg (fr a b p);let ⟨g,D,R,E,k1,k2,o,H,k3,k4,I,k6,k7,q,r,f⟩:=aH2 (t:=fr a b p) (L:=sl a b) (by omega);have J:fr a b p*fr a b p / sl a b<=35184372088832:=by have:fr a b p*fr a b p / sl a b<35184372088833:=cm (by omega) (by omega);omega
 have c:0<=fr a b p*fr a b p / sl a b:=bH j (by omega);have k:=dg (fr a b p*fr a b p) (sl a b);have h:=df (fr a b p*fr a b p) (show sl a b≠0 by omega);have K:=cX (fr a b p*fr a b p) (show 0<sl a b by omega);rw[V9 (by omega) (by omega) i (by omega) (by omega)];simp only[bT];have l:ek (ek (fr a b p*fr a b p)-ek (fr a b p*fr a b p / sl a b*sl a b))=fr a b p*fr a b p%sl a b:=by rw[cT (sl a b)]at k;rw[ek,iw,ek,iw,ek,iw];generalize fr a b p*fr a b p / sl a b*sl a b=B at *;generalize fr a b p*fr a b p%sl a b=Q at *;generalize fr a b p*fr a b p=T at *;omega
 rw[l,aM8 h (by omega) i (by omega),<-E];simp only[bT];rw[fc (by omega:¬g=0)];simp only[bu,bT];rw[B2 (by omega:0<=sl a b),B2 h,<-o,<-H];have M:D<=sl a b:=by rw[o];exact fg _ (by omega)
 rw[fx (n:=D),fx (n:=R),G3 (n:=D),G3 (n:=R),G3 (n:=fr a b p*fr a b p / sl a b),Nf c (by omega) (show 0<=D by omega) (by omega)];simp only[bT];have hM:=Eo c J (show 0<=D by omega) (show D<=35184372088832 by omega);generalize fr a b p*fr a b p / sl a b=kO at *;have N:=q;have O:=r;have s:=f;generalize hX:kO*D=X at *;have P:zJ (X%18446744073709551616,R,0)=Z ((X%18446744073709551616+R+0)%18446744073709551616,(X%18446744073709551616+R+0) / 18446744073709551616):=by unfold zJ;rw[hT (by simp only;omega),hT (by simp only;omega)];rfl
 rw[P];simp only[bT];rw[G3 (n:=X / 18446744073709551616+(X%18446744073709551616+R+0) / 18446744073709551616)];have last:∀G,kO<G*1↔fr a b p*fr a b p<G*sl a b:=λG=>by rw[fE];exact f G
 by_cases u:0<X / 18446744073709551616+(X%18446744073709551616+R+0) / 18446744073709551616;rw[hT u,b6];refine⟨_,_,rfl,c,by omega,by omega,by omega,g1 _,λG=>?_⟩;rw[cc c1,cc c2];exact last G;rw[fc u,bu];by_cases v:9223372036854775807<(X%18446744073709551616+R+0)%18446744073709551616;rw[hT v,b6];refine⟨_,_,rfl,c,by omega,by omega,by omega,g1 _,λG=>?_⟩;rw[cc c1,cc c2];exact last G;rw[fc v,bu];have S:(X%18446744073709551616+R+0)%18446744073709551616=X+R:=by omega
 rw[S,fx (n:=X+R)];refine⟨_,_,rfl,by omega,by omega,I,by omega,q,λG=>?_⟩;rw[cc c1,cc c2];exact r G
end Dp
def sn{α:Type}{c:Bool}{a b:dv α}(ha:∃v,a=Z v)(d:∃v,b=Z v):∃v,(cond c a b)=Z v:=by cases c<;>assumption
namespace Dp
def yZ(q a b:bs):Bool :=cond (b.2<a.2) (cond (b.2<=q.2) (cond (q.2<a.2) (No (0<l7 b a q)) U) U) (cond (a.2<=q.2) (cond (q.2<b.2) (No (0<l7 a b q)) U) U)
end Dp
end Go.Ab
namespace Go.Pg
abbrev qT:=Int×Int
def dk{α:Type}:List α->(α->Int)->Int
 | [],_=>0
 |a::l,f=>f a+dk l f
section
variable {α β:Type}
def ns{f g:α->Int}:∀ {l:List α},(∀a∈l,f a=g a)->dk l f=dk l g
 | [],_=>rfl
 |a::l,h=>by have h1:=h a (by simp);have h2:=ns (f:=f) (g:=g) (l:=l) λb c=>h b (by simp[c]);simp only[dk,h1,h2]
def ss(f g:α->Int):∀l:List α,dk l (λa=>f a+g a)=dk l f+dk l g
 | []=>by simp[dk]
 |a::l=>by have:=ss f g l;simp only[dk];omega
def yI(f g:α->Int):∀l:List α,dk l (λa=>f a-g a)=dk l f-dk l g
 | []=>by simp[dk]
 |a::l=>by have:=yI f g l;simp only[dk];omega
def GC(f:α->Int):∀l:List α,dk l (- f ·)=- dk l f
 | []=>by simp[dk]
 |a::l=>by have:=GC f l;simp only[dk];omega
def uq{f:α->Int}{l:List α}(h:∀a∈l,f a=0):dk l f=0:=by
 induction l with
 |nil=>rfl
 |cons a l c=>simp only[dk,h a (by simp),c λb d=>h b (by simp[d])];rfl
def JQ(c:Int)(f:α->Int):∀l:List α,dk l (c*f ·)=c*dk l f
 | []=>by simp[dk]
 |a::l=>by have:=JQ c f l;simp only[dk,this,jg]
def zQ(f:α->Int):∀l m:List α,dk (l++m) f=dk l f+dk m f
 | [],m=>by simp[dk]
 |a::l,m=>by have:=zQ f l m;simp only[cV,dk];omega
def PK{f:α->Int}{l m:List α}(h:l.Perm m):dk l f=dk m f:=by
 induction h with
 |nil=>rfl
 |cons x _ a=>simp only[dk,a]
 |swap x y l=>simp only[dk];omega
 |trans _ _ h1 h2=>exact h1.trans h2
def DY(g:β->α)(f:α->Int):∀l:List β,dk (l.map g) f=dk l (λb=>f (g b))
 | []=>rfl
 |b::l=>by simp only[aD,dk,DY g f l]
def Om(p:α->Bool)(f:α->Int):∀l:List α,dk (l.filter p) f=dk l (λa=>ite (p a) (f a) 0)
 | []=>rfl
 |a::l=>by
  have:=Om p f l;by_cases h:p a=Y;simp only[List.filter_cons,h,vE,dk,this];simp only[ dk]
  grind
def J2(f:α->β->Int):∀(l:List α) (m:List β),dk l (λa=>dk m (f a))=dk m (λb=>dk l (f · b))
 | [],m=>by simp only[dk];exact(uq λ_ _=>rfl).symm
 |a::l,m=>by simp only[dk,J2 f l m];rw[<-ss]
end
structure Net(ι:Type) where
 E:List ι
 b7:ι->qT
 a7:ι->qT
 M:Int
 s:ι->Int
 p7:0<M
 ord:∀e∈E,(b7 e).2<(a7 e).2\/((b7 e).2=(a7 e).2/\(b7 e).1<(a7 e).1)
 AB:∀e∈E,(b7 e).2<(a7 e).2->s e*((a7 e).2-(b7 e).2)=M*((a7 e).1-(b7 e).1)
namespace Net
variable {ι:Type} (N:Net ι)
def X(e:ι)(y:Int):Int:=N.M*(N.b7 e).1+N.s e*(y-(N.b7 e).2)
def up(e:ι):Prop:=(N.b7 e).2<(N.a7 e).2
instance (e:ι):Decidable (N.up e):=by unfold up;infer_instance
def eS(e:ι)(k:Int):Prop:=(N.b7 e).2<=k/\k<(N.a7 e).2
instance (e:ι) (k:Int):Decidable (N.eS e k):=by unfold eS;infer_instance
def vG(e:ι):N.X e (N.b7 e).2=N.M*(N.b7 e).1:=by simp[X]
def yo{e:ι}(he:e∈N.E)(hu:N.up e):N.X e (N.a7 e).2=N.M*(N.a7 e).1:=by have:=N.AB e he hu;unfold X;rw[this,cZ];omega
structure wx:Prop where
 nodup:N.E.Nodup
 fr:∀e∈N.E,∀f∈N.E,∀k,N.eS e k->N.eS f k->N.X e k<N.X f k->N.X e (k+1)<=N.X f (k+1)
 Vd:∀e∈N.E,∀f∈N.E,∀k,N.eS e k->N.eS f k->N.X e (k+1)<N.X f (k+1)->N.X e k<=N.X f k
 apart:∀e∈N.E,∀f∈N.E,∀k,N.eS e k->N.eS f k->N.X e k=N.X f k->N.X e (k+1)=N.X f (k+1)->e=f
 KK:∀e∈N.E,∀f∈N.E,∀k,N.up e->N.up f->e≠f->(N.b7 e).2<=k->k<=(N.a7 e).2->(N.b7 f).2<=k->k<=(N.a7 f).2->N.X e k=N.X f k->(k=(N.b7 e).2\/k=(N.a7 e).2)
 flat:∀e∈N.E,∀f∈N.E,N.up e->¬N.up f->(N.b7 e).2<=(N.b7 f).2->(N.b7 f).2<=(N.a7 e).2->N.M*(N.b7 f).1<=N.X e (N.b7 f).2->N.X e (N.b7 f).2<=N.M*(N.a7 f).1 ->
  ((N.b7 f).2=(N.b7 e).2\/(N.b7 f).2=(N.a7 e).2)/\(N.X e (N.b7 f).2=N.M*(N.b7 f).1\/N.X e (N.b7 f).2=N.M*(N.a7 f).1)
 sv:∀e∈N.E,∀f∈N.E,¬N.up e->¬N.up f->(N.b7 e).2=(N.b7 f).2->(N.b7 e).1<(N.a7 f).1->(N.b7 f).1<(N.a7 e).1->e=f
def rR(d:ι->Int):Prop:=∀A:qT->Bool,dk N.E (λe=>d e*((ite (A (N.b7 e)) 1 0)-(ite (A (N.a7 e)) 1 0)))=0
def vK(d:ι->Int)(k a:Int):Int:=dk N.E λe=>ite (N.eS e k/\N.X e k<a) (d e) 0
def below(d:ι->Int)(k a:Int):Int:=dk N.E λe=>ite (N.eS e (k-1)/\N.X e k<a) (d e) 0
def uG(d:ι->Int)(k a:Int):Int:=dk N.E λe=>ite (¬N.up e/\(N.b7 e).2=k/\N.M*(N.b7 e).1<a/\a<=N.M*(N.a7 e).1) (d e) 0
def line{d:ι->Int}(hd:N.rR d)(k a:Int):N.vK d k a+N.uG d k a=N.below d k a:=by
 have h:=hd λv=>No (v.2=k/\N.M*v.1<a);have e:dk N.E (λe=>d e*((ite (No ((N.b7 e).2=k/\N.M*(N.b7 e).1<a)=Y) 1 0)-(ite (No ((N.a7 e).2=k/\N.M*(N.a7 e).1<a)=Y) 1 0)))=dk N.E (λe=>((ite (N.eS e k/\N.X e k<a) (d e) 0)+(ite (¬N.up e/\(N.b7 e).2=k/\N.M*(N.b7 e).1<a/\a<=N.M*(N.a7 e).1) (d e) 0))-(ite (N.eS e (k-1)/\N.X e k<a) (d e) 0)):=by
  refine ns λe he=>?_;simp only[kA];rcases N.ord e he with ho|⟨ho,g⟩
  have hu:N.up e:=ho;by_cases h1:(N.b7 e).2=k;have f:N.X e k=N.M*(N.b7 e).1:=by rw[<-h1];exact N.vG e
  have c1:N.eS e k:=⟨by omega,by omega⟩;have c2:¬N.eS e (k-1):=λh=>by have:=h.1;omega
  have i:¬(N.a7 e).2=k:=by omega
  simp only[h1,c1,c2,i,hu,f];split<;>simp;by_cases h2:(N.a7 e).2=k;have f:N.X e k=N.M*(N.a7 e).1:=by rw[<-h2];exact N.yo he hu
  have c1:¬N.eS e k:=λh=>by have:=h.2;omega
  have c2:N.eS e (k-1):=⟨by omega,by omega⟩;simp only[h1,h2,c1,c2,f,false_and,l4];split<;>simp;have c:N.eS e k↔N.eS e (k-1):=by unfold eS;omega
  simp only[h1,h2,c,hu,false_and,not_true_eq_false,l4];omega;have hu:¬N.up e:=λh=>by unfold up at h;omega
  have c1:∀k,¬N.eS e k:=λk h=>by have:=h.1;have:=h.2;omega
  have l:=cd g N.p7;simp only[c1,hu,<-ho];by_cases h1:(N.b7 e).2=k;simp only[h1];by_cases h2:N.M*(N.b7 e).1<a;by_cases b:N.M*(N.a7 e).1<a;have j:¬a<=N.M*(N.a7 e).1:=by omega
  simp[h2,b,j];simp[h2,b];have b:¬N.M*(N.a7 e).1<a:=by omega
  simp[h2,b];simp[h1]
 rw[e,yI,ss]at h;show dk N.E _+dk N.E _=dk N.E _;omega
def kO(d:ι->Int)(k:Int)(u:ι):Int:=dk N.E λe=>ite (N.eS e k/\N.X e k+N.X e (k+1)<N.X u k+N.X u (k+1)) (d e) 0
variable {N} (hP:N.wx)
include hP
theorem O5{e u:ι}(he:e∈N.E)(hu:u∈N.E){k:Int}(h1:N.eS e k)(h2:N.eS u k):N.X e k+N.X e (k+1)<N.X u k+N.X u (k+1)↔N.X e k<N.X u k\/(N.X e k=N.X u k/\N.X e (k+1)<N.X u (k+1)):=by
 have a:=hP.fr e he u hu k h1 h2;have b:=hP.fr u hu e he k h2 h1;constructor;intro h;rcases iH (N.X e k) (N.X u k)with c|c|c
 exact bw c;exact bm ⟨c,by omega⟩;omega;rintro (h|⟨h,h'⟩);omega;omega
theorem aP6{e u:ι}(he:e∈N.E)(hu:u∈N.E){k:Int}(h1:N.eS e k)(h2:N.eS u k):N.X e k+N.X e (k+1)<N.X u k+N.X u (k+1)↔N.X e (k+1)<N.X u (k+1)\/(N.X e (k+1)=N.X u (k+1)/\N.X e k<N.X u k):=by
 have a:=hP.Vd e he u hu k h1 h2;have b:=hP.Vd u hu e he k h2 h1;constructor;intro h;rcases iH (N.X e (k+1)) (N.X u (k+1))with c|c|c
 exact bw c;exact bm ⟨c,by omega⟩;omega;rintro (h|⟨h,h'⟩);omega;omega
theorem Ul(d:ι->Int){u:ι}(hu:u∈N.E){k:Int}(h2:N.eS u k):N.kO d k u=N.vK d k (N.X u k)+dk N.E (λe=>ite (N.eS e k/\N.X e k=N.X u k/\N.X e (k+1)<N.X u (k+1)) (d e) 0):=by
 unfold kO vK;rw[<-ss];refine ns λe he=>?_;by_cases h1:N.eS e k;have:=O5 hP he hu h1 h2;simp only[ this];by_cases c1:N.X e k<N.X u k;have c2:¬N.X e k=N.X u k:=by omega
 simp[ c2];simp[c1];simp[h1]
theorem Um(d:ι->Int){u:ι}(hu:u∈N.E){k:Int}(h2:N.eS u k):N.kO d k u=N.below d (k+1) (N.X u (k+1))+dk N.E (λe=>ite (N.eS e k/\N.X e (k+1)=N.X u (k+1)/\N.X e k<N.X u k) (d e) 0):=by
 unfold kO below;rw[<-ss];refine ns λe he=>?_;by_cases h1:N.eS e k;have:=aP6 hP he hu h1 h2;simp only[ this];by_cases c1:N.X e (k+1)<N.X u (k+1);have c2:¬N.X e (k+1)=N.X u (k+1):=by omega
 simp[ c2];simp[c1];simp[h1]
theorem sV{e:ι}{k:Int}(h:N.eS e k):N.up e:=by have:=h.1;have:=h.2;unfold up;omega
theorem bd6{d:ι->Int}(hd:N.rR d){u:ι}(hu:u∈N.E){k:Int}(h1:N.eS u k)(h2:N.eS u (k+1)):N.kO d k u=N.kO d (k+1) u:=by
 have a:=sV hP h1;have i1:(N.b7 u).2<k+1:=by have:=h1.1;omega
 have i2:=h2.2;have i:dk N.E (λe=>ite (N.eS e k/\N.X e (k+1)=N.X u (k+1)/\N.X e k<N.X u k) (d e) 0)=0:=uq λe he=>by
  by_cases c:N.eS e k/\N.X e (k+1)=N.X u (k+1)/\N.X e k<N.X u k;let ⟨c1,c2,g⟩:=c;have b:u≠e:=λh=>by subst h;omega
  have:=hP.KK u hu e he (k+1) a (sV hP c1) b (by omega) (by omega) (by have:=c1.1;omega) (by have:=c1.2;omega) c2.symm;omega;rw[cc c]
 have j:dk N.E (λe=>ite (N.eS e (k+1)/\N.X e (k+1)=N.X u (k+1)/\N.X e (k+1+1)<N.X u (k+1+1)) (d e) 0)=0:=uq λe he=>by
  by_cases c:N.eS e (k+1)/\N.X e (k+1)=N.X u (k+1)/\N.X e (k+1+1)<N.X u (k+1+1);let ⟨c1,c2,g⟩:=c;have b:u≠e:=λh=>by subst h;omega
  have:=hP.KK u hu e he (k+1) a (sV hP c1) b (by omega) (by omega) (by have:=c1.1;omega) (by have:=c1.2;omega) c2.symm;omega;rw[cc c]
 have m:N.uG d (k+1) (N.X u (k+1))=0:=uq λf hf=>by by_cases c:¬N.up f/\(N.b7 f).2=k+1/\N.M*(N.b7 f).1<N.X u (k+1)/\N.X u (k+1)<=N.M*(N.a7 f).1;let ⟨c1,c2,g,n⟩:=c;have:=hP.flat u hu f hf a c1 (by omega) (by omega) (by rw[c2];omega) (by rw[c2];omega);omega;rw[cc c]
 have l:=N.line hd (k+1) (N.X u (k+1));rw[Um hP d hu h1,Ul hP d hu h2,i,j];omega
theorem Sh{d:ι->Int}(hd:N.rR d){u:ι}(hu:u∈N.E)(n:Nat):∀ {k:Int},N.eS u k->N.eS u (k+n)->N.kO d k u=N.kO d (k+n) u:=by
 induction n with
 |zero=> simp
 |succ n b =>intro k h1 h2;have a:N.eS u (k+1):=⟨by have:=h1.1;omega,by have:=h2.2;omega⟩;rw[bd6 hP hd hu h1 a,show k+((n+1:Nat):Int)=k+1+(n:Int)by omega];exact b a (by rw[show k+1+(n:Int)=k+((n+1:Nat):Int)by omega];exact h2)
theorem Uk{d:ι->Int}(hd:N.rR d){u:ι}(hu:u∈N.E){k a:Int}(h1:N.eS u k)(h2:N.eS u a):N.kO d k u=N.kO d a u:=by
 rcases iM k a with h|h
 have:=Sh hP hd hu (a-k).toNat h1 (by rw[show k+((a-k).toNat:Int)=a by omega];exact h2);rw[show k+((a-k).toNat:Int)=a by omega]at this;exact this;have:=Sh hP hd hu (k-a).toNat h2 (by rw[show a+((k-a).toNat:Int)=k by omega];exact h1);rw[show a+((k-a).toNat:Int)=k by omega]at this;exact this.symm
end Net
end Go.Pg
namespace Go.Pg
namespace Net
variable {ι:Type} {N:Net ι} (hP:N.wx)
def yv(N:Net ι)(d:ι->Int)(v:qT):Int:=dk N.E λe=>ite (N.up e/\N.b7 e=v) (d e) 0
def C'(N:Net ι)(d:ι->Int)(v:qT):Int:=dk N.E λe=>ite (N.up e/\N.a7 e=v) (d e) 0
def Bh(N:Net ι)(d:ι->Int)(v:qT):Int:=dk N.E λe=>ite (¬N.up e/\N.b7 e=v) (d e) 0
def Bi(N:Net ι)(d:ι->Int)(v:qT):Int:=dk N.E λe=>ite (¬N.up e/\N.a7 e=v) (d e) 0
def RZ{d:ι->Int}(hd:N.rR d)(v:qT):N.yv d v+N.Bh d v=N.C' d v+N.Bi d v:=by
 have h:=hd λp=>No (p=v);have e:dk N.E (λe=>d e*((ite (No (N.b7 e=v)=Y) 1 0)-(ite (No (N.a7 e=v)=Y) 1 0)))=dk N.E (λe=>((ite (N.up e/\N.b7 e=v) (d e) 0)+(ite (¬N.up e/\N.b7 e=v) (d e) 0))-((ite (N.up e/\N.a7 e=v) (d e) 0)+(ite (¬N.up e/\N.a7 e=v) (d e) 0))):=by refine ns λe _=>?_;by_cases h1:N.up e<;>by_cases h2:N.b7 e=v<;>by_cases a:N.a7 e=v<;>simp[h1,h2,a]
 rw[e,yI,ss,ss]at h;unfold yv C' Bh Bi;omega
def L2(N:Net ι)(v:qT):Prop:=∃e∈N.E,N.b7 e=v\/N.a7 e=v
include hP
omit hP in
theorem yH{e:ι}(he:e∈N.E)(h:¬N.up e):(N.b7 e).2=(N.a7 e).2/\(N.b7 e).1<(N.a7 e).1:=by
 rcases N.ord e he with ho|ho
 exact b8 ho h;exact ho
theorem Np(d:ι->Int){v:qT}(hv:N.L2 v):N.uG d v.2 (N.M*v.1)=N.Bi d v:=by
 refine ns λf hf=>?_;by_cases h1:N.up f;simp[h1];let ⟨k,l⟩:=yH hf h1;by_cases h2:N.a7 f=v;have c:(N.b7 f).2=v.2/\N.M*(N.b7 f).1<N.M*v.1/\N.M*v.1<=N.M*(N.a7 f).1:=by rw[<-h2];exact⟨k,cd l N.p7,cq _⟩
 simp[ h2,c];have c:¬((N.b7 f).2=v.2/\N.M*(N.b7 f).1<N.M*v.1/\N.M*v.1<=N.M*(N.a7 f).1):=by
  rintro ⟨c1,c2,i⟩;have c2:=gm c2 (dL N.p7);have i:=Int.le_of_mul_le_mul_left i N.p7;have n:v.1≠(N.a7 f).1:=λh=>h2 (fC h.symm (by omega));let ⟨e,he,a⟩:=hv;by_cases b:N.up e;rcases a with a|a
  have g:N.X e (N.b7 f).2=N.M*v.1:=by rw[c1,<-a];exact N.vG e
  have:=hP.flat e he f hf b h1 (by rw[a];omega) (by unfold up at b;rw[a]at b;omega) (by rw[g];exact bI (by omega) (dL N.p7)) (by rw[g];exact bI (by omega) (dL N.p7));rw[g]at this;rcases this.2 with h|h
  have:=cH (by have:=N.p7;omega) h;omega;have:=cH (by have:=N.p7;omega) h;omega;have g:N.X e (N.b7 f).2=N.M*v.1:=by rw[c1,<-a];exact N.yo he b
  have:=hP.flat e he f hf b h1 (by unfold up at b;rw[a]at b;omega) (by rw[a];omega) (by rw[g];exact bI (by omega) (dL N.p7)) (by rw[g];exact bI (by omega) (dL N.p7));rw[g]at this;rcases this.2 with h|h
  have:=cH (by have:=N.p7;omega) h;omega;have:=cH (by have:=N.p7;omega) h;omega;let ⟨m,j⟩:=yH he b;rcases a with a|a
  have:=hP.sv e he f hf b h1 (by rw[a];omega) (by rw[a];omega) (by rw[a]at j;omega);subst this;rw[a]at c2;omega;have:=hP.sv e he f hf b h1 (by rw[m,a];omega) (by rw[a]at j;omega) (by rw[a];omega);subst this;exact h2 a
 simp only[h1,h2,not_false_eq_true,qj,l4];rw[cc c]
theorem bd5(d:ι->Int){u:ι}(hu:u∈N.E)(h:N.up u){v:qT}(hv:N.b7 u=v):N.kO d v.2 u=N.vK d v.2 (N.M*v.1)+dk N.E (λe=>ite (N.up e/\N.b7 e=v/\N.X e (v.2+1)<N.X u (v.2+1)) (d e) 0):=by
 subst hv;have f:=N.vG u;have hc:N.eS u (N.b7 u).2:=⟨cq _,h⟩;rw[Ul hP d hu hc,f];congr 1;refine ns λe he=>?_;by_cases c:N.up e/\N.b7 e=N.b7 u/\N.X e ((N.b7 u).2+1)<N.X u ((N.b7 u).2+1);let ⟨c1,c2,a⟩:=c;rw[cr ⟨⟨by rw[c2];omega,by unfold up at c1;rw[c2]at c1;exact c1⟩,by rw[<-c2];exact N.vG e,a⟩,cr ⟨c1,c2,a⟩];rw[cc c,cc];rintro ⟨c1,c2,a⟩;have b:e≠u:=λh=>by subst h;omega
 have i:=hP.KK e he u hu (N.b7 u).2 (sV hP c1) h b c1.1 (by have:=c1.2;omega) (cq _) (by unfold up at h;omega) (by rw[c2,f]);have g:(N.b7 u).2=(N.b7 e).2:=by have:=c1.2;omega
 refine c ⟨sV hP c1,fC ?_ g.symm,a⟩;have:=N.vG e;rw[<-g,c2]at this;exact(cH (by have:=N.p7;omega) this).symm
theorem bd4(d:ι->Int){u:ι}(hu:u∈N.E)(h:N.up u){v:qT}(hv:N.a7 u=v):N.kO d (v.2-1) u=N.below d v.2 (N.M*v.1)+dk N.E (λe=>ite (N.up e/\N.a7 e=v/\N.X e (v.2-1)<N.X u (v.2-1)) (d e) 0):=by
 subst hv;have g:=N.yo hu h;have hc:N.eS u ((N.a7 u).2-1):=⟨by unfold up at h;omega,by omega⟩;have j:(N.a7 u).2-1+1=(N.a7 u).2:=by omega
 rw[Um hP d hu hc,j,g];congr 1;refine ns λe he=>?_;by_cases c:N.up e/\N.a7 e=N.a7 u/\N.X e ((N.a7 u).2-1)<N.X u ((N.a7 u).2-1);let ⟨c1,c2,a⟩:=c;have b:=N.yo he c1;rw[cr ⟨⟨by unfold up at c1;rw[c2]at c1;omega,by rw[c2];omega⟩,by rw[<-c2];exact b,a⟩,cr ⟨c1,c2,a⟩];rw[cc c,cc];rintro ⟨c1,c2,a⟩;have f:e≠u:=λh=>by subst h;omega
 have k:=hP.KK e he u hu (N.a7 u).2 (sV hP c1) h f (by have:=c1.1;omega) (by have:=c1.2;omega) (by unfold up at h;omega) (cq _) (by rw[c2,g]);have i:(N.a7 u).2=(N.a7 e).2:=by have:=c1.1;omega
 refine c ⟨sV hP c1,fC ?_ i.symm,a⟩;have:=N.yo he (sV hP c1);rw[<-i,c2]at this;exact(cH (by have:=N.p7;omega) this).symm
theorem bp0(d:ι->Int){f:ι}(hf:f∈N.E)(h:¬N.up f):N.vK d (N.b7 f).2 (N.M*(N.a7 f).1)=N.vK d (N.b7 f).2 (N.M*(N.b7 f).1)+N.yv d (N.b7 f):=by
 let ⟨o,m⟩:=yH hf h;have n:=cd m N.p7;unfold vK yv;rw[<-ss];refine ns λe he=>?_;by_cases c:N.eS e (N.b7 f).2;have g:=sV hP c;simp only[c,g,qj];by_cases c1:N.b7 e=N.b7 f;have j:N.X e (N.b7 f).2=N.M*(N.b7 f).1:=by rw[<-c1];exact N.vG e
 simp only[c1,j,n];omega;simp only[c1,l4];by_cases c2:N.X e (N.b7 f).2<N.M*(N.b7 f).1;have k:N.X e (N.b7 f).2<N.M*(N.a7 f).1:=by omega
 simp only[c2,k];omega;by_cases k:N.X e (N.b7 f).2<N.M*(N.a7 f).1;have:=hP.flat e he f hf g h c.1 (by have:=c.2;omega) (by omega) (by omega);have l:(N.b7 f).2=(N.b7 e).2:=by have:=c.2;omega
 have j:N.X e (N.b7 f).2=N.M*(N.b7 f).1:=by omega
 have i:=N.vG e;rw[<-l,j]at i;exact b8 (fC (cH (by have:=N.p7;omega) i).symm l.symm) c1;omega;have c1:¬(N.up e/\N.b7 e=N.b7 f):=by rintro ⟨a,b⟩;exact c ⟨by rw[b];omega,by unfold up at a;rw[b]at a;exact a⟩
 simp[c,c1]
end Net
end Go.Pg
namespace Go.Pg
def B7{α:Type}[DecidableEq α](f:α->Int){u:α}:∀ {l:List α},l.Nodup->u∈l->dk l (λa=>ite (a=u) (f a) 0)=f u
 | [],_,h=>by simp at h
 |a::l,c,h=>by
  have c:=dq.1 c;simp only[dk];by_cases e:a=u;subst e;rw[cr rfl,uq λb d=>cc λ(h:b=a)=>c.1 (h▸d)];omega;rcases aG.1 h with h|h
  exact b8 h.symm e;rw[cc e,B7 f c.2 h];omega
namespace Net
variable {ι:Type} {N:Net ι} (hP:N.wx)
abbrev pJ(ι:Type):=ι×Bool
def src(N:Net ι)(h:pJ ι):qT:=cond h.2 (N.b7 h.1) <|N.a7 h.1
def dst(N:Net ι)(h:pJ ι):qT:=cond h.2 (N.a7 h.1) <|N.b7 h.1
def rev(h:pJ ι):pJ ι:=(h.1,!h.2)
def dl(d:ι->Int)(h:pJ ι):Int:=cond h.2 (d h.1) <|-d h.1
def L(N:Net ι)(d:ι->Int)(h:pJ ι):Int :=ite (N.up h.1) (cond h.2 (N.kO d (N.b7 h.1).2 h.1) <|N.kO d (N.b7 h.1).2 h.1+d h.1) (cond h.2 (N.vK d (N.b7 h.1).2 (N.M*(N.a7 h.1).1)) <|N.below d (N.b7 h.1).2 (N.M*(N.a7 h.1).1))
def cls(N:Net ι)(h:pJ ι):Nat:=ite (N.up h.1) (cond h.2 1 3) (cond h.2 0 2)
def nh(N:Net ι)(k:Int)(g h:pJ ι):Prop:=N.cls g<N.cls h\/(N.cls g=1/\N.cls h=1/\N.X h.1 (k+1)<N.X g.1 (k+1))\/(N.cls g=3/\N.cls h=3/\N.X g.1 (k-1)<N.X h.1 (k-1))
def og(N:Net ι):List (pJ ι):=N.E.flatMap λe=>[(e,Y),(e,U)]
def D9(F:pJ ι->Int):dk N.og F=dk N.E (λe=>F (e,Y)+F (e,U)):=by
 unfold og;generalize N.E=E
 induction E with
 |nil=>rfl
 |cons e E a =>simp only[db,cV,br,dk];omega
include hP
theorem aC0(d:ι->Int){f:ι}(hf:f∈N.E)(h:¬N.up f):N.Bi d (N.a7 f)=d f:=by
 open Classical in
 rw[<-B7 d hP.nodup hf];refine ns λe he=>?_;by_cases c:e=f;subst c;simp[h];rw[cc c,cc];rintro ⟨c1,c2⟩;let ⟨a,b⟩:=yH he c1;let ⟨g,i⟩:=yH hf h;exact c (hP.sv e he f hf c1 h (by rw[a,c2,g]) (by rw[<-c2];exact b) (by rw[c2];exact i))
theorem aZ7(d:ι->Int){f:ι}(hf:f∈N.E)(h:¬N.up f):N.Bh d (N.b7 f)=d f:=by
 open Classical in
 rw[<-B7 d hP.nodup hf];refine ns λe he=>?_;by_cases c:e=f;subst c;simp[h];rw[cc c,cc];rintro ⟨c1,c2⟩;let ⟨g,a⟩:=yH he c1;let ⟨i,b⟩:=yH hf h;exact c (hP.sv e he f hf c1 h (by rw[c2]) (by rw[c2];exact b) (by rw[<-c2];exact a))
theorem Hi{d:ι->Int}(hd:N.rR d){h:pJ ι}(a:h.1∈N.E):N.L d (rev h)=N.L d h+dl d h:=by let ⟨e,b⟩:=h;have a:e∈N.E:=a;unfold L rev dl;by_cases hu:N.up e;cases b;simp only[hu,vE,aQ,b6,bu];omega;simp only[hu,vE,ar,b6,bu];let ⟨c,f⟩:=yH a hu;have l:=N.line hd (N.a7 e).2 (N.M*(N.a7 e).1);rw[Np hP d ⟨e,a,bm rfl⟩,aC0 hP d a hu]at l;rw[<-c]at l;cases b;simp only[hu,l4,aQ,b6,bu];omega;simp only[hu,l4,ar,b6,bu];omega
open Classical in
theorem aO5{d:ι->Int}(hd:N.rR d){h:pJ ι}(z:h.1∈N.E){v:qT}(hv:N.src h=v) :
  N.L d h=N.below d v.2 (N.M*v.1)+N.C' d v-dk N.og (λg=>ite (N.src g=v/\(g=h\/N.nh v.2 g h)) (dl d g) 0):=by
 let ⟨u,b⟩:=h;have hu:u∈N.E:=z;have q:N.L2 v:=by cases b;exact⟨u,hu,bm hv⟩;exact⟨u,hu,bw hv⟩
 have n:=N.line hd v.2 (N.M*v.1);rw[Np hP d q]at n;have t:=RZ hd v;rw[D9];by_cases a:N.up u;cases b;have hv:N.a7 u=v:=hv;have o:N.L d (u,U)=N.kO d (v.2-1) u+d u:=by have c1:N.eS u (N.b7 u).2:=⟨cq _,a⟩;have c2:N.eS u (v.2-1):=⟨by unfold up at a;rw[hv]at a;omega,by rw[hv];omega⟩;simp only[L,a,vE,bu,Uk hP hd hu c1 c2]
 have f:N.cls (u,U)=3:=by simp[cls,a]
 have p:dk N.E (λe=>(ite (N.src (e,Y)=v/\((e,Y)=(u,U)\/N.nh v.2 (e,Y) (u,U))) (dl d (e,Y)) 0)+(ite (N.src (e,U)=v/\((e,U)=(u,U)\/N.nh v.2 (e,U) (u,U))) (dl d (e,U)) 0))
   = dk N.E (λe=>((ite (N.up e/\N.b7 e=v) (d e) 0)+(ite (¬N.up e/\N.b7 e=v) (d e) 0))-((ite (¬N.up e/\N.a7 e=v) (d e) 0)+((ite (e=u) (d e) 0)+(ite (N.up e/\N.a7 e=v/\N.X e (v.2-1)<N.X u (v.2-1)) (d e) 0)))):=by
  refine ns λe he=>?_;have s1:N.src (e,Y)=N.b7 e:=rfl;have d1:dl d (e,Y)=d e:=rfl;have s2:N.src (e,U)=N.a7 e:=rfl;have d2:dl d (e,U)=- d e:=rfl;by_cases c:N.up e;have l:N.cls (e,Y)=1:=by simp[cls,c]
  have m:N.cls (e,U)=3:=by simp[cls,c]
  have i:((e,Y)=(u,U)\/N.nh v.2 (e,Y) (u,U)):=by right;unfold nh;rw[l,f];omega
  have k:N.a7 e=v->(((e,U)=(u,U)\/N.nh v.2 (e,U) (u,U))↔(e=u\/N.X e (v.2-1)<N.X u (v.2-1))):=by intro _;constructor;rintro (h|h);cases h;exact bw rfl;unfold nh at h;rw[m,f]at h;simp only at h;right;omega;rintro (h|h);rw[h];exact bw rfl;exact bm (bm (bm ⟨m,f,h⟩))
  by_cases j:e=u;subst j;have s:¬N.X e (v.2-1)<N.X e (v.2-1):=by omega
  simp only[s1,s2,d1,d2,c,hv,qj,i,and_true,not_true_eq_false,false_and,l4,true_or,vE,s,and_false];split<;>omega;by_cases c2:N.a7 e=v;have:=k c2;simp only[s1,s2,d1,d2,c,c2,qj,i,and_true,not_true_eq_false,false_and,l4,j,this,false_or];by_cases w:N.X e (v.2-1)<N.X u (v.2-1);simp only[w,vE];omega;simp only[w,l4];omega;simp only[s1,s2,d1,d2,c,c2,qj,i,and_true,not_true_eq_false,false_and,l4,j];omega;have l:N.cls (e,Y)=0:=by simp[cls,c]
  have m:N.cls (e,U)=2:=by simp[cls,c]
  have i:((e,Y)=(u,U)\/N.nh v.2 (e,Y) (u,U)):=by right;unfold nh;rw[l,f];omega
  have k:((e,U)=(u,U)\/N.nh v.2 (e,U) (u,U)):=by right;unfold nh;rw[m,f];omega
  have j:¬e=u:=λh=>c (h▸a);simp only[s1,s2,d1,d2,c,i,k,and_true,false_and,l4,not_false_eq_true,qj,j];split<;>split<;>omega
 rw[p,yI,ss,ss,ss,o,bd4 hP d hu a hv,B7 d hP.nodup hu];have:dk N.E (λe=>ite (¬N.up e/\N.b7 e=v) (d e) 0)=N.Bh d v:=rfl;have:dk N.E (λe=>ite (N.up e/\N.b7 e=v) (d e) 0)=N.yv d v:=rfl;have:dk N.E (λe=>ite (¬N.up e/\N.a7 e=v) (d e) 0)=N.Bi d v:=rfl;omega;have hv:N.b7 u=v:=hv;have o:N.L d (u,Y)=N.kO d v.2 u:=by simp only[L,a,vE,b6,hv]
 have f:N.cls (u,Y)=1:=by simp[cls,a]
 have p:dk N.E (λe=>(ite (N.src (e,Y)=v/\((e,Y)=(u,Y)\/N.nh v.2 (e,Y) (u,Y))) (dl d (e,Y)) 0)+(ite (N.src (e,U)=v/\((e,U)=(u,Y)\/N.nh v.2 (e,U) (u,Y))) (dl d (e,U)) 0))
   = dk N.E (λe=>(ite (¬N.up e/\N.b7 e=v) (d e) 0)+((ite (N.up e/\N.b7 e=v) (d e) 0)-(ite (N.up e/\N.b7 e=v/\N.X e (v.2+1)<N.X u (v.2+1)) (d e) 0))):=by
  refine ns λe he=>?_;have s1:N.src (e,Y)=N.b7 e:=rfl;have d1:dl d (e,Y)=d e:=rfl;by_cases c:N.up e;have l:N.cls (e,Y)=1:=by simp[cls,c]
  have m:N.cls (e,U)=3:=by simp[cls,c]
  have k:¬((e,U)=(u,Y)\/N.nh v.2 (e,U) (u,Y)):=by rintro (h|h);cases h;unfold nh at h;rw[m,f]at h;omega
  rw[cc (λh:_/\_=>k h.2)];simp only[s1,d1,c,not_true_eq_false,false_and,l4,qj];by_cases c1:N.b7 e=v;simp only[c1,qj,vE];have i:((e,Y)=(u,Y)\/N.nh v.2 (e,Y) (u,Y))↔¬N.X e (v.2+1)<N.X u (v.2+1):=by
   constructor;rintro (h|h);cases h;omega;unfold nh at h;rw[l,f]at h;simp only at h;omega;intro h;by_cases h2:N.X u (v.2+1)<N.X e (v.2+1);exact bm (bm (bw ⟨l,f,h2⟩));left;have ce:N.eS e v.2:=⟨by rw[c1];omega,by unfold up at c;rw[c1]at c;exact c⟩;have B:N.eS u v.2:=⟨by rw[hv];omega,by unfold up at a;rw[hv]at a;exact a⟩;have C:N.X e v.2=N.M*v.1:=by rw[<-c1];exact N.vG e
   have D:N.X u v.2=N.M*v.1:=by rw[<-hv];exact N.vG u
   have:=hP.apart e he u hu v.2 ce B (by rw[C,D]) (by omega);rw[this]
  by_cases c2:N.X e (v.2+1)<N.X u (v.2+1);rw[cc (λh=>(i.1 h) c2),cr c2];omega;rw[cr (i.2 c2),cc c2];omega;simp[c1];have l:N.cls (e,Y)=0:=by simp[cls,c]
  have m:N.cls (e,U)=2:=by simp[cls,c]
  have i:((e,Y)=(u,Y)\/N.nh v.2 (e,Y) (u,Y)):=by right;unfold nh;rw[l,f];omega
  have k:¬((e,U)=(u,Y)\/N.nh v.2 (e,U) (u,Y)):=by rintro (h|h);cases h;unfold nh at h;rw[m,f]at h;omega
  rw[cc (λh:_/\_=>k h.2)];simp only[s1,d1,c,i,and_true,not_false_eq_true,qj,false_and,l4];omega
 rw[p,ss,yI,o,bd5 hP d hu a hv];have:dk N.E (λe=>ite (¬N.up e/\N.b7 e=v) (d e) 0)=N.Bh d v:=rfl;have:dk N.E (λe=>ite (N.up e/\N.b7 e=v) (d e) 0)=N.yv d v:=rfl;omega;cases b;have hv:N.a7 u=v:=hv;let ⟨G,I⟩:=yH hu a;have o:N.L d (u,U)=N.below d v.2 (N.M*v.1):=by simp only[L,a,l4,bu,G,hv]
 have f:N.cls (u,U)=2:=by simp[cls,a]
 have p:dk N.E (λe=>(ite (N.src (e,Y)=v/\((e,Y)=(u,U)\/N.nh v.2 (e,Y) (u,U))) (dl d (e,Y)) 0)+(ite (N.src (e,U)=v/\((e,U)=(u,U)\/N.nh v.2 (e,U) (u,U))) (dl d (e,U)) 0))
   = dk N.E (λe=>((ite (N.up e/\N.b7 e=v) (d e) 0)+(ite (¬N.up e/\N.b7 e=v) (d e) 0))-(ite (e=u) (d e) 0)):=by
  refine ns λe he=>?_;have s1:N.src (e,Y)=N.b7 e:=rfl;have d1:dl d (e,Y)=d e:=rfl;have s2:N.src (e,U)=N.a7 e:=rfl;have d2:dl d (e,U)=- d e:=rfl;have i:((e,Y)=(u,U)\/N.nh v.2 (e,Y) (u,U)):=by right;unfold nh;rw[f];left;unfold cls;split<;>simp
  have k:((e,U)=(u,U)\/N.nh v.2 (e,U) (u,U))↔e=u:=by
   constructor;rintro (h|h);cases h;rfl;unfold nh at h;rw[f]at h;have:2<=N.cls (e,U):=by unfold cls;split<;>simp
   omega;rintro rfl;exact bw rfl
  by_cases j:e=u;subst j;have r:=k.2 rfl;by_cases c1:N.b7 e=v;rw[cr ⟨c1,i⟩,cr ⟨hv,r⟩,cc (a ·.1),cr ⟨a,c1⟩,cr rfl,d1,d2];omega;rw[cc (c1 ·.1),cr ⟨hv,r⟩,cc (a ·.1),cc (c1 ·.2),cr rfl,d2];omega;simp only[s1,s2,d1,d2,i,and_true,k,j,and_false,l4];by_cases c:N.up e<;>by_cases c1:N.b7 e=v<;>simp[c,c1]
 rw[p,yI,ss,o,B7 d hP.nodup hu];have h1:=aC0 hP d hu a;rw[hv]at h1;have:dk N.E (λe=>ite (¬N.up e/\N.b7 e=v) (d e) 0)=N.Bh d v:=rfl;have:dk N.E (λe=>ite (N.up e/\N.b7 e=v) (d e) 0)=N.yv d v:=rfl;omega;have hv:N.b7 u=v:=hv;have o:N.L d (u,Y)=N.vK d v.2 (N.M*v.1)+N.yv d v:=by have:=bp0 hP d hu a;simp only[L,a,l4,b6];rw[<-hv];exact this
 have f:N.cls (u,Y)=0:=by simp[cls,a]
 have p:dk N.E (λe=>(ite (N.src (e,Y)=v/\((e,Y)=(u,Y)\/N.nh v.2 (e,Y) (u,Y))) (dl d (e,Y)) 0)+(ite (N.src (e,U)=v/\((e,U)=(u,Y)\/N.nh v.2 (e,U) (u,Y))) (dl d (e,U)) 0))
   = dk N.E (λe=>ite (e=u) (d e) 0):=by
  refine ns λe he=>?_;have rI:∀b,¬N.nh v.2 (e,b) (u,Y):=by intro b h;unfold nh at h;rw[f]at h;omega
  have x:¬((e,U)=(u,Y)):=λh=>by cases h
  have d1:dl d (e,Y)=d e:=rfl;by_cases j:e=u;subst j;simp only[rI,x,or_false,and_false,l4,and_true,vE,d1,show N.src (e,Y)=v from hv];omega;have H:¬((e,Y)=(u,Y)):=λh=>j (by cases h;rfl);simp only[rI,H,x,or_false,and_false,l4,j];rfl
 rw[p,o,B7 d hP.nodup hu];have:=aZ7 hP d hu a;rw[hv]at this;omega
end Net
end Go.Pg
namespace Go.Pg
namespace Net
variable {ι:Type} {N:Net ι} (hP:N.wx)
def aY1(k:Int)(h:pJ ι):¬N.nh k h h:=by unfold nh;omega
def bc3{k:Int}{g h:pJ ι}(a:N.nh k g h):¬N.nh k h g:=by unfold nh at *;omega
def Gf{h:pJ ι}:h∈N.og↔h.1∈N.E:=by
 unfold og;rw[bW];constructor;rintro ⟨e,he,h2⟩;simp only[aG,kY,or_false]at h2;rcases h2 with rfl|rfl<;>exact he
 intro h1;refine⟨h.1,h1,?_⟩;let ⟨e,b⟩:=h;cases b<;>simp
open Classical in
def bM7{d:ι->Int}(hd:N.rR d)(v:qT):dk N.og (λg=>ite (N.src g=v) (dl d g) 0)=0:=by
 have a:=RZ hd v;rw[D9];have e:dk N.E (λe=>(ite (N.src (e,Y)=v) (dl d (e,Y)) 0)+(ite (N.src (e,U)=v) (dl d (e,U)) 0))=dk N.E (λe=>((ite (N.up e/\N.b7 e=v) (d e) 0)+(ite (¬N.up e/\N.b7 e=v) (d e) 0))-((ite (N.up e/\N.a7 e=v) (d e) 0)+(ite (¬N.up e/\N.a7 e=v) (d e) 0))):=by refine ns λe _=>?_;have s1:N.src (e,Y)=N.b7 e:=rfl;have d1:dl d (e,Y)=d e:=rfl;have s2:N.src (e,U)=N.a7 e:=rfl;have d2:dl d (e,U)=- d e:=rfl;rw[s1,s2,d1,d2];by_cases c:N.up e<;>by_cases c1:N.b7 e=v<;>by_cases c2:N.a7 e=v<;>simp[c,c1,c2]<;>omega
 rw[e,yI,ss,ss];have:dk N.E (λe=>ite (¬N.up e/\N.b7 e=v) (d e) 0)=N.Bh d v:=rfl;have:dk N.E (λe=>ite (N.up e/\N.b7 e=v) (d e) 0)=N.yv d v:=rfl;have:dk N.E (λe=>ite (¬N.up e/\N.a7 e=v) (d e) 0)=N.Bi d v:=rfl;have:dk N.E (λe=>ite (N.up e/\N.a7 e=v) (d e) 0)=N.C' d v:=rfl;omega
structure CF(N:Net ι)(v:qT)(l:List (pJ ι)):Prop where
 mem:∀h,h∈l↔h.1∈N.E/\N.src h=v
 nodup:l.Nodup
 sorted:l.Pairwise (N.nh v.2)
include hP
theorem VG:N.og.Nodup:=by
 have a:=hP.nodup;unfold og;generalize N.E=E at a
 induction E with
 |nil=>exact List.nodup_nil
 |cons e E d=>
  have a:=dq.1 a;simp only[db,cV,br];have key:∀b,∀h∈E.flatMap (λe=>[(e,Y),(e,U)]),h≠(e,b):=by rintro b h f rfl;let ⟨g,c,h2⟩:=bW.1 f;simp only[aG,kY,or_false]at h2;rcases h2 with h2|h2<;>(cases h2;exact a.1 c)
  refine dq.2 ⟨?_,dq.2 ⟨λh=>key _ _ h rfl,d a.2⟩⟩;intro h;rcases aG.1 h with h|h
  cases h;exact key _ _ h rfl
open Classical in
theorem ag7{v:qT}{l:List (pJ ι)}(hl:CF N v l)(F:pJ ι->Int):dk N.og (λg=>ite (N.src g=v) (F g) 0)=dk l F:=by
 have hp:(N.og.filter λg=>No (N.src g=v)).Perm l:=by refine(jh ((VG hP).filter _) hl.nodup).2 λh=>?_;rw[aY,Gf,hl.mem];simp
 rw[<-PK hp,Om];refine ns λg _=>?_;simp
theorem ED{d:ι->Int}(hd:N.rR d){v:qT}{l:List (pJ ι)}(hl:CF N v l){i:Nat}(a7:i<aa l):N.L d l[i]=N.below d v.2 (N.M*v.1)+N.C' d v-dk (l.take (i+1)) (dl d):=by
 classical
 have hm:=(hl.mem l[i]).1 (au a7);rw[aO5 hP hd hm.1 hm.2];congr 1;have e:dk N.og (λg=>ite (N.src g=v/\(g=l[i]\/N.nh v.2 g l[i])) (dl d g) 0)=dk N.og (λg=>ite (N.src g=v) (ite (g=l[i]\/N.nh v.2 g l[i]) (dl d g) 0) 0):=by refine ns λg _=>?_;by_cases c:N.src g=v<;>simp[c]
 rw[e,ag7 hP hl];have split:∀F:pJ ι->Int,dk l F=dk (l.take (i+1)) F+dk (l.drop (i+1)) F:=λF=>by rw[<-zQ,List.take_append_drop]
 rw[split];have f:dk (l.take (i+1)) (λg=>ite (g=l[i]\/N.nh v.2 g l[i]) (dl d g) 0)=dk (l.take (i+1)) (dl d):=by refine ns λg a=>?_;obtain⟨j,hj,rfl⟩:=bk a;simp only[cQ]at hj;rw[List.getElem_take];rw[cr];by_cases c:j=i;subst c;exact bw rfl;exact bm (dF.1 hl.sorted j i (by omega) a7 (by omega))
 have k:dk (l.drop (i+1)) (λg=>ite (g=l[i]\/N.nh v.2 g l[i]) (dl d g) 0)=0:=by refine uq λg a=>?_;obtain⟨j,hj,rfl⟩:=bk a;simp only[iN]at hj;rw[List.getElem_drop];have b:=dF.1 hl.sorted i (i+1+j) a7 (by omega) (by omega);rw[cc];rintro (h|h);rw[h]at b;exact aY1 _ _ b;exact bc3 h b
 rw[f,k];omega
theorem Mf{d:ι->Int}(hd:N.rR d){v:qT}{l:List (pJ ι)}(hl:CF N v l){i:Nat}(a7:i<aa l) :
  N.L d (l[(i+aa l-1)%aa l]'(eZ _ (by omega)))=N.L d (rev l[i]):=by
 have hm:=(hl.mem l[i]).1 (au a7);have f:=Hi hP hd hm.1;rw[f];have hlen:0<aa l:=by omega
 have b:dk l (dl d)=0:=by
  classical
  rw[<-ag7 hP hl (dl d)];exact bM7 hd v
 by_cases c:i=0;subst c;have e:(0+aa l-1)%aa l=aa l-1:=by rw[da (by omega)];omega
 have h1:=ED hP hd hl (i:=aa l-1) (by omega);have h2:=ED hP hd hl (i:=0) a7;have g:l.take (aa l-1+1)=l:=by rw[List.take_of_length_le (by omega)]
 rw[g,b]at h1;have h:dk (l.take (0+1)) (dl d)=dl d l[0]:=by cases l;simp at a7;rename_i a l;simp[dk]
 rw[h]at h2;simp only[e];omega;have e:(i+aa l-1)%aa l=i-1:=by rw[show i+aa l-1=i-1+aa l by omega,gT,da (by omega)]
 have h1:=ED hP hd hl (i:=i-1) (by omega);have h2:=ED hP hd hl (i:=i) a7;rw[show i-1+1=i by omega]at h1;rw[List.take_succ_eq_append_getElem a7,zQ]at h2;simp only[dk]at h2;simp only[e];omega
end Net
end Go.Pg
namespace Go.Pg
open Classical
def GD{α:Type}(f:α->Int):∀ {l:List α},l≠[]->∃m∈l,∀x∈l,f m<=f x
 | [],h=>b8 rfl h
 |a::l,_=>by
  by_cases e:l=[];exact⟨a,by simp,λx b=>by grind⟩;let ⟨m,hm,h⟩:=GD f e
  grind
noncomputable def ind(p:Prop):Int:=ite p 1 0
def bl2{p:Prop}(h:p):ind p=1:=cr h
def tk{p:Prop}(h:¬p):ind p=0:=cc h
namespace Net
structure nK{ι:Type}(N:Net ι)(κ:Type) where
 c:pJ ι->κ
 gA:pJ ι->pJ ι
 mem:∀h:pJ ι,h.1∈N.E->(gA h).1∈N.E
 NY:∀h:pJ ι,h.1∈N.E->c (gA h)=c h
 left:∀h:pJ ι,h.1∈N.E->∀d,N.rR d->N.L d (gA h)=N.L d h
 closed:∀(C:κ) (A:qT->Int),dk N.og (λh=>ite (c h=C) (A (N.src h)-A (N.dst h)) 0)=0
namespace nK
variable {ι κ:Type} {N:Net ι} (w:N.nK κ)
inductive qX:pJ ι->pJ ι->Prop
 |refl (h:pJ ι):qX h h
 |gA {g h:pJ ι} (hm:h.1∈N.E):qX g h->qX g (w.gA h)
 |Ej {g h:pJ ι} (hm:h.1∈N.E):qX g (w.gA h)->qX g h
 |rev {g h:pJ ι}:qX g h->qX g (rev h)
noncomputable def mv(C:κ)(e:ι):Int:=ind (w.c (e,U)=C)-ind (w.c (e,Y)=C)
def ux(C:κ):N.rR (w.mv C):=by
 intro A;have h:=w.closed C (λp=>ite (A p) 1 0);rw[D9]at h;have e:dk N.E (λe=>w.mv C e*((ite (A (N.b7 e)) 1 0)-(ite (A (N.a7 e)) 1 0)))=- dk N.E (λe=>(ite (w.c (e,Y)=C) ((ite (A (N.src (e,Y))) (1:Int) 0)-(ite (A (N.dst (e,Y))) 1 0)) 0)+(ite (w.c (e,U)=C) ((ite (A (N.src (e,U))) (1:Int) 0)-(ite (A (N.dst (e,U))) 1 0)) 0)):=by rw[<-GC];refine ns λe _=>?_;have s1:N.src (e,Y)=N.b7 e:=rfl;have s2:N.src (e,U)=N.a7 e:=rfl;have d:N.dst (e,Y)=N.a7 e:=rfl;have f:N.dst (e,U)=N.b7 e:=rfl;rw[s1,s2,d,f];unfold mv ind;by_cases a:w.c (e,Y)=C<;>by_cases b:w.c (e,U)=C<;>simp only[a,b,vE,l4]<;>omega
 rw[e,h];rfl
def bg7(C:κ)(h:pJ ι):dl (w.mv C) h=ind (w.c (Net.rev h)=C)-ind (w.c h=C):=by let ⟨e,b⟩:=h;cases b;show-(w.mv C e)=_;unfold mv Net.rev;simp only[aQ];omega;rfl
def Bw{C:κ}{e:ι}(h:∀b,w.c (e,b)≠C):w.mv C e=0:=by unfold mv;rw[tk (h U),tk (h Y)];rfl
def oc{f g h:pJ ι}(a:w.qX f g)(b:w.qX g h):w.qX f h:=by
 induction b with
 |refl=>exact a
 |gA hm _ c=>exact .gA hm c
 |Ej hm _ c=>exact .Ej hm c
 |rev _ c=>exact .rev c
def rev_rev(h:pJ ι):Net.rev (Net.rev h)=h:=by simp[Net.rev]
def xC{g h:pJ ι}(a:w.qX g h):w.qX h g:=by
 induction a with
 |refl=>exact .refl _
 | @gA h' hm _ b=>exact oc w (.Ej hm (.refl _)) b
 | @Ej h' hm _ b=>exact oc w (.gA hm (.refl _)) b
 | @rev h' _ b=>exact oc w (by have:=qX.rev (w:=w) (.refl (Net.rev h'));rw[rev_rev]at this;exact this) b
def rB(e:ι)(b a:Bool):w.qX (e,b) (e,a):=by
 by_cases c:b=a;subst c;exact .refl _;have h:(e,a)=Net.rev (e,b):=by cases b<;>cases a<;>simp[Net.rev]at c⊢
 rw[h];exact .rev (.refl _)
def bf3{g h:pJ ι}(a:w.qX g h)(c:g.1∈N.E):h.1∈N.E:=by
 induction a with
 |refl=>exact c
 |gA hm _ b=>exact w.mem _ b
 |Ej hm _ b=>exact hm
 |rev _ b=>exact b
variable (hP:N.wx)
include hP
theorem Bd(C:κ){g h:pJ ι}(a:w.qX g h)(d:g.1∈N.E):N.L (w.mv C) h-ind (w.c h=C)=N.L (w.mv C) g-ind (w.c g=C):=by
 induction a with
 |refl=>rfl
 | @gA h' hm a b =>rw[w.NY _ hm,w.left _ hm _ (w.ux C)];exact b
 | @Ej h' hm a b =>rw[w.NY _ hm,w.left _ hm _ (w.ux C)]at b;exact b
 | @rev h' a b =>have hm:=w.bf3 a d;rw[Hi hP (w.ux C) hm,w.bg7];omega
omit hP in
theorem HP{C:κ}{g:pJ ι}(d:∀h,w.c h=C->h.1∈N.E->w.qX g h){p:ι->Prop}[DecidablePred p](hp:∀t∈N.E,p t->∀b,¬w.qX g (t,b)):dk N.E (λt=>ite (p t) (w.mv C t) 0)=0:=by refine uq λt a=>?_;by_cases c:p t;rw[cr c];exact w.Bw λb e=>hp t a c b (d (t,b) e a);rw[cc c]
theorem NM{t u:ι}(a:t∈N.E)(hu:u∈N.E){k:Int}(c1:N.eS t k)(c2:N.eS u k)(h:N.X t k+N.X t (k+1)=N.X u k+N.X u (k+1)):t=u:=by
 rcases iH (N.X t k) (N.X u k)with h1|h1|h1
 have:=(O5 hP a hu c1 c2).2 (bw h1);omega;exact hP.apart t a u hu k c1 c2 h1 (by omega);have:=(O5 hP hu a c2 c1).2 (bw h1);omega
theorem CX(d:ι->Int)(hd:N.rR d){u:ι}(hu:u∈N.E){k:Int}(hc:N.eS u k):N.L d (u,Y)=N.kO d k u:=by have a:=sV hP hc;have c1:N.eS u (N.b7 u).2:=⟨cq _,a⟩;simp only[L,a];exact Uk hP hd hu c1 hc
theorem base{g:pJ ι}(q:g.1∈N.E):∃d,w.qX g d/\d.1∈N.E/\∀C,(∀h,w.c h=C->h.1∈N.E->w.qX g h)->N.L (w.mv C) d=0:=by
 by_cases hex:∃e∈N.E,N.up e/\w.qX g (e,Y);let ⟨e,he,i,j⟩:=hex;have k:(N.E.filter λt=>No (N.eS t (N.b7 e).2/\w.qX g (t,Y)))≠[]:=by intro d;have:e∈(N.E.filter λt=>No (N.eS t (N.b7 e).2/\w.qX g (t,Y))):=aY.2 ⟨he,by simp only[kA];exact⟨⟨cq _,i⟩,j⟩⟩;rw[d]at this;cases this
 let ⟨u,hu,f⟩:=GD (λt=>N.X t (N.b7 e).2+N.X t ((N.b7 e).2+1)) k;let ⟨hu,a⟩:=aY.1 hu;simp only[kA]at a;refine⟨(u,Y),a.2,hu,λC l=>?_⟩;rw[CX hP _ (w.ux C) hu a.1];refine w.HP l λt m hp b n=>?_;have:=f t (aY.2 ⟨m,by simp only[kA];exact⟨hp.1,w.oc n (w.rB t b Y)⟩⟩);omega;refine⟨(g.1,Y),w.oc (.refl g) (by let ⟨e,b⟩:=g;exact w.rB e b Y),q,λC l=>?_⟩;have o:¬N.up g.1:=λh=>hex ⟨g.1,q,h,by let ⟨e,b⟩:=g;exact w.rB e b Y⟩;simp only[L,o];refine w.HP (p:=λt=>N.eS t (N.b7 g.1).2/\N.X t (N.b7 g.1).2<N.M*(N.a7 g.1).1) l λt m hp b n=>?_;exact hex ⟨t,m,sV hP hp.1,w.oc n (w.rB t b Y)⟩
theorem bE3{g:pJ ι}(e:g.1∈N.E):∃d,w.qX g d/\d.1∈N.E/\∀C,(∀h,w.c h=C->h.1∈N.E->w.qX g h)->∀h,w.qX g h->N.L (w.mv C) h=ind (w.c h=C)-ind (w.c d=C):=by let ⟨d,h1,h2,f⟩:=w.base hP e;refine⟨d,h1,h2,λC i h j=>?_⟩;have a:=w.Bd hP C h1 e;have b:=w.Bd hP C j e;have:=f C i;omega
theorem bp1{C D:κ}{g f:pJ ι}(G:g.1∈N.E)(l:f.1∈N.E)(s:∀h,w.c h=C->h.1∈N.E->w.qX g h)(H:∀h,w.c h=D->h.1∈N.E->w.qX f h)(I:¬w.qX g f):N.L (w.mv C) f=0\/N.L (w.mv D) g=0:=by
 have m:=λh a hm e=>I (w.oc (s h e hm) (w.xC a));have q:=λh a hm e=>I (w.oc a (w.xC (H h e hm)));by_cases hex:∃e∈N.E,N.up e/\w.qX g (e,Y);let ⟨e,he,x,z⟩:=hex;have B:(N.E.filter λt=>No (N.eS t (N.b7 e).2/\(w.qX g (t,Y)\/w.qX f (t,Y))))≠[]:=by intro J;have:e∈(N.E.filter λt=>No (N.eS t (N.b7 e).2/\(w.qX g (t,Y)\/w.qX f (t,Y)))):=aY.2 ⟨he,by simp only[kA];exact⟨⟨cq _,x⟩,bw z⟩⟩;rw[J]at this;cases this
 let ⟨u,hu,j⟩:=GD (λt=>N.X t (N.b7 e).2+N.X t ((N.b7 e).2+1)) B;let ⟨hu,i⟩:=aY.1 hu;simp only[kA]at i;rcases i.2 with d|d
 have K:N.L (w.mv D) (u,Y)=0:=by rw[CX hP _ (w.ux D) hu i.1];refine w.HP H λt o hp b r=>?_;have:=j t (aY.2 ⟨o,by simp only[kA];exact⟨hp.1,bm (w.oc r (w.rB t b Y))⟩⟩);omega
 have v:=w.Bd hP D d G;rw[tk (q _ d hu),tk (q _ (.refl _) G)]at v;omega;have K:N.L (w.mv C) (u,Y)=0:=by rw[CX hP _ (w.ux C) hu i.1];refine w.HP s λt o hp b r=>?_;have:=j t (aY.2 ⟨o,by simp only[kA];exact⟨hp.1,bw (w.oc r (w.rB t b Y))⟩⟩);omega
 have v:=w.Bd hP C d l;rw[tk (m _ d hu),tk (m _ (.refl _) l)]at v;omega;have hz:∀(p:ι->Prop) [DecidablePred p],(∀t∈N.E,p t->N.up t)->dk N.E (λt=>ite (p t) (w.mv C t) 0)=0  :=λp _ hp =>w.HP s λt o h b r=>hex ⟨t,o,hp t o h,w.oc r (w.rB t b Y)⟩;have hd:=w.Bw λb=>m (f.1,b) (by let ⟨e,M⟩:=f;exact w.rB e M b) l;unfold L;have nq:∀k u,N.kO (w.mv C) k u=0:=λk u=>hz (λt=>N.eS t k/\N.X t k+N.X t (k+1)<N.X u k+N.X u (k+1)) λt _ h=>sV hP h.1;have z2:∀k n,N.vK (w.mv C) k n=0:=λk n=>hz (λt=>N.eS t k/\N.X t k<n) λt _ h=>sV hP h.1;have z3:∀k n,N.below (w.mv C) k n=0:=λk n=>hz (λt=>N.eS t (k-1)/\N.X t k<n) λt _ h=>sV hP h.1;rw[nq,z2,z3,hd];cases f.2<;>simp
end nK
end Net
end Go.Pg
namespace Go.Pg
open Classical
def tz{α:Type}(key F:α->Int):List α->Int
 |u::v::l=>F u*(key v-key u)+tz key F (v::l)
 |_=>0
def J6{α:Type}{key F G:α->Int}:∀ {l:List α},l.Pairwise (key ·<key ·)->(∀u∈l,F u<=G u)->tz key F l<=tz key G l
 | [],_,_=>cq _
 | [_],_,_=>cq _
 |u::v::l,hs,h=>by have h1:=h u (by simp);have hk:=(aU.1 hs).1 v (by simp);have b:=J6 (l:=v::l) (aU.1 hs).2 λx a=>h x (by simp at a⊢;right;exact a);have:=aM h1 (show 0<=key v-key u by omega);simp only[tz];omega
def Ru{α:Type}{key F G:α->Int}:∀ {l:List α},l.Pairwise (key ·<key ·)->(∀u∈l,F u<=G u)->∀u∈l,F u<G u->(∀z,l.getLast?=Z z->F z=G z)->tz key F l<tz key G l
 | [],_,_,u,hu,_,_=>by simp at hu
 | [a],_,_,u,hu,b,hz=>by grind[List.mem_singleton]
 |a::v::l,hs,h,u,hu,b,hz=>by
  have h1:=h a (by simp);have hk:=(aU.1 hs).1 v (by simp);have c:=(aU.1 hs).2;have h2:∀x∈v::l,F x<=G x:=λx d=>h x (by simp at d⊢;right;exact d);simp only[tz];rcases aG.1 hu with rfl|hu
  have e:=J6 c h2;have:=eE b (show 0<key v-key u by omega);omega;have e:=Ru c h2 u hu b (λz f=>hz z (by grind));have:=aM h1 (show 0<=key v-key a by omega);omega
def U3{α:Type}(key d:α->Int):∀(l:List α) (u:α) (w:Int) (F:α->Int) (pre:List α),w=dk pre d->(∀(p q:List α) (x:α),u::l=p++x::q->F x=w+dk p d+d x) ->
  ∀z,(u::l).getLast?=Z z->tz key F (u::l)+w*key u+dk (u::l) (λx=>d x*key x)=(w+dk (u::l) d)*key z
 | [],u,w,F,pre,_,_,z,hz=>by simp at hz;subst hz;simp only[tz,dk,gF];omega
 |v::l,u,w,F,pre,hw,dC,z,hz=>by
  rw[List.getLast?_cons_cons]at hz;have b:=dC [] (v::l) u rfl;simp only[dk,Int.add_zero]at b;have c:=U3 key d l v (w+d u) F (pre++[u]) (by rw[zQ,hw];simp[dk]) (λp q x a=>by
   have:=dC (u::p) q x (by rw[a];rfl);simp only[dk]at this;omega) z hz
  simp only[tz,dk]at c⊢
  grind[cZ,gF]
namespace Net
variable {ι:Type} {N:Net ι} (hP:N.wx)
def key(N:Net ι)(k:Int)(e:ι):Int:=N.X e k+N.X e (k+1)
def aq1{d:ι->Int}(hd:N.rR d)(k:Int):dk N.E (λe=>ite (N.eS e k) (d e) 0)=0:=by
 have h:=hd λp=>No (p.2<=k);refine Eq.trans ?_ h;refine ns λe he=>?_;simp only[kA];have ho:=N.ord e he;by_cases c1:(N.b7 e).2<=k<;>by_cases c2:(N.a7 e).2<=k;have:¬N.eS e k:=λh=>by have:=h.2;omega
 simp[c1,c2,this];have:N.eS e k:=⟨c1,by omega⟩;simp[c1,c2,this];omega;have:¬N.eS e k:=λh=>c1 h.1;simp[c1,c2,this]
include hP
theorem strip(k:Int):∃l:List ι,l.Perm (N.E.filter λe=>No (N.eS e k))/\l.Pairwise (N.key k ·<N.key k ·):=by
 refine⟨(N.E.filter λe=>No (N.eS e k)).mergeSort (λa b=>No (N.key k a<=N.key k b)),cO ..,?_⟩;have h1:=List.pairwise_mergeSort (le:=λa b=>No (N.key k a<=N.key k b)) (λa b c h1 h2=>by simp only[kA]at *;omega) (λa b=>by simp only[bx,kA];omega) (N.E.filter λe=>No (N.eS e k));have h2:((N.E.filter λe=>No (N.eS e k)).mergeSort (λa b=>No (N.key k a<=N.key k b))).Nodup:=(cO _ _).nodup_iff.2 (hP.nodup.filter _);have f:∀x∈(N.E.filter λe=>No (N.eS e k)).mergeSort (λa b=>No (N.key k a<=N.key k b)),x∈N.E/\N.eS x k:=λx g=>by have:=(cO _ _).mem_iff.1 g;rw[aY]at this;simpa using this
 have m:=dF.1 h1;have n:=dF.1 h2;refine dF.2 λi j a7 hj d=>?_;have a:=m i j a7 hj d;have b:=n i j a7 hj d;simp only[kA]at a;have m1:=f _ (au a7);have m2:=f _ (au hj);have:N.key k _≠N.key k _:=λh=>b (nK.NM hP m1.1 m2.1 m1.2 m2.2 h);omega
theorem Ot{d:ι->Int}(hd:N.rR d){k:Int}{l:List ι}(hp:l.Perm (N.E.filter λe=>No (N.eS e k)))(hs:l.Pairwise (N.key k ·<N.key k ·)) :
  dk N.E (λe=>ite (N.eS e k) (d e*N.key k e) 0)=- tz (N.key k) (λu=>N.L d (u,U)) l/\∀z,l.getLast?=Z z->N.L d (z,U)=0:=by
 have f:∀u∈l,u∈N.E/\N.eS u k:=λu hu=>by have:=hp.mem_iff.1 hu;rw[aY]at this;simpa using this
 have a:∀F:ι->Int,dk l F=dk N.E (λe=>ite (N.eS e k) (F e) 0):=λF=>by rw[PK hp,Om];exact ns λe _=>by simp
 have dC:∀(p q:List ι) (x:ι),l=p++x::q->N.L d (x,U)=dk p d+d x:=by
  intro p q x hl;have j:=f x (by rw[hl];simp);have n:N.L d (x,U)=N.kO d k x+d x:=by have:=Hi hP hd (h:=(x,Y)) j.1;rw[nK.CX hP _ hd j.1 j.2]at this;exact this
  have o:N.kO d k x=dk l (λt=>ite (N.key k t<N.key k x) (d t) 0):=by rw[a];refine ns λt _=>?_;by_cases c:N.eS t k;simp only[c,qj,vE];rfl;simp[c]
  have g:=hs;rw[hl]at g;let ⟨_,s2,m⟩:=List.pairwise_append.1 g;have r:dk l (λt=>ite (N.key k t<N.key k x) (d t) 0)=dk p d:=by
   rw[hl,zQ];have s:dk p (λt=>ite (N.key k t<N.key k x) (d t) 0)=dk p d:=ns λt i=>cr (m t i x (by simp));have a2:dk (x::q) (λt=>ite (N.key k t<N.key k x) (d t) 0)=0:=uq λt i=>by
    rcases aG.1 i with rfl|i
    exact cc (by omega);have:=(aU.1 s2).1 t i;exact cc (by omega)
   omega
  omega
 have b:dk l d=0:=by rw[a];exact aq1 hd k
 constructor;rw[<-a];cases l;simp[dk,tz];rename_i u l;obtain⟨z,hz⟩:∃z,(u::l).getLast?=Z z:=by
  cases hz:(u::l).getLast? with
  |none=>simp at hz
  |some z=>exact⟨z,rfl⟩
 have:=U3 (N.key k) d l u 0 (λu=>N.L d (u,U)) [] rfl (λp q x hl=>by
  have:=dC p q x hl;omega) z hz
 rw[b]at this;omega;intro z hz;cases l;simp at hz;rename_i u l;let ⟨ys,e⟩:=List.getLast?_eq_some_iff.1 hz;have:=dC ys [] z (by rw[e]);rw[e,zQ]at b;simp only[dk]at b;omega
end Net
end Go.Pg
namespace Go.Pg
open Classical
def L_{α:Type}{f g:α->Int}:∀ {l:List α},(∀a∈l,f a<=g a)->dk l f<=dk l g
 | [],_=>cq _
 |a::l,h=>by have h1:=h a (by simp);have h2:=L_ (f:=f) (g:=g) (l:=l) λb c=>h b (by simp[c]);simp only[dk];omega
def ap8{α:Type}{f g:α->Int}:∀ {l:List α},(∀a∈l,f a<=g a)->∀a∈l,f a<g a->dk l f<dk l g
 | [],_,a,ha,_=>by simp at ha
 |b::l,h,a,ha,c=>by
  have h1:=h b (by simp);have h2:∀x∈l,f x<=g x:=λx d=>h x (by simp[d]);simp only[dk];rcases aG.1 ha with rfl|ha
  have:=L_ h2;omega;have:=ap8 h2 a ha c;omega
namespace Net
variable {ι κ:Type} {N:Net ι} (hP:N.wx)
def ef(N:Net ι)(e:ι):Int:=((N.b7 e).1+(N.a7 e).1)*((N.a7 e).2-(N.b7 e).2)
def vV(N:Net ι)(h:pJ ι):Int:=(N.src h).1*(N.dst h).2-(N.dst h).1*(N.src h).2
noncomputable def tN(w:N.nK κ)(C:κ):Int:=dk N.og (λh=>ite (w.c h=C) (N.vV h) 0)
def bG8(a b c d:Int):a*d-b*c-(a*c-b*d)=(a+b)*(d-c):=by rw[gF,cZ,cZ];omega
def bW4(w:N.nK κ)(C:κ):tN w C=- dk N.E (λe=>w.mv C e*N.ef e):=by
 have h:=w.closed C (λp=>p.1*p.2);have e:tN w C-dk N.og (λh=>ite (w.c h=C) ((N.src h).1*(N.src h).2-(N.dst h).1*(N.dst h).2) 0)=- dk N.E (λe=>w.mv C e*N.ef e):=by unfold tN;rw[<-yI,D9,<-GC];refine ns λe _=>?_;have q5:=bG8 (N.b7 e).1 (N.a7 e).1 (N.b7 e).2 (N.a7 e).2;have s1:N.src (e,Y)=N.b7 e:=rfl;have s2:N.src (e,U)=N.a7 e:=rfl;have d:N.dst (e,Y)=N.a7 e:=rfl;have f:N.dst (e,U)=N.b7 e:=rfl;unfold vV ef nK.mv ind;rw[s1,s2,d,f,<-q5];by_cases a:w.c (e,Y)=C<;>by_cases b:w.c (e,U)=C<;>simp only[a,b,vE,l4]<;>omega
 rw[<-e,h];omega
def wa(e:ι)(N:Net ι)(x:Int):Int:=max (N.b7 e).2 (min (N.a7 e).2 x)
def AO(N:Net ι)(e:ι)(k:Int):Int:=2*(N.M*(N.b7 e).1)*(k-(N.b7 e).2)+N.s e*((k-(N.b7 e).2)*(k-(N.b7 e).2))
def bb1(e:ι)(k:Int):N.AO e (k+1)-N.AO e k=N.key k e:=by
 unfold AO key X;have b:k+1-(N.b7 e).2=(k-(N.b7 e).2)+1:=by omega
 rw[b];generalize k-(N.b7 e).2=t;generalize N.M*(N.b7 e).1=a;generalize N.s e=s;have h1:(t+1)*(t+1)=t*t+t+t+1:=by rw[gF,jg,fE,mC];omega
 rw[h1];simp only[jg,fE];omega
def aA7{e:ι}(he:e∈N.E){a:Int}(ha:a<=(N.b7 e).2):∀n:Nat,dk (aT n) (λj:Nat=>ite (N.eS e (a+j)) (N.key (a+j) e) 0)=N.AO e (wa e N (a+n))
 | 0=>by
  have ho:=N.ord e he;have:wa e N (a+(0:Nat))=(N.b7 e).2:=by unfold wa;omega
  rw[this];simp[dk,AO]
 |n+1=>by
  have ho:=N.ord e he;rw[ja,zQ,aA7 he ha n];simp only[dk];by_cases c:N.eS e (a+n);have h1:=c.1;have h2:=c.2;have c1:wa e N (a+n)=a+n:=by unfold wa;omega
  have c2:wa e N (a+(n+1:Nat))=a+n+1:=by unfold wa;omega
  have:=bb1 (N:=N) e (a+n);rw[cr c,c1,c2];omega;have c2:wa e N (a+(n+1:Nat))=wa e N (a+n):=by unfold eS at c;unfold wa;omega
  rw[cc c,c2];omega
def aS3{e:ι}(he:e∈N.E):N.AO e (N.a7 e).2=N.M*N.ef e:=by
 unfold AO ef;rcases N.ord e he with ho|⟨ho,_⟩
 have hs:=N.AB e he ho;rw[<-dm (N.s e),hs];generalize(N.a7 e).2-(N.b7 e).2=t;have h2:2*(N.M*(N.b7 e).1)+N.M*((N.a7 e).1-(N.b7 e).1)=N.M*((N.b7 e).1+(N.a7 e).1):=by rw[cZ,jg];omega
 rw[<-gF,h2,dm];rw[<-ho];simp
def bounds(N:Net ι):∃(a:Int) (n:Nat),∀e∈N.E,a<=(N.b7 e).2/\(N.a7 e).2<=a+n:=by
 generalize N.E=E
 induction E with
 |nil=>exact⟨0,0,λe h=>by simp at h⟩
 |cons e E b=>
  let ⟨a,n,h⟩:=b;refine⟨min a (N.b7 e).2,(max (a+n) (N.a7 e).2-min a (N.b7 e).2).toNat,λf hf=>?_⟩;rcases aG.1 hf with rfl|hf
  omega;have:=h f hf;omega
include hP
noncomputable def B9(k:Int):List ι:=(strip hP k).choose
theorem Ds(k:Int):(B9 hP k).Perm (N.E.filter λe=>No (N.eS e k))/\(B9 hP k).Pairwise (N.key k ·<N.key k ·):=(strip hP k).choose_spec
theorem NC{k:Int}{e:ι}:e∈B9 hP k↔e∈N.E/\N.eS e k:=by rw[(Ds hP k).1.mem_iff,aY];simp
theorem Wj:∃(a:Int) (n:Nat),(∀e∈N.E,a<=(N.b7 e).2/\(N.a7 e).2<=a+n)/\∀ {κ:Type} (w:N.nK κ) (C:κ),N.M*tN w C=dk (aT n) (λj:Nat=>tz (N.key (a+j)) (λu=>N.L (w.mv C) (u,U)) (B9 hP (a+j))):=by
 let ⟨a,n,c⟩:=bounds N;refine⟨a,n,c,λw C=>?_⟩;have d:N.M*dk N.E (λe=>w.mv C e*N.ef e)=dk N.E (λe=>dk (aT n) (λj:Nat=>ite (N.eS e (a+j)) (w.mv C e*N.key (a+j) e) 0)):=by
  rw[<-JQ];refine ns λe he=>?_;have b:=c e he;have ho:=N.ord e he;have h1:=aA7 he b.1 n;have c1:wa e N (a+n)=(N.a7 e).2:=by unfold wa;omega
  rw[c1,aS3 he]at h1;have h2:dk (aT n) (λj:Nat=>ite (N.eS e (a+j)) (w.mv C e*N.key (a+j) e) 0)=dk (aT n) (λj:Nat=>w.mv C e*(ite (N.eS e (a+j)) (N.key (a+j) e) 0)):=ns λj _=>by split<;>simp
  rw[h2,JQ,h1,<-dm,<-dm,cT N.M]
 rw[bW4,cn,d,J2,<-GC];refine ns λj _=>?_;let ⟨q5,nj⟩:=Ds hP (a+j);have:=(Ot hP (w.ux C) q5 nj).1;show-dk N.E (λe=>ite (N.eS e (a+j)) (w.mv C e*N.key (a+j) e) 0)=_;omega
theorem aY9{κ b:Type}(w:N.nK κ)(w':N.nK b){C:κ}{D:b}(h:∀e∈N.E,N.up e->N.L (w.mv C) (e,U)<=N.L (w'.mv D) (e,U)){u:ι}(hu:u∈N.E)(c:N.up u)(d:N.L (w.mv C) (u,U)<N.L (w'.mv D) (u,U)):tN w C<tN w' D:=by
 let ⟨a,n,f,hs⟩:=Wj hP;have h1:=hs w C;have h2:=hs w' D;have g:=f u hu;have hc:N.eS u (N.b7 u).2:=⟨cq _,c⟩;have hj:((N.b7 u).2-a).toNat<n:=by unfold up at c;omega
 have i:a+(((N.b7 u).2-a).toNat:Int)=(N.b7 u).2:=by omega
 have:N.M*tN w C<N.M*tN w' D:=by
  rw[h1,h2];have hle:∀k,∀x∈B9 hP k,N.L (w.mv C) (x,U)<=N.L (w'.mv D) (x,U):=λk x l=>by have:=(NC hP).1 l;exact h x this.1 (sV hP this.2)
  refine ap8 (λj _=>J6 (Ds hP _).2 (hle _)) ((N.b7 u).2-a).toNat (gf.2 hj) ?_;rw[i];refine Ru (Ds hP _).2 (hle _) u ((NC hP).2 ⟨hu,hc⟩) d λz hz=>?_;let ⟨q5,nj⟩:=Ds hP (N.b7 u).2;rw[(Ot hP (w.ux C) q5 nj).2 z hz,(Ot hP (w'.ux D) q5 nj).2 z hz]
 exact gm this (dL N.p7)
end Net
end Go.Pg
namespace Go.Pg
open Classical
def an6{α:Type}(key:α->Int):∀l:List α,tz key (λ_=>0) l=0
 | []=>rfl
 | [_]=>rfl
 |u::v::l=>by simp only[tz,an6 key (v::l)];omega
namespace Net
namespace nK
variable {ι κ:Type} {N:Net ι} (w:N.nK κ) (hP:N.wx)
def CR(C:κ)(g:pJ ι):Prop:=∀h,w.c h=C->h.1∈N.E->w.qX g h
structure yn(N:Net ι)(k:Int)(S:ι->Prop):Prop where
 eS:∀t∈N.E,S t->N.eS t k
 ng:∀t∈N.E,∀s∈N.E,S t->N.eS s k->N.key k s<N.key k t->S s
noncomputable def qg(C:κ)(S:ι->Prop):Int:=dk N.E (λt=>ite (S t) (w.mv C t) 0)
include hP
theorem EC{u:ι}(hu:u∈N.E){k:Int}(hc:N.eS u k)(C:κ):N.L (w.mv C) (u,U)=w.qg C (λt=>N.eS t k/\N.key k t<=N.key k u):=by
 have e:N.L (w.mv C) (u,U)=N.kO (w.mv C) k u+w.mv C u:=by have:=Hi hP (w.ux C) (h:=(u,Y)) hu;rw[CX hP _ (w.ux C) hu hc]at this;exact this
 rw[e,<-B7 (w.mv C) hP.nodup hu];unfold kO qg;rw[<-ss];refine ns λt f=>?_;by_cases c:t=u;subst c;have h1:¬(N.eS t k/\N.X t k+N.X t (k+1)<N.X t k+N.X t (k+1)):=λh=>by have:=h.2;omega
 have h2:N.eS t k/\N.key k t<=N.key k t:=⟨hc,cq _⟩;rw[cc h1,cr rfl,cr h2];omega;rw[cc c];by_cases h1:N.eS t k/\N.X t k+N.X t (k+1)<N.X u k+N.X u (k+1);have h2:N.eS t k/\N.key k t<=N.key k u:=⟨h1.1,by have:=h1.2;unfold key;omega⟩;rw[cr h1,cr h2];omega;have h2:¬(N.eS t k/\N.key k t<=N.key k u):=by rintro ⟨a,b⟩;have d:N.key k t≠N.key k u:=λh=>c (NM hP f hu a hc h);exact h1 ⟨a,by unfold key at b d;omega⟩
 rw[cc h1,cc h2];rfl
theorem Ue{u:ι}(hu:u∈N.E){k:Int}(hc:N.eS u k)(C:κ):N.L (w.mv C) (u,Y)=w.qg C (λt=>N.eS t k/\N.key k t<N.key k u):=by rw[CX hP _ (w.ux C) hu hc];refine ns λt a=>?_;by_cases h:N.eS t k/\N.key k t<N.key k u;have h':N.eS t k/\N.X t k+N.X t (k+1)<N.X u k+N.X u (k+1):=h;rw[cr h,cr h'];have h':¬(N.eS t k/\N.X t k+N.X t (k+1)<N.X u k+N.X u (k+1)):=h;rw[cc h,cc h']
omit hP in
theorem Rl(k:Int)(x:Int):yn N k (λt=>N.eS t k/\N.key k t<=x) :=⟨λt _ h=>h.1,λt _ s _ h hs a=>⟨hs,by have:=h.2;omega⟩⟩
omit hP in
theorem P9(k:Int)(x:Int):yn N k (λt=>N.eS t k/\N.key k t<x) :=⟨λt _ h=>h.1,λt _ s _ h hs a=>⟨hs,by have:=h.2;omega⟩⟩
theorem last{g:pJ ι}{k:Int}{S:ι->Prop}(h:yn N k S) :
  (∀t∈N.E,S t->∀b,¬w.qX g (t,b))\/∃v∈N.E,S v/\N.eS v k/\w.qX g (v,Y)/\∀t∈N.E,S t->N.key k v<N.key k t->∀b,¬w.qX g (t,b):=by
 by_cases c:(N.E.filter λt=>No (S t/\w.qX g (t,Y)))=[];left;intro t e hp b f;have:t∈(N.E.filter λt=>No (S t/\w.qX g (t,Y))):=aY.2 ⟨e,by simp only[kA];exact⟨hp,w.oc f (w.rB t b Y)⟩⟩;rw[c]at this;cases this;right;let ⟨u,hu,d⟩:=GD (- N.key k ·) c;let ⟨hu,a⟩:=aY.1 hu;simp only[kA]at a;refine⟨u,hu,a.1,h.eS u hu a.1,a.2,λt e hp i b f=>?_⟩;have:=d t (aY.2 ⟨e,by simp only[kA];exact⟨hp,w.oc f (w.rB t b Y)⟩⟩);omega
theorem AE{C:κ}{g:pJ ι}(i:w.CR C g){k:Int}{S:ι->Prop}(e:yn N k S){v:ι}(hv:v∈N.E)(c:S v)(j:∀t∈N.E,S t->N.key k v<N.key k t->∀b,¬w.qX g (t,b)):w.qg C S=N.L (w.mv C) (v,U):=by
 have hc:=e.eS v hv c;rw[w.EC hP hv hc];refine ns λt d=>?_;by_cases h1:S t;rw[cr h1];by_cases h2:N.eS t k/\N.key k t<=N.key k v;rw[cr h2];rw[cc h2];have f:N.key k v<N.key k t:=by
  rcases gU (N.key k v) (N.key k t)with h|h
  exact h;exact b8 ⟨e.eS t d h1,h⟩ h2
 exact w.Bw λb l=>j t d h1 f b (i (t,b) l d);rw[cc h1,cc];rintro ⟨a,b⟩;rcases gU (N.key k t) (N.key k v)with h|h
 exact h1 (e.ng v hv t d c a h);have:=NM hP d hv a hc (show N.key k t=N.key k v by omega);rw[this]at h1;exact h1 c
omit hP in
theorem Cr{C:κ}{g:pJ ι}(a:w.CR C g){S:ι->Prop}(c:∀t∈N.E,S t->∀b,¬w.qX g (t,b)):w.qg C S=0:=w.HP a c
structure Bb(C:κ)(g:pJ ι):Prop where
 mem:g.1∈N.E
 part:w.CR C g
 own:∀h,w.qX g h->N.L (w.mv C) h=ind (w.c h=C)
omit hP in
theorem VT(p:Prop):ind p=0\/ind p=1:=by unfold ind;split<;>simp
theorem OW{C:κ}{g:pJ ι}(hO:w.Bb C g){k:Int}{S:ι->Prop}(c:yn N k S):w.qg C S=0\/w.qg C S=1:=by
 rcases w.last hP (g:=g) c with h|⟨v,hv,a,hc,b,d⟩
 exact bw (w.Cr hO.part h);rw[w.AE hP hO.part c hv a d,hO.own _ (w.oc b (w.rB v Y U))];exact VT _
theorem bE2{C:κ}{g:pJ ι}(k:g.1∈N.E)(b:w.CR C g)(ha:0<tN w C):w.Bb C g:=by
 let ⟨o,h1,h2,l⟩:=w.bE3 hP k;refine⟨k,b,?_⟩;by_cases c:w.c o=C;have hle:∀e∈N.E,N.up e->N.L (w.mv C) (e,U)<=0:=by
  intro e he d;have hc:N.eS e (N.b7 e).2:=⟨cq _,d⟩;have m:=Rl (N:=N) (N.b7 e).2 (N.key (N.b7 e).2 e);rw[w.EC hP he hc];rcases w.last hP (g:=g) m with h|⟨v,hv,f,p,i,q⟩
  rw[w.Cr b h];exact cq _;rw[w.AE hP b m hv f q,l C b _ (w.oc i (w.rB v Y U)),bl2 c];rcases VT (w.c (v,U)=C)with h|h<;>omega
 let ⟨a,n,_,hs⟩:=Wj hP;have t:=hs w C;have r:dk (aT n) (λj:Nat=>tz (N.key (a+j)) (λu=>N.L (w.mv C) (u,U)) (B9 hP (a+j)))<=dk (aT n) (λ_=>0):=by refine L_ λj _=>?_;rw[<-an6 (N.key (a+j)) (B9 hP (a+j))];exact J6 (Ds hP _).2 λu hu=>by have:=(NC hP).1 hu;exact hle u this.1 (sV hP this.2)
 rw[uq (λ_ _=>rfl)]at r;have:=bR N.p7 ha;omega;intro h s;rw[l C b h s,tk c];omega
theorem inside{C D:κ}{g p:pJ ι}(c:w.Bb C g)(l:w.Bb D p)(hn:¬w.qX g p)(ha:N.L (w.mv C) p=0){k:Int}{S:ι->Prop}(m:yn N k S)(h1:w.qg C S=1)(h2:w.qg D S=1):tN w C<tN w D:=by
 have q:=λh a hm e=>hn (w.oc (c.part h e hm) (w.xC a));have r:=λh a hm e=>hn (w.oc a (w.xC (l.part h e hm)));have z:∀h,w.qX p h->h.1∈N.E->N.L (w.mv C) h=0:=λh a hm=>by have v:=w.Bd hP C a l.mem;rw[tk (q _ a hm),tk (q _ (.refl _) l.mem)]at v;omega
 have B:∀h,w.qX g h->h.1∈N.E->N.L (w.mv D) h=N.L (w.mv D) g:=λh a hm=>by have v:=w.Bd hP D a c.mem;rw[tk (r _ a hm),tk (r _ (.refl _) c.mem)]at v;omega
 have f:∀ {k:Int} {S:ι->Prop},yn N k S->w.qg C S=1->w.qg D S=N.L (w.mv D) g/\∃v∈N.E,N.eS v k/\w.qX g (v,Y):=by
  intro k S m h1;rcases w.last hP (g:=g) m with h|⟨v,hv,G,hc,d,H⟩
  rw[w.Cr c.part h]at h1;cases h1;rw[w.AE hP c.part m hv G H]at h1;refine⟨?_,v,hv,hc,d⟩;have P:∀t∈N.E,S t->N.key k v<N.key k t->∀b,¬w.qX p (t,b):=by intro t i I Q b hb;have R:=m.eS t i I;have e1:=z _ (w.oc hb (w.rB t b Y)) i;rw[w.Ue hP i R]at e1;have e2:=w.AE hP c.part (P9 (N:=N) k (N.key k t)) hv ⟨hc,Q⟩ (λs hs J K b2=>H s hs (m.ng t i s hs I J.1 J.2) K b2);omega
  rw[w.AE hP l.part m hv G P];exact B _ (w.oc d (w.rB v Y U)) hv
 let ⟨hb,v,hv,d,hcn⟩:=f m h1;have hb1:N.L (w.mv D) g=1:=by omega
 have hle:∀e∈N.E,N.up e->N.L (w.mv C) (e,U)<=N.L (w.mv D) (e,U):=by
  intro e he hup;have hc:N.eS e (N.b7 e).2:=⟨cq _,hup⟩;have hW:=Rl (N:=N) (N.b7 e).2 (N.key (N.b7 e).2 e);rw[w.EC hP he hc,w.EC hP he hc];rcases w.OW hP c hW with h|h
  rcases w.OW hP l hW with h'|h'<;>omega
  have:=(f hW h).1;omega
 have hne:(N.E.filter λt=>No (N.eS t k/\w.qX g (t,Y)))≠[]:=by intro h0;have:v∈(N.E.filter λt=>No (N.eS t k/\w.qX g (t,Y))):=aY.2 ⟨hv,by simp only[kA];exact⟨d,hcn⟩⟩;rw[h0]at this;cases this
 let ⟨u,hu,j⟩:=GD (N.key k ·) hne;let ⟨hu,n⟩:=aY.1 hu;simp only[kA]at n;have hCu:w.qg C (λt=>N.eS t k/\N.key k t<N.key k u)=0:=w.Cr c.part λt i hp b o=>by have:=j t (aY.2 ⟨i,by simp only[kA];exact⟨hp.1,w.oc o (w.rB t b Y)⟩⟩);omega
 have M:w.qg D (λt=>N.eS t k/\N.key k t<N.key k u)=1:=by rw[<-w.Ue hP hu n.1,B _ n.2 hu,hb1]
 rcases w.last hP (g:=p) (P9 (N:=N) k (N.key k u))with h|⟨x,hx,hSx,O,hcnx,hnx⟩
 rw[w.Cr l.part h]at M;cases M;refine aY9 hP w w hle hx (sV hP O) ?_;have e1:=w.AE hP l.part (P9 (N:=N) k (N.key k u)) hx hSx hnx;have e2:N.L (w.mv C) (x,U)=0:=by rw[w.EC hP hx O];refine w.Cr c.part λt i hp b o=>?_;have:=j t (aY.2 ⟨i,by simp only[kA];exact⟨hp.1,w.oc o (w.rB t b Y)⟩⟩);omega
 omega
theorem bd9{C D:κ}{g q:pJ ι}(d:w.Bb C g)(f:w.Bb D q)(o:C≠D){k:Int}{S:ι->Prop}(i:yn N k S)(h1:w.qg C S=1)(h2:w.qg D S=1):tN w C≠tN w D:=by
 by_cases j:w.qX g q;exfalso;have p:=λh e hm=>w.oc j (f.part h e hm);rcases w.last hP (g:=g) i with h|⟨v,hv,l,hc,m,n⟩
 rw[w.Cr d.part h]at h1;cases h1;rw[w.AE hP d.part i hv l n,d.own _ (w.oc m (w.rB v Y U))]at h1;rw[w.AE hP p i hv l n,f.own _ (w.oc (w.xC j) (w.oc m (w.rB v Y U)))]at h2;have a:w.c (v,U)=C:=by by_cases c:w.c (v,U)=C;exact c;rw[tk c]at h1;cases h1
 have b:w.c (v,U)=D:=by by_cases c:w.c (v,U)=D;exact c;rw[tk c]at h2;cases h2
 exact o (a.symm.trans b);rcases w.bp1 hP d.mem f.mem d.part f.part j with h|h
 have:=w.inside hP d f j h i h1 h2;omega;have:=w.inside hP f d (λc=>j (w.xC c)) h i h2 h1;omega
end nK
end Net
end Go.Pg
namespace Go.Ab
open Go
def qZ(a b c d:bs):Prop:=oK a b c d=0\/(oK a b c d=1/\∃p,(p=a\/p=b)/\(p=c\/p=d))
theorem Ft{a b c:bs}(ha:d' a=Y)(d:d' b=Y)(hc:d' c=Y):sP a b c=fr a b c:=by unfold sP;simp[ha,d,hc]
theorem aU4{a b c d e f:bs}(h:(sP a b c<=0/\0<=sP d e f)\/(0<=sP a b c/\sP d e f<=0)):l7 a b c*l7 d e f<=0:=by grind[l7]
theorem Oe{a b c:bs}:l7 a b c=0↔sP a b c=0:=by grind[l7]
def pe(M s:Int)(a:bs)(y:Int):Int:=M*a.1+s*(y-a.2)
def bU8{M s:Int}{a b p:bs}(hs:s*(b.2-a.2)=M*(b.1-a.1)):M*fr a b p=(b.2-a.2)*(pe M s a p.2-M*p.1):=by grind[fr,pe,cZ,dm,cT]
def xu{M s:Int}{a b p:bs}(c:0<M)(hu:a.2<b.2)(hs:s*(b.2-a.2)=M*(b.1-a.1)) :
  (0<fr a b p↔M*p.1<pe M s a p.2)/\(fr a b p<0↔pe M s a p.2<M*p.1):=by
 have h:=bU8 (p:=p) hs;generalize fr a b p=x at h;generalize hz:pe M s a p.2-M*p.1=z at h;have d:0<b.2-a.2:=by omega
 constructor;constructor;intro e;have:=bR c e;rw[h]at this;have:=bV this d;omega;intro f;have:0<(b.2-a.2)*z:=bR d (by omega);rw[<-h]at this;exact bV this c;constructor;intro e;have:M*x<0:=jA c e;rw[h]at this;have:0<(b.2-a.2)*(-z):=by rw[cn];omega
 have:=bV this d;omega;intro f;have:0<(b.2-a.2)*(-z):=bR d (by omega);rw[cn,<-h,<-cn]at this;have:=bV this c;omega
theorem Jl{M s:Int}{a b:bs}(hs:s*(b.2-a.2)=M*(b.1-a.1)):pe M s a b.2=M*b.1:=by grind[pe,cZ]
theorem Jd(M s:Int)(a:bs):pe M s a a.2=M*a.1:=by simp[pe]
def bT5(M s t:Int)(a c:bs)(y z:Int):(pe M s a z-pe M t c z)-(pe M s a y-pe M t c y)=(s-t)*(z-y):=by grind[pe,kJ,cZ]
def M6{a b c d:bs}(ha:d' a=Y)(g:d' b=Y)(hc:d' c=Y)(hd:d' d=Y)(e:a≠b)(f:c≠d)
  (h1:(fr a b c<=0/\0<=fr a b d)\/(0<=fr a b c/\fr a b d<=0)) (h2:(fr c d a<=0/\0<=fr c d b)\/(0<=fr c d a/\fr c d b<=0)) (h:¬(fr a b c=0/\fr a b d=0)):oK a b c d=1:=by grind[oK,u9,pt,Ft,l7,Oe,aU4,bG,aF]
section
variable {M s t:Int} {a b c d:bs} (hM:0<M) (ha:d' a=Y) (hb:d' b=Y) (hc:d' c=Y) (hd:d' d=Y) (hu:a.2<b.2) (hv:c.2<d.2)
 (hs:s*(b.2-a.2)=M*(b.1-a.1)) (ht:t*(d.2-c.2)=M*(d.1-c.1))
def oV(M s t:Int)(a c:bs)(y:Int):Int:=pe M s a y-pe M t c y
theorem u7(M s t:Int)(a c:bs)(y z:Int):oV M s t a c z-oV M s t a c y=(s-t)*(z-y):=bT5 M s t a c y z
include hM ha hb hc hd hu hv hs ht
theorem av9:(oV M s t a c c.2=pe M s a c.2-M*c.1)/\(oV M s t a c d.2=pe M s a d.2-M*d.1)/\(oV M s t a c a.2=M*a.1-pe M t c a.2)/\(oV M s t a c b.2=M*b.1-pe M t c b.2):=by grind[oV,Jd,Jl]
theorem J8(h1:(oV M s t a c c.2<=0/\0<=oV M s t a c d.2)\/(0<=oV M s t a c c.2/\oV M s t a c d.2<=0))(h2:(oV M s t a c a.2<=0/\0<=oV M s t a c b.2)\/(0<=oV M s t a c a.2/\oV M s t a c b.2<=0))(e:¬(oV M s t a c c.2=0/\oV M s t a c d.2=0)):oK a b c d=1:=by let ⟨f,g,i,j⟩:=av9 hM ha hb hc hd hu hv hs ht;have l2:=xu (p:=c) hM hu hs;have x8:=xu (p:=d) hM hu hs;have pG:=xu (p:=a) hM hv ht;have k:=xu (p:=b) hM hv ht;exact M6 ha hb hc hd (λh=>by rw[h]at hu;omega) (λh=>by rw[h]at hv;omega) (by omega) (by omega) (by omega)
theorem PC{p:bs}(h1:p=a\/p=b)(h2:p=c\/p=d):oV M s t a c p.2=0:=by grind[pe,Jd,Jl,oV]
theorem aN9(hm:qZ a b c d){k:Int}(g:a.2<=k)(h:k+1<=b.2)(i:c.2<=k)(j:k+1<=d.2):¬(oV M s t a c k<0/\0<oV M s t a c (k+1))/\¬(0<oV M s t a c k/\oV M s t a c (k+1)<0):=by
 have st:=u7 M s t a c k (k+1);have rO:=u7 M s t a c a.2 k;have b4:=u7 M s t a c c.2 k;have se:=u7 M s t a c (k+1) b.2;have l:=u7 M s t a c (k+1) d.2;have m:(s-t)*(k+1-k)=s-t:=by grind
 constructor;rintro ⟨h1,h2⟩;have hp:0<=s-t:=by omega
 have q5:=aB hp (show 0<=k-a.2 by omega);have nj:=aB hp (show 0<=k-c.2 by omega);have rM:=aB hp (show 0<=b.2-(k+1)by omega);have s_:=aB hp (show 0<=d.2-(k+1)by omega);have e:=J8 hM ha hb hc hd hu hv hs ht (bw ⟨by omega,by omega⟩) (bw ⟨by omega,by omega⟩) (by omega);rcases hm with hm|⟨_,p,fa,gb⟩<;>grind[PC]
 rintro ⟨h1,h2⟩;have hp:0<=t-s:=by omega
 have q5:=aB hp (show 0<=k-a.2 by omega);have nj:=aB hp (show 0<=k-c.2 by omega);have rM:=aB hp (show 0<=b.2-(k+1)by omega);have s_:=aB hp (show 0<=d.2-(k+1)by omega);have f:∀x,(t-s)*x=- ((s-t)*x):=λx=>by grind[dX]
 rw[f]at q5 nj rM s_;have e:=J8 hM ha hb hc hd hu hv hs ht (bm ⟨by omega,by omega⟩) (bm ⟨by omega,by omega⟩) (by omega);rcases hm with hm|⟨_,p,fa,gb⟩<;>grind[PC]
end
theorem I6(a b c:bs):fr b a c=- fr a b c:=by grind[fr,dX,cZ,cT]
theorem bR5(a b c:bs):sP b a c=- sP a b c:=by grind[sP,d',I6]
theorem Nv(a b c:bs):l7 b a c=- l7 a b c:=by grind[l7,bR5]
theorem Xj(a b:bs)(h:a≠b):hU b a=!hU a b:=by grind[fC,hU]
theorem bJ2{a b:bs}(c d:bs)(h:a≠b):p8 b a c d=p8 a b c d:=by grind[p8,Xj,hU]
theorem bI5(a b:bs){c d:bs}(h:c≠d):p8 a b d c=p8 a b c d:=by grind[p8,Xj,hU]
def bU4{a b:bs}(c d:bs)(h:a≠b):oK b a c d=oK a b c d:=by
 unfold oK;have e:u9 a b=U:=by grind[pt]
 have f:u9 b a=U:=by grind[pt]
 grind[d',n',fr,I6,sU,jG,iy,aF,u9,l7,Nv,dS,cT,bJ2]
def bW7(a b:bs){c d:bs}(h:c≠d):oK a b d c=oK a b c d:=by
 unfold oK;have e:u9 c d=U:=by grind[pt]
 have f:u9 d c=U:=by grind[pt]
 grind[d',n',fr,I6,sU,jG,iy,u9,aF,l7,cT,Nv,dS,bI5]
def qZ.GM{a b c d:bs}(h:a≠b)(m:qZ a b c d):qZ b a c d:=by
 unfold qZ at *;rw[bU4 c d h];rcases m with m|⟨m,p,h1,h2⟩
 exact bw m;exact bm ⟨m,p,h1.symm,h2⟩
def qZ.KG{a b c d:bs}(h:c≠d)(m:qZ a b c d):qZ a b d c:=by
 unfold qZ at *;rw[bW7 a b h];rcases m with m|⟨m,p,h1,h2⟩
 exact bw m;exact bm ⟨m,p,h1,h2.symm⟩
def bK7{M s:Int}{a b c d:bs}(m:0<M)(hu:a.2<b.2)(hv:c.2<d.2)(l2:∀p,p=a\/p=b\/p=c\/p=d->M*p.1=pe M s a p.2) :
  (max a.2 c.2<min b.2 d.2->p8 a b c d=2)/\(max a.2 c.2=min b.2 d.2->p8 a b c d=1):=by
 have t:=l2 a (by simp);have u:=l2 b (by simp);have lc:=l2 c (by simp);have ld:=l2 d (by simp);have g:∀p q:bs,(p=a\/p=b\/p=c\/p=d)->(q=a\/q=b\/q=c\/q=d)->M*(q.1-p.1)=s*(q.2-p.2):=by
  intro p q hp e;have h1:=l2 p hp;have h2:=l2 q e;unfold pe at h1 h2;have n:s*(q.2-p.2)=s*(q.2-a.2)-s*(p.2-a.2):=by rw[<-cZ];congr 1;omega
  rw[cZ];omega
 have i:∀p q:bs,(p=a\/p=b\/p=c\/p=d)->(q=a\/q=b\/q=c\/q=d)->p.2=q.2->p=q:=by
  intro p q hp e h;have:=g p q hp e;rw[show q.2-p.2=0 by omega,dV]at this;rcases gV.1 this with h2|h2
  omega;exact fC (by omega) h
 by_cases hs:0<=s
 .have nh:∀p q:bs,(p=a\/p=b\/p=c\/p=d)->(q=a\/q=b\/q=c\/q=d)->hU p q=No (p.2<q.2):=by
   intro p q hp e;have h:=g p q hp e;unfold hU;by_cases h1:p.2<q.2;have h2:=aB hs (show 0<=q.2-p.2 by omega);rw[<-h]at h2;have n:0<=q.1-p.1:=by
    rcases gU (q.1-p.1) 0 with f|f
    have:=jA m f;omega;exact f
   by_cases f:p.1<q.1;simp[h1,f];have j:p.1=q.1:=by omega
   simp[h1,j];by_cases h2:p.2=q.2;have:=i p q hp e h2;subst this;simp;have n:=aB hs (show 0<=p.2-q.2 by omega);have f:s*(p.2-q.2)=- (s*(q.2-p.2)):=by rw[<-cn];congr 1;omega
   rw[f,<-h]at n;have j:¬p.1<q.1:=λk=>by have:=bR m (show 0<q.1-p.1 by omega);omega
   simp[h1,j]
  have o:hU b a=U:=by rw[nh b a (by simp) (by simp)];exact fc (by omega)
  have r:hU d c=U:=by rw[nh d c (by simp) (by simp)];exact fc (by omega)
  unfold p8;simp only[o,r,aF,l4,nh a c (by simp) (by simp),nh d b (by simp) (by simp),kA];by_cases c1:a.2<c.2<;>by_cases c2:d.2<b.2<;>simp only[c1,c2,vE,l4]
  all_goals
   constructor;intro h;rw[nh _ _ (by simp) (by simp)];rw[cc (λhe=>by have:=Ar Prod.snd ((pt _ _).1 he);omega),cr (hT (by omega))];intro h;rw[cr ((pt _ _).2 (i _ _ (by simp) (by simp) (by omega)))]
 have nh:∀p q:bs,(p=a\/p=b\/p=c\/p=d)->(q=a\/q=b\/q=c\/q=d)->hU p q=No (q.2<p.2):=by
  intro p q hp e;have h:=g p q hp e;unfold hU;by_cases h1:q.2<p.2;have h2:=cN (show s<0 by omega) (show q.2-p.2<0 by omega);rw[<-h]at h2;have n:=bV h2 m;have f:p.1<q.1:=by omega
  simp[h1,f];by_cases h2:p.2=q.2;have:=i p q hp e h2;subst this;simp;have l:s*(q.2-p.2)<0:=Int.mul_neg_of_neg_of_pos (show s<0 by omega) (show 0<q.2-p.2 by omega);rw[<-h]at l;have j:¬p.1<q.1:=λk=>by have:=bR m (show 0<q.1-p.1 by omega);omega
  have k:¬p.1=q.1:=λk=>by rw[k,Int.sub_self,dV]at l;omega
  simp[h1,j,k]
 grind[hU,decide_eq_true,p8,pt]
section
variable {M s t:Int} {a b c d:bs} (hM:0<M) (ha:d' a=Y) (hb:d' b=Y) (hc:d' c=Y) (hd:d' d=Y) (hu:a.2<b.2) (hv:c.2<d.2)
 (hs:s*(b.2-a.2)=M*(b.1-a.1)) (ht:t*(d.2-c.2)=M*(d.1-c.1))
def WJ{a b c d:bs}(ha:d' a=Y)(hb:d' b=Y)(hc:d' c=Y)(hd:d' d=Y)(e:a≠b)(f:c≠d)(h1:fr a b c=0)(h2:fr a b d=0):oK a b c d=p8 a b c d:=by grind[oK,u9,pt,Ft,l7,Oe,bG,aF]
include hM ha hb hc hd hu hv hs ht
theorem af2(qJ:s=t){k:Int}(j:oV M s t a c k=0)(hm:qZ a b c d):¬max a.2 c.2<min b.2 d.2:=by
 subst qJ;let ⟨g,i,l,m⟩:=av9 hM ha hb hc hd hu hv hs ht;have z:∀y,oV M s s a c y=0:=λy=>by grind[u7]
 rw[z]at g i;have l2:∀p,p=a\/p=b\/p=c\/p=d->M*p.1=pe M s a p.2:=by grind[Jd,Jl]
 have g1:=xu (p:=c) hM hu hs;have g2:=xu (p:=d) hM hu hs;have e:=WJ ha hb hc hd (λh=>by rw[h]at hu;omega) (λh=>by rw[h]at hv;omega) (by omega) (by omega);intro f;rcases hm with hm|⟨hm,_⟩<;>rw[e,(bK7 hM hu hv l2).1 f]at hm<;>omega
theorem aO4(hm:qZ a b c d){k:Int}(h:a.2<=k)(i:k<=b.2)(j:c.2<=k)(l:k<=d.2)(e:oV M s t a c k=0):(k=a.2\/k=b.2)/\(k=c.2\/k=d.2):=by
 by_cases qJ:s=t;have:=af2 hM ha hb hc hd hu hv hs ht qJ e hm;omega;have rO:=u7 M s t a c a.2 k;have b4:=u7 M s t a c c.2 k;have se:=u7 M s t a c k b.2;have m:=u7 M s t a c k d.2;have f:=u7 M s t a c c.2 d.2;have n:¬(oV M s t a c c.2=0/\oV M s t a c d.2=0):=by grind[gV]
 have g:oK a b c d=1:=by
  rcases gU s t with hl|hl
  have o:∀x,(t-s)*x=- ((s-t)*x):=λx=>by grind[dX]
  have q5:=aB (show 0<=t-s by omega) (show 0<=k-a.2 by omega);have nj:=aB (show 0<=t-s by omega) (show 0<=k-c.2 by omega);have rM:=aB (show 0<=t-s by omega) (show 0<=b.2-k by omega);have s_:=aB (show 0<=t-s by omega) (show 0<=d.2-k by omega)
  grind[J8]
  have q5:=aB (show 0<=s-t by omega) (show 0<=k-a.2 by omega);have nj:=aB (show 0<=s-t by omega) (show 0<=k-c.2 by omega);have rM:=aB (show 0<=s-t by omega) (show 0<=b.2-k by omega);have s_:=aB (show 0<=s-t by omega) (show 0<=d.2-k by omega)
  grind[J8]
 rcases hm with hm|⟨_,p,fa,gb⟩<;>grind[PC,u7,gV]
theorem aH8(hm:qZ a b c d){k:Int}(f:a.2<=k)(g:k+1<=b.2)(h:c.2<=k)(i:k+1<=d.2)(e:oV M s t a c k=0)(h1:oV M s t a c (k+1)=0):False:=by have h2:=u7 M s t a c k (k+1);rw[e,h1,show k+1-k=1 by omega,fE]at h2;have:=af2 hM ha hb hc hd hu hv hs ht (by omega) e hm;omega
end
def ba7{M s:Int}{a b c d:bs}(e:0<M)(ha:d' a=Y)(f:d' b=Y)(hc:d' c=Y)(hd:d' d=Y)(hu:a.2<b.2)(hv:c.2=d.2)(hw:c.1<d.1)
  (hs:s*(b.2-a.2)=M*(b.1-a.1)) (hm:qZ a b c d\/qZ c d a b) (n:a.2<=c.2) (o:c.2<=b.2) (q:M*c.1<=pe M s a c.2) (r:pe M s a c.2<=M*d.1) :
  (c.2=a.2\/c.2=b.2)/\(pe M s a c.2=M*c.1\/pe M s a c.2=M*d.1):=by
 have l2:=xu (p:=c) e hu hs;have x8:=xu (p:=d) e hu hs;rw[<-hv]at x8;have j:M*c.1<M*d.1:=cd hw e;have s1:fr c d a<=0:=by
  unfold fr;rw[show d.2-c.2=0 by omega,eM];have:=aB (show 0<=d.1-c.1 by omega) (show 0<=c.2-a.2 by omega)
  grind[cn]
 have s2:0<=fr c d b:=by unfold fr;rw[show d.2-c.2=0 by omega,eM];have:=aB (show 0<=d.1-c.1 by omega) (show 0<=b.2-c.2 by omega);omega
 have g:a≠b:=λh=>by rw[h]at hu;omega
 have i:c≠d:=λh=>by rw[h]at hw;omega
 have k:=M6 ha f hc hd g i (bm ⟨by omega,by omega⟩) (bw ⟨s1,s2⟩) (by omega);have l:oK c d a b=1:=M6 hc hd ha f i g (bw ⟨s1,s2⟩) (bm ⟨by omega,by omega⟩) (by grind[fr,gV]);have m:∃p,(p=a\/p=b)/\(p=c\/p=d):=by
  rcases hm with(h|⟨_,h⟩)| (h|⟨_,p,h1,h2⟩)
  omega;exact h;omega;exact⟨p,h2,h1⟩
 grind[pe,Jd,Jl]
def ag0{a b c d:bs}(ha:d' a=Y)(i:d' b=Y)(hc:d' c=Y)(hd:d' d=Y)(hu:a.2=b.2)(f:a.1<b.1)(hv:c.2=d.2)(g:c.1<d.1)(k:a.2=c.2)
  (hm:qZ a b c d) (h1:a.1<d.1) (h2:c.1<b.1):False:=by
 have z:∀p,p.2=a.2->fr a b p=0:=λp h=>by grind[fr]
 have e:=WJ ha i hc hd (λh=>by rw[h]at f;omega) (λh=>by rw[h]at g;omega) (z c (by omega)) (z d (by omega));have nh:∀p q:bs,p.2=q.2->hU p q=No (p.1<q.1):=by grind[hU]
 have l:hU b a=U:=by grind[decide_eq_false]
 have m:hU d c=U:=by grind[decide_eq_false]
 have j:p8 a b c d=2:=by grind[p8,aF,pt,decide_eq_true]
 rcases hm with hm|⟨hm,_⟩<;>rw[e,j]at hm<;>omega
open Go.Pg
def uV(a b c d:bs):Prop:=max a.1 b.1<min c.1 d.1\/max c.1 d.1<min a.1 b.1
def Sep(a b c d:bs):Prop:=qZ a b c d\/qZ c d a b\/uV a b c d
def Sep.swap{a b c d:bs}(h:Sep a b c d):Sep c d a b:=by
 rcases h with h|h|h
 exact bm (bw h);exact bw h;exact bm (bm h.symm)
def Sep.GM{a b c d:bs}(n:a≠b)(h:Sep a b c d):Sep b a c d:=by
 rcases h with h|h|h
 exact bw (h.GM n);exact bm (bw (h.KG n));refine bm (bm ?_);unfold uV at *;omega
def Sep.KG{a b c d:bs}(n:c≠d)(h:Sep a b c d):Sep a b d c:=(h.swap.GM n).swap
structure q6(ι:Type) where
 E:List ι
 src:ι->bs
 dst:ι->bs
namespace q6
variable {ι:Type} (F:q6 ι)
structure Ok:Prop where
 nodup:F.E.Nodup
 ne:∀e∈F.E,F.src e≠F.dst e
 Ao:∀e∈F.E,d' (F.src e)=Y/\d' (F.dst e)=Y
 meet:∀e∈F.E,∀f∈F.E,e≠f->Sep (F.src e) (F.dst e) (F.src f) (F.dst f)
def fwd(e:ι):Bool:=No ((F.src e).2<(F.dst e).2\/((F.src e).2=(F.dst e).2/\(F.src e).1<(F.dst e).1))
def b7(e:ι):bs:=cond (F.fwd e) (F.src e) <|F.dst e
def a7(e:ι):bs:=cond (F.fwd e) (F.dst e) <|F.src e
def xZ(e:ι):Int:=ite ((F.b7 e).2<(F.a7 e).2) ((F.a7 e).2-(F.b7 e).2) 1
def prod:cu ι->Int
 | []=>1
 |e::l=>F.xZ e*prod l
def bJ4(e:ι):0<F.xZ e:=by unfold xZ;split<;>omega
def Cg:∀l,0<F.prod l
 | []=>by simp[prod]
 |e::l=>bR (F.bJ4 e) (Cg l)
def an5{e:ι}:∀ {l:cu ι},e∈l->F.xZ e∣F.prod l
 |f::l,h=>by
  rcases aG.1 h with rfl|h
  exact kZ _ _;exact lY (an5 h) (Int.dvd_mul_left _ _)
def y_{F:q6 ι}(dC:F.Ok){e:ι}(he:e∈F.E):(F.b7 e).2<(F.a7 e).2\/((F.b7 e).2=(F.a7 e).2/\(F.b7 e).1<(F.a7 e).1):=by
 have a:=dC.ne e he;unfold b7 a7;cases h:F.fwd e;unfold fwd at h
 grind
 unfold fwd at h
 grind
def hY(dC:F.Ok):Net ι where
 E:=F.E
 b7:=F.b7
 a7:=F.a7
 M:=F.prod F.E
 s:=λe=>F.prod F.E*((F.a7 e).1-(F.b7 e).1) / F.xZ e
 p7:=F.Cg _
 ord:=λe he=>y_ dC he
 AB:=λe he hu=>by have a:F.xZ e=(F.a7 e).2-(F.b7 e).2:=cr hu;have h:=F.an5 he;have h2:F.xZ e∣F.prod F.E*((F.a7 e).1-(F.b7 e).1):=lY h (kZ _ _);rw[<-a];exact Int.ediv_mul_cancel h2
def pO{F:q6 ι}(dC:F.Ok){e:ι}(he:e∈F.E):d' (F.b7 e)=Y/\d' (F.a7 e)=Y:=by
 have:=dC.Ao e he;unfold b7 a7
 grind
def LC{F:q6 ι}(dC:F.Ok){e f:ι}(he:e∈F.E)(hf:f∈F.E)(h:e≠f):Sep (F.b7 e) (F.a7 e) (F.b7 f) (F.a7 f):=by have m:=dC.meet e he f hf h;have a:=dC.ne e he;have b:=dC.ne f hf;unfold b7 a7;cases F.fwd e<;>cases F.fwd f;exact(m.GM a).KG b;exact m.GM a;exact m.KG b;exact m
section
variable (dC:F.Ok)
def H6{e:ι}(he:e∈F.E)(hu:(F.b7 e).2<(F.a7 e).2){k:Int}(a:(F.b7 e).2<=k)(b:k<=(F.a7 e).2) :
  F.prod F.E*min (F.b7 e).1 (F.a7 e).1<=(F.hY dC).X e k/\(F.hY dC).X e k<=F.prod F.E*max (F.b7 e).1 (F.a7 e).1:=by
 have c:=F.Cg F.E;have d:(F.hY dC).X e (F.b7 e).2=F.prod F.E*(F.b7 e).1:=Net.vG _ e;have f:(F.hY dC).X e (F.a7 e).2=F.prod F.E*(F.a7 e).1:=Net.yo (F.hY dC) he hu;have st:∀y z,(F.hY dC).X e z-(F.hY dC).X e y=(F.hY dC).s e*(z-y):=λy z=>by
  unfold Net.X
  grind
 have s1:=st (F.b7 e).2 k;have s2:=st k (F.a7 e).2;have m1:F.prod F.E*min (F.b7 e).1 (F.a7 e).1<=F.prod F.E*(F.b7 e).1:=bI (by omega) (by omega);have m2:F.prod F.E*min (F.b7 e).1 (F.a7 e).1<=F.prod F.E*(F.a7 e).1:=bI (by omega) (by omega);have m3:F.prod F.E*(F.b7 e).1<=F.prod F.E*max (F.b7 e).1 (F.a7 e).1:=bI (by omega) (by omega);have m4:F.prod F.E*(F.a7 e).1<=F.prod F.E*max (F.b7 e).1 (F.a7 e).1:=bI (by omega) (by omega);rcases gU ((F.hY dC).s e) 0 with h|h
 have q5:=aB (show 0<=- (F.hY dC).s e by omega) (show 0<=k-(F.b7 e).2 by omega);have nj:=aB (show 0<=- (F.hY dC).s e by omega) (show 0<=(F.a7 e).2-k by omega);rw[dX]at q5 nj;omega;have q5:=aB h (show 0<=k-(F.b7 e).2 by omega);have nj:=aB h (show 0<=(F.a7 e).2-k by omega);omega
structure C1(e f:ι):Prop where
 ME:∀k,(F.hY dC).eS e k->(F.hY dC).eS f k->¬((F.hY dC).X e k<(F.hY dC).X f k/\(F.hY dC).X f (k+1)<(F.hY dC).X e (k+1))/\¬((F.hY dC).X f k<(F.hY dC).X e k/\(F.hY dC).X e (k+1)<(F.hY dC).X f (k+1))
 U5:∀k,(F.hY dC).eS e k->(F.hY dC).eS f k->(F.hY dC).X e k=(F.hY dC).X f k->(F.hY dC).X e (k+1)=(F.hY dC).X f (k+1)->False
 ar2:∀k,(F.b7 e).2<=k->k<=(F.a7 e).2->(F.b7 f).2<=k->k<=(F.a7 f).2->(F.hY dC).X e k=(F.hY dC).X f k->(k=(F.b7 e).2\/k=(F.a7 e).2)/\(k=(F.b7 f).2\/k=(F.a7 f).2)
def C1.symm{e f:ι}(h:F.C1 dC e f):F.C1 dC f e :=⟨λk a b=>(h.ME k b a).symm,λk a b x y=>h.U5 k b a x.symm y.symm,λk a b c d x=>(h.ar2 k c d a b x.symm).symm⟩
def Yc{e f:ι}(he:e∈F.E)(hf:f∈F.E)(b:(F.b7 e).2<(F.a7 e).2)(c:(F.b7 f).2<(F.a7 f).2)(hm:qZ (F.b7 e) (F.a7 e) (F.b7 f) (F.a7 f)):F.C1 dC e f:=by
 have d:=(F.hY dC).p7;have a:∀e f y,oV (F.hY dC).M ((F.hY dC).s e) ((F.hY dC).s f) (F.b7 e) (F.b7 f) y=(F.hY dC).X e y-(F.hY dC).X f y:=λ_ _ _=>rfl;have hF:=(F.hY dC).AB;constructor;intro k c1 c2;have h:=aN9 d (pO dC he).1 (pO dC he).2 (pO dC hf).1 (pO dC hf).2 b c (hF e he b) (hF f hf c) hm (k:=k) c1.1 c1.2 c2.1 c2.2
 grind
 intro k c1 c2 h1 h2;exact aH8 d (pO dC he).1 (pO dC he).2 (pO dC hf).1 (pO dC hf).2 b c (hF e he b) (hF f hf c) hm (k:=k) c1.1 c1.2 c2.1 c2.2 (by rw[a];omega) (by rw[a];omega);intro k g i j l h;exact aO4 d (pO dC he).1 (pO dC he).2 (pO dC hf).1 (pO dC hf).2 b c (hF e he b) (hF f hf c) hm (k:=k) g i j l (by rw[a];omega)
def Yb{e f:ι}(he:e∈F.E)(hf:f∈F.E)(a:(F.b7 e).2<(F.a7 e).2)(b:(F.b7 f).2<(F.a7 f).2)(hm:max (F.b7 e).1 (F.a7 e).1<min (F.b7 f).1 (F.a7 f).1):F.C1 dC e f:=by
 have lt:∀k,(F.b7 e).2<=k->k<=(F.a7 e).2->(F.b7 f).2<=k->k<=(F.a7 f).2->(F.hY dC).X e k<(F.hY dC).X f k:=λk c d g h=>by have h1:=(F.H6 dC he a c d).2;have h2:=(F.H6 dC hf b g h).1;have j:=cd hm (F.Cg F.E);omega
 have i:∀k,(F.hY dC).eS e k->(F.hY dC).eS f k->(F.hY dC).X e k<(F.hY dC).X f k/\(F.hY dC).X e (k+1)<(F.hY dC).X f (k+1):=λk c1 c2=>by
  have l:(F.b7 e).2<=k:=c1.1;have a2:k<(F.a7 e).2:=c1.2;have a3:(F.b7 f).2<=k:=c2.1;have a4:k<(F.a7 f).2:=c2.2
  grind
 constructor
 grind
 grind
 grind
def pair{e f:ι}(he:e∈F.E)(hf:f∈F.E)(a:(F.b7 e).2<(F.a7 e).2)(b:(F.b7 f).2<(F.a7 f).2)(h:e≠f):F.C1 dC e f:=by
 rcases LC dC he hf h with m|m|m|m
 exact F.Yc dC he hf a b m;exact(F.Yc dC hf he b a m).symm;exact F.Yb dC he hf a b m;exact(F.Yb dC hf he b a m).symm
def w8:(F.hY dC).wx:=by
 have t:=(F.hY dC).p7;have hF:=(F.hY dC).AB;constructor;exact dC.nodup;intro e he f hf k c1 c2 h;by_cases a:e=f;subst a;omega;have:=((F.pair dC he hf (dW c1.1 c1.2) (dW c2.1 c2.2) a).ME k c1 c2).1;omega;intro e he f hf k c1 c2 h;by_cases a:e=f;subst a;omega;have:=((F.pair dC he hf (dW c1.1 c1.2) (dW c2.1 c2.2) a).ME k c1 c2).2;omega;intro e he f hf k c1 c2 h1 h2;rcases ji (e=f)with h|a
 exact h;exact((F.pair dC he hf (dW c1.1 c1.2) (dW c2.1 c2.2) a).U5 k c1 c2 h1 h2).elim;intro e he f hf k d u a l n v w h;exact((F.pair dC he hf d u a).ar2 k l n v w h).1;intro e he f hf d p l n r s;have a:e≠f:=λh=>p (h▸d);have o:=y_ dC hf;have q:¬(F.b7 f).2<(F.a7 f).2:=p;have x:(F.b7 f).2=(F.a7 f).2:=by omega
 have z:(F.b7 f).1<(F.a7 f).1:=by omega
 have m:=LC dC he hf a;by_cases c:uV (F.b7 e) (F.a7 e) (F.b7 f) (F.a7 f);have b:=F.H6 dC he d l n;have B:F.prod F.E*(F.b7 f).1<=(F.hY dC).X e (F.b7 f).2:=r;have C:(F.hY dC).X e (F.b7 f).2<=F.prod F.E*(F.a7 f).1:=s;have J:F.prod F.E*min (F.b7 e).1 (F.a7 e).1<=(F.hY dC).X e (F.b7 f).2/\(F.hY dC).X e (F.b7 f).2<=F.prod F.E*max (F.b7 e).1 (F.a7 e).1:=b;rcases c with h|h
 have:=cd (show max (F.b7 e).1 (F.a7 e).1<(F.b7 f).1 by omega) (F.Cg F.E);omega;have:=cd (show(F.a7 f).1<min (F.b7 e).1 (F.a7 e).1 by omega) (F.Cg F.E);omega;have D:qZ (F.b7 e) (F.a7 e) (F.b7 f) (F.a7 f)\/qZ (F.b7 f) (F.a7 f) (F.b7 e) (F.a7 e):=by
  rcases m with m|m|m
  exact bw m;exact bm m;exact(c m).elim
 exact ba7 t (pO dC he).1 (pO dC he).2 (pO dC hf).1 (pO dC hf).2 d x z (hF e he d) D l n r s;intro e he f hf G p H h1 h2;rcases ji (e=f)with h|a
 exact h;have I:¬(F.b7 e).2<(F.a7 e).2:=G;have q:¬(F.b7 f).2<(F.a7 f).2:=p;have g:(F.b7 e).1<(F.a7 f).1:=h1;have i:(F.b7 f).1<(F.a7 e).1:=h2;have j:=H;have o1:=y_ dC he;have o2:=y_ dC hf;rcases LC dC he hf a with m|m|m
 exact(ag0 (pO dC he).1 (pO dC he).2 (pO dC hf).1 (pO dC hf).2 (by omega) (by omega) (by omega) (by omega) j m g i).elim;exact(ag0 (pO dC hf).1 (pO dC hf).2 (pO dC he).1 (pO dC he).2 (by omega) (by omega) (by omega) (by omega) j.symm m i g).elim;unfold uV at m;omega
end
end q6
theorem X4{s:fy}{m:cu (Int×bs)}:∀ {r:cu fy},r.Pairwise (qu ·<=qu ·)->wU s m r=Y->∀t∈r,qx s t m=Y\/Co s<qu t
 | [],_,_,t,a=>by simp at a
 |u::r,hp,h,t,a=>by
  unfold wU at h;by_cases b:Co s<qu u
  grind[List.rel_of_pairwise_cons]
  rw[fc b]at h;simp only[bu,ab]at h;rcases aG.1 a with rfl|a
  exact bw h.1;exact X4 (iI hp) h.2 t a
def FN{al:gp}{m:cu (Int×bs)}:∀ {l:cu fy},l.Pairwise (qu ·<=qu ·)->tV al m l=Y->l.Pairwise (λs t=>qx s t m=Y\/Co s<qu t)/\∀s∈l,∀n∈al,p6 s n=Y
 | [],_,_=>by simp
 |s::r,hp,h=>by
  unfold tV at h;simp only[ab]at h;let ⟨h1,h2,a⟩:=h;let ⟨i1,i2⟩:=FN (iI hp) a
  grind[aU,X4]
def Jr{n:b9}:∀ {al:gp} (m:cu (Int×bs)),(al.map (·.1)).Pairwise (·<·)->n∈al->fh gd n.1 (mkMap al m)=Z n.2
 |u::al,m,hp,a=>by
  rw[aD,aU]at hp;rcases aG.1 a with rfl|a
  show fh gd n.1 (mkMap al (wC gd n.1 n.2 m))=_
  grind[Ja,aX,rV]
  show fh gd n.1 (mkMap al (wC gd u.1 u.2 m))=_;exact Jr _ hp.2 a
def Gw{α:Type}{R:α->α->Prop}(ey:∀x y,R x y->R y x)(b:∀x,R x x):∀ {l:cu α},l.Pairwise R->∀ {x y},x∈l->y∈l->R x y
 |a::l,hp,x,y,c,d=>by
  rw[aU]at hp;rcases aG.1 c with h1|h1
  grind
  rcases aG.1 d with h2|h2
  grind
  exact Gw ey b hp.2 h1 h2
structure nJ(al:List b9)(ag:List ct)(s:fy)(a:ct)(p:List bs)(i:Nat):Prop where
 nM:a∈ag
 path:pathOf al ag a.1=Z p
 at':i+1<aa p
 eq:s=(rT a p,(i:Int))
namespace nJ
variable {al:gp} {ag:hI} {s:fy} {a:ct} {p:eY} {i:Nat} (h:nJ al ag s a p i)
include h
theorem rO:p[i]?=Z (hi s):=by
 have:=h.at';rw[h.eq];show p[i]?=Z ((p[i]?).getD (0,0))
 grind
theorem se:p[i+1]?=Z (gl s):=by
 have:=h.at';rw[h.eq];show p[i+1]?=Z ((p[i+1]?).getD (0,0))
 grind
theorem first:tP s=No (i=0):=by
 rw[h.eq];unfold tP
 grind
theorem last:th s=No (i+2=aa p):=by rw[h.eq];exact decide_eq_decide.2 (by show(i:Int)=(aa p:Int)-2↔_;omega)
end nJ
namespace fp
variable {al:gp} {ag:hI} {fs:eD} (h:fp al ag fs)
include h
theorem q_{r:cu fy}(b:zb al ag ag=Z r){s:fy}(hs:s∈r):∃a p i,nJ al ag s a p i:=by let ⟨a,ha,p,hp,hm⟩:=Bt b s hs;let ⟨i,a7,e⟩:=xw hm;exact⟨a,p,i,ha,hp,a7,e⟩
theorem sD{s:fy}{a:ct}{p:eY}{i:Nat}(o:nJ al ag s a p i):hi s≠gl s:=by let ⟨f,t,_,_,b,c,_⟩:=h.path o.nM;rw[o.path]at b;cases b;exact J5 c o.rO o.se
theorem vp{s:fy}{a:ct}{p:eY}{i:Nat}(o:nJ al ag s a p i):d' (hi s)=Y/\d' (gl s)=Y :=⟨rS (h.D0 o.nM o.path _ (aH o.rO)),rS (h.D0 o.nM o.path _ (aH o.se))⟩
theorem Cn{s:fy}{a:ct}{p:eY}{i:Nat}(o:nJ al ag s a p i)(a7:i=0){n:b9}(b:n∈al)(e:a.2.1=n.1):hi s=n.2:=by
 let ⟨f,t,h1,_,c,_⟩:=h.path o.nM;rw[o.path]at c;have d:=o.rO;rw[e,h.vm b]at h1
 grind
theorem D6{s:fy}{a:ct}{p:eY}{i:Nat}(o:nJ al ag s a p i)(a7:i+2=aa p){n:b9}(b:n∈al)(e:a.2.2.1=n.1):gl s=n.2:=by
 let ⟨f,t,_,h2,c,_⟩:=h.path o.nM;rw[o.path]at c;have d:=o.se;rw[e,h.vm b]at h2
 grind
theorem ap1{s:fy}{a:ct}{p:eY}{i:Nat}(o:nJ al ag s a p i){n:b9}(b:n∈al)(hf:p6 s n=Y)(ho:n' (hi s) (gl s) n.2=Y):n.2=hi s\/n.2=gl s:=by
 unfold p6 at hf;rw[ho,o.first,o.last]at hf;simp only[ar,cR,bx,ab,kA]at hf;rcases hf with⟨x,y⟩|⟨x,y⟩
 exact bw (h.Cn o x b (by rw[o.eq]at y;exact y)).symm;exact bm (h.D6 o x b (by rw[o.eq]at y;exact y)).symm
theorem PT{s t:fy}{a b:ct}{p q:eY}{i j:Nat}(o:nJ al ag s a p i)(o':nJ al ag t b q j)(e:s.1.1=t.1.1):a=b/\p=q:=by
 have d:a.1=b.1:=by rw[o.eq,o'.eq]at e;exact e
 have h1:=h.zD o.nM;have h2:=h.zD o'.nM;rw[d,h2]at h1;cases h1;have c:=o.path;rw[o'.path]at c;cases c;exact⟨rfl,rfl⟩
theorem N5{a:ct}{p:eY}(ha:a∈ag)(hp:pathOf al ag a.1=Z p)(e:a.2.1=a.2.2.1){i:Nat}(a7:i+2=aa p){x y:bs}(b:p[0]?=Z x)(c:p[i+1]?=Z y):x=y:=by
 let ⟨f,t,h1,h2,d,_⟩:=h.path ha
 grind
theorem DQ{a:ct}(ha:a∈ag):(∃n∈al,n.1=a.2.1)/\∃n∈al,n.1=a.2.2.1:=by let ⟨f,t,h1,h2,_⟩:=h.path ha;exact⟨⟨f,bh h1,by have:=eB h1;simpa using this⟩,⟨t,bh h2,by have:=eB h2;simpa using this⟩⟩
theorem bf1{s t:fy}{a b:ct}{p q:eY}{i j:Nat}(o:nJ al ag s a p i)(o':nJ al ag t b q j)(v:s≠t)(m:∀n∈al,p6 s n=Y)(w:∀n∈al,p6 t n=Y)(hc:qx s t (mkMap al [])=Y):qZ (hi s) (gl s) (hi t) (gl t):=by
 unfold qx at hc;by_cases e:s.1.1=t.1.1;rw[hT e]at hc;simp only[b6]at hc;obtain⟨rfl,rfl⟩:=h.PT o o' e;have z:s.2=(i:Int):=by rw[o.eq]
 have B:t.2=(j:Int):=by rw[o'.eq]
 have f:s.1.2.1=a.2.1/\s.1.2.2.1=a.2.2.1:=by rw[o.eq];exact⟨rfl,rfl⟩
 have u:t.1.2.1=a.2.1/\t.1.2.2.1=a.2.2.1:=by rw[o'.eq];exact⟨rfl,rfl⟩
 rw[z,B,f.1,f.2,u.1,u.2,o.first,o.last,o'.first,o'.last]at hc;by_cases g:(j:Int)<(i:Int);rw[hT g]at hc;simp only[b6]at hc;by_cases c:(No ((j:Int)+1=(i:Int))||(No (a.2.1=a.2.2.1)&&(No (j=0)&&No (i+2=aa p))))=Y;rw[c]at hc;simp only[b6,kA]at hc;refine bm ⟨hc,?_⟩;simp only[bx,ab,kA]at c;rcases c with c|⟨l2,x8,pG⟩
 have:j+1=i:=by omega
 subst this;have l:=aJ (o.rO.symm.trans o'.se);exact⟨hi s,bw rfl,bm l⟩;subst x8;have:=h.N5 o.nM o.path l2 pG o'.rO o.se;exact⟨gl s,bm rfl,bw this.symm⟩;rw[gM.2 c]at hc;simp only[bu,kA]at hc;exact bw hc;rw[fc g]at hc;simp only[bu]at hc;by_cases c:(No ((i:Int)+1=(j:Int))||(No (a.2.1=a.2.2.1)&&(No (i=0)&&No (j+2=aa p))))=Y;rw[c]at hc;simp only[b6,kA]at hc;refine bm ⟨hc,?_⟩;simp only[bx,ab,kA]at c;rcases c with c|⟨l2,x8,pG⟩
 have:i+1=j:=by omega
 subst this;have l:=o'.rO;rw[o.se]at l;exact⟨gl s,bm rfl,bw (aJ l)⟩;subst x8;have:=h.N5 o'.nM o'.path l2 pG o.rO o'.se;exact⟨hi s,bw rfl,bm this⟩;rw[gM.2 c]at hc;simp only[bu,kA]at hc;exact bw hc;rw[fc e]at hc;simp only[bu]at hc;by_cases d:oK (hi s) (gl s) (hi t) (gl t)=1;rw[hT d]at hc;simp only[b6]at hc;refine bm ⟨d,?_⟩;have key:∀n∈al,(n' (hi s) (gl s) (nv (mkMap al []) n.1)&&n' (hi t) (gl t) (nv (mkMap al []) n.1))=Y->∃x,(x=hi s\/x=gl s)/\(x=hi t\/x=gl t):=by
  intro n k r;have:nv (mkMap al []) n.1=n.2:=by unfold nv;rw[Jr [] (pq h.vL) k];rfl
  rw[this,ab]at r;exact⟨n.2,h.ap1 o k (m n k) r.1,h.ap1 o' k (w n k) r.2⟩
 have f:s.1.2.1=a.2.1/\s.1.2.2.1=a.2.2.1:=by rw[o.eq];exact⟨rfl,rfl⟩
 let ⟨⟨C,m1,fa⟩,D,m2,gb⟩:=h.DQ o.nM;rw[f.1,f.2,<-fa,<-gb,bx]at hc;rcases hc with hc|hc
 exact key C m1 (ab _ _▸hc).2;exact key D m2 (ab _ _▸hc).2;rw[fc d]at hc;simp only[bu,kA]at hc;exact bw hc
theorem bL1{r:cu fy}(k:zb al ag ag=Z r){s t:fy}(hs:s∈r)(v:t∈r)(l:s≠t):Sep (hi s) (gl s) (hi t) (gl t):=by
 have hp:=h.FT;unfold u_ at hp;rw[k]at hp;have m:=Da (vA r);have c:=tG (vA r);have f:(oy p2 r).Pairwise (qu ·<=qu ·):=m.imp λ{a b} x=>by unfold p2 at x;rw[uk]at x;omega
 let ⟨g1,g2⟩:=FN f hp;have g3:(oy p2 r).Pairwise (λs t=>s≠t->Sep (hi s) (gl s) (hi t) (gl t)):=by
  refine g1.imp_of_mem λ{x y} n u d g=>?_;let ⟨a,p,i,o⟩:=h.q_ k (c.mem_iff.1 n);let ⟨b,q,j,o'⟩:=h.q_ k (c.mem_iff.1 u);rcases d with hc|hf
  exact bw (h.bf1 o o' g (g2 x n) (g2 y u) hc);exact bm (bm (bw hf))
 exact Gw (R:=λs t=>s≠t->Sep (hi s) (gl s) (hi t) (gl t)) (λx y d g=>(d λe=>g e.symm).swap) (λx g=>(g rfl).elim) g3 (c.mem_iff.2 hs) (c.mem_iff.2 v) l
end fp
def M7{al:gp}{ag:hI}:∀ {l:hI} {r:cu fy},(l.map (·.1)).Pairwise (·<·)->zb al ag l=Z r->r.Nodup
 | [],r,_,h=>by grind[zb]
 |a::l,r,hp,h=>by
  rw[aD,aU]at hp;unfold zb at h;split at h;cases h;rename_i p f;cases hc:((No (a.2.1=a.2.2.1)&&No (aa p<4))||!(qt p))with
  |true=>rw[hc]at h;cases h
  |false=>
   rw[hc]at h;split at h;rename_i o c;cases h;have g:=M7 hp.2 c;refine dP.2 ⟨?_,g,?_⟩;refine cE.2 (List.nodup_range.imp ?_)
   grind
   intro x k y m d;subst d;let ⟨i,_,e⟩:=xw k;let ⟨b,s,q,_,hm⟩:=Bt c x m;let ⟨j,_,n⟩:=xw hm;have t:a.1=b.1:=by have:=Ar (λz:fy=>z.1.1) (e.symm.trans n);exact this
   grind[aX]
   cases h
def Q9(a b:bs):fr a b a=0:=by unfold fr;simp
def aB5(a b:bs):fr a b b=0:=by unfold fr;rw[cT (b.2-a.2)];omega
def av4{a b x:bs}(ha:d' a=Y)(c:d' b=Y)(d:x=a\/x=b):l7 a b x=0:=by
 rw[Oe];rcases d with rfl|rfl
 rw[Ft ha c ha];exact Q9 _ _;rw[Ft ha c c];exact aB5 _ _
def cd7{a b c:bs}(h1:hU b a=U)(h2:hU c b=U):hU c a=U:=by unfold hU at *;simp only[dM,fG,sG]at *;omega
def I4(a:bs):hU a a=U:=by unfold hU;simp
def X1{a b:bs}(h:hU a b=Y):hU b a=U:=by unfold hU at *;simp only[dM,fG,sG,bx,ab,kA]at *;omega
def bY3{a b:bs}(h:hU b a=U):u9 a b=Y\/hU a b=Y:=by rw[pt,lW];unfold hU at *;simp only[dM,fG,sG,bx,ab,kA]at *;omega
def aQ9{a b c d x:bs}(ha:d' a=Y)(m:d' b=Y)(hc:d' c=Y)(hd:d' d=Y)(k:a≠b)(l:c≠d)(h1:x=a\/x=b)(h2:x=c\/x=d):oK a b c d≠0:=by
 unfold oK;have o:u9 a b=U:=by rw[<-eT,pt];exact k
 have p:u9 c d=U:=by rw[<-eT,pt];exact l
 have s1:=av4 ha m h1;have s2:=av4 hc hd h2;have q5:l7 a b c*l7 a b d=0:=by
  rcases h2 with rfl|rfl
  rw[s1,eM];rw[s1,dV]
 have nj:l7 c d a*l7 c d b=0:=by
  rcases h1 with rfl|rfl
  rw[s2,eM];rw[s2,dV]
 simp only[ha,m,hc,hd,bG,vE,o,p,aF,l4,q5,nj];split;have st:∀ {u v:bs},(x=u\/x=v)->hU x (ite (hU v u=Y) v u)=U/\hU (ite (hU v u=Y) u v) x=U:=by
  intro u v n;by_cases hv:hU v u=Y;rw[cr hv,cr hv];rcases n with rfl|rfl
  exact⟨X1 hv,I4 _⟩;exact⟨I4 _,X1 hv⟩;have e:=gM.2 hv;rw[cc hv,cc hv];rcases n with rfl|rfl
  exact⟨I4 _,e⟩;exact⟨e,I4 _⟩
 have fa:=st h1;have gb:=st h2;unfold p8;simp only;generalize(ite (hU b a=Y) b a)=f at *;generalize(ite (hU b a=Y) a b)=g at *;generalize(ite (hU d c=Y) d c)=i at *;generalize(ite (hU d c=Y) c d)=j at *;have f1:hU x (ite (hU f i=Y) i f)=U:=by split;exact gb.1;exact fa.1
 have f2:hU (ite (hU j g=Y) j g) x=U:=by split;exact gb.2;exact fa.2
 rcases bY3 (cd7 f1 f2)with h|h
 rw[cr h];omega;by_cases h':u9 (ite (hU f i=Y) i f) (ite (hU j g=Y) j g)=Y;rw[cr h'];omega;rw[cc h',cr h];omega;simp
namespace q6
variable {ι:Type} (F:q6 ι) (dC:F.Ok)
include dC
theorem Vj{e f:ι}(he:e∈F.E)(hf:f∈F.E)(h1:F.b7 e=F.b7 f)(h2:F.a7 e=F.a7 f):e=f:=by
 have a:=F.w8 dC;have o:=y_ dC he;by_cases hu:(F.b7 e).2<(F.a7 e).2;have c1:(F.hY dC).eS e (F.b7 e).2:=⟨cq _,hu⟩;have c2:(F.hY dC).eS f (F.b7 e).2:=⟨by show(F.b7 f).2<=_;rw[h1];exact cq _,by show _<(F.a7 f).2;rw[<-h2];exact hu⟩;have b:∀y,(F.hY dC).X e y=(F.hY dC).X f y:=λy=>by unfold Net.X;show(F.hY dC).M*(F.b7 e).1+F.prod F.E*((F.a7 e).1-(F.b7 e).1) / F.xZ e*(y-(F.b7 e).2)=(F.hY dC).M*(F.b7 f).1+F.prod F.E*((F.a7 f).1-(F.b7 f).1) / F.xZ f*(y-(F.b7 f).2);unfold xZ;rw[h1,h2]
 exact a.apart e he f hf _ c1 c2 (b _) (b _);have o':=y_ dC hf;refine a.sv e he f hf hu ?_ ?_ ?_ ?_;show ¬(F.b7 f).2<(F.a7 f).2;rw[<-h1,<-h2];exact hu;show(F.b7 e).2=(F.b7 f).2;rw[h1];show(F.b7 e).1<(F.a7 f).1;rw[<-h2];omega;show(F.b7 f).1<(F.a7 e).1;rw[<-h1];omega
theorem X2{e f:ι}(he:e∈F.E)(hf:f∈F.E)(j:e≠f){x y:bs}(l:x=F.src e\/x=F.dst e)(m:x=F.src f\/x=F.dst f)(n:y=F.src e\/y=F.dst e)(p:y=F.src f\/y=F.dst f):x=y:=by
 rcases ji (x=y)with h|k
 exact h;have o:=y_ dC he;have o':=y_ dC hf;have c:∀ {g:ι} {z:bs},(z=F.src g\/z=F.dst g)->z=F.b7 g\/z=F.a7 g:=by intro g z hz;unfold b7 a7;cases F.fwd g;exact hz.symm;exact hz
 have nl:¬(F.b7 e=F.a7 f/\F.a7 e=F.b7 f):=λ⟨a,b⟩=>by rw[a,b]at o;omega
 exfalso;apply j;rcases c l with a|a<;>rcases c n with b|b<;>rcases c m with d|d<;>rcases c p with i|i
 all_goals first
  |exact b8 (a.trans b.symm) k
  |exact b8 (d.trans i.symm) k
  |exact F.Vj dC he hf (a.symm.trans d) (b.symm.trans i)
  |exact F.Vj dC he hf (b.symm.trans i) (a.symm.trans d)
  |exact(nl ⟨a.symm.trans d,b.symm.trans i⟩).elim
  |exact(nl ⟨b.symm.trans i,a.symm.trans d⟩).elim
end q6
def m8(r:cu fy):q6 fy:=⟨r,hi,gl⟩
def fp.j8{al:gp}{ag:hI}{fs:eD}(h:fp al ag fs){r:cu fy}(b:zb al ag ag=Z r):(m8 r).Ok where
 nodup:=M7 (pq h.rX) b
 ne:=λe he=>by let ⟨a,p,i,o⟩:=h.q_ b he;exact h.sD o
 Ao:=λe he=>by let ⟨a,p,i,o⟩:=h.q_ b he;exact h.vp o
 meet:=λe he f hf c=>h.bL1 b he hf c
def aV3{a b c d x:bs}(h1:x=a\/x=b)(h2:x=c\/x=d)(hf:uV a b c d):False:=by grind[uV]
def Gz(n:b9)(s:fy)(a:ct)(p:eY)(i:Nat):Prop:=(i=0/\a.2.1=n.1/\hi s=n.2)\/(i+2=aa p/\a.2.2.1=n.1/\gl s=n.2)
def Gz.Vi{n:b9}{s:fy}{a:ct}{p:eY}{i:Nat}(h:Gz n s a p i):n.2=hi s\/n.2=gl s:=by
 rcases h with⟨_,_,h⟩|⟨_,_,h⟩
 exact bw h.symm;exact bm h.symm
structure Ef(al:List b9)(s t:fy)(a b:ct)(p q:List bs)(i j:Nat)(x:bs):Prop where
 or:(a=b/\i+1=j/\x=gl s/\x=hi t)\/(a=b/\j+1=i/\x=hi s/\x=gl t)\/∃n∈al,x=n.2/\Gz n s a p i/\Gz n t b q j
def Ef.symm{al:gp}{s t:fy}{a b:ct}{p q:eY}{i j:Nat}{x:bs}(h:Ef al s t a b p q i j x):Ef al t s b a q p j i x:=by
 rcases h.or with⟨h1,h2,c,d⟩|⟨h1,h2,c,d⟩|⟨n,h1,h2,c,d⟩
 exact⟨bm (bw ⟨h1.symm,h2,d,c⟩)⟩;exact⟨bw ⟨h1.symm,h2,d,c⟩⟩;exact⟨bm (bm ⟨n,h1,h2,d,c⟩)⟩
namespace fp
variable {al:gp} {ag:hI} {fs:eD} (h:fp al ag fs)
include h
theorem E9{s:fy}{a:ct}{p:eY}{i:Nat}(o:nJ al ag s a p i){n:b9}(c:n∈al)(hf:p6 s n=Y)(ho:n' (hi s) (gl s) n.2=Y):Gz n s a p i:=by
 unfold p6 at hf;rw[ho,o.first,o.last]at hf;simp only[ar,cR,bx,ab,kA]at hf;rcases hf with⟨x,y⟩|⟨x,y⟩
 have b:a.2.1=n.1:=by rw[o.eq]at y;exact y
 exact bw ⟨x,b,h.Cn o x c b⟩;have b:a.2.2.1=n.1:=by rw[o.eq]at y;exact y
 exact bm ⟨x,b,h.D6 o x c b⟩
theorem U'{s t:fy}{a b:ct}{p q:eY}{i j:Nat}(o:nJ al ag s a p i)(o':nJ al ag t b q j)(m:s≠t)(r:∀n∈al,p6 s n=Y)(D:∀n∈al,p6 t n=Y)(hc:qx s t (mkMap al [])=Y)
  (one:∀ {x y:bs},(x=hi s\/x=gl s)->(x=hi t\/x=gl t)->(y=hi s\/y=gl s)->(y=hi t\/y=gl t)->x=y) {x:bs} (f:x=hi s\/x=gl s) (g:x=hi t\/x=gl t):Ef al s t a b p q i j x:=by
 have hm:=aQ9 (h.vp o).1 (h.vp o).2 (h.vp o').1 (h.vp o').2 (h.sD o) (h.sD o') f g;unfold qx at hc;simp only at hc;by_cases e:s.1.1=t.1.1;rw[hT e]at hc;simp only[b6]at hc;obtain⟨rfl,rfl⟩:=h.PT o o' e;have E:s.2=(i:Int):=by rw[o.eq]
 have G:t.2=(j:Int):=by rw[o'.eq]
 have u:s.1.2.1=a.2.1/\s.1.2.2.1=a.2.2.1:=by rw[o.eq];exact⟨rfl,rfl⟩
 have B:t.1.2.1=a.2.1/\t.1.2.2.1=a.2.2.1:=by rw[o'.eq];exact⟨rfl,rfl⟩
 rw[E,G,u.1,u.2,B.1,B.2,o.first,o.last,o'.first,o'.last]at hc;have H:i≠j:=λh=>m (by rw[o.eq,o'.eq,h]);let ⟨⟨v,m1,fa⟩,_⟩:=h.DQ o.nM;by_cases l:(j:Int)<(i:Int);rw[hT l]at hc;simp only[b6]at hc;by_cases d:(No ((j:Int)+1=(i:Int))||(No (a.2.1=a.2.2.1)&&(No (j=0)&&No (i+2=aa p))))=Y;simp only[bx,ab,kA]at d;rcases d with d|⟨l2,x8,pG⟩
 have:j+1=i:=by omega
 subst this;have c:hi s=gl t:=aJ (o.rO.symm.trans o'.se);have:=one f g (bw rfl) (bm c);exact⟨bm (bw ⟨rfl,rfl,this,this.trans c⟩)⟩;have f1:=h.Cn o' x8 m1 fa.symm;have f2:=h.D6 o pG m1 (l2.symm.trans fa.symm);have:=one f g (bm rfl) (bw (f2.trans f1.symm));exact⟨bm (bm ⟨v,m1,this.trans f2,bm ⟨pG,l2.symm.trans fa.symm,f2⟩,bw ⟨x8,fa.symm,f1⟩⟩)⟩
 grind
 rw[fc l]at hc;simp only[bu]at hc;by_cases d:(No ((i:Int)+1=(j:Int))||(No (a.2.1=a.2.2.1)&&(No (i=0)&&No (j+2=aa p))))=Y;simp only[bx,ab,kA]at d;rcases d with d|⟨l2,x8,pG⟩
 have:i+1=j:=by omega
 subst this;have c:gl s=hi t:=aJ (o.se.symm.trans o'.rO);have:=one f g (bm rfl) (bw c);exact⟨bw ⟨rfl,rfl,this,this.trans c⟩⟩;have f1:=h.Cn o x8 m1 fa.symm;have f2:=h.D6 o' pG m1 (l2.symm.trans fa.symm);have:=one f g (bw rfl) (bm (f1.trans f2.symm));exact⟨bm (bm ⟨v,m1,this.trans f1,bw ⟨x8,fa.symm,f1⟩,bm ⟨pG,l2.symm.trans fa.symm,f2⟩⟩)⟩
 grind
 rw[fc e]at hc;simp only[bu]at hc;by_cases w:oK (hi s) (gl s) (hi t) (gl t)=1;rw[hT w]at hc;simp only[b6]at hc;have key:∀n∈al,(n' (hi s) (gl s) (nv (mkMap al []) n.1)&&n' (hi t) (gl t) (nv (mkMap al []) n.1))=Y->Ef al s t a b p q i j x:=by
  intro n k z;have:nv (mkMap al []) n.1=n.2:=by unfold nv;rw[Jr [] (pq h.vL) k];rfl
  rw[this,ab]at z;have c:=h.E9 o k (r n k) z.1;have C:=h.E9 o' k (D n k) z.2;exact⟨bm (bm ⟨n,k,one f g c.Vi C.Vi,c,C⟩)⟩
 have u:s.1.2.1=a.2.1/\s.1.2.2.1=a.2.2.1:=by rw[o.eq];exact⟨rfl,rfl⟩
 let ⟨⟨v,m1,fa⟩,I,m2,gb⟩:=h.DQ o.nM
 grind
 grind[decide_eq_false]
theorem share{r:cu fy}(n:zb al ag ag=Z r){s t:fy}(hs:s∈r)(u:t∈r)(d:s≠t){a b:ct}{p q:eY}{i j:Nat}(o:nJ al ag s a p i)(o':nJ al ag t b q j){x:bs}(v:x=hi s\/x=gl s)(w:x=hi t\/x=gl t):Ef al s t a b p q i j x:=by
 have hp:=h.FT;unfold u_ at hp;rw[n]at hp;simp only at hp;have z:=Da (vA r);have k:=tG (vA r);have l:(oy p2 r).Pairwise (qu ·<=qu ·):=z.imp λ{a b} x=>by unfold p2 at x;rw[uk]at x;omega
 let ⟨g1,g2⟩:=FN l hp;have e:=k.mem_iff.2 hs;have f:=k.mem_iff.2 u;have g3:(oy p2 r).Pairwise (λs t=>s=t\/qx s t (mkMap al [])=Y\/qx t s (mkMap al [])=Y\/uV (hi s) (gl s) (hi t) (gl t)):=g1.imp λ{x y} c=>by
  rcases c with hc|hf
  exact bm (bw hc);exact bm (bm (bm (bw hf)))
 have g4:=Gw (R:=λs t=>s=t\/qx s t (mkMap al [])=Y\/qx t s (mkMap al [])=Y\/uV (hi s) (gl s) (hi t) (gl t)) (λx y c=>by
  rcases c with c|c|c|c
  exact bw c.symm
  grind
  exact bm (bw c);exact bm (bm (bm c.symm))) (λx=>bw rfl) g3 e f
 have one:=λ{x y:bs}=>(m8 r).X2 (h.j8 n) hs u d (x:=x) (y:=y);have m:=λ{x y:bs}=>(m8 r).X2 (h.j8 n) u hs (d ·.symm) (x:=x) (y:=y);rcases g4 with g|g|g|g
 exact(d g).elim;exact h.U' o o' d (g2 s e) (g2 t f) g one v w;exact(h.U' o' o (d ·.symm) (g2 t f) (g2 s e) g m w v).symm;exact(aV3 v w g).elim
end fp
def Wu{M s t:Int}{v a b:bs}(h1:s*(a.2-v.2)=M*(a.1-v.1))(h2:t*(b.2-v.2)=M*(b.1-v.1)):M*fr v a b=(s-t)*((a.2-v.2)*(b.2-v.2)):=by
 unfold fr;generalize a.2-v.2=A at *;generalize b.2-v.2=B at *;generalize a.1-v.1=x at *;generalize b.1-v.1=y at *;have c:M*(x*B)=s*(A*B):=by rw[<-dm,<-h1,dm]
 have d:M*(A*y)=t*(A*B):=by rw[<-dm,cT M A,dm,<-h2,<-dm,cT A t,dm]
 rw[cZ,c,d,<-kJ]
def az9{M c d P:Int}(a:0<M)(b:0<P)(h:M*c=d*P):0<c↔0<d:=by constructor;intro hc;have:=bR a hc;rw[h,cT]at this;exact bV this b;intro hd;have:=bR hd b;rw[<-h]at this;exact bV this a
section
variable {ι:Type} (N:Net ι)
def Ee{g:Net.pJ ι}(f:g.1∈N.E){v w:bs}(hv:N.src g=v)(hw:N.dst g=w) :
  (N.cls g=0/\v.2=w.2/\v.1<w.1)\/(N.cls g=1/\v.2<w.2/\N.s g.1*(w.2-v.2)=N.M*(w.1-v.1)/\N.X g.1 (v.2+1)=N.M*v.1+N.s g.1) \/
  (N.cls g=2/\v.2=w.2/\w.1<v.1)\/(N.cls g=3/\w.2<v.2/\N.s g.1*(w.2-v.2)=N.M*(w.1-v.1)/\N.X g.1 (v.2-1)=N.M*v.1-N.s g.1):=by
 let ⟨e,b⟩:=g;have o:=N.ord e f;by_cases hu:N.up e;have hs:=N.AB e f hu;have h:=N.yo f hu;cases b;right;right;right;have c:N.a7 e=v:=hv;have d:N.b7 e=w:=hw;have a:(N.b7 e).2<(N.a7 e).2:=hu;rw[c,d]at hs a;rw[c]at h;refine⟨by simp[Net.cls,hu],a,?_,?_⟩;have i:N.s e*(w.2-v.2)=- (N.s e*(v.2-w.2)):=by rw[<-cn];congr 1;omega
 have a2:N.M*(w.1-v.1)=- (N.M*(v.1-w.1)):=by rw[<-cn];congr 1;omega
 show N.s e*(w.2-v.2)=_;omega;show N.X e (v.2-1)=_;rw[<-h];show N.M*(N.b7 e).1+N.s e*(v.2-1-(N.b7 e).2)=N.M*(N.b7 e).1+N.s e*(v.2-(N.b7 e).2)-N.s e;have:N.s e*(v.2-1-(N.b7 e).2)=N.s e*(v.2-(N.b7 e).2)-N.s e:=by
  have:v.2-1-(N.b7 e).2=(v.2-(N.b7 e).2)-1:=by omega
  rw[this,cZ,fE]
 omega;right;left;have c:N.b7 e=v:=hv;have d:N.a7 e=w:=hw;have a:(N.b7 e).2<(N.a7 e).2:=hu;rw[c,d]at hs a;refine⟨by simp[Net.cls,hu],a,hs,?_⟩;show N.X e (v.2+1)=_;unfold Net.X;rw[c,show v.2+1-v.2=1 by omega,fE];have a:¬(N.b7 e).2<(N.a7 e).2:=hu;cases b;right;right;left;have c:N.a7 e=v:=hv;have d:N.b7 e=w:=hw;rw[c,d]at o a;exact⟨by simp[Net.cls,hu],by omega,by omega⟩;left;have c:N.b7 e=v:=hv;have d:N.a7 e=w:=hw;rw[c,d]at o a;exact⟨by simp[Net.cls,hu],by omega,by omega⟩
def at2{g h:Net.pJ ι}(m:g.1∈N.E)(n:h.1∈N.E){v a b:bs}(g1:N.src g=v)(g2:N.dst g=a)(h1:N.src h=v)(h2:N.dst h=b)(p:d' v=Y)(q:d' a=Y)(rI:d' b=Y) :
  oo v a b=Y↔N.nh v.2 g h:=by
 have i:u9 a v=U:=by rw[<-eT,pt];rintro rfl;rcases Ee N m g1 g2 with x|x|x|x<;>omega
 have j:u9 b v=U:=by rw[<-eT,pt];rintro rfl;rcases Ee N n h1 h2 with x|x|x|x<;>omega
 have key:oo v a b=if oQ v a=oQ v b then No (0<fr v a b)else oQ v b:=by unfold oo;simp[p,q,rI,i,j]
 rw[key];unfold Net.nh;have o:=N.p7;rcases Ee N m g1 g2 with⟨c1,k,e⟩|⟨c1,k,e,nq⟩|⟨c1,k,e⟩|⟨c1,k,e,nq⟩<;>rcases Ee N n h1 h2 with⟨c2,l,f⟩|⟨c2,l,f,z2⟩|⟨c2,l,f⟩|⟨c2,l,f,z2⟩
 all_goals
  have c:oQ v a=No (a.2<v.2\/(a.2=v.2/\a.1<v.1)):=by unfold oQ;simp
  have d:oQ v b=No (b.2<v.2\/(b.2=v.2/\b.1<v.1)):=by unfold oQ;simp
 case inl.inl =>rw[fc (by omega)]at c d;rw[c,d,cr rfl,kA];unfold fr;rw[show a.2-v.2=0 by omega,show b.2-v.2=0 by omega,eM,dV];omega
 case inl.inr.inl =>rw[fc (by omega)]at c d;rw[c,d,cr rfl,kA];unfold fr;rw[show a.2-v.2=0 by omega,eM];have:=bR (show 0<a.1-v.1 by omega) (show 0<b.2-v.2 by omega);omega
 case inr.inl.inl =>rw[fc (by omega)]at c d;rw[c,d,cr rfl,kA];unfold fr;rw[show b.2-v.2=0 by omega,dV];have:=bR (show 0<a.2-v.2 by omega) (show 0<b.1-v.1 by omega);omega
 case inr.inl.inr.inl =>rw[fc (by omega)]at c d;rw[c,d,cr rfl,kA,az9 o (bR (show 0<a.2-v.2 by omega) (show 0<b.2-v.2 by omega)) (Wu e f)];omega
 case inr.inr.inl.inr.inr.inl =>rw[hT (by omega)]at c d;rw[c,d,cr rfl,kA];unfold fr;rw[show a.2-v.2=0 by omega,show b.2-v.2=0 by omega,eM,dV];omega
 case inr.inr.inl.inr.inr.inr =>rw[hT (by omega)]at c d;rw[c,d,cr rfl,kA];unfold fr;rw[show a.2-v.2=0 by omega,eM];have:=cN (show a.1-v.1<0 by omega) (show b.2-v.2<0 by omega);omega
 case inr.inr.inr.inr.inr.inl =>rw[hT (by omega)]at c d;rw[c,d,cr rfl,kA];unfold fr;rw[show b.2-v.2=0 by omega,dV];have:=cN (show a.2-v.2<0 by omega) (show b.1-v.1<0 by omega);omega
 case inr.inr.inr.inr.inr.inr =>rw[hT (by omega)]at c d;rw[c,d,cr rfl,kA,az9 o (cN (show a.2-v.2<0 by omega) (show b.2-v.2<0 by omega)) (Wu e f)];omega
 all_goals first
  | (rw[fc (by omega)]at c;rw[hT (by omega)]at d;rw[c,d];simp only[aF,l4,true_iff];(first|rw[cc (by simp)]|skip);omega)
  | (rw[hT (by omega)]at c;rw[fc (by omega)]at d;rw[c,d,cc (by simp)];simp only[aF,false_iff];omega)
end
namespace Mj
variable {ι:Type} {N:Net ι} (hP:N.wx)
include hP
theorem U8{g h:Net.pJ ι}(k:g.1∈N.E)(l:h.1∈N.E){v:bs}(g1:N.src g=v)(h1:N.src h=v)(r:g≠h):N.nh v.2 g h\/N.nh v.2 h g:=by
 rcases Nat.lt_trichotomy (N.cls g) (N.cls h)with c|c|c
 exact bw (bw c);have f:g.1=h.1->False:=by intro e;let ⟨a,s⟩:=g;let ⟨d,t⟩:=h;simp only at e;subst e;unfold Net.cls at c;by_cases hu:N.up a<;>cases s<;>cases t<;>simp[hu]at c<;>exact r rfl
 have key:∀b:Bool,g.2=b->h.2=b->N.up g.1->N.up h.1->(b=Y->N.X g.1 (v.2+1)≠N.X h.1 (v.2+1))/\(b=U->N.X g.1 (v.2-1)≠N.X h.1 (v.2-1)):=by
  intro b w z B C;have o:(N.b7 g.1).2<(N.a7 g.1).2:=B;have p:(N.b7 h.1).2<(N.a7 h.1).2:=C;constructor;intro e u;subst e;have s1:N.b7 g.1=v:=by unfold Net.src at g1;rw[w]at g1;exact g1
  have s2:N.b7 h.1=v:=by unfold Net.src at h1;rw[z]at h1;exact h1
  refine f (hP.apart g.1 k h.1 l v.2 ⟨by rw[s1];exact cq _,by rw[<-s1];exact o⟩ ⟨by rw[s2];exact cq _,by rw[<-s2];exact p⟩ ?_ u);have q:=N.vG g.1;have a2:=N.vG h.1;rw[s1]at q;rw[s2]at a2;rw[q,a2];intro e u;subst e;have s1:N.a7 g.1=v:=by unfold Net.src at g1;rw[w]at g1;exact g1
  have s2:N.a7 h.1=v:=by unfold Net.src at h1;rw[z]at h1;exact h1
  rw[s1]at o;rw[s2]at p;refine f (hP.apart g.1 k h.1 l (v.2-1) ⟨by omega,by rw[s1];omega⟩ ⟨by omega,by rw[s2];omega⟩ u ?_);have q:=N.yo k B;have a2:=N.yo l C;rw[s1]at q;rw[s2]at a2;rw[show v.2-1+1=v.2 by omega,q,a2]
 let ⟨a,s⟩:=g;let ⟨d,t⟩:=h;by_cases i:N.up a<;>by_cases j:N.up d<;>cases s<;>cases t<;>simp[Net.cls,i,j]at c;have:=(key U rfl rfl i j).2 rfl;have c1:N.cls (a,U)=3:=by simp[Net.cls,i]
 have c2:N.cls (d,U)=3:=by simp[Net.cls,j]
 rcases kR this with x|x
 exact bw (bm (bm ⟨c1,c2,x⟩));exact bm (bm (bm ⟨c2,c1,x⟩));have:=(key Y rfl rfl i j).1 rfl;have c1:N.cls (a,Y)=1:=by simp[Net.cls,i]
 have c2:N.cls (d,Y)=1:=by simp[Net.cls,j]
 rcases kR this with x|x
 exact bm (bm (bw ⟨c2,c1,x⟩));exact bw (bm (bw ⟨c1,c2,x⟩));exfalso;have s1:N.a7 a=v:=g1;have s2:N.a7 d=v:=h1;have o1:=N.ord a k;have o2:=N.ord d l;have m:¬(N.b7 a).2<(N.a7 a).2:=i;have n:¬(N.b7 d).2<(N.a7 d).2:=j;rw[s1]at o1 m;rw[s2]at o2 n;exact f (hP.sv a k d l i j (by omega) (by rw[s2];omega) (by rw[s1];omega));exfalso;have s1:N.b7 a=v:=g1;have s2:N.b7 d=v:=h1;have o1:=N.ord a k;have o2:=N.ord d l;have m:¬(N.b7 a).2<(N.a7 a).2:=i;have n:¬(N.b7 d).2<(N.a7 d).2:=j;rw[s1]at o1 m;rw[s2]at o2 n;exact f (hP.sv a k d l i j (by rw[s1,s2]) (by rw[s1];omega) (by rw[s2];omega));exact bm (bw c)
end Mj
def nA(s:fy):Net.pJ fy:=(s,(m8 []).fwd s)
def nz(s:fy):Net.pJ fy:=(s,!(m8 []).fwd s)
section
variable {r:cu fy} (dC:(m8 r).Ok)
theorem Ad(s:fy):((m8 r).hY dC).src (nA s)=hi s:=by show(cond ((m8 []).fwd s) ((m8 r).b7 s) <| (m8 r).a7 s)=_;unfold q6.b7 q6.a7;show(cond ((m8 r).fwd s) _ _)=_;cases(m8 r).fwd s<;>rfl
def Gx(s:fy):((m8 r).hY dC).dst (nA s)=gl s:=by show(cond ((m8 []).fwd s) ((m8 r).a7 s) <| (m8 r).b7 s)=_;unfold q6.b7 q6.a7;show(cond ((m8 r).fwd s) _ _)=_;cases(m8 r).fwd s<;>rfl
theorem Al(s:fy):((m8 r).hY dC).src (nz s)=gl s:=by show(cond (!(m8 []).fwd s) ((m8 r).b7 s) <| (m8 r).a7 s)=_;unfold q6.b7 q6.a7;show(cond (!(m8 r).fwd s) _ _)=_;cases(m8 r).fwd s<;>rfl
def GG(s:fy):((m8 r).hY dC).dst (nz s)=hi s:=by show(cond (!(m8 []).fwd s) ((m8 r).a7 s) <| (m8 r).b7 s)=_;unfold q6.b7 q6.a7;show(cond (!(m8 r).fwd s) _ _)=_;cases(m8 r).fwd s<;>rfl
theorem xG(h:Net.pJ fy):h=nA h.1\/h=nz h.1:=by let ⟨s,b⟩:=h;unfold nA nz;cases b<;>cases(m8 []).fwd s<;>simp
theorem QR(s:fy):Net.rev (nA s)=nz s:=rfl
theorem Ll(s:fy):Net.rev (nz s)=nA s:=by unfold Net.rev nz nA;simp
end
def vM{a:ct}{l:eY}{i:Nat}(a7:i+1<aa l):(rT a l,(i:Int))∈pf a l:=by unfold pf;exact aN.2 ⟨i,gf.2 (by omega),rfl⟩
def u5{al:gp}{ag:hI}:∀ {l:hI} {r:cu fy},zb al ag l=Z r->∀a∈l,∀p,pathOf al ag a.1=Z p->∀s∈pf a p,s∈r
 | [],r,h,a,ha=>by simp at ha
 |b::l,r,h,a,ha=>by
  intro p hp s hs;unfold zb at h;split at h;cases h;rename_i q d;cases hc:((No (b.2.1=b.2.2.1)&&No (aa q<4))||!(qt q))with
  |true=>rw[hc]at h;cases h
  |false=>
   rw[hc]at h;simp only[bu]at h;split at h;rename_i e c;cases h;rcases aG.1 ha with rfl|ha
   rw[hp]at d;cases d;exact dz _ hs;exact ic _ (u5 c a ha p hp s hs);cases h
def va(al:gp)(ag:hI)(d:Int):Net.pJ fy:=match px ag (la d),pathOf al ag (la d)with
 |some a,Z p=>ite (0<d) (nA (rT a p,((0:Nat):Int))) <|nz (rT a p,((aa p-2:Nat):Int))
 |_,_=>default
theorem QU{a b x:bs}(ha:d' a=Y)(d:d' b=Y)(c:x=a\/x=b):n' a b x=Y:=by
 have hc:fr a b x=0:=by
  rcases c with rfl|rfl
  exact Q9 _ _;exact aB5 _ _
 have e:d' x=Y:=by rcases c with rfl|rfl<;>assumption
 unfold n' sU;simp only[ha,d,e,hc,bG,bQ,l6,ab,kA];rcases c with rfl|rfl<;>omega
theorem PI{s t:fy}(e:nA s=nA t):s=t:=Ar lP e
theorem PH{s t:fy}(e:nz s=nz t):s=t:=Ar lP e
theorem BL{s t:fy}:nA s≠nz t:=by intro e;have h1:s=t:=Ar lP e;subst h1;have h2:(m8 []).fwd s=!(m8 []).fwd s:=Ar Prod.snd e;cases h:(m8 []).fwd s<;>rw[h]at h2<;>cases h2
namespace fp
variable {al:gp} {ag:hI} {fs:eD} (h:fp al ag fs)
include h
theorem um{a:ct}(ha:a∈ag):0<a.1:=by have:=aj.1 h.Gk a.1 (aX ha);unfold qL at this;simp only[ab,kA]at this;omega
theorem BM{a:ct}(ha:a∈ag){q:eY}(b:pathOf al ag a.1=Z q):va al ag a.1=nA (rT a q,((0:Nat):Int)):=by
 have hp:=h.um ha;have e:la a.1=a.1:=by unfold la;omega
 unfold va;rw[e,h.zD ha,b];simp only[hp,vE]
theorem Dv{a:ct}(ha:a∈ag){q:eY}(b:pathOf al ag a.1=Z q):va al ag (-a.1)=nz (rT a q,((aa q-2:Nat):Int)):=by
 have hp:=h.um ha;have e:la (-a.1)=a.1:=by unfold la;omega
 unfold va;rw[e,h.zD ha,b];simp only;rw[cc (by omega)]
theorem Ce{a:ct}(ha:a∈ag){q:eY}(c:pathOf al ag a.1=Z q):2<=aa q:=by let ⟨f,t,_,_,b,_⟩:=h.path ha;rw[c]at b;cases b;simp
variable {r:cu fy} (hr:zb al ag ag=Z r)
include hr
theorem free{s:fy}(hs:s∈r):∀n∈al,p6 s n=Y:=by
 have hp:=h.FT;unfold u_ at hp;rw[hr]at hp;simp only at hp;have d:=Da (vA r);have c:(oy p2 r).Pairwise (qu ·<=qu ·):=d.imp λ{a b} x=>by unfold p2 at x;rw[uk]at x;omega
 exact(FN c hp).2 s ((tG (vA r)).mem_iff.2 hs)
theorem tO{n:b9}(c:n∈al){d:Int}(hd:d∈l1 al ag n):(va al ag d).1∈r/\((m8 r).hY (h.j8 hr)).src (va al ag d)=n.2 /\
  ((m8 r).hY (h.j8 hr)).dst (va al ag d)=nv (rv [] (np al ag n.1 ag)) d/\∃a∈ag,∃q,pathOf al ag a.1=Z q/\((d=a.1/\va al ag d=nA (rT a q,((0:Nat):Int)))\/(d=-a.1/\va al ag d=nz (rT a q,((aa q-2:Nat):Int)))):=by
 rw[(h.wG c).mem_iff]at hd;obtain⟨p,hp,rfl⟩:=aN.1 hd;have f:nv (rv [] (np al ag n.1 ag)) p.1=p.2:=by unfold nv;rw[E5 _ [] (h.Ci n.1 (λ_ ha=>ha) (pq h.rX)) p hp];rfl
 rw[f];let ⟨a,ha,q,b,hc⟩:=h.GF (λ_ ha=>ha) hp;have hl:=h.Ce ha b;rcases hc with⟨e,rfl⟩|⟨e,rfl⟩
 have hm:(rT a q,((0:Nat):Int))∈r:=u5 hr a ha q b _ (vM (by omega));have o:nJ al ag (rT a q,((0:Nat):Int)) a q 0:=⟨ha,b,by omega,rfl⟩;have g:=h.BM ha b;simp only[g];refine⟨hm,?_,?_,a,ha,q,b,bw ⟨rfl,rfl⟩⟩;rw[Ad];exact h.Cn o rfl c e;rw[Gx];rfl;have hm:(rT a q,((aa q-2:Nat):Int))∈r:=u5 hr a ha q b _ (vM (by omega));have o:nJ al ag (rT a q,((aa q-2:Nat):Int)) a q (aa q-2):=⟨ha,b,by omega,rfl⟩;have g:=h.Dv ha b;simp only[g];refine⟨hm,?_,?_,a,ha,q,b,bm ⟨rfl,rfl⟩⟩;rw[Al];exact h.D6 o (by omega) c e;rw[GG];rfl
theorem Mp{n:b9}(g:n∈al):Net.CF ((m8 r).hY (h.j8 hr)) n.2 ((l1 al ag n).map (va al ag)):=by
 have l:(l1 al ag n).Nodup:=(h.wG g).nodup_iff.2 (h.Ci n.1 (λ_ ha=>ha) (pq h.rX));have inj:∀d∈l1 al ag n,∀e∈l1 al ag n,va al ag d=va al ag e->d=e:=by
  intro d hd e he f;let ⟨_,_,_,a,ha,q,D,c⟩:=h.tO hr g hd;let ⟨_,_,_,b,E,G,z,B⟩:=h.tO hr g he;rcases c with⟨rfl,f1⟩|⟨rfl,f1⟩<;>rcases B with⟨rfl,f2⟩|⟨rfl,f2⟩<;>rw[f1,f2]at f
  have:=Ar (λs:fy=>s.1.1) (PI f);exact this;exact b8 f BL;exact b8 f.symm BL;have:a.1=b.1:=Ar (λs:fy=>s.1.1) (PH f);rw[this]
 constructor;intro hf;constructor;intro hm;obtain⟨d,hd,rfl⟩:=aN.1 hm;have:=h.tO hr g hd;exact⟨this.1,this.2.1⟩;rintro ⟨h1,h2⟩;have k:hf.1∈r:=h1;let ⟨a,p,i,o⟩:=h.q_ hr k;have j:=h.vp o;have mk:∀d,d∈(ph al ag n.1 a).map (·.1)->d∈l1 al ag n:=λd m=>by rw[(h.wG g).mem_iff];let ⟨x,C,e⟩:=aN.1 m;exact e▸aX (bW.2 ⟨a,o.nM,C⟩)
 rcases xG hf with e|e
 rw[e,Ad]at h2;rcases h.E9 o g (h.free hr k n g) (QU j.1 j.2 (bw h2.symm))with⟨i0,t,_⟩|⟨_,_,u⟩
 refine aN.2 ⟨a.1,mk _ ?_,?_⟩;unfold ph;rw[o.path];simp[t];rw[h.BM o.nM o.path,e,o.eq,i0];exact b8 (h2.trans u.symm) (h.sD o);rw[e,Al]at h2;rcases h.E9 o g (h.free hr k n g) (QU j.1 j.2 (bm h2.symm))with⟨_,_,u⟩|⟨i0,t,_⟩
 exact b8 (u.trans h2.symm) (h.sD o);refine aN.2 ⟨-a.1,mk _ ?_,?_⟩;unfold ph;rw[o.path];simp[t];rw[h.Dv o.nM o.path,e,o.eq,<-i0];rfl;exact cE.2 (l.imp_of_mem λ{d e} hd he v f=>v (inj d hd e he f));have hs:=Da (h.MB (h.vm g) g);refine cE.2 ((hs.and l).imp_of_mem λ{d e} hd he f=>?_);let ⟨m1,s1,t1,_⟩:=h.tO hr g hd;let ⟨m2,s2,t2,_⟩:=h.tO hr g he;rcases Mj.U8 ((m8 r).w8 (h.j8 hr)) m1 m2 s1 s2 (λx=>f.2 (inj d hd e he x))with b|b
 exact b;exfalso;refine f.1 ?_;have w:∀ {hf:Net.pJ fy},hf.1∈r->d' (((m8 r).hY (h.j8 hr)).dst hf)=Y:=λ{hf} hm=>by
  let ⟨a,p,i,o⟩:=h.q_ hr hm;have:=h.vp o;rcases xG hf with e|e
  rw[e,Gx];exact this.2;rw[e,GG];exact this.1
 have:=(at2 ((m8 r).hY (h.j8 hr)) m2 m1 s2 t2 s1 t1 (rS (h.tt g)) (t2▸w m2) (t1▸w m1)).2 b;unfold A0;rw[cr this];omega
end fp
section
variable {ι:Type} {N:Net ι} (hP:N.wx)
include hP
theorem ax6{v:bs}{g h:Net.pJ ι}(a:g≠h)(mem:∀k:Net.pJ ι,(k.1∈N.E/\N.src k=v)↔(k=g\/k=h)){d:ι->Int}(hd:N.rR d):N.L d h=N.L d (Net.rev g):=by
 have c:=(mem g).2 (bw rfl);have e:=(mem h).2 (bm rfl);rcases Mj.U8 hP c.1 e.1 c.2 e.2 a with b|b
 have ha:Net.CF N v [g,h]:=by refine⟨λk=>?_,?_,?_⟩;rw[mem];simp;simp[a];simp[b]
 exact Net.Mf hP hd ha (i:=0) (by simp);have ha:Net.CF N v [h,g]:=by refine⟨λk=>?_,?_,?_⟩;rw[mem];simp[or_comm];simp[Ne.symm a];simp[b]
 have:=Net.Mf hP hd ha (i:=1) (by simp);simpa using this
end
namespace fp
variable {al:gp} {ag:hI} {fs:eD} (h:fp al ag fs)
variable {r:cu fy} (hr:zb al ag ag=Z r)
include h hr
theorem be2{a:ct}{p:eY}{i:Nat}{s t:fy}(o:nJ al ag s a p i)(o':nJ al ag t a p (i+1))(k:Net.pJ fy) :
  (k.1∈r/\((m8 r).hY (h.j8 hr)).src k=gl s)↔(k=nz s\/k=nA t):=by
 have hs:s∈r:=by rw[o.eq];exact u5 hr a o.nM p o.path _ (vM o.at')
 have v:t∈r:=by rw[o'.eq];exact u5 hr a o'.nM p o'.path _ (vM o'.at')
 have qJ:gl s=hi t:=aJ (o.se.symm.trans o'.rO);constructor;rintro ⟨l,d⟩;by_cases f:k.1=s;rcases xG k with e|e
 rw[e,Ad,f]at d;exact b8 d (h.sD o);rw[f]at e;exact bw e;by_cases g:k.1=t;rcases xG k with e|e
 rw[g]at e;exact bm e;rw[e,Al,g,qJ]at d;exact b8 d.symm (h.sD o');exfalso;let ⟨b,q,j,u⟩:=h.q_ hr l;have w:gl s=hi k.1\/gl s=gl k.1:=by
  rcases xG k with e|e
  rw[e,Ad]at d;exact bw d.symm;rw[e,Al]at d;exact bm d.symm
 rcases(h.share hr hs l (f ·.symm) o u (bm rfl) w).or with⟨rfl,c,_⟩|⟨_,_,c,_⟩|⟨n,_,c,c1,_⟩
 have m:=u.path;rw[o.path]at m;cases m;exact g (by rw[u.eq,o'.eq,c]);exact h.sD o c.symm;rcases c1 with⟨_,_,c1⟩|⟨c1,_⟩
 exact h.sD o (c1.trans c.symm);have:=o'.at';omega;rintro (rfl|rfl);exact⟨hs,Al _ _⟩;exact⟨v,(Ad _ _).trans qJ.symm⟩
theorem Wo{a:ct}{p:eY}{i:Nat}{s t:fy}(o:nJ al ag s a p i)(o':nJ al ag t a p (i+1)){d:fy->Int}(hd:((m8 r).hY (h.j8 hr)).rR d) :
  ((m8 r).hY (h.j8 hr)).L d (nA t)=((m8 r).hY (h.j8 hr)).L d (nA s)/\((m8 r).hY (h.j8 hr)).L d (nz s)=((m8 r).hY (h.j8 hr)).L d (nz t):=by
 have c:=(m8 r).w8 (h.j8 hr);have m:=h.be2 hr o o';have b:nz s≠nA t:=λe=>BL e.symm;constructor;have:=ax6 c b m hd;rw[Ll]at this;exact this;have:=ax6 c b.symm (λk=>(m k).trans Or.comm) hd;rw[QR]at this;exact this
end fp
def Gt{l:eD}(a:l.Nodup){i:Nat}(a7:i<aa l):qn l l[i]=l[(i+aa l-1)%aa l]'(eZ _ (by omega)):=by
 have hm:l[i]∈l:=au a7;have e:l.idxOf l[i]=i:=by have h1:l.idxOf l[i]<aa l:=gq.2 hm;have h2:l[l.idxOf l[i]]=l[i]:=List.getElem_idxOf h1;exact(gY a).1 h2
 unfold qn;rw[cr hm,e,af (eZ _ (by omega))];rfl
def M'(l:eD):∀(x:eD) (m:eY) (d:Int),fh gd (-d) (x.foldl (λm d=>wC (λ(a b:Int)=>No (a=b)) (-d) (qn l d) m) m)=if d∈x then Z (qn l d)else fh gd (-d) m
 | [],m,d=>by simp
 |y::x,m,d=>by have c:=M' l x (wC gd (-y) (qn l y) m) d;show fh gd (-d) (x.foldl _ (wC gd (-y) (qn l y) m))=_;rw[c,rV];by_cases h1:d∈x;rw[cr h1,cr (bC _ h1)];rw[cc h1];by_cases h2:d=y;subst h2;rw[cr rfl,cr (aR ..)];rw[cc (by omega),cc (by simp[h1,h2])]
def Wk{d:Int}{l:eD}(hd:d∈l):∀(L:cu eD) (m:eY),l∈L->(∀k∈L,d∈k->k=l)->fh gd (-d) (uo L m)=Z (qn l d)
 | [],m,hl,_=>by simp at hl
 |k::L,m,hl,hu=>by
  show fh gd (-d) (uo L (BS k m))=_;by_cases g:l∈L;exact Wk hd L _ g (λa hk=>hu a (by simp[hk]));have hk:k=l:=by
   rcases aG.1 hl with e|e
   exact e.symm;exact(g e).elim
  subst hk;have no:∀a∈L,d∉a:=λa hk h=>g (by have:=hu a (by simp[hk]) h;exact this▸hk);have rest:∀(b:cu eD) (c:eY),(∀a∈b,d∉a)->fh gd (-d) (uo b c)=fh gd (-d) c:=by
   intro b
   induction b with
   |nil=>intro c _;rfl
   |cons a b j =>intro c f;show fh gd (-d) (uo b (BS a c))=_;rw[j _ (λi hk=>f i (by simp[hk]))];unfold BS;rw[M',cc (f a (by simp))]
  rw[rest L _ no];unfold BS;rw[M',cr hd]
def xe(k:Net.pJ fy):Bool:=k.2==(m8 []).fwd k.1
theorem xJ(s:fy):xe (nA s)=Y:=by unfold xe nA;simp
theorem wN(s:fy):xe (nz s)=U:=by unfold xe nz;cases(m8 []).fwd s<;>rfl
def qw(k:Net.pJ fy):Int:=ite (xe k=Y) k.1.1.1 <|-k.1.1.1
def pa(al:gp)(ag:hI)(k:Net.pJ fy):Net.pJ fy :=ite (xe k=Y) (ite (k.1.2.toNat+2<aa k.1.1.path) (nA (k.1.1,((k.1.2.toNat+1:Nat):Int))) <|va al ag (fp.ki al ag k.1.1.1)) (ite (0<k.1.2.toNat) (nz (k.1.1,((k.1.2.toNat-1:Nat):Int))) <|va al ag (fp.ki al ag (- k.1.1.1)))
namespace fp
variable {al:gp} {ag:hI} {fs:eD} (h:fp al ag fs)
include h
theorem zF{n:b9}(d:n∈al){e:Int}:e∈l1 al ag n↔∃a∈ag,(a.2.1=n.1/\e=a.1)\/(a.2.2.1=n.1/\e=-a.1):=by
 rw[(h.wG d).mem_iff];constructor;intro he;obtain⟨p,hp,rfl⟩:=aN.1 he;let ⟨a,ha,q,j,hc⟩:=h.GF (λ_ ha=>ha) hp;rcases hc with⟨e,rfl⟩|⟨e,rfl⟩
 exact⟨a,ha,bw ⟨e,rfl⟩⟩;exact⟨a,ha,bm ⟨e,rfl⟩⟩;rintro ⟨a,ha,hc⟩;let ⟨f,t,h1,h2,g,_⟩:=h.path ha;have mk:e∈(ph al ag n.1 a).map (·.1)->e∈(np al ag n.1 ag).map (·.1):=λb=>by let ⟨x,i,e⟩:=aN.1 b;exact e▸aX (bW.2 ⟨a,ha,i⟩)
 apply mk;unfold ph;rw[g];rcases hc with⟨c,rfl⟩|⟨c,rfl⟩<;>simp[c]
theorem Bg{a b:ct}(ha:a∈ag)(c:b∈ag)(e:a.1=b.1):a=b:=by have h1:=h.zD ha;rw[e,h.zD c]at h1;exact(aJ h1).symm
theorem Xb{a b:b9}(ha:a∈al)(c:b∈al)(e:a.1=b.1):a=b:=by have h1:=h.vm ha;rw[e,h.vm c]at h1;exact(aJ h1).symm
theorem Mq{n m:b9}(f:n∈al)(hm:m∈al){e:Int}(h1:e∈l1 al ag n)(h2:e∈l1 al ag m):n=m:=by
 let ⟨a,ha,c⟩:=(h.zF f).1 h1;let ⟨b,g,d⟩:=(h.zF hm).1 h2;have q5:=h.um ha;have nj:=h.um g;rcases c with⟨c,rfl⟩|⟨c,rfl⟩<;>rcases d with⟨d,e⟩|⟨d,e⟩
 have:=h.Bg ha g e;subst this;exact h.Xb f hm (c.symm.trans d);omega;omega;have:=h.Bg ha g (by omega);subst this;exact h.Xb f hm (c.symm.trans d)
theorem Ap{n:b9}(b:n∈al){e:Int}(he:e∈l1 al ag n):ki al ag (-e)=qn (l1 al ag n) e:=by
 unfold ki KN;rw[Wk he (wF al ag) [] (aX b) (λk hk a=>by
  obtain⟨m,hm,rfl⟩:=aN.1 hk;rw[h.Mq b hm he a])]
 rfl
theorem E7{n:b9}(a:n∈al):(l1 al ag n).Nodup:=(h.wG a).nodup_iff.2 (h.Ci n.1 (λ_ ha=>ha) (pq h.rX))
variable {r:cu fy} (hr:zb al ag ag=Z r)
include hr
theorem Wp{n:b9}(a:n∈al){e:Int}(he:e∈l1 al ag n){d:fy->Int}(hd:((m8 r).hY (h.j8 hr)).rR d) :
  ((m8 r).hY (h.j8 hr)).L d (va al ag (ki al ag (-e)))=((m8 r).hY (h.j8 hr)).L d (Net.rev (va al ag e)):=by
 obtain⟨i,a7,rfl⟩:=bk he;have ha:=h.Mp hr a;have b:=Net.Mf ((m8 r).w8 (h.j8 hr)) hd ha (i:=i) (by simpa using a7);simp only[List.getElem_map,aI]at b;rw[h.Ap a he,Gt (h.E7 a) a7];exact b
theorem Gh{k:Net.pJ fy}(hk:k.1∈r):(pa al ag k).1∈r/\((m8 r).hY (h.j8 hr)).src (pa al ag k)=((m8 r).hY (h.j8 hr)).dst k /\
  (∀d,((m8 r).hY (h.j8 hr)).rR d->((m8 r).hY (h.j8 hr)).L d (pa al ag k)=((m8 r).hY (h.j8 hr)).L d k) /\
  ((qw (pa al ag k)=qw k)\/(pa al ag k=va al ag (ki al ag (qw k)))):=by
 let ⟨a,p,i,o⟩:=h.q_ hr hk;have u:=o.at';have q:k.1.2.toNat=i:=by rw[o.eq];simp
 have m:k.1.1=rT a p:=by rw[o.eq]
 have v:k.1.1.path=p:=by rw[m];rfl
 have j:k.1.1.1=a.1:=by rw[m];rfl
 let ⟨⟨s,m1,fa⟩,t,m2,gb⟩:=h.DQ o.nM;have hl:=h.Ce o.nM o.path;rcases xG k with e|e
 have f:xe k=Y:=by rw[e];exact xJ _
 unfold pa;rw[cr f,q,v,j];by_cases a7:i+2<aa p;rw[cr a7,m];have o':nJ al ag (rT a p,((i+1:Nat):Int)) a p (i+1):=⟨o.nM,o.path,by omega,rfl⟩;refine⟨u5 hr a o.nM p o.path _ (vM (by omega)),?_,λd hd=>?_,bw ?_⟩;rw[Ad,e,Gx];exact aJ (o'.rO.symm.trans o.se);have:=(h.Wo hr o o' hd).1;rw[this,<-e];unfold qw;rw[xJ,f,cr rfl,cr rfl];exact j.symm;rw[cc a7];have b:-a.1∈l1 al ag t:=(h.zF m2).2 ⟨a,o.nM,bm ⟨gb.symm,rfl⟩⟩;have c:=h.Ap m2 b;rw[jf]at c;have g:ki al ag a.1∈l1 al ag t:=by rw[c];exact Dk b
 have l:=h.tO hr m2 g;have hf:=h.Dv o.nM o.path;have es:k.1=(rT a p,((aa p-2:Nat):Int)):=by rw[o.eq,show i=aa p-2 by omega]
 refine⟨l.1,?_,λd hd=>?_,bm ?_⟩;rw[l.2.1,e,Gx];exact(h.D6 o (by omega) m2 gb.symm).symm;have:=h.Wp hr m2 b hd;rw[jf,hf,Ll,<-es,<-e]at this;exact this;unfold qw;rw[f,cr rfl,j];have f:xe k=U:=by rw[e];exact wN _
 have n:¬xe k=Y:=by rw[f];simp
 unfold pa;rw[cc n,q,j];by_cases a7:0<i;rw[cr a7,m];have o':nJ al ag (rT a p,((i-1:Nat):Int)) a p (i-1):=⟨o.nM,o.path,by omega,rfl⟩;have o2:nJ al ag k.1 a p (i-1+1):=⟨o.nM,o.path,by omega,by rw[show i-1+1=i by omega];exact o.eq⟩;refine⟨u5 hr a o.nM p o.path _ (vM (by omega)),?_,λd hd=>?_,bw ?_⟩;rw[Al,e,GG];exact aJ (o'.se.symm.trans o2.rO);have:=(h.Wo hr o' o2 hd).2;rw[this,<-e];unfold qw;rw[wN,f,cc (by simp),cc (by simp),j];rfl;rw[cc a7];have b:a.1∈l1 al ag s:=(h.zF m1).2 ⟨a,o.nM,bw ⟨fa.symm,rfl⟩⟩;have c:=h.Ap m1 b;have g:ki al ag (-a.1)∈l1 al ag s:=by rw[c];exact Dk b
 have l:=h.tO hr m1 g;have hf:=h.BM o.nM o.path;have es:k.1=(rT a p,((0:Nat):Int)):=by rw[o.eq,show i=0 by omega]
 refine⟨l.1,?_,λd hd=>?_,bm ?_⟩;rw[l.2.1,e,GG];exact(h.Cn o (by omega) m1 fa.symm).symm;have:=h.Wp hr m1 b hd;rw[hf,QR,<-es,<-e]at this;exact this;unfold qw;rw[f,cc (by simp),j]
end fp
def PF{α:Type}[DecidableEq α]:∀ {l m:cu α},l.Nodup->(∀x∈l,x∈m)->aa m<=aa l->∀x∈m,x∈l
 | [],m,_,_,h,x,b=>by grind[jJ]
 |a::l,m,d,hs,h,x,b=>by
  rw[dq]at d;by_cases e:x=a
  grind
  have c:a∈m:=hs a (aR ..);have h1:aa (m.erase a)=aa m-1:=List.length_erase_of_mem c;have h2:0<aa m:=jJ b;rw[aA]at h;refine bC _ (PF (m:=m.erase a) d.2 (λy f=>?_) (by omega) x ((List.mem_erase_of_ne e).2 b))
  grind[bC]
def cd6{l:eD}(a:l.Nodup){x y:Int}(b:x∈l)(c:y∈l)(e:qn l x=qn l y):x=y:=by
 obtain⟨i,a7,rfl⟩:=bk b;obtain⟨j,hj,rfl⟩:=bk c;rw[Gt a a7,Gt a hj]at e;have d:=(gY a).1 e;have md:∀n,n<aa l->(n+aa l-1)%aa l=if n=0 then aa l-1 else n-1:=by intro n a;split;rw[da (by omega)];omega;rw[show n+aa l-1=(n-1)+aa l by omega,gT,da (by omega)]
 grind
namespace fp
variable {al:gp} {ag:hI} {fs:eD} (h:fp al ag fs)
include h
theorem FI{d:Int}(hd:d∈ny al ag):∃a∈ag,∃p,pathOf al ag a.1=Z p/\((d=a.1/\va al ag d=nA (rT a p,((0:Nat):Int)))\/(d=-a.1/\va al ag d=nz (rT a p,((aa p-2:Nat):Int)))):=by
 let ⟨a,ha,c⟩:=h.uP.1 hd;let ⟨f,t,_,_,b,_⟩:=h.path ha;rcases c with rfl|rfl
 exact⟨a,ha,_,b,bw ⟨rfl,h.BM ha b⟩⟩;exact⟨a,ha,_,b,bm ⟨rfl,h.Dv ha b⟩⟩
theorem BD{d:Int}(hd:d∈ny al ag):qw (va al ag d)=d:=by obtain⟨a,ha,p,hp,⟨rfl,e⟩|⟨rfl,e⟩⟩:=h.FI hd<;>rw[e]<;>unfold qw;rw[xJ,cr rfl];rfl;rw[wN,cc (by simp)];rfl
theorem Ov{d e:Int}(hd:d∈ny al ag)(he:e∈ny al ag)(a:ki al ag d=ki al ag e):d=e:=by
 have find:∀x,x∈ny al ag->∃n∈al,-x∈l1 al ag n:=λx i=>by have:=h.JN i;let ⟨l,hl,c⟩:=bZ.1 this;obtain⟨n,b,rfl⟩:=aN.1 hl;exact⟨n,b,c⟩
 let ⟨n,b,h1⟩:=find d hd;let ⟨m,hm,h2⟩:=find e he;have f:=h.Ap b h1;have g:=h.Ap hm h2;rw[jf]at f g;have fa:=Dk h1;have gb:=Dk h2;rw[<-f,a,g]at fa;have:=h.Mq b hm fa gb;subst this;rw[f,g]at a;have:=cd6 (h.E7 b) h1 h2 a;omega
variable {r:cu fy} (hr:zb al ag ag=Z r)
include hr
theorem yV{k:Net.pJ fy}(hk:k.1∈r):qw k∈ny al ag/\∃a∈ag,∃p,pathOf al ag a.1=Z p/\∃i:Nat,i+1<aa p /\
  ((k=nA (rT a p,(i:Int))/\qw k=a.1/\((i+2<aa p/\pa al ag k=nA (rT a p,((i+1:Nat):Int)))\/(i+2=aa p/\pa al ag k=va al ag (ki al ag a.1)))) \/
   (k=nz (rT a p,(i:Int))/\qw k=-a.1/\((0<i/\pa al ag k=nz (rT a p,((i-1:Nat):Int)))\/(i=0/\pa al ag k=va al ag (ki al ag (-a.1)))))):=by
 let ⟨a,p,i,o⟩:=h.q_ hr hk;have f:=o.at';have g:k.1.2.toNat=i:=by rw[o.eq];simp
 have c:k.1.1=rT a p:=by rw[o.eq]
 have j:k.1.1.path=p:=by rw[c];rfl
 have d:k.1.1.1=a.1:=by rw[c];rfl
 rcases xG k with e|e
 have b:xe k=Y:=by rw[e];exact xJ _
 have hd:qw k=a.1:=by unfold qw;rw[cr b,d]
 refine⟨h.uP.2 ⟨a,o.nM,bw hd⟩,a,o.nM,p,o.path,i,o.at',bw ⟨by rw[<-o.eq];exact e,hd,?_⟩⟩
 grind[pa]
 have b:¬xe k=Y:=by rw[e,wN];simp
 have hd:qw k=-a.1:=by unfold qw;rw[cc b,d]
 refine⟨h.uP.2 ⟨a,o.nM,bm hd⟩,a,o.nM,p,o.path,i,o.at',bm ⟨by rw[<-o.eq];exact e,hd,?_⟩⟩
 grind[pa]
theorem mk_inj{a b:ct}(ha:a∈ag)(c:b∈ag){p q:eY}{i j:Nat}(e:((rT a p,(i:Int)):fy)=(rT b q,(j:Int))):a=b/\p=q/\i=j:=by have d:a.1=b.1:=Ar (λs:fy=>s.1.1) e;have f:p=q:=Ar (λs:fy=>s.1.path) e;have g:(i:Int)=(j:Int):=Ar (λs:fy=>s.2) e;exact⟨h.Bg ha c d,f,by omega⟩
theorem bq0{k f:Net.pJ fy}(hk:k.1∈r)(o:f.1∈r)(e:pa al ag k=pa al ag f):k=f:=by
 let ⟨d1,a,ha,p,hp,i,a7,c⟩:=h.yV hr hk;let ⟨d2,b,g,q,l,j,hj,B⟩:=h.yV hr o;have fin:qw k=qw f->va al ag (ki al ag (qw k))=va al ag (ki al ag (qw f)):=λe=>by rw[e]
 have t:va al ag (ki al ag (qw k))=va al ag (ki al ag (qw f))->qw k=qw f:=λe=>by have C:=h.qK d1;have D:=h.qK d2;have:=Ar qw e;rw[h.BD C,h.BD D]at this;exact h.Ov d1 d2 this
 have H:=h.um ha;have I:=h.um g;have d:∀x∈ny al ag,(∀(u:ct) (w:eY) (m:Nat),u∈ag->pathOf al ag u.1=Z w->0<m->va al ag x≠nA (rT u w,(m:Int)))/\∀(u:ct) (w:eY) (m:Nat),u∈ag->pathOf al ag u.1=Z w->m+2<aa w->va al ag x≠nz (rT u w,(m:Int)):=by
  intro x E;obtain⟨v,hv,w',G,⟨_,z⟩|⟨_,z⟩⟩:=h.FI E<;>rw[z]
  grind[BL,PI]
  refine⟨λu w m hu hw hm e=>BL e.symm,λu w m hu hw hm e=>?_⟩;obtain⟨_,rfl,J⟩:=h.mk_inj hr hv hu (PH e);omega
 rcases c with⟨c1,c2,⟨s,n⟩|⟨s,n⟩⟩|⟨c1,c2,⟨s,n⟩|⟨s,n⟩⟩<;>rcases B with⟨g1,g2,⟨g3,g4⟩|⟨g3,g4⟩⟩|⟨g1,g2,⟨g3,g4⟩|⟨g3,g4⟩⟩<;>rw[n,g4]at e
 grind[PI]
 exact b8 e.symm ((d _ (h.qK (g2▸d2))).1 a p (i+1) ha hp (by omega));exact b8 e BL;exact b8 e.symm ((d _ (h.qK (g2▸d2))).1 a p (i+1) ha hp (by omega));exact b8 e ((d _ (h.qK (c2▸d1))).1 b q (j+1) g l (by omega));rw[<-c2,<-g2]at e;have:=t e;obtain rfl:=h.Bg ha g (by omega)
 grind
 exact b8 e ((d _ (h.qK (c2▸d1))).2 b q (j-1) g l (by omega))
 grind
 exact b8 e.symm BL;exact b8 e.symm ((d _ (h.qK (g2▸d2))).2 a p (i-1) ha hp (by omega))
 grind[PH]
 exact b8 e.symm ((d _ (h.qK (g2▸d2))).2 a p (i-1) ha hp (by omega));exact b8 e ((d _ (h.qK (c2▸d1))).1 b q (j+1) g l (by omega))
 grind
 exact b8 e ((d _ (h.qK (c2▸d1))).2 b q (j-1) g l (by omega));rw[<-c2,<-g2]at e;have:=t e;obtain rfl:=h.Bg ha g (by omega)
 grind
end fp
open Classical
namespace fp
variable {al:gp} {ag:hI} {fs:eD} (h:fp al ag fs)
variable {r:cu fy} (hr:zb al ag ag=Z r)
include h hr
theorem bq1:(((m8 r).hY (h.j8 hr)).og.map (pa al ag)).Perm ((m8 r).hY (h.j8 hr)).og:=by
 have g:=(m8 r).w8 (h.j8 hr);have f:=Net.VG g;have mem:∀k,k∈((m8 r).hY (h.j8 hr)).og↔k.1∈r:=λk=>Net.Gf;have b:(((m8 r).hY (h.j8 hr)).og.map (pa al ag)).Nodup:=cE.2 (f.imp_of_mem λ{k c} hk a d e=>d (h.bq0 hr ((mem k).1 hk) ((mem c).1 a) e));have sub:∀k∈((m8 r).hY (h.j8 hr)).og.map (pa al ag),k∈((m8 r).hY (h.j8 hr)).og:=by intro k hk;obtain⟨c,a,rfl⟩:=aN.1 hk;exact(mem _).2 (h.Gh hr ((mem c).1 a)).1
 exact(jh b f).2 λk=>⟨sub k,PF b sub (by rw[aI];exact ay _) k⟩
omit hr in
omit h in
noncomputable def bV4{al:gp}{ag:hI}{fs:eD}(h:fp al ag fs){r:cu fy}(hr:zb al ag ag=Z r){κ:Type}(c0:Int->κ)(hc:∀d∈ny al ag,c0 (ki al ag d)=c0 d):Net.nK ((m8 r).hY (h.j8 hr)) κ where
 c:=λk=>c0 (qw k)
 gA:=pa al ag
 mem:=λk hk=>(h.Gh hr hk).1
 NY:=λk hk=>by
  have hd:=(h.yV hr hk).1;rcases(h.Gh hr hk).2.2.2 with e|e
  show c0 (qw (pa al ag k))=_;rw[e];show c0 (qw (pa al ag k))=_;rw[e,h.BD (h.qK hd),hc _ hd]
 left:=λk hk d hd=>(h.Gh hr hk).2.2.1 d hd
 closed:=λC A=>by
  have mem:∀k,k∈((m8 r).hY (h.j8 hr)).og↔k.1∈r:=λk=>Net.Gf;have g:dk ((m8 r).hY (h.j8 hr)).og (λk=>ite (c0 (qw k)=C) (A (((m8 r).hY (h.j8 hr)).src k)-A (((m8 r).hY (h.j8 hr)).dst k)) 0)
    = dk ((m8 r).hY (h.j8 hr)).og (λk=>ite (c0 (qw k)=C) (A (((m8 r).hY (h.j8 hr)).src k)) 0)-dk ((m8 r).hY (h.j8 hr)).og (λk=>ite (c0 (qw k)=C) (A (((m8 r).hY (h.j8 hr)).dst k)) 0):=by
   rw[<-yI];refine ns λk _=>?_;by_cases b:c0 (qw k)=C;simp only[cr b];simp only[cc b];omega
  have i:dk ((m8 r).hY (h.j8 hr)).og (λk=>ite (c0 (qw k)=C) (A (((m8 r).hY (h.j8 hr)).dst k)) 0)=dk ((m8 r).hY (h.j8 hr)).og (λk=>ite (c0 (qw k)=C) (A (((m8 r).hY (h.j8 hr)).src k)) 0):=by
   refine Eq.symm ?_;rw[<-PK (h.bq1 hr),DY];refine ns λk hk=>?_;have a:=(mem k).1 hk;have f:=h.Gh hr a;have hd:=(h.yV hr a).1;have hl:c0 (qw (pa al ag k))=c0 (qw k):=by
    rcases f.2.2.2 with e|e
    rw[e];rw[e,h.BD (h.qK hd),hc _ hd]
   rw[hl,f.2.1]
  show dk ((m8 r).hY (h.j8 hr)).og (λk=>ite (c0 (qw k)=C) (A (((m8 r).hY (h.j8 hr)).src k)-A (((m8 r).hY (h.j8 hr)).dst k)) 0)=0;rw[g,i];omega
end fp
end Go.Ab
namespace Go.Ab
open Go
def ot(gA:Int->Int)(d:Int):Nat->Int
 | 0=>d
 |n+1=>gA (ot gA d n)
def zg(gA:Int->Int)(d:Int)(m:Nat):eD:=(aT m).map (ot gA d)
def N4(gA:Int->Int)(d:Int)(m:Nat):zg gA d (m+1)=zg gA d m++[ot gA d m]:=by unfold zg;rw[ja,ez];rfl
theorem td{gA:Int->Int}{d:Int}{m:Nat}{x:Int}:x∈zg gA d m↔∃i,i<m/\ot gA d i=x:=by unfold zg;simp
def av8{gA:Int->Int}{d:Int}{m:Nat}(a:(zg gA d m).Nodup){i j:Nat}(a7:i<m)(hj:j<m)(e:ot gA d i=ot gA d j):i=j:=by
 unfold zg at a;have h1:i<aa ((aT m).map (ot gA d)):=by simpa using a7
 have h2:j<aa ((aT m).map (ot gA d)):=by simpa using hj
 exact(gY (h₀:=h1) (h₁:=h2) a).1 (by simpa using e)
section
variable {gA:Int->Int} {D:eD} (hD:∀d∈D,gA d∈D) (inj:∀d∈D,∀e∈D,gA d=gA e->d=e)
def vU(hD:∀d∈D,gA d∈D){d:Int}(hd:d∈D):∀n,ot gA d n∈D
 | 0=>hd
 |n+1=>hD _ (vU hD hd n)
include hD inj
theorem Nc{d:Int}(hd:d∈D){c:eD}(f:∀y∈c,∃x∈c,gA x=y)(s0:∀x∈c,x∈D)(tX:d∉c):∀(n m:Nat),(c++zg gA d m).Nodup->pV D (c++zg gA d m)<n ->
  ∃g,0<g/\ot gA d g=d/\rn gA n (c++zg gA d m) (ot gA d m) (zg gA d m)=(zg gA d g,c++zg gA d g)/\(c++zg gA d g).Nodup
 | 0,m,_,hu=>by omega
 |n+1,m,i,hu=>by
  unfold rn;have h:=(dP.1 i).2.2;by_cases hm:ot gA d m∈c++zg gA d m;rw[cr hm];have key:0<m/\ot gA d m=d:=by
   rcases aV.1 hm with h1|h1
   exfalso;cases m;exact tX h1;rename_i m;let ⟨x,o,e⟩:=f _ h1;have:=inj x (s0 x o) _ (vU hD hd m) e;exact h x o x (td.2 ⟨m,by omega,this.symm⟩) rfl;let ⟨j,hj,e⟩:=td.1 h1;refine⟨by omega,?_⟩;cases j;exact e.symm;rename_i j;exfalso;cases m;omega;rename_i m;have:=inj _ (vU hD hd j) _ (vU hD hd m) e;have:=av8 (dP.1 i).2.1 (by omega) (by omega) this;omega
  exact⟨m,key.1,key.2,rfl,i⟩;rw[cc hm];have e:c++zg gA d m++[ot gA d m]=c++zg gA d (m+1):=by rw[N4,cz]
  have k:=N' (vU hD hd m) hm;rw[e]at k⊢;rw[<-N4];refine Nc hd f s0 tX n (m+1) ?_ (by omega);rw[<-e];refine dP.2 ⟨i,by simp,?_⟩;intro a ha b p l;simp at p;exact hm (p▸l▸ha)
structure ze(gA:Int->Int)(D:List Int)(cs:List (List Int)):Prop where
 y5:∀c∈cs,∃d m,d∈D/\0<m/\ot gA d m=d/\c=zg gA d m
 nodup:cs.flatten.Nodup
theorem Rt{cs:cu eD}(hc:ze gA D cs):∀y∈cs.flatten,∃x∈cs.flatten,gA x=y:=by
 intro y b;let ⟨c,a,b⟩:=bZ.1 b;obtain⟨d,m,hd,hm,he,rfl⟩:=hc.y5 c a;obtain⟨i,a7,rfl⟩:=td.1 b;cases i with
 |zero=>exact⟨ot gA d (m-1),bZ.2 ⟨_,a,td.2 ⟨m-1,by omega,rfl⟩⟩,by
   have:ot gA d (m-1+1)=d:=by rw[show m-1+1=m by omega];exact he
   exact this⟩
 |succ i=>exact⟨ot gA d i,bZ.2 ⟨_,a,td.2 ⟨i,by omega,rfl⟩⟩,rfl⟩
theorem PL{cs:cu eD}(hc:ze gA D cs):∀y∈cs.flatten,y∈D:=by intro y a;let ⟨c,b,a⟩:=bZ.1 a;obtain⟨d,m,hd,hm,he,rfl⟩:=hc.y5 c b;obtain⟨i,a7,rfl⟩:=td.1 a;exact vU hD hd i
theorem Nh:∀(a:eD) (acc:cu eD),(∀d∈a,d∈D)->ze gA D acc->ze gA D (qW gA D a acc.flatten acc)/\∀d,(d∈a\/d∈acc.flatten)->d∈(qW gA D a acc.flatten acc).flatten
 | [],acc,_,hc=>⟨hc,λd hd=>by
   rcases hd with hd|hd
   simp at hd;exact hd⟩
 |d::a,acc,b,hc=>by
  have hd:=b d (by simp);unfold qW;by_cases hs:d∈acc.flatten;rw[cr hs];let ⟨i1,i2⟩:=Nh a acc (λe he=>b e (by simp[he])) hc;refine⟨i1,λe he=>i2 e ?_⟩;rcases he with he|he
  rcases aG.1 he with rfl|he
  exact bm hs;exact bw he;exact bm he;rw[cc hs];have hz:acc.flatten++zg gA d 0=acc.flatten:=by simp[zg]
  let ⟨m,hm,he,hf,j⟩:=Nc hD inj hd (Rt hD inj hc) (PL hD inj hc) hs (pV D acc.flatten+1) 0 (by rw[hz];exact hc.nodup) (by rw[hz];omega);rw[hz]at hf;have g:rn gA (pV D acc.flatten+1) acc.flatten d []=(zg gA d m,acc.flatten++zg gA d m):=hf;simp only[g];have e:acc.flatten++zg gA d m=(acc++[zg gA d m]).flatten:=by simp
  have i:ze gA D (acc++[zg gA d m]):=by
   refine⟨λc h=>?_,by rw[<-e];exact j⟩;rcases aV.1 h with h|h
   exact hc.y5 c h;simp at h;exact⟨d,m,hd,hm,he,h⟩
  rw[e];let ⟨i1,i2⟩:=Nh a _ (λe he=>b e (by simp[he])) i;refine⟨i1,λx f=>i2 x ?_⟩;rcases f with f|f
  rcases aG.1 f with rfl|f
  exact bm (by rw[<-e];exact ic _ (td.2 ⟨0,hm,rfl⟩));exact bw f;exact bm (by rw[<-e];exact dz _ f)
end
open Go.Pg
def wh(al:gp)(ag:hI)(d:Int):eD:=((fp.l9 al ag).find? (λc=>No (d∈c))).getD []
def aK6{cs:cu eD}(g:cs.flatten.Nodup){c f:eD}(h1:c∈cs)(h2:f∈cs){d:Int}(d1:d∈c)(d2:d∈f):c=f:=by
 have hp:=(List.pairwise_flatten.1 g).2;have:=Gw (R:=λc f:eD=>c=f\/∀x∈c,∀y∈f,x≠y) (λx y h=>by
  rcases h with h|h
  exact bw h.symm;exact bm λa ha b i e=>h b i a ha e.symm) (λx=>bw rfl) (hp.imp λ{x y} h=>bm h) h1 h2
 rcases this with h|h
 exact h;exact(h d d1 d d2 rfl).elim
namespace fp
variable {al:gp} {ag:hI} {fs:eD} (h:fp al ag fs)
include h
theorem xF:ze (ki al ag) (ny al ag) (l9 al ag)/\∀d∈ny al ag,d∈(l9 al ag).flatten:=by have hp:=cO (ny al ag) (λa b=>No (a<=b));let ⟨i1,i2⟩:=Nh (gA:=ki al ag) (D:=ny al ag) (λd hd=>h.qK hd) (λd hd e he x=>h.Ov hd he x) ((ny al ag).mergeSort λa b=>No (a<=b)) [] (λd hd=>hp.mem_iff.1 hd) ⟨λc hc=>by simp at hc,by simp⟩;exact⟨i1,λd hd=>i2 d (bw (hp.mem_iff.2 hd))⟩
theorem zT{d:Int}(hd:d∈ny al ag):wh al ag d∈l9 al ag/\d∈wh al ag d:=by
 let ⟨c,hc,a⟩:=bZ.1 (h.xF.2 d hd);unfold wh;cases hf:(l9 al ag).find? (λc=>No (d∈c))with
 |none=>exact b8 a (by have:=List.find?_eq_none.1 hf c hc;simpa using this)
 |some b =>have h1:=bh hf;have h2:=eB hf;exact⟨h1,by simpa using h2⟩
theorem zS{c:eD}(hc:c∈l9 al ag){d:Int}(hd:d∈c):d∈ny al ag:=by obtain⟨e,m,he,hm,_,rfl⟩:=h.xF.1.y5 c hc;obtain⟨i,_,rfl⟩:=td.1 hd;exact vU (λd hd=>h.qK hd) he i
theorem Iu{c:eD}(hc:c∈l9 al ag){d:Int}(hd:d∈c):wh al ag d=c:=by have h1:=h.zT (h.zS hc hd);exact aK6 h.xF.1.nodup h1.1 hc h1.2 hd
theorem bf8{c:eD}(hc:c∈l9 al ag){d:Int}(hd:d∈c):ki al ag d∈c:=by
 obtain⟨e,m,he,hm,hz,rfl⟩:=h.xF.1.y5 c hc;obtain⟨i,a7,rfl⟩:=td.1 hd;by_cases hl:i+1<m;exact td.2 ⟨i+1,hl,rfl⟩;refine td.2 ⟨0,hm,?_⟩;have:ot (ki al ag) e (i+1)=e:=by rw[show i+1=m by omega];exact hz
 exact this.symm
theorem bg3{d:Int}(hd:d∈ny al ag):wh al ag (ki al ag d)=wh al ag d:=by have h1:=h.zT hd;exact h.Iu h1.1 (h.bf8 h1.1 h1.2)
variable {r:cu fy} (hr:zb al ag ag=Z r)
noncomputable def tw{al:gp}{ag:hI}{fs:eD}(h:fp al ag fs){r:cu fy}(hr:zb al ag ag=Z r):Net.nK ((m8 r).hY (h.j8 hr)) eD:=h.bV4 hr (wh al ag) (λ_ hd=>h.bg3 hd)
theorem MY{d:Int}(hd:d∈ny al ag)(hr:zb al ag ag=Z r):(va al ag d).1∈r:=by obtain⟨a,ha,p,hp,⟨_,e⟩|⟨_,e⟩⟩:=h.FI hd<;>rw[e];exact u5 hr a ha p hp _ (vM (by have:=h.Ce ha hp;omega));exact u5 hr a ha p hp _ (vM (by have:=h.Ce ha hp;omega))
theorem Fl{k:Net.pJ fy}(hk:k.1∈r):(h.tw hr).qX (va al ag (qw k)) k/\(h.tw hr).qX k (va al ag (ki al ag (qw k))):=by
 let ⟨_,a,ha,p,hp,i,a7,c⟩:=h.yV hr hk;have inr:∀j:Nat,j+1<aa p->(rT a p,(j:Int))∈r:=λj hj=>u5 hr a ha p hp _ (vM hj);have b:∀k,(h.tw hr).gA k=pa al ag k:=λ_=>rfl;rcases c with⟨c1,c2,_⟩|⟨c1,c2,_⟩
 rw[c1,show qw (nA (rT a p,(i:Int)))=a.1 from c1▸c2,h.BM ha hp];have st:∀j:Nat,j+2<aa p->pa al ag (nA (rT a p,(j:Int)))=nA (rT a p,((j+1:Nat):Int)):=λj hj=>by
  unfold pa;rw[cr (xJ _)];have d:((nA (rT a p,(j:Int))).1.2).toNat=j:=by show((j:Int)).toNat=j;simp
  have e:(nA (rT a p,(j:Int))).1.1.path.length=aa p:=rfl;rw[d,e,cr hj];rfl
 have f:∀j:Nat,j+2=aa p->pa al ag (nA (rT a p,(j:Int)))=va al ag (ki al ag a.1):=λj hj=>by
  unfold pa;rw[cr (xJ _)];have d:((nA (rT a p,(j:Int))).1.2).toNat=j:=by show((j:Int)).toNat=j;simp
  have e:(nA (rT a p,(j:Int))).1.1.path.length=aa p:=rfl;rw[d,e,cc (by omega)];rfl
 have up:∀n j:Nat,j+n+1<aa p->(h.tw hr).qX (nA (rT a p,(j:Int))) (nA (rT a p,((j+n:Nat):Int))):=by
  intro n
  induction n with
  |zero=>intro j hj;exact Net.nK.qX.refl _
  |succ n g =>intro j hj;have h1:=g j (by omega);have h2:=Net.nK.qX.gA (w:=h.tw hr) (h:=nA (rT a p,((j+n:Nat):Int))) (inr (j+n) (by omega)) h1;rw[b,st (j+n) (by omega)]at h2;exact h2
 refine⟨by have:=up i 0 (by omega);rw[bj]at this;exact this,?_⟩;have h1:=up (aa p-2-i) i (by omega);have h2:=Net.nK.qX.gA (w:=h.tw hr) (h:=nA (rT a p,((i+(aa p-2-i):Nat):Int))) (inr _ (by omega)) h1;rw[b,f _ (by omega)]at h2;exact h2;rw[c1,show qw (nz (rT a p,(i:Int)))=-a.1 from c1▸c2,h.Dv ha hp];have st:∀j:Nat,0<j->pa al ag (nz (rT a p,(j:Int)))=nz (rT a p,((j-1:Nat):Int)):=λj hj=>by
  unfold pa;rw[cc (by rw[wN];simp)];have d:((nz (rT a p,(j:Int))).1.2).toNat=j:=by show((j:Int)).toNat=j;simp
  rw[d,cr hj];rfl
 have f:pa al ag (nz (rT a p,((0:Nat):Int)))=va al ag (ki al ag (-a.1)):=by unfold pa;rw[cc (by rw[wN];simp)];have d:((nz (rT a p,((0:Nat):Int))).1.2).toNat=0:=rfl;rw[d,cc (by omega)];rfl
 have ng:∀n j:Nat,j+n+1<aa p->(h.tw hr).qX (nz (rT a p,((j+n:Nat):Int))) (nz (rT a p,(j:Int))):=by
  intro n
  induction n with
  |zero=>intro j hj;exact Net.nK.qX.refl _
  |succ n g =>intro j hj;have h1:=g (j+1) (by omega);rw[show j+1+n=j+(n+1)by omega]at h1;have h2:=Net.nK.qX.gA (w:=h.tw hr) (h:=nz (rT a p,((j+1:Nat):Int))) (inr (j+1) (by omega)) h1;rw[b,st (j+1) (by omega)]at h2;exact h2
 refine⟨by have:=ng (aa p-2-i) i (by omega);rw[show i+(aa p-2-i)=aa p-2 by omega]at this;exact this,?_⟩;have h1:=ng i 0 (by omega);rw[bj]at h1;have h2:=Net.nK.qX.gA (w:=h.tw hr) (h:=nz (rT a p,((0:Nat):Int))) (inr 0 (by omega)) h1;rw[b,f]at h2;exact h2
end fp
namespace fp
variable {al:gp} {ag:hI} {fs:eD} (h:fp al ag fs)
variable {r:cu fy} (hr:zb al ag ag=Z r)
include h
theorem MC{e:Int}(he:e∈ny al ag):∀i,(h.tw hr).qX (va al ag e) (va al ag (ot (ki al ag) e i))
 | 0=>Net.nK.qX.refl _
 |i+1=>by have hm:=vU (gA:=ki al ag) (λd hd=>h.qK hd) he i;have h1:=MC he i;have h2:=(h.Fl hr (h.MY hm hr)).2;rw[h.BD hm]at h2;exact Net.nK.oc _ h1 h2
theorem VS{c:eD}(hc:c∈l9 al ag){d:Int}(hd:d∈c):(h.tw hr).CR c (va al ag d):=by
 intro k hk b;have a:k.1∈r:=b;have f:=(h.yV hr a).1;have g:wh al ag (qw k)=c:=hk;have h1:=(h.Fl hr a).1;have h2:qw k∈c:=by rw[<-g];exact(h.zT f).2
 obtain⟨e,m,he,hm,_,rfl⟩:=h.xF.1.y5 c hc;let ⟨i,_,a7⟩:=td.1 h2;let ⟨j,_,hj⟩:=td.1 hd;have l:=h.MC hr he i;have a2:=h.MC hr he j;rw[a7]at l;rw[hj]at a2;exact Net.nK.oc _ (Net.nK.xC _ a2) (Net.nK.oc _ l h1)
end fp
open Classical
def zj(p q:bs):Int:=p.1*q.2-q.1*p.2
def as8:∀(l:eY) (p:bs),dk (aT (aa l)) (λi=>zj (((p::l)[i]?).getD (0,0)) (((p::l)[i+1]?).getD (0,0)))=oZ p l
 | [],p=>rfl
 |q::l,p=>by have a:=as8 l q;rw[aA,List.range_succ_eq_map];simp only[dk,DY];have e:∀i:Nat,(p::q::l)[i+1]?=(q::l)[i]?:=λi=>rfl;have b:∀i:Nat,(p::q::l)[Nat.succ i+1]?=(q::l)[i+1]?:=λi=>rfl;have c:∀i:Nat,(p::q::l)[Nat.succ i]?=(q::l)[i]?:=λi=>rfl;simp only[b,c];rw[a];rfl
def bM6{al:gp}{ag:hI}{f:fy->Int}{a:ct}{p:eY}(hp:pathOf al ag a.1=Z p):∀ {l:hI} {r:cu fy},(l.map (·.1)).Pairwise (·<·)->zb al ag l=Z r ->
  dk r (λs=>ite (s.1.1=a.1) (f s) 0)=if a.1∈l.map (·.1)then dk r (λs=>ite (s.1.1=a.1) (f s) 0)else 0
 |l,r,hl,h=>by
  by_cases c:a.1∈l.map (·.1);rw[cr c];rw[cc c];refine uq λs hs=>?_;let ⟨b,d,q,_,hm⟩:=Bt h s hs;let ⟨i,_,e⟩:=xw hm;have g:s.1.1=b.1:=by rw[e];rfl
  rw[cc (λj=>c (by rw[<-j,g];exact aX d))]
def NP{al:gp}{ag:hI}(f:fy->Int){a:ct}{p:eY}(hp:pathOf al ag a.1=Z p):∀ {l:hI} {r:cu fy},(l.map (·.1)).Pairwise (·<·)->(∀b∈l,b.1=a.1->b=a)->zb al ag l=Z r->a∈l ->
  dk r (λs=>ite (s.1.1=a.1) (f s) 0)=dk (pf a p) f
 | [],r,_,_,_,ha=>by simp at ha
 |b::l,r,hl,hu,h,ha=>by
  rw[aD,aU]at hl;unfold zb at h;split at h;cases h;rename_i q j;cases hc:((No (b.2.1=b.2.2.1)&&No (aa q<4))||!(qt q))with
  |true=>rw[hc]at h;cases h
  |false=>
   rw[hc]at h;simp only[bu]at h;split at h;rename_i n c;cases h;rw[zQ];have hd:∀s∈pf b q,s.1.1=b.1:=λs hs=>by let ⟨i,_,e⟩:=xw hs;rw[e];rfl
   by_cases e:b=a;subst e;rw[hp]at j;cases j;have z:=bM6 (f:=f) (a:=b) hp hl.2 c;rw[cc (λhm=>by have:=hl.1 _ hm;omega)]at z;rw[z,ns (f:=λs=>ite (s.1.1=b.1) (f s) 0) (g:=f) (l:=pf b p) (λs hs=>cr (hd s hs))];omega;have d:a∈l:=by
    rcases aG.1 ha with h|h
    exact(e h.symm).elim;exact h
   rw[NP f hp hl.2 (λb k=>hu b (by simp[k])) c d,uq (l:=pf b q) (λs hs=>cc (λm=>e (hu b (by simp) (by rw[<-hd s hs];exact m))))];omega;cases h
end Go.Ab
