/- A part of the proof; its readable source lies in wip of the prover's repo (squeezed here for the limit of bytes). -/
import Derived.Test.YtohmcmgdnjfpjaaGreatDoorMc
import Derived.Lib.DecodeN
import Derived.KernelRfl
set_option linter.all false
open Bool renaming and_assoc->gT,and_eq_false_iff->eW,and_eq_true->ab,and_self->bw,eq_false_iff->ee,false_eq_true->aG,false_or->cY,not_eq_true'->cT,not_eq_true->eG,not_false->bB,not_true->aw,or_eq_false_iff->cE,or_eq_true->bC,true_and->cZ,true_eq_false->jS,true->No,false->N2
open ByteArray renaming mk->bW
open Classical renaming em->iD
open Decidable renaming decide->Eo
open Go.IntKind renaming bits->kG,i64->aa,signed->j_,u64->an,u8->fq,wrap->kF
open Go.Utf8 renaming decode->bI
open Int renaming add_mul->gK,dvd_mul_right->kq,dvd_trans->ll,eq_ofNat_of_zero_le->ga,eq_of_mul_eq_mul_left->cF,le_of_lt->dv,le_refl->cz,le_total->ia,lt_of_le_of_lt->dP,lt_of_mul_lt_mul_left->iQ,lt_or_le->gr,lt_trichotomy->g_,max_comm->iY,min_comm->iX,mul_add->iC,mul_assoc->dh,mul_comm->dV,mul_eq_zero->gu,mul_le_mul_of_nonneg_left->bR,mul_le_mul_of_nonneg_right->bh,mul_lt_mul_of_pos_left->cx,mul_lt_mul_of_pos_right->fS,mul_neg->cK,mul_neg_of_pos_of_neg->iR,mul_nonneg->aL,mul_one->gL,mul_pos->cw,mul_pos_of_neg_of_neg->cO,mul_sub->cW,mul_zero->eB,natAbs_mul->kW,neg_mul->im,neg_mul_neg->iB,pos_of_mul_pos_right->bX,pow_pos->lH,sub_mul->lI,tmod_eq_emod_of_nonneg->iK,toNat_natCast->aW,zero_mul->eC
open List renaming all_cons->bU,all_eq_true->aj,all_nil->gp,any_cons->gq,any_eq_false->cB,any_nil->jg,append_assoc->bm,append_nil->bD,cons_append->cL,filter_cons->bV,filter_nil->kE,find?_cons->da,find?_some->db,flatMap_cons->bA,flatMap_nil->dz,foldl->bK,foldl_append->jZ,foldl_cons->gD,getElem?_cons_succ->aF,getElem?_cons_zero->bE,getElem?_eq_getElem->af,getElem?_map->aO,getElem_mem->ay,getElem_of_mem->aT,getElem_zipWith->jr,idxOf_lt_length_iff->iP,length->eP,length_append->aS,length_cons->aC,length_drop->ib,length_filter_le->bn,length_map->aI,length_nil->dy,length_pos_iff->cH,length_range->dO,length_singleton->fw,length_take->cC,length_zipWith->jE,map_append->ez,map_congr_left->bY,map_cons->au,map_nil->dj,mem_append->aY,mem_cons->aD,mem_cons_of_mem->bf,mem_filter->aU,mem_flatMap->dg,mem_flatten->bG,mem_map->aM,mem_map_of_mem->aK,mem_of_find?_eq_some->aX,mem_of_getElem?->aH,mem_of_mem_drop->ao,mem_or_eq_of_mem_set->cD,mem_range->gw,mem_singleton->bL,mergeSort_perm->cP,nil_append->cG,nodup_append->dI,nodup_cons->cS,not_mem_nil->gx,pairwise_cons->aR,pairwise_iff_getElem->bM,range->aN,range_succ->dH,set_cons_succ->jT,singleton_append->jh,sum_cons->de,tail->kp,tail_cons->kR,take_length->cd
open List.Pairwise renaming cons->lj,imp->lk,nil->ko,of_cons->hJ
open List.cons renaming injEq->cN
open Nat renaming gcd->jU,gcd_comm->lB,le_refl->aB,le_trans->bz,mod_eq_of_lt->cQ,mod_lt->d_,mul_le_mul->gm,mul_le_mul_left->jR
open Option renaming getD_some->cA,map_some->ai,some->Q1,none->Ld
open Option.some renaming inj->aQ,injEq->ah
open Or renaming inl->br,inr->bk
open Prod renaming ext->eJ,ext_iff->lh
namespace Go.Ab
open Go
def Vh(xs:List Int)(y:Int)(hl:xs.length<2^62):E0 (xs,y)=Q1 (if y∈xs then((xs.idxOf y:Nat):Int)else -1):=by
 unfold E0;simp only[bT];refine(mP (A:=Unit) xs (λi _=>(i:Int)) (λ_ rest=>Q1 (if y∈rest then((xs.length-rest.length+rest.idxOf y:Nat):Int)else -1)) (by omega) ?_ ?_ ()).trans ?_;intro rec a;simp;intro rec i a x rest a7 hd d;have hlen:rest.length=xs.length-(i+1):=by have:=lU eP hd;simp at this;omega
 have c:((i:Int)<(xs.length:Int)):=by omega
 simp only[c,l6,b6,h0 hd,bT];by_cases b:y=x;subst b;simp[hlen];omega;have e:aa.wrap ((i:Int)+1)=((i+1:Nat):Int):=by grind[fx]
 simp only[b,n4,bu,e];rw[d ()]
 grind
 simp
def HC(xs:List Int)(y:Int)(hl:xs.length<2^62):wo (xs,y)=Q1 (Eo (y∈xs)):=by unfold wo;simp only[Vh xs y hl,bT];by_cases h:y∈xs<;>simp[h]
abbrev bs:=Int×Int
abbrev b9:=Int×Int×Int
abbrev ct:=Int×Int×Int×List bs×Int×Int
def nQ(al:List b9)(id:Int):Option b9:=al.find? λn=>Eo (n.1=id)
def px(ag:List ct)(id:Int):Option ct:=ag.find? λa=>Eo (a.1=id)
def rl{α:Type}{xs rest:List α}{i:Nat}{x:α}(h:xs.drop i=x::rest):i<xs.length/\rest.length=xs.length-(i+1)/\x∈xs:=by
 have h1:=lU eP h
 grind[ao]
theorem f'{i n:Nat}(h:i<n)(a:n<2^62):aa.wrap ((i:Int)+1)=((i+1:Nat):Int):=by grind[fx]
theorem fB{i n:Nat}(h:i<n):Eo ((i:Int)<(n:Int))=No:=by simpa using h
def kj(n:Nat):Eo ((n:Int)<(n:Int))=N2:=by simp
def M9(al:List b9)(ag:List ct)(fs:List Int)(id:Int)(hl:al.length<2^62):xt ((al,ag,fs),id)=Q1 (match nQ al id with|some n=>(n,No)|none=>((0,0,0),N2)):=by unfold xt;simp only[bT];refine(mP (A:=Unit) al (λi _=>(i:Int)) (λ_ rest=>Q1 (match nQ rest id with|some n=>(n,No)|none=>((0,0,0),N2))) (by omega) ?_ ?_ ()).trans rfl;intro rec a;simp[nQ];intro rec i a x rest a7 hd b;simp only[fB a7,b6,h0 hd,bT,f' a7 hl];by_cases h:x.1=id;subst h;simp[nQ];simp only[h,n4,bu,b ()];simp[nQ,h]
def WI(al:List b9)(ag:List ct)(fs:List Int)(id:Int)(hl:ag.length<2^62)(hv:∀a∈ag,a.2.2.2.1.length<=1000000000):BP ((al,ag,fs),id)=Q1 (match px ag id with|some a=>(a,No)|none=>((0,0,0,[],0,0),N2)):=by
 unfold BP;simp only[bT];refine(mP (A:=Unit) ag (λi _=>(i:Int)) (λ_ rest=>Q1 (match px rest id with|some n=>(n,No)|none=>((0,0,0,[],0,0),N2))) (by omega) ?_ ?_ ()).trans rfl;intro rec a;simp[px];intro rec i a x rest a7 hd b;have c:=hv x (rl hd).2.2;have hc:vo x.2.2.2.1=Q1 x.2.2.2.1:=by grind[vo,m9]
 simp only[fB a7,b6,h0 hd,bT,f' a7 hl,hc];by_cases h:x.1=id;subst h;simp[px];simp only[h,n4,bu,b ()];simp[px,h]
def bk2(al:List b9)(ag:List ct)(fs:List Int)(e:al.length<=1000000)(ha:ag.length<=1000000):Il (al,ag,fs)=Q1 (al.map (·.1),ag.map (·.1)):=by
 unfold Il;simp only[bT];refine(mw (A:=List Int) al (λi a=>(a,(i:Int))) (λa rest=>Q1 (a++rest.map (·.1),ag.map (·.1))) (λi a=>a.length=i) (by omega) ?_ ?_ [] rfl).trans rfl;intro rec a f;simp only[kj,bu,dj,bD];refine(mw (A:=List Int) ag (λi a=>(a,(i:Int))) (λb rest=>Q1 (a,b++rest.map (·.1))) (λi a=>a.length=i) (by omega) ?_ ?_ [] rfl).trans rfl;intro rec b g;simp[kj];intro rec i b x rest a7 c hd d;simp only[fB a7,b6,h0 hd,bT,f' a7 (show ag.length<2^62 by omega)]
 grind[m9,bT]
 intro rec i a x rest a7 c hd d;simp only[fB a7,b6,h0 hd,bT,f' a7 (show al.length<2^62 by omega)]
 grind[m9,bT]
def d'(p:bs):Bool:=Eo (-2097152<=p.1)&&Eo (p.1<=2097152)&&Eo (-2097152<=p.2)&&Eo (p.2<=2097152)
theorem wH(p:bs):d' p=No↔-2097152<=p.1/\p.1<=2097152/\-2097152<=p.2/\p.2<=2097152:=by simp[d',and_assoc]
def fr(a b c:bs):Int:=(b.1-a.1)*(c.2-a.2)-(b.2-a.2)*(c.1-a.1)
def vR{a b m n:Int}(h1:-m<=a)(h2:a<=m)(g:-n<=b)(h:b<=n):-(m*n)<=a*b/\a*b<=m*n:=by
 have hm:0<=m:=by omega
 have c:0<=n:=by omega
 have d:a.natAbs<=m.natAbs:=by omega
 have e:b.natAbs<=n.natAbs:=by omega
 have f:=gm d e;rw[<-kW,<-kW]at f;have i:=aL hm c;omega
def aF7{a b c:bs}(ha:d' a=No)(d:d' b=No)(hc:d' c=No):-35184372088832<=fr a b c/\fr a b c<=35184372088832:=by rw[wH]at ha d hc;have h1:=vR (a:=b.1-a.1) (b:=c.2-a.2) (m:=4194304) (n:=4194304) (by omega) (by omega) (by omega) (by omega);have h2:=vR (a:=b.2-a.2) (b:=c.1-a.1) (m:=4194304) (n:=4194304) (by omega) (by omega) (by omega) (by omega);unfold fr;omega
def V2(l:List bs)(hl:l.length<2^62):vJ l=Q1 (l.all d'):=by
 refine(mP (A:=Unit) l (λi _=>(i:Int)) (λ_ rest=>Q1 (rest.all d')) (by omega) ?_ ?_ ()).trans rfl;simp;intro rec i a x rest a7 hd d;simp only[fB a7,h0 hd,f' a7 hl];rw[d ()];by_cases h1:x.1 < -2097152;have:d' x=N2:=by simp[d'];omega
 simp[h1,this];by_cases h2:2097152<x.1;have:d' x=N2:=by simp[d'];omega
 simp[ h2,this];by_cases b:x.2 < -2097152;have:d' x=N2:=by simp[d'];omega
 simp[ b,this];by_cases c:2097152<x.2;have:d' x=N2:=by simp[d'];omega
 simp[ c,this];have:d' x=No:=by rw[wH];omega
 simp[h1,h2,b,c,this]
def Fa(a b c:bs)(ha:d' a=No)(d:d' b=No)(hc:d' c=No):xy (a,b,c)=Q1 (fr a b c):=by have f:=aF7 ha d hc;rw[wH]at ha d hc;have h1:=vR (a:=b.1-a.1) (b:=c.2-a.2) (m:=4194304) (n:=4194304) (by omega) (by omega) (by omega) (by omega);have h2:=vR (a:=b.2-a.2) (b:=c.1-a.1) (m:=4194304) (n:=4194304) (by omega) (by omega) (by omega) (by omega);unfold xy;rw[fx (n:=b.1-a.1) (by omega) (by omega),fx (n:=c.2-a.2) (by omega) (by omega),fx (n:=b.2-a.2) (by omega) (by omega),fx (n:=c.1-a.1) (by omega) (by omega),fx (n:=(b.1-a.1)*(c.2-a.2)) (by omega) (by omega),fx (n:=(b.2-a.2)*(c.1-a.1)) (by omega) (by omega)];have e:=fx (n:=fr a b c) (by omega) (by omega);exact lU Q1 e
def sP(a b c:bs):Int:=if d' a&&d' b&&d' c then fr a b c else 0
def GS(a b c:bs):vJ [a,b,c]=Q1 (d' a&&d' b&&d' c):=by rw[V2 _ (by simp)];simp[gT]
def bo2(a b c d:bs):vJ [a,b,c,d]=Q1 (d' a&&d' b&&d' c&&d' d):=by rw[V2 _ (by simp)];simp[gT]
def bG3(a b c:bs):IZ (a,b,c)=Q1 (sP a b c):=by
 unfold IZ sP;simp only[ GS];cases h:(d' a&&d' b&&d' c)with
 |false=>simp
 |true =>simp only[ab]at h;simp only[aw,bu,Fa a b c h.1.1 h.1.2 h.2,bT,me]
def l7(a b c:bs):Int:=if 0<sP a b c then 1 else if sP a b c<0 then -1 else 0
def M8(a b c:bs):qR (a,b,c)=Q1 (l7 a b c):=by unfold qR l7;simp only[ bG3];by_cases h1:0<sP a b c;simp[h1];by_cases h2:sP a b c<0<;>simp[h1,h2]
theorem yP(a b:Int):bK qG a [b]=max a b:=by simp only[bK,qG];split<;>omega
def KS(a b:Int):bK w6 a [b]=min a b:=by simp only[bK,w6];split<;>omega
def sU(a b p:bs):Bool:=Eo (min a.1 b.1<=p.1)&&(Eo (p.1<=max a.1 b.1)&&(Eo (min a.2 b.2<=p.2)&&Eo (p.2<=max a.2 b.2)))
def mc(a b p:bs):Bool:=(d' a&&d' b&&d' p)&&(Eo (fr a b p=0)&&sU a b p)
def FH(a b p:bs):qV (a,b,p)=Q1 (mc a b p):=by
 unfold qV mc;simp only[ GS];cases h:(d' a&&d' b&&d' p)with
 |false=>simp
 |true =>simp only[ab]at h;simp only[ Fa a b p h.1.1 h.1.2 h.2,bT,yP,KS,sU];cases Eo (fr a b p=0)<;>cases Eo (min a.1 b.1<=p.1)<;>cases Eo (p.1<=max a.1 b.1)<;>cases Eo (min a.2 b.2<=p.2)<;>simp
def hU(a b:bs):Bool:=Eo (a.1<b.1)||(Eo (a.1=b.1)&&Eo (a.2<b.2))
def bp6(a b:bs):pb (a,b)=Q1 (hU a b):=by unfold pb hU;cases Eo (a.1<b.1)<;>cases Eo (a.1=b.1)<;>rfl
def mh(a b:bs):Bool:=Eo (a.1=b.1)&&Eo (a.2=b.2)
theorem pt(a b:bs):mh a b=No↔a=b:=by simp[mh,lh]
def p8(a b c d:bs):Int :=
 let e:=if hU b a then b else a
 let g:=if hU b a then a else b
 let h:=if hU d c then d else c
 let i:=if hU d c then c else d
 let f:=if hU e h then h else e
 let l:=if hU i g then i else g
 if mh f l then 1 else if hU f l then 2 else 0
def bp3(a b c d:bs):Fx (a,b,c,d)=Q1 (p8 a b c d):=by unfold Fx p8;have e:∀p q:bs,(Eo (p.1=q.1)&&Eo (p.2=q.2))=mh p q:=λ_ _=>rfl;have i:=λp q=>bp6 p q;simp only[ e];cases h1:hU b a<;>cases h2:hU d c<;>simp only[ me,l4,aG];cases g:hU a c<;>cases h:hU d b<;>simp only[ me,l4,aG];cases mh a b<;>cases f:hU a b<;>simp_all;cases mh a d<;>cases f:hU a d<;>simp_all;cases mh c b<;>cases f:hU c b<;>simp_all;cases mh c d<;>cases f:hU c d<;>simp_all;cases g:hU a d<;>cases h:hU c b<;>simp only[ me,l4,aG];cases mh a b<;>cases f:hU a b<;>simp_all;cases mh a c<;>cases f:hU a c<;>simp_all;cases mh d b<;>cases f:hU d b<;>simp_all;cases mh d c<;>cases f:hU d c<;>simp_all;cases g:hU b c<;>cases h:hU d a<;>simp only[ me,l4,aG];cases mh b a<;>cases f:hU b a<;>simp_all;cases mh b d<;>cases f:hU b d<;>simp_all;cases mh c a<;>cases f:hU c a<;>simp_all;cases mh c d<;>cases f:hU c d<;>simp_all;cases g:hU b d<;>cases h:hU c a<;>simp only[ me,l4,aG];cases mh b a<;>cases f:hU b a<;>simp_all;cases mh b c<;>cases f:hU b c<;>simp_all;cases mh d a<;>cases f:hU d a<;>simp_all;cases mh d c<;>cases f:hU d c<;>simp_all
def Wf(a b c:bs):l7 a b c=1\/l7 a b c=-1\/l7 a b c=0:=by unfold l7;split;exact .inl rfl;split;exact .inr (.inl rfl);exact .inr (.inr rfl)
def aP3(a b c d e f:bs):aa.wrap (l7 a b c*l7 d e f)=l7 a b c*l7 d e f:=by rcases Wf a b c with h|h|h<;>rcases Wf d e f with h'|h'|h'<;>rw[h,h']<;>exact fx (by decide) (by decide)
def oK(a b c d:bs):Int :=
 if d' a&&d' b&&d' c&&d' d then
  if mh a b then(if mc c d a then 1 else 0)else if mh c d then(if mc a b c then 1 else 0)else if l7 a b c=0/\l7 a b d=0 then p8 a b c d else if l7 a b c*l7 a b d<=0/\l7 c d a*l7 c d b<=0 then 1 else 0 else 0
def bJ6(a b c d:bs):FQ (a,b,c,d)=Q1 (oK a b c d):=by
 unfold FQ oK;have e:∀p q:bs,(Eo (p.1=q.1)&&Eo (p.2=q.2))=mh p q:=λ_ _=>rfl;have i:=λp q r=>FH p q r;have j:=λp q r=>M8 p q r;have k:=λp q r s=>bp3 p q r s;simp only[bT,bo2,e,i,j,k,aP3];cases h:(d' a&&d' b&&d' c&&d' d)with
 |false=>simp
 |true=>
  cases mh a b with
  |true=>cases mc c d a<;>simp
  |false=>
   cases mh c d with
   |true=>cases mc a b c<;>simp
   |false =>by_cases h1:l7 a b c=0;by_cases h2:l7 a b d=0;simp[h1,h2];by_cases f:l7 c d a*l7 c d b<=0<;>simp[h1,h2,f];by_cases g:l7 a b c*l7 a b d<=0;by_cases f:l7 c d a*l7 c d b<=0<;>simp[h1,g,f];simp[h1,g]
def oQ(o p:bs):Bool:=Eo (p.2<o.2)||(Eo (p.2=o.2)&&Eo (p.1<o.1))
def bG7(o p:bs):Bn (o,p)=Q1 (oQ o p):=by unfold Bn oQ;cases Eo (p.2<o.2)<;>cases Eo (p.2=o.2)<;>rfl
def oo(o a b:bs):Bool:=(d' o&&d' a&&d' b)&&(!mh a o&&(!mh b o&&(if oQ o a=oQ o b then Eo (0<fr o a b)else oQ o b)))
def bJ5(o a b:bs):BC (o,a,b)=Q1 (oo o a b):=by
 unfold BC oo;have e:∀p q:bs,(Eo (p.1=q.1)&&Eo (p.2=q.2))=mh p q:=λ_ _=>rfl;have c:=λp q=>bG7 p q;simp only[ GS,e,c];cases h:(d' o&&d' a&&d' b)with
 |false=>simp
 |true =>simp only[ab]at h;have d:=Fa o a b h.1.1 h.1.2 h.2;simp only[ d];cases mh a o<;>cases mh b o<;>cases oQ o a<;>cases oQ o b<;>simp
def na(ag:List ct)(id:Int):Nat:=(ag.map λa=>(if a.2.1=id then 1 else 0)+(if a.2.2.1=id then 1 else 0)).sum
def MR(al:List b9)(ag:List ct)(fs:List Int)(id:Int)(ha:ag.length<=1000000):Df ((al,ag,fs),id)=Q1 ((na ag id:Nat):Int):=by
 unfold Df;simp[bT];refine(mw (A:=Nat) ag (λi a=>((i:Int),(a:Int))) (λa rest=>Q1 ((a+na rest id:Nat):Int)) (λi a=>a<=2*i) (by omega) ?_ ?_ 0 (by omega)).trans (by simp);intro rec a c;simp[na];intro rec i a x rest a7 c hd b;have d:=f' a7 (show ag.length<2^62 by omega);have e:aa.wrap ((a:Int)+1)=((a+1:Nat):Int):=by rw[fx (by omega) (by omega)];omega
 have f:aa.wrap (((a+1:Nat):Int)+1)=((a+2:Nat):Int):=by rw[fx (by omega) (by omega)];omega
 simp only[fB a7,b6,h0 hd,bT,d,e,f];by_cases h1:x.2.1=id<;>by_cases h2:x.2.2.1=id;simp only[h1,h2,l6,b6];rw[b _ (by omega)];simp only[na,au,de,h1,h2,me];congr 2;omega;simp only[h1,h2,l6,n4,b6,bu];rw[b _ (by omega)];simp only[na,au,de,h1,h2,me,l4];congr 2;omega;simp only[h1,h2,l6,n4,b6,bu];rw[b _ (by omega)];simp only[na,au,de,h1,h2,me,l4];congr 2;omega;simp only[h1,h2,l6,n4,b6,bu];rw[b _ (by omega)];simp only[na,au,de,h1,h2,me,l4];congr 2;omega
def qM:List Int->Bool
 | []=>No
 | [_]=>No
 |a::b::l=>Eo (a<b)&&qM (b::l)
def MD(xs:List Int)(hl:xs.length<2^62):C9 xs=Q1 (qM xs):=by
 unfold C9;cases xs;exact Dh λrec=>by simp[qM]
 rename_i y ys;simp[aC]at hl;refine(mw (A:=Int) ys (λi a=>((i:Int)+1)) (λa rest=>Q1 (qM (a::rest))) (λi a=>(y::ys)[i]?=Q1 a) (by omega) ?_ ?_ y rfl).trans rfl;intro rec a b;simp[qM];intro rec i a x rest a7 b hd d;have e:Eo ((i:Int)+1<(((y::ys).length:Nat):Int))=No:=by simp[aC,kA];omega
 have f:aa.wrap ((i:Int)+1-1)=((i:Nat):Int):=by rw[fx (by omega) (by omega)];omega
 have g:aa.wrap ((i:Int)+1+1)=((i+1:Nat):Int)+1:=by rw[fx (by omega) (by omega)];omega
 have c:nth (y::ys) ((i:Int)+1)=Q1 x:=by
  have:((i:Int)+1)=((i+1:Nat):Int):=by omega
  rw[this,lQ,aF,<-lQ,h0 hd]
 simp only[bT,e,b6,f,lQ,b,c,g];have j:(y::ys)[i+1]?=Q1 x:=by rw[<-lQ];rw[<-c];congr 1
 rw[d x j];by_cases h:x<=a;have:¬a<x:=by omega
 simp[h,qM,this];have:a<x:=by omega
 simp[h,qM,this]
def pathOf(al:List b9)(ag:List ct)(id:Int):Option (List bs):=match px ag id with
 |none=>Ld
 |some a=>match nQ al a.2.1,nQ al a.2.2.1 with
  |some f,Q1 t=>Q1 (f.2::(a.2.2.2.1++[t.2]))
  |_,_=>Ld
def aZ8{α:Type}{z:α}{n:Int}(cu:0<n)(h1:n<=1000000):GZ 16 z n=Q1 (List.replicate n.toNat z):=by
 unfold GZ;have a:Eo (aa.wrap n=n)=No:=by rw[fx (by omega) (by omega)];simp
 have b:Eo (0<n)=No:=by simpa using cu
 have c:Eo ((2*n.toNat+1000)*16<=2^48)=No:=by simp[kA];omega
 have d:Eo (n.toNat<=2^62)=No:=by simp[kA];omega
 rw[a,b,c,d];rfl
theorem FG{ag:List ct}{id:Int}{a:ct}(h:px ag id=Q1 a):a∈ag:=aX h
def V1(al:List b9)(ag:List ct)(fs:List Int)(id:Int)(m:al.length<=1000000)(ha:ag.length<=1000000)(hv:∀a∈ag,a.2.2.2.1.length<=900000) :
  wE ((al,ag,fs),id)=Q1 (match pathOf al ag id with|some l=>(l,0)|none=>([],7)):=by
 unfold wE;simp only[WI al ag fs _ (show ag.length<2^62 by omega) (λa h=>by have:=hv a h;omega),M9 al ag fs _ (show al.length<2^62 by omega),bT];unfold pathOf;cases c:px ag id with
 |none=>simp
 |some a=>
  have b:=hv a (FG c);simp only[aw,bu];cases dC:nQ al a.2.1 with
  |none=>simp
  |some f=>
   simp only[aw,bu];cases cb:nQ al a.2.2.1 with
   |none=>simp
   |some t=>
    simp only[aw,bu];generalize n:a.2.2.2.1=via at b;have d:aa.wrap (1+(via.length:Int))=1+via.length:=fx (by omega) (by omega);have e:aa.wrap (1+(via.length:Int)+1)=via.length+2:=by rw[fx (by omega) (by omega)];omega
    have g:Eo (1+(via.length:Int)<0)=N2:=by simp[sG];omega
    have i:Eo ((via.length:Int)+2<0)=N2:=by simp[sG];omega
    have j:aa.wrap ((via.length:Int)+2-0)=via.length+2:=by rw[fx (by omega) (by omega)];omega
    have k:Eo (0<(via.length:Int)+2)=No:=by simp[kA];omega
    simp only[d,e,g,i,j,k,bu,b6];rw[aZ8 (by omega) (by omega)];simp[bT];rw[m9 (by omega) (by simp)];simp[bT,cG];rw[m9 (by omega) (by simp;omega)];simp[bT];rw[m9 (by omega) (by simp;omega)];simp
def Ya{al:List b9}{ag:List ct}{id:Int}{l:List bs}(h:pathOf al ag id=Q1 l):∃a,px ag id=Q1 a/\l.length=a.2.2.2.1.length+2:=by unfold pathOf at h;split at h;cases h;rename_i a ha;split at h;cases h;exact⟨a,ha,by simp⟩;cases h
def qL(n:Int):Bool:=Eo (1<=n)&&Eo (n<=1073741824)
def Mx(xs:List Int)(hl:xs.length<2^62):C7 xs=Q1 (xs.all qL):=by
 unfold C7;have h1:∀n,Ii n=Q1 (!(qL n)):=λn=>by
  unfold Ii qL;by_cases h1:n<1;have:¬ 1<=n:=by omega
  simp[h1,this];have b:1<=n:=by omega
  by_cases h2:1073741824<n;have:¬n<=1073741824:=by omega
  simp[h1,h2,b,this];have:n<=1073741824:=by omega
  simp[h1,h2,b,this]
 have h2:G9 (xs,())=Q1 (!(xs.all qL)):=by unfold G9;simp;refine(mP (A:=Unit) xs (λi _=>(i:Int)) (λ_ rest=>Q1 (!(rest.all qL))) (by omega) ?_ ?_ ()).trans rfl;intro rec a;simp;intro rec i a x rest a7 hd c;simp only[fB a7,b6,h0 hd,bT,f' a7 hl,h1];rw[c ()];cases h:qL x<;>simp[bU,h]
 simp[h2,bT,Bool.not_not]
def lR(p:bs):Bool:=Eo (-1048576<=p.1)&&Eo (p.1<=1048576)&&Eo (-1048576<=p.2)&&Eo (p.2<=1048576)
def rS{p:bs}(h:lR p=No):d' p=No:=by simp[lR,ab,kA]at h;rw[wH];omega
def Vl(p:bs):C8 p=Q1 (!(lR p)):=by
 unfold C8 lR;by_cases h1:p.1 < -1048576;have:¬ -1048576<=p.1:=by omega
 simp[h1,this];by_cases h2:1048576<p.1;have:¬p.1<=1048576:=by omega
 simp[h1,h2,this];by_cases a:p.2 < -1048576;have:¬ -1048576<=p.2:=by omega
 simp[h1,h2,a,this];have c:-1048576<=p.1:=by omega
 have a2:p.1<=1048576:=by omega
 have a3:-1048576<=p.2:=by omega
 by_cases b:1048576<p.2;have:¬p.2<=1048576:=by omega
 simp[h1,h2,a,b,this];have:p.2<=1048576:=by omega
 simp[h1,h2,a,b,c,a2,a3,this]
def bo4(l:List bs)(hl:l.length<2^62):G5 (l,())=Q1 (!(l.all lR)):=by unfold G5;simp;refine(mP (A:=Unit) l (λi _=>(i:Int)) (λ_ rest=>Q1 (!(rest.all lR))) (by omega) ?_ ?_ ()).trans rfl;intro rec a;simp;intro rec i a x rest a7 hd b;have e:C8 x=Q1 (!(lR x)):=Vl x;simp only[fB a7,b6,h0 hd,bT,f' a7 hl,e];rw[b ()];cases h:lR x<;>simp[bU,h]
def bp8(al:List b9)(ag:List ct)(fs:List Int)(c:al.length<=1000000)(ha:ag.length<=1000000)(hv:∀a∈ag,a.2.2.2.1.length<=900000) :
  IM (al,ag,fs)=Q1 ((al.all λn=>lR n.2)&&(ag.all λa=>a.2.2.2.1.all lR)):=by
 unfold IM;simp;refine(mP (A:=Unit) al (λi _=>(i:Int)) (λ_ rest=>Q1 ((rest.all λn=>lR n.2)&&(ag.all λa=>a.2.2.2.1.all lR))) (by omega) ?_ ?_ ()).trans rfl;intro rec a;simp[bu,gp,cZ];refine(mP (A:=Unit) ag (λi _=>(i:Int)) (λ_ rest=>Q1 (rest.all λa=>a.2.2.2.1.all lR)) (by omega) ?_ ?_ ()).trans rfl;intro rec a;simp;intro rec i a x rest a7 hd b;have d:=hv x (rl hd).2.2;simp only[fB a7,b6,h0 hd,bT,f' a7 (show ag.length<2^62 by omega),bo4 x.2.2.2.1 (by omega)];rw[b ()];cases h:x.2.2.2.1.all lR<;>simp[h];intro rec i a x rest a7 hd b;simp only[fB a7,b6,h0 hd,bT,f' a7 (show al.length<2^62 by omega),Vl];rw[b ()];cases h:lR x.2<;>simp[h]
def GH(n m:b9):Bool:=mh n.2 m.2
def sC:List b9->List b9->Bool
 |_,[]=>N2
 |pre,n::rest=>pre.any (GH n)||sC (pre++[n]) rest
def vP(al:List b9)(ag:List ct)(fs nodes:List Int):Int :=bif sC [] al then 8 else bif ag.any (λa=>!(Eo (a.2.1∈nodes)&&Eo (a.2.2.1∈nodes)))then 7 else bif ag.any (λa=>!((Eo (a.2.2.2.2.1=0)||Eo (a.2.2.2.2.1∈fs))&&(Eo (a.2.2.2.2.2=0)||Eo (a.2.2.2.2.2∈fs))))then 12 else 0
def bm1(al:List b9)(ag:List ct)(fs nodes:List Int)(s:al.length<=1000000)(ha:ag.length<=1000000)(hf:fs.length<=1000000)(m:nodes.length<=1000000) :
  Is ((al,ag,fs),nodes)=Q1 (vP al ag fs nodes):=by
 have c:∀y,wo (nodes,y)=Q1 (Eo (y∈nodes)):=λy=>HC nodes y (by omega);have d:∀y,wo (fs,y)=Q1 (Eo (y∈fs)):=λy=>HC fs y (by omega);unfold Is;simp only[bT,c,d];refine(mP (A:=Unit) al (λi _=>(i:Int)) (λ_ rest=>Q1 (bif sC (al.take (al.length-rest.length)) rest then 8 else bif ag.any (λa=>!(Eo (a.2.1∈nodes)&&Eo (a.2.2.1∈nodes)))then 7 else bif ag.any (λa=>!((Eo (a.2.2.2.2.1=0)||Eo (a.2.2.2.2.1∈fs))&&(Eo (a.2.2.2.2.2=0)||Eo (a.2.2.2.2.2∈fs))))then 12 else 0)) (by omega) ?_ ?_ ()).trans (by simp[vP])
 .intro rec u
  simp only[kj,bu,sC,bu];refine(mP (A:=Unit) ag (λi _=>(i:Int)) (λ_ rest=>Q1 (bif rest.any (λa=>!(Eo (a.2.1∈nodes)&&Eo (a.2.2.1∈nodes)))then 7 else bif ag.any (λa=>!((Eo (a.2.2.2.2.1=0)||Eo (a.2.2.2.2.1∈fs))&&(Eo (a.2.2.2.2.2=0)||Eo (a.2.2.2.2.2∈fs))))then 12 else 0)) (by omega) ?_ ?_ ()).trans rfl
  .intro rec u
   simp only[kj,bu,jg,bu];refine(mP (A:=Unit) ag (λi _=>(i:Int)) (λ_ rest=>Q1 (bif rest.any (λa=>!((Eo (a.2.2.2.2.1=0)||Eo (a.2.2.2.2.1∈fs))&&(Eo (a.2.2.2.2.2=0)||Eo (a.2.2.2.2.2∈fs))))then 12 else 0)) (by omega) ?_ ?_ ()).trans rfl
   .intro rec u
    simp
   intro rec i u x rest a7 hd b;simp only[fB a7,b6,h0 hd,bT,f' a7 (show ag.length<2^62 by omega)];rw[b ()]
   grind
  intro rec i u x rest a7 hd b;simp only[fB a7,b6,h0 hd,bT,f' a7 (show ag.length<2^62 by omega)];rw[b ()]
  grind
 intro rec i u x rest a7 hd b;have n:=rl hd;have o:al.length-(x::rest).length=i:=by simp;omega
 have p:al.length-rest.length=i+1:=by omega
 have q:al.take (i+1)=al.take i++[x]:=by grind
 simp only[fB a7,b6,h0 hd,bT,f' a7 (show al.length<2^62 by omega),N0 (Nat.le_of_lt a7)];simp only[o,sC];have e:=b ();rw[p,q]at e;have f:(al.take i).length<2^62:=by simp;omega
 refine(mP (A:=Unit) (al.take i) (λi _=>(i:Int)) (λ_ k=>Q1 (bif (k.any (GH x)||sC (al.take i++[x]) rest)then 8 else bif ag.any (λa=>!(Eo (a.2.1∈nodes)&&Eo (a.2.2.1∈nodes)))then 7 else bif ag.any (λa=>!((Eo (a.2.2.2.2.1=0)||Eo (a.2.2.2.2.1∈fs))&&(Eo (a.2.2.2.2.2=0)||Eo (a.2.2.2.2.2∈fs))))then 12 else 0)) (by omega) ?_ ?_ ()).trans rfl
 .grind
 intro l j u y k hj g h;have r:(Eo (x.2.1=y.2.1)&&Eo (x.2.2=y.2.2))=GH x y:=rfl;simp only[fB hj,b6,h0 g,bT,f' hj f,r];rw[h ()]
 grind
abbrev Hu:=Int×Int×Int×List bs×Int×Int×List bs
abbrev fy:=Hu×Int
def Hu.path(l:Hu):List bs:=l.2.2.2.2.2.2
def mF(a:ct)(l:List bs):Hu:=(a.1,a.2.1,a.2.2.1,a.2.2.2.1,a.2.2.2.2.1,a.2.2.2.2.2,l)
def pf(a:ct)(l:List bs):List fy:=(aN (l.length-1)).map λ(i:Nat)=>(mF a l,(i:Int))
def qt:List bs->Bool
 | []=>No
 | [_]=>No
 |p::q::l=>!(mh p q)&&qt (q::l)
def my(al:List b9)(ag:List ct):List ct->Option (List fy)
 | []=>Q1 []
 |a::b=>match pathOf al ag a.1 with
  |none=>Ld
  |some l=>bif (Eo (a.2.1=a.2.2.1)&&Eo (l.length<4))||!(qt l)then Ld else match my al ag b with
   |some r=>Q1 (pf a l++r)
   |none=>Ld
def bb0{β:Type}(a:ct)(l:List bs)(acc:List fy)(K:List fy×Int->Option β)(bad:β)(hl:l.length<=1000000)(f:2<=l.length)(w:acc.length<=300000000) :
  rounds (α:=List ((Int×Int×Int×List (Int×Int)×Int×Int×List (Int×Int))×Int)×Int) (β:=β) (λk x=>
    a8 (Q1 (Eo (x.2<aa.wrap ((l.length:Int)-1)))) λg=>
    bif g then(
     a8 (nth l x.2) λm=>
     a8 (Q1 (aa.wrap (x.2+(1:Int)))) λn=>
     a8 (nth l n) λo=>
     a8 (Q1 ((λ(a b:Int×Int)=>(Eo (a.1=b.1)&&Eo (a.2=b.2))) m o)) λq=>
     bif q then(
     Q1 bad)else(
     a8 (j6 16 x.1 [((a.1,a.2.1,a.2.2.1,a.2.2.2.1,a.2.2.2.2.1,a.2.2.2.2.2,l),x.2)]) λr=>
     a8 (Q1 (aa.wrap (x.2+(1:Int)))) λt=>
     k (r,t)))else K x) (acc,(0:Int))=bif qt l then K (acc++pf a l,(l.length:Int)-1)else Q1 bad:=by
 cases l;simp at f;rename_i p c;simp only[aC]at hl f;have C:aa.wrap (((p::c).length:Nat)-1:Int)=(c.length:Int):=by rw[aC,fx (by omega) (by omega)];omega
 simp only[bT,C];refine(mw (A:=List fy) c (λi s=>(s,(i:Int))) (λs rest=>bif qt ((p::c).drop (c.length-rest.length))then K (acc++pf a (p::c),(c.length:Int))else Q1 bad)
  (λi s=>s=acc++(aN i).map λ(j:Nat)=>(mF a (p::c),(j:Int))) (by omega) ?_ ?_ acc (by simp)).trans (by
   have:(((p::c).length:Nat):Int)-1=c.length:=by rw[aC];omega
   rw[this];simp)
 intro rec s hs;have u:qt ((p::c).drop c.length)=No:=by
  have:((p::c).drop c.length).length=1:=by simp
  match h:(p::c).drop c.length,this with
  | [x],_=>rfl
 simp only[kj,dy,Nat.sub_zero,u];subst hs;rfl;intro rec i s x rest a7 z hd D;have E:=rl hd;have e:c.length-(x::rest).length=i:=by simp;omega
 have d:c.length-rest.length=i+1:=by omega
 have u:nth (p::c) (i:Int)=Q1 ((p::c)[i]'(by simp;omega)):=by rw[lQ];exact af _
 have G:nth (p::c) ((i+1:Nat):Int)=Q1 x:=by rw[lQ,aF,<-lQ];exact h0 hd
 have H:=f' a7 (show c.length<2^62 by omega);have B:(p::c).drop (i+1)=x::rest:=by simpa using hd
 have v:(p::c).drop i=(p::c)[i]'(by simp;omega)::x::rest:=by rw[List.drop_eq_getElem_cons (by simp;omega),B]
 rw[e,v];have hlen:s.length<=300000000+i:=by rw[z];simp;omega
 simp only[fB a7,u,H,G];rw[m9 (by omega) (by simp;omega)];have I:(Eo (((p::c)[i]'(by simp;omega)).1=x.1)&&Eo (((p::c)[i]'(by simp;omega)).2=x.2))=mh ((p::c)[i]'(by simp;omega)) x:=rfl;simp only[bT,I];rw[D _ (by rw[z,dH,ez];simp[mF]),d,B];simp only[qt];cases mh ((p::c)[i]'(by simp;omega)) x<;>simp
structure vv(s:fy):Prop where
 b7:0<=s.2
 a7:s.2+1<s.1.path.length
 len:s.1.path.length<=1000000
def hi(s:fy):bs:=(s.1.path[s.2.toNat]?).getD (0,0)
def gl(s:fy):bs:=(s.1.path[s.2.toNat+1]?).getD (0,0)
def Ge{s:fy}(h:vv s):uh s=Q1 (hi s,gl s):=by
 obtain⟨l,i⟩:=s;obtain⟨h1,h2,a⟩:=h;simp only at h1 h2 a;unfold uh hi gl;have b:aa.wrap (i+1)=i+1:=fx (by omega) (by omega);have c:nth l.path i=Q1 (l.path[i.toNat]'(by omega)):=by rw[aD4 h1];exact af _
 have d:nth l.path (i+1)=Q1 (l.path[i.toNat+1]'(by omega)):=by
  rw[aD4 (by omega)];have:(i+1).toNat=i.toNat+1:=by omega
  rw[this];exact af _
 simp only[ b];show a8 (nth l.path i) _=_;rw[c];show a8 (nth l.path (i+1)) _=_;rw[d];have e:l.path[i.toNat]?=Q1 (l.path[i.toNat]'(by omega)):=af _;have f:l.path[i.toNat+1]?=Q1 (l.path[i.toNat+1]'(by omega)):=af _;rw[e,f];rfl
def qu(s:fy):Int:=min (hi s).1 (gl s).1
def Co(s:fy):Int:=max (hi s).1 (gl s).1
def PR{s:fy}(h:vv s):yj s=Q1 (qu s):=by unfold yj;have:=Ge h;simp only[this,KS];rfl
def aY0{s:fy}(h:vv s):EY s=Q1 (Co s):=by unfold EY;have:=Ge h;simp only[this,yP];rfl
def tP(s:fy):Bool:=Eo (s.2=0)
def th(s:fy):Bool:=Eo (s.2=(s.1.path.length:Int)-2)
def aq6(s:fy):yd s=Q1 (tP s):=by unfold yd tP;simp
def P8{s:fy}(h:vv s):wq s=Q1 (th s):=by unfold wq th;have hl:=h.len;have e:aa.wrap ((s.1.path.length:Int)-2)=(s.1.path.length:Int)-2:=fx (by omega) (by omega);show Q1 (Eo (s.2=aa.wrap ((s.1.path.length:Int)-2)))=_;rw[e]
def xw{a:ct}{l:List bs}{s:fy}(h:s∈pf a l):∃i:Nat,i+1<l.length/\s=(mF a l,(i:Int)):=by obtain⟨i,a7,rfl⟩:=aM.1 h;rw[gw]at a7;exact⟨i,by omega,rfl⟩
def aK2{a:ct}{l:List bs}(hl:l.length<=1000000){s:fy}(h:s∈pf a l):vv s:=by obtain⟨i,a7,rfl⟩:=xw h;exact⟨by simp,by show((i:Int)+1<(l.length:Int));omega,hl⟩
def Bt{al:List b9}{ag:List ct}:∀ {l:List ct} {r:List fy},my al ag l=Q1 r->∀s∈r,∃a∈l,∃p,pathOf al ag a.1=Q1 p/\s∈pf a p
 | [],r,h,s,hs=>by simp[my]at h;subst h;simp at hs
 |a::l,r,h,s,hs=>by
  unfold my at h;split at h;cases h;rename_i p hp;cases hc:((Eo (a.2.1=a.2.2.1)&&Eo (p.length<4))||!(qt p))with
  |true=>rw[hc]at h;cases h
  |false=>
   rw[hc]at h;split at h;rename_i d b;cases h;rcases aY.1 hs with hs|hs
   exact⟨a,by simp,p,hp,hs⟩;obtain⟨c,h1,h2⟩:=Bt b s hs;exact⟨c,by simp[h1],h2⟩;cases h
def mkMap(al:List b9)(m:List (Int×bs)):List (Int×bs):=al.foldl (λm n=>mI (λ(a b:Int)=>Eo (a=b)) n.1 n.2 m) m
abbrev gd:Int->Int->Bool:=λa b=>Eo (a=b)
def Eh(a b:Int):gd a b=Eo (a=b):=rfl
theorem rV{V:Type}(k a:Int)(v:V):∀m:List (Int×V),fh gd k (mI gd a v m)=if k=a then Q1 v else fh gd k m
 | []=>by by_cases h:k=a<;>simp[mI,fh]
 |p::m=>by have b:=rV k a v m;simp only[mI];by_cases h1:a=p.1;simp only[h1,l6,b6,fh,Eh];by_cases h:k=p.1<;>simp[h];simp only[h1,n4,bu,fh,Eh];by_cases h:k=p.1;simp[h];exact λe=>b8 e.symm h1;simp[h];exact b
theorem Ja(k:Int):∀(al:List b9) (m:List (Int×bs)),(∀n∈al,k≠n.1)->fh gd k (mkMap al m)=fh gd k m
 | [],m,_=>rfl
 |n::al,m,h=>by have a:=Ja k al (mI gd n.1 n.2 m) (λx b=>h x (by simp[b]));show fh gd k (mkMap al (mI gd n.1 n.2 m))=_;rw[a,rV,cc (h n (by simp))]
def nv(m:List (Int×bs))(id:Int):bs:=(fh gd id m).getD (0,0)
def qx(s t:fy)(m:List (Int×bs)):Bool :=
 let c:=oK (hi s) (gl s) (hi t) (gl t)
 bif Eo (s.1.1=t.1.1)then
  (bif Eo (t.2<s.2)then
   (bif Eo (t.2+1=s.2)||(Eo (t.1.2.1=t.1.2.2.1)&&(tP t&&th s))then Eo (c=1)else Eo (c=0))else(bif Eo (s.2+1=t.2)||(Eo (s.1.2.1=s.1.2.2.1)&&(tP s&&th t))then Eo (c=1)else Eo (c=0)))else bif Eo (c=1)then
  ((Eo (s.1.2.1=t.1.2.1)||Eo (s.1.2.1=t.1.2.2.1))&&(mc (hi s) (gl s) (nv m s.1.2.1)&&mc (hi t) (gl t) (nv m s.1.2.1))) ||
  ((Eo (s.1.2.2.1=t.1.2.1)||Eo (s.1.2.2.1=t.1.2.2.1))&&(mc (hi s) (gl s) (nv m s.1.2.2.1)&&mc (hi t) (gl t) (nv m s.1.2.2.1)))else Eo (c=0)
def aE5(m:List (Int×bs))(id:Int):oD (fh (λ(a b:Int)=>Eo (a=b)) id m) (Q1 ((0:Int),(0:Int)))=Q1 (nv m id):=by unfold nv;cases fh gd id m<;>rfl
def bG0{s t:fy}(hs:vv s)(e:vv t)(m:List (Int×bs)):E_ (s,t,m)=Q1 (qx s t m):=by have f:=hs.a7;have g:=e.a7;have h:=hs.len;have i:=e.len;have j:=hs.b7;have k:=e.b7;have l:=Ge hs;have n:=Ge e;have o:=λa b c d=>bJ6 a b c d;have p:=λa b c=>FH a b c;have q:=λs=>aq6 s;have r:=P8 hs;have u:=P8 e;have v:aa.wrap (t.2+1)=t.2+1:=fx (by omega) (by omega);have w:aa.wrap (s.2+1)=s.2+1:=fx (by omega) (by omega);unfold E_ qx;simp only[l,n,o,p,q,r,u,v,w,bT,aE5];generalize oK (hi s) (gl s) (hi t) (gl t)=c;generalize mc (hi s) (gl s) (nv m s.1.2.1)=o1;generalize mc (hi t) (gl t) (nv m s.1.2.1)=o2;generalize mc (hi s) (gl s) (nv m s.1.2.2.1)=o3;generalize mc (hi t) (gl t) (nv m s.1.2.2.1)=o4;generalize tP s=f1;generalize tP t=f2;generalize th s=l2;generalize th t=mi;generalize Eo (s.1.2.1=t.1.2.1)=d1;generalize Eo (s.1.2.1=t.1.2.2.1)=d2;generalize Eo (s.1.2.2.1=t.1.2.1)=d3;generalize Eo (s.1.2.2.1=t.1.2.2.1)=d4;generalize Eo (c=1)=c1;generalize Eo (t.2+1=s.2)=g1;generalize Eo (s.2+1=t.2)=g2;generalize Eo (s.1.2.1=s.1.2.2.1)=g3;generalize Eo (t.1.2.1=t.1.2.2.1)=g4;generalize Eo (t.2<s.2)=g5;cases Eo (s.1.1=t.1.1);cases c1;rfl;cases d1<;>cases d2<;>cases d3<;>cases d4<;>cases o1<;>cases o2<;>cases o3<;>cases o4<;>rfl;cases g5;cases g2<;>cases g3<;>cases f1<;>cases mi<;>rfl;cases g1<;>cases g4<;>cases f2<;>cases l2<;>rfl
open Go.Proofs Go.Shelf Go.Sort
def A_(a b:Int):Int:=if a<b then -1 else if b<a then 1 else 0
def cmp_eq(a b:Int):CG (a,b)=Q1 (A_ a b):=by
 have h:∀n,Ey n=Q1 N2:=λn=>by unfold Ey;simp
 unfold CG A_;simp only[h];by_cases h1:a<b;simp[h1];by_cases h2:b<a<;>simp[h1,h2]
theorem uk{a b:Int}:A_ a b<0↔a<b:=by unfold A_;by_cases h1:a<b;simp[h1];by_cases h2:b<a<;>simp[h1,h2]
def p2(s t:fy):Int:=A_ (qu s) (qu t)
def vA(l:List fy):Ordered p2 l :=IX (λx _=>by unfold p2;rw[uk];omega) (λx _ y _ z _ a b=>by unfold p2 at *;rw[uk]at *;omega) (λx _ y _ z _ a b=>by unfold p2 at *;rw[uk]at *;omega)
def bK3{l:List fy}(hs:∀s∈l,vv s)(hl:l.length<4611686018427387904):G8 (l,2,())=Q1 (oy p2 l):=by refine Jw (λx a y b=>?_) (vA l) hl;unfold Iw;have c:=PR (hs x a);have d:=PR (hs y b);simp only[c,d,cmp_eq];rfl
def p6(s:fy)(n:b9):Bool:=!(mc (hi s) (gl s) n.2)||((tP s&&Eo (s.1.2.1=n.1))||(th s&&Eo (s.1.2.2.1=n.1)))
def wU(s:fy)(m:List (Int×bs)):List fy->Bool
 | []=>No
 |t::r=>bif Eo (Co s<qu t)then No else qx s t m&&wU s m r
def tV(al:List b9)(m:List (Int×bs)):List fy->Bool
 | []=>No
 |s::r=>wU s m r&&(al.all (p6 s)&&tV al m r)
def u_(al:List b9)(ag:List ct):Bool:=match my al ag ag with
 |none=>N2
 |some l=>tV al (mkMap al []) (oy p2 l)
def aJ3(al:List b9)(I:al.length<=1000000){s:fy}(hs:vv s)(K:Option Bool) :
  rounds (α:=Int) (β:=Bool) (λk x=>
   a8 (Q1 (Eo (x<(al.length:Int)))) λp=>
   bif p then(
    a8 (nth al x) λe=>
    a8 (uh s) λn=>
    a8 (qV (n.1,n.2,e.2)) λq=>
    bif q then(
    a8 (yd s) λg=>
    bif g then(
     a8 (Q1 s.1) λh=>
     a8 (Q1 (Eo (h.2.1=e.1))) λr=>
     a8 (Q1 (!(r))) λj=>
     bif j then(
     a8 (wq s) λd=>
     bif d then(
      a8 (Q1 s.1) λm=>
      a8 (Q1 (Eo (m.2.2.1=e.1))) λt=>
      a8 (Q1 (!(t))) λv=>
      bif v then(
      Q1 N2)else(
      a8 (Q1 (aa.wrap (x+(1:Int)))) λw=>
      k w))else(
      Q1 N2))else(
     a8 (Q1 (aa.wrap (x+(1:Int)))) λd=>
     k d))else(
     a8 (wq s) λh=>
     bif h then(
     a8 (Q1 s.1) λz=>
     a8 (Q1 (Eo (z.2.2.1=e.1))) λj=>
     a8 (Q1 (!(j))) λd=>
     bif d then(
      Q1 N2)else(
      a8 (Q1 (aa.wrap (x+(1:Int)))) λm=>
      k m))else(
     Q1 N2)))else(
    a8 (Q1 (aa.wrap (x+(1:Int)))) λg=>
    k g))else K) (0:Int)=bif al.all (p6 s)then K else Q1 N2:=by
 have B:=Ge hs;have C:=λa b c=>FH a b c;have D:=aq6 s;have E:=P8 hs;refine(mP (A:=Unit) al (λi _=>(i:Int)) (λ_ rest=>bif rest.all (p6 s)then K else Q1 N2) (by omega) ?_ ?_ ()).trans rfl;simp;intro rec i u x rest a7 hd G;have H:qV (((hi s).1,(hi s).2),((gl s).1,(gl s).2),x.2)=Q1 (mc (hi s) (gl s) x.2):=C _ _ x.2;simp only[fB a7,h0 hd,bT,f' a7 (show al.length<2^62 by omega),B,D,E,H];rw[G (),bU];unfold p6;generalize mc (hi s) (gl s) x.2=o;generalize tP s=f;generalize th s=l;generalize Eo (s.1.2.1=x.1)=d1;generalize Eo (s.1.2.2.1=x.1)=d2;cases o<;>cases f<;>cases l<;>cases d1<;>cases d2<;>rfl
theorem Du(a:ct)(l:List bs):(pf a l).length=l.length-1:=by simp[pf]
def bS3(al:List b9){β:Type}(k:al.length<=1000000)(K:Int×List (Int×bs)->Option β) :
  rounds (α:=Int×List (Int×(Int×Int))) (β:=β) (λh d=>
   a8 (Q1 (Eo (d.1<(al.length:Int)))) λe=>
   bif e then(
   a8 (nth al d.1) λc=>
   a8 (Q1 (mI (λ(a b:Int)=>Eo (a=b)) c.1 c.2 d.2)) λf=>
   a8 (Q1 (aa.wrap (d.1+(1:Int)))) λg=>
   h (g,f))else K d) ((0:Int),([]:List (Int×(Int×Int))))=K ((al.length:Int),mkMap al []):=by
 refine(mP (A:=List (Int×bs)) al (λi m=>((i:Int),m)) (λm rest=>K ((al.length:Int),mkMap rest m)) (by omega) ?_ ?_ []).trans rfl;simp[mkMap];intro rec i m x rest a7 hd j;simp only[fB a7,h0 hd,bT,f' a7 (show al.length<2^62 by omega)];rw[j];rfl
def bp7(al:List b9)(ag:List ct)(fs:List Int)(hn:al.length<=1000)(ha:ag.length<=1000)(hv:∀a∈ag,a.2.2.2.1.length<=1000):II (al,ag,fs)=Q1 (u_ al ag):=by
 have f:∀id,wE ((al,ag,fs),id)=Q1 (match pathOf al ag id with|some l=>(l,0)|none=>([],7)):=λid=>V1 al ag fs id (by omega) (by omega) (λa h=>by have:=hv a h;omega);have g:∀id l,pathOf al ag id=Q1 l->2<=l.length/\l.length<=1002:=λid l h=>by obtain⟨a,h1,h2⟩:=Ya h;have:=hv a (FG h1);omega
 have n:=λK=>bS3 al (β:=Bool) (by omega) K;have alone:=λ(s:fy) (hs:vv s) K=>aJ3 al (by omega) hs K;have b:=λ(a:ct) (l:List bs) (acc:List fy) (h1:l.length<=1000000) (h2:2<=l.length) (P:acc.length<=300000000) K=>bb0 (β:=Bool) a l acc K N2 h1 h2 P;simp only[bT]at n alone b;unfold II u_;simp only[bT,f];refine(mw (A:=List fy) ag (λi s=>(s,(i:Int))) (λs rest=>Q1 (match my al ag rest with|none=>N2|some l=>tV al (mkMap al []) (oy p2 (s++l)))) (λi s=>s.length<=1002*i/\∀x∈s,vv x) (by omega) ?_ ?_ [] ⟨by simp,by simp⟩).trans (by simp);intro rec s E;simp only[kj,bu,my,bD];refine(n _).trans ?_;obtain⟨G,e⟩:=E;have hlen:s.length<=1002000:=by have:1002*ag.length<=1002*1000:=jR _ ha;omega
 simp only[bT,bK3 e (by omega)];have c:=tG (vA s);have k:∀x∈oy p2 s,vv x:=λx m=>e x (c.mem_iff.1 m);have o:(oy p2 s).length<=1002000:=by rw[c.length_eq];exact hlen
 generalize oy p2 s=l at k o;refine(mP (A:=Unit) l (λi _=>(i:Int)) (λ_ rest=>Q1 (tV al (mkMap al []) rest)) (by omega) ?_ ?_ ()).trans rfl;intro rec u;simp[tV];intro rec i u x rest a7 hd C;have H:=rl hd;have m:=k x H.2.2;have d:l.drop (i+1)=rest:=by have:=lU kp hd;simpa using this
 have I:tx l (Q1 ((i+1:Nat):Int)) Ld=Q1 rest:=by
  rw[af1 (by omega) (by omega)];have:((i+1:Nat):Int).toNat=i+1:=by omega
  rw[this,d]
 simp only[fB a7,b6,h0 hd,bT,f' a7 (show l.length<2^62 by omega),I];have p:∀t∈rest,vv t:=λt q=>k t (by rw[<-d]at q;exact ao q);have hK:∀v,rec v=rec v:=λ_=>rfl;refine(mP (A:=Unit) rest (λj _=>(j:Int)) (λ_ r=>bif wU x (mkMap al []) r then(bif al.all (p6 x)then Q1 (tV al (mkMap al []) rest)else Q1 N2)else Q1 N2) (by omega) ?_ ?_ ()).trans ?_;intro w u;simp only[kj,bu,wU,b6];rw[alone x m,C ()];intro w j u t r hj z J;have q:=p t (rl z).2.2;have Q:yj t=Q1 (qu t):=PR q;have R:EY x=Q1 (Co x):=aY0 m;have S:E_ (x,t,mkMap al [])=Q1 (qx x t (mkMap al [])):=bG0 m q _;simp only[fB hj,b6,h0 z,bT,f' hj (show rest.length<2^62 by omega),Q,R,S];rw[alone x m,C (),J ()];simp only[wU];generalize Eo (Co x<qu t)=mJ;generalize qx x t (mkMap al [])=nj;cases mJ<;>cases nj<;>simp;simp only[tV];generalize wU x (mkMap al []) rest=mJ;generalize al.all (p6 x)=nj;cases mJ<;>cases nj<;>simp;intro rec i s x rest a7 E hd C;obtain⟨G,e⟩:=E;have D:1002*i<=1002*1000:=jR _ (by omega);simp only[fB a7,b6,h0 hd,bT,f' a7 (show ag.length<2^62 by omega),my];cases hp:pathOf al ag x.1 with
 |none=>simp
 |some l=>
  obtain⟨M,o⟩:=g _ _ hp;have fin:rec (s++pf x l,((i+1:Nat):Int))=Q1 (match my al ag rest with|none=>N2|some l'=>tV al (mkMap al []) (oy p2 ((s++pf x l)++l'))):=C _ ⟨by rw[aS,Du];omega,λy B=>by
   rcases aY.1 B with B|B
   exact e y B;exact aK2 (by omega) B⟩
  simp only[l6,aw,bu];have key:=b x l s (by omega) M (by omega) (λs'=>rec (s'.1,((i+1:Nat):Int)));by_cases hc:x.2.1=x.2.2.1;simp only[hc,l6,b6,cZ];by_cases O:l.length<4;have:Eo ((l.length:Int)<4)=No:=by simp only[kA];omega
  simp[this,O];have N:Eo ((l.length:Int)<4)=N2:=by simp only[sG];omega
  simp only[N,bu,O,n4,cY];rw[hc]at key;refine key.trans ?_;cases qt l with
  |false=>simp
  |true =>simp only[b6,aw,bu,fin];cases my al ag rest<;>simp
  simp only[hc,n4,bu,Bool.false_and,cY];refine key.trans ?_;cases qt l with
  |false=>simp
  |true =>simp only[b6,aw,bu,fin];cases my al ag rest<;>simp
def wT(al:List b9)(ag:List ct)(fs:List Int):Bool:=Eo (al.length<=256)&&(Eo (ag.length<=256)&&(Eo (fs.length<=64)&&ag.all λa=>Eo (a.2.2.2.1.length<=64)))
def tJ(al:List b9)(ag:List ct)(fs:List Int):Int :=bif !(wT al ag fs)then 3 else bif !(qM (al.map (·.1))&&(qM (ag.map (·.1))&&qM fs))then 10 else bif !((al.map (·.1)).all qL&&((ag.map (·.1)).all qL&&(fs.all qL&&((al.all λn=>lR n.2)&&(ag.all λa=>a.2.2.2.1.all lR)))))then 2 else bif !decide (vP al ag fs (al.map (·.1))=0)then vP al ag fs (al.map (·.1))else bif !(u_ al ag)then 11 else 0
def VN(al:List b9)(ag:List ct)(fs:List Int):IV (al,ag,fs)=Q1 (tJ al ag fs):=by
 unfold IV tJ wT;simp only[bT];by_cases h1:al.length<=256;rotate_left
 grind
 by_cases h2:ag.length<=256;rotate_left
 grind
 by_cases c:fs.length<=64;rotate_left
 grind
 have d:Eo ((256:Int)<(al.length:Int))=N2:=by grind
 have a2:Eo ((256:Int)<(ag.length:Int))=N2:=by grind
 have a3:Eo ((64:Int)<(fs.length:Int))=N2:=by grind
 simp only[d,a2,a3,bu,h1,h2,c,l6,cZ];refine(mw (A:=Unit) ag (λi _=>(i:Int)) (λ_ rest=>Q1 (bif !(rest.all λa=>Eo (a.2.2.2.1.length<=64))then 3 else bif !(qM (al.map (·.1))&&(qM (ag.map (·.1))&&qM fs))then 10 else bif !((al.map (·.1)).all qL&&((ag.map (·.1)).all qL&&(fs.all qL&&((al.all λn=>lR n.2)&&(ag.all λa=>a.2.2.2.1.all lR)))))then 2 else bif !decide (vP al ag fs (al.map (·.1))=0)then vP al ag fs (al.map (·.1))else bif !(u_ al ag)then 11 else 0)) (λi _=>∀a∈ag.take i,a.2.2.2.1.length<=64) (by omega) ?_ ?_ () (by simp)).trans rfl;intro rec u b;rw[cd]at b;have hv:∀a∈ag,a.2.2.2.1.length<=900000:=λa ha=>by have:=b a ha;omega
 simp only[kj,bu,gp,aw,bk2 al ag fs (by omega) (by omega),bT,MD _ (show(al.map (·.1)).length<2^62 by simp;omega),MD _ (show(ag.map (·.1)).length<2^62 by simp;omega),
  MD fs (by omega),Mx _ (show(al.map (·.1)).length<2^62 by simp;omega),Mx _ (show(ag.map (·.1)).length<2^62 by simp;omega),Mx fs (by omega),bp8 al ag fs (by omega) (by omega) hv,
  bm1 al ag fs (al.map (·.1)) (by omega) (by omega) (by omega) (by simp;omega),bp7 al ag fs (by omega) (by omega) (λa ha=>by have:=b a ha;omega)]
 grind
 intro rec i u x rest a7 b hd f;simp only[fB a7,b6,h0 hd,bT,f' a7 (show ag.length<2^62 by omega),bU];by_cases h:x.2.2.2.1.length<=64;have e:Eo ((64:Int)<(x.2.2.2.1.length:Int))=N2:=by grind
 simp only[e,bu,h,l6,cZ];refine f () ?_
 grind
 grind
def tD(u:bs):Prop:=0<u.2\/u.2=0/\0<u.1
def eS(u v:bs):Int:=u.1*v.2-u.2*v.1
def Vb(u v w:bs):v.2*eS u w=u.2*eS v w+w.2*eS u v:=by
 unfold eS
 grind
def bQ2(u v:bs):eS v u=- eS u v:=by
 unfold eS
 grind
theorem aV5(u:bs):eS u u=0:=by have:=bQ2 u u;omega
def as7{u v w:bs}(hu:tD u)(hv:tD v)(hw:tD w)(h1:0<eS u v)(h2:0<eS v w):0<eS u w:=by
 have hid:=Vb u v w;have b:0<=u.2:=by unfold tD at hu;omega
 have c:0<=w.2:=by unfold tD at hw;omega
 rcases hv with hv|⟨hv,d⟩
 by_cases e:0<u.2;have mJ:=cw e h2;have nj:=aL c (dv h1);exact bX (a:=v.2) (by omega) hv |> λh=>h
 by_cases f:0<w.2;have mJ:=aL b (dv h2);have nj:=cw f h1;exact bX (a:=v.2) (by omega) hv |> λh=>h
 exfalso;have g:w.2=0:=by omega
 have i:0<w.1:=by unfold tD at hw;omega
 have:eS v w=- (v.2*w.1):=by unfold eS;rw[g];omega
 have:=cw hv i;omega;exfalso;have:eS u v=- (u.2*v.1):=by unfold eS;rw[hv];omega
 have:=aL b (dv d);omega
def ag5{u v w:bs}(hu:tD u)(hv:tD v)(hw:tD w)(h1:eS u v<=0)(h2:eS v w<=0):eS u w<=0:=by
 have hid:=Vb u v w;have a:0<=u.2:=by unfold tD at hu;omega
 have b:0<=w.2:=by unfold tD at hw;omega
 rcases hv with hv|⟨hv,c⟩
 have mJ:=aL a (show 0<=- eS v w by omega);have nj:=aL b (show 0<=- eS u v by omega);rw[cK]at mJ nj;by_cases h:eS u w<=0;exact h;have:=cw hv (show 0<eS u w by omega);omega;have f:eS v w=v.1*w.2:=by unfold eS;rw[hv];omega
 have d:w.2=0:=by by_cases h:0<w.2;have:=cw c h;omega;omega
 have:eS u w=- (u.2*w.1):=by unfold eS;rw[d];omega
 have e:0<w.1:=by unfold tD at hw;omega
 have:=aL a (dv e);omega
def vec(o p:bs):bs:=(p.1-o.1,p.2-o.2)
def Gi(u:bs):bs:=(-u.1,-u.2)
def Dm(o p:bs)(h:p≠o):oQ o p=N2↔tD (vec o p):=by
 unfold oQ tD vec
 grind
def Di(o p:bs)(h:p≠o):oQ o p=No↔tD (Gi (vec o p)):=by
 unfold oQ tD vec Gi
 grind
def Vc(u v:bs):eS (Gi u) (Gi v)=eS u v:=by unfold eS Gi;simp only[iB]
def uR(o p:bs):Prop:=d' p=No/\p≠o
theorem BV{o a b:bs}(ho:d' o=No)(ha:uR o a)(c:uR o b):oo o a b=if oQ o a=oQ o b then Eo (0<eS (vec o a) (vec o b))else oQ o b:=by
 unfold oo;have d:mh a o=N2:=by
  cases h:mh a o with
  |false=>rfl
  |true=>exact b8 ((pt a o).1 h) ha.2
 have e:mh b o=N2:=by
  cases h:mh b o with
  |false=>rfl
  |true=>exact b8 ((pt b o).1 h) c.2
 simp only[ho,ha.1,c.1,d,e,bw,bB,cZ];rfl
def Nl{o a:bs}(ho:d' o=No)(ha:uR o a):oo o a a=N2:=by grind[BV,aV5]
def Xg{o a b c:bs}(ho:d' o=No)(ha:uR o a)(g:uR o b)(hc:uR o c)(h1:oo o a b=No)(h2:oo o b c=No):oo o a c=No:=by rw[BV ho ha g]at h1;rw[BV ho g hc]at h2;rw[BV ho ha hc];cases d:oQ o a<;>cases e:oQ o b<;>cases f:oQ o c<;>simp only[d,e,f,me,l4,aG,jS]at h1 h2⊢;exact hT (as7 ((Dm o a ha.2).1 d) ((Dm o b g.2).1 e) ((Dm o c hc.2).1 f) (pK h1) (pK h2));refine hT ?_;have g1:=pK h1;have g2:=pK h2;rw[<-Vc]at g1 g2⊢;exact as7 ((Di o a ha.2).1 d) ((Di o b g.2).1 e) ((Di o c hc.2).1 f) g1 g2
def bO9{o a b c:bs}(ho:d' o=No)(ha:uR o a)(g:uR o b)(hc:uR o c)(h1:oo o a b=N2)(h2:oo o b c=N2):oo o a c=N2:=by rw[BV ho ha g]at h1;rw[BV ho g hc]at h2;rw[BV ho ha hc];cases d:oQ o a<;>cases e:oQ o b<;>cases f:oQ o c<;>simp only[d,e,f,me,l4,aG,jS]at h1 h2⊢;refine ft (λh=>?_);have g1:=of_decide_eq_false h1;have g2:=of_decide_eq_false h2;have:=ag5 ((Dm o a ha.2).1 d) ((Dm o b g.2).1 e) ((Dm o c hc.2).1 f) (by omega) (by omega);omega;refine ft (λh=>?_);have g1:=of_decide_eq_false h1;have g2:=of_decide_eq_false h2;rw[<-Vc]at g1 g2 h;have:=ag5 ((Di o a ha.2).1 d) ((Di o b g.2).1 e) ((Di o c hc.2).1 f) (by omega) (by omega);omega
def bT7{o a b:bs}(ho:d' o=No)(ha:uR o a)(c:uR o b)(h:oo o a b=No):oo o b a=N2:=by
 cases h2:oo o b a with
 |false=>rfl
 |true=>have:=Xg ho ha c ha h h2;rw[Nl ho ha]at this;cases this
open Go.Proofs Go.Shelf Go.Sort
structure fp(al:List b9)(ag:List ct)(fs:List Int):Prop where
 AD:wT al ag fs=No
 vL:qM (al.map (·.1))=No
 rX:qM (ag.map (·.1))=No
 E8:qM fs=No
 Oz:(al.map (·.1)).all qL=No
 Gk:(ag.map (·.1)).all qL=No
 Oy:fs.all qL=No
 Yh:(al.all λn=>lR n.2)=No
 J':(ag.all λa=>a.2.2.2.1.all lR)=No
 conn:vP al ag fs (al.map (·.1))=0
 lV:u_ al ag=No
theorem De{al:List b9}{ag:List ct}{fs:List Int}:tJ al ag fs=0↔fp al ag fs:=by
 constructor;intro h;unfold tJ at h;cases h1:wT al ag fs with
 |false=>rw[h1]at h;simp at h
 |true=>
  rw[h1]at h;simp only[aw,bu]at h;cases h2:(qM (al.map (·.1))&&(qM (ag.map (·.1))&&qM fs))with
  |false=>rw[h2]at h;simp at h
  |true=>
   rw[h2]at h;simp only[aw,bu]at h;cases b:((al.map (·.1)).all qL&&((ag.map (·.1)).all qL&&(fs.all qL&&((al.all λn=>lR n.2)&&(ag.all λa=>a.2.2.2.1.all lR)))))with
   |false=>rw[b]at h;simp at h
   |true=>
    rw[b]at h;simp only[aw,bu]at h;by_cases c:vP al ag fs (al.map (·.1))=0;simp only[c,l6,aw,bu]at h;cases d:u_ al ag with
    |false=>rw[d]at h;simp at h
    |true =>simp only[ab]at h2 b;exact⟨h1,h2.1,h2.2.1,h2.2.2,b.1,b.2.1,b.2.2.1,b.2.2.2.1,b.2.2.2.2,c,d⟩
    grind
 intro h;unfold tJ;simp[h.AD,h.vL,h.rX,h.E8,h.Oz,h.Gk,h.Oy,h.Yh,h.J',h.conn,h.lV]
theorem pq:∀ {l:List Int},qM l=No->l.Pairwise (·<·)
 | [],_=>ko
 | [a],_=>by simp
 |a::b::l,h=>by
  simp only[qM,ab,kA]at h;have d:=pq h.2;refine lj (λx c=>?_) d;rcases aD.1 c with rfl|c
  exact h.1;have:=(aR.1 d).1 x c;omega
def M5{α:Type}{f:α->Int}:∀ {l:List α},(l.map f).Pairwise (·<·)->∀x∈l,l.find? (λy=>Eo (f y=f x))=Q1 x
 | [],_,x,a=>by simp at a
 |y::l,h,x,a=>by
  simp only[au,aR]at h;rw[da];rcases aD.1 a with rfl|a
  simp;have h1:=h.1 (f x) (aK a);have:¬f y=f x:=by omega
  simp only[this,n4];exact M5 h.2 x a
def I5{al:List b9}{ag:List ct}:∀ {l:List ct} {r:List fy},my al ag l=Q1 r->∀a∈l,∃p,pathOf al ag a.1=Q1 p/\qt p=No/\(a.2.1=a.2.2.1->4<=p.length)
 | [],r,h,a,ha=>by simp at ha
 |b::l,r,h,a,ha=>by
  unfold my at h;split at h;cases h;rename_i p hp;cases hc:((Eo (b.2.1=b.2.2.1)&&Eo (p.length<4))||!(qt p))with
  |true=>rw[hc]at h;cases h
  |false=>
   rw[hc]at h;simp only[bu]at h;split at h;rename_i d c;rcases aD.1 ha with rfl|ha
   simp only[cE,eW,sG,Bool.not_eq_false']at hc;refine⟨p,hp,hc.2,λe=>?_⟩;rcases hc.1 with h1|h1
   exact b8 e h1;omega;exact I5 c a ha;cases h
def J5:∀ {l:List bs} {i:Nat} {p q:bs},qt l=No->l[i]?=Q1 p->l[i+1]?=Q1 q->p≠q
 | [],i,p,q,_,h,_=>by simp at h
 | [a],0,p,q,_,_,h=>by simp at h
 | [a],i+1,p,q,_,h,_=>by simp at h
 |a::b::l,0,p,q,h,h1,h2=>by simp only[qt,ab,cT]at h;simp at h1 h2;subst h1;subst h2;intro e;rw[(pt a b).2 e]at h;cases h.1
 |a::b::l,i+1,p,q,h,h1,h2=>by simp only[qt,ab]at h;exact J5 h.2 (by simpa using h1) (by simpa using h2)
namespace fp
variable {al:List b9} {ag:List ct} {fs:List Int} (h:fp al ag fs)
include h
theorem qF:al.length<=256:=by
 have:=h.AD
 grind[wT]
theorem pA:ag.length<=256:=by
 have:=h.AD
 grind[wT]
theorem wX:fs.length<=64:=by
 have:=h.AD
 grind[wT]
theorem q4{a:ct}(ha:a∈ag):a.2.2.2.1.length<=64:=by
 have:=h.AD
 grind[wT,aj]
theorem zD{a:ct}(ha:a∈ag):px ag a.1=Q1 a:=M5 (f:=λa:ct=>a.1) (pq h.rX) a ha
theorem vm{n:b9}(a:n∈al):nQ al n.1=Q1 n:=M5 (f:=λn:b9=>n.1) (pq h.vL) n a
theorem num{a:ct}(ha:a∈ag):1<=a.1/\a.1<=1073741824:=by have:=aj.1 h.Gk a.1 (aK ha);simpa[qL]using this
theorem j7:∃r,my al ag ag=Q1 r:=by
 have:=h.lV
 grind[u_]
theorem path{a:ct}(ha:a∈ag):∃f t,nQ al a.2.1=Q1 f/\nQ al a.2.2.1=Q1 t/\pathOf al ag a.1=Q1 (f.2::(a.2.2.2.1++[t.2]))/\qt (f.2::(a.2.2.2.1++[t.2]))=No/\(a.2.1=a.2.2.1->2<=a.2.2.2.1.length):=by
 obtain⟨r,b⟩:=h.j7;obtain⟨p,h1,h2,d⟩:=I5 b a ha;have c:=h1;unfold pathOf at h1;rw[h.zD ha]at h1
 grind
theorem tt{n:b9}(a:n∈al):lR n.2=No:=aj.1 h.Yh n a
theorem D0{a:ct}(ha:a∈ag){l:List bs}(hl:pathOf al ag a.1=Q1 l):∀p∈l,lR p=No:=by
 obtain⟨f,t,h1,h2,b,_⟩:=h.path ha;rw[hl]at b;cases b;intro p hp;rcases aD.1 hp with rfl|hp
 exact h.tt (aX h1);rcases aY.1 hp with hp|hp
 exact aj.1 (aj.1 h.J' a ha) p hp;simp at hp;subst hp;exact h.tt (aX h2)
theorem Hz(id:Int):wE ((al,ag,fs),id)=Q1 (match pathOf al ag id with|some l=>(l,0)|none=>([],7)) :=V1 al ag fs id (by have:=h.qF;omega) (by have:=h.pA;omega) (λa ha=>by have:=h.q4 ha;omega)
theorem Hw(id:Int):xt ((al,ag,fs),id)=Q1 (match nQ al id with|some n=>(n,No)|none=>((0,0,0),N2)) :=M9 al ag fs id (by have:=h.qF;omega)
theorem Rq(id:Int):BP ((al,ag,fs),id)=Q1 (match px ag id with|some a=>(a,No)|none=>((0,0,0,[],0,0),N2)) :=WI al ag fs id (by have:=h.pA;omega) (λa ha=>by have:=h.q4 ha;omega)
end fp
def ph(al:List b9)(ag:List ct)(node:Int)(a:ct):List (Int×bs):=match pathOf al ag a.1 with
 |none=>[]
 |some l=>(if a.2.1=node then [(a.1,(l[1]?).getD (0,0))]else [])++(if a.2.2.1=node then [(-a.1,(l[l.length-2]?).getD (0,0))]else [])
def np(al:List b9)(ag:List ct)(node:Int)(l:List ct):List (Int×bs):=l.flatMap (ph al ag node)
def A0(o:bs)(m:List (Int×bs))(d e:Int):Int:=if oo o (nv m d) (nv m e)then -1 else if oo o (nv m e) (nv m d)then 1 else 0
def aZ1(n:b9)(m:List (Int×bs))(d e:Int):Bf (d,e,n,m)=Q1 (A0 n.2 m d e):=by have h1:=λo a b=>bJ5 o a b;have h2:=λa b=>h1 n.2 a b;unfold Bf A0;simp[aE5,h2];cases oo n.2 (nv m d) (nv m e);cases oo n.2 (nv m e) (nv m d)<;>simp;simp
def rv(m:List (Int×bs))(l:List (Int×bs)):List (Int×bs):=l.foldl (λm p=>mI (λ(a b:Int)=>Eo (a=b)) p.1 p.2 m) m
def WM(k:Int):∀(l:List (Int×bs)) (m:List (Int×bs)),(∀p∈l,p.1≠k)->fh gd k (rv m l)=fh gd k m
 | [],m,_=>rfl
 |p::l,m,h=>by have:=WM k l (mI gd p.1 p.2 m) (λq a=>h q (by simp[a]));show fh gd k (rv (mI gd p.1 p.2 m) l)=_;rw[this,rV,cc (λe=>h p (by simp) e.symm)]
theorem E5:∀(l:List (Int×bs)) (m:List (Int×bs)),(l.map (·.1)).Nodup->∀p∈l,fh gd p.1 (rv m l)=Q1 p.2
 | [],m,_,p,hp=>by simp at hp
 |q::l,m,a,p,hp=>by
  simp only[au,cS]at a;show fh gd p.1 (rv (mI gd q.1 q.2 m) l)=_;rcases aD.1 hp with rfl|hp
  rw[WM p.1 l _ (λx b e=>a.1 (by rw[<-e];exact aK b)),rV,cr rfl];exact E5 l _ a.2 p hp
def LX{n:Int}(h:1<=n/\n<=1073741824):aa.wrap (0-n)=-n:=by rw[fx (by omega) (by omega)];omega
namespace fp
variable {al:List b9} {ag:List ct} {fs:List Int} (h:fp al ag fs)
include h
theorem Ci(node:Int):∀ {l:List ct},(∀a∈l,a∈ag)->(l.map (·.1)).Pairwise (·<·)->((np al ag node l).map (·.1)).Nodup
 | [],_,_=>by simp[np]
 |a::l,hm,hp=>by
  have k:=Ci node (l:=l) (λx c=>hm x (by simp[c])) (by simp only[au,aR]at hp;exact hp.2);have ha:=h.num (hm a (by simp));have key:∀(b:ct),b∈ag->∀p∈ph al ag node b,p.1=b.1\/p.1=-b.1:=λb d p hp=>by
   unfold ph at hp;split at hp;simp at hp;rcases aY.1 hp with hp|hp
   split at hp<;>simp at hp;exact .inl (by rw[hp]);split at hp<;>simp at hp;exact .inr (by rw[hp])
  have e:np al ag node (a::l)=ph al ag node a++np al ag node l:=rfl;rw[e,ez,dI];refine⟨?_,k,?_⟩;unfold ph;split;simp;by_cases h1:a.2.1=node<;>by_cases h2:a.2.2.1=node<;>simp[h1,h2];omega;intro x c y m n;obtain⟨p,f,rfl⟩:=aM.1 c;obtain⟨q,g,rfl⟩:=aM.1 m;obtain⟨b,d,i⟩:=dg.1 g;have j:=hm b (by simp[d]);simp only[au,aR]at hp;have o:=hp.1 b.1 (aK d);rcases key a (hm a (by simp)) p f with r|r<;>rcases key b j q i with s|s<;>omega
theorem GF{node:Int}{l:List ct}(hm:∀a∈l,a∈ag){p:Int×bs}(hp:p∈np al ag node l):∃a∈l,∃q,pathOf al ag a.1=Q1 q/\((a.2.1=node/\p=(a.1,(q[1]?).getD (0,0)))\/(a.2.2.1=node/\p=(-a.1,(q[q.length-2]?).getD (0,0)))):=by
 obtain⟨a,ha,hp⟩:=dg.1 hp;unfold ph at hp;split at hp;simp at hp;rename_i q b;refine⟨a,ha,q,b,?_⟩;rcases aY.1 hp with hp|hp
 split at hp<;>simp at hp;exact .inl ⟨by assumption,hp⟩;split at hp<;>simp at hp;exact .inr ⟨by assumption,hp⟩
theorem Px{n:b9}(g:nQ al n.1=Q1 n){l:List ct}(hm:∀a∈l,a∈ag){p:Int×bs}(hp:p∈np al ag n.1 l):uR n.2 p.2:=by
 obtain⟨a,ha,q,i,hc⟩:=h.GF hm hp;obtain⟨f,t,h1,h2,j,k,_⟩:=h.path (hm a ha);have b:=h.D0 (hm a ha) i;rw[i]at j;cases j;rcases hc with⟨e,rfl⟩|⟨e,rfl⟩
 rw[e,g]at h1;cases h1;have d:(n.2::(a.2.2.2.1++[t.2]))[0]?=Q1 n.2:=rfl;obtain⟨x,c⟩:∃x,(n.2::(a.2.2.2.1++[t.2]))[1]?=Q1 x:=⟨_,af (by simp)⟩;refine⟨?_,?_⟩;rw[c];exact rS (b x (aH c));rw[c];exact λe=>J5 k d c e.symm;rw[e,g]at h2;cases h2;generalize m:f.2::(a.2.2.2.1++[n.2])=L at *;have hlen:L.length=a.2.2.2.1.length+2:=by rw[<-m];simp
 have d:L[L.length-2+1]?=Q1 n.2:=by
  have:L.length-2+1=a.2.2.2.1.length+1:=by omega
  rw[this,<-m];simp
 obtain⟨x,c⟩:∃x,L[L.length-2]?=Q1 x:=⟨_,af (by omega)⟩;refine⟨?_,?_⟩;rw[c];exact rS (b x (aH c));rw[c];exact J5 k c d
omit h in
theorem Kz(node:Int):∀(l:List ct),(np al ag node l).length<=2*l.length
 | []=>by simp[np]
 |a::l=>by
  have b:=Kz node l;have e:np al ag node (a::l)=ph al ag node a++np al ag node l:=rfl;have:(ph al ag node a).length<=2:=by unfold ph;split;simp;by_cases h1:a.2.1=node<;>by_cases h2:a.2.2.1=node<;>simp[h1,h2]
  rw[e,aS,aC];omega
theorem MB{n:b9}(o:nQ al n.1=Q1 n)(i:n∈al):Ordered (A0 n.2 (rv [] (np al ag n.1 ag))) ((np al ag n.1 ag).map (·.1)):=by
 have j:=h.Ci n.1 (l:=ag) (λ_ ha=>ha) (pq h.rX);have c:∀d∈(np al ag n.1 ag).map (·.1),uR n.2 (nv (rv [] (np al ag n.1 ag)) d):=λd hd=>by obtain⟨p,hp,rfl⟩:=aM.1 hd;unfold nv;rw[E5 _ [] j p hp];exact h.Px o (λ_ ha=>ha) hp
 have ho:=rS (h.tt i);generalize rv [] (np al ag n.1 ag)=m at c;have f:∀d e,A0 n.2 m d e<0↔oo n.2 (nv m d) (nv m e)=No:=λd e=>by unfold A0;cases oo n.2 (nv m d) (nv m e);cases oo n.2 (nv m e) (nv m d)<;>simp;simp
 refine IX (λx g=>?_) (λx g y k z hz a b=>?_) (λx g y k z hz a b=>?_);rw[f,Nl ho (c x g)];simp;rw[f]at a b⊢;exact Xg ho (c x g) (c y k) (c z hz) a b;rw[f,eG]at a b⊢;exact bO9 ho (c x g) (c y k) (c z hz) a b
def ki(al:List b9)(ag:List ct)(n:b9):List Int:=oy (A0 n.2 (rv [] (np al ag n.1 ag))) ((np al ag n.1 ag).map (·.1))
theorem aG4(node:Int):Fp ((al,ag,fs),node)=Q1 (match nQ al node with|some n=>ki al ag n|none=>[]):=by
 have hlen:=h.pA;unfold Fp;simp only[h.Hw];cases o:nQ al node with
 |none=>simp
 |some n=>
  have c:n.1=node:=by have:=db o;simpa using this
  subst c;have q:=aX o;simp only[ h.Hz];refine(mw (A:=List Int×List (Int×bs)) ag (λi a=>((i:Int),a.1,a.2)) (λa rest=>rE (λd e=>Bf (d,e,n,rv a.2 (np al ag n.1 rest))) (a.1++(np al ag n.1 rest).map (·.1))) (λi a=>a.1.length<=2*i) (by omega) ?_ ?_ ([],[]) (by simp)).trans ?_;intro rec a w;unfold L5;have e:np al ag n.1 []=[]:=rfl;rw[e];simp;have z:rv a.2 []=a.2:=rfl;rw[z];cases rE (λd e=>Bf (d,e,n,a.2)) a.1<;>rfl;intro rec i a x rest a7 w hd m;have r:=(rl hd).2.2;obtain⟨f,t,h1,h2,s,B,H⟩:=h.path r;have g:=h.num r;have C:np al ag n.1 (x::rest)=ph al ag n.1 x++np al ag n.1 rest:=rfl;generalize D:f.2::(x.2.2.2.1++[t.2])=L at s B;have E:L.length=x.2.2.2.1.length+2:=by rw[<-D];simp
  have hv:=h.q4 r;obtain⟨mJ,j⟩:∃p,L[1]?=Q1 p:=⟨_,af (by omega)⟩;obtain⟨nj,k⟩:∃p,L[L.length-2]?=Q1 p:=⟨_,af (by omega)⟩;have u:nth L (1:Int)=Q1 mJ:=by have:=lQ L 1;rw[j]at this;exact this
  have G:aa.wrap ((L.length:Int)-2)=((L.length-2:Nat):Int):=by rw[fx (by omega) (by omega)];omega
  have v:nth L ((L.length-2:Nat):Int)=Q1 nj:=by rw[lQ];exact k
  simp only[fB a7,h0 hd,bT,f' a7 (show ag.length<2^62 by omega),s,u,G,v,LX g];have l:ph al ag n.1 x=(if x.2.1=n.1 then [(x.1,mJ)]else [])++(if x.2.2.1=n.1 then [(-x.1,nj)]else []):=by unfold ph;rw[s];simp[j,k]
  rw[C,l];by_cases c1:x.2.1=n.1<;>by_cases c2:x.2.2.1=n.1;simp[c1,c2];rw[m9 (by omega) (by simp;omega)];simp;rw[m9 (by omega) (by simp;omega)];have:=m (a.1++[x.1]++[-x.1],mI (λ(a b:Int)=>Eo (a=b)) (-x.1) nj (mI (λ(a b:Int)=>Eo (a=b)) x.1 mJ a.2)) (by simp;omega);refine this.trans ?_;simp[rv];simp[c1,c2];rw[m9 (by omega) (by simp;omega)];have:=m (a.1++[x.1],mI (λ(a b:Int)=>Eo (a=b)) x.1 mJ a.2) (by simp;omega);refine this.trans ?_;simp[rv];simp[c1,c2];rw[m9 (by omega) (by simp;omega)];have:=m (a.1++[-x.1],mI (λ(a b:Int)=>Eo (a=b)) (-x.1) nj a.2) (by simp;omega);refine this.trans ?_;simp[rv];simp[c1,c2];have:=m a (by omega);refine this.trans ?_;simp;have hl:=Kz (al:=al) (ag:=ag) n.1 ag;exact Jw (λx _ y _=>aZ1 n _ x y) (h.MB o q) (by simp;omega)
end fp
def qn(l:List Int)(d:Int):Int:=if d∈l then(l[(l.idxOf d+l.length-1)%l.length]?).getD 0 else 0
def aU7(l:List Int)(d:Int)(hl:l.length<=1000000):Fb (l,d)=Q1 (qn l d):=by
 unfold Fb qn;simp only[Vh l d (by omega),bT];by_cases hd:d∈l;have a7:l.idxOf d<l.length:=iP.2 hd;have a:Eo (((l.idxOf d:Nat):Int)<0)=N2:=by grind
 have b:aa.wrap (((l.idxOf d:Nat):Int)+(l.length:Int))=((l.idxOf d+l.length:Nat):Int):=by grind[fx]
 have c:aa.wrap (((l.idxOf d+l.length:Nat):Int)-1)=((l.idxOf d+l.length-1:Nat):Int):=by grind[fx]
 have e:Eo ((l.length:Int)=0)=N2:=by grind
 have f:Int.tmod ((l.idxOf d+l.length-1:Nat):Int) (l.length:Int)=(((l.idxOf d+l.length-1)%l.length:Nat):Int):=by grind
 have hm:(l.idxOf d+l.length-1)%l.length<l.length:=d_ _ (by omega);simp only[hd,me,a,bu,b,c,e,f,lQ,bT];rw[af hm];rfl;simp[hd]
theorem Dk{l:List Int}{d:Int}(h:d∈l):qn l d∈l:=by grind[qn,iP,d_,af,ay]
def ql(S:List Int):List (Int×Bool):=S.map λd=>(d,No)
theorem aw4(d:Int):∀S:List Int,fh gd d (ql S)=if d∈S then Q1 No else Ld
 | []=>rfl
 |x::S=>by have a:=aw4 d S;show(bif gd d x then Q1 No else fh gd d (ql S))=_;rw[a,Eh];by_cases h:d=x<;>simp[h]
theorem OY(d:Int):∀S:List Int,d∉S->mI gd d No (ql S)=ql (S++[d])
 | [],_=>rfl
 |x::S,h=>by simp only[aD,not_or]at h;have a:=OY d S h.2;show(bif gd d x then(d,No)::ql S else(x,No)::mI gd d No (ql S))=_;rw[a,Eh];simp[h.1,ql]
theorem Jh(d:Int)(S:List Int):oD (fh (λ(a b:Int)=>Eo (a=b)) d (ql S)) (Q1 N2)=Q1 (Eo (d∈S)):=by grind[oD,fh,ql,aw4]
def rn(gA:Int->Int):Nat->List Int->Int->List Int->List Int×List Int
 | 0,S,_,c=>(c,S)
 |n+1,S,d,c=>if d∈S then(c,S)else rn gA n (S++[d]) (gA d) (c++[d])
def pV(D S:List Int):Nat:=(D.filter λd=>!decide (d∈S)).length
def N'{D S:List Int}{d:Int}(hd:d∈D)(hs:d∉S):pV D (S++[d])<pV D S:=by
 unfold pV
 induction D with
 |nil=>simp at hd
 |cons x D a=>
  have mono:∀D:List Int,(D.filter λy=>!decide (y∈S++[d])).length<=(D.filter λy=>!decide (y∈S)).length:=λD=>by
   induction D with
   |nil=>simp
   |cons y D a=>grind
  grind
def bT2{β:Type}(mp:List (Int×Int))(D:List Int)(s:D.length<=100000)(o:∀d∈D,(fh gd d mp).getD 0∈D)(K:Int×List Int×List (Int×Bool)->Option β)(G:List Int×List Int->Option β)(t:∀d c S,K (d,c,ql S)=G (c,S)) :
  ∀(S:List Int) (d:Int) (c:List Int),d∈D->c.length+pV D S<=100000->rounds (α:=Int×List Int×List (Int×Bool)) (β:=β) (λl e=>
     a8 (oD (fh (λ(a b:Int)=>Eo (a=b)) e.1 e.2.2) (Q1 N2)) λf=>
     a8 (Q1 (!(f))) λg=>
     bif g then(
     a8 (Q1 (mI (λ(a b:Int)=>Eo (a=b)) e.1 No e.2.2)) λi=>
     a8 (j6 8 e.2.1 [e.1]) λj=>
     a8 (oD (fh (λ(a b:Int)=>Eo (a=b)) e.1 mp) (Q1 (0:Int))) λk=>
     l (k,j,i))else K e) (d,c,ql S)=G (rn (λd=>(fh gd d mp).getD 0) (pV D S+1) S d c):=by
 have uG:∀d,oD (fh (λ(a b:Int)=>Eo (a=b)) d mp) (Q1 (0:Int))=Q1 ((fh gd d mp).getD 0):=λd=>by show oD (fh gd d mp) _=_;cases fh gd d mp<;>rfl
 generalize dC:(λ(l:Int×List Int×List (Int×Bool)->Option β) (e:Int×List Int×List (Int×Bool))=>
     a8 (oD (fh (λ(a b:Int)=>Eo (a=b)) e.1 e.2.2) (Q1 N2)) λf=>
     a8 (Q1 (!(f))) λg=>
     bif g then(
     a8 (Q1 (mI (λ(a b:Int)=>Eo (a=b)) e.1 No e.2.2)) λi=>
     a8 (j6 8 e.2.1 [e.1]) λj=>
     a8 (oD (fh (λ(a b:Int)=>Eo (a=b)) e.1 mp) (Q1 (0:Int))) λk=>
     l (k,j,i))else K e)=F
 have cu:∀rec d c S,d∈S->F rec (d,c,ql S)=G (c,S):=λrec d c S hs=>by grind[Jh,bT,decide_true,aw]
 have h1:∀rec d c S,d∉S->c.length<=100000->F rec (d,c,ql S)=rec ((fh gd d mp).getD 0,c++[d],ql (S++[d])):=λrec d c S hs hc=>by grind[mI,ql,OY,j6,m9,Jh,bT,decide_false,bB]
 have key:∀(n m:Nat) (S:List Int) (d:Int) (c:List Int),d∈D->c.length+pV D S<=100000->pV D S<n->n<=m->iter F m (d,c,ql S)=G (rn (λd=>(fh gd d mp).getD 0) n S d c):=by
  intro n
  induction n with
  |zero=>intro m S d c _ _ h;omega
  |succ n u=>
   intro m S d c hd hc v hm;cases m;omega;rename_i m;show F (iter F m) (d,c,ql S)=_;by_cases hs:d∈S
   grind[rn]
   have p:=N' hd hs
   grind[rn]
 intro S d c hd hc;have h2:pV D S<=D.length:=bn _ _;have q:=aL7;have r:pV D S+1<=many:=bz (by omega) q;exact key (pV D S+1) many S d c hd hc (Nat.lt_succ_self _) r
def BS(l:List Int)(m:List (Int×Int)):List (Int×Int):=l.foldl (λm d=>mI (λ(a b:Int)=>Eo (a=b)) (-d) (qn l d) m) m
def uo(L:List (List Int))(m:List (Int×Int)):List (Int×Int):=L.foldl (λm l=>BS l m) m
def W8(l:List Int)(D:List Int):∀(r:List Int) (m:List (Int×Int)),(∀d∈r,d∈l)->(∀d∈l,d∈D)->(∀k v,fh gd k m=Q1 v->v∈D) ->
  (∀k v,fh gd k (r.foldl (λm d=>mI (λ(a b:Int)=>Eo (a=b)) (-d) (qn l d) m) m)=Q1 v->v∈D)/\(∀k,(fh gd k m).isSome=No->(fh gd k (r.foldl (λm d=>mI (λ(a b:Int)=>Eo (a=b)) (-d) (qn l d) m) m)).isSome=No) /\
  ∀d∈r,(fh gd (-d) (r.foldl (λm d=>mI (λ(a b:Int)=>Eo (a=b)) (-d) (qn l d) m) m)).isSome=No
 | [],m,_,_,hm=>⟨hm,λ_ h=>h,λd hd=>by simp at hd⟩
 |x::r,m,c,hl,hm=>by
  have e:=c x (by simp);have hp:∀k v,fh gd k (mI gd (-x) (qn l x) m)=Q1 v->v∈D:=λk v h=>by rw[rV]at h;split at h;cases h;exact hl _ (Dk e);exact hm k v h
  obtain⟨h1,h2,f⟩:=W8 l D r (mI gd (-x) (qn l x) m) (λd hd=>c d (by simp[hd])) hl hp;refine⟨h1,λk hk=>h2 k ?_,λd hd=>?_⟩;rw[rV];split;rfl;exact hk;rcases aD.1 hd with rfl|hd
  exact h2 _ (by rw[rV,cr rfl];rfl);exact f d hd
def WX(D:List Int):∀(L:List (List Int)) (m:List (Int×Int)),(∀l∈L,∀d∈l,d∈D)->(∀k v,fh gd k m=Q1 v->v∈D) ->
  (∀k v,fh gd k (uo L m)=Q1 v->v∈D)/\(∀k,(fh gd k m).isSome=No->(fh gd k (uo L m)).isSome=No)/\∀l∈L,∀d∈l,(fh gd (-d) (uo L m)).isSome=No
 | [],m,_,hm=>⟨hm,λ_ h=>h,λl hl=>by simp at hl⟩
 |l::L,m,b,hm=>by
  obtain⟨e,a2,a3⟩:=W8 l D l m (λ_ h=>h) (b l (by simp)) hm;obtain⟨f,c,g⟩:=WX D L (BS l m) (λx a=>b x (by simp[a])) e;refine⟨f,λk hk=>c k (a2 k hk),λx a d hd=>?_⟩;rcases aD.1 a with rfl|a
  exact c _ (a3 d hd);exact g x a d hd
def qW(gA:Int->Int)(D:List Int):List Int->List Int->List (List Int)->List (List Int)
 | [],_,acc=>acc
 |d::a,S,acc=>if d∈S then qW gA D a S acc else
   let r:=rn gA (pV D S+1) S d []
   qW gA D a r.2 (acc++[r.1])
namespace fp
variable {al:List b9} {ag:List ct} {fs:List Int} (h:fp al ag fs)
def wF(al:List b9)(ag:List ct):List (List Int):=al.map (ki al ag)
def k7(al:List b9)(ag:List ct):List Int:=(wF al ag).flatten
include h
theorem wG{n:b9}(a:n∈al):(ki al ag n).Perm ((np al ag n.1 ag).map (·.1)):=tG (h.MB (h.vm a) a)
theorem Mo{n:b9}(a:n∈al):(ki al ag n).length<=512:=by rw[(h.wG a).length_eq,aI];have:=Kz (al:=al) (ag:=ag) n.1 ag;have:=h.pA;omega
theorem uP{d:Int}:d∈k7 al ag↔∃a∈ag,d=a.1\/d=-a.1:=by
 constructor;intro hd;obtain⟨l,hl,hd⟩:=bG.1 hd;obtain⟨n,b,rfl⟩:=aM.1 hl;rw[(h.wG b).mem_iff]at hd;obtain⟨p,hp,rfl⟩:=aM.1 hd;obtain⟨a,ha,q,_,hc⟩:=h.GF (λ_ ha=>ha) hp;rcases hc with⟨_,rfl⟩|⟨_,rfl⟩
 exact⟨a,ha,.inl rfl⟩;exact⟨a,ha,.inr rfl⟩;rintro ⟨a,ha,hd⟩;obtain⟨f,t,h1,h2,j,_⟩:=h.path ha;have mk:∀(n:b9),n∈al->d∈(ph al ag n.1 a).map (·.1)->d∈((al.map (ki al ag)).flatten):=λn b c=>by refine bG.2 ⟨_,aK b,?_⟩;rw[(h.wG b).mem_iff];obtain⟨p,hp,e⟩:=aM.1 c;exact e▸aK (dg.2 ⟨a,ha,hp⟩)
 have g:f.1=a.2.1:=by have:=db h1;simpa using this
 have i:t.1=a.2.2.1:=by have:=db h2;simpa using this
 rcases hd with rfl|rfl
 refine mk f (aX h1) ?_;unfold ph;rw[j];simp[g];refine mk t (aX h2) ?_;unfold ph;rw[j];simp[i]
theorem JN{d:Int}(hd:d∈k7 al ag):-d∈k7 al ag:=by rw[h.uP]at hd⊢;obtain⟨a,ha,rfl|rfl⟩:=hd;exact⟨a,ha,.inr rfl⟩;exact⟨a,ha,.inl (by omega)⟩
theorem MJ:(k7 al ag).length<=512:=by
 have key:∀l:List b9,(∀n∈l,n∈al)->((l.map (ki al ag)).flatten).length<=(l.map λn=>(np al ag n.1 ag).length).sum:=by
  intro l
  induction l with
  |nil=> simp
  |cons n l c =>intro hl;have:=c (λx f=>hl x (by simp[f]));have e:=(h.wG (hl n (by simp))).length_eq;rw[aI]at e;simp only[au,List.flatten_cons,aS,de];omega
 have q:=key al (λ_ o=>o);have g:∀l:List b9,(l.map (·.1)).Pairwise (·<·)->∀b:List ct,(l.map λn=>(np al ag n.1 b).length).sum<=2*b.length:=by
  intro l hp b
  induction b with
  |nil=>
   have:(l.map λn=>(np al ag n.1 []).length).sum=0:=by
    clear hp
    induction l with
    |nil=>rfl
    |cons n l c=>simp only[au,de,c];rfl
   omega
  |cons a b c=>
   have e:∀n:b9,(np al ag n.1 (a::b)).length=(ph al ag n.1 a).length+(np al ag n.1 b).length:=λn=>by have e:np al ag n.1 (a::b)=ph al ag n.1 a++np al ag n.1 b:=rfl;rw[e,aS]
   have k:(l.map λn=>(np al ag n.1 (a::b)).length).sum=(l.map λn=>(ph al ag n.1 a).length).sum+(l.map λn=>(np al ag n.1 b).length).sum:=by
    simp only[e];clear c hp
    induction l with
    |nil=>rfl
    |cons n l c=>simp only[au,de];omega
   have r:(l.map λn=>(ph al ag n.1 a).length).sum<=2:=by
    have hle:∀n:b9,(ph al ag n.1 a).length<=(if a.2.1=n.1 then 1 else 0)+(if a.2.2.1=n.1 then 1 else 0):=λn=>by unfold ph;split;simp;by_cases h1:a.2.1=n.1<;>by_cases h2:a.2.2.1=n.1<;>simp[h1,h2]
    have i:∀(x:Int) (l:List b9),(l.map (·.1)).Pairwise (·<·)->(l.map λn=>if x=n.1 then 1 else 0).sum<=1:=by
     intro x l
     induction l with
     |nil=> simp
     |cons n l c=>
      intro hp;simp only[au,aR]at hp;by_cases f:x=n.1;have:(l.map λn=>if x=n.1 then 1 else 0).sum=0:=by
       have d:∀m∈l,(if x=m.1 then 1 else 0)=0:=λm hm=>by have:=hp.1 m.1 (aK hm);rw[cc (by omega)]
       clear c hp
       induction l with
       |nil=>rfl
       |cons m l j=>simp only[au,de,d m (by simp),j (λy p=>d y (by simp[p]))]
      simp[f];rw[<-f];omega;have:=c hp.2;simp[f];exact this
    have c1:=i a.2.1 l hp;have c2:=i a.2.2.1 l hp;have:(l.map λn=>(ph al ag n.1 a).length).sum<=(l.map λn=>if a.2.1=n.1 then 1 else 0).sum+(l.map λn=>if a.2.2.1=n.1 then 1 else 0).sum:=by
     clear c c1 c2 k hp
     induction l with
     |nil=>simp
     |cons n l c=>simp only[au,de];have:=hle n;omega
    omega
   rw[k,aC];omega
 have s:=g al (pq h.vL) ag;have:=h.pA;show((al.map (ki al ag)).flatten).length<=_;omega
def DP(al:List b9)(ag:List ct):List (Int×Int):=uo (wF al ag) []
def k3(al:List b9)(ag:List ct)(d:Int):Int:=(fh gd d (DP al ag)).getD 0
theorem qK{d:Int}(hd:d∈k7 al ag):k3 al ag d∈k7 al ag:=by
 obtain⟨h1,_,c⟩:=WX (k7 al ag) (wF al ag) [] (λl hl d hd=>bG.2 ⟨l,hl,hd⟩) (λk v hv=>by simp[fh]at hv);obtain⟨l,hl,a⟩:=bG.1 (h.JN hd);have b:=c l hl _ a;rw[Int.neg_neg]at b;unfold k3 DP;cases hv:fh gd d (uo (wF al ag) [])with
 |none=>rw[hv]at b;cases b
 |some v=>exact h1 d v hv
def l9(al:List b9)(ag:List ct):List (List Int):=qW (k3 al ag) (k7 al ag) ((k7 al ag).mergeSort λa b=>Eo (a<=b)) [] []
omit h in
theorem MW{α β:Type}{l rest:List α}{i:Nat}{x:α}(f:α->β)(hd:l.drop i=x::rest):(l.take (i+1)).map f=(l.take i).map f++[f x]:=by
 rw[List.take_add_one];have:l[i]?=Q1 x:=by rw[<-lQ];exact h0 hd
 rw[this];simp
theorem RE:Bm (al,ag,fs)=Q1 (l9 al ag,0):=by
 have R:=h.qF;have g:=De.2 h;have hD:=h.MJ;unfold Bm;simp only[VN,g];refine(mw (A:=List Int×List (Int×Int)) al (λi a=>(a.1,(i:Int),a.2)) (λ_ _=>Q1 (l9 al ag,0)) (λi a=>a.1=((al.take i).map (ki al ag)).flatten/\a.2=uo ((al.take i).map (ki al ag)) []/\a.1.length<=512*i) (by omega) ?_ ?_ ([],[]) ⟨by simp,by simp[uo],by simp⟩);intro rec a w;obtain⟨h1,h2,I⟩:=w;rw[cd]at h1 h2;have J:a.1=k7 al ag:=h1;have K:=h2;have es:C5 (k7 al ag,1)=Q1 ((k7 al ag).mergeSort λa b=>Eo (a<=b)):=by
  unfold C5;rw[<-aB3];have:Eo ((k7 al ag).length<4611686018427387904)=No:=by simp only[kA];omega
  simp[this]
 simp only[kj,J,K,es];have f:=cP (k7 al ag) (λa b=>Eo (a<=b));unfold l9;generalize hL:(k7 al ag).mergeSort (λa b=>Eo (a<=b))=L at f;have M:L.length<=100000-10:=by rw[f.length_eq];omega
 have B:∀d∈L,d∈k7 al ag:=λd hd=>f.mem_iff.1 hd;refine(mw (A:=List (List Int)×List Int) L (λi b=>((i:Int),b.1,ql b.2)) (λb rest=>Q1 (qW (k3 al ag) (k7 al ag) rest b.2 b.1,0)) (λi b=>b.1.length<=i) (by omega) ?_ ?_ ([],[]) (by simp)).trans rfl;simp[qW];intro rec i b x rest a7 u hd v;have l:L[i]?=Q1 x:=by rw[<-lQ];exact h0 hd
 simp only[fB a7,bT,aW,l,ai,Jh,f' a7 (show L.length<2^62 by omega)];by_cases hs:x∈b.2;simp only[hs];have:=v b (by show b.1.length<=i+1;omega);refine this.trans ?_;simp[qW,hs];simp only[hs];have N:pV (k7 al ag) b.2<=(k7 al ag).length:=bn _ _;have n:=bT2 (DP al ag) (k7 al ag) (by omega) (λd hd=>h.qK hd) (λo=>a8 (j6 24 b.1 [o.2.1]) λp=>rec (((i+1:Nat):Int),p,o.2.2)) (λr=>Q1 (qW (k3 al ag) (k7 al ag) rest r.2 (b.1++[r.1]),0)) (λd c S=>by
  have:j6 24 b.1 [c]=Q1 (b.1++[c]):=m9 (by omega) (by simp;omega);rw[this];exact v (b.1++[c],S) (by show(b.1++[c]).length<=i+1;simp;omega)) b.2 x [] (B x (rl hd).2.2) (by simp;omega)
 simp only[bT]at n;refine n.trans ?_;simp only[qW,hs];rfl;intro rec i a x rest a7 w hd v;obtain⟨h1,h2,I⟩:=w;have l:=(rl hd).2.2;have O:=h.Mo l;have C:Fp ((al,ag,fs),x.1)=Q1 (ki al ag x):=by rw[h.aG4,h.vm l]
 simp only[fB a7,h0 hd,bT,f' a7 (show al.length<2^62 by omega),C];refine(mw (A:=List Int×List (Int×Int)) (ki al ag x) (λj b=>(b.1,(j:Int),b.2)) (λ_ _=>Q1 (l9 al ag,0)) (λj b=>b.1=a.1++(ki al ag x).take j/\b.2=((ki al ag x).take j).foldl (λm d=>mI (λ(a b:Int)=>Eo (a=b)) (-d) (qn (ki al ag x) d) m) a.2) (by omega) ?_ ?_ a ⟨by simp,by simp⟩);intro q b u;obtain⟨g1,g2⟩:=u;rw[cd]at g1 g2;simp only[kj];refine v b ⟨?_,?_,?_⟩;rw[MW _ hd,List.flatten_append,<-h1];simp[g1];rw[MW _ hd];unfold uo;rw[jZ];show b.2=BS (ki al ag x) (uo ((al.take i).map (ki al ag)) []);rw[<-h2,g2];rfl;rw[g1,aS];omega;intro q j b y r2 hj u k D;obtain⟨g1,g2⟩:=u;have P:=(rl k).2.2;have E:1<=y/\y<=1073741824\/-1073741824<=y/\y<=-1:=by have:y∈k7 al ag:=bG.2 ⟨_,aK l,P⟩;rw[h.uP]at this;obtain⟨a',G,e|e⟩:=this<;>have:=h.num G<;>omega
 have s:aa.wrap (0-y)=-y:=by rw[fx (by omega) (by omega)];omega
 have Q:b.1.length<=512*i+j:=by rw[g1,aS,cC];omega
 have H:Fb (ki al ag x,y)=Q1 (qn (ki al ag x) y):=aU7 _ _ (by omega);simp only[fB hj,h0 k,bT,f' hj (show(ki al ag x).length<2^62 by omega),s,H];rw[m9 (by omega) (by simp;omega)];have t:(ki al ag x).take (j+1)=(ki al ag x).take j++[y]:=by have:=MW (λz:Int=>z) k;simpa using this
 refine D (b.1++[y],_) ⟨?_,?_⟩;rw[t,g1,bm];rw[t,jZ,<-g2];rfl
end fp
def bn1{al:List b9}{ag:List ct}{fs:List Int}(h:tJ al ag fs≠0):Bm (al,ag,fs)=Q1 ([],tJ al ag fs):=by unfold Bm;simp only[VN,bT,h,n4,bB,b6]
abbrev kI:=Int×List Int×List (List Int)×List Int
def wL(al:List b9)(ag:List ct)(l:List ct)(m:List (Int×List bs)):List (Int×List bs):=l.foldl (λm a=>match pathOf al ag a.1 with|some p=>mI (λ(a b:Int)=>Eo (a=b)) a.1 p m|none=>m) m
def l8(al:List b9)(ag:List ct):List (Int×List bs):=wL al ag ag []
def nY(d:Int):Prop:=-9223372036854775808<d/\d<=9223372036854775807
def la(d:Int):Int:=max d (-d)
def lT(ag:List ct)(d:Int):Int:=if d=0 then 0 else match px ag (la d)with
 |some a=>if 0<d then a.2.2.2.2.1 else a.2.2.2.2.2
 |none=>0
def qD(a:kI):List (List Int):=a.2.1::a.2.2.1
def oH(ag:List ct)(k:Nat):Bool->List kI->List Int->List Int->List Int×Bool
 |_,[],seen,out=>(out,Eo ((seen.length:Int)=(k:Int)))
 |true,a::r,seen,out=>bif (qD a).all (λc=>c.all λd=>Eo (lT ag d=0))then oH ag k N2 r seen (out++[0])else([],N2)
 |false,a::r,seen,out=>
  let f:=lT ag (a.2.1.headD 0)
  bif Eo (f=0)||Eo (f∈seen)then([],N2)else bif (qD a).all (λc=>c.all λd=>Eo (lT ag d=f))then oH ag k N2 r (seen++[f]) (out++[f])else([],N2)
namespace fp
variable {al:List b9} {ag:List ct} {fs:List Int} (h:fp al ag fs)
include h
theorem Yg:E4 (al,ag,fs)=Q1 (l8 al ag):=by
 have hlen:=h.pA;unfold E4 l8;simp only[ h.Hz];refine(mP (A:=List (Int×List bs)) ag (λi m=>((i:Int),m)) (λm rest=>Q1 (wL al ag rest m)) (by omega) ?_ ?_ []).trans rfl;simp[wL];intro rec i m x rest a7 hd a;simp only[fB a7,h0 hd,bT,f' a7 (show ag.length<2^62 by omega)];cases hp:pathOf al ag x.1 with
 |none=>
  have:Eo ((7:Int)=0)=N2:=by decide
  simp only[this,bu];rw[a];simp[wL,hp]
 |some p =>rw[a];simp[wL,hp]
theorem Yf:∀(l:List ct) (m:List (Int×List bs)),(∀a∈l,a∈ag)->(l.map (·.1)).Pairwise (·<·)->∀a∈l,fh gd a.1 (wL al ag l m)=pathOf al ag a.1
 | [],m,_,_,a,ha=>by simp at ha
 |b::l,m,hm,hp,a,ha=>by
  simp only[au,aR]at hp;obtain⟨f,t,_,_,d,_⟩:=h.path (hm b (by simp));have e:wL al ag (b::l) m=wL al ag l (mI gd b.1 (f.2::(b.2.2.2.1++[t.2])) m):=by show bK _ _ _=_;rw[gD,d];rfl
  have g:∀(l:List ct) (m:List (Int×List bs)) (k:Int),(∀a∈l,a.1≠k)->fh gd k (wL al ag l m)=fh gd k m:=by
   intro l
   induction l with
   |nil=>intro m k _;rfl
   |cons x l i=>
    intro m k hk;show fh gd k (wL al ag l _)=_;rw[i _ k (λa ha=>hk a (by simp[ha]))];cases c:pathOf al ag x.1 with
    |none=>simp only[c]
    |some p =>simp only[c];have:=rV k x.1 p m;rw[cc (λe=>hk x (by simp) e.symm)]at this;exact this
  rw[e];rcases aD.1 ha with rfl|ha
  rw[g l _ a.1 (λx c=>by have:=hp.1 x.1 (aK c);omega),rV,cr rfl,d];exact Yf l _ (λx c=>hm x (by simp[c])) hp.2 a ha
theorem D1{a:ct}(ha:a∈ag):fh gd a.1 (l8 al ag)=pathOf al ag a.1:=h.Yf ag [] (λ_ h=>h) (pq h.rX) a ha
theorem U6{d:Int}(hd:nY d):FA ((al,ag,fs),d)=Q1 (if d=0 then((0,0,0,[],0,0),N2)else match px ag (la d)with|some a=>(a,No)|none=>((0,0,0,[],0,0),N2)):=by
 unfold FA;obtain⟨h1,h2⟩:=hd;by_cases cu:d=0;simp[cu];have b:Eo (d=-9223372036854775808)=N2:=by simp only[sG];omega
 have c:aa.wrap (0-d)=-d:=by rw[fx (by omega) (by omega)];omega
 simp only[cu,b,c,yP,h.Rq];have e:la d=max d (-d):=rfl;rw[e];cases px ag (max d (-d))with
 |none=>rfl
 |some a=>rfl
theorem Uh{d:Int}(hd:nY d):Bu ((al,ag,fs),d)=Q1 (lT ag d):=by
 unfold Bu lT;simp only[h.U6 hd];by_cases cu:d=0;simp[cu];simp only[cu];cases px ag (la d)with
 |none=>simp
 |some a =>by_cases h1:0<d<;>simp[h1]
theorem bf9{a:kI}(ha:a.2.2.1.length<=1000000):CZ a=Q1 (qD a):=by unfold CZ qD;have:j6 24 [a.2.1] a.2.2.1=Q1 ([a.2.1]++a.2.2.1):=m9 (by omega) (by simp;omega);simp only[this];rfl
theorem bM3{β:Type}(f:Int)(cs:List (List Int))(r:∀c∈cs,(∀d∈c,nY d)/\c.length<2^62)(hl:cs.length<2^62)(K:Option β)(bad:Option β) :
  rounds (α:=Int) (β:=β) (λs e=>
    a8 (Q1 (Eo (e<(cs.length:Int)))) λk=>
    bif k then(
     a8 (nth cs e) λb=>
     a8 (Q1 ((b).length:Int)) λl=>
     rounds (α:=Int) (β:=β) (λt g=>
     a8 (Q1 (Eo (g<l))) λm=>
     bif m then(
      a8 (nth b g) λa=>
      a8 (Bu ((al,ag,fs),a)) λn=>
      a8 (Q1 (!decide (n=f))) λo=>
      bif o then bad else(
      a8 (Q1 (aa.wrap (g+(1:Int)))) λp=>
      t p))else(
      a8 (Q1 (aa.wrap (e+(1:Int)))) λa=>
      s a)) (0:Int))else K) (0:Int)=bif cs.all (λc=>c.all λd=>Eo (lT ag d=f))then K else bad:=by
 refine(mP (A:=Unit) cs (λi _=>(i:Int)) (λ_ rest=>bif rest.all (λc=>c.all λd=>Eo (lT ag d=f))then K else bad) (by omega) ?_ ?_ ()).trans rfl;simp;intro rec i u x rest a7 hd D;obtain⟨v,w⟩:=r x (rl hd).2.2;simp only[fB a7,h0 hd,bT,f' a7 hl];rw[D (),bU];refine(mP (A:=Unit) x (λi _=>(i:Int)) (λ_ B=>bif B.all (λd=>Eo (lT ag d=f))then(bif rest.all (λc=>c.all λd=>Eo (lT ag d=f))then K else bad)else bad) (by omega) ?_ ?_ ()).trans ?_;simp;intro C j u y B hj q z;have E:=v y (rl q).2.2;simp only[fB hj,h0 q,bT,f' hj w,h.Uh E];rw[z (),bU];cases Eo (lT ag y=f)<;>simp;cases x.all (λd=>Eo (lT ag d=f))<;>simp
structure aG3(a:kI):Prop where
 outer:(∀d∈a.2.1,nY d)/\a.2.1.length<=1000000
 inner:∀c∈a.2.2.1,(∀d∈c,nY d)/\c.length<=1000000
 IK:a.2.2.1.length<=1000000
theorem Vo{l:List kI}(hl:l.length<=1000000)(o:∀a∈l,aG3 a)(p:∀a∈l.tail,a.2.1≠[]):Fg ((al,ag,fs),l)=Q1 (oH ag fs.length No l [] []):=by
 have hF:=λ(f:Int) (cs:List (List Int)) h1 h2 K bad=>h.bM3 (β:=List Int×Bool) f cs h1 h2 K bad;refine(mw (A:=List Int×List Int) l (λi a=>(a.2,(i:Int),ql a.1)) (λa rest=>Q1 (oH ag fs.length (Eo (rest.length=l.length)) rest a.1 a.2)) (λi a=>a.2.length<=i) (by omega) ?_ ?_ ([],[]) (by simp)).trans (by simp);intro rec a B;have e:((ql a.1).length:Int)=(a.1.length:Int):=by simp[ql]
 simp only[kj,bu,oH,e];intro rec i a x rest a7 B hd w;have q:=rl hd;have g:=o x q.2.2;have r:=h.bf9 g.IK;have k:∀c∈qD x,(∀d∈c,nY d)/\c.length<2^62:=λc hc=>by
  rcases aD.1 hc with rfl|hc
  exact⟨g.outer.1,by have:=g.outer.2;omega⟩;exact⟨(g.inner c hc).1,by have:=(g.inner c hc).2;omega⟩
 have m:(qD x).length<2^62:=by have:=g.IK;simp only[qD,aC];omega
 simp only[fB a7,h0 hd,bT,f' a7 (show l.length<2^62 by omega),r];have z:Eo (rest.length=l.length)=N2:=by simp only[sG];omega
 have b:∀f:Int,j6 8 a.2 [f]=Q1 (a.2++[f]):=λf=>m9 (by omega) (by simp;omega);by_cases cu:i=0;subst cu;have s:Eo ((x::rest).length=l.length)=No:=by simp only[aC,kA];omega
 simp only[ s];refine(hF 0 (qD x) k m _ _).trans ?_;simp only[b,bT,oH];have t:(a.2++[(0:Int)]).length<=0+1:=by rw[aS];simp only[fw];omega
 have:=w (a.1,a.2++[0]) t;rw[z]at this;rw[this];cases(qD x).all (λc=>c.all λd=>Eo (lT ag d=0))<;>simp;have s:Eo ((x::rest).length=l.length)=N2:=by simp only[aC,sG];omega
 have C:Eo ((0:Int)<(i:Int))=No:=by simp only[kA];omega
 have u:x∈l.tail:=by
  have:x∈l.drop 1:=by
   have hm:x∈l.drop i:=by rw[hd];simp
   have:l.drop i=(l.drop 1).drop (i-1):=by rw[List.drop_drop,show 1+(i-1)=i by omega]
   rw[this]at hm;exact ao hm
  simpa using this
 obtain⟨d0,n,j⟩:∃d0 n,x.2.1=d0::n:=by
  cases hc:x.2.1 with
  |nil=>exact b8 hc (p x u)
  |cons d0 n=>exact⟨d0,n,rfl⟩
 have v:nth x.2.1 (0:Int)=Q1 d0:=by have:=lQ x.2.1 0;rw[j]at this⊢;exact this
 have tX:=g.outer.1 d0 (by rw[j];simp);have D:x.2.1.headD 0=d0:=by rw[j];rfl
 simp only[C,s,v,bT,h.Uh tX,Jh,oH,D];by_cases hz:lT ag d0=0;simp[hz];simp only[hz];by_cases hs:lT ag d0∈a.1;simp[hs];have E:=OY _ _ hs;simp only[hs,E];refine(hF (lT ag d0) (qD x) k m _ _).trans ?_;simp only[b,bT];have:=w (a.1++[lT ag d0],a.2++[lT ag d0]) (by simp;omega);rw[z]at this;rw[this];cases(qD x).all (λc=>c.all λd=>Eo (lT ag d=lT ag d0))<;>simp
end fp
def w5(at':bs)(st:Bool×Bool)(a b:bs):Bool×Bool :=
 bif mc a b at' then(st.1,No)else
 bif (Eo (a.2<=at'.2)&&(Eo (at'.2<b.2)&&Eo (0<l7 a b at')))||(Eo (b.2<=at'.2)&&(Eo (at'.2<a.2)&&Eo (l7 a b at'<0)))then(!st.1,st.2)else st
def vj(at':bs):bs->List bs->Bool×Bool->Bool×Bool
 |_,[],st=>st
 |p,q::r,st=>vj at' q r (w5 at' st p q)
def y7(at':bs)(l:List bs)(st:Bool×Bool):Bool×Bool:=match l with
 | []=>st
 |p::r=>vj at' p r st
def tn(m:List (Int×List bs))(at':bs):List Int->Bool×Bool->Bool×Bool
 | [],st=>st
 |d::r,st=>tn m at' r (y7 at' ((fh gd (la d) m).getD []) st)
def nF(m:List (Int×List bs))(od:List Int)(at':bs):Bool:=bif (tn m at' od (N2,N2)).1 then !(tn m at' od (N2,N2)).2 else N2
def bZ3{β:Type}(at':bs)(p0:bs)(l:List bs)(hl:l.length<=1000000)(K:Bool×Bool->Option β)(st:Bool×Bool) :
  rounds (α:=Int×Bool×Bool) (β:=β) (λf d=>
   bif (Eo (d.1<((p0::l).length:Int)))then(
   a8 (nth (p0::l) (aa.wrap (d.1-(1:Int)))) λg=>
   a8 (nth (p0::l) d.1) λh=>
   a8 (qV (g,h,at')) λj=>
   bif j then(
    f (aa.wrap (d.1+(1:Int)),d.2.1,No))else(
    bif (Eo (g.2<=at'.2))then(
    bif (Eo (at'.2<h.2))then(
     a8 (qR (g,h,at')) λk=>
     bif (Eo ((0:Int)<k))then(
     f (aa.wrap (d.1+(1:Int)),!(d.2.1),d.2.2))else(
     bif (Eo (h.2<=at'.2))then(
      bif (Eo (at'.2<g.2))then(
      a8 (qR (g,h,at')) λm=>
      bif (Eo (m<(0:Int)))then(
       f (aa.wrap (d.1+(1:Int)),!(d.2.1),d.2.2))else(
       f (aa.wrap (d.1+(1:Int)),d.2.1,d.2.2)))else(
      f (aa.wrap (d.1+(1:Int)),d.2.1,d.2.2)))else(
      f (aa.wrap (d.1+(1:Int)),d.2.1,d.2.2))))else(
     bif (Eo (h.2<=at'.2))then(
     bif (Eo (at'.2<g.2))then(
      a8 (qR (g,h,at')) λo=>
      bif (Eo (o<(0:Int)))then(
      f (aa.wrap (d.1+(1:Int)),!(d.2.1),d.2.2))else(
      f (aa.wrap (d.1+(1:Int)),d.2.1,d.2.2)))else(
      f (aa.wrap (d.1+(1:Int)),d.2.1,d.2.2)))else(
     f (aa.wrap (d.1+(1:Int)),d.2.1,d.2.2))))else(
    bif (Eo (h.2<=at'.2))then(
     bif (Eo (at'.2<g.2))then(
     a8 (qR (g,h,at')) λp=>
     bif (Eo (p<(0:Int)))then(
      f (aa.wrap (d.1+(1:Int)),!(d.2.1),d.2.2))else(
      f (aa.wrap (d.1+(1:Int)),d.2.1,d.2.2)))else(
     f (aa.wrap (d.1+(1:Int)),d.2.1,d.2.2)))else(
     f (aa.wrap (d.1+(1:Int)),d.2.1,d.2.2)))))else(
   K d.2)) ((1:Int),st)=K (vj at' p0 l st):=by
 refine(mw (A:=bs×Bool×Bool) l (λi a=>(((i+1:Nat):Int),a.2)) (λa rest=>K (vj at' a.1 rest a.2)) (λi a=>(p0::l)[i]?=Q1 a.1) (by omega) ?_ ?_ (p0,st) rfl)
 grind[vj]
 intro rec i a x rest a7 s hd t;have r:(p0::l)[i+1]?=Q1 x:=by rw[aF,<-lQ];exact h0 hd
 have e:((p0::l).length:Int)=((l.length+1:Nat):Int):=by simp
 have u:aa.wrap (((i+1:Nat):Int)-1)=(i:Int):=by grind[fx]
 have v:aa.wrap (((i+1:Nat):Int)+1)=((i+1+1:Nat):Int):=f' (n:=2000000) (by omega) (by omega);have f1:∀a b c:bs,qV (a,b,c)=Q1 (mc a b c):=λa b c=>FH a b c;have f2:∀a b c:bs,qR (a,b,c)=Q1 (l7 a b c):=λa b c=>M8 a b c;simp only[e,fB (show i+1<l.length+1 by omega),b6,u,lQ,s,r,bT,f1,f2,v];have w:=λq=>t (x,q) r
 grind[vj,w5,mc,l7,decide_true,decide_false]
def JG(m:List (Int×List bs))(od:List Int):Prop:=od.length<=1000000/\∀d∈od,nY d/\∃p0 l,fh gd (la d) m=Q1 (p0::l)/\l.length<=1000000
def bL7{m:List (Int×List bs)}{od:List Int}(h:JG m od)(at':bs):AK (m,od,at')=Q1 (nF m od at'):=by
 have hF:=λ(p0:bs) (l:List bs) hl K st=>bZ3 (β:=Bool) at' p0 l hl K st;unfold AK;simp only[bT];refine(mP (A:=Bool×Bool) od (λi a=>((i:Int),a.2,a.1)) (λa rest=>Q1 (bif (tn m at' rest a).1 then !(tn m at' rest a).2 else N2)) (by have:=h.1;omega) ?_ ?_ (N2,N2)).trans rfl
 grind[tn]
 intro rec i a d rest a7 hd k;have hm:d∈od:=by grind[ao]
 obtain⟨⟨d1,d2⟩,p0,l,c,e⟩:=h.2 d hm;have f:aa.wrap (0-d)=-d:=by grind[fx]
 have g:fh (λ(a b:Int)=>Eo (a=b)) (max d (-d)) m=Q1 (p0::l):=c;have j:oD (Q1 (p0::l)) (Ld:Option (List bs))=Q1 (p0::l):=rfl;simp only[fB a7,b6,h0 hd,bT,f,yP,g,j,f' a7 (show od.length<2^62 by have:=h.1;omega)];refine(hF p0 l e (λx=>rec (((i+1:Nat):Int),x.2,x.1)) a).trans ?_
 grind[vj,tn,y7]
def uA(p q:bs):Int:=p.1*q.2-q.1*p.2
def oZ:bs->List bs->Int
 |_,[]=>0
 |p,q::r=>uA p q+oZ q r
def vI{a b A:Int}(h1:-A<=a)(h2:a<=A)(e:-A<=b)(f:b<=A):-(A*A)<=a*b/\a*b<=A*A:=by
 have cu:0<=A:=by omega
 constructor;have g:a*b+A*A=(A+a)*b+A*(A-b):=by grind
 rcases ia 0 b with c|c
 have:=aL (show 0<=A+a by omega) c;have:=aL cu (show 0<=A-b by omega);omega;have d:a*b+A*A=(A-a)*(-b)+A*(A+b):=by grind
 have:=aL (show 0<=A-a by omega) (show 0<=-b by omega);have:=aL cu (show 0<=A+b by omega);omega;rcases ia 0 b with c|c
 have d:A*A-a*b=(A-a)*b+A*(A-b):=by grind
 have:=aL (show 0<=A-a by omega) c;have:=aL cu (show 0<=A-b by omega);omega;have d:A*A-a*b=(A+a)*(-b)+A*(A+b):=by grind
 have:=aL (show 0<=A+a by omega) (show 0<=-b by omega);have:=aL cu (show 0<=A+b by omega);omega
def ub(p:bs):Prop:=-2097152<=p.1/\p.1<=2097152/\-2097152<=p.2/\p.2<=2097152
def Nd:∀(l:List bs) (p:bs),ub p->(∀q∈l,ub q)->-(8796093022208*(l.length:Int))<=oZ p l/\oZ p l<=8796093022208*(l.length:Int)
 | [],_,_,_=>by simp[oZ]
 |q::r,p,hp,hl=>by have a:=hl q (by simp);have c:=Nd r q a (λx b=>hl x (by simp[b]));obtain⟨d,a2⟩:=vI (A:=2097152) hp.1 hp.2.1 a.2.2.1 a.2.2.2;obtain⟨e,f⟩:=vI (A:=2097152) a.1 a.2.1 hp.2.2.1 hp.2.2.2;simp only[oZ,uA,aC];omega
def bZ6{β:Type}(p0:bs)(l:List bs)(hl:l.length<=1000)(cu:ub p0)(hc:∀q∈l,ub q)(K:Int->Option β) :
  rounds (α:=Int×Int) (β:=β) (λh b=>
    bif (Eo (b.2<(l.length:Int)))then(
     a8 (nth (p0::l) b.2) λc=>
     a8 (nth (p0::l) (aa.wrap (b.2+(1:Int)))) λd=>
     a8 (nth (p0::l) (aa.wrap (b.2+(1:Int)))) λe=>
     a8 (nth (p0::l) b.2) λf=>
     h (aa.wrap (b.1+aa.wrap (aa.wrap (c.1*d.2)-aa.wrap (e.1*f.2))),aa.wrap (b.2+(1:Int))))else(
     K b.1)) ((0:Int),(0:Int))=K (oZ p0 l):=by
 refine(mw (A:=bs×Int) l (λi a=>(a.2,(i:Int))) (λa rest=>K (a.2+oZ a.1 rest)) (λi a=>(p0::l)[i]?=Q1 a.1/\ub a.1/\-(8796093022208*(i:Int))<=a.2/\a.2<=8796093022208*(i:Int)) (by omega) ?_ ?_ (p0,0) ⟨rfl,cu,by simp,by simp⟩).trans (by simp)
 grind[oZ]
 intro rec i a x rest a7 j hd o;obtain⟨j,hp,g1,g2⟩:=j;have m:(p0::l)[i+1]?=Q1 x:=by rw[aF,<-lQ];exact h0 hd
 have k:x∈l:=by grind
 have g:=hc x k;have p:aa.wrap ((i:Int)+1)=((i+1:Nat):Int):=f' (n:=2000000) (by omega) (by omega);simp only[fB a7,b6,p,lQ,j,m,bT];obtain⟨w,a2⟩:=vI (A:=2097152) hp.1 hp.2.1 g.2.2.1 g.2.2.2;obtain⟨z,B⟩:=vI (A:=2097152) g.1 g.2.1 hp.2.2.1 hp.2.2.2;have r:aa.wrap (a.1.1*x.2)=a.1.1*x.2:=fx (by omega) (by omega);have s:aa.wrap (x.1*a.1.2)=x.1*a.1.2:=fx (by omega) (by omega);have t:aa.wrap (a.1.1*x.2-x.1*a.1.2)=uA a.1 x:=fx (by omega) (by omega);have u:uA a.1 x=a.1.1*x.2-x.1*a.1.2:=rfl;have v:aa.wrap (a.2+uA a.1 x)=a.2+uA a.1 x:=fx (by omega) (by omega);rw[r,s,t,v];have:=o (x,a.2+uA a.1 x) ⟨m,g,by simp only;omega,by simp only;omega⟩
 grind[oZ]
def vi(al:List b9)(ag:List ct)(d:Int):Int:=match pathOf al ag (la d)with
 |some (p::l)=>if d<0 then -(oZ p l)else oZ p l
 |_=>0
def l5(al:List b9)(ag:List ct):List Int->Int
 | []=>0
 |d::r=>vi al ag d+l5 al ag r
namespace fp
variable {al:List b9} {ag:List ct} {fs:List Int} (h:fp al ag fs)
include h
theorem It{d:Int}(hd:∃a∈ag,a.1=la d):∃p0 l,pathOf al ag (la d)=Q1 (p0::l)/\l.length<=65/\ub p0/\∀q∈l,ub q:=by
 obtain⟨a,ha,hid⟩:=hd;obtain⟨f,t,_,_,hp,_⟩:=h.path ha;have hv:a.2.2.2.1.length<=64:=by
  have:=h.AD
  grind[wT,aj]
 have c:=h.D0 ha hp;have b:∀p:bs,lR p=No->ub p:=λp hp=>by simp only[lR,ab,kA]at hp;exact⟨by omega,by omega,by omega,by omega⟩
 grind
theorem Uj{od:List Int}(hc:od.length<=512)(hm:∀d∈od,nY d/\d≠0/\∃a∈ag,a.1=la d):Bs ((al,ag,fs),od)=Q1 (l5 al ag od):=by
 have hF:=λ(p0:bs) (l:List bs) hl cu hc K=>bZ6 (β:=Int) p0 l hl cu hc K;unfold Bs;have hlen:Eo ((512:Int)<(od.length:Int))=N2:=by grind
 simp only[bT,hlen,bu];refine(mw (A:=Int) od (λi a=>(a,(i:Int))) (λa rest=>Q1 (a+l5 al ag rest)) (λi a=>-(571746046443520*(i:Int))<=a/\a<=571746046443520*(i:Int)) (by omega) ?_ ?_ 0 ⟨by simp,by simp⟩).trans (by simp)
 grind[l5]
 intro rec i a d rest a7 o hd p;have e:d∈od:=by grind[ao]
 obtain⟨k,cu,g,b,hid⟩:=hm d e;obtain⟨d1,d2⟩:=k;have c:px ag (la d)=Q1 g:=by rw[<-hid];exact h.zD b
 obtain⟨p0,l,hp,hl,j,cl⟩:=h.It ⟨g,b,hid⟩;have m:aa.wrap (0-d)=-d:=by grind[fx]
 have f:pathOf al ag (max d (-d))=Q1 (p0::l):=hp;simp only[fB a7,b6,h0 hd,bT,h.U6 ⟨d1,d2⟩,cu,l4,c,aw,bu,m,yP,h.Hz,f,l6];have n:aa.wrap (((p0::l).length:Int)-1)=(l.length:Int):=by grind[fx,aC]
 simp only[n];refine(hF p0 l (by omega) j cl (λA=>bif Eo (d<0)then rec (aa.wrap (a+aa.wrap (0-A)),aa.wrap ((i:Int)+1))else rec (aa.wrap (a+A),aa.wrap ((i:Int)+1)))).trans ?_;obtain⟨q,r⟩:=Nd l p0 j cl
 grind[oZ,f',fx,decide_true,l5,vi,decide_false]
end fp
def xd(L:List kI)(b:Nat):Int:=((L[b]?).map (λx=>x.1)).getD 0
def rz(m:List (Int×List bs))(at':bs)(L:List kI):List kI->Nat->Nat->Nat
 | [],_,b=>b
 |x::r,i,b=>rz m at' L r (i+1) (bif (Eo (b=0)||Eo (x.1<xd L b))&&nF m x.2.1 at' then i else b)
def oI(m:List (Int×List bs))(L:List kI)(at':bs):Nat:=rz m at' L L.tail 1 0
def N9(m:List (Int×List bs))(at':bs)(L:List kI):∀(r:List kI) (i b n:Nat),i+r.length<=n->b<n->rz m at' L r i b<n
 | [],_,b,n,_,a=>a
 |x::r,i,b,n,a7,a=>by simp only[rz];simp only[aC]at a7;refine N9 m at' L r (i+1) _ n (by omega) ?_;cases(Eo (b=0)||Eo (x.1<xd L b))&&nF m x.2.1 at';exact a;simp only[b6];omega
def an3{β:Type}(m:List (Int×List bs))(at':bs)(c:kI)(l:List kI)(hl:l.length<=1000000)(hp:∀a∈l,JG m a.2.1)(K:Int×Int->Option β) :
  rounds (α:=Int×Int) (β:=β) (λd b=>
    bif (Eo (b.1<(((c::l).length:Nat):Int)))then(
    bif (Eo (b.2=(0:Int)))then(
     a8 ((bif Eo (0<=b.1)&&Eo (b.1<(((c::l).length:Nat):Int))then Q1 ()else Ld)) λ_=>
     a8 (((c::l)[(b.1).toNat]?).map (λx=>x.2.1)) λf=>
     a8 (AK (m,f,at')) λg=>
     bif g then(
     d (aa.wrap (b.1+(1:Int)),b.1))else(
     d (aa.wrap (b.1+(1:Int)),b.2)))else(
     a8 ((bif Eo (0<=b.1)&&Eo (b.1<(((c::l).length:Nat):Int))then Q1 ()else Ld)) λ_=>
     a8 (((c::l)[(b.1).toNat]?).map (λx=>x.1)) λf=>
     a8 ((bif Eo (0<=b.2)&&Eo (b.2<(((c::l).length:Nat):Int))then Q1 ()else Ld)) λ_=>
     a8 (((c::l)[(b.2).toNat]?).map (λx=>x.1)) λg=>
     bif (Eo (f<g))then(
     a8 ((bif Eo (0<=b.1)&&Eo (b.1<(((c::l).length:Nat):Int))then Q1 ()else Ld)) λ_=>
     a8 (((c::l)[(b.1).toNat]?).map (λx=>x.2.1)) λj=>
     a8 (AK (m,j,at')) λk=>
     bif k then(
      d (aa.wrap (b.1+(1:Int)),b.1))else(
      d (aa.wrap (b.1+(1:Int)),b.2)))else(
     d (aa.wrap (b.1+(1:Int)),b.2))))else(
    K b)) ((1:Int),(0:Int))=K (((l.length+1:Nat):Int),((oI m (c::l) at':Nat):Int)):=by
 have e:(((c::l).length:Nat):Int)=((l.length+1:Nat):Int):=by simp
 refine(mw (A:=Nat) l (λi a=>(((i+1:Nat):Int),(a:Int))) (λa rest=>K (((l.length+1:Nat):Int),((rz m at' (c::l) rest (l.length-rest.length+1) a:Nat):Int))) (λi a=>a<i+1) (by omega) ?_ ?_ 0 (by omega)).trans ?_;intro rec a w;simp only[e,kj,bu,rz];intro rec i a x rest a7 w hd s;have o:l.length-(x::rest).length+1=i+1:=by have:=lU eP hd;simp only[ib]at this⊢;omega
 have p:l.length-rest.length+1=i+1+1:=by simp only[aC]at o;have:=lU eP hd;simp only[ib,aC]at this;omega
 have z:(c::l)[i+1]?=Q1 x:=by rw[aF,<-lQ];exact h0 hd
 have q:x∈l:=by
  have:x∈l.drop i:=by rw[hd];simp
  exact ao this
 have ha:a<(c::l).length:=by simp only[aC];omega
 have t:=af ha;have B:aa.wrap (((i+1:Nat):Int)+1)=((i+1+1:Nat):Int):=f' (n:=2000000) (by omega) (by omega);have G:(Eo (0<=((i+1:Nat):Int))&&Eo (((i+1:Nat):Int)<((l.length+1:Nat):Int)))=No:=by simp;omega
 have C:(Eo (0<=(a:Int))&&Eo ((a:Int)<((l.length+1:Nat):Int)))=No:=by simp;omega
 have D:Eo ((a:Int)=0)=Eo (a=0):=by by_cases h:a=0<;>simp
 have r:=bL7 (hp x q) at';simp only[e,fB (show i+1<l.length+1 by omega),B,C,D,aW,z,t,ai,bT,r];have u:=s (i+1) (by omega);have v:=s a (by omega);simp only[p]at u v;rw[u,v,o];have E:xd (c::l) a=((c::l)[a]'ha).1:=by simp[xd,t]
 simp only[rz,E];cases h1:Eo (a=0)<;>cases h2:Eo (x.1<((c::l)[a]'ha).1)<;>cases H:nF m x.2.1 at'<;>rfl;simp only[Nat.sub_self,oI,kR]
abbrev Ct:=Int×List Int×Unit×Unit
def oY(L:List kI)(k:Nat)(c:List Int):List kI:=match L[k]? with
 |some x=>L.set k (x.1,x.2.1,x.2.2.1++[c],x.2.2.2)
 |none=>L
def p_(L:List kI)(k:Nat)(n:Int):List kI:=match L[k]? with
 |some x=>L.set k (x.1,x.2.1,x.2.2.1,x.2.2.2++[n])
 |none=>L
structure vr(m:List (Int×List bs))(L:List kI)(n i j:Nat):Prop where
 len:L.length=n+1
 out:∀a∈L.tail,JG m a.2.1
 z8:∀a∈L,a.2.2.1.length<=i
 zC:∀a∈L,a.2.2.2.length<=j
def IC{α:Type}{L:List α}{k:Nat}{y a:α}(h:a∈(L.set k y).tail):a∈L.tail\/(a=y/\1<=k/\k<L.length):=by
 cases L;simp at h;rename_i x l;cases k;exact .inl (by simpa using h);rename_i k;simp only[jT]at h⊢;by_cases hk:k<l.length;rcases cD h with h|h
 exact .inl h;exact .inr ⟨h,by omega,by simp;omega⟩;rw[List.set_eq_of_length_le (by omega)]at h;exact .inl h
def Jt{α:Type}{L:List α}{k:Nat}{x:α}(h:L[k]?=Q1 x)(hk:1<=k):x∈L.tail:=by cases L;simp at h;cases k;omega;exact aH h
theorem vr.oY{m:List (Int×List bs)}{L:List kI}{n i j k:Nat}(h:vr m L n i j)(c:List Int):vr m (oY L k c) n (i+1) j:=by
 unfold Go.Ab.oY;cases d:L[k]? with
 |none=>exact⟨h.len,h.out,λa ha=>by have:=h.z8 a ha;omega,h.zC⟩
 |some x=>
  have b:=aH d;refine⟨by simp[h.len],λa ha=>?_,λa ha=>?_,λa ha=>?_⟩;rcases IC ha with ha|⟨rfl,hk,_⟩
  exact h.out a ha;exact h.out x (Jt d hk);rcases cD ha with ha|rfl
  have:=h.z8 a ha;omega;have:=h.z8 x b;simp;omega;rcases cD ha with ha|rfl
  exact h.zC a ha;exact h.zC x b
theorem vr.p_{m:List (Int×List bs)}{L:List kI}{n i j k:Nat}(h:vr m L n i j)(c:Int):vr m (p_ L k c) n i (j+1):=by
 unfold Go.Ab.p_;cases d:L[k]? with
 |none=>exact⟨h.len,h.out,h.z8,λa ha=>by have:=h.zC a ha;omega⟩
 |some x=>
  have b:=aH d;refine⟨by simp[h.len],λa ha=>?_,λa ha=>?_,λa ha=>?_⟩;rcases IC ha with ha|⟨rfl,hk,_⟩
  exact h.out a ha;exact h.out x (Jt d hk);rcases cD ha with ha|rfl
  exact h.z8 a ha;exact h.z8 x b;rcases cD ha with ha|rfl
  have:=h.zC a ha;omega;have:=h.zC x b;simp;omega
def vr.cons{m:List (Int×List bs)}{L:List kI}{n i j:Nat}(h:vr m L n i j):∃a l,L=a::l:=by cases L;have:=h.len;simp at this;rename_i x l;exact⟨x,l,rfl⟩
def vr.Vq{m:List (Int×List bs)}{L:List kI}{n i j:Nat}(h:vr m L n i j)(p:bs):oI m L p<L.length:=by obtain⟨a,l,rfl⟩:=h.cons;exact N9 m p _ l 1 0 _ (by simp;omega) (by simp)
def rq(m:List (Int×List bs))(c:List Int):bs:=((((fh gd (la (c.headD 0)) m).getD [])[0]?).getD (0,0))
def sw(m:List (Int×List bs)):List (List Int)->List kI->List kI
 | [],L=>L
 |c::r,L=>sw m r (oY L (oI m L (rq m c)) c)
def ru(al:List b9)(ag:List ct)(m:List (Int×List bs)):List b9->List kI->List kI
 | [],L=>L
 |n::r,L=>ru al ag m r (bif Eo (na ag n.1=0)then p_ L (oI m L n.2) n.1 else L)
def AW(al:List b9)(ag:List ct)(cs:List (List Int)):List kI:=(0,[],[],[])::(cs.filter λc=>Eo (0<l5 al ag c)).map λc=>(l5 al ag c,c,[],[])
def sL(al:List b9)(ag:List ct)(m:List (Int×List bs))(cs:List (List Int)):List kI :=ru al ag m al (sw m (cs.filter λc=>!decide (0<l5 al ag c)) (AW al ag cs))
structure Lh(ag:List ct)(cs:List (List Int)):Prop where
 len:cs.length<=512
 od:∀c∈cs,c≠[]/\c.length<=512/\∀d∈c,nY d/\d≠0/\∃a∈ag,a.1=la d
namespace fp
variable {al:List b9} {ag:List ct} {fs:List Int} (h:fp al ag fs)
include h
theorem Vf{d:Int}(hd:∃a∈ag,a.1=la d):∃p0 l,fh gd (la d) (l8 al ag)=Q1 (p0::l)/\l.length<=65:=by obtain⟨p0,l,hp,hl,_,_⟩:=h.It hd;obtain⟨a,ha,hid⟩:=hd;exact⟨p0,l,by rw[<-hid,h.D1 ha,hid];exact hp,hl⟩
theorem bG2{cs:List (List Int)}(hc:Lh ag cs){c:List Int}(hm:c∈cs):JG (l8 al ag) c:=by obtain⟨_,h1,h2⟩:=hc.od c hm;refine⟨by omega,λd hd=>?_⟩;obtain⟨g1,_,g3⟩:=h2 d hd;obtain⟨p0,l,hl,a⟩:=h.Vf g3;exact⟨g1,p0,l,hl,by omega⟩
theorem Vg{cs:List (List Int)}(hc:Lh ag cs):Be ((al,ag,fs),cs,l8 al ag)=Q1 (sL al ag (l8 al ag) cs):=by
 have H:al.length<=256:=by have:=h.AD;simp only[wT,ab,kA]at this;exact this.1
 unfold Be;refine(mw (A:=List (List Int)×List Ct) cs (λi a=>(a.1,(i:Int),N2,a.2))
  (λa rest=>Q1 (ru al ag (l8 al ag) al (sw (l8 al ag) (a.1++rest.filter λc=>!decide (0<l5 al ag c)) ((a.2.map λx=>(x.1,x.2.1,[],[]))++(rest.filter λc=>Eo (0<l5 al ag c)).map λc=>(l5 al ag c,c,[],[])))))
  (λi a=>a.1.length<=i/\a.2.length<=i+1/\a.2≠[]/\(∀c∈a.1,c∈cs)/\∀x∈a.2.tail,x.2.1∈cs) (by have:=hc.len;omega) ?_ ?_ ([],[(0,[],(),())]) ⟨by simp,by simp,by simp,by simp,by simp⟩).trans ?_
 intro rec a I;obtain⟨i1,i2,i3,i4,i5⟩:=I;have hlen:=hc.len;have v:zs (λx:Ct=>((x.1,x.2.1,([]:List (List Int)),([]:List Int)):kI)) a.2=Q1 (a.2.map λx=>(x.1,x.2.1,[],[])):=by
  unfold zs;have:Eo (16*a.2.length<=mB)=No:=by simp only[kA,mB];omega
  rw[this];rfl
 simp only[kj,v,kE,bD,dj];have hA:vr (l8 al ag) (a.2.map λx=>((x.1,x.2.1,[],[]):kI)) (a.2.length-1) 0 0:=by
  obtain⟨y,l,hl⟩:∃y l,a.2=y::l:=by
   cases J:a.2 with
   |nil=>exact b8 J i3
   |cons y l=>exact⟨y,l,rfl⟩
  rw[hl]at i5⊢;refine⟨by simp,λb w=>?_,λb w=>?_,λb w=>?_⟩;obtain⟨x,f,rfl⟩:=aM.1 w;exact h.bG2 hc (i5 x f);obtain⟨x,f,rfl⟩:=aM.1 w;simp;obtain⟨x,f,rfl⟩:=aM.1 w;simp
 generalize hL0:(a.2.map λx=>((x.1,x.2.1,[],[]):kI))=pL at *;have hnl:a.2.length-1<=1000000:=by omega
 generalize a.2.length-1=S at *;generalize hR:a.1=R at *;refine(mw (A:=List kI) R (λi L=>((i:Int),L)) (λL rest=>Q1 (ru al ag (l8 al ag) al (sw (l8 al ag) rest L))) (λi L=>vr (l8 al ag) L S i 0) (by omega) ?_ ?_ pL hA);intro rec L g;simp only[kj,sw];refine(mw (A:=List kI) al (λi L=>((i:Int),L)) (λL rest=>Q1 (ru al ag (l8 al ag) rest L)) (λi L=>vr (l8 al ag) L S R.length i) (by omega) ?_ ?_ L g);intro rec L g;simp only[kj,bu,ru];intro rec j L n rest hj g hd t;have z:aa.wrap ((j:Int)+1)=((j+1:Nat):Int):=f' (n:=2000000) (by omega) (by omega);have B:=MR al ag fs n.1 (by have:=h.pA;omega);have e3:Eo (((na ag n.1:Nat):Int)=0)=Eo (na ag n.1=0):=by by_cases hz:na ag n.1=0<;>simp
 simp only[fB hj,h0 hd,bT,B,e3,z,ru];cases hz:Eo (na ag n.1=0)with
 |false =>exact t L ⟨g.len,g.out,g.z8,λx f=>by have:=g.zC x f;omega⟩
 |true=>
  obtain⟨s,l,o⟩:=g.cons;have u:l.length<=1000000:=by have:=g.len;rw[o]at this;simp at this;omega
  have m:=g.Vq n.2;have p:=t _ (g.p_ (k:=oI (l8 al ag) L n.2) n.1);have C:=g.zC;have q:=g.out;subst o;refine(an3 (β:=List kI) (l8 al ag) n.2 s l u q _).trans ?_;generalize oI (l8 al ag) (s::l) n.2=k at *;have hk:=af m;have K:=C _ (ay m);generalize(s::l)[k]'m=y at *;have M:(Eo (0<=(k:Int))&&Eo ((k:Int)<(((s::l).length:Nat):Int)))=No:=by simp only[ab,kA];omega
  have e:j6 8 y.2.2.2 [n.1]=Q1 (y.2.2.2++[n.1]):=m9 (by omega) (by simp;omega);simp only[aW,hk,ai,bT,M,uM,e,qI];simp only[p_,hk]at p⊢;exact p
 intro rec j L c rest hj g hd t;have r:c∈cs:=by
  refine i4 c ?_;have:c∈R.drop j:=by rw[hd];simp
  exact ao this
 obtain⟨c1,c2,N⟩:=hc.od c r;obtain⟨d,eS,rfl⟩:∃d eS,c=d::eS:=by cases c;exact b8 rfl c1;rename_i d eS;exact⟨d,eS,rfl⟩
 obtain⟨⟨d1,d2⟩,_,g3⟩:=N d (by simp);obtain⟨p0,pl,D,_⟩:=h.Vf g3;have e1:aa.wrap (0-d)=-d:=by rw[fx (by omega) (by omega)];omega
 have z:aa.wrap ((j:Int)+1)=((j+1:Nat):Int):=f' (n:=2000000) (by omega) (by omega);have e3:(Eo (0<=(j:Int))&&Eo ((j:Int)<((R.length:Nat):Int)))=No:=by simp only[ab,kA];omega
 have O:R[j]?=Q1 (d::eS):=by rw[<-lQ];exact h0 hd
 have n0:nth (d::eS) (0:Int)=Q1 d:=by have:=lQ (d::eS) 0;exact this
 have n1:nth (p0::pl) (0:Int)=Q1 p0:=by have:=lQ (p0::pl) 0;exact this
 have E:fh (λ(a b:Int)=>Eo (a=b)) (max d (-d)) (l8 al ag)=Q1 (p0::pl):=D;have e5:oD (Q1 (p0::pl)) (Ld:Option (List bs))=Q1 (p0::pl):=rfl;have P:rq (l8 al ag) (d::eS)=p0:=by simp[rq,D]
 simp only[fB hj,bT,aW,O,ai,n0,e1,yP,E,z,sw,P];obtain⟨s,l,o⟩:=g.cons;have u:l.length<=1000000:=by have:=g.len;rw[o]at this;simp at this;omega
 have m:=g.Vq p0;have p:=t _ (g.oY (k:=oI (l8 al ag) L p0) (d::eS));have G:=g.z8;have q:=g.out;subst o;refine(an3 (β:=List kI) (l8 al ag) p0 s l u q _).trans ?_;generalize oI (l8 al ag) (s::l) p0=k at *;have hk:=af m;have K:=G _ (ay m);generalize(s::l)[k]'m=y at *;have M:(Eo (0<=(k:Int))&&Eo ((k:Int)<(((s::l).length:Nat):Int)))=No:=by simp only[ab,kA];omega
 have e:j6 24 y.2.2.1 [d::eS]=Q1 (y.2.2.1++[d::eS]):=m9 (by omega) (by simp;omega);simp only[aW,hk,ai,bT,M,uM,e,qI];simp only[oY,hk]at p⊢;exact p;intro rec i a c rest a7 I hd t;obtain⟨i1,i2,i3,i4,i5⟩:=I;have r:c∈cs:=by
  have:c∈cs.drop i:=by rw[hd];simp
  exact ao this
 obtain⟨c1,c2,N⟩:=hc.od c r;have Q:=h.Uj c2 N;have z:aa.wrap ((i:Int)+1)=((i+1:Nat):Int):=f' (n:=2000000) (by have:=hc.len;omega) (by omega);have hlen:=hc.len;simp only[fB a7,h0 hd,bT,Q,z];by_cases ht:0<l5 al ag c;have e:j6 80 a.2 [(l5 al ag c,c,(),())]=Q1 (a.2++[(l5 al ag c,c,(),())]):=m9 (by omega) (by simp;omega);simp only[ e,bT];have:=t (a.1,a.2++[(l5 al ag c,c,(),())]) ⟨by show a.1.length<=i+1;omega,by simp;omega,by simp,i4,λx f=>?_⟩;rw[this];simp[ht];obtain⟨y,l,hl⟩:∃y l,a.2=y::l:=by
  cases J:a.2 with
  |nil=>exact b8 J i3
  |cons y l=>exact⟨y,l,rfl⟩
 simp only[hl,kR]at f i5;rcases aY.1 f with f|f
 exact i5 x f;simp at f;subst f;exact r;have e:j6 24 a.1 [c]=Q1 (a.1++[c]):=m9 (by omega) (by simp;omega);simp only[ e,bT];have:=t (a.1++[c],a.2) ⟨by simp;omega,by show a.2.length<=i+1+1;omega,i3,λx f=>?_,i5⟩;rw[this];simp[ht];rcases aY.1 f with f|f
 exact i4 x f;simp at f;subst f;exact r;simp[sL,AW]
end fp
def aG0(D S:List Int):pV D S<=D.length:=bn _ _
def ND{gA:Int->Int}{D:List Int}(b:∀d∈D,gA d∈D):∀(n:Nat) (S:List Int) (d:Int) (c:List Int),d∈D->(∀x∈c,x∈D) ->
  (∀x∈(rn gA n S d c).1,x∈D)/\(rn gA n S d c).1.length+pV D (rn gA n S d c).2<=c.length+pV D S/\c.length<=(rn gA n S d c).1.length
 | 0,S,d,c,_,hc=>by simp only[rn];exact⟨hc,by omega,by omega⟩
 |n+1,S,d,c,hd,hc=>by
  unfold rn;split;exact⟨hc,aB _,aB _⟩;rename_i hs;obtain⟨h1,h2,e⟩:=ND b n (S++[d]) (gA d) (c++[d]) (b d hd) (λx a=>by
   rcases aY.1 a with a|a
   exact hc x a;simp at a;subst a;exact hd)
  have:=N' hd hs;simp only[aS,fw]at h2 e;exact⟨h1,by omega,by omega⟩
def NH{gA:Int->Int}{D:List Int}(a:∀d∈D,gA d∈D):∀(b S:List Int) (acc:List (List Int)),(∀d∈b,d∈D)->(∀c∈acc,c≠[]/\c.length<=D.length/\∀d∈c,d∈D) ->
  (qW gA D b S acc).length<=acc.length+b.length/\∀c∈qW gA D b S acc,c≠[]/\c.length<=D.length/\∀d∈c,d∈D
 | [],S,acc,_,ha=>by simp only[qW];exact⟨by simp,ha⟩
 |d::b,S,acc,hd,ha=>by
  unfold qW;split;obtain⟨h1,h2⟩:=NH a b S acc (λx f=>hd x (by simp[f])) ha;exact⟨by simp only[aC];omega,h2⟩;rename_i hs;have e:=hd d (by simp);obtain⟨g1,g2,g3⟩:=ND a (pV D S+1) S d [] e (by simp);have g:(rn gA (pV D S+1) S d []).1≠[]:=by unfold rn;rw[cc hs];have:=(ND a (pV D S) (S++[d]) (gA d) ([]++[d]) (a d e) (by simpa using e)).2.2;intro he;rw[he]at this;simp at this
  obtain⟨h1,h2⟩:=NH a b (rn gA (pV D S+1) S d []).2 (acc++[(rn gA (pV D S+1) S d []).1]) (λx f=>hd x (by simp[f])) (λc hc=>by
   rcases aY.1 hc with hc|hc
   exact ha c hc;simp at hc;subst hc;have:=aG0 D S;simp only[dy]at g2;exact⟨g,by omega,g1⟩)
  simp only[aS,fw]at h1;exact⟨by simp only[aC];omega,h2⟩
namespace fp
variable {al:List b9} {ag:List ct} {fs:List Int} (h:fp al ag fs)
include h
theorem wK:Lh ag (l9 al ag):=by
 have e:=h.MJ;obtain⟨h1,h2⟩:=NH (gA:=k3 al ag) (D:=k7 al ag) (λd hd=>h.qK hd) ((k7 al ag).mergeSort λa b=>Eo (a<=b)) [] [] (λd hd=>(cP _ _).mem_iff.1 hd) (by simp);have hl:((k7 al ag).mergeSort λa b=>Eo (a<=b)).length=(k7 al ag).length:=(cP _ _).length_eq;refine⟨by show(qW ..).length<=_;simp only[dy]at h1;omega,λc hc=>?_⟩;obtain⟨g1,g2,g3⟩:=h2 c hc;refine⟨g1,by omega,λd hd=>?_⟩;obtain⟨a,ha,he⟩:=h.uP.1 (g3 d hd);have f:=h.num ha;refine⟨?_,?_,a,ha,?_⟩;unfold nY;rcases he with rfl|rfl<;>omega
 rcases he with rfl|rfl<;>omega
 unfold la;rcases he with rfl|rfl<;>omega
end fp
structure rh(L:List kI)(i:Nat):Prop where
 all:∀a∈L,((∀d∈a.2.1,nY d)/\a.2.1.length<=1000000)/\(∀c∈a.2.2.1,(∀d∈c,nY d)/\c.length<=1000000)/\a.2.2.1.length<=i
 ne:∀a∈L.tail,a.2.1≠[]
theorem rh.oY{L:List kI}{i k:Nat}(h:rh L i){c:List Int}(hc:(∀d∈c,nY d)/\c.length<=1000000):rh (oY L k c) (i+1):=by
 unfold Go.Ab.oY;cases f:L[k]? with
 |none=>exact⟨λa ha=>by obtain⟨h1,h2,g⟩:=h.all a ha;exact⟨h1,h2,by omega⟩,h.ne⟩
 |some x=>
  have e:=aH f;refine⟨λa ha=>?_,λa ha=>?_⟩;rcases cD ha with ha|rfl
  obtain⟨h1,h2,g⟩:=h.all a ha;exact⟨h1,h2,by omega⟩;obtain⟨h1,h2,g⟩:=h.all x e;refine⟨h1,λj b=>?_,by simp;omega⟩;rcases aY.1 b with b|b
  exact h2 j b;simp at b;subst b;exact hc;rcases IC ha with ha|⟨rfl,hk,_⟩
  exact h.ne a ha;exact h.ne x (Jt f hk)
theorem rh.p_{L:List kI}{i k:Nat}(h:rh L i)(n:Int):rh (p_ L k n) i:=by
 unfold Go.Ab.p_;cases c:L[k]? with
 |none=>exact h
 |some x=>
  have b:=aH c;refine⟨λa ha=>?_,λa ha=>?_⟩;rcases cD ha with ha|rfl
  exact h.all a ha;exact h.all x b;rcases IC ha with ha|⟨rfl,hk,_⟩
  exact h.ne a ha;exact h.ne x (Jt c hk)
def rh.sw{m:List (Int×List bs)}:∀(r:List (List Int)) (L:List kI) (i:Nat),rh L i->(∀c∈r,(∀d∈c,nY d)/\c.length<=1000000)->rh (sw m r L) (i+r.length)
 | [],L,i,h,_=>h
 |c::r,L,i,h,a=>by have:=rh.sw (m:=m) r _ (i+1) (h.oY (k:=oI m L (rq m c)) (a c (by simp))) (λx b=>a x (by simp[b]));simp only[Go.Ab.sw,aC];rw[show i+(r.length+1)=i+1+r.length by omega];exact this
def rh.ru{al:List b9}{ag:List ct}{m:List (Int×List bs)}{i:Nat}:∀(r:List b9) (L:List kI),rh L i->rh (ru al ag m r L) i
 | [],L,h=>h
 |n::r,L,h=>by
  simp only[Go.Ab.ru];cases Eo (na ag n.1=0)with
  |false=>exact rh.ru r L h
  |true=>exact rh.ru r _ (h.p_ n.1)
def aA6{m:List (Int×List bs)}:∀(r:List (List Int)) (L:List kI),(sw m r L).length=L.length
 | [],L=>rfl
 |c::r,L=>by simp only[sw];rw[aA6 r];unfold oY;cases L[oI m L (rq m c)]?<;>simp
def at7{al:List b9}{ag:List ct}{m:List (Int×List bs)}:∀(r:List b9) (L:List kI),(ru al ag m r L).length=L.length
 | [],L=>rfl
 |n::r,L=>by
  simp only[ru];rw[at7 r];cases Eo (na ag n.1=0)with
  |false=>rfl
  |true =>unfold p_;cases L[oI m L n.2]?<;>simp
open fp (l9)
def fp.Ih{al:List b9}{ag:List ct}{fs:List Int}(h:fp al ag fs):rh (sL al ag (l8 al ag) (l9 al ag)) 512/\(sL al ag (l8 al ag) (l9 al ag)).length<=1000000:=by
  have hc:=h.wK;have g:rh (sL al ag (l8 al ag) (l9 al ag)) 512:=by
   have e:∀c∈l9 al ag,(∀d∈c,nY d)/\c.length<=1000000:=λc b=>by obtain⟨_,g2,g3⟩:=hc.od c b;exact⟨λd hd=>(g3 d hd).1,by omega⟩
   have f:rh (AW al ag (l9 al ag)) 0:=by
    refine⟨λa ha=>?_,λa ha=>?_⟩;rcases aD.1 ha with rfl|ha
    simp;obtain⟨c,b,rfl⟩:=aM.1 ha;exact⟨e c (aU.1 b).1,by simp,by simp⟩;obtain⟨c,b,rfl⟩:=aM.1 ha;exact(hc.od c (aU.1 b).1).1
   have:=rh.ru (al:=al) (ag:=ag) (m:=l8 al ag) al _ (rh.sw (m:=l8 al ag) ((l9 al ag).filter λc=>!decide (0<l5 al ag c)) _ 0 f (λc b=>e c (aU.1 b).1));refine⟨λa ha=>?_,this.ne⟩;obtain⟨h1,h2,i⟩:=this.all a ha;have hl:=bn (λc=>!decide (0<l5 al ag c)) (l9 al ag);have:=hc.len;exact⟨h1,h2,by omega⟩
  have hlen:(sL al ag (l8 al ag) (l9 al ag)).length<=1000000:=by unfold sL;rw[at7,aA6];have hl:=bn (λc=>Eo (0<l5 al ag c)) (l9 al ag);have:=hc.len;simp only[AW,aC,aI];omega
  exact⟨g,hlen⟩
def tH(al:List b9)(ag:List ct)(fs:List Int):Int:=bif Eo (tJ al ag fs=0)then(bif (oH ag fs.length No (sL al ag (l8 al ag) (l9 al ag)) [] []).2 then 0 else 12)else tJ al ag fs
def bn8(al:List b9)(ag:List ct)(fs:List Int):IB (al,ag,fs)=Q1 (tH al ag fs):=by unfold IB tH;by_cases hp:tJ al ag fs=0;have h:=De.1 hp;have hc:=h.wK;obtain⟨b,hlen⟩:=h.Ih;have hf:=h.Vo (l:=sL al ag (l8 al ag) (l9 al ag)) hlen (λa ha=>by obtain⟨h1,h2,c⟩:=b.all a ha;exact⟨h1,h2,by omega⟩) b.ne;simp only[h.RE,bT,h.Yg,h.Vg hc,hf,hp];cases(oH ag fs.length No (sL al ag (l8 al ag) (l9 al ag)) [] []).2<;>rfl;simp only[bn1 hp,bT,hp,n4,bB,b6,bu]
end Go.Ab
namespace Go.Ab
open Go Go.Sort Go.Proofs Go.Shelf
def yM:List (Int×Int×Int):=[(32,32,0),(39,41,0),(45,46,0),(48,57,0),(65,90,1),(97,122,1),(192,214,1),(216,246,1),(248,591,1),(880,1023,2),(1024,1279,3),(1488,1514,4),(19968,40959,5)]
def Cp(c:Int):List (Int×Int×Int)->Int
 | []=>-1
 |r::l=>bif Eo (r.1<=c)&&Eo (c<=r.2.1)then r.2.2 else Cp c l
def qU(r:Int):Int:=bif Eo (r<0)||Eo (1114111<r)then -1 else Cp r yM
def Ik(r:Int):Fe r=Q1 (qU r):=by
 unfold Fe qU;by_cases h1:r<0;simp[h1];by_cases h2:(1114111:Int)<r;simp[h1,h2];have c:IntKind.i32.wrap r=r:=IntWalk.i32_in r ⟨by omega,by omega⟩;simp only[h1,h2,n4,bu,Bool.or_self,c,Vz,bT];refine mP (A:=Unit) yM (λi _=>(i:Int)) (λ_ rest=>Q1 (Cp r rest)) (by simp[yM]) ?_ ?_ ();intro rec a;simp[yM,Cp];intro rec i a x rest a7 hd d;have e:Eo ((i:Int)<13)=No:=by grind[yM,aC,dy]
 have b:nth yM (i:Int)=Q1 x:=h0 hd;have f:aa.wrap ((i:Int)+1)=((i+1:Nat):Int):=f' (n:=100) (by grind) (by omega);simp only[yM]at b;simp only[e,b6,b,bT,f,Cp];have:=d ()
 grind
def Rj(b:ByteArray)(n:Nat):1<=(bI b n).2/\(bI b n).2<=4/\(bI b n).1<=2097151:=by grind[Lib.decode_at,Lib.decodeN]
def Re{α β:Type}{F:(α->Option β)->α->Option β}(I:α->Prop)(a:α->Nat)(Q:β->Prop)(h:∀rec x,I x->(∀y,I y->a y<a x->∃v,rec y=Q1 v/\Q v)->∃v,F rec x=Q1 v/\Q v):∀(n:Nat) (x:α),I x->a x<n->∃v,iter F n x=Q1 v/\Q v
 | 0,x,_,hm=>b8 hm (Nat.not_lt_zero _)
 |n+1,x,a7,hm=>by show ∃v,F (iter F n) x=Q1 v/\Q v;exact h _ x a7 λy b c=>Re I a Q h n y b (by omega)
def N6{α β:Type}{F:(α->Option β)->α->Option β}(I:α->Prop)(a:α->Nat)(Q:β->Prop)(h:∀rec x,I x->(∀y,I y->a y<a x->∃v,rec y=Q1 v/\Q v)->∃v,F rec x=Q1 v/\Q v){x:α}(b:I x)(hm:a x<2^100):∃v,rounds F x=Q1 v/\Q v :=Re I a Q h many x b (Nat.lt_of_lt_of_le hm zV)
def am6(b:ByteArray)(g:b.size<=1000):∃r,Bj b=Q1 r/\(r.2=0\/r.2=4)/\r.1.length<=1000:=by
 unfold Bj;refine N6 (λx:List Int×Int=>0<=x.2/\x.2<=(b.size:Int)+4/\(x.1.length:Int)<=x.2/\x.1.length<=1000) (λx:List Int×Int=>((b.size:Int)+4-x.2).toNat) (λr:List Int×Int=>(r.2=0\/r.2=4)/\r.1.length<=1000) ?_ ⟨by simp,by simp only;omega,by simp,by simp⟩ (by simp only;omega);intro rec x d e;obtain⟨h1,h2,h,i⟩:=d;by_cases a:x.2.toNat<b.size;obtain⟨j,k,l⟩:=Rj b x.2.toNat;have hs:Cu b x.2=Q1 ((x.2.toNat:Int),((bI b x.2.toNat).1:Int),((x.2.toNat+(bI b x.2.toNat).2:Nat):Int)):=by unfold Cu;simp[a]
 have f:aa.wrap (((bI b x.2.toNat).1:Nat):Int)=(((bI b x.2.toNat).1:Nat):Int):=fx (by omega) (by omega);have c:j6 8 x.1 [(((bI b x.2.toNat).1:Nat):Int)]=Q1 (x.1++[(((bI b x.2.toNat).1:Nat):Int)]):=m9 (by omega) (by simp;omega);simp only[a,l6,b6,hs,bT,f,Ik,c];by_cases hz:qU (((bI b x.2.toNat).1:Nat):Int)<0;simp[hz];simp only[hz,n4,bu];exact e _ ⟨by omega,by simp only;omega,by grind,by grind⟩ (by simp only;omega)
 grind
def aC9{b:ByteArray}{i:Int}(cu:0<=i)(h:i.toNat<b.size):∃v,pE b i=Q1 v:=by unfold pE;have:b[i.toNat]?=Q1 b[i.toNat]:=getElem?_pos b i.toNat h;simp[cu,this]
def aW3(b:ByteArray):∃r,FO b=Q1 r:=by
 unfold FO;cases he:(b.toList==(bW #[]).toList)with
 |true=>exact⟨_,rfl⟩
 |false=>
  simp only[bu];by_cases g:(40:Int)<(b.size:Int)
  .simp only[g,l6,b6];exact⟨_,rfl⟩
  have h:0<b.size:=by
   refine Nat.pos_of_ne_zero λhz=>?_;have t:b=bW #[]:=by
    cases b with
    |mk d=>cases d with
     |mk l=>cases l with
      |nil=>rfl
      |cons x l=>simp[ByteArray.size]at hz
   rw[t]at he;simp at he
  obtain⟨r,u,e,w⟩:=am6 b (by omega);simp only[g,n4,bu,u,bT];rcases e with e|e
  .obtain⟨n,z⟩:=aC9 (b:=b) (i:=0) (by omega) (by simpa using h)
   have B:aa.wrap ((b.size:Int)-1)=(b.size:Int)-1:=fx (by omega) (by omega);obtain⟨j,o⟩:=aC9 (b:=b) (i:=(b.size:Int)-1) (by omega) (by omega);have hc:∃v,strings_Contains (b,bW #[32,32])=Q1 v:=by
    unfold strings_Contains;have:Eo (b.size<4294967281)=No:=by grind
    simp only[this,b6];exact⟨_,rfl⟩
   obtain⟨k,p⟩:=hc;simp only[e,l6,aw,bu,z,bT,B,o,p];cases Eo (n=32)with
   |true=>exact⟨_,rfl⟩
   |false=>
    simp only[bu];cases Eo (j=32)with
    |true=>exact⟨_,rfl⟩
    |false=>
     simp only[bu];cases k with
     |true=>exact⟨_,rfl⟩
     |false=>
      simp only[bu,Ik,bT];have:=mP (A:=Unit) r.1 (β:=List Int×Int) (F:=λq f=>
       bif Eo (f<(r.1.length:Int))then a8 (nth r.1 f) λm=>bif !decide (qU m=0)then Q1 (r.1,0)else q (aa.wrap (f+1))else Q1 ([],14)) (λi _=>(i:Int)) (λ_ rest=>Q1 (bif rest.any (λc=>!decide (qU c=0))then(r.1,0)else([],14))) (by omega) ?_ ?_ ()
      .exact⟨_,this⟩
      .grind
      intro rec i a x rest a7 hd s;simp only[fB a7,b6,h0 hd,bT,f' a7 (show r.1.length<2^62 by omega),gq,s ()]
      grind
  grind
def bq3(b:ByteArray):∃c,Bp b=Q1 c:=by obtain⟨r,a⟩:=aW3 b;unfold Bp;rw[a];exact⟨_,rfl⟩
abbrev mf:=Int×Int×Int×ByteArray×List Int
def Br{α:Type}(xs:List α)(hl:xs.length<=1000000)(P:α->Option Bool)(p:α->Bool)(hp:∀x∈xs,P x=Q1 (p x)) :
  rounds (α:=Int) (β:=Bool) (λf c=>
   bif Eo (c<((xs.length:Nat):Int))then a8 (nth xs c) λd=>a8 (P d) λb=>bif b then Q1 (Eo ((0:Int)<=c))else f (aa.wrap (c+(1:Int)))else Q1 N2) (0:Int)=Q1 (xs.any p):=by
 refine mP (A:=Unit) xs (λi _=>(i:Int)) (λ_ rest=>Q1 (rest.any p)) (by omega) ?_ ?_ ()
 grind
 intro rec i a x rest a7 hd g;have h:x∈xs:=by grind[ao]
 have e:Eo ((0:Int)<=(i:Int))=No:=by simp
 simp only[fB a7,b6,h0 hd,bT,hp x h,f' a7 (show xs.length<2^62 by omega),gq,g (),e];cases p x<;>rfl
def mJ(f:mf):Bool:=Eo ((64:Int)<(f.2.2.2.2.length:Int))
def bY8(l:List mf)(hl:l.length<=1000000):Lb (l,())=Q1 (l.any mJ):=by unfold Lb;simp only[bT];exact Br l hl _ mJ λx _=>rfl
def nj(f:mf):Bool:=Eo (f.1<1)||(Eo (1073741824<f.1)||(Eo (f.2.2.1<1)||Eo (9<f.2.2.1)))
def bT0(l:List mf)(hl:l.length<=1000000):La (l,())=Q1 (l.any nj):=by
 unfold La;simp only[bT];refine Br l hl _ nj λx _=>?_;unfold MN nj
 grind
def aJ5(k:Int):∃s,wv k=Q1 s:=by
 unfold wv
 repeat' (first|exact⟨_,rfl⟩| (generalize Eo (k=_)=c;cases c<;>simp only[b6,bu]))
noncomputable def om(k:Int):Int:=(wv k).getD 0
theorem BH(k:Int):wv k=Q1 (om k):=by obtain⟨s,hs⟩:=aJ5 k;simp[om,hs]
noncomputable def rM(f:mf):Bool:=Eo (om f.2.1=0)
noncomputable def Er(b:ByteArray):Int:=(Bp b).getD 0
theorem aB8(b:ByteArray):Bp b=Q1 (Er b):=by obtain⟨s,hs⟩:=bq3 b;simp[Er,hs]
def bV7(l:List mf)(hl:l.length<=1000000):K_ (l,())=Q1 (l.any rM):=by unfold K_;simp only[bT];refine Br l hl _ rM λx _=>?_;unfold MI rM;simp only[BH,bT]
noncomputable def s_(f:mf):Bool:=bif !(f.2.2.2.1.toList==(bW #[]).toList)then !decide (Er f.2.2.2.1=0)else N2
def bY4(l:List mf)(hl:l.length<=1000000):Lc (l,())=Q1 (l.any s_):=by
 unfold Lc;simp only[bT];refine Br l hl _ s_ λx _=>?_;unfold MH s_
 grind[aB8,bT]
noncomputable def xY(f:mf):Bool:=bif Eo ((f.2.2.2.2.length:Int)=0)then No else bif Eo (om f.2.1=1)then Eo ((1:Int)<(f.2.2.2.2.length:Int))else N2
def bS7(l:List mf)(hl:l.length<=1000000):K7 (l,())=Q1 (l.any xY):=by
 unfold K7;simp only[bT];refine Br l hl _ xY λx _=>?_;unfold MQ xY
 grind[BH,bT,om]
noncomputable def uO(al:List b9)(ag:List ct)(fs:List Int)(k:Int)(id:Int):Bool :=bif Eo (om k=1)then !(nQ al id).isSome else bif Eo (om k=2)then !(px ag id).isSome else bif Eo (om k=3)then !decide (id∈fs)else No
namespace fp
variable {al:List b9} {ag:List ct} {fs:List Int} (h:fp al ag fs)
include h
theorem bn6(id:Int)(f:mf):H9 (id,f,(al,ag,fs))=Q1 (uO al ag fs f.2.1 id):=by
 have a:=h.qF;have dC:=h.wX;unfold H9 uO;simp only[BH,bT,M9 al ag fs id (by omega),h.Rq,Oj,HC fs id (by omega)]
 grind
theorem bn7(f:mf)(hl:f.2.2.2.2.length<=1000000):Ij ((al,ag,fs),f)=Q1 (f.2.2.2.2.any (uO al ag fs f.2.1)):=by unfold Ij Lv;simp only[bT];rw[Br f.2.2.2.2 hl _ (uO al ag fs f.2.1) λx _=>h.bn6 x f];rfl
theorem aM2(l:List mf)(a:List mf)(hl:l.length<=1000000)(hp:∀f∈l,f.2.2.2.2.length<=1000000):K8 (l,(al,ag,fs,a))=Q1 (l.any λf=>f.2.2.2.2.any (uO al ag fs f.2.1)):=by unfold K8;simp only[bT];refine Br l hl _ _ λf hf=>?_;unfold MS;simp only[h.bn7 f (hp f hf),bT]
end fp
def xo:List Int->Bool
 | []=>No
 | [_]=>No
 |a::b::l=>!decide (b<=a)&&xo (b::l)
theorem aL6(l:List Int)(hl:l.length<=1000000):IG l=Q1 (xo l):=by
 unfold IG;cases l;exact Dh λrec=>rfl;rename_i p0 l;simp only[aC]at hl;refine(mw (A:=Int) l (λi _=>((i+1:Nat):Int)) (λa rest=>Q1 (xo (a::rest))) (λi a=>(p0::l)[i]?=Q1 a) (by omega) ?_ ?_ p0 rfl)
 grind[xo]
 intro rec i a x rest a7 b hd g;have c:(p0::l)[i+1]?=Q1 x:=by rw[aF,<-lQ];exact h0 hd
 have e:((p0::l).length:Int)=((l.length+1:Nat):Int):=by simp
 have d:aa.wrap (((i+1:Nat):Int)-1)=(i:Int):=by grind[fx]
 have f:aa.wrap (((i+1:Nat):Int)+1)=((i+1+1:Nat):Int):=f' (n:=2000000) (by omega) (by omega);simp only[e,fB (show i+1<l.length+1 by omega),b6,d,lQ,b,c,bT,f,xo]
 grind
abbrev sI:=Int×Int
def sd:sI->sI->Bool:=λ(a b:Int×Int)=>(Eo (a.1=b.1)&&Eo (a.2=b.2))
def uN(S:List (sI×Bool))(k:sI):Bool:=(fh sd k S).getD N2
def xP(k:Int):List Int->List (sI×Bool)->Option (List (sI×Bool))
 | [],S=>Q1 S
 |p::r,S=>bif uN S (k,p)then Ld else xP k r (mI sd (k,p) No S)
noncomputable def xN:List mf->List (sI×Bool)->Bool
 | [],_=>N2
 |f::r,S=>bif Eo (om f.2.1=2)then xN r S else
  match xP (bif Eo (om f.2.1=3)then f.2.1 else 0) f.2.2.2.2 S with
  |some a=>xN r a
  |none=>No
def Wt(k:Int)(d:List Int)(hl:d.length<=1000000)(K:Int×List (sI×Bool)->Option Int)(V:Option Int)(S:List (sI×Bool)) :
  rounds (α:=Int×List (sI×Bool)) (β:=Int) (λh c=>
   bif Eo (c.1<((d.length:Nat):Int))then
    a8 (nth d c.1) λf=>
    a8 (oD (fh (λ(a b:Int×Int)=>(Eo (a.1=b.1)&&Eo (a.2=b.2))) (k,f) c.2) (Q1 N2)) λg=>
    bif g then V else h (aa.wrap (c.1+(1:Int)),mI (λ(a b:Int×Int)=>(Eo (a.1=b.1)&&Eo (a.2=b.2))) (k,f) No c.2)else K c) ((0:Int),S)=match xP k d S with|some j=>K (((d.length:Nat):Int),j)|none=>V:=by
 refine mP (A:=List (sI×Bool)) d (λi a=>((i:Int),a)) (λa rest=>match xP k rest a with|some j=>K (((d.length:Nat):Int),j)|none=>V) (by omega) ?_ ?_ S
 grind[xP]
 intro rec i a x rest a7 hd l;have e:oD (fh (λ(a b:Int×Int)=>(Eo (a.1=b.1)&&Eo (a.2=b.2))) (k,x) a) (Q1 N2)=Q1 (uN a (k,x)):=by unfold uN;show oD (fh sd (k,x) a) (Q1 N2)=_;cases fh sd (k,x) a<;>rfl
 simp only[fB a7,b6,h0 hd,bT,e,f' a7 (show d.length<2^62 by omega),xP];cases uN a (k,x)with
 |true=>rfl
 |false=>exact l _
def AZ:Option Int->List mf->Bool
 |_,[]=>N2
 |a,f::r=>bif (match a with|some p=>Eo (f.1<=p)|none=>N2)||!(xo f.2.2.2.2)then No else AZ (Q1 f.1) r
noncomputable def pD(al:List b9)(ag:List ct)(fs:List Int)(l:List mf):Int :=
 bif !decide (tH al ag fs=0)then tH al ag fs else
 bif Eo (128<(l.length:Int))then 3 else
 bif l.any mJ then 3 else
 bif AZ Ld l then 10 else
 bif l.any nj then 2 else
 bif l.any rM then 9 else
 bif l.any s_ then 14 else
 bif l.any xY then 1 else
 bif l.any (λf=>f.2.2.2.2.any (uO al ag fs f.2.1))then 7 else
 bif xN l []then 13 else 0
def E1(al:List b9)(ag:List ct)(fs:List Int)(l:List mf):xr (al,ag,fs,l)=Q1 (pD al ag fs l):=by
 unfold xr pD;simp only[bn8,bT];cases d:Eo (tH al ag fs=0)with
 |false=>simp
 |true=>
  have hp:fp al ag fs:=by grind[De,tH,tJ]
  simp only[aw,bu];cases e:Eo ((128:Int)<(l.length:Int))with
  |true=>rfl
  |false=>
   have hl:l.length<=1000000:=by grind
   simp only[bu,bY8 l hl,bT];cases h1:l.any mJ with
   |true=>rfl
   |false=>
    have b:∀f∈l,f.2.2.2.2.length<=1000000:=λf hf=>by have:=cB.1 h1 f hf;simp only[mJ,kA]at this;omega
    have hlen:l.length<=128:=by grind
    simp only[bu,bT0 l hl,bV7 l hl,bY4 l hl,bS7 l hl,hp.aM2 l l hl b,bT];refine(mw (A:=Option Int) l (λi _=>((i:Int),(i:Int))) (λa rest=>Q1 (bif AZ a rest then(10:Int)else bif l.any nj then 2 else bif l.any rM then 9 else bif l.any s_ then 14 else bif l.any xY then 1 else bif l.any (λf=>f.2.2.2.2.any (uO al ag fs f.2.1))then 7 else bif xN l []then 13 else 0))
     (λi a=>match a with|none=>i=0|some p=>0<i/\∃g:mf,l[i-1]?=Q1 g/\g.1=p) (by omega) ?_ ?_ Ld rfl).trans ?_
    rotate_left 2;rfl;intro rec a k;simp only[kj,bu,AZ];cases l.any nj with
    |true=>rfl
    |false=>
     cases l.any rM with
     |true=>rfl
     |false=>
      cases l.any s_ with
      |true=>rfl
      |false=>
       cases l.any xY with
       |true=>rfl
       |false=>
        cases l.any (λf=>f.2.2.2.2.any (uO al ag fs f.2.1))with
        |true=>rfl
        |false=>
         simp only[bu];refine(mP (A:=List (sI×Bool)) l (λi a=>((i:Int),a)) (λa rest=>Q1 (bif xN rest a then(13:Int)else 0)) (by omega) ?_ ?_ [])
         grind[xN]
         intro rec i a x rest a7 hd d;have c:x∈l:=by grind[ao]
         have h:aa.wrap ((i:Int)+1)=((i+1:Nat):Int):=f' (n:=2000000) (by omega) (by omega);have j:Eo ((0:Int)<=(i:Int))=No:=by simp
         simp only[fB a7,b6,h0 hd,bT,BH,h,j,xN];cases Eo (om x.2.1=2)with
         |true=>exact d a
         |false=>
          simp only[bu];cases Eo (om x.2.1=3)with
          |true=>
           simp only[b6];refine(Wt x.2.1 x.2.2.2.2 (b x c) _ _ a).trans ?_
           grind
          |false=>
           simp only[bu];refine(Wt 0 x.2.2.2.2 (b x c) _ _ a).trans ?_
           grind
    intro rec i a x rest a7 k hd d;have c:x∈l:=by grind[ao]
    have h:aa.wrap ((i:Int)+1)=((i+1:Nat):Int):=f' (n:=2000000) (by omega) (by omega);have j:Eo ((0:Int)<=(i:Int))=No:=by simp
    have m:l[i]?=Q1 x:=by rw[<-lQ];exact h0 hd
    grind[fB,h0,bT,aL6,AZ,xo,fx,lQ]
def q5(ag:List ct):List b9->List b9->Prop
 | [],[]=>True
 |n::l,a::b=>a.1=n.1/\(na ag n.1≠0->a=n)/\q5 ag l b
 |_,_=>False
def az3{ag:List ct}:∀ {al a:List b9},q5 ag al a->a.map (·.1)=al.map (·.1)
 | [],[],_=>rfl
 |n::l,b::c,h=>by rw[au,au,h.1,az3 h.2.2]
 | [],_::_,h=>h.elim
 |_::_,[],h=>h.elim
def FX{ag:List ct}{id:Int}(hd:na ag id≠0):∀ {al a:List b9},q5 ag al a->nQ a id=nQ al id
 | [],[],_=>rfl
 |n::l,c::d,h=>by have b:=FX hd h.2.2;unfold nQ at *;rw[da,da,h.1];by_cases e:n.1=id;rw[hT e];simp only;rw[h.2.1 (by rw[e];exact hd)];rw[ft e];exact b
 | [],_::_,h=>h.elim
 |_::_,[],h=>h.elim
def ax7{ag:List ct}(id:Int):∀ {al a:List b9},q5 ag al a->(nQ a id).isSome=(nQ al id).isSome
 | [],[],_=>rfl
 |n::l,c::d,h=>by have b:=ax7 id h.2.2;unfold nQ at *;rw[da,da,h.1];by_cases e:n.1=id;rw[hT e];rfl;rw[ft e];exact b
 | [],_::_,h=>h.elim
 |_::_,[],h=>h.elim
def aA9{ag:List ct}:∀ {al a:List b9},q5 ag al a->∀b∈a,b∈al\/na ag b.1=0
 | [],[],_,b,c=>by simp at c
 |n::l,b::d,h,m,hm=>by
  rcases aD.1 hm with rfl|hm
  by_cases e:na ag n.1=0;right;rw[h.1];exact e;left;rw[h.2.1 e];exact List.mem_cons_self;rcases aA9 h.2.2 m hm with q|q
  exact br (bf _ q);exact bk q
 | [],_::_,h,_,_=>h.elim
 |_::_,[],h,_,_=>h.elim
def DG{ag:List ct}{a:ct}(ha:a∈ag):na ag a.2.1≠0/\na ag a.2.2.1≠0:=by
 induction ag with
 |nil=>simp at ha
 |cons b l c=>
  unfold na at *;rw[au,de,au,de];rcases aD.1 ha with rfl|ha
  rw[cr rfl,cr rfl];constructor<;>omega;have:=c ha;omega
variable {ag:List ct} {al ns':List b9}
def J_(h:q5 ag al ns')(id:Int):pathOf ns' ag id=pathOf al ag id:=by
 unfold pathOf;cases ha:px ag id with
 |none=>rfl
 |some a =>have hm:=aX ha;simp only;rw[FX (DG hm).1 h,FX (DG hm).2 h]
def ah4(h:q5 ag al ns'):∀l:List ct,my ns' ag l=my al ag l
 | []=>rfl
 |a::l=>by simp only[my,J_ h,ah4 h l]
def bI8(h:q5 ag al ns')(node:Int)(l:List ct):np ns' ag node l=np al ag node l:=by refine lU (λf=>List.flatMap f l) (funext λa=>?_);unfold ph;rw[J_ h]
def O1{node:Int}(hd:na ag node=0)(al:List b9):np al ag node ag=[]:=by
 refine List.flatMap_eq_nil_iff.2 λa ha=>?_;have h1:a.2.1≠node:=λe=>(DG ha).1 (by rw[e];exact hd);have h2:a.2.2.1≠node:=λe=>(DG ha).2 (by rw[e];exact hd);unfold ph;cases pathOf al ag a.1 with
 |none=>rfl
 |some p=>simp only;rw[cc h1,cc h2];rfl
def Xc(h:q5 ag al ns'){n a:b9}(h1:a.1=n.1)(h2:na ag n.1≠0->a=n):fp.ki ns' ag a=fp.ki al ag n:=by by_cases e:na ag n.1=0;unfold fp.ki;rw[h1,O1 e,O1 e];rfl;rw[h2 e];unfold fp.ki;rw[bI8 h]
def am4(h:q5 ag al ns'):fp.wF ns' ag=fp.wF al ag:=by
 have go:∀ {l a:List b9},q5 ag l a->a.map (fp.ki ns' ag)=l.map (fp.ki al ag):=by
  intro l
  induction l with
  |nil=>
   intro a hl;cases a with
   |nil=>rfl
   |cons _ _=>exact hl.elim
  |cons n l b =>intro a hl;cases a;exact hl.elim;rw[au,au,b hl.2.2,Xc h hl.1 hl.2.1]
 exact go h
theorem NT(h:q5 ag al ns'):fp.l9 ns' ag=fp.l9 al ag:=by
 have a:fp.k7 ns' ag=fp.k7 al ag:=by unfold fp.k7;rw[am4 h]
 have b:fp.k3 ns' ag=fp.k3 al ag:=by funext d;unfold fp.k3 fp.DP;rw[am4 h]
 unfold fp.l9;rw[a,b]
theorem ah9(h:q5 ag al ns'):l8 ns' ag=l8 al ag:=by refine lU (λf=>bK f [] ag) (funext λm=>funext λa=>?_);rw[J_ h]
theorem FT(h:q5 ag al ns'):∀c:List Int,l5 ns' ag c=l5 al ag c
 | []=>rfl
 |d::c=>by
  have e:vi ns' ag d=vi al ag d:=by unfold vi;rw[J_ h]
  simp only[l5,e,FT h c]
def sE(x:kI):Int×List Int×List (List Int):=(x.1,x.2.1,x.2.2.1)
def aV9(L:List kI)(k:Nat)(c:Int):(p_ L k c).map sE=L.map sE:=by
 unfold p_;cases a:L[k]? with
 |none=>rfl
 |some x=>
  simp only[List.map_set];refine List.ext_getElem? λi=>?_;rw[List.getElem?_set];by_cases e:k=i;subst e;have hk:k<L.length:=by
   rcases Nat.lt_or_ge k L.length with q|q
   exact q;rw[List.getElem?_eq_none q]at a;cases a
  rw[cr rfl,cr (by simpa using hk),aO,a];rfl;rw[cc e]
def PM{m:List (Int×List bs)}:∀(R:List b9) (L:List kI),(ru al ag m R L).map sE=L.map sE
 | [],_=>rfl
 |n::R,L=>by simp only[ru];rw[PM R];cases Eo (na ag n.1=0);rfl;exact aV9 L _ _
def bX7(h:q5 ag al ns'):(sL ns' ag (l8 ns' ag) (fp.l9 ns' ag)).map sE=(sL al ag (l8 al ag) (fp.l9 al ag)).map sE:=by have e:=funext (FT h);rw[NT h,ah9 h];unfold sL AW;rw[PM,PM,e]
def Oh{k:Nat}:∀ {L a:List kI} (b:Bool) (seen out:List Int),L.map sE=a.map sE->oH ag k b L seen out=oH ag k b a seen out
 | [],[],_,_,_,_=>rfl
 | [],_::_,_,_,_,h=>by simp at h
 |_::_,[],_,_,_,h=>by simp at h
 |x::L,y::a,b,seen,out,h=>by
  simp only[au,cN,sE,Prod.mk.injEq]at h;have hc:qD x=qD y:=by unfold qD;rw[h.1.2.1,h.1.2.2]
  have c:=h.2;cases b;simp only[oH];rw[hc,h.1.2.1];rw[Oh N2 _ _ c];simp only[oH];rw[hc,Oh N2 seen (out++[0]) c]
def Xi{id:Int}(hp:(al.map (·.1)).Pairwise (·<·)):fh gd id (mkMap al [])=(nQ al id).map λn=>n.2:=by
 have at':∀ {n:b9} {al:List b9} (m:List (Int×bs)),(al.map (·.1)).Pairwise (·<·)->n∈al->fh gd n.1 (mkMap al m)=Q1 n.2:=by
  intro n al
  induction al with
  |nil=>intro m _ a;simp at a
  |cons u al b=>
   intro m hp a;rw[au,aR]at hp;rcases aD.1 a with rfl|a
   show fh gd n.1 (mkMap al (mI gd n.1 n.2 m))=_;rw[Ja n.1 al _ (λv hv=>by have:=hp.1 v.1 (aK hv);omega),rV];simp;exact b _ hp.2 a
 cases a:nQ al id with
 |none=>
  rw[Ja id al [] (λn hm e=>by
   have:=List.find?_eq_none.1 a n hm;simp[e]at this)]
  rfl
 |some n=>
  have e:n.1=id:=by have:=db a;simpa using this
  have:=at' [] hp (aX a);rw[e]at this;exact this
def ag1{s:fy}{m a:List (Int×bs)}:∀ {l:List fy},(∀t∈l,qx s t a=qx s t m)->wU s a l=wU s m l
 | [],_=>rfl
 |t::l,h=>by simp only[wU];rw[h t (by simp),ag1 λx b=>h x (by simp[b])]
def TM{m b:List (Int×bs)}:∀ {l:List fy},(∀s∈l,∀t∈l,qx s t b=qx s t m)->(∀s∈l,al.all (p6 s)=No->ns'.all (p6 s)=No)->tV al m l=No->tV ns' b l=No
 | [],_,_,_=>rfl
 |s::l,h1,h2,h=>by simp only[tV,ab]at h⊢;refine⟨?_,h2 s (by simp) h.2.1,TM (λs hs t a=>h1 s (by simp[hs]) t (by simp[a])) (λs hs=>h2 s (by simp[hs])) h.2.2⟩;rw[ag1 λt a=>h1 s (by simp) t (by simp[a])];exact h.1
def X7:∀ {l:List ct} {r:List fy},my al ag l=Q1 r->∀s∈r,∃a∈l,s.1.2.1=a.2.1/\s.1.2.2.1=a.2.2.1
 | [],r,h,s,hs=>by simp only[my,ah]at h;subst h;simp at hs
 |a::l,r,h,s,hs=>by
  simp only[my]at h;cases hp:pathOf al ag a.1 with
  |none=>rw[hp]at h;cases h
  |some p=>
   rw[hp]at h;simp only at h;cases hc:(Eo (a.2.1=a.2.2.1)&&Eo (p.length<4))||!(qt p)with
   |true=>rw[hc]at h;cases h
   |false=>
    rw[hc,bu]at h;cases c:my al ag l with
    |none=>rw[c]at h;cases h
    |some f =>
     rw[c]at h;simp only[ah]at h;subst h;rcases aY.1 hs with q|q
     obtain⟨i,_,rfl⟩:=aM.1 q;exact⟨a,by simp,rfl,rfl⟩;obtain⟨b,d,e⟩:=X7 c s q;exact⟨b,by simp[d],e⟩
def bb8{fs:List Int}(h:fp al ag fs)(hm:q5 ag al ns')(hp:∀n∈ns',lR n.2=No)(hd:sC [] ns'=N2)
  (off:∀r,my al ag ag=Q1 r->∀s∈r,∀n∈ns',na ag n.1=0->mc (hi s) (gl s) n.2=N2):fp ns' ag fs:=by
 have b:=az3 hm;have hlen:ns'.length=al.length:=by have:=lU eP b;simpa using this
 refine⟨?_,by rw[b];exact h.vL,h.rX,h.E8,by rw[b];exact h.Oz,h.Gk,h.Oy,aj.2 hp,h.J',?_,?_⟩;have:=h.AD;unfold wT at *;rw[hlen];exact this;have:=h.conn;unfold vP at *;rw[b,hd];cases tX:sC [] al with
 |true=>rw[tX]at this;simp at this
 |false=>rw[tX]at this;exact this
 have:=h.lV;unfold u_ at *;rw[ah4 hm];cases j:my al ag ag with
 |none=>rw[j]at this;cases this
 |some r=>
  rw[j]at this;have c:=tG (vA r);have e:=pq h.vL;have f:(ns'.map (·.1)).Pairwise (·<·):=by rw[b];exact e
  have g:∀id,na ag id≠0->nv (mkMap ns' []) id=nv (mkMap al []) id:=λid k=>by unfold nv;rw[Xi f,Xi e,FX k hm]
  have d:∀s∈oy p2 r,na ag s.1.2.1≠0/\na ag s.1.2.2.1≠0:=λs hs=>by obtain⟨a,ha,m,o⟩:=X7 j s (c.mem_iff.1 hs);rw[m,o];exact DG ha
  refine TM (λs hs t p=>?_) (λs hs i=>?_) this;have h1:=g _ (d s hs).1;have h2:=g _ (d s hs).2;unfold qx;rw[h1,h2];refine aj.2 λn l=>?_;rcases aA9 hm n l with q|q
  exact aj.1 i n q;unfold p6;rw[off r j s (c.mem_iff.1 hs) n l q];rfl
def aW8{fs:List Int}{l:List mf}(cu:pD al ag fs l=0)(b:fp al ag fs)(hm:q5 ag al ns')(hp:∀n∈ns',lR n.2=No)(hd:sC [] ns'=N2)
  (off:∀r,my al ag ag=Q1 r->∀s∈r,∀n∈ns',na ag n.1=0->mc (hi s) (gl s) n.2=N2):pD ns' ag fs l=0:=by
 have d:=bb8 b hm hp hd off;have c:tH ns' ag fs=tH al ag fs:=by unfold tH;rw[De.2 d,De.2 b,Oh No [] [] (bX7 hm)]
 have a:uO ns' ag fs=uO al ag fs:=by funext k id;unfold uO;rw[ax7 id hm]
 unfold pD at *;rw[c,a];exact cu
end Go.Ab
namespace Go.Ab
open Go Go.Sort Go.Proofs Go.Shelf
namespace Dp
def l3(n:b9):bs:=n.2
def zZ(g2:Int)(p q:bs):Prop:=p≠q/\¬(p.1-q.1)*(p.1-q.1)+(p.2-q.2)*(p.2-q.2)<g2
def aq2{g2:Int}{p q:bs}(h:zZ g2 p q):zZ g2 q p:=by
 refine⟨λe=>h.1 e.symm,?_⟩;have a:(q.1-p.1)*(q.1-p.1)=(p.1-q.1)*(p.1-q.1):=by grind
 have b:(q.2-p.2)*(q.2-p.2)=(p.2-q.2)*(p.2-q.2):=by grind
 rw[a,b];exact h.2
section
variable (g2:Int) (okS:bs->Prop) (fc:bs->Int)
def fits(cur:List b9)(id:Int)(p0 at':bs):Prop:=lR at'=No/\(∀n∈cur,n.1≠id->zZ g2 (l3 n) at')/\okS at'/\fc at'=fc p0
def put(cur:List b9)(id:Int)(p:bs):List b9:=cur.map λn=>if n.1=id then(id,p.1,p.2)else n
def Ui(cur:List b9)(n:b9)(a:List b9):Prop:=a=cur\/(¬fits g2 okS fc cur n.1 (l3 n) (l3 n)/\∃p,fits g2 okS fc cur n.1 (l3 n) p/\a=put cur n.1 p)
def Mi(o_:b9->Bool):List b9->List b9->List b9->Prop
 | [],cur,fin=>fin=cur
 |n::l,cur,fin=>∃c,(if o_ n=No then Ui g2 okS fc cur n c else c=cur)/\Mi o_ l c fin
def bV5(s:List b9)(n:b9):Prop:=fits g2 okS fc s n.1 (l3 n) (l3 n)
structure Inv(o_:b9->Bool)(s:List b9)(D:List Int)(cur:List b9):Prop where
 ids:cur.map (·.1)=s.map (·.1)
 a:∀n∈s,n∈cur\/n.1∈D
 b:∀c∈cur,c∉s->lR (l3 c)=No/\okS (l3 c)/\∀d∈cur,d.1≠c.1->zZ g2 (l3 d) (l3 c)
 w:∀n∈s,bV5 g2 okS fc s n->n∈cur/\∀d∈cur,d.1≠n.1->zZ g2 (l3 d) (l3 n)
 p:∀c∈cur,∀d∈cur,c.1≠d.1->l3 c≠l3 d
 MK:∀c∈cur,c∈s\/∃n∈s,n.1=c.1/\o_ n=No
variable {g2 okS fc}
def yF{cur:List b9}{id:Int}{p:bs}{c:b9}(h:c∈put cur id p):(c∈cur/\c.1≠id)\/c=(id,p.1,p.2):=by
 obtain⟨n,a,rfl⟩:=aM.1 h
 grind
def PB{cur:List b9}{id:Int}{p:bs}{c:b9}(h:c∈cur)(a:c.1≠id):c∈put cur id p:=aM.2 ⟨c,h,cc a⟩
def Rc(cur:List b9)(id:Int)(p:bs):(put cur id p).map (·.1)=cur.map (·.1):=by grind[put,List.map_map,bY]
theorem KW{s:List b9}(b:(s.map (·.1)).Nodup){m n:b9}(hm:m∈s)(a:n∈s)(e:m.1=n.1):m=n:=by
 induction s with
 |nil=>simp at hm
 |cons x s c=>grind
theorem Inv.step{o_:b9->Bool}{s:List b9}{D:List Int}{cur j:List b9}(h:Inv g2 okS fc o_ s D cur)(hs:(s.map (·.1)).Nodup){n:b9}(r:n∈s)(hm:o_ n=No)(v:n.1∉D)(st:Ui g2 okS fc cur n j):Inv g2 okS fc o_ s (n.1::D) j:=by
 have x:n∈cur:=by
  rcases h.a n r with q|q
  exact q;exact(v q).elim
 rcases st with rfl|⟨l,p,hf,rfl⟩
 exact⟨h.ids,λm hm=>(h.a m hm).imp id λq=>bf _ q,h.b,h.w,h.p,h.MK⟩;obtain⟨f1,f2,f3,f4⟩:=hf;refine⟨(Rc _ _ _).trans h.ids,λm i=>?_,λc hc o=>?_,λm i hw=>?_,λc hc d hd g=>?_,λc hc=>?_⟩;by_cases e:m.1=n.1
 grind
 rcases h.a m i with q|q
 exact br (PB q e)
 grind
 rcases yF hc with⟨hc,k⟩|rfl
 obtain⟨z,B,C⟩:=h.b c hc o;refine⟨z,B,λd hd f=>?_⟩;rcases yF hd with⟨hd,_⟩|rfl
 exact C d hd f;exact aq2 (f2 c hc k);refine⟨f1,f3,λd hd f=>?_⟩;rcases yF hd with⟨hd,sX⟩|rfl
 exact f2 d hd sX;exact(f rfl).elim;obtain⟨t,u⟩:=h.w m i hw;have g:m.1≠n.1:=λe=>by have:=KW hs i r e;subst this;exact l ⟨hw.1,u,hw.2.2.1,rfl⟩
 refine⟨PB t g,λd hd f=>?_⟩;rcases yF hd with⟨hd,_⟩|rfl
 exact u d hd f;exact aq2 (f2 m t g);rcases yF hc with⟨hc,k⟩|rfl<;>rcases yF hd with⟨hd,f⟩|rfl
 exact h.p c hc d hd g;exact(f2 c hc k).1;exact λe=>(f2 d hd f).1 e.symm;exact(g rfl).elim;rcases yF hc with⟨hc,_⟩|rfl
 exact h.MK c hc
 grind
def Inv.run{o_:b9->Bool}{s:List b9}(hs:(s.map (·.1)).Nodup):∀(l:List b9) (D:List Int) (cur fin:List b9),(∀n∈l,n∈s)->(l.map (·.1)).Nodup->(∀n∈l,n.1∉D)->Inv g2 okS fc o_ s D cur->Mi g2 okS fc o_ l cur fin->∃i,Inv g2 okS fc o_ s i fin
 | [],D,cur,fin,_,_,_,h,d=>⟨D,by rw[show fin=cur from d];exact h⟩
 |n::l,D,cur,fin,hl,a,f,h,d=>by
  obtain⟨c,h1,h2⟩:=d;rw[au,cS]at a;have b:∀m∈l,m∈s:=λm hm=>hl m (by simp[hm]);by_cases q:o_ n=No;rw[cr q]at h1;refine Inv.run hs l (n.1::D) c fin b a.2 (λm hm g=>?_) (h.step hs (hl n (by simp)) q (f n (by simp)) h1) h2;rcases aD.1 g with e|e
  exact a.1 (by rw[<-e];exact aK hm);exact f m (by simp[hm]) e;rw[cc q]at h1;subst h1;exact Inv.run hs l D c fin b a.2 (λm hm=>f m (by simp[hm])) h h2
def Inv.start{o_:b9->Bool}{s:List b9}(hp:∀c∈s,∀d∈s,c.1≠d.1->l3 c≠l3 d):Inv g2 okS fc o_ s [] s :=⟨rfl,λn a=>br a,λc hc a=>(a hc).elim,λn a hw=>⟨a,hw.2.1⟩,hp,λc hc=>br hc⟩
end
def Q_{s:List b9}:∀(pre l:List b9),(∀c∈pre++l,∀d∈pre++l,c.1≠d.1->l3 c≠l3 d)->((pre++l).map (·.1)).Nodup->sC pre l=N2
 |pre,[],_,_=>rfl
 |pre,n::l,h,f=>by
  have e:pre++n::l=(pre++[n])++l:=by simp
  unfold sC;rw[Q_ (s:=s) (pre++[n]) l (by rw[<-e];exact h) (by rw[<-e];exact f),Bool.or_false,cB];intro m hm;have b:m.1≠n.1:=by grind
  have:=h m (by simp[hm]) n (by simp) b;intro a;apply this;unfold GH mh at a;simp only[ab,kA]at a;exact(eJ a.1 a.2).symm
def RS{ag:List ct}{o_:b9->Bool}{s:List b9}(a:∀n∈s,o_ n=No->na ag n.1=0)(hs:(s.map (·.1)).Nodup):∀ {l fin:List b9},(∀n∈l,n∈s)->fin.map (·.1)=l.map (·.1)->(∀c∈fin,c∈s\/∃n∈s,n.1=c.1/\o_ n=No)->q5 ag l fin
 | [],[],_,_,_=>trivial
 | [],_::_,_,h,_=>by simp at h
 |_::_,[],_,h,_=>by simp at h
 |n::l,c::fin,hl,a7,hd=>by
  simp only[au,cN]at a7;refine⟨a7.1,λb=>?_,RS a hs (λm hm=>hl m (by simp[hm])) a7.2 λx d=>hd x (by simp[d])⟩
  grind[KW]
end Dp
abbrev nE:=Int×Int×Int×Int
def uz:bs->List bs->List nE
 |a,b::l=>(a.1,a.2,b.1,b.2)::uz b l
 |_,[]=>[]
def Em(l:List bs):List nE:=match l with
 |a::l=>uz a l
 | []=>[]
abbrev zy:=Int×List Int×List (List Int)×List Int
abbrev oP:=Int×Int×List bs
namespace Dp
variable (al:List b9) (ag:List ct)
def sy(a:ct):List bs:=(pathOf al ag a.1).getD []
def pz(l:List ct):List nE:=l.flatMap λa=>Em (sy al ag a)
def pM(l:List ct)(m:List (Int×List bs)):List (Int×List bs):=l.foldl (λm a=>mI gd (-a.1) (sy al ag a).reverse (mI gd a.1 (sy al ag a) m)) m
def vn(m:List (Int×List bs))(c:List Int):List bs:=c.flatMap λd=>((fh gd d m).getD []).dropLast
def vw(l:List zy):List oP:=(l.filter λr=>!decide (r.2.1=[])).map λr=>(r.1,l5 al ag r.2.1,vn (pM al ag ag []) r.2.1)
def nP:List kI:=sL al ag (l8 al ag) (fp.l9 al ag)
def tT(fs:List Int):List Int:=(oH ag fs.length No (nP al ag) [] []).1
def uY(l:List Int)(L:List kI):List zy:=l.zipWith (λf x=>(f,x.2.1,x.2.2.1,x.2.2.2)) L
def zq(x y:zy):Int:=A_ x.1 y.1
def zr(x y:oP):Int:=A_ x.2.1 y.2.1
def xW(fs:List Int):List zy:=oy zq (uY (tT al ag fs) (nP al ag))
def qd(fs:List Int):List oP:=oy zr (vw al ag (xW al ag fs))
end Dp
variable {ag:List ct} {al ns':List b9}
namespace Dp
end Dp
end Go.Ab
namespace Go.Ab
open Go Go.Sort Go.Proofs Go.Shelf
theorem Nu{ag:List ct}{k:Nat}:∀(L:List kI) (b:Bool) (seen out:List Int),(oH ag k b L seen out).2=No->(oH ag k b L seen out).1.length=out.length+L.length
 | [],b,seen,out,_=>by cases b<;>rfl
 |x::L,No,seen,out,h=>by
  simp only[oH]at h⊢;cases hc:(qD x).all (λc=>c.all λd=>Eo (lT ag d=0))with
  |false=>rw[hc]at h;simp at h
  |true =>rw[hc,b6]at h;rw[b6,Nu L _ _ _ h];simp only[aS,aC,dy];omega
 |x::L,N2,seen,out,h=>by
  simp only[oH]at h⊢;generalize lT ag (x.2.1.headD 0)=f at h⊢;cases hd:Eo (f=0)||Eo (f∈seen)with
  |true=>rw[hd]at h;simp at h
  |false=>
   rw[hd,bu]at h;rw[bu];cases hc:(qD x).all (λc=>c.all λd=>Eo (lT ag d=f))with
   |false=>rw[hc]at h;simp at h
   |true =>rw[hc,b6]at h;rw[b6,Nu L _ _ _ h];simp only[aS,aC,dy];omega
def bb7(L:List kI)(k:Nat)(c:List Int):∀a∈oY L k c,a.2.1∈L.map (·.2.1):=by
 unfold oY
 grind
def aW4(L:List kI)(k:Nat)(c:Int):∀a∈p_ L k c,a.2.1∈L.map (·.2.1):=by
 unfold p_
 grind
def SO{m:List (Int×List bs)}:∀(r:List (List Int)) (L:List kI),∀a∈sw m r L,a.2.1∈L.map (·.2.1)
 | [],L,a,ha=>aK ha
 |c::r,L,a,ha=>by have:=SO r _ a ha;obtain⟨b,d,e⟩:=aM.1 this;rw[<-e];exact bb7 _ _ _ b d
def Rs{al:List b9}{ag:List ct}{m:List (Int×List bs)}:∀(r:List b9) (L:List kI),∀a∈ru al ag m r L,a.2.1∈L.map (·.2.1)
 | [],L,a,ha=>aK ha
 |n::r,L,a,ha=>by
  have:=Rs r _ a ha;obtain⟨b,c,e⟩:=aM.1 this;rw[<-e];cases hd:Eo (na ag n.1=0)with
  |false=>rw[hd]at c;exact aK c
  |true=>rw[hd]at c;exact aW4 _ _ _ b c
def ao0{al:List b9}{ag:List ct}{m:List (Int×List bs)}{cs:List (List Int)}{a:kI}(ha:a∈sL al ag m cs):a.2.1=[]\/a.2.1∈cs:=by
 obtain⟨b,d,e⟩:=aM.1 (Rs al _ a ha);obtain⟨c,hc,f⟩:=aM.1 (SO _ _ b d);rw[<-e,<-f];rcases aD.1 hc with rfl|hc
 exact br rfl
 grind
namespace Dp
def IA(l:List zy):Ordered zq l :=IX (λx _=>by grind[zq,uk]) (λx _ y _ z _ a b=>by unfold zq at *;rw[uk]at *;omega) (λx _ y _ z _ a b=>by unfold zq at *;rw[uk]at *;omega)
def Iz(l:List oP):Ordered zr l :=IX (λx _=>by grind[zr,uk]) (λx _ y _ z _ a b=>by unfold zr at *;rw[uk]at *;omega) (λx _ y _ z _ a b=>by unfold zr at *;rw[uk]at *;omega)
theorem aR2{l:List zy}(hl:l.length<=1000000):G6 (l,4,())=Q1 (oy zq l):=by unfold G6;simp only[l6,b6];refine Jw (λx _ y _=>?_) (IA l) (by omega);unfold Im;simp only[cmp_eq,bT];rfl
def aP0{l:List oP}(hl:l.length<=1000000):KN (l,3,())=Q1 (oy zr l):=by unfold KN;simp only[l6,b6];refine Jw (λx _ y _=>?_) (Iz l) (by omega);unfold HT;simp only[cmp_eq,bT];rfl
section
variable {al:List b9} {ag:List ct} {fs:List Int} (h:fp al ag fs) (hf:(oH ag fs.length No (nP al ag) [] []).2=No)
include h hf
theorem Ua:(tT al ag fs).length=(nP al ag).length:=by grind[tT,Nu]
theorem QH:(uY (tT al ag fs) (nP al ag)).length=(nP al ag).length:=by unfold uY;rw[jE,Ua h hf,Nat.min_self]
theorem bZ0:Ir (al,ag,fs)=Q1 (xW al ag fs,0):=by
 obtain⟨d,hlen⟩:=h.Ih;have b:=h.Vo (l:=nP al ag) hlen (λa ha=>by obtain⟨h1,h2,f⟩:=d.all a ha;exact⟨h1,h2,by omega⟩) d.ne;have hdiv:Be ((al,ag,fs),fp.l9 al ag,l8 al ag)=Q1 (nP al ag):=h.Vg h.wK;have hz:=QH h hf;have hl:=Ua h hf;unfold Ir;simp only[h.RE,bT,l6,aw,bu,h.Yg,hdiv,b,hf];have c:(nP al ag).length<=1000000:=hlen;refine(mw (A:=List zy) (uY (tT al ag fs) (nP al ag)) (λi a=>(a,(i:Int))) (λa rest=>Q1 (oy zq (a++rest),0)) (λi a=>a.length=i) (by omega) ?_ ?_ [] rfl).trans rfl
 grind[aR2,bT]
 intro rec i a x rest a7 g hd j;rw[hz]at a7;have e:(uY (tT al ag fs) (nP al ag))[i]?=Q1 x:=by rw[<-lQ];exact h0 hd
 unfold uY at e;rw[List.getElem?_zipWith]at e
 grind[tT,af,nP,aQ,oH,fB,lQ,bT,m9,f']
end
end Dp
set_option maxRecDepth 10000
namespace Dp
def NJ:∀(l:List bs) (p:bs),(uz p l).length=l.length
 | [],_=>rfl
 |_::l,_=>by simp only[uz,aC,NJ l]
def bY5{β:Type}(p0:bs)(l:List bs)(hl:l.length<=1000)(acc:List nE)(ha:acc.length<=1000000)(K:Int×List nE->Option β) :
  rounds (α:=Int×List nE) (β:=β) (λg b=>
   bif (Eo (b.1<(((p0::l).length:Nat):Int)))then(
   a8 (nth (p0::l) (aa.wrap (b.1-(1:Int)))) λc=>
   a8 (nth (p0::l) b.1) λd=>
   a8 (j6 32 b.2 [(c.1,c.2,d.1,d.2)]) λf=>
   g ((aa.wrap (b.1+(1:Int))),f))else(
   K b)) ((1:Int),acc)=K (((l.length+1:Nat):Int),acc++uz p0 l):=by
 have e:(((p0::l).length:Nat):Int)=((l.length+1:Nat):Int):=by simp
 refine(mw (A:=bs×List nE) l (λi a=>(((i+1:Nat):Int),a.2)) (λa rest=>K (((l.length+1:Nat):Int),a.2++uz a.1 rest)) (λi a=>(p0::l)[i]?=Q1 a.1/\a.2.length<=1000000+i) (by omega) ?_ ?_ (p0,acc) ⟨rfl,by omega⟩);intro rec a h;simp only[e,kj,bu,uz,bD];intro rec i a x rest a7 h hd k;have j:(p0::l)[i+1]?=Q1 x:=by rw[aF,<-lQ];exact h0 hd
 have m:aa.wrap (((i+1:Nat):Int)-1)=(i:Int):=by rw[fx (by omega) (by omega)];omega
 have o:aa.wrap (((i+1:Nat):Int)+1)=((i+1+1:Nat):Int):=f' (n:=2000000) (by omega) (by omega);simp only[e,fB (show i+1<l.length+1 by omega),b6,m,o,lQ,h,j,bT];rw[m9 (by omega) (by simp;omega),bT];have:=k (x,a.2++[(a.1.1,a.1.2,x.1,x.2)]) ⟨j,by simp;omega⟩;rw[this];simp only[uz,bm,jh]
variable {al:List b9} {ag:List ct} {fs:List Int}
def FW(h:fp al ag fs){a:ct}(ha:a∈ag):∃p l,pathOf al ag a.1=Q1 (p::l)/\sy al ag a=p::l/\l.length<=65:=by obtain⟨f,t,_,_,hp,_⟩:=h.path ha;refine⟨_,_,hp,by unfold sy;rw[hp];rfl,?_⟩;have:=h.q4 ha;simp;omega
def bK2{β:Type}(h:fp al ag fs)(K:Int×List nE×List (Int×List bs)->Option β) :
 rounds (α:=Int×List nE×List (Int×List bs)) (β:=β) (λq j=>
  bif (Eo (j.1<(ag.length:Int)))then(
  a8 (nth ag j.1) λg=>
  a8 (wE ((al,ag,fs),g.1)) λc=>
  rounds (α:=Int×List nE) (β:=β) (λo e=>
   bif (Eo (e.1<((c.1).length:Int)))then(
   a8 (nth c.1 (aa.wrap (e.1-(1:Int)))) λd=>
   a8 (nth c.1 e.1) λf=>
   a8 (j6 32 e.2 [(d.1,d.2,f.1,f.2)]) λk=>
   o ((aa.wrap (e.1+(1:Int))),k))else(
   a8 (vo c.1) λd=>
   a8 (AJ (d,(2:Int))) λm=>
   q ((aa.wrap (j.1+(1:Int))),e.2,(mI (λ(a b:Int)=>Eo (a=b)) (aa.wrap (0-g.1)) m (mI (λ(a b:Int)=>Eo (a=b)) g.1 c.1 j.2.2))))) ((1:Int),j.2.1))else(K j)) ((0:Int),[],[])=K ((ag.length:Int),pz al ag ag,pM al ag ag []):=by
 have r:=h.pA;refine(mw (A:=List nE×List (Int×List bs)) ag (λi a=>((i:Int),a.1,a.2)) (λa rest=>K ((ag.length:Int),a.1++pz al ag rest,pM al ag rest a.2)) (λi a=>a.1.length<=66*i) (by omega) ?_ ?_ ([],[]) (by simp)).trans (by simp);intro rec a s;simp only[kj,bu,pz,dz,bD,pM,List.foldl_nil];intro rec i a x rest a7 s hd t;have n:x∈ag:=by
  have:x∈ag.drop i:=by rw[hd];simp
  exact ao this
 obtain⟨p,l,hp,u,hl⟩:=FW h n;have C:=h.num n;simp only[fB a7,h0 hd,bT,h.Hz,hp];refine(bY5 p l (by omega) a.1 (by omega) _).trans ?_;have v:vo (p::l)=Q1 (p::l):=by unfold vo;rw[m9 (by omega) (by simp;omega)];rfl
 have w:AJ (p::l,2)=Q1 (p::l).reverse:=by unfold AJ;have:Eo ((p::l).length<4611686018427387904)=No:=hT (by simp;omega);simp only[l6,this,bw,b6]
 have z:aa.wrap (0-x.1)=-x.1:=by rw[fx (by omega) (by omega)];omega
 simp only[v,w,z,bT,f' a7 (show ag.length<2^62 by omega)];have B:=NJ l p;have:=t (a.1++uz p l,mI gd (-x.1) (p::l).reverse (mI gd x.1 (p::l) a.2)) (by simp;omega);rw[this];simp only[pz,bA,u,Em,bm,pM,gD]
def NX(h:fp al ag fs):∀(l:List ct) (m:List (Int×List bs)),(∀a∈l,a∈ag)->(∀k p,fh gd k m=Q1 p->p≠[]/\p.length<=66) ->
  (∀k p,fh gd k (pM al ag l m)=Q1 p->p≠[]/\p.length<=66)/\(∀k,(fh gd k m).isSome=No->(fh gd k (pM al ag l m)).isSome=No)/\∀a∈l,(fh gd a.1 (pM al ag l m)).isSome=No/\(fh gd (-a.1) (pM al ag l m)).isSome=No
 | [],m,_,hm=>⟨hm,λ_ h=>h,λa ha=>by simp at ha⟩
 |a::l,m,hl,hm=>by
  obtain⟨p,q,_,f,hlen⟩:=FW h (hl a (by simp));have c:∀k,fh gd k (mI gd (-a.1) (sy al ag a).reverse (mI gd a.1 (sy al ag a) m))=if k=-a.1 then Q1 (sy al ag a).reverse else if k=a.1 then Q1 (sy al ag a)else fh gd k m:=λk=>by rw[rV,rV]
  obtain⟨i1,i2,i3⟩:=NX h l (mI gd (-a.1) (sy al ag a).reverse (mI gd a.1 (sy al ag a) m)) (λb e=>hl b (by simp[e])) (λk r d=>by
   rw[c]at d;split at d;cases d;rw[f];simp;omega;split at d;cases d;rw[f];simp;omega;exact hm k r d)
  refine⟨i1,λk hk=>i2 k ?_,λb e=>?_⟩;rw[c];split;rfl;split;rfl;exact hk;rcases aD.1 e with rfl|e
  refine⟨i2 _ ?_,i2 _ ?_⟩;rw[c];split;rfl;rw[cr rfl];rfl;rw[c,cr rfl];rfl;exact i3 b e
def bc0{β:Type}(m:List (Int×List bs))(c:List Int)(hc:∀d∈c,∃l,fh gd d m=Q1 l/\l≠[]/\l.length<=66)(hl:c.length<=512)(K:Int×List bs->Option β) :
  rounds (α:=Int×List bs) (β:=β) (λk e=>
    bif (Eo (e.1<(c.length:Int)))then(
     a8 (nth c e.1) λg=>
     a8 (oD (fh (λ(a b:Int)=>Eo (a=b)) g m) Ld) λf=>
     a8 (tx f Ld (Q1 (aa.wrap (((f).length:Int)-(1:Int))))) λh=>
     a8 (j6 16 e.2 h) λj=>
     k ((aa.wrap (e.1+(1:Int))),j))else(K e)) ((0:Int),[])=K ((c.length:Int),vn m c):=by
 refine(mw (A:=List bs) c (λi a=>((i:Int),a)) (λa rest=>K ((c.length:Int),a++vn m rest)) (λi a=>a.length<=66*i) (by omega) ?_ ?_ [] (by simp)).trans (by simp);intro rec a p;simp only[kj,bu,vn,dz,bD];intro rec i a x rest a7 p hd q;have n:x∈c:=by
  have:x∈c.drop i:=by rw[hd];simp
  exact ao this
 obtain⟨l,h1,h2,t⟩:=hc x n;have o:=cH.2 h2;have r:=h1;have s:aa.wrap ((l.length:Int)-1)=((l.length-1:Nat):Int):=by rw[fx (by omega) (by omega)];omega
 simp only[fB a7,b6,h0 hd,bT,r,oD,s,N0 (show l.length-1<=l.length by omega)];rw[m9 (by omega) (by simp;omega),bT,f' a7 (by omega),q _ (by simp;omega)];simp only[vn,bA,h1,cA,List.dropLast_eq_take,bm]
def aF8{β:Type}(h:fp al ag fs)(R:List zy)(D:∀r∈R,r.2.1=[]\/r.2.1∈fp.l9 al ag)(hl:R.length<=1000000)(K:Int×List oP->Option β) :
  rounds (α:=Int×List oP) (β:=β) (λm e=>
   bif (Eo (e.1<(R.length:Int)))then(
   a8 (nth R e.1) λc=>
   bif (Eo (((c.2.1).length:Int)=(0:Int)))then(
    m ((aa.wrap (e.1+(1:Int))),e.2))else(
    a8 (Bs ((al,ag,fs),c.2.1)) λn=>
    rounds (α:=Int×List (Int×Int)) (β:=β) (λs f=>
    bif (Eo (f.1<((c.2.1).length:Int)))then(
     a8 (nth c.2.1 f.1) λg=>
     a8 (oD (fh (λ(a b:Int)=>Eo (a=b)) g (pM al ag ag [])) Ld) λj=>
     a8 (tx j Ld (Q1 (aa.wrap (((j).length:Int)-(1:Int))))) λo=>
     a8 (j6 16 f.2 o) λq=>
     s ((aa.wrap (f.1+(1:Int))),q))else(
     a8 (j6 40 e.2 [(c.1,n,f.2)]) λg=>
     m ((aa.wrap (e.1+(1:Int))),g))) ((0:Int),([]:List (Int×Int)))))else(K e)) ((0:Int),[])=K ((R.length:Int),vw al ag R):=by
 obtain⟨g1,_,g3⟩:=NX h ag [] (λ_ h=>h) (λk p hk=>by simp[fh]at hk);refine(mw (A:=List oP) R (λi a=>((i:Int),a)) (λa rest=>K ((R.length:Int),a++vw al ag rest)) (λi a=>a.length<=i) (by omega) ?_ ?_ [] (by simp)).trans (by simp);intro rec a E;simp only[kj,bu,vw,kE,dj,bD];intro rec i a x rest a7 E hd z;have t:x∈R:=by
  have:x∈R.drop i:=by rw[hd];simp
  exact ao this
 simp only[fB a7,h0 hd,bT,f' a7 (show R.length<2^62 by omega)];by_cases he:x.2.1=[];have:=z a (by omega);simp only[dy,Int.natCast_zero,l6,b6,this,vw,bV,he,aw,aG,l4];have u:=(D x t).resolve_left he;obtain⟨c1,c2,B⟩:=h.wK.od _ u;have C:=cH.2 he;have G:Eo (((x.2.1.length:Nat):Int)=0)=N2:=ft (by omega);rw[G,bu,h.Uj c2 B,bT];refine(bc0 _ x.2.1 (λd hd=>?_) c2 _).trans ?_;obtain⟨_,_,b,H,v⟩:=B d hd;obtain⟨s1,s2⟩:=g3 b H;have w:d=b.1\/d=-b.1:=by unfold la at v;omega
 have hs:(fh gd d (pM al ag ag [])).isSome=No:=by
  rcases w with rfl|rfl
  exact s1;exact s2
 obtain⟨l,hl⟩:=Option.isSome_iff_exists.1 hs;exact⟨l,hl,g1 d l hl⟩;rw[m9 (by omega) (by simp;omega),bT,z _ (by simp;omega)];simp only[vw,bV,ft he,bB,me,au,bm,jh]
def MX(h:fp al ag fs)(hf:(oH ag fs.length No (nP al ag) [] []).2=No):CY (al,ag,fs)=Q1 (pz al ag ag,qd al ag fs):=by
 refine(bK2 h _).trans ?_;simp only[bZ0 h hf];have hz:=QH h hf;obtain⟨_,hlen⟩:=h.Ih;have hp:(xW al ag fs).Perm (uY (tT al ag fs) (nP al ag)):=tG (IA _);have b:=hlen;refine(aF8 h (xW al ag fs) (λr c=>?_) (by rw[hp.length_eq,hz];exact b) _).trans ?_;have c:=hp.mem_iff.1 c;unfold uY at c;obtain⟨i,a7,e⟩:=aT c;rw[jr]at e;subst e;have d:i<(nP al ag).length:=by rw[jE]at a7;omega
 exact ao0 (a:=(nP al ag)[i]) (ay d);have f:(vw al ag (xW al ag fs)).length<=1000000:=by unfold vw;rw[aI];refine bz (bn _ _) ?_;rw[hp.length_eq,hz];exact b
 simp only[aP0 f];rfl
end Dp
def rT{α β:Type}{a:Option α}{f:α->Option β}{P:α->Prop}{Q:β->Prop}(h:∃v,a=Q1 v/\P v)(hf:∀v,P v->∃r,f v=Q1 r/\Q r):∃r,a8 a f=Q1 r/\Q r:=by obtain⟨v,rfl,hv⟩:=h;exact hf v hv
def rP(n:Int):0<=an.wrap n/\an.wrap n<=18446744073709551615:=by simp[kF,kG,j_];omega
theorem G3{n:Int}(h:0<=n/\n<=18446744073709551615):an.wrap n=n:=IntWalk.u64_in n h
def aS8{n:Int}(h:0<=n/\n<=255):fq.wrap n=n:=IntWalk.u8_in n h
def uT(i:Nat):Nat:=if i=0 then 0 else if i<2 then 1 else if i<4 then 2 else if i<8 then 3 else if i<16 then 4 else if i<32 then 5 else if i<64 then 6 else if i<128 then 7 else 8
theorem aZ3:((aN 256).all λi=>pE Ea (i:Int)==Q1 ((uT i:Nat):Int))=No:=by decide +kernel
def bQ1{v:Int}(h:0<=v/\v<=255):pE Ea v=Q1 ((uT v.toNat:Nat):Int):=by grind[ aZ3]
def bY7{i:Nat}(h:i<=255):(uT i=0/\i=0)\/(uT i=1/\i=1)\/(uT i=2/\2<=i/\i<4)\/(uT i=3/\4<=i/\i<8)\/(uT i=4/\8<=i/\i<16)\/(uT i=5/\16<=i/\i<32)\/(uT i=6/\32<=i/\i<64)\/(uT i=7/\64<=i/\i<128)\/(uT i=8/\128<=i):=by grind[uT]
def fd{x k:Int}(hk:0<=k):x.fdiv k=x / k:=Int.fdiv_eq_ediv_of_nonneg x hk
def ap3:(2:Int)^(min (32:Int).toNat an.bits)=4294967296:=by decide
def bL9:(2:Int)^(min (16:Int).toNat an.bits)=65536:=by decide
def bM0:(2:Int)^(min (8:Int).toNat an.bits)=256:=by decide
def Vp(x:Int):x.fdiv 4294967296=x / 4294967296:=fd (by decide)
def bi1(x:Int):x.fdiv 65536=x / 65536:=fd (by decide)
def bi2(x:Int):x.fdiv 256=x / 256:=fd (by decide)
def bi7:Eo ((32:Int)<0)=N2:=by decide
def bi6:Eo ((16:Int)<0)=N2:=by decide
def bi8:Eo ((8:Int)<0)=N2:=by decide
def Jm{a b:Nat}:(2:Int)^(a+b)=2^a*2^b:=Int.pow_add 2 a b
def bn0{x q K:Int}{k:Nat}(b:K=2^k)(c:q=x / K)(h1:1<=q)(h2:q<=255)(hk:k<=56):∃n:Nat,((k:Int)+((uT q.toNat:Nat):Int))=(n:Int)/\1<=n/\n<=64/\(2:Int)^(n-1)<=x/\x<2^n:=by
 have a:0<K:=by grind
 have e:=Int.emod_add_mul_ediv x K;have m1:=Int.emod_nonneg x (show K≠0 by omega);have m2:=Int.emod_lt_of_pos x a;have key:∀t:Nat,1<=t->t<=8->(2:Int)^(t-1)<=q->q<2^t->∃n:Nat,((k:Int)+(t:Int))=(n:Int)/\1<=n/\n<=64/\(2:Int)^(n-1)<=x/\x<2^n:=by
  intro t t1 t8 l2 mi;refine⟨k+t,by omega,by omega,by omega,?_,?_⟩;rw[show k+t-1=(t-1)+k by omega,Jm,<-b];have:(2:Int)^(t-1)*K<=q*K:=bh l2 (by omega)
  grind
  have d:(q+1)*K<=(2:Int)^t*K:=bh (by omega) (by omega)
  grind
 rcases bY7 (i:=q.toNat) (by omega)with h|h|h|h|h|h|h|h|h
 omega
 all_goals
  rw[h.1];exact key _ (by decide) (by decide) (by simp;omega) (by simp;omega)
theorem aP5{x:Int}(h:1<=x/\x<=18446744073709551615):∃n:Nat,Fy x=Q1 (n:Int)/\1<=n/\n<=64/\(2:Int)^(n-1)<=x/\x<2^n:=by
 have fin:∀(K q:Int) (k:Nat),K=2^k->q=x / K->1<=q->q<=255->k<=56->∃n:Nat,a8 (pE Ea (fq.wrap q)) (λb=>Q1 (aa.wrap ((k:Int)+aa.wrap b)))=Q1 (n:Int)/\1<=n/\n<=64/\(2:Int)^(n-1)<=x/\x<2^n:=by intro K q k c d fa gb hk;obtain⟨n,e,r⟩:=bn0 c d fa gb hk;refine⟨n,?_,r⟩;rw[aS8 ⟨by omega,gb⟩,bQ1 ⟨by omega,gb⟩,bT,fx (n:=((uT q.toNat:Nat):Int)) (by omega) (by omega),e,fx (by omega) (by omega)]
 unfold Fy;simp only[LW,len8,bT,ap3,bL9,bM0,Vp,bi1,bi2,bi7,bi6,bu];by_cases c1:(4294967296:Int)<=x;simp only[c1];by_cases c2:(65536:Int)<=x / 4294967296;simp only[c2];by_cases a:(256:Int)<=x / 4294967296 / 65536;simp only[a];exact fin 72057594037927936 _ 56 (by decide) (by omega) (by omega) (by omega) (by decide);simp only[a];exact fin 281474976710656 _ 48 (by decide) (by omega) (by omega) (by omega) (by decide);simp only[c2];by_cases a:(256:Int)<=x / 4294967296;simp only[a];exact fin 1099511627776 _ 40 (by decide) (by omega) (by omega) (by omega) (by decide);simp only[a];exact fin 4294967296 _ 32 (by decide) (by omega) (by omega) (by omega) (by decide);simp only[c1];by_cases c2:(65536:Int)<=x;simp only[c2];by_cases a:(256:Int)<=x / 65536;simp only[a];exact fin 16777216 _ 24 (by decide) (by omega) (by omega) (by omega) (by decide);simp only[a];exact fin 65536 _ 16 (by decide) (by omega) (by omega) (by omega) (by decide);simp only[c2];by_cases a:(256:Int)<=x;simp only[a];exact fin 256 _ 8 (by decide) (by omega) (by omega) (by omega) (by decide);simp only[a];exact fin 1 _ 0 (by decide) (by omega) (by omega) (by omega) (by decide)
def m5{α β:Type}{a:Option α}{f:α->Option β}{Q:β->Prop}(e:α)(h:a=Q1 e)(hf:∀v,v=e->∃r,f v=Q1 r/\Q r):∃r,a8 a f=Q1 r/\Q r:=by subst h;exact hf e rfl
def r8{α:Type}{c:Bool}{e:α}(h:c=N2):(bif c then Ld else Q1 e)=Q1 e:=by rw[h];rfl
def bm5{x:Int}(h:1<=x/\x<=18446744073709551615):∃v,H5 x=Q1 v/\∃n:Nat,v=64-(n:Int)/\1<=n/\n<=64/\(2:Int)^(n-1)<=x/\x<2^n:=by grind[aP5,H5,bT,fx]
def aX4{x v:Int}{n:Nat}(hv:v=64-(n:Int))(h1:1<=n)(h2:n<=64)(a:(2:Int)^(n-1)<=x)(b:x<2^n):9223372036854775808<=an.wrap (x*2^(min (an.wrap v).toNat an.bits)):=by
  have e:an.wrap v=v:=G3 (by omega);have c:min v.toNat an.bits=64-n:=by show min v.toNat 64=64-n;omega
  rw[e,c];have p:(0:Int)<=2^(64-n):=dv (lH (by decide));have d:(2:Int)^(n-1)*2^(64-n)<=x*2^(64-n):=bh a p;have a2:x*2^(64-n)<2^n*2^(64-n):=fS b (lH (by decide));rw[<-Jm,show n-1+(64-n)=63 by omega]at d;rw[<-Jm,show n+(64-n)=64 by omega]at a2
  grind[G3]
def V9{a b:Int}(ha:0<=a)(h:0<an.wrap (a*b)):1<=a:=by grind[G3]
def Lk{a e b c d q:Int}(f:0<=a):∃r,Fw a e b c d q=Q1 r/\0<=r.1:=by unfold Fw;rw[r8 (ft (by omega))];exact⟨_,rfl,(rP _).1⟩
def aD8{q v:Int}(h1:1<=q)(h2:q<=18446744073709551615):an.wrap (q-1)=q-1:=G3 ⟨by omega,by omega⟩
def bh0{g i c d e h f:Int}(j:0<=g)(l:c≠0):∃r,MP g i c d e h f=Q1 r/\0<=r.1:=by
  unfold MP;rw[r8 (ft l),bT];refine N6 (λy:Int×Int=>0<=y.2/\y.2<=18446744073709551615) (λy=>y.2.toNat) _ ?_ (rP _) (by have:=rP (f.tdiv c);show(an.wrap (f.tdiv c)).toNat<_;omega);intro k x ix m;have go:1<=x.2->∃v,k (an.wrap (x.1+c),an.wrap (x.2-1))=Q1 v/\0<=v.1:=λh1=>by rw[aD8 (v:=0) h1 ix.2];exact m (_,x.2-1) ⟨by show 0<=x.2-1;omega,by show x.2-1<=_;omega⟩ (by grind)
  cases c1:Eo (4294967296<=x.2)with
  |true=>
    have:=pK c1;rw[b6];cases Eo (4294967296<=an.wrap (x.1+c))with
    |true=>exact Lk j
    |false=>exact go (by omega)
  |false=>
    rw[bu];cases c2:Eo (an.wrap (an.wrap (4294967296*x.1)+e)<an.wrap (x.2*d))with
    |false=>exact Lk j
    |true=>
      have a:=pK c2;have b:=(rP (an.wrap (4294967296*x.1)+e)).1;rw[b6];cases Eo (4294967296<=an.wrap (x.1+c))with
      |true=>exact Lk j
      |false=>exact go (V9 (b:=d) ix.1 (by omega))
def aI4{x:Int×Int×Int}(g1:0<=x.1)(g2:x.1<x.2.2)(g3:x.2.2<=18446744073709551615):∃r,IY x=Q1 r/\0<=r.1:=by
 unfold IY;refine m5 _ rfl ?_;intro w Q;cases R:w
 case false=>
  rw[bu];refine m5 _ rfl ?_;intro z S;cases c4:z
  case false=>
   rw[bu];refine m5 _ rfl ?_;intro C h5;cases c5:C
   case false=>
    rw[bu];refine rT (bm5 ⟨by omega,g3⟩) ?_;intro d D;refine m5 _ rfl ?_;intro h i;refine m5 _ (r8 (by have:=rP (d);rw[<-i]at this;exact ft (by omega))) ?_;intro E h8;refine m5 _ (r8 (by decide)) ?_;intro c h9;obtain⟨n,hv,j,l,m,o⟩:=D;have p:=aX4 hv j l m o;rw[<-i,<-h8]at p;rw[ap3,Vp]at h9;have G:c≠0:=by omega
    clear hv j l m o p;refine m5 _ rfl ?_;intro e h10;refine m5 _ (r8 (by have:=rP (d);rw[<-i]at this;exact ft (by omega))) ?_;intro J h11;refine m5 _ rfl ?_;intro K H;refine m5 _ (r8 (by have:=rP (((64:Int)-h));rw[<-H]at this;exact ft (by omega))) ?_;intro M h13;refine m5 _ rfl ?_;intro f h14;refine m5 _ (r8 (by have:=rP (d);rw[<-i]at this;exact ft (by omega))) ?_;intro N h15;refine m5 _ (r8 (by decide)) ?_;intro g h16;refine m5 _ rfl ?_;intro s h17;refine m5 _ (r8 (ft (by omega))) ?_;intro t u;refine m5 _ rfl ?_;intro O h19;refine m5 _ rfl ?_;intro P h20;have I:0<=h:=by have:=rP d;rw[<-i]at this;omega
    have B:∀q,∃r,MO h E c e f g s q=Q1 r/\0<=r.1:=λq=>bh0 I G;refine N6 (λy:Int×Int=>0<=y.1/\y.1<=18446744073709551615) (λy=>y.1.toNat) _ ?_ (by have a:=rP ((f.tdiv c));rw[<-u]at a;exact a) (by have a:=rP ((f.tdiv c));rw[<-u]at a;show t.toNat<_;omega);intro k x ix rk;have go:1<=x.1->∃v,k (an.wrap (x.1-1),an.wrap (x.2+c))=Q1 v/\0<=v.1:=λh1=>by rw[aD8 (v:=0) h1 ix.2];exact rk (x.1-1,_) ⟨by show 0<=x.1-1;omega,by show x.1-1<=_;omega⟩ (by grind)
    cases c1:Eo (4294967296<=x.1)with
    |true=>
      have:=pK c1;rw[b6];cases Eo (4294967296<=an.wrap (x.2+c))with
      |true=>exact B _
      |false=>exact go (by omega)
    |false=>
      rw[bu];cases c2:Eo (an.wrap (an.wrap (4294967296*x.2)+g)<an.wrap (x.1*e))with
      |false=>exact B _
      |true=>
        have a:=pK c2;have b:=(rP (an.wrap (4294967296*x.2)+g)).1;rw[b6];cases Eo (4294967296<=an.wrap (x.2+c))with
        |true=>exact B _
        |false=>exact go (V9 (b:=e) ix.1 (by omega))
   case true =>rw[b6];refine m5 _ (r8 (ft (by omega))) ?_;intro d D;refine m5 _ (r8 (ft (by omega))) ?_;intro h i;exact⟨_,rfl,by show 0<=d;rw[D];exact(rP _).1⟩
  case true =>rw[b6];have:=pK (S.symm.trans c4);omega
 case true =>rw[b6];have:=pK (Q.symm.trans R);omega
def tQ(x:Int):∃v,rU x=Q1 v/\0<=v/\v<=18446744073709551615/\(-9223372036854775808<=x->x<=9223372036854775807->v=(x.natAbs:Int)):=by unfold rU;by_cases h:x<0;simp only[h];simp only[kF,kG,j_];simp;omega;simp only[h];refine⟨_,rfl,(rP _).1,(rP _).2,λh1 h2=>?_⟩;rw[G3 (by omega)];omega
def am1{n:Int}(h:0<=n):∃v,xx (n,N2)=Q1 v/\0<=v.1/\v.1<=9223372036854775807/\(n<=9223372036854775807->v=(n,No)):=by unfold xx;by_cases h1:9223372036854775807<n;simp only[h1];exact⟨_,rfl,by simp,by simp,λh=>by omega⟩;simp only[h1];rw[fx (by omega) (by omega)];exact⟨_,rfl,by simpa using h,by simp only;omega,λ_=>rfl⟩
def X3(n:Int):∃v,xx (n,No)=Q1 v/\True:=by unfold xx;by_cases h1:9223372036854775808<n;simp only[h1];exact⟨_,rfl,trivial⟩;simp only[h1];exact⟨_,rfl,trivial⟩
theorem FC(a b:Nat)(d:b<=18446744073709551615):Bk ((a:Int),(b:Int))=Q1 ((jU a b:Nat):Int):=by
  refine(Fq (λx:Int×Int=>∃a b:Nat,x=((a:Int),(b:Int))/\b<=18446744073709551615) (λx=>x.2.toNat) (λx=>Q1 ((jU x.1.toNat x.2.toNat:Nat):Int)) ?_ ⟨a,b,rfl,d⟩ (by show((b:Int)).toNat<_;omega)).trans (by simp);rintro rec x ⟨a,b,rfl,d⟩ f;by_cases cu:b=0;subst cu;simp;have e:Eo ((b:Int)=0)=N2:=ft (by omega);have em:(a:Int).tmod (b:Int)=((a%b:Nat):Int):=by rw[iK (by omega)];rfl
  have c:a%b<b:=d_ _ (by omega);simp only[e,bB,b6,bu,bT,em];rw[f ((b:Int),((a%b:Nat):Int)) ⟨b,a%b,rfl,by omega⟩ (by simp;exact c)];simp only[aW];rw[lB b (a%b),<-Nat.gcd_rec,lB]
def aS2{a b:Int}(h1:-9223372036854775808<=a)(h2:a<=9223372036854775807)(k:1<=b)(e:b<=9223372036854775807):∃v,DK (a,b)=Q1 v/\1<=v/\v<=b:=by unfold DK;obtain⟨u,f,_,_,c⟩:=tQ a;obtain⟨w,g,_,_,d⟩:=tQ b;have c:=c h1 h2;have d:=d (by omega) e;have l:jU a.natAbs b.natAbs<=b.natAbs:=Nat.gcd_le_right _ (by omega);have h:0<jU a.natAbs b.natAbs:=Nat.gcd_pos_of_pos_right _ (by omega);obtain⟨s,i,_,_,j⟩:=am1 (n:=((jU a.natAbs b.natAbs:Nat):Int)) (by omega);simp only[f,g,bT,c,d,FC a.natAbs b.natAbs (by omega),i,j (by omega)];exact⟨_,rfl,by omega,by omega⟩
def PA(n:Int):-9223372036854775808<=aa.wrap n/\aa.wrap n<=9223372036854775807:=by rw[IntKind.wrap_i64];omega
def aN6{a b:Int}(h1:0<=a)(h2:0<=b):∃v,zJ (a,b,0)=Q1 v/\0<=v.1:=by unfold zJ;simp only[h1,h2];exact⟨_,rfl,by simp only;omega⟩
def JD(x:Int×Int):∃r,zI x=Q1 r/\0<=r.1/\0<=r.2:=by refine m5 _ rfl ?_;intro l h2;refine m5 _ (r8 (by decide)) ?_;intro m E;refine m5 _ rfl ?_;intro n G;refine m5 _ (r8 (by decide)) ?_;intro o H;refine m5 _ rfl ?_;intro p I;refine m5 _ rfl ?_;intro q J;refine m5 _ (r8 (by decide)) ?_;intro s K;refine m5 _ rfl ?_;intro t M;refine m5 _ rfl ?_;intro e u;refine m5 _ (r8 (by decide)) ?_;intro f v;refine m5 _ rfl ?_;intro g w;refine m5 _ rfl ?_;intro h z;refine m5 _ rfl ?_;intro i B;refine m5 _ rfl ?_;intro j C;refine m5 _ (r8 (by decide)) ?_;intro k D;refine m5 _ rfl ?_;intro a c;refine m5 _ rfl ?_;intro b d;exact⟨_,rfl,by show 0<=a;rw[c];exact(rP _).1,by show 0<=b;rw[d];exact(rP _).1⟩
def cb3(t c:Int)(hc:1<=c)(i:c<=9223372036854775807):∃r,FD (t,t,c)=Q1 r/\0<=r.1/\r.1<=9223372036854775807:=by
 unfold FD;dsimp only;refine m5 _ rfl ?_;intro m h3;cases c3:m
 case false=>
  rw[bu];refine m5 _ rfl ?_;intro N z;refine m5 _ rfl ?_;intro O B;refine m5 _ rfl ?_;intro P C;refine m5 _ rfl ?_;intro Q D;refine m5 _ rfl ?_;intro n E;refine rT (tQ _) ?_;intro R h9;refine rT (tQ _) ?_;intro G S;refine rT (JD _) ?_;intro H o;refine rT (tQ _) ?_;intro I p;refine m5 _ rfl ?_;intro j q;cases s:j
  case false=>
   refine rT (tQ _) ?_;intro J k;refine rT (aI4 o.1 (by have:=of_decide_eq_false (q.symm.trans s);have a:=p.2.2 (by omega) i;have b:=k.2.2 (by omega) i;simp only;omega) k.2.1) ?_;intro K u;cases M:n
   case false=>
    refine rT (am1 u) ?_;intro d h;refine m5 _ rfl ?_;intro e v;cases c20:e
    case false =>exact⟨_,rfl,h.1,h.2.1⟩
    case true =>exact⟨_,rfl,by simp,by simp⟩
   case true=>
    rw[b6];refine m5 _ rfl ?_;intro d h;cases c18:d
    case false=>
     refine rT (X3 _) ?_;intro f w;refine m5 _ rfl ?_;intro g x;cases c21:g
     case false =>exact b8 (E.symm.trans M) (by simp[C,D,z,B];omega)
     case true =>exact⟨_,rfl,by simp,by simp⟩
    case true=>
     rw[b6];refine m5 _ rfl ?_;intro f w;cases c19:f
     case false=>
      rw[bu];refine m5 _ rfl ?_;intro e v;refine rT (X3 _) ?_;intro g x;refine m5 _ rfl ?_;intro l h23;cases c23:l
      case false =>exact b8 (E.symm.trans M) (by simp[C,D,z,B];omega)
      case true =>exact⟨_,rfl,by simp,by simp⟩
     case true =>exact⟨_,rfl,by simp,by simp⟩
  case true =>exact⟨_,rfl,by simp,by simp⟩
 case true =>exact⟨_,rfl,by simp,by simp⟩
def sq_nonneg(x:Int):0<=x*x:=by
  rcases ia 0 x with h|h
  exact aL h h;exact Int.mul_nonneg_of_nonpos_of_nonpos h h
def Dl{a b:bs}(ha:d' a=No)(c:d' b=No):vD (a,b)=Q1 ((b.1-a.1)*(b.1-a.1)+(b.2-a.2)*(b.2-a.2))/\0<=(b.1-a.1)*(b.1-a.1)+(b.2-a.2)*(b.2-a.2)/\(b.1-a.1)*(b.1-a.1)+(b.2-a.2)*(b.2-a.2)<=35184372088832:=by rw[wH]at ha c;obtain⟨m1,m2⟩:=vR (a:=b.1-a.1) (b:=b.1-a.1) (m:=4194304) (n:=4194304) (by omega) (by omega) (by omega) (by omega);obtain⟨m3,m4⟩:=vR (a:=b.2-a.2) (b:=b.2-a.2) (m:=4194304) (n:=4194304) (by omega) (by omega) (by omega) (by omega);have mJ:0<=(b.1-a.1)*(b.1-a.1):=sq_nonneg _;have nj:0<=(b.2-a.2)*(b.2-a.2):=sq_nonneg _;unfold vD;rw[fx (n:=b.1-a.1) (by omega) (by omega),fx (n:=b.2-a.2) (by omega) (by omega),fx (n:=(b.1-a.1)*(b.1-a.1)) (by omega) (by omega),fx (n:=(b.2-a.2)*(b.2-a.2)) (by omega) (by omega),fx (by omega) (by omega)];exact⟨rfl,by omega,by omega⟩
def au8{n g:Int}(h1:1<=g)(h2:g<=n)(c:n<=9223372036854775807):1<=aa.wrap (n.tdiv g)/\aa.wrap (n.tdiv g)<=9223372036854775807:=by rw[IntWalk.i64_quo n g ⟨by omega,c,h1⟩];have a:1<=n / g:=(Int.le_ediv_iff_mul_le (by omega)).2 (by omega);have b:n / g<=n:=Int.ediv_le_self _ (by omega);omega
def aV7{a b p:bs}(ha:d' a=No)(t:d' b=No)(hp:d' p=No):∃f,yw (a,b,p)=Q1 f/\0<=f.1/\f.1<=9223372036854775807/\1<=f.2/\f.2<=9223372036854775807:=by
 obtain⟨s1,s2,s3⟩:=Dl ha t;obtain⟨s4,s5,s6⟩:=Dl ha hp;obtain⟨s7,s8,s9⟩:=Dl t hp;have tw:=Fa a b p ha t hp;have I:=GS a b p;rw[ha,t,hp]at I;refine rT (show ∃v,vJ _=Q1 v/\v=No from⟨_,I,rfl⟩) ?_;intro zz6 h6;refine m5 _ rfl ?_;intro u h7;cases J:u
 case false=>
  rw[bu];refine rT (show ∃v,vD _=Q1 v/\v=(b.1-a.1)*(b.1-a.1)+(b.2-a.2)*(b.2-a.2)from⟨_,s1,rfl⟩) ?_;intro zz8 h8;refine m5 _ rfl ?_;intro zz9 h9;refine m5 _ rfl ?_;intro K h10;refine m5 _ rfl ?_;intro M h11;refine m5 _ rfl ?_;intro N h12;refine m5 _ rfl ?_;intro O h13;refine m5 _ rfl ?_;intro P h14;refine m5 _ rfl ?_;intro Q h15;refine m5 _ rfl ?_;intro k w;cases x:k
  case false=>
   rw[bu];refine m5 _ rfl ?_;intro e l
   skip
   cases z:e
   case false=>
    rw[bu];have k1:=of_decide_eq_false (w.symm.trans x);have k2:=of_decide_eq_false (l.symm.trans z);refine rT (show ∃v,xy _=Q1 v/\v=fr a b p from⟨_,tw,rfl⟩) ?_;intro m B;refine rT (cb3 _ _ (by omega) (by omega)) ?_;intro R c;refine m5 _ rfl ?_;intro g h21;refine m5 _ rfl ?_;intro h h22;refine m5 _ rfl ?_;intro S h23;refine rT (aS2 (by have:=PA (g-h);omega) (by have:=PA (g-h);omega) (by omega) (by omega)) ?_;intro zz24 d;refine m5 _ rfl ?_;intro zz25 h25;refine m5 _ (r8 (ft (by omega))) ?_;intro zz26 h26;refine m5 _ rfl ?_;intro zz27 h27;refine rT (JD _) ?_;intro zz28 C;refine m5 _ (r8 (ft (by omega))) ?_;intro n h30;refine m5 _ rfl ?_;intro zz31 h31;refine rT (aN6 C.2 (by have:=(rP n).1;omega)) ?_;intro o D;refine m5 _ rfl ?_;intro zz34 h34;refine m5 _ rfl ?_;intro q h35;cases c35:q
    case false=>
     rw[bu];refine m5 _ rfl ?_;intro r E;cases G:r
     case false =>rw[bu];refine m5 _ rfl ?_;intro i H;refine m5 _ (r8 (ft (by omega))) ?_;intro j s;exact⟨_,rfl,by have:=of_decide_eq_false (E.symm.trans G);show 0<=i;rw[H,fx (by omega) (by omega)];exact D,by show i<=_;have:=PA o.1;omega,by show 1<=j;rw[s];exact(au8 d.1 d.2 (by omega)).1,by show j<=_;rw[s];exact(au8 d.1 d.2 (by omega)).2⟩
     case true =>exact⟨_,rfl,c.1,c.2,by simp,by simp⟩
    case true =>exact⟨_,rfl,c.1,c.2,by simp,by simp⟩
   case true =>rw[b6];refine rT (show ∃v,vD _=Q1 v/\v=(p.1-b.1)*(p.1-b.1)+(p.2-b.2)*(p.2-b.2)from⟨_,s7,rfl⟩) ?_;intro m B;exact⟨_,rfl,by simp only;omega,by simp only;omega,by simp,by simp⟩
  case true=>
   rw[b6];refine rT (show ∃v,vD _=Q1 v/\v=(p.1-a.1)*(p.1-a.1)+(p.2-a.2)*(p.2-a.2)from⟨_,s4,rfl⟩) ?_;intro e l
   skip
   exact⟨_,rfl,by simp only;omega,by simp only;omega,by simp,by simp⟩
 case true =>rw[h7,h6]at J;cases J
def sn{α:Type}{c:Bool}{a b:Option α}(ha:∃v,a=Q1 v)(d:∃v,b=Q1 v):∃v,(bif c then a else b)=Q1 v:=by cases c<;>assumption
def ax0(x:Int×Int):∃v,BE x=Q1 v:=by unfold BE;obtain⟨a,c,d,a2,_⟩:=tQ x.1;obtain⟨b,e,f,g,_⟩:=tQ x.2;obtain⟨m,rfl⟩:=ga d;obtain⟨n,rfl⟩:=ga f;simp only[c,e,bT,FC m n (by omega)];exact sn ⟨_,rfl⟩ ⟨_,rfl⟩
def aM7(x:(Int×Int)×(Int×Int)):∃v,wM x=Q1 v:=by
 unfold wM;obtain⟨j,k⟩:=ax0 x.1;obtain⟨l,m⟩:=ax0 x.2;obtain⟨g,c,_⟩:=tQ x.1.1;obtain⟨h,d,_⟩:=tQ x.2.2;obtain⟨a,e,_⟩:=tQ x.2.1;obtain⟨b,f,_⟩:=tQ x.1.2;obtain⟨i,n,_⟩:=JD (a,b);simp only[k,m,c,d,e,f]
 repeat (first|exact⟨_,rfl⟩|refine sn ?_ ?_)
def Ud(a b c d:Int)(p:bs):DH ((a,b,c,d),p)=Q1 (Eo (a<=p.1)&&(Eo (p.1<=c)&&(Eo (b<=p.2)&&Eo (p.2<=d)))):=by unfold DH;cases Eo (a<=p.1)<;>cases Eo (p.1<=c)<;>cases Eo (b<=p.2)<;>rfl
namespace Dp
noncomputable section
def pI(g:nE):bs:=(g.1,g.2.1)
def pC(g:nE):bs:=g.2.2
def oJ(gap:Int)(at':bs)(g:nE):Bool:=Eo (min g.1 g.2.2.1-gap<=at'.1)&&(Eo (at'.1<=max g.1 g.2.2.1+gap)&&(Eo (min g.2.1 g.2.2.2-gap<=at'.2)&&Eo (at'.2<=max g.2.1 g.2.2.2+gap)))
def Dx{p:bs}:lR p=No↔-1048576<=p.1/\p.1<=1048576/\-1048576<=p.2/\p.2<=1048576:=by simp[lR,and_assoc]
def ah6{g:nE}(ha:lR (pI g)=No)(a:lR (pC g)=No)(p:bs){gap:Int}(cu:0<=gap)(h1:gap<=200):yl (g,p,gap)=Q1 (oJ gap p g):=by have ha:=Dx.1 ha;have a:=Dx.1 a;simp only[pI,pC]at ha a;unfold yl oJ;simp only[KS,yP];rw[fx (by omega) (by omega),fx (by omega) (by omega),fx (by omega) (by omega),fx (by omega) (by omega),Ud];rfl
def yZ(q a b:bs):Bool :=bif Eo (b.2<a.2)then(bif Eo (b.2<=q.2)then(bif Eo (q.2<a.2)then Eo (0<l7 b a q)else N2)else N2)else(bif Eo (a.2<=q.2)then(bif Eo (q.2<b.2)then Eo (0<l7 a b q)else N2)else N2)
def rD(P:List bs)(q:bs):List bs->Nat->Bool->Bool
 | [],_,b=>b
 |x::r,i,b=>rD P q r (i+1) (bif yZ q x ((P[(i+1)%P.length]?).getD (0,0))then !b else b)
def qo(q:bs):List oP->Int
 | []=>0
 |o::r=>bif rD o.2.2 q o.2.2 0 N2 then o.1 else qo q r
def aI2{β:Type}(P:List bs)(q:bs)(hl:P.length<=1000000)(K:Int×Bool->Option β) :
  rounds (α:=Int×Bool) (β:=β) (λc b=>
   bif (Eo (b.1<(P.length:Int)))then(
   a8 (nth P b.1) λd=>
   a8 ((bif Eo ((P.length:Int)=0)then Ld else Q1 ((aa.wrap (b.1+(1:Int))).tmod (P.length:Int)))) λg=>
   a8 (nth P g) λe=>
   bif (Eo (e.2<d.2))then(
    bif (Eo (e.2<=q.2))then(
    bif (Eo (q.2<d.2))then(
     a8 (qR (e,d,q)) λf=>
     bif (Eo ((0:Int)<f))then(
     c ((aa.wrap (b.1+(1:Int))),(!(b.2))))else(
     c ((aa.wrap (b.1+(1:Int))),b.2)))else(
     c ((aa.wrap (b.1+(1:Int))),b.2)))else(
    c ((aa.wrap (b.1+(1:Int))),b.2)))else(
    bif (Eo (d.2<=q.2))then(
    bif (Eo (q.2<e.2))then(
     a8 (qR (d,e,q)) λf=>
     bif (Eo ((0:Int)<f))then(
     c ((aa.wrap (b.1+(1:Int))),(!(b.2))))else(
     c ((aa.wrap (b.1+(1:Int))),b.2)))else(
     c ((aa.wrap (b.1+(1:Int))),b.2)))else(
    c ((aa.wrap (b.1+(1:Int))),b.2))))else(K b)) ((0:Int),N2)=K ((P.length:Int),rD P q P 0 N2):=by
 refine(mw (A:=Bool) P (λi a=>((i:Int),a)) (λa rest=>K ((P.length:Int),rD P q rest (P.length-rest.length) a)) (λ_ _=>True) (by omega) ?_ ?_ N2 trivial).trans (by simp);intro rec a _;simp only[kj,bu,rD];intro rec i a x rest a7 _ hd h;obtain⟨_,m,_⟩:=rl hd;have h1:P.length-(x::rest).length=i:=by simp only[aC];omega
 have h2:P.length-rest.length=i+1:=by omega
 have n:Eo ((P.length:Int)=0)=N2:=ft (by omega);have o:((i+1:Nat):Int).tmod (P.length:Int)=(((i+1)%P.length:Nat):Int):=by rw[iK (by omega)];rfl
 have hm:(i+1)%P.length<P.length:=d_ _ (by omega);have j:=af hm;simp only[fB a7,h0 hd,bT,n,bu,f' a7 (show P.length<2^62 by omega),o,lQ,j,M8,h1];simp only[rD,j,cA];have k:=h a trivial;have l:=h (!a) trivial;rw[h2]at k l;generalize P[(i+1)%P.length]'hm=y;unfold yZ;rw[k,l];cases Eo (y.2<x.2)<;>cases Eo (y.2<=q.2)<;>cases Eo (q.2<x.2)<;>cases Eo (x.2<=q.2)<;>cases Eo (q.2<y.2)<;>cases Eo (0<l7 y x q)<;>cases Eo (0<l7 x y q)<;>rfl
def RB{l1:List oP}(hl:l1.length<=1000000)(hp:∀o∈l1,o.2.2.length<=1000000)(j7:List nE)(q:bs):AS ((j7,l1),q)=Q1 (qo q l1):=by
 refine mP (A:=Unit) l1 (λi _=>(i:Int)) (λ_ rest=>Q1 (qo q rest)) (by omega) ?_ ?_ ();intro rec a;simp only[kj,bu,qo];intro rec i a x rest a7 hd c;have b:x∈l1:=by
  have:x∈l1.drop i:=by rw[hd];simp
  exact ao this
 simp only[fB a7,h0 hd];refine(aI2 x.2.2 q (hp x b) _).trans ?_;have:=c ();simp only[f' a7 (show l1.length<2^62 by omega),this,qo];cases rD x.2.2 q x.2.2 0 N2<;>rfl
def Fk(gap:Int)(at':bs)(g:nE):Int:=((yw (pI g,pC g,at')).bind λf=>wM (f,(gap*gap,1))).getD 0
def yR(g2 id:Int)(at':bs)(n:b9):Bool:=!decide (n.1=id)&&(Eo (n.2.1=at'.1)&&Eo (n.2.2=at'.2)||Eo ((n.2.1-at'.1)*(n.2.1-at'.1)+(n.2.2-at'.2)*(n.2.2-at'.2)<g2))
def pg(gap:Int)(at':bs)(g:nE):Bool:=oJ gap at' g&&(mc (pI g) (pC g) at'||Eo (Fk gap at' g<0))
def qc(j7:List nE)(l1:List oP)(cur:List b9)(id:Int)(p0 at':bs)(gap:Int):Bool :=bif lR at' then(bif cur.any (yR (gap*gap) id at')then N2 else bif j7.any (pg gap at')then N2 else Eo (qo at' l1=qo p0 l1))else N2
def bT9(cur:List b9)(hl:cur.length<=1000000)(hp:∀n∈cur,lR (l3 n)=No)(id:Int)(q:bs)(j:lR q=No){gap:Int}(cu:0<=gap)(h1:gap<=64)(K:Option Bool) :
  rounds (α:=Int) (β:=Bool) (λg d=>
  bif (Eo (d<(cur.length:Int)))then(
   a8 (nth cur d) λc=>
   a8 (Q1 (aa.wrap (c.2.1-q.1))) λe=>
   a8 (Q1 (aa.wrap (c.2.2-q.2))) λf=>
   bif (!decide (c.1=id))then(
   bif (Eo (c.2.1=q.1)&&Eo (c.2.2=q.2))then(
    Q1 N2)else(
    bif (Eo ((aa.wrap ((aa.wrap (e*e))+(aa.wrap (f*f))))<(aa.wrap (gap*gap))))then(
    Q1 N2)else(
    g (aa.wrap (d+(1:Int))))))else(
   g (aa.wrap (d+(1:Int)))))else K) (0:Int)=bif cur.any (yR (gap*gap) id q)then Q1 N2 else K:=by
 have k:aa.wrap (gap*gap)=gap*gap:=by have:=vI (A:=64) (a:=gap) (b:=gap) (by omega) (by omega) (by omega) (by omega);exact fx (by omega) (by omega)
 have j:=Dx.1 j;refine mP (A:=Unit) cur (λi _=>(i:Int)) (λ_ rest=>bif rest.any (yR (gap*gap) id q)then Q1 N2 else K) (by omega) ?_ ?_ ();intro rec a;simp only[kj,bu,jg];intro rec i a x rest a7 hd l;have h:x∈cur:=by
  have:x∈cur.drop i:=by rw[hd];simp
  exact ao this
 have m:=Dx.1 (hp x h);simp only[l3]at m;have u:=vI (A:=2097152) (a:=x.2.1-q.1) (b:=x.2.1-q.1) (by omega) (by omega) (by omega) (by omega);have v:=vI (A:=2097152) (a:=x.2.2-q.2) (b:=x.2.2-q.2) (by omega) (by omega) (by omega) (by omega);have o:aa.wrap (x.2.1-q.1)=x.2.1-q.1:=fx (by omega) (by omega);have p:aa.wrap (x.2.2-q.2)=x.2.2-q.2:=fx (by omega) (by omega);have r:aa.wrap ((x.2.1-q.1)*(x.2.1-q.1))=(x.2.1-q.1)*(x.2.1-q.1):=fx (by omega) (by omega);have s:aa.wrap ((x.2.2-q.2)*(x.2.2-q.2))=(x.2.2-q.2)*(x.2.2-q.2):=fx (by omega) (by omega);have t:aa.wrap ((x.2.1-q.1)*(x.2.1-q.1)+(x.2.2-q.2)*(x.2.2-q.2))=(x.2.1-q.1)*(x.2.1-q.1)+(x.2.2-q.2)*(x.2.2-q.2):=fx (by omega) (by omega);have:=l ();simp only[fB a7,h0 hd,bT,f' a7 (show cur.length<2^62 by omega),this,o,p,r,s,t,k,gq];unfold yR;cases Eo (x.1=id)<;>cases Eo (x.2.1=q.1)&&Eo (x.2.2=q.2)<;>cases Eo ((x.2.1-q.1)*(x.2.1-q.1)+(x.2.2-q.2)*(x.2.2-q.2)<gap*gap)<;>rfl
structure yL(j7:List nE):Prop where
 len:j7.length<=1000000
 pos:∀g∈j7,lR (pI g)=No/\lR (pC g)=No
def bX6{j7:List nE}(hs:yL j7)(q:bs)(s:lR q=No){gap:Int}(cu:0<=gap)(h1:gap<=64)(K:Option Bool) :
  rounds (α:=Int) (β:=Bool) (λg e=>
   bif (Eo (e<(j7.length:Int)))then(
    a8 (nth j7 e) λd=>
    a8 (yl (d,q,gap)) λh=>
    bif (!(h))then(
    g (aa.wrap (e+(1:Int))))else(
    a8 (qV ((d.1,d.2.1),d.2.2,q)) λj=>
    bif j then(
     Q1 N2)else(
     a8 (yw ((d.1,d.2.1),d.2.2,q)) λk=>
     a8 (wM (k,((aa.wrap (gap*gap)),(1:Int)))) λl=>
     bif (Eo (l<(0:Int)))then(
     Q1 N2)else(
     g (aa.wrap (e+(1:Int)))))))else K) (0:Int)=bif j7.any (pg gap q)then Q1 N2 else K:=by
 have t:aa.wrap (gap*gap)=gap*gap:=by have:=vI (A:=64) (a:=gap) (b:=gap) (by omega) (by omega) (by omega) (by omega);exact fx (by omega) (by omega)
 have hl:=hs.len;refine mP (A:=Unit) j7 (λi _=>(i:Int)) (λ_ rest=>bif rest.any (pg gap q)then Q1 N2 else K) (by omega) ?_ ?_ ();intro rec a;simp only[kj,bu,jg];intro rec i a x rest a7 hd u;have m:x∈j7:=by
  have:x∈j7.drop i:=by rw[hd];simp
  exact ao this
 obtain⟨n,o⟩:=hs.pos x m;obtain⟨f,p,_⟩:=aV7 (rS n) (rS o) (rS s);obtain⟨c,r⟩:=aM7 (f,(gap*gap,1));have v:=ah6 n o q cu (by omega);have w:qV ((x.1,x.2.1),x.2.2,q)=Q1 (mc (pI x) (pC x) q):=FH _ _ _;have z:yw ((x.1,x.2.1),x.2.2,q)=Q1 f:=p;have B:=r;have C:Fk gap q x=c:=by unfold Fk;rw[p];show(wM (f,(gap*gap,1))).getD 0=c;rw[r];rfl
 have:=u ();simp only[fB a7,h0 hd,bT,f' a7 (show j7.length<2^62 by omega),this,v,w,z,B,t,gq];unfold pg;rw[C];cases oJ gap q x<;>cases mc (pI x) (pC x) q<;>cases Eo (c<0)<;>rfl
structure Hf(l1:List oP):Prop where
 len:l1.length<=1000000
 sy:∀o∈l1,o.2.2.length<=1000000
def PE{j7:List nE}{l1:List oP}{cur:List b9}(hs:yL j7)(ho:Hf l1)(hl:cur.length<=1000000)(hp:∀n∈cur,lR (l3 n)=No)(j0:b9)(q:bs){gap:Int}(cu:0<=gap)(h1:gap<=64) :
  xj ((j7,l1),cur,j0,q,gap)=Q1 (qc j7 l1 cur j0.1 (l3 j0) q gap):=by
 unfold xj qc;have b:DH ((-1048576,-1048576,1048576,1048576),q)=Q1 (lR q):=by rw[Ud];unfold lR;simp only[gT]
 simp only[b];cases a:lR q with
 |false=>rfl
 |true=>
  simp only[ b6];refine(bT9 cur hl hp j0.1 q a cu h1 _).trans ?_;cases cur.any (yR (gap*gap) j0.1 q)with
  |true=>rfl
  |false=>
   refine(bX6 hs q a cu h1 _).trans ?_;cases j7.any (pg gap q)with
   |true=>rfl
   |false =>have f1:=RB ho.len ho.sy j7 q;have f2:AS ((j7,l1),j0.2)=Q1 (qo (l3 j0) l1):=RB ho.len ho.sy j7 (l3 j0);simp only[bu,f1,f2,bT]
end
end Dp
namespace Dp
def DU(d y:Int)(j:Nat):List bs:=bif Eo (bK qG ((j:Int)-d) [-((j:Int)-d),y,-y]=d)then [((j:Int)-d,y)]else []
def DV(d:Int)(n:Nat)(i:Nat):List bs:=(aN n).flatMap (DU d ((i:Int)-d))
def DT(k:Nat):List bs:=(aN (2*k+3)).flatMap (DV ((k+1:Nat):Int) (2*k+3))
def qH(n:Nat):List bs:=(aN n).flatMap DT
def aP4(d y:Int)(j:Nat):(DU d y j).length<=1:=by
 unfold DU
 grind
def Jv{α β:Type}{f:α->List β}{c:Nat}(hf:∀x,(f x).length<=c):∀l:List α,(l.flatMap f).length<=c*l.length
 | []=>by simp
 |x::l=>by rw[bA,aS,aC,Nat.mul_add];have:=Jv hf l;have:=hf x;omega
def ar5(d:Int)(n i:Nat):(DV d n i).length<=n:=by
 have:=Jv (aP4 d ((i:Int)-d)) (aN n)
 grind[dO,DV]
theorem NB{n i x:Nat}{rest:List Nat}(h:(aN n).drop i=x::rest):x=i:=by
 have h1:(aN n)[i]?=Q1 x:=by rw[<-lQ];exact h0 h
 grind
def cb6{β:Type}(d:Int)(k i:Nat)(hk:k<64)(a7:i<2*k+3)(hd:d=((k+1:Nat):Int))(acc:List bs)(ha:acc.length<=100000000)(K:Int×List bs->Option β) :
  rounds (α:=Int×List (Int×Int)) (β:=β) (λf b=>
     bif (Eo (b.1<(((2*k+3:Nat):Int))))then(
     a8 (Q1 (aa.wrap (b.1-d))) λc=>
     a8 (Q1 (aa.wrap ((i:Int)-d))) λe=>
     bif (Eo ((bK qG c [(aa.wrap (0-c)),e,(aa.wrap (0-e))])=d))then(
      a8 (j6 16 b.2 [(c,e)]) λg=>
      f ((aa.wrap (b.1+(1:Int))),g))else(
      f ((aa.wrap (b.1+(1:Int))),b.2)))else(K b)) ((0:Int),acc)=K (((2*k+3:Nat):Int),acc++DV d (2*k+3) i):=by
 have h:(aN (2*k+3)).length=2*k+3:=dO;refine(mw (A:=List bs) (aN (2*k+3)) (λi a=>((i:Int),a)) (λa rest=>K (((2*k+3:Nat):Int),a++rest.flatMap (DU d ((i:Int)-d)))) (λj a=>a.length<=100000000+j) (by rw[h];omega) ?_ ?_ acc (by omega)).trans rfl
 grind
 grind[NB,fx,fB,bT,f',m9,DU,bK,qG,bm]
def aE8{β:Type}(d:Int)(k:Nat)(hk:k<64)(hd:d=((k+1:Nat):Int))(acc:List bs)(ha:acc.length<=50000000)(K:List bs×Int->Option β) :
  rounds (α:=List (Int×Int)×Int) (β:=β) (λl c=>
    bif (Eo (c.2<(((2*k+3:Nat):Int))))then(
    rounds (α:=Int×List (Int×Int)) (β:=β) (λg b=>
     bif (Eo (b.1<(((2*k+3:Nat):Int))))then(
     a8 (Q1 (aa.wrap (b.1-d))) λe=>
     a8 (Q1 (aa.wrap (c.2-d))) λf=>
     bif (Eo ((bK qG e [(aa.wrap (0-e)),f,(aa.wrap (0-f))])=d))then(
      a8 (j6 16 b.2 [(e,f)]) λh=>
      g ((aa.wrap (b.1+(1:Int))),h))else(
      g ((aa.wrap (b.1+(1:Int))),b.2)))else(
     l (b.2,(aa.wrap (c.2+(1:Int)))))) ((0:Int),c.1))else(K c)) (acc,(0:Int))=K (acc++DT k,((2*k+3:Nat):Int)):=by
 have n:(aN (2*k+3)).length=2*k+3:=dO;refine(mw (A:=List bs) (aN (2*k+3)) (λi a=>(a,(i:Int))) (λa rest=>K (a++rest.flatMap (DV d (2*k+3)),((2*k+3:Nat):Int))) (λj a=>a.length<=50000000+200*j) (by rw[n];omega) ?_ ?_ acc (by omega)).trans (by subst hd;rfl)
 grind
 intro rec j a x rest hj p m q;have o:=NB m;subst o;rw[n]at hj;simp only[fB hj,b6];refine(cb6 d k x hk hj hd a (by omega) _).trans ?_;have:=ar5 d (2*k+3) x;simp only[f' hj (show 2*k+3<2^62 by omega)]
 grind
def at0(k:Nat)(hk:k<64):(DT k).length<=40000:=by have:=Jv (ar5 ((k+1:Nat):Int) (2*k+3)) (aN (2*k+3));rw[dO]at this;have h2:(2*k+3)*(2*k+3)<=131*131:=gm (by omega) (by omega);unfold DT;omega
def IU{gap:Int}(cu:0<=gap)(h1:gap<=64):wu gap=Q1 (qH gap.toNat,0):=by
 obtain⟨n,rfl⟩:=ga cu;have c:(aN n).length=n:=dO;unfold wu;have c1:Eo ((n:Int)<0)=N2:=ft (by omega);have c2:Eo ((64:Int)<(n:Int))=N2:=ft (by omega);simp only[c1,c2,bu];refine(mw (A:=List bs) (aN n) (λi a=>(a,(i:Int))) (λa rest=>Q1 (a++rest.flatMap DT,0)) (λj a=>a.length<=40000*j) (by rw[c];omega) ?_ ?_ [] (by simp)).trans rfl
 grind
 intro rec j a x rest hj g b h;have d:=NB b;subst d;rw[c]at hj;have e:aa.wrap ((x:Int)+1)=((x+1:Nat):Int):=f' hj (by omega);have f:aa.wrap (aa.wrap (2*((x+1:Nat):Int))+1)=((2*x+3:Nat):Int):=by grind[fx]
 simp only[fB hj,b6,e,bT,f];refine(aE8 _ x (by omega) rfl a (by omega) _).trans ?_;have:=at0 x (by omega)
 grind
def We{gap:Int}(h:¬(0<=gap/\gap<=64)):wu gap=Q1 ([],2):=by
 unfold wu
 grind
def ax3{n:Nat}{o:bs}(h:o∈qH n):-(n:Int)<=o.1/\o.1<=n/\-(n:Int)<=o.2/\o.2<=n:=by grind[qH,DT,DV,DU,bK,qG,bL]
end Dp
set_option maxRecDepth 10000
namespace Dp
def aN8{β:Type}(cur:List b9)(hl:cur.length<=1000000)(id:Int)(i0:Nat)(j0:b9)(a7:cur[i0]?=Q1 j0)(hid:j0.1=id)(f:∀j m,j<i0->cur[j]?=Q1 m->m.1≠id)(K:Int->Option β)(N:Option β) :
  rounds (α:=Int) (β:=β) (λc a=>
      bif (Eo (a<(cur.length:Int)))then(
       a8 ((bif Eo (0<=a)&&Eo (a<(cur.length:Int))then Q1 ()else Ld)) λ_=>
       a8 ((cur[(a).toNat]?).map (λx=>x)) λb=>
       bif (Eo (b.1=id))then(K a)else(
       c (aa.wrap (a+(1:Int)))))else N) (0:Int)=K (i0:Int):=by
 have g:i0<cur.length:=by grind
 refine(Fq (λx:Int=>∃i:Nat,x=i/\i<=i0) (λx=>(i0-x.toNat)) (λ_=>K (i0:Int)) ?_ ⟨0,rfl,by omega⟩ ?_);rintro rec x ⟨i,rfl,hle⟩ h;have h1:i<cur.length:=by omega
 have k:Eo (0<=(i:Int))=No:=hT (by omega);have d:cur[i]?=Q1 (cur[i]'h1):=af h1;simp only[fB h1,b6,k,bw,bT,aW,d,ai];by_cases e:i=i0
 grind
 have:=f i _ (by omega) d;rw[ft this,bu,f' h1 (by omega)];exact h _ ⟨i+1,rfl,by omega⟩ (by grind)
 grind
def bY2{β:Type}{j7:List nE}(hs:yL j7)(p:bs){gap:Int}(cu:0<=gap)(h1:gap<=64)(K:Int×List nE->Option β) :
  rounds (α:=Int×List (Int×Int×Int×Int)) (β:=β) (λd b=>
        bif (Eo (b.1<(j7.length:Int)))then(
        a8 (nth j7 b.1) λc=>
        a8 (yl (c,p,(aa.wrap ((2:Int)*gap)))) λe=>
        bif e then(
         a8 (j6 32 b.2 [c]) λf=>
         d ((aa.wrap (b.1+(1:Int))),f))else(
         d ((aa.wrap (b.1+(1:Int))),b.2)))else(K b)) ((0:Int),[])=K ((j7.length:Int),j7.filter (oJ (2*gap) p)):=by
 have hl:=hs.len;refine(mw (A:=List nE) j7 (λi a=>((i:Int),a)) (λa rest=>K ((j7.length:Int),a++rest.filter (oJ (2*gap) p))) (λi a=>a.length<=i) (by omega) ?_ ?_ [] (by simp)).trans (by simp)
 grind
 intro rec i a x rest a7 m hd n;have g:x∈j7:=by grind[ao]
 obtain⟨h,j⟩:=hs.pos x g;have k:aa.wrap (2*gap)=2*gap:=fx (by omega) (by omega);have l:yl (x,p,2*gap)=Q1 (oJ (2*gap) p x):=ah6 h j p (by omega) (by omega);simp only[fB a7,b6,h0 hd,bT,f' a7 (show j7.length<2^62 by omega),k,l,bV]
 grind[oJ,m9,bT]
def aK1{β:Type}{j7:List nE}{l1:List oP}{cur:List b9}(hs:yL j7)(ho:Hf l1)(hl:cur.length<=1000000)(hp:∀n∈cur,lR (l3 n)=No)(j0:b9)(e:lR (l3 j0)=No){gap:Int}(cu:0<=gap)(h1:gap<=64)
  (offs:List bs) (j:∀o∈offs,-64<=o.1/\o.1<=64/\-64<=o.2/\o.2<=64) (f:offs.length<2^62) (Y:bs->Option β) (N:Option β) :
  rounds (α:=Int) (β:=β) (λg c=>
         bif (Eo (c<(offs.length:Int)))then(
          a8 (nth offs c) λb=>
          a8 (xj ((j7,l1),cur,j0,(aa.wrap (j0.2.1+b.1),aa.wrap (j0.2.2+b.2)),gap)) λd=>
          bif d then(Y b)else(
          g (aa.wrap (c+(1:Int)))))else N) (0:Int) =
   match offs.find? (λo=>qc j7 l1 cur j0.1 (l3 j0) (j0.2.1+o.1,j0.2.2+o.2) gap)with
   |some o=>Y o
   |none=>N:=by
 refine mP (A:=Unit) offs (λi _=>(i:Int)) (λ_ rest=>match rest.find? (λo=>qc j7 l1 cur j0.1 (l3 j0) (j0.2.1+o.1,j0.2.2+o.2) gap)with
   |some o=>Y o
   |none=>N) (by omega) ?_ ?_ ()
 grind
 intro rec i a x rest a7 hd k;have h:x∈offs:=by grind[ao]
 have r:=j x h;have l:=Dx.1 e;simp only[l3]at l;have m:aa.wrap (j0.2.1+x.1)=j0.2.1+x.1:=fx (by omega) (by omega);have p:aa.wrap (j0.2.2+x.2)=j0.2.2+x.2:=fx (by omega) (by omega);have q:xj ((j7,l1),cur,j0,(j0.2.1+x.1,j0.2.2+x.2),gap)=Q1 (qc j7 l1 cur j0.1 (l3 j0) (j0.2.1+x.1,j0.2.2+x.2) gap):=PE hs ho hl hp j0 _ cu h1;have:=k ();simp only[fB a7,b6,h0 hd,bT,m,p,q,f' a7 f,this,da]
 grind
noncomputable def vh(j7:List nE)(l1:List oP)(offs:List bs)(gap:Int)(cur:List b9)(n:b9):Option bs :=bif qc (j7.filter (oJ (2*gap) (l3 n))) l1 cur n.1 (l3 n) (l3 n) gap then Ld else(offs.find? (λo=>qc (j7.filter (oJ (2*gap) (l3 n))) l1 cur n.1 (l3 n) (n.2.1+o.1,n.2.2+o.2) gap)).map λo=>(n.2.1+o.1,n.2.2+o.2)
def Ri:∀ {cur:List b9} {i:Nat} {j0:b9} (p:bs),cur[i]?=Q1 j0->(cur.map (·.1)).Nodup->cur.set i (j0.1,p.1,p.2)=put cur j0.1 p
 | [],_,_,_,h,_=>by simp at h
 |x::cur,0,j0,p,h,a=>by simp only[bE,ah]at h;subst h;rw[au,cS]at a;simp only[List.set_cons_zero,put,au,me,cN,qj];have:cur.map (λn=>if n.1=x.1 then(x.1,p.1,p.2)else n)=cur.map id:=bY λy c=>cc λe=>a.1 (by rw[<-e];exact aK c);rw[this,List.map_id]
 |x::cur,i+1,j0,p,h,a=>by rw[aF]at h;rw[au,cS]at a;have b:x.1≠j0.1:=λe=>a.1 (by rw[e];exact aK (aH h));simp only[jT,put,au,cc b];exact lU _ (Ri p h a.2)
end Dp
namespace Dp
def yL.filter{j7:List nE}(hs:yL j7)(P:nE->Bool):yL (j7.filter P) :=⟨bz (bn _ _) hs.len,λg a=>hs.pos g (aU.1 a).1⟩
def aC7{β:Type}{j7:List nE}{l1:List oP}{cur:List b9}(hs:yL j7)(ho:Hf l1)(hl:cur.length<=1000000)(hp:∀n∈cur,lR (l3 n)=No)(q:(cur.map (·.1)).Nodup)(j0:b9)(b:j0∈cur){gap:Int}(cu:0<=gap)(h1:gap<=64)
  (offs:List bs) (i:∀o∈offs,-64<=o.1/\o.1<=64/\-64<=o.2/\o.2<=64) (f:offs.length<2^62) (k:Option β) (l:List b9->Option β) (N:Option β) :
  G_ j7 l1 cur j0.1 offs gap k l N =
   match vh j7 l1 offs gap cur j0 with
   |some p=>l (put cur j0.1 p)
   |none=>k:=by
 unfold G_;obtain⟨i0,g,a7⟩:=aT b;have a:cur[i0]?=Q1 j0:=by grind
 refine(aN8 cur hl j0.1 i0 j0 a rfl (λj m hj hm e=>?_) _ N).trans ?_;have r:j<cur.length:=by omega
 have v:(cur.map (·.1))[j]?=Q1 j0.1:=by grind
 have w:(cur.map (·.1))[i0]?=Q1 j0.1:=by rw[aO,a];rfl
 grind[List.getElem?_inj]
 have s:Eo (0<=(i0:Int))=No:=hT (by omega);simp only[fB g,s,bw,b6,bT,aW,a,ai];refine(bY2 hs (l3 j0) cu h1 _).trans ?_;have c:=hs.filter (oJ (2*gap) (l3 j0));have d:=hp j0 b;have t:xj ((j7.filter (oJ (2*gap) (l3 j0)),l1),cur,j0,j0.2,gap)=Q1 (qc (j7.filter (oJ (2*gap) (l3 j0))) l1 cur j0.1 (l3 j0) (l3 j0) gap):=PE c ho hl hp j0 (l3 j0) cu h1;simp only[t,bT];unfold vh;cases qc (j7.filter (oJ (2*gap) (l3 j0))) l1 cur j0.1 (l3 j0) (l3 j0) gap with
 |true=>rfl
 |false=>
  rw[bu,bu];refine(aK1 c ho hl hp j0 d cu h1 offs i f _ _).trans ?_;cases h:offs.find? (λo=>qc (j7.filter (oJ (2*gap) (l3 j0))) l1 cur j0.1 (l3 j0) (j0.2.1+o.1,j0.2.2+o.2) gap)with
  |none=>rfl
  |some o=>
   have z:=i o (aX h);have u:=Dx.1 d;simp only[l3]at u;have B:aa.wrap (j0.2.1+o.1)=j0.2.1+o.1:=fx (by omega) (by omega);have C:aa.wrap (j0.2.2+o.2)=j0.2.2+o.2:=fx (by omega) (by omega);have es:qI cur i0 (λx y=>(x.1,y.1,y.2)) (j0.2.1+o.1,j0.2.2+o.2)=Q1 (put cur j0.1 (j0.2.1+o.1,j0.2.2+o.2)):=by unfold qI;rw[a];exact lU Q1 (Ri _ a q)
   grind[bT]
def af4{β:Type}(ag:List ct)(hl:ag.length<=1000000)(hv:∀a∈ag,a.2.2.2.1.length<=900000)(K:Int×List ct->Option β) :
  rounds (α:=Int×List (Int×Int×Int×List (Int×Int)×Int×Int)) (β:=β) (λf c=>
   bif (Eo (c.1<(ag.length:Int)))then(
   a8 (nth ag c.1) λb=>
   a8 (vo b.2.2.2.1) λd=>
   a8 (j6 64 c.2 [(b.1,b.2.1,b.2.2.1,d,b.2.2.2.2.1,b.2.2.2.2.2)]) λe=>
   f ((aa.wrap (c.1+(1:Int))),e))else(K c)) ((0:Int),[])=K ((ag.length:Int),ag):=by
 refine(mw (A:=List ct) ag (λi a=>((i:Int),a)) (λa rest=>K ((ag.length:Int),a++rest)) (λi a=>a.length<=i) (by omega) ?_ ?_ [] (by simp)).trans (by simp)
 grind
 intro rec i a x rest a7 j hd k;have g:x∈ag:=by grind[ao]
 have:=hv x g;have h:vo x.2.2.2.1=Q1 x.2.2.2.1:=by grind[vo,m9]
 simp only[fB a7,b6,h0 hd,bT,h,f' a7 (show ag.length<2^62 by omega)]
 grind[m9,bT]
def Xh{β:Type}(l:List mf)(hl:l.length<=1000000)(hv:∀f∈l,f.2.2.2.2.length<=900000)(K:Int×List mf->Option β) :
  rounds (α:=Int×List (Int×Int×Int×ByteArray×List (Int))) (β:=β) (λg c=>
    bif (Eo (c.1<(l.length:Int)))then(
    a8 (nth l c.1) λb=>
    a8 (xp b.2.2.2.2) λd=>
    a8 (j6 64 c.2 [(b.1,b.2.1,b.2.2.1,b.2.2.2.1,d)]) λe=>
    g ((aa.wrap (c.1+(1:Int))),e))else(K c)) ((0:Int),[])=K ((l.length:Int),l):=by
 refine(mw (A:=List mf) l (λi a=>((i:Int),a)) (λa rest=>K ((l.length:Int),a++rest)) (λi a=>a.length<=i) (by omega) ?_ ?_ [] (by simp)).trans (by simp)
 grind
 intro rec i a x rest a7 k hd m;have h:x∈l:=by grind[ao]
 have:=hv x h;have j:xp x.2.2.2.2=Q1 x.2.2.2.2:=by grind[xp,m9]
 simp only[fB a7,b6,h0 hd,bT,j,f' a7 (show l.length<2^62 by omega)]
 grind[m9,bT]
end Dp
namespace Dp
structure RF(al:List b9)(ag:List ct)(fs:List Int)(l:List mf):Prop where
 pl:fp al ag fs
 wR:(oH ag fs.length No (nP al ag) [] []).2=No
 len:l.length<=128
 parts:∀f∈l,f.2.2.2.2.length<=64
def so{c:Bool}{a b:Int}(ha:a≠0)(h:(bif c then a else b)=0):c=N2/\b=0:=by grind
def vX{al:List b9}{ag:List ct}{fs:List Int}{l:List mf}(cu:pD al ag fs l=0):RF al ag fs l:=by
 unfold pD at cu;have a:tH al ag fs=0:=by grind
 rw[a]at cu;simp only[l6,aw,bu]at cu;unfold tH at a;by_cases hc:tJ al ag fs=0;rw[hc]at a;simp only[l6,b6]at a;obtain⟨h1,cu⟩:=so (by decide) cu;obtain⟨h2,cu⟩:=so (by decide) cu;refine⟨De.1 hc,?_,by grind,λf hf=>?_⟩;unfold nP
 grind
 have:=cB.1 h2 f hf;simp[mJ]at this;omega;simp[hc]at a
def WN:∀ {l:List bs} {p:bs} {g:nE},g∈uz p l->pI g∈p::l/\pC g∈p::l
 | [],_,_,h=>by simp[uz]at h
 |b::l,p,g,h=>by
  rcases aD.1 h with rfl|h
  exact⟨by simp[pI],by simp[pC]⟩;have:=WN h;exact⟨bf _ this.1,bf _ this.2⟩
section
variable {al:List b9} {ag:List ct} {fs:List Int} (h:fp al ag fs)
include h
theorem Qn:yL (pz al ag ag):=by
 constructor;have key:∀l:List ct,(∀a∈l,a∈ag)->(pz al ag l).length<=66*l.length:=by
  intro l
  induction l with
  |nil=>intro _;simp[pz]
  |cons a l f=>
   intro hl;have:=f λb i=>hl b (by simp[i]);obtain⟨p,q,_,d,hlen⟩:=FW h (hl a (by simp));unfold pz at *;have e:(Em (p::q)).length=q.length:=NJ q p
   grind
 have:=key ag λ_ h=>h;have:=h.pA;omega;intro g c;obtain⟨a,ha,c⟩:=dg.1 c;obtain⟨p,q,hp,d,_⟩:=FW h ha;rw[d]at c;have hm:=WN (show g∈uz p q from c);exact⟨h.D0 ha hp _ hm.1,h.D0 ha hp _ hm.2⟩
theorem Lj(hf:(oH ag fs.length No (nP al ag) [] []).2=No):Hf (qd al ag fs):=by
 have hp:(qd al ag fs).Perm (vw al ag (xW al ag fs)):=tG (Iz _);have hz:=QH h hf;obtain⟨_,hlen⟩:=h.Ih;have g:(xW al ag fs).Perm (uY (tT al ag fs) (nP al ag)):=tG (IA _);have b:(nP al ag).length<=1000000:=hlen;obtain⟨g1,_,_⟩:=NX h ag [] (λ_ h=>h) (λk p hk=>by simp[fh]at hk);constructor;rw[hp.length_eq];unfold vw;rw[aI];refine bz (bn _ _) ?_;rw[g.length_eq,hz];exact b;intro o ho;obtain⟨r,l,rfl⟩:=aM.1 (hp.mem_iff.1 ho);have l:=g.mem_iff.1 (aU.1 l).1;unfold uY at l;obtain⟨i,a7,e⟩:=aT l;rw[jr]at e;subst e;have m:i<(nP al ag).length:=by grind
 have j:=ao0 (a:=(nP al ag)[i]) (ay m);simp only;have n:(nP al ag)[i].2.1.length<=512:=by
  rcases j with e|e
  rw[e];simp;exact(h.wK.od _ e).2.1
 have:=Jv (f:=λd=>((fh gd d (pM al ag ag [])).getD []).dropLast) (c:=66) (λd=>by
  cases hd:fh gd d (pM al ag ag [])with
  |none=>simp
  |some p=>have:=(g1 d p hd).2;simp;omega) (nP al ag)[i].2.1
 unfold vn;omega
theorem I_:(al.map (·.1)).Nodup:=lk (λh=>by omega) (pq h.vL)
end
noncomputable def Cv(id:Int)(f:mf):Bool:=Eo (om f.2.1=1)&&Eo (id∈f.2.2.2.2)
def aQ2{l:List mf}(hl:l.length<=1000000)(hv:∀f∈l,f.2.2.2.2.length<=900000)(al:List b9)(ag:List ct)(fs:List Int)(id:Int):Ix ((al,ag,fs,l),1,id)=Q1 ((l.filter (Cv id)).map (·.1)):=by
 unfold Ix;simp only[show Eo ((1:Int)<1)=N2 from rfl,show Eo ((3:Int)<1)=N2 from rfl,bu];refine(mw (A:=List Int) l (λi a=>((i:Int),a)) (λa rest=>Q1 (a++(rest.filter (Cv id)).map (·.1))) (λi a=>a.length<=i) (by omega) ?_ ?_ [] (by simp)).trans (by simp)
 grind
 intro rec i a x rest a7 c hd d;have b:x∈l:=by grind[ao]
 have:=hv x b;simp only[fB a7,b6,h0 hd,bT,BH,HC _ _ (show x.2.2.2.2.length<2^62 by omega),f' a7 (show l.length<2^62 by omega),bV]
 grind[j6,m9,bT,Cv,om]
noncomputable def vq(ag:List ct)(l:List mf)(id:Int):Bool:=Eo (na ag id=0)&&l.any (Cv id)
def Nw{l:List mf}(hl:l.length<=1000000)(hv:∀f∈l,f.2.2.2.2.length<=900000)(al:List b9)(ag:List ct)(ha:ag.length<=1000000)(fs:List Int)(id:Int):E2 ((al,ag,fs,l),id)=Q1 (vq ag l id):=by
 unfold E2 vq;simp only[MR al ag fs id ha,bT,aQ2 hl hv];have a:Eo (((na ag id:Nat):Int)=0)=Eo (na ag id=0):=by grind
 rw[a];cases Eo (na ag id=0)with
 |false=>rfl
 |true=>
  simp only[b6,cZ,ah,aI];cases b:l.any (Cv id)with
  |true =>obtain⟨f,hf,hu⟩:=List.any_eq_true.1 b;have:0<(l.filter (Cv id)).length:=List.length_pos_of_mem (aU.2 ⟨hf,hu⟩);exact hT (by omega)
  |false=>grind[Cv,List.filter_eq_nil_iff,cB]
end Dp
namespace Dp
section
variable (j7:List nE) (l1:List oP) (offs:List bs) (gap:Int) (o_:Int->Bool)
noncomputable def Et(cur:List b9)(n:b9):List b9:=match vh j7 l1 offs gap cur n with
 |some p=>put cur n.1 p
 |none=>cur
noncomputable def yN:List b9->List b9->List b9
 | [],cur=>cur
 |n::r,cur=>yN r (bif o_ n.1 then Et j7 l1 offs gap cur n else cur)
end
def OB{j7:List nE}{l1:List oP}{offs:List bs}{gap:Int}{cur:List b9}{n:b9}{p:bs}(h:vh j7 l1 offs gap cur n=Q1 p):qc (j7.filter (oJ (2*gap) (l3 n))) l1 cur n.1 (l3 n) p gap=No/\qc (j7.filter (oJ (2*gap) (l3 n))) l1 cur n.1 (l3 n) (l3 n) gap=N2/\∃o∈offs,p=(n.2.1+o.1,n.2.2+o.2):=by
 unfold vh at h;cases hf:qc (j7.filter (oJ (2*gap) (l3 n))) l1 cur n.1 (l3 n) (l3 n) gap with
 |true=>rw[hf]at h;simp at h
 |false =>rw[hf,bu]at h;obtain⟨o,ho,rfl⟩:=Option.map_eq_some_iff.1 h;have h2:=db ho;exact⟨h2,rfl,o,aX ho,rfl⟩
def cc8{j7:List nE}{l1:List oP}{cur:List b9}{id:Int}{p0 p:bs}{gap:Int}(h:qc j7 l1 cur id p0 p gap=No):lR p=No:=by
 unfold qc at h;cases hp:lR p with
 |true=>rfl
 |false=>rw[hp]at h;simp at h
structure Ep(al cur:List b9):Prop where
 ids:cur.map (·.1)=al.map (·.1)
 pos:∀m∈cur,lR (l3 m)=No
theorem Ep.put{al cur:List b9}(h:Ep al cur)(id:Int){p:bs}(hp:lR p=No):Ep al (put cur id p) :=
 ⟨(Rc _ _ _).trans h.ids,λm hm=>by
  rcases yF hm with⟨hm,_⟩|rfl
  exact h.pos m hm;exact hp⟩
section
variable {al:List b9} {ag:List ct} {fs:List Int} {l:List mf} (h:RF al ag fs l)
include h
theorem T6:EH al=Q1 al:=by have:=h.pl.qF;unfold EH;rw[m9 (by omega) (by simp;omega)];rfl
theorem Th:xp fs=Q1 fs:=by have:=h.pl.wX;unfold xp;rw[m9 (by omega) (by simp;omega)];rfl
theorem LQ:Ep al al:=⟨rfl,λm hm=>h.pl.tt hm⟩
theorem Rf{gap:Int}(cu:0<=gap)(h1:gap<=64):(∀o∈qH gap.toNat,-64<=o.1/\o.1<=64/\-64<=o.2/\o.2<=64)/\(qH gap.toNat).length<2^62:=by
 refine⟨λo ho=>by have:=ax3 ho;omega,?_⟩;have a:gap.toNat<=64:=by omega
 have key:∀n,n<=64->(qH n).length<=40000*n:=by
  intro n
  induction n with
  |zero=> simp[qH]
  |succ n b =>intro a;have:=at0 n (by omega);unfold qH at *;rw[dH,List.flatMap_append,aS,bA,dz,bD];omega
 have:=key _ a;omega
theorem bO7(cu:pD al ag fs l=0){gap:Int}(g0:0<=gap)(g1:gap<=64) :
  Ba ((al,ag,fs,l),gap)=Q1 ((yN (pz al ag ag) (qd al ag fs) (qH gap.toNat) gap (vq ag l) al al,ag,fs,l),0):=by
 have t:=h.pl.pA;have u:=h.pl.qF;have v:=h.len;obtain⟨tu,ol⟩:=Rf h g0 g1;have hv:∀f∈l,f.2.2.2.2.length<=900000:=λf hf=>by have:=h.parts f hf;omega
 have n:xr (al,ag,fs,l)=Q1 0:=by rw[E1,cu]
 unfold Ba;simp only[n,IU g0 g1,T6 h];refine(af4 ag (by omega) (λa ha=>by have:=h.pl.q4 ha;omega) _).trans ?_;simp only[Th h];refine(Xh l (by omega) hv _).trans ?_;simp only[MX h.pl h.wR];have hs:=Qn h.pl;have ho:=Lj h.pl h.wR;have j:=I_ h.pl;generalize pz al ag ag=j7 at hs⊢;generalize qd al ag fs=l1 at ho⊢;generalize qH gap.toNat=offs at tu ol⊢;refine(mw (A:=List b9) al (λi a=>((i:Int),a)) (λa rest=>Q1 ((yN j7 l1 offs gap (vq ag l) rest a,ag,fs,l),0)) (λi a=>Ep al a/\∀m∈al.drop i,m∈a) (by omega) ?_ ?_ al ⟨LQ h,λm hm=>by simpa using hm⟩).trans rfl;intro rec a d;simp only[kj,bu,yN];intro rec i a x rest a7 d hd o;obtain⟨d,k⟩:=d;have q:=k x (by rw[hd];simp);have b:al.drop (i+1)=rest:=by have:=lU kp hd;simpa using this
 have w:a.length=al.length:=by have:=lU eP d.ids;simpa using this
 have r:(a.map (·.1)).Nodup:=by rw[d.ids];exact j
 have s:∀m∈rest,m.1≠x.1:=λm hm e=>by
  have g:((x::rest).map (·.1)).Nodup:=by rw[<-hd,List.map_drop];exact j.sublist (List.drop_sublist _ _)
  rw[au,cS]at g;exact g.1 (by rw[<-e];exact aK hm)
 have c:∀m∈rest,m∈a:=λm hm=>k m (by rw[hd];simp[hm]);simp only[fB a7,h0 hd,bT,f' a7 (show al.length<2^62 by omega),Nw (show l.length<=1000000 by omega) hv al ag (by omega) fs,yN];cases hm:vq ag l x.1 with
 |false =>exact o a ⟨d,λm hm=>c m (by rw[<-b];exact hm)⟩
 |true=>
  refine(aC7 hs ho (by omega) d.pos r x q g0 g1 offs tu ol _ _ _).trans ?_;unfold Et;cases z:vh j7 l1 offs gap a x with
  |none=>exact o a ⟨d,λm hm=>c m (by rw[<-b];exact hm)⟩
  |some p =>refine o (put a x.1 p) ⟨d.put _ (cc8 (OB z).1),λm hm=>?_⟩;rw[b]at hm;exact PB (c m hm) (s m hm)
theorem ba5(cu:pD al ag fs l=0){gap:Int}(g0:0<=gap)(g1:gap<=64){n:b9}(c:n∈al)(hm:vq ag l n.1=No) :
  vz ((al,ag,fs,l),n.1,gap)=Q1 (match vh (pz al ag ag) (qd al ag fs) (qH gap.toNat) gap al n with|some p=>((put al n.1 p,ag,fs,l),No,0)|none=>((al,ag,fs,l),N2,0)):=by
 have d:=h.pl.pA;have e:=h.pl.qF;have g:=h.len;obtain⟨tu,ol⟩:=Rf h g0 g1;have hv:∀f∈l,f.2.2.2.2.length<=900000:=λf hf=>by have:=h.parts f hf;omega
 have b:xr (al,ag,fs,l)=Q1 0:=by rw[E1,cu]
 unfold vz;simp only[b,IU g0 g1,h.pl.Hw,h.pl.vm c,T6 h,Nw (show l.length<=1000000 by omega) hv al ag (by omega) fs,hm];refine(af4 ag (by omega) (λa ha=>by have:=h.pl.q4 ha;omega) _).trans ?_;simp only[Th h];refine(Xh l (by omega) hv _).trans ?_;simp only[MX h.pl h.wR];refine(aC7 (Qn h.pl) (Lj h.pl h.wR) (by omega) (LQ h).pos (I_ h.pl) n c g0 g1 (qH gap.toNat) tu ol _ _ _).trans ?_;cases vh (pz al ag ag) (qd al ag fs) (qH gap.toNat) gap al n<;>rfl
theorem aM6(cu:pD al ag fs l=0){gap:Int}(g0:0<=gap)(g1:gap<=64){n:b9}(b:n∈al)(hm:vq ag l n.1=N2) :
  ∃s,vz ((al,ag,fs,l),n.1,gap)=Q1 (s,N2,13):=by
 have c:=h.pl.pA;have d:=h.len;have hv:∀f∈l,f.2.2.2.2.length<=900000:=λf hf=>by have:=h.parts f hf;omega
 have a:xr (al,ag,fs,l)=Q1 0:=by rw[E1,cu]
 unfold vz;simp only[a,IU g0 g1,h.pl.Hw,h.pl.vm b,Nw (show l.length<=1000000 by omega) hv al ag (by omega) fs,hm];exact⟨_,rfl⟩
theorem aR8(cu:pD al ag fs l=0){gap:Int}(g0:0<=gap)(g1:gap<=64)(id:Int)(p:bs) :
  zx ((al,ag,fs,l),id,p,gap)=Q1 (match nQ al id with|some n=>bif Eo (0<na ag id)then N2 else qc (pz al ag ag) (qd al ag fs) al n.1 (l3 n) p gap|none=>N2):=by
 have b:=h.pl.pA;have c:=h.pl.qF;have a:xr (al,ag,fs,l)=Q1 0:=by rw[E1,cu]
 have c1:Eo (gap<0)=N2:=ft (by omega);have c2:Eo (64<gap)=N2:=ft (by omega);unfold zx;simp only[a,c1,c2,h.pl.Hw];cases d:nQ al id with
 |none=>rfl
 |some n=>
  have f:Eo ((0:Int)<((na ag id:Nat):Int))=Eo (0<na ag id):=by by_cases e:0<na ag id<;>simp
  have g:=PE (Qn h.pl) (Lj h.pl h.wR) (by omega) (LQ h).pos n p g0 g1;simp only[ MR al ag fs id (show ag.length<=1000000 by omega),bT,f,MX h.pl h.wR,g];cases Eo (0<na ag id)<;>rfl
end
theorem bH6{al:List b9}{ag:List ct}{fs:List Int}{l:List mf}{gap:Int}(h:pD al ag fs l≠0\/¬(0<=gap/\gap<=64)):∃s e,Ba ((al,ag,fs,l),gap)=Q1 (s,e)/\e≠0:=by unfold Ba;simp only[E1,bT];by_cases cu:pD al ag fs l=0;have a:=h.resolve_left (λc=>c cu);simp only[cu,We a];exact⟨_,_,rfl,by decide⟩;simp only[ft cu];exact⟨_,_,rfl,cu⟩
end Dp
namespace Dp
theorem bX8{j7:List nE}{gap:Int}{p q:bs}(h1:p.1-gap<=q.1)(h2:q.1<=p.1+gap)(a:p.2-gap<=q.2)(b:q.2<=p.2+gap):(j7.filter (oJ (2*gap) p)).any (pg gap q)=j7.any (pg gap q):=by grind[List.any_filter,pg,oJ]
def Xe{j7:List nE}{l1:List oP}{cur:List b9}{id gap:Int}{p q:bs}(h1:p.1-gap<=q.1)(h2:q.1<=p.1+gap)(a:p.2-gap<=q.2)(b:q.2<=p.2+gap):qc (j7.filter (oJ (2*gap) p)) l1 cur id p q gap=qc j7 l1 cur id p q gap:=by grind[qc,bX8]
theorem bZ9{g2 id:Int}{q:bs}{n:b9}:yR g2 id q n=N2↔(n.1≠id->zZ g2 (l3 n) q):=by
 unfold yR zZ l3
 grind
def O2{j7:List nE}{l1:List oP}{cur:List b9}{id gap:Int}{p q:bs}:qc j7 l1 cur id p q gap=No↔fits (gap*gap) (λq=>j7.any (pg gap q)=N2) (λq=>qo q l1) cur id p q:=by grind[qc,fits,lR,yR,zZ,cB,bZ9,aG,pg,qo]
def as5{al:List b9}{m:List (Int×bs)}:∀ {l:List fy},tV al m l=No->∀s∈l,al.all (p6 s)=No
 | [],_,s,hs=>by simp at hs
 |x::l,h,s,hs=>by
  simp only[tV,ab]at h;rcases aD.1 hs with rfl|hs
  exact h.2.1;exact as5 h.2.2 s hs
def aD3:∀(pre l:List b9),sC pre l=N2->(∀c∈pre,∀d∈l,l3 c≠l3 d)/\l.Pairwise (λc d=>l3 c≠l3 d)
 |_,[],_=>⟨by simp,.nil⟩
 |pre,n::l,h=>by
  unfold sC at h;rw[cE]at h;obtain⟨i1,i2⟩:=aD3 (pre++[n]) l h.2;refine⟨λc hc d hd=>?_,aR.2 ⟨λd hd=>i1 n (by simp) d hd,i2⟩⟩;rcases aD.1 hd with rfl|hd
  have:=cB.1 h.1 c hc;unfold GH at this;intro e;apply this;rw[pt];exact e.symm;exact i1 c (by simp[hc]) d hd
def Xn:∀ {l:List bs} {p a b:bs} {i:Nat},(p::l)[i]?=Q1 a->(p::l)[i+1]?=Q1 b->(a.1,a.2,b.1,b.2)∈uz p l
 | [],_,_,_,i,_,h=>by simp at h
 |x::l,p,a,b,0,h1,h2=>by simp only[bE,aF,ah]at h1 h2;subst h1;subst h2;simp[uz]
 |x::l,p,a,b,i+1,h1,h2=>by rw[aF]at h1 h2;exact bf _ (Xn h1 h2)
section
variable {al:List b9} {ag:List ct} {fs:List Int} (h:fp al ag fs)
include h
theorem q_{r:List fy}(f:my al ag ag=Q1 r){s:fy}(hs:s∈r):∃g∈pz al ag ag,pI g=hi s/\pC g=gl s:=by obtain⟨a,ha,p,hp,hm⟩:=Bt f s hs;obtain⟨i,a7,rfl⟩:=xw hm;obtain⟨p0,q,b,j,_⟩:=FW h ha;rw[hp]at b;have e:=aQ b;subst e;have c:(p0::q)[i]?=Q1 ((p0::q)[i]'(by omega)):=af _;have d:(p0::q)[i+1]?=Q1 ((p0::q)[i+1]'a7):=af _;refine⟨_,dg.2 ⟨a,ha,by rw[j];exact Xn c d⟩,?_,?_⟩;show _=((p0::q)[(i:Int).toNat]?).getD (0,0);rw[aW,c];rfl;show _=((p0::q)[(i:Int).toNat+1]?).getD (0,0);rw[aW,d];rfl
theorem aw0{r:List fy}(b:my al ag ag=Q1 r){s:fy}(hs:s∈r){n:b9}(c:n∈al)(hd:na ag n.1=0):mc (hi s) (gl s) n.2=N2:=by
 have hp:=h.lV;unfold u_ at hp;rw[b]at hp;have hm:s∈oy p2 r:=(tG (vA r)).mem_iff.2 hs;have hf:=aj.1 (as5 hp s hm) n c;obtain⟨a,ha,p,_,hm⟩:=Bt b s hs;obtain⟨i,_,rfl⟩:=xw hm;have d:=DG ha
 grind[p6,mF,decide_false,cT]
theorem R7:∀c∈al,∀d∈al,c.1≠d.1->l3 c≠l3 d:=by
 have hc:=h.conn;unfold vP at hc;have hd:sC [] al=N2:=by
  cases i:sC [] al with
  |false=>rfl
  |true=>rw[i]at hc;simp at hc
 have hp:=(aD3 [] al hd).2;intro c hc d hd f;have key:∀ {l:List b9},l.Pairwise (λc d=>l3 c≠l3 d)->c∈l->d∈l->c≠d->l3 c≠l3 d:=by
  intro l hl a b g
  induction l with
  |nil=>simp at a
  |cons x l j=>
   rw[aR]at hl;rcases aD.1 a with rfl|a<;>rcases aD.1 b with rfl|b
   exact(g rfl).elim;exact hl.1 d b;exact λe=>hl.1 c (by assumption) e.symm;exact j hl.2 a b
 exact key hp hc hd (λe=>f (by rw[e]))
end
def as1{j7:List nE}{l1:List oP}{offs:List bs}{gap:Int}{o_:Int->Bool}(b:∀o∈offs,-gap<=o.1/\o.1<=gap/\-gap<=o.2/\o.2<=gap)(c:0<=gap):∀(l cur:List b9),
  Mi (gap*gap) (λq=>j7.any (pg gap q)=N2) (λq=>qo q l1) (λn=>o_ n.1) l cur (yN j7 l1 offs gap o_ l cur)
 | [],cur=>rfl
 |n::l,cur=>by
  refine⟨bif o_ n.1 then Et j7 l1 offs gap cur n else cur,?_,as1 b c l _⟩;cases hm:o_ n.1 with
  |false=>rw[cc (by simp[hm])];rfl
  |true=>
   rw[cr hm,b6];unfold Et;cases a:vh j7 l1 offs gap cur n with
   |none=>exact br rfl
   |some p =>obtain⟨h1,h2,o,ho,rfl⟩:=OB a;have d:=b o ho;refine bk ⟨λhf=>?_,_,?_,rfl⟩;have:=O2.2 hf;rw[Xe (by omega) (by omega) (by omega) (by omega)]at h2;rw[this]at h2;cases h2;refine O2.1 ?_;rw[Xe (by simp only[l3];omega) (by simp only[l3];omega) (by simp only[l3];omega) (by simp only[l3];omega)]at h1;exact h1
end Dp
end Go.Ab
namespace Go.Pg
abbrev qT:=Int×Int
def eb{α:Type}:List α->(α->Int)->Int
 | [],_=>0
 |a::l,f=>f a+eb l f
section
variable {α β:Type}
def ns{f g:α->Int}:∀ {l:List α},(∀a∈l,f a=g a)->eb l f=eb l g
 | [],_=>rfl
 |a::l,h=>by have h1:=h a (by simp);have h2:=ns (f:=f) (g:=g) (l:=l) λb c=>h b (by simp[c]);simp only[eb,h1,h2]
def ss(f g:α->Int):∀l:List α,eb l (λa=>f a+g a)=eb l f+eb l g
 | []=>by simp[eb]
 |a::l=>by have:=ss f g l;simp only[eb];omega
def yI(f g:α->Int):∀l:List α,eb l (λa=>f a-g a)=eb l f-eb l g
 | []=>by simp[eb]
 |a::l=>by have:=yI f g l;simp only[eb];omega
def GC(f:α->Int):∀l:List α,eb l (λa=>- f a)=- eb l f
 | []=>by simp[eb]
 |a::l=>by have:=GC f l;simp only[eb];omega
def uq{f:α->Int}{l:List α}(h:∀a∈l,f a=0):eb l f=0:=by
 induction l with
 |nil=>rfl
 |cons a l c=>simp only[eb,h a (by simp),c λb d=>h b (by simp[d])];rfl
def JQ(c:Int)(f:α->Int):∀l:List α,eb l (λa=>c*f a)=c*eb l f
 | []=>by simp[eb]
 |a::l=>by have:=JQ c f l;simp only[eb,this,iC]
def zQ(f:α->Int):∀l m:List α,eb (l++m) f=eb l f+eb m f
 | [],m=>by simp[eb]
 |a::l,m=>by have:=zQ f l m;simp only[cL,eb];omega
def PK{f:α->Int}{l m:List α}(h:l.Perm m):eb l f=eb m f:=by
 induction h with
 |nil=>rfl
 |cons x _ a=>simp only[eb,a]
 |swap x y l=>simp only[eb];omega
 |trans _ _ h1 h2=>exact h1.trans h2
def DY(g:β->α)(f:α->Int):∀l:List β,eb (l.map g) f=eb l (λb=>f (g b))
 | []=>rfl
 |b::l=>by simp only[au,eb,DY g f l]
def Om(p:α->Bool)(f:α->Int):∀l:List α,eb (l.filter p) f=eb l (λa=>if p a then f a else 0)
 | []=>rfl
 |a::l=>by
  have:=Om p f l;by_cases h:p a=No;simp only[bV,h,me,eb,this];simp only[ eb]
  grind
def J2(f:α->β->Int):∀(l:List α) (m:List β),eb l (λa=>eb m (f a))=eb m (λb=>eb l (λa=>f a b))
 | [],m=>by simp only[eb];exact(uq λ_ _=>rfl).symm
 |a::l,m=>by simp only[eb,J2 f l m];rw[<-ss]
end
structure Net(ι:Type) where
 E:List ι
 b7:ι->qT
 a7:ι->qT
 M:Int
 s:ι->Int
 p7:0<M
 ord:∀e∈E,(b7 e).2<(a7 e).2\/((b7 e).2=(a7 e).2/\(b7 e).1<(a7 e).1)
 AB:∀e∈E,(b7 e).2<(a7 e).2->s e*((a7 e).2-(b7 e).2)=M*((a7 e).1-(b7 e).1)
namespace Net
variable {ι:Type} (N:Net ι)
def X(e:ι)(y:Int):Int:=N.M*(N.b7 e).1+N.s e*(y-(N.b7 e).2)
def up(e:ι):Prop:=(N.b7 e).2<(N.a7 e).2
instance (e:ι):Decidable (N.up e):=by unfold up;infer_instance
def eS(e:ι)(k:Int):Prop:=(N.b7 e).2<=k/\k<(N.a7 e).2
instance (e:ι) (k:Int):Decidable (N.eS e k):=by unfold eS;infer_instance
def vG(e:ι):N.X e (N.b7 e).2=N.M*(N.b7 e).1:=by simp[X]
def yo{e:ι}(he:e∈N.E)(hu:N.up e):N.X e (N.a7 e).2=N.M*(N.a7 e).1:=by have:=N.AB e he hu;unfold X;rw[this,cW];omega
structure wx:Prop where
 nodup:N.E.Nodup
 fr:∀e∈N.E,∀f∈N.E,∀k,N.eS e k->N.eS f k->N.X e k<N.X f k->N.X e (k+1)<=N.X f (k+1)
 Vd:∀e∈N.E,∀f∈N.E,∀k,N.eS e k->N.eS f k->N.X e (k+1)<N.X f (k+1)->N.X e k<=N.X f k
 apart:∀e∈N.E,∀f∈N.E,∀k,N.eS e k->N.eS f k->N.X e k=N.X f k->N.X e (k+1)=N.X f (k+1)->e=f
 KK:∀e∈N.E,∀f∈N.E,∀k,N.up e->N.up f->e≠f->(N.b7 e).2<=k->k<=(N.a7 e).2->(N.b7 f).2<=k->k<=(N.a7 f).2->N.X e k=N.X f k->(k=(N.b7 e).2\/k=(N.a7 e).2)
 flat:∀e∈N.E,∀f∈N.E,N.up e->¬N.up f->(N.b7 e).2<=(N.b7 f).2->(N.b7 f).2<=(N.a7 e).2->N.M*(N.b7 f).1<=N.X e (N.b7 f).2->N.X e (N.b7 f).2<=N.M*(N.a7 f).1 ->
  ((N.b7 f).2=(N.b7 e).2\/(N.b7 f).2=(N.a7 e).2)/\(N.X e (N.b7 f).2=N.M*(N.b7 f).1\/N.X e (N.b7 f).2=N.M*(N.a7 f).1)
 sv:∀e∈N.E,∀f∈N.E,¬N.up e->¬N.up f->(N.b7 e).2=(N.b7 f).2->(N.b7 e).1<(N.a7 f).1->(N.b7 f).1<(N.a7 e).1->e=f
def rR(d:ι->Int):Prop:=∀A:qT->Bool,eb N.E (λe=>d e*((if A (N.b7 e)then 1 else 0)-(if A (N.a7 e)then 1 else 0)))=0
def vK(d:ι->Int)(k a:Int):Int:=eb N.E λe=>if N.eS e k/\N.X e k<a then d e else 0
def below(d:ι->Int)(k a:Int):Int:=eb N.E λe=>if N.eS e (k-1)/\N.X e k<a then d e else 0
def uG(d:ι->Int)(k a:Int):Int:=eb N.E λe=>if ¬N.up e/\(N.b7 e).2=k/\N.M*(N.b7 e).1<a/\a<=N.M*(N.a7 e).1 then d e else 0
def line{d:ι->Int}(hd:N.rR d)(k a:Int):N.vK d k a+N.uG d k a=N.below d k a:=by
 have h:=hd λv=>Eo (v.2=k/\N.M*v.1<a);have e:eb N.E (λe=>d e*((if Eo ((N.b7 e).2=k/\N.M*(N.b7 e).1<a)=No then 1 else 0)-(if Eo ((N.a7 e).2=k/\N.M*(N.a7 e).1<a)=No then 1 else 0)))=eb N.E (λe=>((if N.eS e k/\N.X e k<a then d e else 0)+(if ¬N.up e/\(N.b7 e).2=k/\N.M*(N.b7 e).1<a/\a<=N.M*(N.a7 e).1 then d e else 0))-(if N.eS e (k-1)/\N.X e k<a then d e else 0)):=by
  refine ns λe he=>?_;simp only[kA];rcases N.ord e he with ho|⟨ho,g⟩
  have hu:N.up e:=ho;by_cases h1:(N.b7 e).2=k;have f:N.X e k=N.M*(N.b7 e).1:=by rw[<-h1];exact N.vG e
  have c1:N.eS e k:=⟨by omega,by omega⟩;have c2:¬N.eS e (k-1):=λh=>by have:=h.1;omega
  have i:¬(N.a7 e).2=k:=by omega
  simp only[h1,c1,c2,i,hu,f];split<;>simp;by_cases h2:(N.a7 e).2=k;have f:N.X e k=N.M*(N.a7 e).1:=by rw[<-h2];exact N.yo he hu
  have c1:¬N.eS e k:=λh=>by have:=h.2;omega
  have c2:N.eS e (k-1):=⟨by omega,by omega⟩;simp only[h1,h2,c1,c2,f,false_and,l4];split<;>simp;have c:N.eS e k↔N.eS e (k-1):=by unfold eS;omega
  simp only[h1,h2,c,hu,false_and,not_true_eq_false,l4];omega;have hu:¬N.up e:=λh=>by unfold up at h;omega
  have c1:∀k,¬N.eS e k:=λk h=>by have:=h.1;have:=h.2;omega
  have l:=cx g N.p7;simp only[c1,hu,<-ho];by_cases h1:(N.b7 e).2=k;simp only[h1];by_cases h2:N.M*(N.b7 e).1<a;by_cases b:N.M*(N.a7 e).1<a;have j:¬a<=N.M*(N.a7 e).1:=by omega
  simp[h2,b,j];simp[h2,b];have b:¬N.M*(N.a7 e).1<a:=by omega
  simp[h2,b];simp[h1]
 rw[e,yI,ss]at h;show eb N.E _+eb N.E _=eb N.E _;omega
def W(d:ι->Int)(k:Int)(u:ι):Int:=eb N.E λe=>if N.eS e k/\N.X e k+N.X e (k+1)<N.X u k+N.X u (k+1)then d e else 0
variable {N} (hP:N.wx)
include hP
theorem O5{e u:ι}(he:e∈N.E)(hu:u∈N.E){k:Int}(h1:N.eS e k)(h2:N.eS u k):N.X e k+N.X e (k+1)<N.X u k+N.X u (k+1)↔N.X e k<N.X u k\/(N.X e k=N.X u k/\N.X e (k+1)<N.X u (k+1)):=by
 have a:=hP.fr e he u hu k h1 h2;have b:=hP.fr u hu e he k h2 h1;constructor;intro h;rcases g_ (N.X e k) (N.X u k)with c|c|c
 exact br c;exact bk ⟨c,by omega⟩;omega;rintro (h|⟨h,h'⟩);omega;omega
theorem aP6{e u:ι}(he:e∈N.E)(hu:u∈N.E){k:Int}(h1:N.eS e k)(h2:N.eS u k):N.X e k+N.X e (k+1)<N.X u k+N.X u (k+1)↔N.X e (k+1)<N.X u (k+1)\/(N.X e (k+1)=N.X u (k+1)/\N.X e k<N.X u k):=by
 have a:=hP.Vd e he u hu k h1 h2;have b:=hP.Vd u hu e he k h2 h1;constructor;intro h;rcases g_ (N.X e (k+1)) (N.X u (k+1))with c|c|c
 exact br c;exact bk ⟨c,by omega⟩;omega;rintro (h|⟨h,h'⟩);omega;omega
theorem Ul(d:ι->Int){u:ι}(hu:u∈N.E){k:Int}(h2:N.eS u k):N.W d k u=N.vK d k (N.X u k)+eb N.E (λe=>if N.eS e k/\N.X e k=N.X u k/\N.X e (k+1)<N.X u (k+1)then d e else 0):=by
 unfold W vK;rw[<-ss];refine ns λe he=>?_;by_cases h1:N.eS e k;have:=O5 hP he hu h1 h2;simp only[ this];by_cases c1:N.X e k<N.X u k;have c2:¬N.X e k=N.X u k:=by omega
 simp[ c2];simp[c1];simp[h1]
theorem Um(d:ι->Int){u:ι}(hu:u∈N.E){k:Int}(h2:N.eS u k):N.W d k u=N.below d (k+1) (N.X u (k+1))+eb N.E (λe=>if N.eS e k/\N.X e (k+1)=N.X u (k+1)/\N.X e k<N.X u k then d e else 0):=by
 unfold W below;rw[<-ss];refine ns λe he=>?_;by_cases h1:N.eS e k;have:=aP6 hP he hu h1 h2;simp only[ this];by_cases c1:N.X e (k+1)<N.X u (k+1);have c2:¬N.X e (k+1)=N.X u (k+1):=by omega
 simp[ c2];simp[c1];simp[h1]
theorem sV{e:ι}{k:Int}(h:N.eS e k):N.up e:=by have:=h.1;have:=h.2;unfold up;omega
theorem bd6{d:ι->Int}(hd:N.rR d){u:ι}(hu:u∈N.E){k:Int}(h1:N.eS u k)(h2:N.eS u (k+1)):N.W d k u=N.W d (k+1) u:=by
 have a:=sV hP h1;have i1:(N.b7 u).2<k+1:=by have:=h1.1;omega
 have i2:=h2.2;have i:eb N.E (λe=>if N.eS e k/\N.X e (k+1)=N.X u (k+1)/\N.X e k<N.X u k then d e else 0)=0:=uq λe he=>by
  by_cases c:N.eS e k/\N.X e (k+1)=N.X u (k+1)/\N.X e k<N.X u k;obtain⟨c1,c2,g⟩:=c;have b:u≠e:=λh=>by subst h;omega
  have:=hP.KK u hu e he (k+1) a (sV hP c1) b (by omega) (by omega) (by have:=c1.1;omega) (by have:=c1.2;omega) c2.symm;omega;rw[cc c]
 have j:eb N.E (λe=>if N.eS e (k+1)/\N.X e (k+1)=N.X u (k+1)/\N.X e (k+1+1)<N.X u (k+1+1)then d e else 0)=0:=uq λe he=>by
  by_cases c:N.eS e (k+1)/\N.X e (k+1)=N.X u (k+1)/\N.X e (k+1+1)<N.X u (k+1+1);obtain⟨c1,c2,g⟩:=c;have b:u≠e:=λh=>by subst h;omega
  have:=hP.KK u hu e he (k+1) a (sV hP c1) b (by omega) (by omega) (by have:=c1.1;omega) (by have:=c1.2;omega) c2.symm;omega;rw[cc c]
 have m:N.uG d (k+1) (N.X u (k+1))=0:=uq λf hf=>by by_cases c:¬N.up f/\(N.b7 f).2=k+1/\N.M*(N.b7 f).1<N.X u (k+1)/\N.X u (k+1)<=N.M*(N.a7 f).1;obtain⟨c1,c2,g,n⟩:=c;have:=hP.flat u hu f hf a c1 (by omega) (by omega) (by rw[c2];omega) (by rw[c2];omega);omega;rw[cc c]
 have l:=N.line hd (k+1) (N.X u (k+1));rw[Um hP d hu h1,Ul hP d hu h2,i,j];omega
theorem Sh{d:ι->Int}(hd:N.rR d){u:ι}(hu:u∈N.E)(n:Nat):∀ {k:Int},N.eS u k->N.eS u (k+n)->N.W d k u=N.W d (k+n) u:=by
 induction n with
 |zero=> simp
 |succ n b =>intro k h1 h2;have a:N.eS u (k+1):=⟨by have:=h1.1;omega,by have:=h2.2;omega⟩;rw[bd6 hP hd hu h1 a,show k+((n+1:Nat):Int)=k+1+(n:Int)by omega];exact b a (by rw[show k+1+(n:Int)=k+((n+1:Nat):Int)by omega];exact h2)
theorem Uk{d:ι->Int}(hd:N.rR d){u:ι}(hu:u∈N.E){k a:Int}(h1:N.eS u k)(h2:N.eS u a):N.W d k u=N.W d a u:=by
 rcases ia k a with h|h
 have:=Sh hP hd hu (a-k).toNat h1 (by rw[show k+((a-k).toNat:Int)=a by omega];exact h2);rw[show k+((a-k).toNat:Int)=a by omega]at this;exact this;have:=Sh hP hd hu (k-a).toNat h2 (by rw[show a+((k-a).toNat:Int)=k by omega];exact h1);rw[show a+((k-a).toNat:Int)=k by omega]at this;exact this.symm
end Net
end Go.Pg
namespace Go.Pg
namespace Net
variable {ι:Type} {N:Net ι} (hP:N.wx)
def yv(N:Net ι)(d:ι->Int)(v:qT):Int:=eb N.E λe=>if N.up e/\N.b7 e=v then d e else 0
def C'(N:Net ι)(d:ι->Int)(v:qT):Int:=eb N.E λe=>if N.up e/\N.a7 e=v then d e else 0
def Bh(N:Net ι)(d:ι->Int)(v:qT):Int:=eb N.E λe=>if ¬N.up e/\N.b7 e=v then d e else 0
def Bi(N:Net ι)(d:ι->Int)(v:qT):Int:=eb N.E λe=>if ¬N.up e/\N.a7 e=v then d e else 0
def RZ{d:ι->Int}(hd:N.rR d)(v:qT):N.yv d v+N.Bh d v=N.C' d v+N.Bi d v:=by
 have h:=hd λp=>Eo (p=v);have e:eb N.E (λe=>d e*((if Eo (N.b7 e=v)=No then 1 else 0)-(if Eo (N.a7 e=v)=No then 1 else 0)))=eb N.E (λe=>((if N.up e/\N.b7 e=v then d e else 0)+(if ¬N.up e/\N.b7 e=v then d e else 0))-((if N.up e/\N.a7 e=v then d e else 0)+(if ¬N.up e/\N.a7 e=v then d e else 0))):=by refine ns λe _=>?_;by_cases h1:N.up e<;>by_cases h2:N.b7 e=v<;>by_cases a:N.a7 e=v<;>simp[h1,h2,a]
 rw[e,yI,ss,ss]at h;unfold yv C' Bh Bi;omega
def L2(N:Net ι)(v:qT):Prop:=∃e∈N.E,N.b7 e=v\/N.a7 e=v
include hP
omit hP in
theorem yH{e:ι}(he:e∈N.E)(h:¬N.up e):(N.b7 e).2=(N.a7 e).2/\(N.b7 e).1<(N.a7 e).1:=by
 rcases N.ord e he with ho|ho
 exact b8 ho h;exact ho
theorem Np(d:ι->Int){v:qT}(hv:N.L2 v):N.uG d v.2 (N.M*v.1)=N.Bi d v:=by
 refine ns λf hf=>?_;by_cases h1:N.up f;simp[h1];obtain⟨k,l⟩:=yH hf h1;by_cases h2:N.a7 f=v;have c:(N.b7 f).2=v.2/\N.M*(N.b7 f).1<N.M*v.1/\N.M*v.1<=N.M*(N.a7 f).1:=by rw[<-h2];exact⟨k,cx l N.p7,cz _⟩
 simp[ h2,c];have c:¬((N.b7 f).2=v.2/\N.M*(N.b7 f).1<N.M*v.1/\N.M*v.1<=N.M*(N.a7 f).1):=by
  rintro ⟨c1,c2,i⟩;have c2:=iQ c2 (dv N.p7);have i:=Int.le_of_mul_le_mul_left i N.p7;have n:v.1≠(N.a7 f).1:=λh=>h2 (eJ h.symm (by omega));obtain⟨e,he,a⟩:=hv;by_cases b:N.up e;rcases a with a|a
  have g:N.X e (N.b7 f).2=N.M*v.1:=by rw[c1,<-a];exact N.vG e
  have:=hP.flat e he f hf b h1 (by rw[a];omega) (by unfold up at b;rw[a]at b;omega) (by rw[g];exact bR (by omega) (dv N.p7)) (by rw[g];exact bR (by omega) (dv N.p7));rw[g]at this;rcases this.2 with h|h
  have:=cF (by have:=N.p7;omega) h;omega;have:=cF (by have:=N.p7;omega) h;omega;have g:N.X e (N.b7 f).2=N.M*v.1:=by rw[c1,<-a];exact N.yo he b
  have:=hP.flat e he f hf b h1 (by unfold up at b;rw[a]at b;omega) (by rw[a];omega) (by rw[g];exact bR (by omega) (dv N.p7)) (by rw[g];exact bR (by omega) (dv N.p7));rw[g]at this;rcases this.2 with h|h
  have:=cF (by have:=N.p7;omega) h;omega;have:=cF (by have:=N.p7;omega) h;omega;obtain⟨m,j⟩:=yH he b;rcases a with a|a
  have:=hP.sv e he f hf b h1 (by rw[a];omega) (by rw[a];omega) (by rw[a]at j;omega);subst this;rw[a]at c2;omega;have:=hP.sv e he f hf b h1 (by rw[m,a];omega) (by rw[a]at j;omega) (by rw[a];omega);subst this;exact h2 a
 simp only[h1,h2,not_false_eq_true,qj,l4];rw[cc c]
theorem bd5(d:ι->Int){u:ι}(hu:u∈N.E)(h:N.up u){v:qT}(hv:N.b7 u=v):N.W d v.2 u=N.vK d v.2 (N.M*v.1)+eb N.E (λe=>if N.up e/\N.b7 e=v/\N.X e (v.2+1)<N.X u (v.2+1)then d e else 0):=by
 subst hv;have f:=N.vG u;have hc:N.eS u (N.b7 u).2:=⟨cz _,h⟩;rw[Ul hP d hu hc,f];congr 1;refine ns λe he=>?_;by_cases c:N.up e/\N.b7 e=N.b7 u/\N.X e ((N.b7 u).2+1)<N.X u ((N.b7 u).2+1);obtain⟨c1,c2,a⟩:=c;rw[cr ⟨⟨by rw[c2];omega,by unfold up at c1;rw[c2]at c1;exact c1⟩,by rw[<-c2];exact N.vG e,a⟩,cr ⟨c1,c2,a⟩];rw[cc c,cc];rintro ⟨c1,c2,a⟩;have b:e≠u:=λh=>by subst h;omega
 have i:=hP.KK e he u hu (N.b7 u).2 (sV hP c1) h b c1.1 (by have:=c1.2;omega) (cz _) (by unfold up at h;omega) (by rw[c2,f]);have g:(N.b7 u).2=(N.b7 e).2:=by have:=c1.2;omega
 refine c ⟨sV hP c1,eJ ?_ g.symm,a⟩;have:=N.vG e;rw[<-g,c2]at this;exact(cF (by have:=N.p7;omega) this).symm
theorem bd4(d:ι->Int){u:ι}(hu:u∈N.E)(h:N.up u){v:qT}(hv:N.a7 u=v):N.W d (v.2-1) u=N.below d v.2 (N.M*v.1)+eb N.E (λe=>if N.up e/\N.a7 e=v/\N.X e (v.2-1)<N.X u (v.2-1)then d e else 0):=by
 subst hv;have g:=N.yo hu h;have hc:N.eS u ((N.a7 u).2-1):=⟨by unfold up at h;omega,by omega⟩;have j:(N.a7 u).2-1+1=(N.a7 u).2:=by omega
 rw[Um hP d hu hc,j,g];congr 1;refine ns λe he=>?_;by_cases c:N.up e/\N.a7 e=N.a7 u/\N.X e ((N.a7 u).2-1)<N.X u ((N.a7 u).2-1);obtain⟨c1,c2,a⟩:=c;have b:=N.yo he c1;rw[cr ⟨⟨by unfold up at c1;rw[c2]at c1;omega,by rw[c2];omega⟩,by rw[<-c2];exact b,a⟩,cr ⟨c1,c2,a⟩];rw[cc c,cc];rintro ⟨c1,c2,a⟩;have f:e≠u:=λh=>by subst h;omega
 have k:=hP.KK e he u hu (N.a7 u).2 (sV hP c1) h f (by have:=c1.1;omega) (by have:=c1.2;omega) (by unfold up at h;omega) (cz _) (by rw[c2,g]);have i:(N.a7 u).2=(N.a7 e).2:=by have:=c1.1;omega
 refine c ⟨sV hP c1,eJ ?_ i.symm,a⟩;have:=N.yo he (sV hP c1);rw[<-i,c2]at this;exact(cF (by have:=N.p7;omega) this).symm
theorem bp0(d:ι->Int){f:ι}(hf:f∈N.E)(h:¬N.up f):N.vK d (N.b7 f).2 (N.M*(N.a7 f).1)=N.vK d (N.b7 f).2 (N.M*(N.b7 f).1)+N.yv d (N.b7 f):=by
 obtain⟨o,m⟩:=yH hf h;have n:=cx m N.p7;unfold vK yv;rw[<-ss];refine ns λe he=>?_;by_cases c:N.eS e (N.b7 f).2;have g:=sV hP c;simp only[c,g,qj];by_cases c1:N.b7 e=N.b7 f;have j:N.X e (N.b7 f).2=N.M*(N.b7 f).1:=by rw[<-c1];exact N.vG e
 simp only[c1,j,n];omega;simp only[c1,l4];by_cases c2:N.X e (N.b7 f).2<N.M*(N.b7 f).1;have k:N.X e (N.b7 f).2<N.M*(N.a7 f).1:=by omega
 simp only[c2,k];omega;by_cases k:N.X e (N.b7 f).2<N.M*(N.a7 f).1;have:=hP.flat e he f hf g h c.1 (by have:=c.2;omega) (by omega) (by omega);have l:(N.b7 f).2=(N.b7 e).2:=by have:=c.2;omega
 have j:N.X e (N.b7 f).2=N.M*(N.b7 f).1:=by omega
 have i:=N.vG e;rw[<-l,j]at i;exact b8 (eJ (cF (by have:=N.p7;omega) i).symm l.symm) c1;omega;have c1:¬(N.up e/\N.b7 e=N.b7 f):=by rintro ⟨a,b⟩;exact c ⟨by rw[b];omega,by unfold up at a;rw[b]at a;exact a⟩
 simp[c,c1]
end Net
end Go.Pg
namespace Go.Pg
def B7{α:Type}[DecidableEq α](f:α->Int){u:α}:∀ {l:List α},l.Nodup->u∈l->eb l (λa=>if a=u then f a else 0)=f u
 | [],_,h=>by simp at h
 |a::l,c,h=>by
  have c:=cS.1 c;simp only[eb];by_cases e:a=u;subst e;rw[cr rfl,uq λb d=>cc λ(h:b=a)=>c.1 (h▸d)];omega;rcases aD.1 h with h|h
  exact b8 h.symm e;rw[cc e,B7 f c.2 h];omega
namespace Net
variable {ι:Type} {N:Net ι} (hP:N.wx)
abbrev ml(ι:Type):=ι×Bool
def src(N:Net ι)(h:ml ι):qT:=bif h.2 then N.b7 h.1 else N.a7 h.1
def dst(N:Net ι)(h:ml ι):qT:=bif h.2 then N.a7 h.1 else N.b7 h.1
def rev(h:ml ι):ml ι:=(h.1,!h.2)
def dl(d:ι->Int)(h:ml ι):Int:=bif h.2 then d h.1 else-d h.1
def L(N:Net ι)(d:ι->Int)(h:ml ι):Int :=if N.up h.1 then(bif h.2 then N.W d (N.b7 h.1).2 h.1 else N.W d (N.b7 h.1).2 h.1+d h.1)else(bif h.2 then N.vK d (N.b7 h.1).2 (N.M*(N.a7 h.1).1)else N.below d (N.b7 h.1).2 (N.M*(N.a7 h.1).1))
def cls(N:Net ι)(h:ml ι):Nat:=if N.up h.1 then(bif h.2 then 1 else 3)else(bif h.2 then 0 else 2)
def nh(N:Net ι)(k:Int)(g h:ml ι):Prop:=N.cls g<N.cls h\/(N.cls g=1/\N.cls h=1/\N.X h.1 (k+1)<N.X g.1 (k+1))\/(N.cls g=3/\N.cls h=3/\N.X g.1 (k-1)<N.X h.1 (k-1))
def og(N:Net ι):List (ml ι):=N.E.flatMap λe=>[(e,No),(e,N2)]
def D9(F:ml ι->Int):eb N.og F=eb N.E (λe=>F (e,No)+F (e,N2)):=by
 unfold og;generalize N.E=E
 induction E with
 |nil=>rfl
 |cons e E a =>simp only[bA,cL,cG,eb];omega
include hP
theorem aC0(d:ι->Int){f:ι}(hf:f∈N.E)(h:¬N.up f):N.Bi d (N.a7 f)=d f:=by
 open Classical in
 rw[<-B7 d hP.nodup hf];refine ns λe he=>?_;by_cases c:e=f;subst c;simp[h];rw[cc c,cc];rintro ⟨c1,c2⟩;obtain⟨a,b⟩:=yH he c1;obtain⟨g,i⟩:=yH hf h;exact c (hP.sv e he f hf c1 h (by rw[a,c2,g]) (by rw[<-c2];exact b) (by rw[c2];exact i))
theorem aZ7(d:ι->Int){f:ι}(hf:f∈N.E)(h:¬N.up f):N.Bh d (N.b7 f)=d f:=by
 open Classical in
 rw[<-B7 d hP.nodup hf];refine ns λe he=>?_;by_cases c:e=f;subst c;simp[h];rw[cc c,cc];rintro ⟨c1,c2⟩;obtain⟨g,a⟩:=yH he c1;obtain⟨i,b⟩:=yH hf h;exact c (hP.sv e he f hf c1 h (by rw[c2]) (by rw[c2];exact b) (by rw[<-c2];exact a))
theorem Hi{d:ι->Int}(hd:N.rR d){h:ml ι}(a:h.1∈N.E):N.L d (rev h)=N.L d h+dl d h:=by obtain⟨e,b⟩:=h;have a:e∈N.E:=a;unfold L rev dl;by_cases hu:N.up e;cases b;simp only[hu,me,bB,b6,bu];omega;simp only[hu,me,aw,b6,bu];obtain⟨c,f⟩:=yH a hu;have l:=N.line hd (N.a7 e).2 (N.M*(N.a7 e).1);rw[Np hP d ⟨e,a,bk rfl⟩,aC0 hP d a hu]at l;rw[<-c]at l;cases b;simp only[hu,l4,bB,b6,bu];omega;simp only[hu,l4,aw,b6,bu];omega
open Classical in
theorem aO5{d:ι->Int}(hd:N.rR d){h:ml ι}(z:h.1∈N.E){v:qT}(hv:N.src h=v) :
  N.L d h=N.below d v.2 (N.M*v.1)+N.C' d v-eb N.og (λg=>if N.src g=v/\(g=h\/N.nh v.2 g h)then dl d g else 0):=by
 obtain⟨u,b⟩:=h;have hu:u∈N.E:=z;have q:N.L2 v:=by cases b;exact⟨u,hu,bk hv⟩;exact⟨u,hu,br hv⟩
 have n:=N.line hd v.2 (N.M*v.1);rw[Np hP d q]at n;have t:=RZ hd v;rw[D9];by_cases a:N.up u;cases b;have hv:N.a7 u=v:=hv;have o:N.L d (u,N2)=N.W d (v.2-1) u+d u:=by have c1:N.eS u (N.b7 u).2:=⟨cz _,a⟩;have c2:N.eS u (v.2-1):=⟨by unfold up at a;rw[hv]at a;omega,by rw[hv];omega⟩;simp only[L,a,me,bu,Uk hP hd hu c1 c2]
 have f:N.cls (u,N2)=3:=by simp[cls,a]
 have p:eb N.E (λe=>(if N.src (e,No)=v/\((e,No)=(u,N2)\/N.nh v.2 (e,No) (u,N2))then dl d (e,No)else 0)+(if N.src (e,N2)=v/\((e,N2)=(u,N2)\/N.nh v.2 (e,N2) (u,N2))then dl d (e,N2)else 0))
   = eb N.E (λe=>((if N.up e/\N.b7 e=v then d e else 0)+(if ¬N.up e/\N.b7 e=v then d e else 0))-((if ¬N.up e/\N.a7 e=v then d e else 0)+((if e=u then d e else 0)+(if N.up e/\N.a7 e=v/\N.X e (v.2-1)<N.X u (v.2-1)then d e else 0)))):=by
  refine ns λe he=>?_;have s1:N.src (e,No)=N.b7 e:=rfl;have d1:dl d (e,No)=d e:=rfl;have s2:N.src (e,N2)=N.a7 e:=rfl;have d2:dl d (e,N2)=- d e:=rfl;by_cases c:N.up e;have l:N.cls (e,No)=1:=by simp[cls,c]
  have m:N.cls (e,N2)=3:=by simp[cls,c]
  have i:((e,No)=(u,N2)\/N.nh v.2 (e,No) (u,N2)):=by right;unfold nh;rw[l,f];omega
  have k:N.a7 e=v->(((e,N2)=(u,N2)\/N.nh v.2 (e,N2) (u,N2))↔(e=u\/N.X e (v.2-1)<N.X u (v.2-1))):=by intro _;constructor;rintro (h|h);cases h;exact br rfl;unfold nh at h;rw[m,f]at h;simp only at h;right;omega;rintro (h|h);rw[h];exact br rfl;exact bk (bk (bk ⟨m,f,h⟩))
  by_cases j:e=u;subst j;have s:¬N.X e (v.2-1)<N.X e (v.2-1):=by omega
  simp only[s1,s2,d1,d2,c,hv,qj,i,and_true,not_true_eq_false,false_and,l4,true_or,me,s,and_false];split<;>omega;by_cases c2:N.a7 e=v;have:=k c2;simp only[s1,s2,d1,d2,c,c2,qj,i,and_true,not_true_eq_false,false_and,l4,j,this,false_or];by_cases w:N.X e (v.2-1)<N.X u (v.2-1);simp only[w,me];omega;simp only[w,l4];omega;simp only[s1,s2,d1,d2,c,c2,qj,i,and_true,not_true_eq_false,false_and,l4,j];omega;have l:N.cls (e,No)=0:=by simp[cls,c]
  have m:N.cls (e,N2)=2:=by simp[cls,c]
  have i:((e,No)=(u,N2)\/N.nh v.2 (e,No) (u,N2)):=by right;unfold nh;rw[l,f];omega
  have k:((e,N2)=(u,N2)\/N.nh v.2 (e,N2) (u,N2)):=by right;unfold nh;rw[m,f];omega
  have j:¬e=u:=λh=>c (h▸a);simp only[s1,s2,d1,d2,c,i,k,and_true,false_and,l4,not_false_eq_true,qj,j];split<;>split<;>omega
 rw[p,yI,ss,ss,ss,o,bd4 hP d hu a hv,B7 d hP.nodup hu];have:eb N.E (λe=>if ¬N.up e/\N.b7 e=v then d e else 0)=N.Bh d v:=rfl;have:eb N.E (λe=>if N.up e/\N.b7 e=v then d e else 0)=N.yv d v:=rfl;have:eb N.E (λe=>if ¬N.up e/\N.a7 e=v then d e else 0)=N.Bi d v:=rfl;omega;have hv:N.b7 u=v:=hv;have o:N.L d (u,No)=N.W d v.2 u:=by simp only[L,a,me,b6,hv]
 have f:N.cls (u,No)=1:=by simp[cls,a]
 have p:eb N.E (λe=>(if N.src (e,No)=v/\((e,No)=(u,No)\/N.nh v.2 (e,No) (u,No))then dl d (e,No)else 0)+(if N.src (e,N2)=v/\((e,N2)=(u,No)\/N.nh v.2 (e,N2) (u,No))then dl d (e,N2)else 0))
   = eb N.E (λe=>(if ¬N.up e/\N.b7 e=v then d e else 0)+((if N.up e/\N.b7 e=v then d e else 0)-(if N.up e/\N.b7 e=v/\N.X e (v.2+1)<N.X u (v.2+1)then d e else 0))):=by
  refine ns λe he=>?_;have s1:N.src (e,No)=N.b7 e:=rfl;have d1:dl d (e,No)=d e:=rfl;by_cases c:N.up e;have l:N.cls (e,No)=1:=by simp[cls,c]
  have m:N.cls (e,N2)=3:=by simp[cls,c]
  have k:¬((e,N2)=(u,No)\/N.nh v.2 (e,N2) (u,No)):=by rintro (h|h);cases h;unfold nh at h;rw[m,f]at h;omega
  rw[cc (λh:_/\_=>k h.2)];simp only[s1,d1,c,not_true_eq_false,false_and,l4,qj];by_cases c1:N.b7 e=v;simp only[c1,qj,me];have i:((e,No)=(u,No)\/N.nh v.2 (e,No) (u,No))↔¬N.X e (v.2+1)<N.X u (v.2+1):=by
   constructor;rintro (h|h);cases h;omega;unfold nh at h;rw[l,f]at h;simp only at h;omega;intro h;by_cases h2:N.X u (v.2+1)<N.X e (v.2+1);exact bk (bk (br ⟨l,f,h2⟩));left;have ce:N.eS e v.2:=⟨by rw[c1];omega,by unfold up at c;rw[c1]at c;exact c⟩;have B:N.eS u v.2:=⟨by rw[hv];omega,by unfold up at a;rw[hv]at a;exact a⟩;have C:N.X e v.2=N.M*v.1:=by rw[<-c1];exact N.vG e
   have D:N.X u v.2=N.M*v.1:=by rw[<-hv];exact N.vG u
   have:=hP.apart e he u hu v.2 ce B (by rw[C,D]) (by omega);rw[this]
  by_cases c2:N.X e (v.2+1)<N.X u (v.2+1);rw[cc (λh=>(i.1 h) c2),cr c2];omega;rw[cr (i.2 c2),cc c2];omega;simp[c1];have l:N.cls (e,No)=0:=by simp[cls,c]
  have m:N.cls (e,N2)=2:=by simp[cls,c]
  have i:((e,No)=(u,No)\/N.nh v.2 (e,No) (u,No)):=by right;unfold nh;rw[l,f];omega
  have k:¬((e,N2)=(u,No)\/N.nh v.2 (e,N2) (u,No)):=by rintro (h|h);cases h;unfold nh at h;rw[m,f]at h;omega
  rw[cc (λh:_/\_=>k h.2)];simp only[s1,d1,c,i,and_true,not_false_eq_true,qj,false_and,l4];omega
 rw[p,ss,yI,o,bd5 hP d hu a hv];have:eb N.E (λe=>if ¬N.up e/\N.b7 e=v then d e else 0)=N.Bh d v:=rfl;have:eb N.E (λe=>if N.up e/\N.b7 e=v then d e else 0)=N.yv d v:=rfl;omega;cases b;have hv:N.a7 u=v:=hv;obtain⟨G,I⟩:=yH hu a;have o:N.L d (u,N2)=N.below d v.2 (N.M*v.1):=by simp only[L,a,l4,bu,G,hv]
 have f:N.cls (u,N2)=2:=by simp[cls,a]
 have p:eb N.E (λe=>(if N.src (e,No)=v/\((e,No)=(u,N2)\/N.nh v.2 (e,No) (u,N2))then dl d (e,No)else 0)+(if N.src (e,N2)=v/\((e,N2)=(u,N2)\/N.nh v.2 (e,N2) (u,N2))then dl d (e,N2)else 0))
   = eb N.E (λe=>((if N.up e/\N.b7 e=v then d e else 0)+(if ¬N.up e/\N.b7 e=v then d e else 0))-(if e=u then d e else 0)):=by
  refine ns λe he=>?_;have s1:N.src (e,No)=N.b7 e:=rfl;have d1:dl d (e,No)=d e:=rfl;have s2:N.src (e,N2)=N.a7 e:=rfl;have d2:dl d (e,N2)=- d e:=rfl;have i:((e,No)=(u,N2)\/N.nh v.2 (e,No) (u,N2)):=by right;unfold nh;rw[f];left;unfold cls;split<;>simp
  have k:((e,N2)=(u,N2)\/N.nh v.2 (e,N2) (u,N2))↔e=u:=by
   constructor;rintro (h|h);cases h;rfl;unfold nh at h;rw[f]at h;have:2<=N.cls (e,N2):=by unfold cls;split<;>simp
   omega;rintro rfl;exact br rfl
  by_cases j:e=u;subst j;have r:=k.2 rfl;by_cases c1:N.b7 e=v;rw[cr ⟨c1,i⟩,cr ⟨hv,r⟩,cc (λh=>a h.1),cr ⟨a,c1⟩,cr rfl,d1,d2];omega;rw[cc (λh=>c1 h.1),cr ⟨hv,r⟩,cc (λh=>a h.1),cc (λh=>c1 h.2),cr rfl,d2];omega;simp only[s1,s2,d1,d2,i,and_true,k,j,and_false,l4];by_cases c:N.up e<;>by_cases c1:N.b7 e=v<;>simp[c,c1]
 rw[p,yI,ss,o,B7 d hP.nodup hu];have h1:=aC0 hP d hu a;rw[hv]at h1;have:eb N.E (λe=>if ¬N.up e/\N.b7 e=v then d e else 0)=N.Bh d v:=rfl;have:eb N.E (λe=>if N.up e/\N.b7 e=v then d e else 0)=N.yv d v:=rfl;omega;have hv:N.b7 u=v:=hv;have o:N.L d (u,No)=N.vK d v.2 (N.M*v.1)+N.yv d v:=by have:=bp0 hP d hu a;simp only[L,a,l4,b6];rw[<-hv];exact this
 have f:N.cls (u,No)=0:=by simp[cls,a]
 have p:eb N.E (λe=>(if N.src (e,No)=v/\((e,No)=(u,No)\/N.nh v.2 (e,No) (u,No))then dl d (e,No)else 0)+(if N.src (e,N2)=v/\((e,N2)=(u,No)\/N.nh v.2 (e,N2) (u,No))then dl d (e,N2)else 0))
   = eb N.E (λe=>if e=u then d e else 0):=by
  refine ns λe he=>?_;have rI:∀b,¬N.nh v.2 (e,b) (u,No):=by intro b h;unfold nh at h;rw[f]at h;omega
  have x:¬((e,N2)=(u,No)):=λh=>by cases h
  have d1:dl d (e,No)=d e:=rfl;by_cases j:e=u;subst j;simp only[rI,x,or_false,and_false,l4,and_true,me,d1,show N.src (e,No)=v from hv];omega;have H:¬((e,No)=(u,No)):=λh=>j (by cases h;rfl);simp only[rI,H,x,or_false,and_false,l4,j];rfl
 rw[p,o,B7 d hP.nodup hu];have:=aZ7 hP d hu a;rw[hv]at this;omega
end Net
end Go.Pg
namespace Go.Pg
namespace Net
variable {ι:Type} {N:Net ι} (hP:N.wx)
def aY1(k:Int)(h:ml ι):¬N.nh k h h:=by unfold nh;omega
def bc3{k:Int}{g h:ml ι}(a:N.nh k g h):¬N.nh k h g:=by unfold nh at *;omega
def Gf{h:ml ι}:h∈N.og↔h.1∈N.E:=by
 unfold og;rw[dg];constructor;rintro ⟨e,he,h2⟩;simp only[aD,gx,or_false]at h2;rcases h2 with rfl|rfl<;>exact he
 intro h1;refine⟨h.1,h1,?_⟩;obtain⟨e,b⟩:=h;cases b<;>simp
open Classical in
def bM7{d:ι->Int}(hd:N.rR d)(v:qT):eb N.og (λg=>if N.src g=v then dl d g else 0)=0:=by
 have a:=RZ hd v;rw[D9];have e:eb N.E (λe=>(if N.src (e,No)=v then dl d (e,No)else 0)+(if N.src (e,N2)=v then dl d (e,N2)else 0))=eb N.E (λe=>((if N.up e/\N.b7 e=v then d e else 0)+(if ¬N.up e/\N.b7 e=v then d e else 0))-((if N.up e/\N.a7 e=v then d e else 0)+(if ¬N.up e/\N.a7 e=v then d e else 0))):=by refine ns λe _=>?_;have s1:N.src (e,No)=N.b7 e:=rfl;have d1:dl d (e,No)=d e:=rfl;have s2:N.src (e,N2)=N.a7 e:=rfl;have d2:dl d (e,N2)=- d e:=rfl;rw[s1,s2,d1,d2];by_cases c:N.up e<;>by_cases c1:N.b7 e=v<;>by_cases c2:N.a7 e=v<;>simp[c,c1,c2]<;>omega
 rw[e,yI,ss,ss];have:eb N.E (λe=>if ¬N.up e/\N.b7 e=v then d e else 0)=N.Bh d v:=rfl;have:eb N.E (λe=>if N.up e/\N.b7 e=v then d e else 0)=N.yv d v:=rfl;have:eb N.E (λe=>if ¬N.up e/\N.a7 e=v then d e else 0)=N.Bi d v:=rfl;have:eb N.E (λe=>if N.up e/\N.a7 e=v then d e else 0)=N.C' d v:=rfl;omega
structure CF(N:Net ι)(v:qT)(l:List (ml ι)):Prop where
 mem:∀h,h∈l↔h.1∈N.E/\N.src h=v
 nodup:l.Nodup
 sorted:l.Pairwise (N.nh v.2)
include hP
theorem VG:N.og.Nodup:=by
 have a:=hP.nodup;unfold og;generalize N.E=E at a
 induction E with
 |nil=>exact List.nodup_nil
 |cons e E d=>
  have a:=cS.1 a;simp only[bA,cL,cG];have key:∀b,∀h∈E.flatMap (λe=>[(e,No),(e,N2)]),h≠(e,b):=by rintro b h f rfl;obtain⟨g,c,h2⟩:=dg.1 f;simp only[aD,gx,or_false]at h2;rcases h2 with h2|h2<;>(cases h2;exact a.1 c)
  refine cS.2 ⟨?_,cS.2 ⟨λh=>key _ _ h rfl,d a.2⟩⟩;intro h;rcases aD.1 h with h|h
  cases h;exact key _ _ h rfl
open Classical in
theorem ag7{v:qT}{l:List (ml ι)}(hl:CF N v l)(F:ml ι->Int):eb N.og (λg=>if N.src g=v then F g else 0)=eb l F:=by
 have hp:(N.og.filter λg=>Eo (N.src g=v)).Perm l:=by refine(List.perm_ext_iff_of_nodup ((VG hP).filter _) hl.nodup).2 λh=>?_;rw[aU,Gf,hl.mem];simp
 rw[<-PK hp,Om];refine ns λg _=>?_;simp
theorem ED{d:ι->Int}(hd:N.rR d){v:qT}{l:List (ml ι)}(hl:CF N v l){i:Nat}(a7:i<l.length):N.L d l[i]=N.below d v.2 (N.M*v.1)+N.C' d v-eb (l.take (i+1)) (dl d):=by
 classical
 have hm:=(hl.mem l[i]).1 (ay a7);rw[aO5 hP hd hm.1 hm.2];congr 1;have e:eb N.og (λg=>if N.src g=v/\(g=l[i]\/N.nh v.2 g l[i])then dl d g else 0)=eb N.og (λg=>if N.src g=v then(if g=l[i]\/N.nh v.2 g l[i]then dl d g else 0)else 0):=by refine ns λg _=>?_;by_cases c:N.src g=v<;>simp[c]
 rw[e,ag7 hP hl];have split:∀F:ml ι->Int,eb l F=eb (l.take (i+1)) F+eb (l.drop (i+1)) F:=λF=>by rw[<-zQ,List.take_append_drop]
 rw[split];have f:eb (l.take (i+1)) (λg=>if g=l[i]\/N.nh v.2 g l[i]then dl d g else 0)=eb (l.take (i+1)) (dl d):=by refine ns λg a=>?_;obtain⟨j,hj,rfl⟩:=aT a;simp only[cC]at hj;rw[List.getElem_take];rw[cr];by_cases c:j=i;subst c;exact br rfl;exact bk (bM.1 hl.sorted j i (by omega) a7 (by omega))
 have k:eb (l.drop (i+1)) (λg=>if g=l[i]\/N.nh v.2 g l[i]then dl d g else 0)=0:=by refine uq λg a=>?_;obtain⟨j,hj,rfl⟩:=aT a;simp only[ib]at hj;rw[List.getElem_drop];have b:=bM.1 hl.sorted i (i+1+j) a7 (by omega) (by omega);rw[cc];rintro (h|h);rw[h]at b;exact aY1 _ _ b;exact bc3 h b
 rw[f,k];omega
theorem Mf{d:ι->Int}(hd:N.rR d){v:qT}{l:List (ml ι)}(hl:CF N v l){i:Nat}(a7:i<l.length) :
  N.L d (l[(i+l.length-1)%l.length]'(d_ _ (by omega)))=N.L d (rev l[i]):=by
 have hm:=(hl.mem l[i]).1 (ay a7);have f:=Hi hP hd hm.1;rw[f];have hlen:0<l.length:=by omega
 have b:eb l (dl d)=0:=by
  classical
  rw[<-ag7 hP hl (dl d)];exact bM7 hd v
 by_cases c:i=0;subst c;have e:(0+l.length-1)%l.length=l.length-1:=by rw[cQ (by omega)];omega
 have h1:=ED hP hd hl (i:=l.length-1) (by omega);have h2:=ED hP hd hl (i:=0) a7;have g:l.take (l.length-1+1)=l:=by rw[List.take_of_length_le (by omega)]
 rw[g,b]at h1;have h:eb (l.take (0+1)) (dl d)=dl d l[0]:=by cases l;simp at a7;rename_i a l;simp[eb]
 rw[h]at h2;simp only[e];omega;have e:(i+l.length-1)%l.length=i-1:=by rw[show i+l.length-1=i-1+l.length by omega,Nat.add_mod_right,cQ (by omega)]
 have h1:=ED hP hd hl (i:=i-1) (by omega);have h2:=ED hP hd hl (i:=i) a7;rw[show i-1+1=i by omega]at h1;rw[List.take_succ_eq_append_getElem a7,zQ]at h2;simp only[eb]at h2;simp only[e];omega
end Net
end Go.Pg
namespace Go.Pg
open Classical
def GD{α:Type}(f:α->Int):∀ {l:List α},l≠[]->∃m∈l,∀x∈l,f m<=f x
 | [],h=>b8 rfl h
 |a::l,_=>by
  by_cases e:l=[];exact⟨a,by simp,λx b=>by grind⟩;obtain⟨m,hm,h⟩:=GD f e
  grind
noncomputable def ind(p:Prop):Int:=if p then 1 else 0
def bl2{p:Prop}(h:p):ind p=1:=cr h
def tk{p:Prop}(h:¬p):ind p=0:=cc h
namespace Net
structure nK{ι:Type}(N:Net ι)(κ:Type) where
 c:ml ι->κ
 gA:ml ι->ml ι
 mem:∀h:ml ι,h.1∈N.E->(gA h).1∈N.E
 NY:∀h:ml ι,h.1∈N.E->c (gA h)=c h
 left:∀h:ml ι,h.1∈N.E->∀d,N.rR d->N.L d (gA h)=N.L d h
 closed:∀(C:κ) (A:qT->Int),eb N.og (λh=>if c h=C then A (N.src h)-A (N.dst h)else 0)=0
namespace nK
variable {ι κ:Type} {N:Net ι} (w:N.nK κ)
inductive mj:ml ι->ml ι->Prop
 |refl (h:ml ι):mj h h
 |gA {g h:ml ι} (hm:h.1∈N.E):mj g h->mj g (w.gA h)
 |Ej {g h:ml ι} (hm:h.1∈N.E):mj g (w.gA h)->mj g h
 |rev {g h:ml ι}:mj g h->mj g (rev h)
noncomputable def mv(C:κ)(e:ι):Int:=ind (w.c (e,N2)=C)-ind (w.c (e,No)=C)
def ux(C:κ):N.rR (w.mv C):=by
 intro A;have h:=w.closed C (λp=>if A p then 1 else 0);rw[D9]at h;have e:eb N.E (λe=>w.mv C e*((if A (N.b7 e)then 1 else 0)-(if A (N.a7 e)then 1 else 0)))=- eb N.E (λe=>(if w.c (e,No)=C then(if A (N.src (e,No))then(1:Int)else 0)-(if A (N.dst (e,No))then 1 else 0)else 0)+(if w.c (e,N2)=C then(if A (N.src (e,N2))then(1:Int)else 0)-(if A (N.dst (e,N2))then 1 else 0)else 0)):=by rw[<-GC];refine ns λe _=>?_;have s1:N.src (e,No)=N.b7 e:=rfl;have s2:N.src (e,N2)=N.a7 e:=rfl;have d:N.dst (e,No)=N.a7 e:=rfl;have f:N.dst (e,N2)=N.b7 e:=rfl;rw[s1,s2,d,f];unfold mv ind;by_cases a:w.c (e,No)=C<;>by_cases b:w.c (e,N2)=C<;>simp only[a,b,me,l4]<;>omega
 rw[e,h];rfl
def bg7(C:κ)(h:ml ι):dl (w.mv C) h=ind (w.c (Net.rev h)=C)-ind (w.c h=C):=by obtain⟨e,b⟩:=h;cases b;show-(w.mv C e)=_;unfold mv Net.rev;simp only[bB];omega;rfl
def Bw{C:κ}{e:ι}(h:∀b,w.c (e,b)≠C):w.mv C e=0:=by unfold mv;rw[tk (h N2),tk (h No)];rfl
def oc{f g h:ml ι}(a:w.mj f g)(b:w.mj g h):w.mj f h:=by
 induction b with
 |refl=>exact a
 |gA hm _ c=>exact .gA hm c
 |Ej hm _ c=>exact .Ej hm c
 |rev _ c=>exact .rev c
def rev_rev(h:ml ι):Net.rev (Net.rev h)=h:=by simp[Net.rev]
def xC{g h:ml ι}(a:w.mj g h):w.mj h g:=by
 induction a with
 |refl=>exact .refl _
 | @gA h' hm _ b=>exact oc w (.Ej hm (.refl _)) b
 | @Ej h' hm _ b=>exact oc w (.gA hm (.refl _)) b
 | @rev h' _ b=>exact oc w (by have:=mj.rev (w:=w) (.refl (Net.rev h'));rw[rev_rev]at this;exact this) b
def rB(e:ι)(b a:Bool):w.mj (e,b) (e,a):=by
 by_cases c:b=a;subst c;exact .refl _;have h:(e,a)=Net.rev (e,b):=by cases b<;>cases a<;>simp[Net.rev]at c⊢
 rw[h];exact .rev (.refl _)
def bf3{g h:ml ι}(a:w.mj g h)(c:g.1∈N.E):h.1∈N.E:=by
 induction a with
 |refl=>exact c
 |gA hm _ b=>exact w.mem _ b
 |Ej hm _ b=>exact hm
 |rev _ b=>exact b
variable (hP:N.wx)
include hP
theorem Bd(C:κ){g h:ml ι}(a:w.mj g h)(d:g.1∈N.E):N.L (w.mv C) h-ind (w.c h=C)=N.L (w.mv C) g-ind (w.c g=C):=by
 induction a with
 |refl=>rfl
 | @gA h' hm a b =>rw[w.NY _ hm,w.left _ hm _ (w.ux C)];exact b
 | @Ej h' hm a b =>rw[w.NY _ hm,w.left _ hm _ (w.ux C)]at b;exact b
 | @rev h' a b =>have hm:=w.bf3 a d;rw[Hi hP (w.ux C) hm,w.bg7];omega
omit hP in
theorem D'{C:κ}{g:ml ι}(d:∀h,w.c h=C->h.1∈N.E->w.mj g h){p:ι->Prop}[DecidablePred p](hp:∀t∈N.E,p t->∀b,¬w.mj g (t,b)):eb N.E (λt=>if p t then w.mv C t else 0)=0:=by refine uq λt a=>?_;by_cases c:p t;rw[cr c];exact w.Bw λb e=>hp t a c b (d (t,b) e a);rw[cc c]
theorem NM{t u:ι}(a:t∈N.E)(hu:u∈N.E){k:Int}(c1:N.eS t k)(c2:N.eS u k)(h:N.X t k+N.X t (k+1)=N.X u k+N.X u (k+1)):t=u:=by
 rcases g_ (N.X t k) (N.X u k)with h1|h1|h1
 have:=(O5 hP a hu c1 c2).2 (br h1);omega;exact hP.apart t a u hu k c1 c2 h1 (by omega);have:=(O5 hP hu a c2 c1).2 (br h1);omega
theorem CX(d:ι->Int)(hd:N.rR d){u:ι}(hu:u∈N.E){k:Int}(hc:N.eS u k):N.L d (u,No)=N.W d k u:=by have a:=sV hP hc;have c1:N.eS u (N.b7 u).2:=⟨cz _,a⟩;simp only[L,a];exact Uk hP hd hu c1 hc
theorem base{g:ml ι}(o:g.1∈N.E):∃cu,w.mj g cu/\cu.1∈N.E/\∀C,(∀h,w.c h=C->h.1∈N.E->w.mj g h)->N.L (w.mv C) cu=0:=by
 by_cases hex:∃e∈N.E,N.up e/\w.mj g (e,No);obtain⟨e,he,f,i⟩:=hex;have j:(N.E.filter λt=>Eo (N.eS t (N.b7 e).2/\w.mj g (t,No)))≠[]:=by intro cu;have:e∈(N.E.filter λt=>Eo (N.eS t (N.b7 e).2/\w.mj g (t,No))):=aU.2 ⟨he,by simp only[kA];exact⟨⟨cz _,f⟩,i⟩⟩;rw[cu]at this;cases this
 obtain⟨u,hu,d⟩:=GD (λt=>N.X t (N.b7 e).2+N.X t ((N.b7 e).2+1)) j;obtain⟨hu,a⟩:=aU.1 hu;simp only[kA]at a;refine⟨(u,No),a.2,hu,λC k=>?_⟩;rw[CX hP _ (w.ux C) hu a.1];refine w.D' k λt l hp b m=>?_;have:=d t (aU.2 ⟨l,by simp only[kA];exact⟨hp.1,w.oc m (w.rB t b No)⟩⟩);omega;refine⟨(g.1,No),w.oc (.refl g) (by obtain⟨e,b⟩:=g;exact w.rB e b No),o,λC k=>?_⟩;have n:¬N.up g.1:=λh=>hex ⟨g.1,o,h,by obtain⟨e,b⟩:=g;exact w.rB e b No⟩;simp only[L,n];refine w.D' (p:=λt=>N.eS t (N.b7 g.1).2/\N.X t (N.b7 g.1).2<N.M*(N.a7 g.1).1) k λt l hp b m=>?_;exact hex ⟨t,l,sV hP hp.1,w.oc m (w.rB t b No)⟩
theorem bE3{g:ml ι}(d:g.1∈N.E):∃cu,w.mj g cu/\cu.1∈N.E/\∀C,(∀h,w.c h=C->h.1∈N.E->w.mj g h)->∀h,w.mj g h->N.L (w.mv C) h=ind (w.c h=C)-ind (w.c cu=C):=by obtain⟨cu,h1,h2,e⟩:=w.base hP d;refine⟨cu,h1,h2,λC f h i=>?_⟩;have a:=w.Bd hP C h1 d;have b:=w.Bd hP C i d;have:=e C f;omega
theorem bp1{C D:κ}{g f:ml ι}(G:g.1∈N.E)(l:f.1∈N.E)(s:∀h,w.c h=C->h.1∈N.E->w.mj g h)(H:∀h,w.c h=D->h.1∈N.E->w.mj f h)(I:¬w.mj g f):N.L (w.mv C) f=0\/N.L (w.mv D) g=0:=by
 have m:=λh a hm e=>I (w.oc (s h e hm) (w.xC a));have q:=λh a hm e=>I (w.oc a (w.xC (H h e hm)));by_cases hex:∃e∈N.E,N.up e/\w.mj g (e,No);obtain⟨e,he,x,z⟩:=hex;have B:(N.E.filter λt=>Eo (N.eS t (N.b7 e).2/\(w.mj g (t,No)\/w.mj f (t,No))))≠[]:=by intro cu;have:e∈(N.E.filter λt=>Eo (N.eS t (N.b7 e).2/\(w.mj g (t,No)\/w.mj f (t,No)))):=aU.2 ⟨he,by simp only[kA];exact⟨⟨cz _,x⟩,br z⟩⟩;rw[cu]at this;cases this
 obtain⟨u,hu,j⟩:=GD (λt=>N.X t (N.b7 e).2+N.X t ((N.b7 e).2+1)) B;obtain⟨hu,i⟩:=aU.1 hu;simp only[kA]at i;rcases i.2 with d|d
 have J:N.L (w.mv D) (u,No)=0:=by rw[CX hP _ (w.ux D) hu i.1];refine w.D' H λt o hp b r=>?_;have:=j t (aU.2 ⟨o,by simp only[kA];exact⟨hp.1,bk (w.oc r (w.rB t b No))⟩⟩);omega
 have v:=w.Bd hP D d G;rw[tk (q _ d hu),tk (q _ (.refl _) G)]at v;omega;have J:N.L (w.mv C) (u,No)=0:=by rw[CX hP _ (w.ux C) hu i.1];refine w.D' s λt o hp b r=>?_;have:=j t (aU.2 ⟨o,by simp only[kA];exact⟨hp.1,br (w.oc r (w.rB t b No))⟩⟩);omega
 have v:=w.Bd hP C d l;rw[tk (m _ d hu),tk (m _ (.refl _) l)]at v;omega;have hz:∀(p:ι->Prop) [DecidablePred p],(∀t∈N.E,p t->N.up t)->eb N.E (λt=>if p t then w.mv C t else 0)=0  :=λp _ hp =>w.D' s λt o h b r=>hex ⟨t,o,hp t o h,w.oc r (w.rB t b No)⟩;have hd:=w.Bw λb=>m (f.1,b) (by obtain⟨e,K⟩:=f;exact w.rB e K b) l;unfold L;have nq:∀k u,N.W (w.mv C) k u=0:=λk u=>hz (λt=>N.eS t k/\N.X t k+N.X t (k+1)<N.X u k+N.X u (k+1)) λt _ h=>sV hP h.1;have z2:∀k n,N.vK (w.mv C) k n=0:=λk n=>hz (λt=>N.eS t k/\N.X t k<n) λt _ h=>sV hP h.1;have z3:∀k n,N.below (w.mv C) k n=0:=λk n=>hz (λt=>N.eS t (k-1)/\N.X t k<n) λt _ h=>sV hP h.1;rw[nq,z2,z3,hd];cases f.2<;>simp
end nK
end Net
end Go.Pg
namespace Go.Pg
open Classical
def tz{α:Type}(key F:α->Int):List α->Int
 |u::v::l=>F u*(key v-key u)+tz key F (v::l)
 |_=>0
def J6{α:Type}{key F G:α->Int}:∀ {l:List α},l.Pairwise (λa b=>key a<key b)->(∀u∈l,F u<=G u)->tz key F l<=tz key G l
 | [],_,_=>cz _
 | [_],_,_=>cz _
 |u::v::l,hs,h=>by have h1:=h u (by simp);have hk:=(aR.1 hs).1 v (by simp);have d:=J6 (l:=v::l) (aR.1 hs).2 λx c=>h x (by simp at c⊢;right;exact c);have:=bh h1 (show 0<=key v-key u by omega);simp only[tz];omega
def Ru{α:Type}{key F G:α->Int}:∀ {l:List α},l.Pairwise (λa b=>key a<key b)->(∀u∈l,F u<=G u)->∀u∈l,F u<G u->(∀z,l.getLast?=Q1 z->F z=G z)->tz key F l<tz key G l
 | [],_,_,u,hu,_,_=>by simp at hu
 | [a],_,_,u,hu,c,hz=>by grind[bL]
 |a::v::l,hs,h,u,hu,c,hz=>by
  have h1:=h a (by simp);have hk:=(aR.1 hs).1 v (by simp);have d:=(aR.1 hs).2;have h2:∀x∈v::l,F x<=G x:=λx e=>h x (by simp at e⊢;right;exact e);simp only[tz];rcases aD.1 hu with rfl|hu
  have f:=J6 d h2;have:=fS c (show 0<key v-key u by omega);omega;have f:=Ru d h2 u hu c (λz g=>hz z (by grind));have:=bh h1 (show 0<=key v-key a by omega);omega
def U3{α:Type}(key d:α->Int):∀(l:List α) (u:α) (w:Int) (F:α->Int) (pre:List α),w=eb pre d->(∀(p q:List α) (x:α),u::l=p++x::q->F x=w+eb p d+d x) ->
  ∀z,(u::l).getLast?=Q1 z->tz key F (u::l)+w*key u+eb (u::l) (λx=>d x*key x)=(w+eb (u::l) d)*key z
 | [],u,w,F,pre,_,_,z,hz=>by simp at hz;subst hz;simp only[tz,eb,gK];omega
 |v::l,u,w,F,pre,hw,dC,z,hz=>by
  rw[List.getLast?_cons_cons]at hz;have cu:=dC [] (v::l) u rfl;simp only[eb,Int.add_zero]at cu;have b:=U3 key d l v (w+d u) F (pre++[u]) (by rw[zQ,hw];simp[eb]) (λp q x a=>by
   have:=dC (u::p) q x (by rw[a];rfl);simp only[eb]at this;omega) z hz
  simp only[tz,eb]at b⊢
  grind[cW,gK]
namespace Net
variable {ι:Type} {N:Net ι} (hP:N.wx)
def key(N:Net ι)(k:Int)(e:ι):Int:=N.X e k+N.X e (k+1)
def aq1{d:ι->Int}(hd:N.rR d)(k:Int):eb N.E (λe=>if N.eS e k then d e else 0)=0:=by
 have h:=hd λp=>Eo (p.2<=k);refine Eq.trans ?_ h;refine ns λe he=>?_;simp only[kA];have ho:=N.ord e he;by_cases c1:(N.b7 e).2<=k<;>by_cases c2:(N.a7 e).2<=k;have:¬N.eS e k:=λh=>by have:=h.2;omega
 simp[c1,c2,this];have:N.eS e k:=⟨c1,by omega⟩;simp[c1,c2,this];omega;have:¬N.eS e k:=λh=>c1 h.1;simp[c1,c2,this]
include hP
theorem strip(k:Int):∃l:List ι,l.Perm (N.E.filter λe=>Eo (N.eS e k))/\l.Pairwise (λa b=>N.key k a<N.key k b):=by
 refine⟨(N.E.filter λe=>Eo (N.eS e k)).mergeSort (λa b=>Eo (N.key k a<=N.key k b)),cP ..,?_⟩;have h1:=List.pairwise_mergeSort (le:=λa b=>Eo (N.key k a<=N.key k b)) (λa b c h1 h2=>by simp only[kA]at *;omega) (λa b=>by simp only[bC,kA];omega) (N.E.filter λe=>Eo (N.eS e k));have h2:((N.E.filter λe=>Eo (N.eS e k)).mergeSort (λa b=>Eo (N.key k a<=N.key k b))).Nodup:=(cP _ _).nodup_iff.2 (hP.nodup.filter _);have f:∀x∈(N.E.filter λe=>Eo (N.eS e k)).mergeSort (λa b=>Eo (N.key k a<=N.key k b)),x∈N.E/\N.eS x k:=λx g=>by have:=(cP _ _).mem_iff.1 g;rw[aU]at this;simpa using this
 have m:=bM.1 h1;have n:=bM.1 h2;refine bM.2 λi j a7 hj d=>?_;have a:=m i j a7 hj d;have b:=n i j a7 hj d;simp only[kA]at a;have m1:=f _ (ay a7);have m2:=f _ (ay hj);have:N.key k _≠N.key k _:=λh=>b (nK.NM hP m1.1 m2.1 m1.2 m2.2 h);omega
theorem Ot{d:ι->Int}(hd:N.rR d){k:Int}{l:List ι}(hp:l.Perm (N.E.filter λe=>Eo (N.eS e k)))(hs:l.Pairwise (λa b=>N.key k a<N.key k b)) :
  eb N.E (λe=>if N.eS e k then d e*N.key k e else 0)=- tz (N.key k) (λu=>N.L d (u,N2)) l/\∀z,l.getLast?=Q1 z->N.L d (z,N2)=0:=by
 have i:∀u∈l,u∈N.E/\N.eS u k:=λu hu=>by have:=hp.mem_iff.1 hu;rw[aU]at this;simpa using this
 have f:∀F:ι->Int,eb l F=eb N.E (λe=>if N.eS e k then F e else 0):=λF=>by rw[PK hp,Om];exact ns λe _=>by simp
 have dC:∀(p q:List ι) (x:ι),l=p++x::q->N.L d (x,N2)=eb p d+d x:=by
  intro p q x hl;have n:=i x (by rw[hl];simp);have r:N.L d (x,N2)=N.W d k x+d x:=by have:=Hi hP hd (h:=(x,No)) n.1;rw[nK.CX hP _ hd n.1 n.2]at this;exact this
  have s:N.W d k x=eb l (λt=>if N.key k t<N.key k x then d t else 0):=by rw[f];refine ns λt _=>?_;by_cases c:N.eS t k;simp only[c,qj,me];rfl;simp[c]
  have j:=hs;rw[hl]at j;obtain⟨_,s2,o⟩:=List.pairwise_append.1 j;have v:eb l (λt=>if N.key k t<N.key k x then d t else 0)=eb p d:=by
   rw[hl,zQ];have w:eb p (λt=>if N.key k t<N.key k x then d t else 0)=eb p d:=ns λt m=>cr (o t m x (by simp));have a2:eb (x::q) (λt=>if N.key k t<N.key k x then d t else 0)=0:=uq λt m=>by
    rcases aD.1 m with rfl|m
    exact cc (by omega);have:=(aR.1 s2).1 t m;exact cc (by omega)
   omega
  omega
 have g:eb l d=0:=by rw[f];exact aq1 hd k
 constructor;rw[<-f];cases l;simp[eb,tz];rename_i u l;obtain⟨z,hz⟩:∃z,(u::l).getLast?=Q1 z:=by
  cases hz:(u::l).getLast? with
  |none=>simp at hz
  |some z=>exact⟨z,rfl⟩
 have:=U3 (N.key k) d l u 0 (λu=>N.L d (u,N2)) [] rfl (λp q x hl=>by
  have:=dC p q x hl;omega) z hz
 rw[g]at this;omega;intro z hz;cases l;simp at hz;rename_i u l;obtain⟨ys,e⟩:=List.getLast?_eq_some_iff.1 hz;have:=dC ys [] z (by rw[e]);rw[e,zQ]at g;simp only[eb]at g;omega
end Net
end Go.Pg
namespace Go.Pg
open Classical
def L_{α:Type}{f g:α->Int}:∀ {l:List α},(∀a∈l,f a<=g a)->eb l f<=eb l g
 | [],_=>cz _
 |a::l,h=>by have h1:=h a (by simp);have h2:=L_ (f:=f) (g:=g) (l:=l) λb c=>h b (by simp[c]);simp only[eb];omega
def ap8{α:Type}{f g:α->Int}:∀ {l:List α},(∀a∈l,f a<=g a)->∀a∈l,f a<g a->eb l f<eb l g
 | [],_,a,ha,_=>by simp at ha
 |b::l,h,a,ha,c=>by
  have h1:=h b (by simp);have h2:∀x∈l,f x<=g x:=λx d=>h x (by simp[d]);simp only[eb];rcases aD.1 ha with rfl|ha
  have:=L_ h2;omega;have:=ap8 h2 a ha c;omega
namespace Net
variable {ι κ:Type} {N:Net ι} (hP:N.wx)
def e8(N:Net ι)(e:ι):Int:=((N.b7 e).1+(N.a7 e).1)*((N.a7 e).2-(N.b7 e).2)
def vV(N:Net ι)(h:ml ι):Int:=(N.src h).1*(N.dst h).2-(N.dst h).1*(N.src h).2
noncomputable def tN(w:N.nK κ)(C:κ):Int:=eb N.og (λh=>if w.c h=C then N.vV h else 0)
def bG8(a b c d:Int):a*d-b*c-(a*c-b*d)=(a+b)*(d-c):=by rw[gK,cW,cW];omega
def bW4(w:N.nK κ)(C:κ):tN w C=- eb N.E (λe=>w.mv C e*N.e8 e):=by
 have h:=w.closed C (λp=>p.1*p.2);have e:tN w C-eb N.og (λh=>if w.c h=C then(N.src h).1*(N.src h).2-(N.dst h).1*(N.dst h).2 else 0)=- eb N.E (λe=>w.mv C e*N.e8 e):=by unfold tN;rw[<-yI,D9,<-GC];refine ns λe _=>?_;have mJ:=bG8 (N.b7 e).1 (N.a7 e).1 (N.b7 e).2 (N.a7 e).2;have s1:N.src (e,No)=N.b7 e:=rfl;have s2:N.src (e,N2)=N.a7 e:=rfl;have d:N.dst (e,No)=N.a7 e:=rfl;have f:N.dst (e,N2)=N.b7 e:=rfl;unfold vV e8 nK.mv ind;rw[s1,s2,d,f,<-mJ];by_cases a:w.c (e,No)=C<;>by_cases b:w.c (e,N2)=C<;>simp only[a,b,me,l4]<;>omega
 rw[<-e,h];omega
def wa(e:ι)(N:Net ι)(x:Int):Int:=max (N.b7 e).2 (min (N.a7 e).2 x)
def AO(N:Net ι)(e:ι)(k:Int):Int:=2*(N.M*(N.b7 e).1)*(k-(N.b7 e).2)+N.s e*((k-(N.b7 e).2)*(k-(N.b7 e).2))
def bb1(e:ι)(k:Int):N.AO e (k+1)-N.AO e k=N.key k e:=by
 unfold AO key X;have b:k+1-(N.b7 e).2=(k-(N.b7 e).2)+1:=by omega
 rw[b];generalize k-(N.b7 e).2=t;generalize N.M*(N.b7 e).1=a;generalize N.s e=s;have h1:(t+1)*(t+1)=t*t+t+t+1:=by rw[gK,iC,gL,Int.one_mul];omega
 rw[h1];simp only[iC,gL];omega
def aA7{e:ι}(he:e∈N.E){a:Int}(ha:a<=(N.b7 e).2):∀n:Nat,eb (aN n) (λj:Nat=>if N.eS e (a+j)then N.key (a+j) e else 0)=N.AO e (wa e N (a+n))
 | 0=>by
  have ho:=N.ord e he;have:wa e N (a+(0:Nat))=(N.b7 e).2:=by unfold wa;omega
  rw[this];simp[eb,AO]
 |n+1=>by
  have ho:=N.ord e he;rw[dH,zQ,aA7 he ha n];simp only[eb];by_cases c:N.eS e (a+n);have h1:=c.1;have h2:=c.2;have c1:wa e N (a+n)=a+n:=by unfold wa;omega
  have c2:wa e N (a+(n+1:Nat))=a+n+1:=by unfold wa;omega
  have:=bb1 (N:=N) e (a+n);rw[cr c,c1,c2];omega;have c2:wa e N (a+(n+1:Nat))=wa e N (a+n):=by unfold eS at c;unfold wa;omega
  rw[cc c,c2];omega
def aS3{e:ι}(he:e∈N.E):N.AO e (N.a7 e).2=N.M*N.e8 e:=by
 unfold AO e8;rcases N.ord e he with ho|⟨ho,_⟩
 have hs:=N.AB e he ho;rw[<-dh (N.s e),hs];generalize(N.a7 e).2-(N.b7 e).2=t;have h2:2*(N.M*(N.b7 e).1)+N.M*((N.a7 e).1-(N.b7 e).1)=N.M*((N.b7 e).1+(N.a7 e).1):=by rw[cW,iC];omega
 rw[<-gK,h2,dh];rw[<-ho];simp
def bounds(N:Net ι):∃(a:Int) (n:Nat),∀e∈N.E,a<=(N.b7 e).2/\(N.a7 e).2<=a+n:=by
 generalize N.E=E
 induction E with
 |nil=>exact⟨0,0,λe h=>by simp at h⟩
 |cons e E b=>
  obtain⟨a,n,h⟩:=b;refine⟨min a (N.b7 e).2,(max (a+n) (N.a7 e).2-min a (N.b7 e).2).toNat,λf hf=>?_⟩;rcases aD.1 hf with rfl|hf
  omega;have:=h f hf;omega
include hP
noncomputable def B9(k:Int):List ι:=(strip hP k).choose
theorem Ds(k:Int):(B9 hP k).Perm (N.E.filter λe=>Eo (N.eS e k))/\(B9 hP k).Pairwise (λa b=>N.key k a<N.key k b):=(strip hP k).choose_spec
theorem NC{k:Int}{e:ι}:e∈B9 hP k↔e∈N.E/\N.eS e k:=by rw[(Ds hP k).1.mem_iff,aU];simp
theorem Wj:∃(a:Int) (n:Nat),(∀e∈N.E,a<=(N.b7 e).2/\(N.a7 e).2<=a+n)/\∀ {κ:Type} (w:N.nK κ) (C:κ),N.M*tN w C=eb (aN n) (λj:Nat=>tz (N.key (a+j)) (λu=>N.L (w.mv C) (u,N2)) (B9 hP (a+j))):=by
 obtain⟨a,n,c⟩:=bounds N;refine⟨a,n,c,λw C=>?_⟩;have d:N.M*eb N.E (λe=>w.mv C e*N.e8 e)=eb N.E (λe=>eb (aN n) (λj:Nat=>if N.eS e (a+j)then w.mv C e*N.key (a+j) e else 0)):=by
  rw[<-JQ];refine ns λe he=>?_;have b:=c e he;have ho:=N.ord e he;have h1:=aA7 he b.1 n;have c1:wa e N (a+n)=(N.a7 e).2:=by unfold wa;omega
  rw[c1,aS3 he]at h1;have h2:eb (aN n) (λj:Nat=>if N.eS e (a+j)then w.mv C e*N.key (a+j) e else 0)=eb (aN n) (λj:Nat=>w.mv C e*(if N.eS e (a+j)then N.key (a+j) e else 0)):=ns λj _=>by split<;>simp
  rw[h2,JQ,h1,<-dh,<-dh,dV N.M]
 rw[bW4,cK,d,J2,<-GC];refine ns λj _=>?_;obtain⟨mJ,nj⟩:=Ds hP (a+j);have:=(Ot hP (w.ux C) mJ nj).1;show-eb N.E (λe=>if N.eS e (a+j)then w.mv C e*N.key (a+j) e else 0)=_;omega
theorem aY9{κ b:Type}(w:N.nK κ)(w':N.nK b){C:κ}{D:b}(h:∀e∈N.E,N.up e->N.L (w.mv C) (e,N2)<=N.L (w'.mv D) (e,N2)){u:ι}(hu:u∈N.E)(c:N.up u)(d:N.L (w.mv C) (u,N2)<N.L (w'.mv D) (u,N2)):tN w C<tN w' D:=by
 obtain⟨a,n,f,hs⟩:=Wj hP;have h1:=hs w C;have h2:=hs w' D;have g:=f u hu;have hc:N.eS u (N.b7 u).2:=⟨cz _,c⟩;have hj:((N.b7 u).2-a).toNat<n:=by unfold up at c;omega
 have i:a+(((N.b7 u).2-a).toNat:Int)=(N.b7 u).2:=by omega
 have:N.M*tN w C<N.M*tN w' D:=by
  rw[h1,h2];have hle:∀k,∀x∈B9 hP k,N.L (w.mv C) (x,N2)<=N.L (w'.mv D) (x,N2):=λk x l=>by have:=(NC hP).1 l;exact h x this.1 (sV hP this.2)
  refine ap8 (λj _=>J6 (Ds hP _).2 (hle _)) ((N.b7 u).2-a).toNat (gw.2 hj) ?_;rw[i];refine Ru (Ds hP _).2 (hle _) u ((NC hP).2 ⟨hu,hc⟩) d λz hz=>?_;obtain⟨mJ,nj⟩:=Ds hP (N.b7 u).2;rw[(Ot hP (w.ux C) mJ nj).2 z hz,(Ot hP (w'.ux D) mJ nj).2 z hz]
 exact iQ this (dv N.p7)
end Net
end Go.Pg
namespace Go.Pg
open Classical
def an6{α:Type}(key:α->Int):∀l:List α,tz key (λ_=>0) l=0
 | []=>rfl
 | [_]=>rfl
 |u::v::l=>by simp only[tz,an6 key (v::l)];omega
namespace Net
namespace nK
variable {ι κ:Type} {N:Net ι} (w:N.nK κ) (hP:N.wx)
def CR(C:κ)(g:ml ι):Prop:=∀h,w.c h=C->h.1∈N.E->w.mj g h
structure yn(N:Net ι)(k:Int)(S:ι->Prop):Prop where
 eS:∀t∈N.E,S t->N.eS t k
 ng:∀t∈N.E,∀s∈N.E,S t->N.eS s k->N.key k s<N.key k t->S s
noncomputable def qg(C:κ)(S:ι->Prop):Int:=eb N.E (λt=>if S t then w.mv C t else 0)
include hP
theorem EC{u:ι}(hu:u∈N.E){k:Int}(hc:N.eS u k)(C:κ):N.L (w.mv C) (u,N2)=w.qg C (λt=>N.eS t k/\N.key k t<=N.key k u):=by
 have e:N.L (w.mv C) (u,N2)=N.W (w.mv C) k u+w.mv C u:=by have:=Hi hP (w.ux C) (h:=(u,No)) hu;rw[CX hP _ (w.ux C) hu hc]at this;exact this
 rw[e,<-B7 (w.mv C) hP.nodup hu];unfold W qg;rw[<-ss];refine ns λt f=>?_;by_cases c:t=u;subst c;have h1:¬(N.eS t k/\N.X t k+N.X t (k+1)<N.X t k+N.X t (k+1)):=λh=>by have:=h.2;omega
 have h2:N.eS t k/\N.key k t<=N.key k t:=⟨hc,cz _⟩;rw[cc h1,cr rfl,cr h2];omega;rw[cc c];by_cases h1:N.eS t k/\N.X t k+N.X t (k+1)<N.X u k+N.X u (k+1);have h2:N.eS t k/\N.key k t<=N.key k u:=⟨h1.1,by have:=h1.2;unfold key;omega⟩;rw[cr h1,cr h2];omega;have h2:¬(N.eS t k/\N.key k t<=N.key k u):=by rintro ⟨a,b⟩;have d:N.key k t≠N.key k u:=λh=>c (NM hP f hu a hc h);exact h1 ⟨a,by unfold key at b d;omega⟩
 rw[cc h1,cc h2];rfl
theorem Ue{u:ι}(hu:u∈N.E){k:Int}(hc:N.eS u k)(C:κ):N.L (w.mv C) (u,No)=w.qg C (λt=>N.eS t k/\N.key k t<N.key k u):=by rw[CX hP _ (w.ux C) hu hc];refine ns λt a=>?_;by_cases h:N.eS t k/\N.key k t<N.key k u;have h':N.eS t k/\N.X t k+N.X t (k+1)<N.X u k+N.X u (k+1):=h;rw[cr h,cr h'];have h':¬(N.eS t k/\N.X t k+N.X t (k+1)<N.X u k+N.X u (k+1)):=h;rw[cc h,cc h']
omit hP in
theorem Rl(k:Int)(x:Int):yn N k (λt=>N.eS t k/\N.key k t<=x) :=⟨λt _ h=>h.1,λt _ s _ h hs a=>⟨hs,by have:=h.2;omega⟩⟩
omit hP in
theorem P9(k:Int)(x:Int):yn N k (λt=>N.eS t k/\N.key k t<x) :=⟨λt _ h=>h.1,λt _ s _ h hs a=>⟨hs,by have:=h.2;omega⟩⟩
theorem last{g:ml ι}{k:Int}{S:ι->Prop}(h:yn N k S) :
  (∀t∈N.E,S t->∀b,¬w.mj g (t,b))\/∃v∈N.E,S v/\N.eS v k/\w.mj g (v,No)/\∀t∈N.E,S t->N.key k v<N.key k t->∀b,¬w.mj g (t,b):=by
 by_cases c:(N.E.filter λt=>Eo (S t/\w.mj g (t,No)))=[];left;intro t e hp b f;have:t∈(N.E.filter λt=>Eo (S t/\w.mj g (t,No))):=aU.2 ⟨e,by simp only[kA];exact⟨hp,w.oc f (w.rB t b No)⟩⟩;rw[c]at this;cases this;right;obtain⟨u,hu,d⟩:=GD (λt=>- N.key k t) c;obtain⟨hu,a⟩:=aU.1 hu;simp only[kA]at a;refine⟨u,hu,a.1,h.eS u hu a.1,a.2,λt e hp i b f=>?_⟩;have:=d t (aU.2 ⟨e,by simp only[kA];exact⟨hp,w.oc f (w.rB t b No)⟩⟩);omega
theorem AE{C:κ}{g:ml ι}(i:w.CR C g){k:Int}{S:ι->Prop}(e:yn N k S){v:ι}(hv:v∈N.E)(c:S v)(j:∀t∈N.E,S t->N.key k v<N.key k t->∀b,¬w.mj g (t,b)):w.qg C S=N.L (w.mv C) (v,N2):=by
 have hc:=e.eS v hv c;rw[w.EC hP hv hc];refine ns λt d=>?_;by_cases h1:S t;rw[cr h1];by_cases h2:N.eS t k/\N.key k t<=N.key k v;rw[cr h2];rw[cc h2];have f:N.key k v<N.key k t:=by
  rcases gr (N.key k v) (N.key k t)with h|h
  exact h;exact b8 ⟨e.eS t d h1,h⟩ h2
 exact w.Bw λb l=>j t d h1 f b (i (t,b) l d);rw[cc h1,cc];rintro ⟨a,b⟩;rcases gr (N.key k t) (N.key k v)with h|h
 exact h1 (e.ng v hv t d c a h);have:=NM hP d hv a hc (show N.key k t=N.key k v by omega);rw[this]at h1;exact h1 c
omit hP in
theorem Cr{C:κ}{g:ml ι}(a:w.CR C g){S:ι->Prop}(c:∀t∈N.E,S t->∀b,¬w.mj g (t,b)):w.qg C S=0:=w.D' a c
structure Bb(C:κ)(g:ml ι):Prop where
 mem:g.1∈N.E
 part:w.CR C g
 own:∀h,w.mj g h->N.L (w.mv C) h=ind (w.c h=C)
omit hP in
theorem VT(p:Prop):ind p=0\/ind p=1:=by unfold ind;split<;>simp
theorem OW{C:κ}{g:ml ι}(hO:w.Bb C g){k:Int}{S:ι->Prop}(c:yn N k S):w.qg C S=0\/w.qg C S=1:=by
 rcases w.last hP (g:=g) c with h|⟨v,hv,a,hc,b,d⟩
 exact br (w.Cr hO.part h);rw[w.AE hP hO.part c hv a d,hO.own _ (w.oc b (w.rB v No N2))];exact VT _
theorem bE2{C:κ}{g:ml ι}(k:g.1∈N.E)(b:w.CR C g)(ha:0<tN w C):w.Bb C g:=by
 obtain⟨cu,h1,h2,l⟩:=w.bE3 hP k;refine⟨k,b,?_⟩;by_cases c:w.c cu=C;have hle:∀e∈N.E,N.up e->N.L (w.mv C) (e,N2)<=0:=by
  intro e he d;have hc:N.eS e (N.b7 e).2:=⟨cz _,d⟩;have m:=Rl (N:=N) (N.b7 e).2 (N.key (N.b7 e).2 e);rw[w.EC hP he hc];rcases w.last hP (g:=g) m with h|⟨v,hv,f,o,i,p⟩
  rw[w.Cr b h];exact cz _;rw[w.AE hP b m hv f p,l C b _ (w.oc i (w.rB v No N2)),bl2 c];rcases VT (w.c (v,N2)=C)with h|h<;>omega
 obtain⟨a,n,_,hs⟩:=Wj hP;have s:=hs w C;have q:eb (aN n) (λj:Nat=>tz (N.key (a+j)) (λu=>N.L (w.mv C) (u,N2)) (B9 hP (a+j)))<=eb (aN n) (λ_=>0):=by refine L_ λj _=>?_;rw[<-an6 (N.key (a+j)) (B9 hP (a+j))];exact J6 (Ds hP _).2 λu hu=>by have:=(NC hP).1 hu;exact hle u this.1 (sV hP this.2)
 rw[uq (λ_ _=>rfl)]at q;have:=cw N.p7 ha;omega;intro h r;rw[l C b h r,tk c];omega
theorem inside{C D:κ}{g p:ml ι}(c:w.Bb C g)(l:w.Bb D p)(hn:¬w.mj g p)(ha:N.L (w.mv C) p=0){k:Int}{S:ι->Prop}(m:yn N k S)(h1:w.qg C S=1)(h2:w.qg D S=1):tN w C<tN w D:=by
 have q:=λh a hm e=>hn (w.oc (c.part h e hm) (w.xC a));have r:=λh a hm e=>hn (w.oc a (w.xC (l.part h e hm)));have z:∀h,w.mj p h->h.1∈N.E->N.L (w.mv C) h=0:=λh a hm=>by have v:=w.Bd hP C a l.mem;rw[tk (q _ a hm),tk (q _ (.refl _) l.mem)]at v;omega
 have B:∀h,w.mj g h->h.1∈N.E->N.L (w.mv D) h=N.L (w.mv D) g:=λh a hm=>by have v:=w.Bd hP D a c.mem;rw[tk (r _ a hm),tk (r _ (.refl _) c.mem)]at v;omega
 have f:∀ {k:Int} {S:ι->Prop},yn N k S->w.qg C S=1->w.qg D S=N.L (w.mv D) g/\∃v∈N.E,N.eS v k/\w.mj g (v,No):=by
  intro k S m h1;rcases w.last hP (g:=g) m with h|⟨v,hv,G,hc,d,H⟩
  rw[w.Cr c.part h]at h1;cases h1;rw[w.AE hP c.part m hv G H]at h1;refine⟨?_,v,hv,hc,d⟩;have P:∀t∈N.E,S t->N.key k v<N.key k t->∀b,¬w.mj p (t,b):=by intro t i I Q b hb;have R:=m.eS t i I;have e1:=z _ (w.oc hb (w.rB t b No)) i;rw[w.Ue hP i R]at e1;have e2:=w.AE hP c.part (P9 (N:=N) k (N.key k t)) hv ⟨hc,Q⟩ (λs hs J K b2=>H s hs (m.ng t i s hs I J.1 J.2) K b2);omega
  rw[w.AE hP l.part m hv G P];exact B _ (w.oc d (w.rB v No N2)) hv
 obtain⟨hb,v,hv,d,hcn⟩:=f m h1;have hb1:N.L (w.mv D) g=1:=by omega
 have hle:∀e∈N.E,N.up e->N.L (w.mv C) (e,N2)<=N.L (w.mv D) (e,N2):=by
  intro e he hup;have hc:N.eS e (N.b7 e).2:=⟨cz _,hup⟩;have hW:=Rl (N:=N) (N.b7 e).2 (N.key (N.b7 e).2 e);rw[w.EC hP he hc,w.EC hP he hc];rcases w.OW hP c hW with h|h
  rcases w.OW hP l hW with h'|h'<;>omega
  have:=(f hW h).1;omega
 have hne:(N.E.filter λt=>Eo (N.eS t k/\w.mj g (t,No)))≠[]:=by intro cu;have:v∈(N.E.filter λt=>Eo (N.eS t k/\w.mj g (t,No))):=aU.2 ⟨hv,by simp only[kA];exact⟨d,hcn⟩⟩;rw[cu]at this;cases this
 obtain⟨u,hu,j⟩:=GD (λt=>N.key k t) hne;obtain⟨hu,n⟩:=aU.1 hu;simp only[kA]at n;have hCu:w.qg C (λt=>N.eS t k/\N.key k t<N.key k u)=0:=w.Cr c.part λt i hp b o=>by have:=j t (aU.2 ⟨i,by simp only[kA];exact⟨hp.1,w.oc o (w.rB t b No)⟩⟩);omega
 have M:w.qg D (λt=>N.eS t k/\N.key k t<N.key k u)=1:=by rw[<-w.Ue hP hu n.1,B _ n.2 hu,hb1]
 rcases w.last hP (g:=p) (P9 (N:=N) k (N.key k u))with h|⟨x,hx,hSx,O,hcnx,hnx⟩
 rw[w.Cr l.part h]at M;cases M;refine aY9 hP w w hle hx (sV hP O) ?_;have e1:=w.AE hP l.part (P9 (N:=N) k (N.key k u)) hx hSx hnx;have e2:N.L (w.mv C) (x,N2)=0:=by rw[w.EC hP hx O];refine w.Cr c.part λt i hp b o=>?_;have:=j t (aU.2 ⟨i,by simp only[kA];exact⟨hp.1,w.oc o (w.rB t b No)⟩⟩);omega
 omega
theorem bd9{C D:κ}{g q:ml ι}(d:w.Bb C g)(f:w.Bb D q)(o:C≠D){k:Int}{S:ι->Prop}(i:yn N k S)(h1:w.qg C S=1)(h2:w.qg D S=1):tN w C≠tN w D:=by
 by_cases j:w.mj g q;exfalso;have p:=λh e hm=>w.oc j (f.part h e hm);rcases w.last hP (g:=g) i with h|⟨v,hv,l,hc,m,n⟩
 rw[w.Cr d.part h]at h1;cases h1;rw[w.AE hP d.part i hv l n,d.own _ (w.oc m (w.rB v No N2))]at h1;rw[w.AE hP p i hv l n,f.own _ (w.oc (w.xC j) (w.oc m (w.rB v No N2)))]at h2;have a:w.c (v,N2)=C:=by by_cases c:w.c (v,N2)=C;exact c;rw[tk c]at h1;cases h1
 have b:w.c (v,N2)=D:=by by_cases c:w.c (v,N2)=D;exact c;rw[tk c]at h2;cases h2
 exact o (a.symm.trans b);rcases w.bp1 hP d.mem f.mem d.part f.part j with h|h
 have:=w.inside hP d f j h i h1 h2;omega;have:=w.inside hP f d (λc=>j (w.xC c)) h i h2 h1;omega
end nK
end Net
end Go.Pg
namespace Go.Ab
open Go
def qZ(a b c d:bs):Prop:=oK a b c d=0\/(oK a b c d=1/\∃p,(p=a\/p=b)/\(p=c\/p=d))
theorem Ft{a b c:bs}(ha:d' a=No)(d:d' b=No)(hc:d' c=No):sP a b c=fr a b c:=by unfold sP;simp[ha,d,hc]
theorem aU4{a b c d e f:bs}(h:(sP a b c<=0/\0<=sP d e f)\/(0<=sP a b c/\sP d e f<=0)):l7 a b c*l7 d e f<=0:=by grind[l7]
theorem Oe{a b c:bs}:l7 a b c=0↔sP a b c=0:=by grind[l7]
def pe(M s:Int)(a:bs)(y:Int):Int:=M*a.1+s*(y-a.2)
def bU8{M s:Int}{a b p:bs}(hs:s*(b.2-a.2)=M*(b.1-a.1)):M*fr a b p=(b.2-a.2)*(pe M s a p.2-M*p.1):=by grind[fr,pe,cW,dh,dV]
def xu{M s:Int}{a b p:bs}(c:0<M)(hu:a.2<b.2)(hs:s*(b.2-a.2)=M*(b.1-a.1)) :
  (0<fr a b p↔M*p.1<pe M s a p.2)/\(fr a b p<0↔pe M s a p.2<M*p.1):=by
 have h:=bU8 (p:=p) hs;generalize fr a b p=x at h;generalize hz:pe M s a p.2-M*p.1=z at h;have d:0<b.2-a.2:=by omega
 constructor;constructor;intro e;have:=cw c e;rw[h]at this;have:=bX this d;omega;intro f;have:0<(b.2-a.2)*z:=cw d (by omega);rw[<-h]at this;exact bX this c;constructor;intro e;have:M*x<0:=iR c e;rw[h]at this;have:0<(b.2-a.2)*(-z):=by rw[cK];omega
 have:=bX this d;omega;intro f;have:0<(b.2-a.2)*(-z):=cw d (by omega);rw[cK,<-h,<-cK]at this;have:=bX this c;omega
theorem Jl{M s:Int}{a b:bs}(hs:s*(b.2-a.2)=M*(b.1-a.1)):pe M s a b.2=M*b.1:=by grind[pe,cW]
theorem Jd(M s:Int)(a:bs):pe M s a a.2=M*a.1:=by simp[pe]
def bT5(M s t:Int)(a c:bs)(y z:Int):(pe M s a z-pe M t c z)-(pe M s a y-pe M t c y)=(s-t)*(z-y):=by grind[pe,lI,cW]
def M6{a b c d:bs}(ha:d' a=No)(g:d' b=No)(hc:d' c=No)(hd:d' d=No)(e:a≠b)(f:c≠d)
  (h1:(fr a b c<=0/\0<=fr a b d)\/(0<=fr a b c/\fr a b d<=0)) (h2:(fr c d a<=0/\0<=fr c d b)\/(0<=fr c d a/\fr c d b<=0)) (h:¬(fr a b c=0/\fr a b d=0)):oK a b c d=1:=by grind[oK,mh,pt,Ft,l7,Oe,aU4,bw,aG]
section
variable {M s t:Int} {a b c d:bs} (hM:0<M) (ha:d' a=No) (hb:d' b=No) (hc:d' c=No) (hd:d' d=No) (hu:a.2<b.2) (hv:c.2<d.2)
 (hs:s*(b.2-a.2)=M*(b.1-a.1)) (ht:t*(d.2-c.2)=M*(d.1-c.1))
def oV(M s t:Int)(a c:bs)(y:Int):Int:=pe M s a y-pe M t c y
theorem u7(M s t:Int)(a c:bs)(y z:Int):oV M s t a c z-oV M s t a c y=(s-t)*(z-y):=bT5 M s t a c y z
include hM ha hb hc hd hu hv hs ht
theorem av9:(oV M s t a c c.2=pe M s a c.2-M*c.1)/\(oV M s t a c d.2=pe M s a d.2-M*d.1)/\(oV M s t a c a.2=M*a.1-pe M t c a.2)/\(oV M s t a c b.2=M*b.1-pe M t c b.2):=by grind[oV,Jd,Jl]
theorem J8(h1:(oV M s t a c c.2<=0/\0<=oV M s t a c d.2)\/(0<=oV M s t a c c.2/\oV M s t a c d.2<=0))(h2:(oV M s t a c a.2<=0/\0<=oV M s t a c b.2)\/(0<=oV M s t a c a.2/\oV M s t a c b.2<=0))(e:¬(oV M s t a c c.2=0/\oV M s t a c d.2=0)):oK a b c d=1:=by obtain⟨f,g,i,j⟩:=av9 hM ha hb hc hd hu hv hs ht;have l2:=xu (p:=c) hM hu hs;have mi:=xu (p:=d) hM hu hs;have pG:=xu (p:=a) hM hv ht;have k:=xu (p:=b) hM hv ht;exact M6 ha hb hc hd (λh=>by rw[h]at hu;omega) (λh=>by rw[h]at hv;omega) (by omega) (by omega) (by omega)
theorem PC{p:bs}(h1:p=a\/p=b)(h2:p=c\/p=d):oV M s t a c p.2=0:=by grind[pe,Jd,Jl,oV]
theorem aN9(hm:qZ a b c d){k:Int}(g:a.2<=k)(h:k+1<=b.2)(i:c.2<=k)(j:k+1<=d.2):¬(oV M s t a c k<0/\0<oV M s t a c (k+1))/\¬(0<oV M s t a c k/\oV M s t a c (k+1)<0):=by
 have st:=u7 M s t a c k (k+1);have rO:=u7 M s t a c a.2 k;have b4:=u7 M s t a c c.2 k;have se:=u7 M s t a c (k+1) b.2;have l:=u7 M s t a c (k+1) d.2;have m:(s-t)*(k+1-k)=s-t:=by grind
 constructor;rintro ⟨h1,h2⟩;have hp:0<=s-t:=by omega
 have mJ:=aL hp (show 0<=k-a.2 by omega);have nj:=aL hp (show 0<=k-c.2 by omega);have rM:=aL hp (show 0<=b.2-(k+1)by omega);have s_:=aL hp (show 0<=d.2-(k+1)by omega);have e:=J8 hM ha hb hc hd hu hv hs ht (br ⟨by omega,by omega⟩) (br ⟨by omega,by omega⟩) (by omega);rcases hm with hm|⟨_,p,fa,gb⟩<;>grind[PC]
 rintro ⟨h1,h2⟩;have hp:0<=t-s:=by omega
 have mJ:=aL hp (show 0<=k-a.2 by omega);have nj:=aL hp (show 0<=k-c.2 by omega);have rM:=aL hp (show 0<=b.2-(k+1)by omega);have s_:=aL hp (show 0<=d.2-(k+1)by omega);have f:∀x,(t-s)*x=- ((s-t)*x):=λx=>by grind[im]
 rw[f]at mJ nj rM s_;have e:=J8 hM ha hb hc hd hu hv hs ht (bk ⟨by omega,by omega⟩) (bk ⟨by omega,by omega⟩) (by omega);rcases hm with hm|⟨_,p,fa,gb⟩<;>grind[PC]
end
theorem I6(a b c:bs):fr b a c=- fr a b c:=by grind[fr,im,cW,dV]
theorem bR5(a b c:bs):sP b a c=- sP a b c:=by grind[sP,d',I6]
theorem Nv(a b c:bs):l7 b a c=- l7 a b c:=by grind[l7,bR5]
theorem Xj(a b:bs)(h:a≠b):hU b a=!hU a b:=by grind[eJ,hU]
theorem bJ2{a b:bs}(c d:bs)(h:a≠b):p8 b a c d=p8 a b c d:=by grind[p8,Xj,hU]
theorem bI5(a b:bs){c d:bs}(h:c≠d):p8 a b d c=p8 a b c d:=by grind[p8,Xj,hU]
def bU4{a b:bs}(c d:bs)(h:a≠b):oK b a c d=oK a b c d:=by
 unfold oK;have e:mh a b=N2:=by grind[pt]
 have f:mh b a=N2:=by grind[pt]
 grind[d',mc,fr,I6,sU,iX,iY,aG,mh,l7,Nv,iB,dV,bJ2]
def bW7(a b:bs){c d:bs}(h:c≠d):oK a b d c=oK a b c d:=by
 unfold oK;have e:mh c d=N2:=by grind[pt]
 have f:mh d c=N2:=by grind[pt]
 grind[d',mc,fr,I6,sU,iX,iY,mh,aG,l7,dV,Nv,iB,bI5]
def qZ.GM{a b c d:bs}(h:a≠b)(m:qZ a b c d):qZ b a c d:=by
 unfold qZ at *;rw[bU4 c d h];rcases m with m|⟨m,p,h1,h2⟩
 exact br m;exact bk ⟨m,p,h1.symm,h2⟩
def qZ.KG{a b c d:bs}(h:c≠d)(m:qZ a b c d):qZ a b d c:=by
 unfold qZ at *;rw[bW7 a b h];rcases m with m|⟨m,p,h1,h2⟩
 exact br m;exact bk ⟨m,p,h1,h2.symm⟩
def bK7{M s:Int}{a b c d:bs}(m:0<M)(hu:a.2<b.2)(hv:c.2<d.2)(l2:∀p,p=a\/p=b\/p=c\/p=d->M*p.1=pe M s a p.2) :
  (max a.2 c.2<min b.2 d.2->p8 a b c d=2)/\(max a.2 c.2=min b.2 d.2->p8 a b c d=1):=by
 have t:=l2 a (by simp);have u:=l2 b (by simp);have lc:=l2 c (by simp);have ld:=l2 d (by simp);have g:∀p q:bs,(p=a\/p=b\/p=c\/p=d)->(q=a\/q=b\/q=c\/q=d)->M*(q.1-p.1)=s*(q.2-p.2):=by
  intro p q hp e;have h1:=l2 p hp;have h2:=l2 q e;unfold pe at h1 h2;have n:s*(q.2-p.2)=s*(q.2-a.2)-s*(p.2-a.2):=by rw[<-cW];congr 1;omega
  rw[cW];omega
 have i:∀p q:bs,(p=a\/p=b\/p=c\/p=d)->(q=a\/q=b\/q=c\/q=d)->p.2=q.2->p=q:=by
  intro p q hp e h;have:=g p q hp e;rw[show q.2-p.2=0 by omega,eB]at this;rcases gu.1 this with h2|h2
  omega;exact eJ (by omega) h
 by_cases hs:0<=s
 .have nh:∀p q:bs,(p=a\/p=b\/p=c\/p=d)->(q=a\/q=b\/q=c\/q=d)->hU p q=Eo (p.2<q.2):=by
   intro p q hp e;have h:=g p q hp e;unfold hU;by_cases h1:p.2<q.2;have h2:=aL hs (show 0<=q.2-p.2 by omega);rw[<-h]at h2;have n:0<=q.1-p.1:=by
    rcases gr (q.1-p.1) 0 with f|f
    have:=iR m f;omega;exact f
   by_cases f:p.1<q.1;simp[h1,f];have j:p.1=q.1:=by omega
   simp[h1,j];by_cases h2:p.2=q.2;have:=i p q hp e h2;subst this;simp;have n:=aL hs (show 0<=p.2-q.2 by omega);have f:s*(p.2-q.2)=- (s*(q.2-p.2)):=by rw[<-cK];congr 1;omega
   rw[f,<-h]at n;have j:¬p.1<q.1:=λk=>by have:=cw m (show 0<q.1-p.1 by omega);omega
   simp[h1,j]
  have o:hU b a=N2:=by rw[nh b a (by simp) (by simp)];exact ft (by omega)
  have r:hU d c=N2:=by rw[nh d c (by simp) (by simp)];exact ft (by omega)
  unfold p8;simp only[o,r,aG,l4,nh a c (by simp) (by simp),nh d b (by simp) (by simp),kA];by_cases c1:a.2<c.2<;>by_cases c2:d.2<b.2<;>simp only[c1,c2,me,l4]
  all_goals
   constructor;intro h;rw[nh _ _ (by simp) (by simp)];rw[cc (λhe=>by have:=lU Prod.snd ((pt _ _).1 he);omega),cr (hT (by omega))];intro h;rw[cr ((pt _ _).2 (i _ _ (by simp) (by simp) (by omega)))]
 have nh:∀p q:bs,(p=a\/p=b\/p=c\/p=d)->(q=a\/q=b\/q=c\/q=d)->hU p q=Eo (q.2<p.2):=by
  intro p q hp e;have h:=g p q hp e;unfold hU;by_cases h1:q.2<p.2;have h2:=cO (show s<0 by omega) (show q.2-p.2<0 by omega);rw[<-h]at h2;have n:=bX h2 m;have f:p.1<q.1:=by omega
  simp[h1,f];by_cases h2:p.2=q.2;have:=i p q hp e h2;subst this;simp;have l:s*(q.2-p.2)<0:=Int.mul_neg_of_neg_of_pos (show s<0 by omega) (show 0<q.2-p.2 by omega);rw[<-h]at l;have j:¬p.1<q.1:=λk=>by have:=cw m (show 0<q.1-p.1 by omega);omega
  have k:¬p.1=q.1:=λk=>by rw[k,Int.sub_self,eB]at l;omega
  simp[h1,j,k]
 grind[hU,decide_eq_true,p8,pt]
section
variable {M s t:Int} {a b c d:bs} (hM:0<M) (ha:d' a=No) (hb:d' b=No) (hc:d' c=No) (hd:d' d=No) (hu:a.2<b.2) (hv:c.2<d.2)
 (hs:s*(b.2-a.2)=M*(b.1-a.1)) (ht:t*(d.2-c.2)=M*(d.1-c.1))
def WJ{a b c d:bs}(ha:d' a=No)(hb:d' b=No)(hc:d' c=No)(hd:d' d=No)(e:a≠b)(f:c≠d)(h1:fr a b c=0)(h2:fr a b d=0):oK a b c d=p8 a b c d:=by grind[oK,mh,pt,Ft,l7,Oe,bw,aG]
include hM ha hb hc hd hu hv hs ht
theorem af2(mH:s=t){k:Int}(cu:oV M s t a c k=0)(hm:qZ a b c d):¬max a.2 c.2<min b.2 d.2:=by
 subst mH;obtain⟨g,i,j,l⟩:=av9 hM ha hb hc hd hu hv hs ht;have z:∀y,oV M s s a c y=0:=λy=>by grind[u7]
 rw[z]at g i;have l2:∀p,p=a\/p=b\/p=c\/p=d->M*p.1=pe M s a p.2:=by grind[Jd,Jl]
 have g1:=xu (p:=c) hM hu hs;have g2:=xu (p:=d) hM hu hs;have e:=WJ ha hb hc hd (λh=>by rw[h]at hu;omega) (λh=>by rw[h]at hv;omega) (by omega) (by omega);intro f;rcases hm with hm|⟨hm,_⟩<;>rw[e,(bK7 hM hu hv l2).1 f]at hm<;>omega
theorem aO4(hm:qZ a b c d){k:Int}(g:a.2<=k)(h:k<=b.2)(i:c.2<=k)(j:k<=d.2)(cu:oV M s t a c k=0):(k=a.2\/k=b.2)/\(k=c.2\/k=d.2):=by
 by_cases mH:s=t;have:=af2 hM ha hb hc hd hu hv hs ht mH cu hm;omega;have rO:=u7 M s t a c a.2 k;have b4:=u7 M s t a c c.2 k;have se:=u7 M s t a c k b.2;have l:=u7 M s t a c k d.2;have e:=u7 M s t a c c.2 d.2;have m:¬(oV M s t a c c.2=0/\oV M s t a c d.2=0):=by grind[gu]
 have f:oK a b c d=1:=by
  rcases gr s t with hl|hl
  have n:∀x,(t-s)*x=- ((s-t)*x):=λx=>by grind[im]
  have mJ:=aL (show 0<=t-s by omega) (show 0<=k-a.2 by omega);have nj:=aL (show 0<=t-s by omega) (show 0<=k-c.2 by omega);have rM:=aL (show 0<=t-s by omega) (show 0<=b.2-k by omega);have s_:=aL (show 0<=t-s by omega) (show 0<=d.2-k by omega)
  grind[J8]
  have mJ:=aL (show 0<=s-t by omega) (show 0<=k-a.2 by omega);have nj:=aL (show 0<=s-t by omega) (show 0<=k-c.2 by omega);have rM:=aL (show 0<=s-t by omega) (show 0<=b.2-k by omega);have s_:=aL (show 0<=s-t by omega) (show 0<=d.2-k by omega)
  grind[J8]
 rcases hm with hm|⟨_,p,fa,gb⟩<;>grind[PC,u7,gu]
theorem aH8(hm:qZ a b c d){k:Int}(e:a.2<=k)(f:k+1<=b.2)(g:c.2<=k)(h:k+1<=d.2)(cu:oV M s t a c k=0)(h1:oV M s t a c (k+1)=0):False:=by have h2:=u7 M s t a c k (k+1);rw[cu,h1,show k+1-k=1 by omega,gL]at h2;have:=af2 hM ha hb hc hd hu hv hs ht (by omega) cu hm;omega
end
def ba7{M s:Int}{a b c d:bs}(e:0<M)(ha:d' a=No)(f:d' b=No)(hc:d' c=No)(hd:d' d=No)(hu:a.2<b.2)(hv:c.2=d.2)(hw:c.1<d.1)
  (hs:s*(b.2-a.2)=M*(b.1-a.1)) (hm:qZ a b c d\/qZ c d a b) (n:a.2<=c.2) (o:c.2<=b.2) (q:M*c.1<=pe M s a c.2) (r:pe M s a c.2<=M*d.1) :
  (c.2=a.2\/c.2=b.2)/\(pe M s a c.2=M*c.1\/pe M s a c.2=M*d.1):=by
 have l2:=xu (p:=c) e hu hs;have mi:=xu (p:=d) e hu hs;rw[<-hv]at mi;have j:M*c.1<M*d.1:=cx hw e;have s1:fr c d a<=0:=by
  unfold fr;rw[show d.2-c.2=0 by omega,eC];have:=aL (show 0<=d.1-c.1 by omega) (show 0<=c.2-a.2 by omega)
  grind[cK]
 have s2:0<=fr c d b:=by unfold fr;rw[show d.2-c.2=0 by omega,eC];have:=aL (show 0<=d.1-c.1 by omega) (show 0<=b.2-c.2 by omega);omega
 have g:a≠b:=λh=>by rw[h]at hu;omega
 have i:c≠d:=λh=>by rw[h]at hw;omega
 have k:=M6 ha f hc hd g i (bk ⟨by omega,by omega⟩) (br ⟨s1,s2⟩) (by omega);have l:oK c d a b=1:=M6 hc hd ha f i g (br ⟨s1,s2⟩) (bk ⟨by omega,by omega⟩) (by grind[fr,gu]);have m:∃p,(p=a\/p=b)/\(p=c\/p=d):=by
  rcases hm with(h|⟨_,h⟩)| (h|⟨_,p,h1,h2⟩)
  omega;exact h;omega;exact⟨p,h2,h1⟩
 grind[pe,Jd,Jl]
def ag0{a b c d:bs}(ha:d' a=No)(i:d' b=No)(hc:d' c=No)(hd:d' d=No)(hu:a.2=b.2)(f:a.1<b.1)(hv:c.2=d.2)(g:c.1<d.1)(k:a.2=c.2)
  (hm:qZ a b c d) (h1:a.1<d.1) (h2:c.1<b.1):False:=by
 have z:∀p,p.2=a.2->fr a b p=0:=λp h=>by grind[fr]
 have e:=WJ ha i hc hd (λh=>by rw[h]at f;omega) (λh=>by rw[h]at g;omega) (z c (by omega)) (z d (by omega));have nh:∀p q:bs,p.2=q.2->hU p q=Eo (p.1<q.1):=by grind[hU]
 have l:hU b a=N2:=by grind[decide_eq_false]
 have m:hU d c=N2:=by grind[decide_eq_false]
 have j:p8 a b c d=2:=by grind[p8,aG,pt,decide_eq_true]
 rcases hm with hm|⟨hm,_⟩<;>rw[e,j]at hm<;>omega
open Go.Pg
def uV(a b c d:bs):Prop:=max a.1 b.1<min c.1 d.1\/max c.1 d.1<min a.1 b.1
def Sep(a b c d:bs):Prop:=qZ a b c d\/qZ c d a b\/uV a b c d
def Sep.swap{a b c d:bs}(h:Sep a b c d):Sep c d a b:=by
 rcases h with h|h|h
 exact bk (br h);exact br h;exact bk (bk h.symm)
def Sep.GM{a b c d:bs}(n:a≠b)(h:Sep a b c d):Sep b a c d:=by
 rcases h with h|h|h
 exact br (h.GM n);exact bk (br (h.KG n));refine bk (bk ?_);unfold uV at *;omega
def Sep.KG{a b c d:bs}(n:c≠d)(h:Sep a b c d):Sep a b d c:=(h.swap.GM n).swap
structure q6(ι:Type) where
 E:List ι
 src:ι->bs
 dst:ι->bs
namespace q6
variable {ι:Type} (F:q6 ι)
structure Ok:Prop where
 nodup:F.E.Nodup
 ne:∀e∈F.E,F.src e≠F.dst e
 Ao:∀e∈F.E,d' (F.src e)=No/\d' (F.dst e)=No
 meet:∀e∈F.E,∀f∈F.E,e≠f->Sep (F.src e) (F.dst e) (F.src f) (F.dst f)
def fwd(e:ι):Bool:=Eo ((F.src e).2<(F.dst e).2\/((F.src e).2=(F.dst e).2/\(F.src e).1<(F.dst e).1))
def b7(e:ι):bs:=bif F.fwd e then F.src e else F.dst e
def a7(e:ι):bs:=bif F.fwd e then F.dst e else F.src e
def xZ(e:ι):Int:=if(F.b7 e).2<(F.a7 e).2 then(F.a7 e).2-(F.b7 e).2 else 1
def prod:List ι->Int
 | []=>1
 |e::l=>F.xZ e*prod l
def bJ4(e:ι):0<F.xZ e:=by unfold xZ;split<;>omega
def Cg:∀l,0<F.prod l
 | []=>by simp[prod]
 |e::l=>cw (F.bJ4 e) (Cg l)
def an5{e:ι}:∀ {l:List ι},e∈l->F.xZ e∣F.prod l
 |f::l,h=>by
  rcases aD.1 h with rfl|h
  exact kq _ _;exact ll (an5 h) (Int.dvd_mul_left _ _)
def y_{F:q6 ι}(dC:F.Ok){e:ι}(he:e∈F.E):(F.b7 e).2<(F.a7 e).2\/((F.b7 e).2=(F.a7 e).2/\(F.b7 e).1<(F.a7 e).1):=by
 have a:=dC.ne e he;unfold b7 a7;cases h:F.fwd e;unfold fwd at h
 grind
 unfold fwd at h
 grind
def e7(dC:F.Ok):Net ι where
 E:=F.E
 b7:=F.b7
 a7:=F.a7
 M:=F.prod F.E
 s:=λe=>F.prod F.E*((F.a7 e).1-(F.b7 e).1) / F.xZ e
 p7:=F.Cg _
 ord:=λe he=>y_ dC he
 AB:=λe he hu=>by have a:F.xZ e=(F.a7 e).2-(F.b7 e).2:=cr hu;have h:=F.an5 he;have h2:F.xZ e∣F.prod F.E*((F.a7 e).1-(F.b7 e).1):=ll h (kq _ _);rw[<-a];exact Int.ediv_mul_cancel h2
def pO{F:q6 ι}(dC:F.Ok){e:ι}(he:e∈F.E):d' (F.b7 e)=No/\d' (F.a7 e)=No:=by
 have:=dC.Ao e he;unfold b7 a7
 grind
def LC{F:q6 ι}(dC:F.Ok){e f:ι}(he:e∈F.E)(hf:f∈F.E)(h:e≠f):Sep (F.b7 e) (F.a7 e) (F.b7 f) (F.a7 f):=by have m:=dC.meet e he f hf h;have a:=dC.ne e he;have b:=dC.ne f hf;unfold b7 a7;cases F.fwd e<;>cases F.fwd f;exact(m.GM a).KG b;exact m.GM a;exact m.KG b;exact m
section
variable (dC:F.Ok)
def H6{e:ι}(he:e∈F.E)(hu:(F.b7 e).2<(F.a7 e).2){k:Int}(a:(F.b7 e).2<=k)(b:k<=(F.a7 e).2) :
  F.prod F.E*min (F.b7 e).1 (F.a7 e).1<=(F.e7 dC).X e k/\(F.e7 dC).X e k<=F.prod F.E*max (F.b7 e).1 (F.a7 e).1:=by
 have c:=F.Cg F.E;have d:(F.e7 dC).X e (F.b7 e).2=F.prod F.E*(F.b7 e).1:=Net.vG _ e;have f:(F.e7 dC).X e (F.a7 e).2=F.prod F.E*(F.a7 e).1:=Net.yo (F.e7 dC) he hu;have st:∀y z,(F.e7 dC).X e z-(F.e7 dC).X e y=(F.e7 dC).s e*(z-y):=λy z=>by
  unfold Net.X
  grind
 have s1:=st (F.b7 e).2 k;have s2:=st k (F.a7 e).2;have m1:F.prod F.E*min (F.b7 e).1 (F.a7 e).1<=F.prod F.E*(F.b7 e).1:=bR (by omega) (by omega);have m2:F.prod F.E*min (F.b7 e).1 (F.a7 e).1<=F.prod F.E*(F.a7 e).1:=bR (by omega) (by omega);have m3:F.prod F.E*(F.b7 e).1<=F.prod F.E*max (F.b7 e).1 (F.a7 e).1:=bR (by omega) (by omega);have m4:F.prod F.E*(F.a7 e).1<=F.prod F.E*max (F.b7 e).1 (F.a7 e).1:=bR (by omega) (by omega);rcases gr ((F.e7 dC).s e) 0 with h|h
 have mJ:=aL (show 0<=- (F.e7 dC).s e by omega) (show 0<=k-(F.b7 e).2 by omega);have nj:=aL (show 0<=- (F.e7 dC).s e by omega) (show 0<=(F.a7 e).2-k by omega);rw[im]at mJ nj;omega;have mJ:=aL h (show 0<=k-(F.b7 e).2 by omega);have nj:=aL h (show 0<=(F.a7 e).2-k by omega);omega
structure C1(e f:ι):Prop where
 ME:∀k,(F.e7 dC).eS e k->(F.e7 dC).eS f k->¬((F.e7 dC).X e k<(F.e7 dC).X f k/\(F.e7 dC).X f (k+1)<(F.e7 dC).X e (k+1))/\¬((F.e7 dC).X f k<(F.e7 dC).X e k/\(F.e7 dC).X e (k+1)<(F.e7 dC).X f (k+1))
 U5:∀k,(F.e7 dC).eS e k->(F.e7 dC).eS f k->(F.e7 dC).X e k=(F.e7 dC).X f k->(F.e7 dC).X e (k+1)=(F.e7 dC).X f (k+1)->False
 ar2:∀k,(F.b7 e).2<=k->k<=(F.a7 e).2->(F.b7 f).2<=k->k<=(F.a7 f).2->(F.e7 dC).X e k=(F.e7 dC).X f k->(k=(F.b7 e).2\/k=(F.a7 e).2)/\(k=(F.b7 f).2\/k=(F.a7 f).2)
def C1.symm{e f:ι}(h:F.C1 dC e f):F.C1 dC f e :=⟨λk a b=>(h.ME k b a).symm,λk a b x y=>h.U5 k b a x.symm y.symm,λk a b c d x=>(h.ar2 k c d a b x.symm).symm⟩
def Yc{e f:ι}(he:e∈F.E)(hf:f∈F.E)(b:(F.b7 e).2<(F.a7 e).2)(c:(F.b7 f).2<(F.a7 f).2)(hm:qZ (F.b7 e) (F.a7 e) (F.b7 f) (F.a7 f)):F.C1 dC e f:=by
 have d:=(F.e7 dC).p7;have a:∀e f y,oV (F.e7 dC).M ((F.e7 dC).s e) ((F.e7 dC).s f) (F.b7 e) (F.b7 f) y=(F.e7 dC).X e y-(F.e7 dC).X f y:=λ_ _ _=>rfl;have hF:=(F.e7 dC).AB;constructor;intro k c1 c2;have h:=aN9 d (pO dC he).1 (pO dC he).2 (pO dC hf).1 (pO dC hf).2 b c (hF e he b) (hF f hf c) hm (k:=k) c1.1 c1.2 c2.1 c2.2
 grind
 intro k c1 c2 h1 h2;exact aH8 d (pO dC he).1 (pO dC he).2 (pO dC hf).1 (pO dC hf).2 b c (hF e he b) (hF f hf c) hm (k:=k) c1.1 c1.2 c2.1 c2.2 (by rw[a];omega) (by rw[a];omega);intro k g i j l h;exact aO4 d (pO dC he).1 (pO dC he).2 (pO dC hf).1 (pO dC hf).2 b c (hF e he b) (hF f hf c) hm (k:=k) g i j l (by rw[a];omega)
def Yb{e f:ι}(he:e∈F.E)(hf:f∈F.E)(a:(F.b7 e).2<(F.a7 e).2)(b:(F.b7 f).2<(F.a7 f).2)(hm:max (F.b7 e).1 (F.a7 e).1<min (F.b7 f).1 (F.a7 f).1):F.C1 dC e f:=by
 have lt:∀k,(F.b7 e).2<=k->k<=(F.a7 e).2->(F.b7 f).2<=k->k<=(F.a7 f).2->(F.e7 dC).X e k<(F.e7 dC).X f k:=λk c d g h=>by have h1:=(F.H6 dC he a c d).2;have h2:=(F.H6 dC hf b g h).1;have j:=cx hm (F.Cg F.E);omega
 have i:∀k,(F.e7 dC).eS e k->(F.e7 dC).eS f k->(F.e7 dC).X e k<(F.e7 dC).X f k/\(F.e7 dC).X e (k+1)<(F.e7 dC).X f (k+1):=λk c1 c2=>by
  have l:(F.b7 e).2<=k:=c1.1;have a2:k<(F.a7 e).2:=c1.2;have a3:(F.b7 f).2<=k:=c2.1;have a4:k<(F.a7 f).2:=c2.2
  grind
 constructor
 grind
 grind
 grind
def pair{e f:ι}(he:e∈F.E)(hf:f∈F.E)(a:(F.b7 e).2<(F.a7 e).2)(b:(F.b7 f).2<(F.a7 f).2)(h:e≠f):F.C1 dC e f:=by
 rcases LC dC he hf h with m|m|m|m
 exact F.Yc dC he hf a b m;exact(F.Yc dC hf he b a m).symm;exact F.Yb dC he hf a b m;exact(F.Yb dC hf he b a m).symm
def w8:(F.e7 dC).wx:=by
 have t:=(F.e7 dC).p7;have hF:=(F.e7 dC).AB;constructor;exact dC.nodup;intro e he f hf k c1 c2 h;by_cases a:e=f;subst a;omega;have:=((F.pair dC he hf (dP c1.1 c1.2) (dP c2.1 c2.2) a).ME k c1 c2).1;omega;intro e he f hf k c1 c2 h;by_cases a:e=f;subst a;omega;have:=((F.pair dC he hf (dP c1.1 c1.2) (dP c2.1 c2.2) a).ME k c1 c2).2;omega;intro e he f hf k c1 c2 h1 h2;rcases iD (e=f)with h|a
 exact h;exact((F.pair dC he hf (dP c1.1 c1.2) (dP c2.1 c2.2) a).U5 k c1 c2 h1 h2).elim;intro e he f hf k d u a l n v w h;exact((F.pair dC he hf d u a).ar2 k l n v w h).1;intro e he f hf d p l n r s;have a:e≠f:=λh=>p (h▸d);have o:=y_ dC hf;have q:¬(F.b7 f).2<(F.a7 f).2:=p;have x:(F.b7 f).2=(F.a7 f).2:=by omega
 have z:(F.b7 f).1<(F.a7 f).1:=by omega
 have m:=LC dC he hf a;by_cases c:uV (F.b7 e) (F.a7 e) (F.b7 f) (F.a7 f);have b:=F.H6 dC he d l n;have B:F.prod F.E*(F.b7 f).1<=(F.e7 dC).X e (F.b7 f).2:=r;have C:(F.e7 dC).X e (F.b7 f).2<=F.prod F.E*(F.a7 f).1:=s;have J:F.prod F.E*min (F.b7 e).1 (F.a7 e).1<=(F.e7 dC).X e (F.b7 f).2/\(F.e7 dC).X e (F.b7 f).2<=F.prod F.E*max (F.b7 e).1 (F.a7 e).1:=b;rcases c with h|h
 have:=cx (show max (F.b7 e).1 (F.a7 e).1<(F.b7 f).1 by omega) (F.Cg F.E);omega;have:=cx (show(F.a7 f).1<min (F.b7 e).1 (F.a7 e).1 by omega) (F.Cg F.E);omega;have D:qZ (F.b7 e) (F.a7 e) (F.b7 f) (F.a7 f)\/qZ (F.b7 f) (F.a7 f) (F.b7 e) (F.a7 e):=by
  rcases m with m|m|m
  exact br m;exact bk m;exact(c m).elim
 exact ba7 t (pO dC he).1 (pO dC he).2 (pO dC hf).1 (pO dC hf).2 d x z (hF e he d) D l n r s;intro e he f hf G p H h1 h2;rcases iD (e=f)with h|a
 exact h;have I:¬(F.b7 e).2<(F.a7 e).2:=G;have q:¬(F.b7 f).2<(F.a7 f).2:=p;have g:(F.b7 e).1<(F.a7 f).1:=h1;have i:(F.b7 f).1<(F.a7 e).1:=h2;have j:=H;have o1:=y_ dC he;have o2:=y_ dC hf;rcases LC dC he hf a with m|m|m
 exact(ag0 (pO dC he).1 (pO dC he).2 (pO dC hf).1 (pO dC hf).2 (by omega) (by omega) (by omega) (by omega) j m g i).elim;exact(ag0 (pO dC hf).1 (pO dC hf).2 (pO dC he).1 (pO dC he).2 (by omega) (by omega) (by omega) (by omega) j.symm m i g).elim;unfold uV at m;omega
end
end q6
theorem X4{s:fy}{m:List (Int×bs)}:∀ {r:List fy},r.Pairwise (λa b=>qu a<=qu b)->wU s m r=No->∀t∈r,qx s t m=No\/Co s<qu t
 | [],_,_,t,c=>by simp at c
 |u::r,hp,h,t,c=>by
  unfold wU at h;by_cases d:Co s<qu u
  grind[List.rel_of_pairwise_cons]
  rw[ft d]at h;simp only[bu,ab]at h;rcases aD.1 c with rfl|c
  exact br h.1;exact X4 (hJ hp) h.2 t c
def FN{al:List b9}{m:List (Int×bs)}:∀ {l:List fy},l.Pairwise (λa b=>qu a<=qu b)->tV al m l=No->l.Pairwise (λs t=>qx s t m=No\/Co s<qu t)/\∀s∈l,∀n∈al,p6 s n=No
 | [],_,_=>by simp
 |s::r,hp,h=>by
  unfold tV at h;simp only[ab]at h;obtain⟨h1,h2,c⟩:=h;obtain⟨i1,i2⟩:=FN (hJ hp) c
  grind[aR,X4]
def Jr{n:b9}:∀ {al:List b9} (m:List (Int×bs)),(al.map (·.1)).Pairwise (·<·)->n∈al->fh gd n.1 (mkMap al m)=Q1 n.2
 |u::al,m,hp,a=>by
  rw[au,aR]at hp;rcases aD.1 a with rfl|a
  show fh gd n.1 (mkMap al (mI gd n.1 n.2 m))=_
  grind[Ja,aK,rV]
  show fh gd n.1 (mkMap al (mI gd u.1 u.2 m))=_;exact Jr _ hp.2 a
def Gw{α:Type}{R:α->α->Prop}(ey:∀x y,R x y->R y x)(b:∀x,R x x):∀ {l:List α},l.Pairwise R->∀ {x y},x∈l->y∈l->R x y
 |a::l,hp,x,y,c,d=>by
  rw[aR]at hp;rcases aD.1 c with h1|h1
  grind
  rcases aD.1 d with h2|h2
  grind
  exact Gw ey b hp.2 h1 h2
structure nJ(al:List b9)(ag:List ct)(s:fy)(a:ct)(p:List bs)(i:Nat):Prop where
 nM:a∈ag
 path:pathOf al ag a.1=Q1 p
 at':i+1<p.length
 eq:s=(mF a p,(i:Int))
namespace nJ
variable {al:List b9} {ag:List ct} {s:fy} {a:ct} {p:List bs} {i:Nat} (h:nJ al ag s a p i)
include h
theorem rO:p[i]?=Q1 (hi s):=by
 have:=h.at';rw[h.eq];show p[i]?=Q1 ((p[i]?).getD (0,0))
 grind
theorem se:p[i+1]?=Q1 (gl s):=by
 have:=h.at';rw[h.eq];show p[i+1]?=Q1 ((p[i+1]?).getD (0,0))
 grind
theorem first:tP s=Eo (i=0):=by
 rw[h.eq];unfold tP
 grind
theorem last:th s=Eo (i+2=p.length):=by rw[h.eq];exact decide_eq_decide.2 (by show(i:Int)=(p.length:Int)-2↔_;omega)
end nJ
namespace fp
variable {al:List b9} {ag:List ct} {fs:List Int} (h:fp al ag fs)
include h
theorem q_{r:List fy}(b:my al ag ag=Q1 r){s:fy}(hs:s∈r):∃a p i,nJ al ag s a p i:=by obtain⟨a,ha,p,hp,hm⟩:=Bt b s hs;obtain⟨i,a7,e⟩:=xw hm;exact⟨a,p,i,ha,hp,a7,e⟩
theorem sD{s:fy}{a:ct}{p:List bs}{i:Nat}(o:nJ al ag s a p i):hi s≠gl s:=by obtain⟨f,t,_,_,b,c,_⟩:=h.path o.nM;rw[o.path]at b;cases b;exact J5 c o.rO o.se
theorem vp{s:fy}{a:ct}{p:List bs}{i:Nat}(o:nJ al ag s a p i):d' (hi s)=No/\d' (gl s)=No :=⟨rS (h.D0 o.nM o.path _ (aH o.rO)),rS (h.D0 o.nM o.path _ (aH o.se))⟩
theorem Cn{s:fy}{a:ct}{p:List bs}{i:Nat}(o:nJ al ag s a p i)(a7:i=0){n:b9}(b:n∈al)(e:a.2.1=n.1):hi s=n.2:=by
 obtain⟨f,t,h1,_,c,_⟩:=h.path o.nM;rw[o.path]at c;have d:=o.rO;rw[e,h.vm b]at h1
 grind
theorem D6{s:fy}{a:ct}{p:List bs}{i:Nat}(o:nJ al ag s a p i)(a7:i+2=p.length){n:b9}(b:n∈al)(e:a.2.2.1=n.1):gl s=n.2:=by
 obtain⟨f,t,_,h2,c,_⟩:=h.path o.nM;rw[o.path]at c;have d:=o.se;rw[e,h.vm b]at h2
 grind
theorem ap1{s:fy}{a:ct}{p:List bs}{i:Nat}(o:nJ al ag s a p i){n:b9}(b:n∈al)(hf:p6 s n=No)(ho:mc (hi s) (gl s) n.2=No):n.2=hi s\/n.2=gl s:=by
 unfold p6 at hf;rw[ho,o.first,o.last]at hf;simp only[aw,cY,bC,ab,kA]at hf;rcases hf with⟨x,y⟩|⟨x,y⟩
 exact br (h.Cn o x b (by rw[o.eq]at y;exact y)).symm;exact bk (h.D6 o x b (by rw[o.eq]at y;exact y)).symm
theorem PT{s t:fy}{a b:ct}{p q:List bs}{i j:Nat}(o:nJ al ag s a p i)(o':nJ al ag t b q j)(e:s.1.1=t.1.1):a=b/\p=q:=by
 have d:a.1=b.1:=by rw[o.eq,o'.eq]at e;exact e
 have h1:=h.zD o.nM;have h2:=h.zD o'.nM;rw[d,h2]at h1;cases h1;have c:=o.path;rw[o'.path]at c;cases c;exact⟨rfl,rfl⟩
theorem N5{a:ct}{p:List bs}(ha:a∈ag)(hp:pathOf al ag a.1=Q1 p)(e:a.2.1=a.2.2.1){i:Nat}(a7:i+2=p.length){x y:bs}(b:p[0]?=Q1 x)(c:p[i+1]?=Q1 y):x=y:=by
 obtain⟨f,t,h1,h2,d,_⟩:=h.path ha
 grind
theorem DQ{a:ct}(ha:a∈ag):(∃n∈al,n.1=a.2.1)/\∃n∈al,n.1=a.2.2.1:=by obtain⟨f,t,h1,h2,_⟩:=h.path ha;exact⟨⟨f,aX h1,by have:=db h1;simpa using this⟩,⟨t,aX h2,by have:=db h2;simpa using this⟩⟩
theorem bf1{s t:fy}{a b:ct}{p q:List bs}{i j:Nat}(o:nJ al ag s a p i)(o':nJ al ag t b q j)(v:s≠t)(m:∀n∈al,p6 s n=No)(q3:∀n∈al,p6 t n=No)(hc:qx s t (mkMap al [])=No):qZ (hi s) (gl s) (hi t) (gl t):=by
 unfold qx at hc;by_cases e:s.1.1=t.1.1;rw[hT e]at hc;simp only[b6]at hc;obtain⟨rfl,rfl⟩:=h.PT o o' e;have w:s.2=(i:Int):=by rw[o.eq]
 have z:t.2=(j:Int):=by rw[o'.eq]
 have f:s.1.2.1=a.2.1/\s.1.2.2.1=a.2.2.1:=by rw[o.eq];exact⟨rfl,rfl⟩
 have u:t.1.2.1=a.2.1/\t.1.2.2.1=a.2.2.1:=by rw[o'.eq];exact⟨rfl,rfl⟩
 rw[w,z,f.1,f.2,u.1,u.2,o.first,o.last,o'.first,o'.last]at hc;by_cases g:(j:Int)<(i:Int);rw[hT g]at hc;simp only[b6]at hc;by_cases c:(Eo ((j:Int)+1=(i:Int))||(Eo (a.2.1=a.2.2.1)&&(Eo (j=0)&&Eo (i+2=p.length))))=No;rw[c]at hc;simp only[b6,kA]at hc;refine bk ⟨hc,?_⟩;simp only[bC,ab,kA]at c;rcases c with c|⟨l2,mi,pG⟩
 have:j+1=i:=by omega
 subst this;have l:=aQ (o.rO.symm.trans o'.se);exact⟨hi s,br rfl,bk l⟩;subst mi;have:=h.N5 o.nM o.path l2 pG o'.rO o.se;exact⟨gl s,bk rfl,br this.symm⟩;rw[ee.2 c]at hc;simp only[bu,kA]at hc;exact br hc;rw[ft g]at hc;simp only[bu]at hc;by_cases c:(Eo ((i:Int)+1=(j:Int))||(Eo (a.2.1=a.2.2.1)&&(Eo (i=0)&&Eo (j+2=p.length))))=No;rw[c]at hc;simp only[b6,kA]at hc;refine bk ⟨hc,?_⟩;simp only[bC,ab,kA]at c;rcases c with c|⟨l2,mi,pG⟩
 have:i+1=j:=by omega
 subst this;have l:=o'.rO;rw[o.se]at l;exact⟨gl s,bk rfl,br (aQ l)⟩;subst mi;have:=h.N5 o'.nM o'.path l2 pG o.rO o'.se;exact⟨hi s,br rfl,bk this⟩;rw[ee.2 c]at hc;simp only[bu,kA]at hc;exact br hc;rw[ft e]at hc;simp only[bu]at hc;by_cases d:oK (hi s) (gl s) (hi t) (gl t)=1;rw[hT d]at hc;simp only[b6]at hc;refine bk ⟨d,?_⟩;have key:∀n∈al,(mc (hi s) (gl s) (nv (mkMap al []) n.1)&&mc (hi t) (gl t) (nv (mkMap al []) n.1))=No->∃x,(x=hi s\/x=gl s)/\(x=hi t\/x=gl t):=by
  intro n k r;have:nv (mkMap al []) n.1=n.2:=by unfold nv;rw[Jr [] (pq h.vL) k];rfl
  rw[this,ab]at r;exact⟨n.2,h.ap1 o k (m n k) r.1,h.ap1 o' k (q3 n k) r.2⟩
 have f:s.1.2.1=a.2.1/\s.1.2.2.1=a.2.2.1:=by rw[o.eq];exact⟨rfl,rfl⟩
 obtain⟨⟨B,m1,fa⟩,C,m2,gb⟩:=h.DQ o.nM;rw[f.1,f.2,<-fa,<-gb,bC]at hc;rcases hc with hc|hc
 exact key B m1 (ab _ _▸hc).2;exact key C m2 (ab _ _▸hc).2;rw[ft d]at hc;simp only[bu,kA]at hc;exact br hc
theorem bL1{r:List fy}(k:my al ag ag=Q1 r){s t:fy}(hs:s∈r)(v:t∈r)(l:s≠t):Sep (hi s) (gl s) (hi t) (gl t):=by
 have hp:=h.lV;unfold u_ at hp;rw[k]at hp;have m:=Da (vA r);have c:=tG (vA r);have f:(oy p2 r).Pairwise (λa b=>qu a<=qu b):=m.imp λ{a b} x=>by unfold p2 at x;rw[uk]at x;omega
 obtain⟨g1,g2⟩:=FN f hp;have g3:(oy p2 r).Pairwise (λs t=>s≠t->Sep (hi s) (gl s) (hi t) (gl t)):=by
  refine g1.imp_of_mem λ{x y} n u d g=>?_;obtain⟨a,p,i,o⟩:=h.q_ k (c.mem_iff.1 n);obtain⟨b,q,j,o'⟩:=h.q_ k (c.mem_iff.1 u);rcases d with hc|hf
  exact br (h.bf1 o o' g (g2 x n) (g2 y u) hc);exact bk (bk (br hf))
 exact Gw (R:=λs t=>s≠t->Sep (hi s) (gl s) (hi t) (gl t)) (λx y d g=>(d λe=>g e.symm).swap) (λx g=>(g rfl).elim) g3 (c.mem_iff.2 hs) (c.mem_iff.2 v) l
end fp
def M7{al:List b9}{ag:List ct}:∀ {l:List ct} {r:List fy},(l.map (·.1)).Pairwise (·<·)->my al ag l=Q1 r->r.Nodup
 | [],r,_,h=>by grind[my]
 |a::l,r,hp,h=>by
  rw[au,aR]at hp;unfold my at h;split at h;cases h;rename_i p f;cases hc:((Eo (a.2.1=a.2.2.1)&&Eo (p.length<4))||!(qt p))with
  |true=>rw[hc]at h;cases h
  |false=>
   rw[hc]at h;split at h;rename_i o c;cases h;have g:=M7 hp.2 c;refine dI.2 ⟨?_,g,?_⟩;refine List.pairwise_map.2 (List.nodup_range.imp ?_)
   grind
   intro x k y m d;subst d;obtain⟨i,_,e⟩:=xw k;obtain⟨b,s,q,_,hm⟩:=Bt c x m;obtain⟨j,_,n⟩:=xw hm;have t:a.1=b.1:=by have:=lU (λz:fy=>z.1.1) (e.symm.trans n);exact this
   grind[aK]
   cases h
def Q9(a b:bs):fr a b a=0:=by unfold fr;simp
def aB5(a b:bs):fr a b b=0:=by unfold fr;rw[dV (b.2-a.2)];omega
def av4{a b x:bs}(ha:d' a=No)(c:d' b=No)(d:x=a\/x=b):l7 a b x=0:=by
 rw[Oe];rcases d with rfl|rfl
 rw[Ft ha c ha];exact Q9 _ _;rw[Ft ha c c];exact aB5 _ _
def cd7{a b c:bs}(h1:hU b a=N2)(h2:hU c b=N2):hU c a=N2:=by unfold hU at *;simp only[cE,eW,sG]at *;omega
def I4(a:bs):hU a a=N2:=by unfold hU;simp
def X1{a b:bs}(h:hU a b=No):hU b a=N2:=by unfold hU at *;simp only[cE,eW,sG,bC,ab,kA]at *;omega
def bY3{a b:bs}(h:hU b a=N2):mh a b=No\/hU a b=No:=by rw[pt,lh];unfold hU at *;simp only[cE,eW,sG,bC,ab,kA]at *;omega
def aQ9{a b c d x:bs}(ha:d' a=No)(m:d' b=No)(hc:d' c=No)(hd:d' d=No)(k:a≠b)(l:c≠d)(h1:x=a\/x=b)(h2:x=c\/x=d):oK a b c d≠0:=by
 unfold oK;have o:mh a b=N2:=by rw[<-eG,pt];exact k
 have p:mh c d=N2:=by rw[<-eG,pt];exact l
 have s1:=av4 ha m h1;have s2:=av4 hc hd h2;have mJ:l7 a b c*l7 a b d=0:=by
  rcases h2 with rfl|rfl
  rw[s1,eC];rw[s1,eB]
 have nj:l7 c d a*l7 c d b=0:=by
  rcases h1 with rfl|rfl
  rw[s2,eC];rw[s2,eB]
 simp only[ha,m,hc,hd,bw,me,o,p,aG,l4,mJ,nj];split;have st:∀ {u v:bs},(x=u\/x=v)->hU x (if hU v u=No then v else u)=N2/\hU (if hU v u=No then u else v) x=N2:=by
  intro u v n;by_cases hv:hU v u=No;rw[cr hv,cr hv];rcases n with rfl|rfl
  exact⟨X1 hv,I4 _⟩;exact⟨I4 _,X1 hv⟩;have e:=ee.2 hv;rw[cc hv,cc hv];rcases n with rfl|rfl
  exact⟨I4 _,e⟩;exact⟨e,I4 _⟩
 have fa:=st h1;have gb:=st h2;unfold p8;simp only;generalize(if hU b a=No then b else a)=f at *;generalize(if hU b a=No then a else b)=g at *;generalize(if hU d c=No then d else c)=i at *;generalize(if hU d c=No then c else d)=j at *;have f1:hU x (if hU f i=No then i else f)=N2:=by split;exact gb.1;exact fa.1
 have f2:hU (if hU j g=No then j else g) x=N2:=by split;exact gb.2;exact fa.2
 rcases bY3 (cd7 f1 f2)with h|h
 rw[cr h];omega;by_cases h':mh (if hU f i=No then i else f) (if hU j g=No then j else g)=No;rw[cr h'];omega;rw[cc h',cr h];omega;simp
namespace q6
variable {ι:Type} (F:q6 ι) (dC:F.Ok)
include dC
theorem Vj{e f:ι}(he:e∈F.E)(hf:f∈F.E)(h1:F.b7 e=F.b7 f)(h2:F.a7 e=F.a7 f):e=f:=by
 have a:=F.w8 dC;have o:=y_ dC he;by_cases hu:(F.b7 e).2<(F.a7 e).2;have c1:(F.e7 dC).eS e (F.b7 e).2:=⟨cz _,hu⟩;have c2:(F.e7 dC).eS f (F.b7 e).2:=⟨by show(F.b7 f).2<=_;rw[h1];exact cz _,by show _<(F.a7 f).2;rw[<-h2];exact hu⟩;have b:∀y,(F.e7 dC).X e y=(F.e7 dC).X f y:=λy=>by unfold Net.X;show(F.e7 dC).M*(F.b7 e).1+F.prod F.E*((F.a7 e).1-(F.b7 e).1) / F.xZ e*(y-(F.b7 e).2)=(F.e7 dC).M*(F.b7 f).1+F.prod F.E*((F.a7 f).1-(F.b7 f).1) / F.xZ f*(y-(F.b7 f).2);unfold xZ;rw[h1,h2]
 exact a.apart e he f hf _ c1 c2 (b _) (b _);have o':=y_ dC hf;refine a.sv e he f hf hu ?_ ?_ ?_ ?_;show ¬(F.b7 f).2<(F.a7 f).2;rw[<-h1,<-h2];exact hu;show(F.b7 e).2=(F.b7 f).2;rw[h1];show(F.b7 e).1<(F.a7 f).1;rw[<-h2];omega;show(F.b7 f).1<(F.a7 e).1;rw[<-h1];omega
theorem X2{e f:ι}(he:e∈F.E)(hf:f∈F.E)(j:e≠f){x y:bs}(l:x=F.src e\/x=F.dst e)(m:x=F.src f\/x=F.dst f)(n:y=F.src e\/y=F.dst e)(p:y=F.src f\/y=F.dst f):x=y:=by
 rcases iD (x=y)with h|k
 exact h;have o:=y_ dC he;have o':=y_ dC hf;have c:∀ {g:ι} {z:bs},(z=F.src g\/z=F.dst g)->z=F.b7 g\/z=F.a7 g:=by intro g z hz;unfold b7 a7;cases F.fwd g;exact hz.symm;exact hz
 have nl:¬(F.b7 e=F.a7 f/\F.a7 e=F.b7 f):=λ⟨a,b⟩=>by rw[a,b]at o;omega
 exfalso;apply j;rcases c l with a|a<;>rcases c n with b|b<;>rcases c m with d|d<;>rcases c p with i|i
 all_goals first
  |exact b8 (a.trans b.symm) k
  |exact b8 (d.trans i.symm) k
  |exact F.Vj dC he hf (a.symm.trans d) (b.symm.trans i)
  |exact F.Vj dC he hf (b.symm.trans i) (a.symm.trans d)
  |exact(nl ⟨a.symm.trans d,b.symm.trans i⟩).elim
  |exact(nl ⟨b.symm.trans i,a.symm.trans d⟩).elim
end q6
def m8(r:List fy):q6 fy:=⟨r,hi,gl⟩
def fp.j8{al:List b9}{ag:List ct}{fs:List Int}(h:fp al ag fs){r:List fy}(b:my al ag ag=Q1 r):(m8 r).Ok where
 nodup:=M7 (pq h.rX) b
 ne:=λe he=>by obtain⟨a,p,i,o⟩:=h.q_ b he;exact h.sD o
 Ao:=λe he=>by obtain⟨a,p,i,o⟩:=h.q_ b he;exact h.vp o
 meet:=λe he f hf c=>h.bL1 b he hf c
def aV3{a b c d x:bs}(h1:x=a\/x=b)(h2:x=c\/x=d)(hf:uV a b c d):False:=by grind[uV]
def Gz(n:b9)(s:fy)(a:ct)(p:List bs)(i:Nat):Prop:=(i=0/\a.2.1=n.1/\hi s=n.2)\/(i+2=p.length/\a.2.2.1=n.1/\gl s=n.2)
def Gz.Vi{n:b9}{s:fy}{a:ct}{p:List bs}{i:Nat}(h:Gz n s a p i):n.2=hi s\/n.2=gl s:=by
 rcases h with⟨_,_,h⟩|⟨_,_,h⟩
 exact br h.symm;exact bk h.symm
structure Ef(al:List b9)(s t:fy)(a b:ct)(p q:List bs)(i j:Nat)(x:bs):Prop where
 or:(a=b/\i+1=j/\x=gl s/\x=hi t)\/(a=b/\j+1=i/\x=hi s/\x=gl t)\/∃n∈al,x=n.2/\Gz n s a p i/\Gz n t b q j
def Ef.symm{al:List b9}{s t:fy}{a b:ct}{p q:List bs}{i j:Nat}{x:bs}(h:Ef al s t a b p q i j x):Ef al t s b a q p j i x:=by
 rcases h.or with⟨h1,h2,c,d⟩|⟨h1,h2,c,d⟩|⟨n,h1,h2,c,d⟩
 exact⟨bk (br ⟨h1.symm,h2,d,c⟩)⟩;exact⟨br ⟨h1.symm,h2,d,c⟩⟩;exact⟨bk (bk ⟨n,h1,h2,d,c⟩)⟩
namespace fp
variable {al:List b9} {ag:List ct} {fs:List Int} (h:fp al ag fs)
include h
theorem E9{s:fy}{a:ct}{p:List bs}{i:Nat}(o:nJ al ag s a p i){n:b9}(c:n∈al)(hf:p6 s n=No)(ho:mc (hi s) (gl s) n.2=No):Gz n s a p i:=by
 unfold p6 at hf;rw[ho,o.first,o.last]at hf;simp only[aw,cY,bC,ab,kA]at hf;rcases hf with⟨x,y⟩|⟨x,y⟩
 have b:a.2.1=n.1:=by rw[o.eq]at y;exact y
 exact br ⟨x,b,h.Cn o x c b⟩;have b:a.2.2.1=n.1:=by rw[o.eq]at y;exact y
 exact bk ⟨x,b,h.D6 o x c b⟩
theorem U'{s t:fy}{a b:ct}{p q:List bs}{i j:Nat}(o:nJ al ag s a p i)(o':nJ al ag t b q j)(m:s≠t)(r:∀n∈al,p6 s n=No)(q3:∀n∈al,p6 t n=No)(hc:qx s t (mkMap al [])=No)
  (one:∀ {x y:bs},(x=hi s\/x=gl s)->(x=hi t\/x=gl t)->(y=hi s\/y=gl s)->(y=hi t\/y=gl t)->x=y) {x:bs} (f:x=hi s\/x=gl s) (g:x=hi t\/x=gl t):Ef al s t a b p q i j x:=by
 have hm:=aQ9 (h.vp o).1 (h.vp o).2 (h.vp o').1 (h.vp o').2 (h.sD o) (h.sD o') f g;unfold qx at hc;simp only at hc;by_cases e:s.1.1=t.1.1;rw[hT e]at hc;simp only[b6]at hc;obtain⟨rfl,rfl⟩:=h.PT o o' e;have D:s.2=(i:Int):=by rw[o.eq]
 have E:t.2=(j:Int):=by rw[o'.eq]
 have u:s.1.2.1=a.2.1/\s.1.2.2.1=a.2.2.1:=by rw[o.eq];exact⟨rfl,rfl⟩
 have B:t.1.2.1=a.2.1/\t.1.2.2.1=a.2.2.1:=by rw[o'.eq];exact⟨rfl,rfl⟩
 rw[D,E,u.1,u.2,B.1,B.2,o.first,o.last,o'.first,o'.last]at hc;have G:i≠j:=λh=>m (by rw[o.eq,o'.eq,h]);obtain⟨⟨v,m1,fa⟩,_⟩:=h.DQ o.nM;by_cases l:(j:Int)<(i:Int);rw[hT l]at hc;simp only[b6]at hc;by_cases d:(Eo ((j:Int)+1=(i:Int))||(Eo (a.2.1=a.2.2.1)&&(Eo (j=0)&&Eo (i+2=p.length))))=No;simp only[bC,ab,kA]at d;rcases d with d|⟨l2,mi,pG⟩
 have:j+1=i:=by omega
 subst this;have c:hi s=gl t:=aQ (o.rO.symm.trans o'.se);have:=one f g (br rfl) (bk c);exact⟨bk (br ⟨rfl,rfl,this,this.trans c⟩)⟩;have f1:=h.Cn o' mi m1 fa.symm;have f2:=h.D6 o pG m1 (l2.symm.trans fa.symm);have:=one f g (bk rfl) (br (f2.trans f1.symm));exact⟨bk (bk ⟨v,m1,this.trans f2,bk ⟨pG,l2.symm.trans fa.symm,f2⟩,br ⟨mi,fa.symm,f1⟩⟩)⟩
 grind
 rw[ft l]at hc;simp only[bu]at hc;by_cases d:(Eo ((i:Int)+1=(j:Int))||(Eo (a.2.1=a.2.2.1)&&(Eo (i=0)&&Eo (j+2=p.length))))=No;simp only[bC,ab,kA]at d;rcases d with d|⟨l2,mi,pG⟩
 have:i+1=j:=by omega
 subst this;have c:gl s=hi t:=aQ (o.se.symm.trans o'.rO);have:=one f g (bk rfl) (br c);exact⟨br ⟨rfl,rfl,this,this.trans c⟩⟩;have f1:=h.Cn o mi m1 fa.symm;have f2:=h.D6 o' pG m1 (l2.symm.trans fa.symm);have:=one f g (br rfl) (bk (f1.trans f2.symm));exact⟨bk (bk ⟨v,m1,this.trans f1,br ⟨mi,fa.symm,f1⟩,bk ⟨pG,l2.symm.trans fa.symm,f2⟩⟩)⟩
 grind
 rw[ft e]at hc;simp only[bu]at hc;by_cases w:oK (hi s) (gl s) (hi t) (gl t)=1;rw[hT w]at hc;simp only[b6]at hc;have key:∀n∈al,(mc (hi s) (gl s) (nv (mkMap al []) n.1)&&mc (hi t) (gl t) (nv (mkMap al []) n.1))=No->Ef al s t a b p q i j x:=by
  intro n k z;have:nv (mkMap al []) n.1=n.2:=by unfold nv;rw[Jr [] (pq h.vL) k];rfl
  rw[this,ab]at z;have c:=h.E9 o k (r n k) z.1;have C:=h.E9 o' k (q3 n k) z.2;exact⟨bk (bk ⟨n,k,one f g c.Vi C.Vi,c,C⟩)⟩
 have u:s.1.2.1=a.2.1/\s.1.2.2.1=a.2.2.1:=by rw[o.eq];exact⟨rfl,rfl⟩
 obtain⟨⟨v,m1,fa⟩,H,m2,gb⟩:=h.DQ o.nM
 grind
 grind[decide_eq_false]
theorem share{r:List fy}(u:my al ag ag=Q1 r){s t:fy}(hs:s∈r)(v:t∈r)(d:s≠t){a b:ct}{p q:List bs}{i j:Nat}(o:nJ al ag s a p i)(o':nJ al ag t b q j){x:bs}(w:x=hi s\/x=gl s)(z:x=hi t\/x=gl t):Ef al s t a b p q i j x:=by
 have hp:=h.lV;unfold u_ at hp;rw[u]at hp;simp only at hp;have B:=Da (vA r);have l:=tG (vA r);have m:(oy p2 r).Pairwise (λa b=>qu a<=qu b):=B.imp λ{a b} x=>by unfold p2 at x;rw[uk]at x;omega
 obtain⟨g1,g2⟩:=FN m hp;have f:=l.mem_iff.2 hs;have k:=l.mem_iff.2 v;have g3:(oy p2 r).Pairwise (λs t=>s=t\/qx s t (mkMap al [])=No\/qx t s (mkMap al [])=No\/uV (hi s) (gl s) (hi t) (gl t)):=g1.imp λ{x y} c=>by
  rcases c with hc|hf
  exact bk (br hc);exact bk (bk (bk (br hf)))
 have g4:=Gw (R:=λs t=>s=t\/qx s t (mkMap al [])=No\/qx t s (mkMap al [])=No\/uV (hi s) (gl s) (hi t) (gl t)) (λx y c=>by
  rcases c with c|c|c|c
  exact br c.symm
  grind
  exact bk (br c);exact bk (bk (bk c.symm))) (λx=>br rfl) g3 f k
 have one:=λ{x y:bs}=>(m8 r).X2 (h.j8 u) hs v d (x:=x) (y:=y);have n:=λ{x y:bs}=>(m8 r).X2 (h.j8 u) v hs (λe=>d e.symm) (x:=x) (y:=y);rcases g4 with g|g|g|g
 exact(d g).elim;exact h.U' o o' d (g2 s f) (g2 t k) g one w z;exact(h.U' o' o (λe=>d e.symm) (g2 t k) (g2 s f) g n z w).symm;exact(aV3 w z g).elim
end fp
def Wu{M s t:Int}{v a b:bs}(h1:s*(a.2-v.2)=M*(a.1-v.1))(h2:t*(b.2-v.2)=M*(b.1-v.1)):M*fr v a b=(s-t)*((a.2-v.2)*(b.2-v.2)):=by
 unfold fr;generalize a.2-v.2=A at *;generalize b.2-v.2=B at *;generalize a.1-v.1=x at *;generalize b.1-v.1=y at *;have c:M*(x*B)=s*(A*B):=by rw[<-dh,<-h1,dh]
 have d:M*(A*y)=t*(A*B):=by rw[<-dh,dV M A,dh,<-h2,<-dh,dV A t,dh]
 rw[cW,c,d,<-lI]
def az9{M c d P:Int}(a:0<M)(b:0<P)(h:M*c=d*P):0<c↔0<d:=by constructor;intro hc;have:=cw a hc;rw[h,dV]at this;exact bX this b;intro hd;have:=cw hd b;rw[<-h]at this;exact bX this a
section
variable {ι:Type} (N:Net ι)
def Ee{g:Net.ml ι}(f:g.1∈N.E){v w:bs}(hv:N.src g=v)(hw:N.dst g=w) :
  (N.cls g=0/\v.2=w.2/\v.1<w.1)\/(N.cls g=1/\v.2<w.2/\N.s g.1*(w.2-v.2)=N.M*(w.1-v.1)/\N.X g.1 (v.2+1)=N.M*v.1+N.s g.1) \/
  (N.cls g=2/\v.2=w.2/\w.1<v.1)\/(N.cls g=3/\w.2<v.2/\N.s g.1*(w.2-v.2)=N.M*(w.1-v.1)/\N.X g.1 (v.2-1)=N.M*v.1-N.s g.1):=by
 obtain⟨e,b⟩:=g;have o:=N.ord e f;by_cases hu:N.up e;have hs:=N.AB e f hu;have h:=N.yo f hu;cases b;right;right;right;have c:N.a7 e=v:=hv;have d:N.b7 e=w:=hw;have a:(N.b7 e).2<(N.a7 e).2:=hu;rw[c,d]at hs a;rw[c]at h;refine⟨by simp[Net.cls,hu],a,?_,?_⟩;have i:N.s e*(w.2-v.2)=- (N.s e*(v.2-w.2)):=by rw[<-cK];congr 1;omega
 have a2:N.M*(w.1-v.1)=- (N.M*(v.1-w.1)):=by rw[<-cK];congr 1;omega
 show N.s e*(w.2-v.2)=_;omega;show N.X e (v.2-1)=_;rw[<-h];show N.M*(N.b7 e).1+N.s e*(v.2-1-(N.b7 e).2)=N.M*(N.b7 e).1+N.s e*(v.2-(N.b7 e).2)-N.s e;have:N.s e*(v.2-1-(N.b7 e).2)=N.s e*(v.2-(N.b7 e).2)-N.s e:=by
  have:v.2-1-(N.b7 e).2=(v.2-(N.b7 e).2)-1:=by omega
  rw[this,cW,gL]
 omega;right;left;have c:N.b7 e=v:=hv;have d:N.a7 e=w:=hw;have a:(N.b7 e).2<(N.a7 e).2:=hu;rw[c,d]at hs a;refine⟨by simp[Net.cls,hu],a,hs,?_⟩;show N.X e (v.2+1)=_;unfold Net.X;rw[c,show v.2+1-v.2=1 by omega,gL];have a:¬(N.b7 e).2<(N.a7 e).2:=hu;cases b;right;right;left;have c:N.a7 e=v:=hv;have d:N.b7 e=w:=hw;rw[c,d]at o a;exact⟨by simp[Net.cls,hu],by omega,by omega⟩;left;have c:N.b7 e=v:=hv;have d:N.a7 e=w:=hw;rw[c,d]at o a;exact⟨by simp[Net.cls,hu],by omega,by omega⟩
def at2{g h:Net.ml ι}(m:g.1∈N.E)(n:h.1∈N.E){v a b:bs}(g1:N.src g=v)(g2:N.dst g=a)(h1:N.src h=v)(h2:N.dst h=b)(p:d' v=No)(q:d' a=No)(rI:d' b=No) :
  oo v a b=No↔N.nh v.2 g h:=by
 have i:mh a v=N2:=by rw[<-eG,pt];rintro rfl;rcases Ee N m g1 g2 with x|x|x|x<;>omega
 have j:mh b v=N2:=by rw[<-eG,pt];rintro rfl;rcases Ee N n h1 h2 with x|x|x|x<;>omega
 have key:oo v a b=if oQ v a=oQ v b then Eo (0<fr v a b)else oQ v b:=by unfold oo;simp[p,q,rI,i,j]
 rw[key];unfold Net.nh;have o:=N.p7;rcases Ee N m g1 g2 with⟨c1,k,e⟩|⟨c1,k,e,nq⟩|⟨c1,k,e⟩|⟨c1,k,e,nq⟩<;>rcases Ee N n h1 h2 with⟨c2,l,f⟩|⟨c2,l,f,z2⟩|⟨c2,l,f⟩|⟨c2,l,f,z2⟩
 all_goals
  have c:oQ v a=Eo (a.2<v.2\/(a.2=v.2/\a.1<v.1)):=by unfold oQ;simp
  have d:oQ v b=Eo (b.2<v.2\/(b.2=v.2/\b.1<v.1)):=by unfold oQ;simp
 case inl.inl =>rw[ft (by omega)]at c d;rw[c,d,cr rfl,kA];unfold fr;rw[show a.2-v.2=0 by omega,show b.2-v.2=0 by omega,eC,eB];omega
 case inl.inr.inl =>rw[ft (by omega)]at c d;rw[c,d,cr rfl,kA];unfold fr;rw[show a.2-v.2=0 by omega,eC];have:=cw (show 0<a.1-v.1 by omega) (show 0<b.2-v.2 by omega);omega
 case inr.inl.inl =>rw[ft (by omega)]at c d;rw[c,d,cr rfl,kA];unfold fr;rw[show b.2-v.2=0 by omega,eB];have:=cw (show 0<a.2-v.2 by omega) (show 0<b.1-v.1 by omega);omega
 case inr.inl.inr.inl =>rw[ft (by omega)]at c d;rw[c,d,cr rfl,kA,az9 o (cw (show 0<a.2-v.2 by omega) (show 0<b.2-v.2 by omega)) (Wu e f)];omega
 case inr.inr.inl.inr.inr.inl =>rw[hT (by omega)]at c d;rw[c,d,cr rfl,kA];unfold fr;rw[show a.2-v.2=0 by omega,show b.2-v.2=0 by omega,eC,eB];omega
 case inr.inr.inl.inr.inr.inr =>rw[hT (by omega)]at c d;rw[c,d,cr rfl,kA];unfold fr;rw[show a.2-v.2=0 by omega,eC];have:=cO (show a.1-v.1<0 by omega) (show b.2-v.2<0 by omega);omega
 case inr.inr.inr.inr.inr.inl =>rw[hT (by omega)]at c d;rw[c,d,cr rfl,kA];unfold fr;rw[show b.2-v.2=0 by omega,eB];have:=cO (show a.2-v.2<0 by omega) (show b.1-v.1<0 by omega);omega
 case inr.inr.inr.inr.inr.inr =>rw[hT (by omega)]at c d;rw[c,d,cr rfl,kA,az9 o (cO (show a.2-v.2<0 by omega) (show b.2-v.2<0 by omega)) (Wu e f)];omega
 all_goals first
  | (rw[ft (by omega)]at c;rw[hT (by omega)]at d;rw[c,d];simp only[aG,l4,true_iff];(first|rw[cc (by simp)]|skip);omega)
  | (rw[hT (by omega)]at c;rw[ft (by omega)]at d;rw[c,d,cc (by simp)];simp only[aG,false_iff];omega)
end
end Go.Ab
