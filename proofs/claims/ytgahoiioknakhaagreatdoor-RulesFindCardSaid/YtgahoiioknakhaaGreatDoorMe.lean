/- A part of the proof; its readable source lies in wip of the prover's repo (squeezed here for the limit of bytes). -/
import Derived.Test.YtgahoiioknakhaaGreatDoorMd
import Derived.KernelRfl
import Derived.Test.YtgahoiioknakhaaGreatDoorMc
set_option linter.all false
open BitVec renaming ofInt->aW,toNat_ofInt->eW
open Bool renaming and_assoc->fR,and_eq_true->ab,and_false->jZ,and_self->bG,and_true->fQ,eq_false_iff->gM,eq_iff_iff->dc,false_eq_true->aF,false_or->cR,not_eq_true'->dt,not_false->aQ,not_true->ar,or_assoc->lQ,or_comm->iJ,or_eq_false_iff->dM,or_eq_true->bx,or_self->jq,true_and->bQ,true_or->jQ,true->Y,false->U
open ByteArray renaming mk->bU
open Classical renaming byContradiction->fV
open Decidable renaming decide->No
open Eq renaming trans->mj
open Function renaming comp->kS,comp_def->f_
open Go.IntKind renaming i64->du
open Int renaming add_assoc->jK,add_mul_ediv_left->ke,add_mul_emod_self_left->ju,add_zero->ee,ediv_le_self->fg,ediv_lt_iff_lt_mul->gN,ediv_lt_of_lt_mul->cm,ediv_nonneg->bH,emod_lt_of_pos->cX,emod_nonneg->df,le_of_mul_le_mul_left->jB,max_comm->iy,min_comm->jG,mul_comm->cT,mul_ediv_add_emod->dg,mul_le_mul->kH,mul_le_mul_of_nonneg_right->aM,mul_lt_mul_of_pos_right->eE,mul_neg->cn,mul_nonneg->aB,mul_pos->bR,mul_pos_of_neg_of_neg->cN,mul_sub->cZ,mul_zero->dV,natCast_mul->cY,neg_mul->dX,neg_mul_neg->dS,tmod_eq_emod_of_nonneg->jt,toNat_natCast->aO,zero_add->iP,zero_sub->mu
open List renaming all_cons->bE,all_eq_true->aj,all_nil->dD,any_cons->cx,any_eq_false->c_,any_eq_true->gW,any_nil->fI,append_assoc->cz,append_nil->ba,cons_append->cV,countP_cons->iR,countP_le_length->gQ,drop_eq_getElem_cons->bJ,drop_length->gX,ext_getElem?->dU,filter_congr->iC,filter_cons->fz,find?_cons->fW,find?_eq_none->il,find?_nil->js,find?_some->eB,flatMap_append->hZ,flatMap_cons->db,flatMap_def->k_,flatMap_nil->iQ,foldl->bf,forall_mem_map->kq,getElem?_cons_succ->aK,getElem?_eq_getElem->af,getElem?_eq_none->bB,getElem?_eq_some_iff->aq,getElem?_map->aS,getElem?_range->dN,getElem?_reverse->jS,getElem?_set->dx,getElem?_take_of_lt->eH,getElem_inj->gY,getElem_map->cK,getElem_mem->au,getElem_of_mem->bk,getLast_cons_cons->gJ,head?->gg,head?_cons->fX,head?_drop->eA,length->aa,length_append->aL,length_cons->aA,length_filter_le->cB,length_map->aI,length_nil->cP,length_range->dO,length_reverse->h_,length_take->cQ,map->cD,map_cons->aD,map_map->de,map_nil->cM,mem_append->aV,mem_cons->aG,mem_cons_of_mem->bC,mem_cons_self->aR,mem_filter->aY,mem_flatMap->bW,mem_flatten->bZ,mem_map->aN,mem_map_of_mem->aX,mem_of_find?_eq_some->bh,mem_of_getElem?->aH,mem_of_mem_drop->aC,mem_of_mem_take->ka,mem_range->gf,mem_reverse->eG,mem_singleton->bz,mergeSort_perm->cO,nil_append->br,nodup_append->dP,nodup_cons->dq,pairwise_append->fP,pairwise_cons->aU,pairwise_flatMap->gR,pairwise_flatten->fH,pairwise_map->cE,pairwise_reverse->jR,range->aT,reverse_cons->gr,set_append_right->fJ,take_add_one->bn,take_append_drop->dJ,take_length->bN,take_of_length_le->jL
open List.Nodup renaming length_le_of_subset->eU
open List.Pairwise renaming nil->jY
open List.Perm renaming refl->kp
open List.cons renaming inj->kK,injEq->cW
open Nat renaming add_mod_right->gT,add_sub_cancel->iz,add_zero->eC,eq_of_mul_eq_mul_left->jC,eq_zero_or_pos->gh,gcd->bS,gcd_dvd_left->lr,gcd_dvd_right->lf,gcd_mul_left->lu,gcd_pos_of_pos_left->jM,lt_or_ge->cU,min_eq_left->dw,mod_eq_of_lt->da,mod_lt->eZ,mod_self->mo,mul_succ->mr,pow_succ->mq,sub_zero->ml,two_pow_pos->lH
open Nat.Coprime renaming coprime_dvd_right->mE,mul_left->mF
open Option renaming getD_some->bM,map_map->dQ,map_some->ai,toList_some->kb,some->Z,none->W
open Option.some renaming inj->aJ,injEq->ah
open Or renaming inl->bw,inr->bm
open Prod renaming ext->fC
namespace Go.Ab
open Go Go.Pg
open Classical
def bS4(a:ct)(p0:bs)(l:eY):dk (pf a (p0::l)) (λs=>zj (hi s) (gl s))=oZ p0 l:=by unfold pf;rw[DY,<-as8];exact ns λi _=>rfl
def af5(al:gp)(ag:hI):∀c:eD,l5 al ag c=dk c (vi al ag)
 | []=>rfl
 |d::c=>by show vi al ag d+l5 al ag c=_;rw[af5 al ag c];rfl
def Qe(x:Int)(v:Int):∀ {c:eD},c.Nodup->dk c (λd=>ite (x=d) v 0)=if x∈c then v else 0
 | [],_=>by simp[dk]
 |a::c,f=>by rw[dq]at f;have g:=Qe x v f.2;simp only[dk,g];by_cases e:x=a;subst e;rw[cr rfl,cc f.1,cr (aR ..)];omega;rw[cc e];by_cases b:x∈c;rw[cr b,cr (bC _ b)];omega;rw[cc b,cc (by simp[e,b])];rfl
namespace fp
variable {al:gp} {ag:hI} {fs:eD} (h:fp al ag fs)
variable {r:cu fy} (hr:zb al ag ag=Z r)
include h
theorem ap7(F:Net.pJ fy->Int):dk ((m8 r).hY (h.j8 hr)).og F=dk r (λs=>F (nA s)+F (nz s)):=by rw[Net.D9];refine ns λs _=>?_;unfold nA nz;cases(m8 []).fwd s;show F (s,Y)+F (s,U)=F (s,U)+F (s,Y);omega;rfl
theorem bg1{d:Int}(hd:d∈ny al ag):dk ((m8 r).hY (h.j8 hr)).og (λk=>ite (qw k=d) (((m8 r).hY (h.j8 hr)).vV k) 0)=vi al ag d:=by
 rw[h.ap7 hr];have d1:∀s,qw (nA s)=s.1.1:=λs=>by unfold qw;rw[cr (xJ s)];rfl
 have d2:∀s,qw (nz s)=- s.1.1:=λs=>by unfold qw;rw[cc (by rw[wN];simp)];rfl
 have c1:∀s,((m8 r).hY (h.j8 hr)).vV (nA s)=zj (hi s) (gl s):=λs=>by unfold Net.vV;rw[Ad,Gx];rfl
 have c2:∀s,((m8 r).hY (h.j8 hr)).vV (nz s)=- zj (hi s) (gl s):=λs=>by unfold Net.vV zj;rw[Al,GG];omega
 have pos:∀s∈r,0<s.1.1:=λs hs=>by let ⟨a,p,i,o⟩:=h.q_ hr hs;have:=h.um o.nM;rw[o.eq];exact this
 let ⟨a,ha,c⟩:=h.uP.1 hd;let ⟨f,t,_,_,g,_⟩:=h.path ha;have hp:=h.um ha;have j:=NP (λs=>zj (hi s) (gl s)) g (pq h.rX) (λb l e=>h.Bg l ha e) hr ha;rw[bS4]at j;rcases c with rfl|rfl
 have e:dk r (λs=>(ite (qw (nA s)=a.1) (((m8 r).hY (h.j8 hr)).vV (nA s)) 0)+(ite (qw (nz s)=a.1) (((m8 r).hY (h.j8 hr)).vV (nz s)) 0))=dk r (λs=>ite (s.1.1=a.1) (zj (hi s) (gl s)) 0):=by refine ns λs hs=>?_;have:=pos s hs;rw[d1,d2,c1,cc (show ¬-s.1.1=a.1 by omega),ee]
 rw[e,j];unfold vi;rw[show la a.1=a.1 by unfold la;omega,g];simp only;rw[cc (by omega)];have e:dk r (λs=>(ite (qw (nA s)=-a.1) (((m8 r).hY (h.j8 hr)).vV (nA s)) 0)+(ite (qw (nz s)=-a.1) (((m8 r).hY (h.j8 hr)).vV (nz s)) 0))=- dk r (λs=>ite (s.1.1=a.1) (zj (hi s) (gl s)) 0):=by rw[<-GC];refine ns λs hs=>?_;have:=pos s hs;rw[d1,d2,c2,cc (show ¬s.1.1=-a.1 by omega),iP];by_cases q:s.1.1=a.1;rw[cr q,cr (by omega)];rw[cc q,cc (by omega)];rfl
 rw[e,j];unfold vi;rw[show la (-a.1)=a.1 by unfold la;omega,g];simp only;rw[cr (by omega)]
theorem QK{c:eD}(hc:c∈l9 al ag):Net.tN (h.tw hr) c=l5 al ag c:=by
 have g:c.Nodup:=(fH.1 h.xF.1.nodup).1 c hc;have mem:∀k,k∈((m8 r).hY (h.j8 hr)).og↔k.1∈r:=λk=>Net.Gf;rw[af5];have i:dk c (vi al ag)=dk c (λd=>dk ((m8 r).hY (h.j8 hr)).og (λk=>ite (qw k=d) (((m8 r).hY (h.j8 hr)).vV k) 0)) :=ns λd hd=>(h.bg1 hr (h.zS hc hd)).symm;rw[i,J2];unfold Net.tN;refine ns λk hk=>?_;rw[Qe _ _ g];have f:=(h.yV hr ((mem k).1 hk)).1;by_cases b:qw k∈c;have a:(h.tw hr).c k=c:=h.Iu hc b;rw[cr b,cr a];have a:¬(h.tw hr).c k=c:=λe=>b (by
  have j:wh al ag (qw k)=c:=e;rw[<-j];exact(h.zT f).2)
 rw[cc b,cc a]
end fp
end Go.Ab
namespace Go.Ab
open Go Go.Pg
def oN(g:bs->bs->Int):bs->eY->Int
 |_,[]=>0
 |p,q::r=>g p q+oN g q r
def Xo(g:bs->bs->Int):∀(l:eY) (p:bs),dk (aT (aa l)) (λi=>g (((p::l)[i]?).getD (0,0)) (((p::l)[i+1]?).getD (0,0)))=oN g p l
 | [],p=>rfl
 |q::l,p=>by have a:=Xo g l q;rw[aA,List.range_succ_eq_map];simp only[dk,DY];have b:∀i:Nat,(p::q::l)[Nat.succ i+1]?=(q::l)[i+1]?:=λi=>rfl;have c:∀i:Nat,(p::q::l)[Nat.succ i]?=(q::l)[i]?:=λi=>rfl;simp only[b,c];rw[a];rfl
def cd4(g:bs->bs->Int)(a:ct)(p0:bs)(l:eY):dk (pf a (p0::l)) (λs=>g (hi s) (gl s))=oN g p0 l:=by unfold pf;rw[DY,<-Xo];exact ns λi _=>rfl
def pg(at' a b:bs):Bool:=(No (a.2<=at'.2)&&(No (at'.2<b.2)&&No (0<l7 a b at')))||(No (b.2<=at'.2)&&(No (at'.2<a.2)&&No (l7 a b at'<0)))
def nG(at' a b:bs):Int:=ite (pg at' a b=Y) 1 0
def qa(at':bs):bs->eY->Bool
 |_,[]=>U
 |p,q::r=>n' p q at'||qa at' q r
def WV(at':bs):∀(l:eY) (p:bs) (st:Bool×Bool),(vj at' p l st).2=(st.2||qa at' p l)/\(qa at' p l=U->∀n:Int,st.1=No (n%2=1)->(vj at' p l st).1=No ((n+oN (nG at') p l)%2=1))
 | [],p,st=>⟨by simp[vj,qa],λ_ n a=>by simpa[vj,oN]using a⟩
 |q::l,p,st=>by
  let ⟨i1,i2⟩:=WV at' l q (vn at' st p q);show(vj at' q l (vn at' st p q)).2=(st.2||(n' p q at'||qa at' q l))/\((n' p q at'||qa at' q l)=U->∀n:Int,st.1=No (n%2=1)->(vj at' q l (vn at' st p q)).1=No ((n+(nG at' p q+oN (nG at') q l))%2=1));cases ho:n' p q at' with
  |true=>
   have e:vn at' st p q=(st.1,Y):=by unfold vn;rw[ho];rfl
   rw[e]at i1⊢;refine⟨by rw[i1];simp,λh=>by simp at h⟩
  |false=>
   have e:vn at' st p q=bif pg at' p q then(!st.1,st.2)else st:=by unfold vn;rw[ho];rfl
   have b:(vn at' st p q).2=st.2:=by rw[e];cases pg at' p q<;>rfl
   refine⟨by rw[i1,b];simp,λh n a=>?_⟩;have h':qa at' q l=U:=by simpa using h
   have d:(vn at' st p q).1=No ((n+nG at' p q)%2=1):=by
    rw[e];unfold nG;cases pg at' p q with
    |false=>simpa using a
    |true=>
     show(!st.1)=No ((n+1)%2=1);rw[a];by_cases c:n%2=1;have:¬(n+1)%2=1:=by omega
     simp[c,this];have:(n+1)%2=1:=by omega
     simp[c,this]
   rw[i2 h' (n+nG at' p q) d];exact decide_eq_decide.2 (by rw[show n+(nG at' p q+oN (nG at') q l)=n+nG at' p q+oN (nG at') q l by omega])
def pY(at':bs):eY->Int
 | []=>0
 |p::l=>oN (nG at') p l
def pB(at':bs):eY->Bool
 | []=>U
 |p::l=>qa at' p l
def bZ2(at':bs)(l:eY)(st:Bool×Bool):(y7 at' l st).2=(st.2||pB at' l)/\(pB at' l=U->∀n:Int,st.1=No (n%2=1)->(y7 at' l st).1=No ((n+pY at' l)%2=1)):=by cases l;exact⟨by simp[y7,pB],λ_ n a=>by simpa[y7,pY]using a⟩;rename_i p l;exact WV at' l p st
def WY(m:cu (Int×eY))(at':bs):∀(c:eD) (st:Bool×Bool),(tn m at' c st).2=(st.2||c.any λd=>pB at' ((fh gd (la d) m).getD [])) /\
  ((∀d∈c,pB at' ((fh gd (la d) m).getD [])=U)->∀n:Int,st.1=No (n%2=1)->(tn m at' c st).1=No ((n+dk c λd=>pY at' ((fh gd (la d) m).getD []))%2=1))
 | [],st=>⟨by simp[tn],λ_ n a=>by simpa[tn,dk]using a⟩
 |d::c,st=>by let ⟨q5,nj⟩:=bZ2 at' ((fh gd (la d) m).getD []) st;let ⟨i1,i2⟩:=WY m at' c (y7 at' ((fh gd (la d) m).getD []) st);refine⟨?_,λa n h=>?_⟩;show(tn m at' c (y7 at' ((fh gd (la d) m).getD []) st)).2=_;rw[i1,q5,cx,lQ];show(tn m at' c (y7 at' ((fh gd (la d) m).getD []) st)).1=_;rw[i2 (λe he=>a e (by simp[he])) _ (nj (a d (by simp)) n h)];exact decide_eq_decide.2 (by simp only[dk];rw[jK])
def FU(m:cu (Int×eY))(at':bs)(c:eD):nF m c at'=Y↔(∀d∈c,pB at' ((fh gd (la d) m).getD [])=U)/\(dk c λd=>pY at' ((fh gd (la d) m).getD []))%2=1:=by
 let ⟨h1,h2⟩:=WY m at' c (U,U);unfold nF;by_cases a:∀d∈c,pB at' ((fh gd (la d) m).getD [])=U;have f:=h2 a 0 (by simp);have e:(tn m at' c (U,U)).2=U:=by rw[h1,cR];exact c_.2 λd hd=>by rw[a d hd];simp
 rw[f,e,iP];constructor;intro h;refine⟨a,?_⟩;by_cases q:(dk c λd=>pY at' ((fh gd (la d) m).getD []))%2=1;exact q;rw[fc q]at h;cases h;rintro ⟨_,h⟩;rw[hT h];rfl;have e:(tn m at' c (U,U)).2=Y:=by rw[h1,cR,gW];have:∃d,d∈c/\¬pB at' ((fh gd (la d) m).getD [])=U:=fV λh=>a λd hd=>fV λh'=>h ⟨d,hd,h'⟩;let ⟨d,hd,h⟩:=this;exact⟨d,hd,by simpa using h⟩
 rw[e];constructor;intro h;exfalso;generalize(tn m at' c (U,U)).1=b at h;cases b<;>simp at h;rintro ⟨h,_⟩;exact(a h).elim
def ca0{a b p:bs}(ha:d' a=Y)(c:d' b=Y)(hp:d' p=Y):(0<l7 a b p↔0<fr a b p)/\(l7 a b p<0↔fr a b p<0):=by unfold l7;rw[Ft ha c hp];constructor<;>(repeat' split)<;>omega
namespace q6
variable {ι:Type} (F:q6 ι) (dC:F.Ok)
include dC
theorem ay7(x k:Int):Net.nK.yn (F.hY dC) k (λt=>(F.hY dC).eS t k/\(F.hY dC).X t k<(F.hY dC).M*x):=by
 refine⟨λt _ h=>h.1,λt b s hs h hc a=>⟨hc,?_⟩⟩;have c:=F.w8 dC;rcases Int.lt_or_le ((F.hY dC).X t k) ((F.hY dC).X s k)with q|q
 have:=c.fr t b s hs k h.1 hc q;unfold Net.key at a;omega;have:=h.2;omega
theorem bk9{e:ι}(he:e∈F.E){at':bs}(c:d' at'=Y):pg at' (F.src e) (F.dst e)=Y↔(F.hY dC).eS e at'.2/\(F.hY dC).M*at'.1<(F.hY dC).X e at'.2:=by
 have o:=y_ dC he;have b:=pO dC he;have core:(F.b7 e).2<=at'.2->at'.2<(F.a7 e).2->(0<l7 (F.b7 e) (F.a7 e) at'↔(F.hY dC).M*at'.1<(F.hY dC).X e at'.2):=λh1 h2=>by rw[(ca0 b.1 b.2 c).1];exact(xu (F.hY dC).p7 (show(F.b7 e).2<(F.a7 e).2 by omega) ((F.hY dC).AB e he (show(F.b7 e).2<(F.a7 e).2 by omega))).1
 have key:pg at' (F.src e) (F.dst e)=Y↔((F.b7 e).2<=at'.2/\at'.2<(F.a7 e).2/\0<l7 (F.b7 e) (F.a7 e) at'):=by unfold pg;unfold b7 a7 at *;cases hf:F.fwd e;rw[hf]at o;simp only[bu]at o⊢;rw[Nv (F.src e) (F.dst e) at'];simp only[bx,ab,kA];constructor;rintro (h|h)<;>omega;intro h;right;omega;rw[hf]at o;simp only[b6]at o⊢;simp only[bx,ab,kA];constructor;rintro (h|h)<;>omega;intro h;left;omega
 rw[key];constructor;rintro ⟨h1,h2,a⟩;exact⟨⟨h1,h2⟩,(core h1 h2).1 a⟩;rintro ⟨⟨h1,h2⟩,a⟩;exact⟨h1,h2,(core h1 h2).2 a⟩
theorem aS9(a b p:bs):n' b a p=n' a b p:=by
 unfold n';have c:(d' b&&d' a&&d' p)=(d' a&&d' b&&d' p):=by cases d' a<;>cases d' b<;>rfl
 have d:No (fr b a p=0)=No (fr a b p=0):=by rw[I6];exact decide_eq_decide.2 (by omega)
 have e:sU b a p=sU a b p:=by unfold sU;rw[jG b.1,iy b.1,jG b.2,iy b.2]
 rw[c,d,e]
theorem bq8{e:ι}(he:e∈F.E){at':bs}(h:d' at'=Y)(ho:n' (F.src e) (F.dst e) at'=U)(hc:(F.hY dC).eS e at'.2):(F.hY dC).X e at'.2≠(F.hY dC).M*at'.1:=by
 intro d;have hu:(F.b7 e).2<(F.a7 e).2:=Int.lt_of_le_of_lt hc.1 hc.2;have h1:(F.b7 e).2<=at'.2:=hc.1;have h2:at'.2<(F.a7 e).2:=hc.2;have f:=pO dC he;have a:=F.H6 dC he hu h1 (by omega);have g:=F.Cg F.E;have b:(F.hY dC).X e at'.2=F.prod F.E*at'.1:=d;rw[b]at a;have j:=jB a.1 g;have k:=jB a.2 g;have hs:=xu (p:=at') (F.hY dC).p7 hu ((F.hY dC).AB e he hu);have i:pe (F.hY dC).M ((F.hY dC).s e) (F.b7 e) at'.2=(F.hY dC).M*at'.1:=d;have hz:fr (F.b7 e) (F.a7 e) at'=0:=by
  have s1:¬ 0<fr (F.b7 e) (F.a7 e) at':=λq=>by have:=hs.1.1 q;omega
  have s2:¬fr (F.b7 e) (F.a7 e) at'<0:=λq=>by have:=hs.2.1 q;omega
  omega
 have on:n' (F.b7 e) (F.a7 e) at'=Y:=by unfold n' sU;simp only[f.1,f.2,h,hz,bG,bQ,l6,ab,kA];omega
 have c:n' (F.b7 e) (F.a7 e) at'=n' (F.src e) (F.dst e) at':=by unfold b7 a7;cases F.fwd e;exact aS9 F dC _ _ _;rfl
 rw[c,ho]at on;cases on
end q6
open Classical
def ah1(at':bs):∀(l:eY) (p:bs),qa at' p l=U->∀(i:Nat) (x y:bs),(p::l)[i]?=Z x->(p::l)[i+1]?=Z y->n' x y at'=U
 | [],p,_,i,x,y,_,h2=>by simp at h2
 |q::l,p,h,i,x,y,h1,h2=>by
  have h':(n' p q at'||qa at' q l)=U:=h;rw[dM]at h';cases i;have a:p=x:=by simpa using h1
  have b:q=y:=by simpa using h2
  rw[<-a,<-b];exact h'.1;rename_i i;exact ah1 at' l q h'.2 i x y h1 h2
namespace fp
variable {al:gp} {ag:hI} {fs:eD} (h:fp al ag fs)
variable {r:cu fy} (hr:zb al ag ag=Z r)
include h
theorem bg2(at':bs){d:Int}(hd:d∈ny al ag){p:eY}(hp:pathOf al ag (la d)=Z p):dk ((m8 r).hY (h.j8 hr)).og (λk=>ite (qw k=d) (nG at' (hi k.1) (gl k.1)) 0)=pY at' p:=by
 rw[h.ap7 hr];have d1:∀s,qw (nA s)=s.1.1:=λs=>by unfold qw;rw[cr (xJ s)];rfl
 have d2:∀s,qw (nz s)=- s.1.1:=λs=>by unfold qw;rw[cc (by rw[wN];simp)];rfl
 have pos:∀s∈r,0<s.1.1:=λs hs=>by let ⟨a,p,i,o⟩:=h.q_ hr hs;have:=h.um o.nM;rw[o.eq];exact this
 let ⟨a,ha,c⟩:=h.uP.1 hd;let ⟨f,t,_,_,g,_⟩:=h.path ha;have n:=h.um ha;have j:=NP (λs=>nG at' (hi s) (gl s)) g (pq h.rX) (λb l e=>h.Bg l ha e) hr ha;rw[cd4]at j;have m:la d=a.1:=by unfold la;omega
 rw[m,g]at hp;cases hp;show _=oN (nG at') _ _;rw[<-j];refine ns λs hs=>?_;have:=pos s hs;rw[d1,d2];show(ite (s.1.1=d) (nG at' (hi s) (gl s)) 0)+(ite (- s.1.1=d) (nG at' (hi s) (gl s)) 0)=_;rcases c with rfl|rfl
 rw[cc (show ¬-s.1.1=a.1 by omega),ee];rw[cc (show ¬s.1.1=-a.1 by omega),iP];by_cases q:s.1.1=a.1;rw[cr q,cr (by omega)];rw[cc q,cc (by omega)]
theorem bf7(at':bs){m:cu (Int×eY)}(hm:∀a∈ag,fh gd a.1 m=pathOf al ag a.1){c:eD}(hc:c∈l9 al ag) :
  (dk c λd=>pY at' ((fh gd (la d) m).getD []))=dk ((m8 r).hY (h.j8 hr)).og (λk=>ite ((h.tw hr).c k=c) (nG at' (hi k.1) (gl k.1)) 0):=by
 have o:c.Nodup:=(fH.1 h.xF.1.nodup).1 c hc;have mem:∀k,k∈((m8 r).hY (h.j8 hr)).og↔k.1∈r:=λk=>Net.Gf;have p:(dk c λd=>pY at' ((fh gd (la d) m).getD []))=dk c (λd=>dk ((m8 r).hY (h.j8 hr)).og (λk=>ite (qw k=d) (nG at' (hi k.1) (gl k.1)) 0)):=by
  refine ns λd hd=>?_;have g:=h.zS hc hd;let ⟨a,ha,e⟩:=h.uP.1 g;have s:=h.um ha;have l:la d=a.1:=by unfold la;omega
  let ⟨f,t,_,_,n,_⟩:=h.path ha;rw[l,hm a ha,n];exact(h.bg2 hr at' g (by rw[l];exact n)).symm
 rw[p,J2];refine ns λk hk=>?_;rw[Qe _ _ o];have j:=(h.yV hr ((mem k).1 hk)).1;by_cases i:qw k∈c;have b:(h.tw hr).c k=c:=h.Iu hc i;rw[cr i,cr b];have b:¬(h.tw hr).c k=c:=λe=>i (by
  have q:wh al ag (qw k)=c:=e;rw[<-q];exact(h.zT j).2)
 rw[cc i,cc b]
theorem Ve(at':bs){m:cu (Int×eY)}(hm:∀a∈ag,fh gd a.1 m=pathOf al ag a.1){c:eD}(hc:c∈l9 al ag)(hoff:∀d∈c,pB at' ((fh gd (la d) m).getD [])=U){k:Net.pJ fy}(hk:k.1∈r)(b:(h.tw hr).c k=c):n' (hi k.1) (gl k.1) at'=U:=by
 have e:=(h.yV hr hk).1;have f:wh al ag (qw k)=c:=b;have g:qw k∈c:=by rw[<-f];exact(h.zT e).2
 let ⟨a,p,i,o⟩:=h.q_ hr hk;have s:=h.um o.nM;have j:k.1.1.1=a.1:=by rw[o.eq];rfl
 have n:la (qw k)=a.1:=by unfold la qw;rw[j];split<;>omega
 have h1:=hoff _ g;rw[n,hm a o.nM,o.path]at h1;have h2:=o.rO;have q:=o.se;cases p;simp at h2;rename_i p0 l;exact ah1 at' l p0 h1 i _ _ h2 q
end fp
namespace fp
variable {al:gp} {ag:hI} {fs:eD} (h:fp al ag fs)
variable {r:cu fy} (hr:zb al ag ag=Z r)
include h
theorem MU{at':bs}(n:d' at'=Y){m:cu (Int×eY)}(hm:∀a∈ag,fh gd a.1 m=pathOf al ag a.1){c:eD}(hc:c∈l9 al ag)(hoff:∀d∈c,pB at' ((fh gd (la d) m).getD [])=U) :
  nF m c at'=Y↔(h.tw hr).qg c (λt=>((m8 r).hY (h.j8 hr)).eS t at'.2/\((m8 r).hY (h.j8 hr)).X t at'.2<((m8 r).hY (h.j8 hr)).M*at'.1)%2=1:=by
 have dC:=h.j8 hr;rw[FU,h.bf7 hr at' hm hc];have l:=Net.aq1 (N:=(m8 r).hY (h.j8 hr)) ((h.tw hr).ux c) at'.2;have g:dk r (λe=>ite (((m8 r).hY (h.j8 hr)).eS e at'.2) ((h.tw hr).mv c e) 0)=dk r (λe=>ite (((m8 r).hY (h.j8 hr)).eS e at'.2/\((m8 r).hY (h.j8 hr)).X e at'.2<((m8 r).hY (h.j8 hr)).M*at'.1) ((h.tw hr).mv c e) 0)+dk r (λe=>nG at' (hi e) (gl e)*(h.tw hr).mv c e):=by
  rw[<-ss];refine ns λe he=>?_;have o:=(m8 r).bk9 dC he n;have f:pg at' (hi e) (gl e)=Y↔_:=o;unfold nG;by_cases eS:((m8 r).hY (h.j8 hr)).eS e at'.2;rw[cr eS];rcases Int.lt_trichotomy (((m8 r).hY (h.j8 hr)).X e at'.2) (((m8 r).hY (h.j8 hr)).M*at'.1)with x|x|x
  rw[cr ⟨eS,x⟩,cc (λq=>by have:=(f.1 q).2;omega)];omega;have z:(h.tw hr).mv c e=0:=by refine(h.tw hr).Bw λb p=>?_;have ho:=h.Ve hr at' hm hc hoff (k:=(e,b)) he p;exact(m8 r).bq8 dC he n ho eS x
  rw[z];simp;rw[cc (λq=>by have:=q.2;omega),cr (f.2 ⟨eS,x⟩)];omega;rw[cc eS,cc (eS ·.1),cc (λq=>eS (f.1 q).1)];omega
 have i:dk ((m8 r).hY (h.j8 hr)).og (λk=>ite ((h.tw hr).c k=c) (nG at' (hi k.1) (gl k.1)) 0)=dk r (λe=>nG at' (hi e) (gl e)*(h.tw hr).mv c e)+2*dk r (λe=>ite ((h.tw hr).c (e,Y)=c) (nG at' (hi e) (gl e)) 0):=by rw[Net.D9,<-JQ,<-ss];refine ns λe he=>?_;show(ite ((h.tw hr).c (e,Y)=c) (nG at' (hi e) (gl e)) 0)+(ite ((h.tw hr).c (e,U)=c) (nG at' (hi e) (gl e)) 0)=_;unfold Net.nK.mv ind;generalize nG at' (hi e) (gl e)=v;by_cases fa:(h.tw hr).c (e,Y)=c<;>by_cases gb:(h.tw hr).c (e,U)=c;simp only[cr fa,cr gb];omega;simp only[cr fa,cc gb];omega;simp only[cc fa,cr gb];omega;simp only[cc fa,cc gb];omega
 have j:dk r (λe=>ite (((m8 r).hY (h.j8 hr)).eS e at'.2) ((h.tw hr).mv c e) 0)=0:=by refine mj (ns λe he=>?_) l;by_cases q:((m8 r).hY (h.j8 hr)).eS e at'.2;simp only[cr q];simp only[cc q]
 have hs:(h.tw hr).qg c (λt=>((m8 r).hY (h.j8 hr)).eS t at'.2/\((m8 r).hY (h.j8 hr)).X t at'.2<((m8 r).hY (h.j8 hr)).M*at'.1)=dk r (λe=>ite (((m8 r).hY (h.j8 hr)).eS e at'.2/\((m8 r).hY (h.j8 hr)).X e at'.2<((m8 r).hY (h.j8 hr)).M*at'.1) ((h.tw hr).mv c e) 0):=by unfold Net.nK.qg;refine ns λe he=>?_;by_cases q:((m8 r).hY (h.j8 hr)).eS e at'.2/\((m8 r).hY (h.j8 hr)).X e at'.2<((m8 r).hY (h.j8 hr)).M*at'.1;simp only[cr q];simp only[cc q]
 rw[hs,i];rw[j]at g;constructor;rintro ⟨_,q⟩;omega;intro q;exact⟨hoff,by omega⟩
end fp
namespace fp
variable {al:gp} {ag:hI} {fs:eD} (h:fp al ag fs)
variable {r:cu fy} (hr:zb al ag ag=Z r)
include h
theorem Dg{c:eD}(hc:c∈l9 al ag):∃d,d∈c:=by obtain⟨e,m,he,hm,_,rfl⟩:=h.xF.1.y5 c hc;exact⟨_,td.2 ⟨0,hm,rfl⟩⟩
theorem outer{c:eD}(hc:c∈l9 al ag)(ha:0<l5 al ag c){d:Int}(hd:d∈c):(h.tw hr).Bb c (va al ag d):=by refine(h.tw hr).bE2 ((m8 r).w8 (h.j8 hr)) ?_ (h.VS hr hc hd) ?_;exact h.MY (h.zS hc hd) hr;rw[h.QK hr hc];exact ha
theorem MT{at':bs}(b:d' at'=Y){m:cu (Int×eY)}(hm:∀a∈ag,fh gd a.1 m=pathOf al ag a.1){c:eD}(hc:c∈l9 al ag)(ha:0<l5 al ag c)(he:nF m c at'=Y) :
  (h.tw hr).qg c (λt=>((m8 r).hY (h.j8 hr)).eS t at'.2/\((m8 r).hY (h.j8 hr)).X t at'.2<((m8 r).hY (h.j8 hr)).M*at'.1)=1:=by
 let ⟨d,hd⟩:=h.Dg hc;have ho:=h.outer hr hc ha hd;have e:=(m8 r).ay7 (h.j8 hr) at'.1 at'.2;have h1:=(h.MU hr b hm hc ((FU m at' c).1 he).1).1 he;rcases(h.tw hr).OW ((m8 r).w8 (h.j8 hr)) ho e with q|q
 omega;exact q
theorem bh6{at':bs}(k:d' at'=Y){m:cu (Int×eY)}(hm:∀a∈ag,fh gd a.1 m=pathOf al ag a.1){c e:eD}(hc:c∈l9 al ag)(b:e∈l9 al ag)(g:c≠e)(ha:0<l5 al ag c)(f:0<l5 al ag e)
  (he:nF m c at'=Y) (i:nF m e at'=Y):l5 al ag c≠l5 al ag e:=by
 let ⟨d,hd⟩:=h.Dg hc;let ⟨l,j⟩:=h.Dg b;let ⟨r,hr⟩:=h.j7;have h1:=h.MT hr k hm hc ha he;have h2:=h.MT hr k hm b f i;have:=(h.tw hr).bd9 ((m8 r).w8 (h.j8 hr)) (h.outer hr hc ha hd) (h.outer hr b f j) g ((m8 r).ay7 (h.j8 hr) at'.1 at'.2) h1 h2;rw[h.QK hr hc,h.QK hr b]at this;exact this
end fp
namespace fp
variable {al:gp} {ag:hI} {fs:eD} (h:fp al ag fs)
variable {r:cu fy} (hr:zb al ag ag=Z r)
include h
theorem bg0:(l9 al ag).Nodup:=by have hp:=(fH.1 h.xF.1.nodup).2;refine hp.imp_of_mem λ{c f} hc b hd e=>?_;let ⟨d,a⟩:=h.Dg hc;exact hd d a d (e▸a) rfl
end fp
namespace fp
variable {al:gp} {ag:hI} {fs:eD} (h:fp al ag fs)
variable {r:cu fy} (hr:zb al ag ag=Z r)
include h
omit h in
theorem aM5(k:Net.pJ fy):qw (Net.rev k)=- qw k:=by grind[qw,nA,xJ,nz,wN,xG,QR,Ll]
theorem bf2{n:b9}(a:n∈al){e d:Int}(he:e∈l1 al ag n)(b:d∈l1 al ag n):(h.tw hr).qX (va al ag e) (va al ag d):=by
 have prec:∀x∈l1 al ag n,(h.tw hr).qX (va al ag x) (va al ag (qn (l1 al ag n) x)):=λx c=>by have hm:=(h.tO hr a c).1;have hd:x∈ny al ag:=bZ.2 ⟨_,aX a,c⟩;have h2:=(h.Fl hr (k:=Net.rev (va al ag x)) hm).2;rw[aM5,h.BD hd,h.Ap a c]at h2;exact Net.nK.oc _ (.rev (.refl _)) h2
 have all:∀(i:Nat) (a7:i<aa (l1 al ag n)),(h.tw hr).qX (va al ag (l1 al ag n)[i]) (va al ag ((l1 al ag n)[0]'(by omega))):=by
  intro i
  induction i with
  |zero=>intro a7;exact .refl _
  |succ i f=>
   intro a7;have h1:=prec _ (au a7);have g:(i+1+aa (l1 al ag n)-1)%aa (l1 al ag n)=i:=by grind[l1,gT,da]
   rw[Gt (h.E7 a) a7]at h1;simp only[g]at h1;exact Net.nK.oc _ h1 (f (by omega))
 obtain⟨i,a7,rfl⟩:=bk he;obtain⟨j,hj,rfl⟩:=bk b;exact Net.nK.oc _ (all i a7) (Net.nK.xC _ (all j hj))
theorem Ox{n:b9}(d:n∈al){e:Int}(he:e∈l1 al ag n){c:eD}(z:∀k:Net.pJ fy,k.1∈r->((m8 r).hY (h.j8 hr)).src k=n.2->(h.tw hr).mv c k.1=0) :
  ((m8 r).hY (h.j8 hr)).L ((h.tw hr).mv c) (va al ag e)=(h.tw hr).qg c (λt=>((m8 r).hY (h.j8 hr)).eS t n.2.2/\((m8 r).hY (h.j8 hr)).X t n.2.2<((m8 r).hY (h.j8 hr)).M*n.2.1):=by
 have f:=(m8 r).w8 (h.j8 hr);have hd:=(h.tw hr).ux c;have ha:=h.Mp hr d;obtain⟨i,a7,rfl⟩:=bk he;have hl:=Net.ED f hd ha (i:=i) (by simpa using a7);rw[cK]at hl;have g:dk (((l1 al ag n).map (va al ag)).take (i+1)) (Net.dl ((h.tw hr).mv c))=0:=uq λk hk=>by have:=(ha.mem k).1 (ka hk);have:=z k this.1 this.2;unfold Net.dl;rw[this];cases k.2<;>rfl
 have j:((m8 r).hY (h.j8 hr)).C' ((h.tw hr).mv c) n.2=0:=uq λt b=>by split;rename_i q;exact z (t,U) b q.2;rfl
 have l:((m8 r).hY (h.j8 hr)).Bi ((h.tw hr).mv c) n.2=0:=uq λt b=>by split;rename_i q;exact z (t,U) b q.2;rfl
 have a:((m8 r).hY (h.j8 hr)).L2 n.2:=by
  have:=h.tO hr d (au a7);refine⟨_,this.1,?_⟩;have s:=this.2.1;unfold Net.src at s
  grind[va,l1]
 have li:=Net.line _ hd n.2.2 (((m8 r).hY (h.j8 hr)).M*n.2.1);have ho:=Net.Np f ((h.tw hr).mv c) a;have m:((m8 r).hY (h.j8 hr)).uG ((h.tw hr).mv c) n.2.2 (((m8 r).hY (h.j8 hr)).M*n.2.1)=0:=by rw[<-l];exact ho
 rw[hl,g,j];have o:((m8 r).hY (h.j8 hr)).vK ((h.tw hr).mv c) n.2.2 (((m8 r).hY (h.j8 hr)).M*n.2.1)=(h.tw hr).qg c (λt=>((m8 r).hY (h.j8 hr)).eS t n.2.2/\((m8 r).hY (h.j8 hr)).X t n.2.2<((m8 r).hY (h.j8 hr)).M*n.2.1):=by
  unfold Net.vK Net.nK.qg
  grind[m8]
 grind[m8]
theorem OJ{n:b9}{m:cu (Int×eY)}(hm:∀a∈ag,fh gd a.1 m=pathOf al ag a.1){c:eD}(hc:c∈l9 al ag)(hoff:∀d∈c,pB n.2 ((fh gd (la d) m).getD [])=U) :
  ∀k:Net.pJ fy,k.1∈r->((m8 r).hY (h.j8 hr)).src k=n.2->∀b,(h.tw hr).c (k.1,b)≠c:=by
 intro k hk hs b f;have h1:=h.Ve hr n.2 hm hc hoff (k:=(k.1,b)) hk f;let ⟨a,p,i,o⟩:=h.q_ hr hk;let ⟨g,rI⟩:=h.vp o;have e:n.2=hi k.1\/n.2=gl k.1:=by rw[<-hs];rcases xG k with q|q<;>grind[xG,left,Ad,Al]
 grind[QU]
omit h in
theorem T1(at':bs):∀(l:eY) (p:bs),(∀(i:Nat) (x y:bs),(p::l)[i]?=Z x->(p::l)[i+1]?=Z y->n' x y at'=U)->qa at' p l=U
 | [],p,_=>rfl
 |q::l,p,a=>by unfold qa;rw[a 0 p q rfl rfl,T1 at' l q λi x y b c=>a (i+1) x y (by simpa using b) (by simpa using c)];rfl
theorem Xl{n:b9}(b:n∈al){e:Int}(he:e∈l1 al ag n){m:cu (Int×eY)}(hm:∀a∈ag,fh gd a.1 m=pathOf al ag a.1){c:eD}(hc:c∈l9 al ag)(j:∀d∈c,¬(h.tw hr).qX (va al ag d) (va al ag e)) :
  ∀d∈c,pB n.2 ((fh gd (la d) m).getD [])=U:=by
 intro d hd;let ⟨a,ha,p,hp,s⟩:=h.FI (h.zS hc hd);have v:=h.um ha;have z:la d=a.1:=by grind[la]
 rw[z,hm a ha,hp];cases p;rfl;rename_i p0 l;refine T1 _ l p0 λi x y B C=>?_;cases ho:n' x y n.2 with
 |false=>rfl
 |true=>
  exfalso;have a7:i+1<aa (p0::l):=by grind[cU,bB]
  have hs:(rT a (p0::l),(i:Int))∈r:=u5 hr a ha _ hp _ (vM a7);have o:nJ al ag (rT a (p0::l),(i:Int)) a (p0::l) i:=⟨ha,hp,a7,rfl⟩;have D:hi (rT a (p0::l),(i:Int))=x:=aJ (o.rO.symm.trans B);have ey:gl (rT a (p0::l),(i:Int))=y:=aJ (o.se.symm.trans C);have at':=h.E9 o b (h.free hr hs n b) (by rw[D,ey];exact ho);have fin:∃g∈l1 al ag n,(va al ag g).1=(rT a (p0::l),(i:Int)):=by
   rcases at' with⟨q,f,_⟩|⟨q,f,_⟩
   refine⟨a.1,(h.zF b).2 ⟨a,ha,bw ⟨f,rfl⟩⟩,?_⟩;rw[h.BM ha hp,q];rfl;refine⟨-a.1,(h.zF b).2 ⟨a,ha,bm ⟨f,rfl⟩⟩,?_⟩;rw[h.Dv ha hp,show aa (p0::l)-2=i by omega];rfl
  let ⟨g,t,hf⟩:=fin;have c1:=h.bf2 hr b t he;have c2:∃k:Net.pJ fy,k.1=(rT a (p0::l),(i:Int))/\qw k=d:=by
   rcases s with⟨q,_⟩|⟨q,_⟩
   exact⟨nA (rT a (p0::l),(i:Int)),rfl,by unfold qw;rw[xJ,cr rfl];exact q.symm⟩;exact⟨nz (rT a (p0::l),(i:Int)),rfl,by unfold qw;rw[wN,cc (by simp)];exact q.symm⟩
  let ⟨k,hk,u⟩:=c2;have w:=(h.Fl hr (k:=k) (by rw[hk];exact hs)).1;rw[u]at w;have E:(h.tw hr).qX k (va al ag g):=by
   have:=(h.tw hr).rB k.1 k.2 (va al ag g).2
   grind[va]
  exact j d hd (Net.nK.oc _ w (Net.nK.oc _ E c1))
end fp
namespace fp
variable {al:gp} {ag:hI} {fs:eD} (h:fp al ag fs)
variable {r:cu fy} (hr:zb al ag ag=Z r)
include h
theorem bi4{m:cu (Int×eY)}(hm:∀a∈ag,fh gd a.1 m=pathOf al ag a.1){D:eD}(s:D∈l9 al ag):∃d∈D,∃n∈al,∃e∈l1 al ag n,rq m D=n.2/\d' (rq m D)=Y/\(h.tw hr).qX (va al ag e) (va al ag d):=by
 let ⟨d1,yG⟩:=h.Dg s;have hd:D.headD 0∈D:=by cases D;simp at yG;rename_i x l;simp
 have i:=h.zS s hd;let ⟨a,ha,p,hp,b⟩:=h.FI i;have t:=h.um ha;have w:la (D.headD 0)=a.1:=by unfold la;rcases b with⟨q,_⟩|⟨q,_⟩<;>omega
 let ⟨⟨n,j,g⟩,_⟩:=h.DQ ha;have hl:=h.Ce ha hp;have o:nJ al ag (rT a p,((0:Nat):Int)) a p 0:=⟨ha,hp,by omega,rfl⟩;have hs:(rT a p,((0:Nat):Int))∈r:=u5 hr a ha p hp _ (vM (by omega));have u:=h.Cn o rfl j g.symm;have v:rq m D=n.2:=by unfold rq;rw[w,hm a ha,hp];have:=o.rO;rw[u]at this;simp only[bM,this]
 refine⟨_,hd,n,j,a.1,(h.zF j).2 ⟨a,ha,bw ⟨g.symm,rfl⟩⟩,v,by rw[v,<-u];exact(h.vp o).1,?_⟩;rw[h.BM ha hp];rcases b with⟨q,f⟩|⟨q,f⟩
 rw[f];exact .refl _;have c:=(h.Fl hr (k:=nz (rT a p,((0:Nat):Int))) hs).1;have z:qw (nz (rT a p,((0:Nat):Int)))=D.headD 0:=by unfold qw;rw[wN,cc (by simp)];exact q.symm
 rw[z]at c;exact Net.nK.oc _ ((h.tw hr).rB _ _ _) (Net.nK.xC _ c)
end fp
def ve(x:kI):Int×eD:=(x.1,x.2.1)
theorem Wb{m:cu (Int×eY)}{at':bs}{L c:cu kI}(d:L.map ve=c.map ve):∀(r a:cu kI) (i b:Nat),r.map ve=a.map ve->rz m at' L r i b=rz m at' c a i b
 | [],[],_,_,_=>rfl
 | [],_::_,_,_,h=>by simp at h
 |_::_,[],_,_,h=>by simp at h
 |x::r,y::a,i,b,h=>by
  simp only[aD,cW,ve,Prod.mk.injEq]at h;have e:xd L b=xd c b:=by
   have:=Ar (λl=>(l[b]?).map Prod.fst) d
   grind[dQ,ve,xd]
  simp only[rz];rw[h.1.1,h.1.2,e];exact Wb d r a _ _ (by simpa[ve]using h.2)
def bK5{m:cu (Int×eY)}{L a:cu kI}(b:L.map ve=a.map ve)(at':bs):oI m L at'=oI m a at':=by grind[oI,Wb,List.map_tail]
def aS5(L:cu kI)(k:Nat)(c:eD):(oY L k c).map ve=L.map ve:=by
 unfold oY;cases a:L[k]? with
 |none=>rfl
 |some x=>
  simp only[List.map_set];refine dU λi=>?_;rw[dx];by_cases e:k=i;subst e;have hk:k<aa L:=by grind[cU,bB]
  rw[cr rfl,cr (by simpa using hk),aS,a];rfl;rw[cc e]
def Pd(L:cu kI)(k:Nat)(c:eD)(i:Nat):(oY L k c)[i]?=(L[i]?).map (λx=>(x.1,x.2.1,x.2.2.1++(ite (k=i) [c] []),x.2.2.2)):=by grind[oY,cU,bB]
def aD0{m:cu (Int×eY)}{pL:cu kI}:∀(R:cu eD) (L:cu kI),L.map ve=pL.map ve->∀(k:Nat),(sw m R L)[k]?=(L[k]?).map (λx=>(x.1,x.2.1,x.2.2.1++R.filter (λc=>No (oI m pL (rq m c)=k)),x.2.2.2))
 | [],L,_,k=>by simp[sw]
 |c::R,L,a,k=>by
  have e:=bK5 (m:=m) a (rq m c);simp only[sw];rw[aD0 R _ ((aS5 L _ c).trans a) k,Pd,dQ,e]
  grind[cz,oI,rq]
theorem aO2(L:cu kI)(k:Nat)(c:Int)(i:Nat):((p_ L k c)[i]?).map (λx=>(x.1,x.2.1,x.2.2.1))=(L[i]?).map (λx=>(x.1,x.2.1,x.2.2.1)):=by grind[p_,cU,bB]
def at3{al:gp}{ag:hI}{m:cu (Int×eY)}:∀(R:gp) (L:cu kI) (i:Nat),((ru al ag m R L)[i]?).map (λx=>(x.1,x.2.1,x.2.2.1))=(L[i]?).map (λx=>(x.1,x.2.1,x.2.2.1))
 | [],_,_=>rfl
 |n::R,L,i=>by
  simp only[ru];rw[at3 R]
  grind[na,aO2]
def SF(m:cu (Int×eY))(at':bs)(L pre:cu kI)(b:Nat):Prop :=(b=0/\∀x∈pre,nF m x.2.1 at'=U)\/∃y,L[b]?=Z y/\1<=b/\nF m y.2.1 at'=Y/\∀x∈pre,nF m x.2.1 at'=Y->y.1<=x.1
def NF{m:cu (Int×eY)}{at':bs}{L:cu kI}:∀(r:cu kI) (pre:cu kI) (b:Nat),L.tail=pre++r->SF m at' L pre b->SF m at' L (pre++r) (rz m at' L r (aa pre+1) b)
 | [],pre,b,_,h=>by rw[ba];exact h
 |x::r,pre,b,hp,h=>by
  have d:L[aa pre+1]?=Z x:=by rw[<-List.getElem?_tail,hp];simp
  simp only[rz];have e:pre++x::r=(pre++[x])++r:=by simp
  have el:aa pre+1+1=aa (pre++[x])+1:=by simp
  rw[e,el];refine NF r (pre++[x]) _ (hp.trans e) ?_;cases he:nF m x.2.1 at' with
  |false=>
   rw[jZ,bu];rcases h with⟨h1,h2⟩|⟨y,h1,h2,c,f⟩
   refine bw ⟨h1,λz hz=>?_⟩
   grind[bz]
   refine bm ⟨y,h1,h2,c,λz hz a=>?_⟩
   grind[bz]
  |true=>
   rw[fQ];rcases h with⟨h1,h2⟩|⟨y,h1,h2,c,f⟩
   rw[h1,hT (rfl:(0:Nat)=0),jQ,b6];refine bm ⟨x,d,by omega,he,λz hz a=>?_⟩
   grind[bz]
   have g:xd L b=y.1:=by unfold xd;rw[h1];rfl
   rw[g,fc (show ¬b=0 by omega),cR];by_cases q:x.1<y.1;rw[hT q,b6];refine bm ⟨x,d,by omega,he,λz hz a=>?_⟩
   grind[bz]
   rw[fc q,bu];refine bm ⟨y,h1,h2,c,λz hz a=>?_⟩
   grind[bz]
def bR7{m:cu (Int×eY)}{at':bs}{L:cu kI}{k:Nat}(hk:oI m L at'=k+1):∃y,L[k+1]?=Z y/\nF m y.2.1 at'=Y/\∀x∈L.tail,nF m x.2.1 at'=Y->y.1<=x.1:=by
 have:=NF (m:=m) (at':=at') (L:=L) L.tail [] 0 rfl (bw ⟨rfl,by simp⟩);rw[br,show rz m at' L L.tail (aa ([]:cu kI)+1) 0=k+1 from hk]at this;rcases this with⟨h,_⟩|⟨y,h1,_,h2,a⟩
 omega;exact⟨y,h1,h2,a⟩
end Go.Ab
namespace Go.Ab
open Go Go.Sort Go.Proofs Go.Shelf
set_option maxRecDepth 10000
namespace Dp
def qB(a b c d:bs):Int:=(b.1-a.1)*(d.2-c.2)-(b.2-a.2)*(d.1-c.1)
def Iy(a b c d:bs):Int:=(b.1-a.1)*(d.1-c.1)+(b.2-a.2)*(d.2-c.2)
def BY{a b:bs}(ha:d' a=Y)(c:d' b=Y):(-4194304<=b.1-a.1/\b.1-a.1<=4194304)/\-4194304<=b.2-a.2/\b.2-a.2<=4194304:=by rw[wH]at ha c;omega
theorem yK{a b c d:bs}(ha:d' a=Y)(g:d' b=Y)(hc:d' c=Y)(hd:d' d=Y):we (a,b,c,d)=Z (qB a b c d)/\-35184372088832<=qB a b c d/\qB a b c d<=35184372088832:=by
 let ⟨⟨h,i⟩,j,k⟩:=BY ha g;let ⟨⟨l,m⟩,e,f⟩:=BY hc hd;have m1:=vR h i e f;have m2:=vR j k l m
 grind[we,qB,fx]
theorem bg8{a b c d:bs}(ha:d' a=Y)(g:d' b=Y)(hc:d' c=Y)(hd:d' d=Y):Ic (a,b,c,d)=Z (Iy a b c d):=by
 let ⟨⟨h,i⟩,j,k⟩:=BY ha g;let ⟨⟨l,m⟩,e,f⟩:=BY hc hd;have m1:=vR h i l m;have m2:=vR j k e f
 grind[Ic,Iy,fx]
theorem LL(l:eY)(hl:aa l<2^62):CV l=Z (l.all d'):=by
 unfold CV;refine mP (A:=Unit) l (λi _=>(i:Int)) (λ_ rest=>Z (rest.all d')) (by omega) ?_ ?_ ()
 grind
 intro rec i _ x rest a7 hd a;have:=a ();simp only[fB a7,b6,fm hd,bT,f' a7 hl,this,bE]
 grind[d',wH]
def bO0(x:Int):0<=x*x:=by
 rcases(by omega:0<=x\/x<0)with h|h
 exact aB h h;exact Int.le_of_lt (cN h h)
def Rh{a b p:Int}:(p-a)*(p-b)<=0↔min a b<=p/\p<=max a b:=by
 constructor;intro h;rcases(by omega:p<min a b\/min a b<=p)with h1|h1
 have:=cN (a:=p-a) (b:=p-b) (by omega) (by omega);omega;rcases(by omega:max a b<p\/p<=max a b)with h2|h2
 have:=bR (a:=p-a) (b:=p-b) (by omega) (by omega);omega;exact⟨h1,h2⟩;rintro ⟨h1,h2⟩;rcases Int.le_total a b with h|h
 have:=aB (a:=p-a) (b:=b-p) (by omega) (by omega)
 grind
 have:=aB (a:=p-b) (b:=a-p) (by omega) (by omega)
 grind
theorem bE0{a b p:bs}(h:fr a b p=0):Iy a p b p<=0↔sU a b p=Y:=by
 have e:Iy a p b p=(p.1-a.1)*(p.1-b.1)+(p.2-a.2)*(p.2-b.2):=rfl;have g:((p.1-a.1)*(p.1-b.1))*((p.2-a.2)*(p.2-b.2))=((p.1-b.1)*(p.2-a.2))*((p.1-b.1)*(p.2-a.2)):=by grind[fr]
 have hs:=bO0 ((p.1-b.1)*(p.2-a.2));rw[<-g]at hs;have i:sU a b p=Y↔(p.1-a.1)*(p.1-b.1)<=0/\(p.2-a.2)*(p.2-b.2)<=0:=by rw[Rh,Rh];simp[sU,and_assoc]
 rw[i,e];generalize(p.1-a.1)*(p.1-b.1)=X at *;generalize(p.2-a.2)*(p.2-b.2)=f at *;constructor;intro hd;refine⟨?_,?_⟩;rcases(by omega:0<X\/X<=0)with c|c
 have d:f<0:=by omega
 have:=Int.mul_neg_of_pos_of_neg c d;omega;exact c;rcases(by omega:0<f\/f<=0)with d|d
 have c:X<0:=by omega
 have:=Int.mul_neg_of_neg_of_pos c d;omega;exact d;intro⟨h1,h2⟩;omega
theorem Mg(a b p:bs):yk (a,b,p)=Z (n' a b p):=by grind[yk,n',bT,LL,d',yK,bg8,qB,fr,decide_true,ah,bE0,decide_eq_false]
end Dp
namespace Dp
def bi3(a b:bs):o9 (a,b)=Z (hU a b):=by grind[o9,hU]
def bb5(a b c d:bs):HH (a,b,c,d)=Z (p8 a b c d):=by
 unfold HH p8;have e:∀p q:bs,(No (p.1=q.1)&&No (p.2=q.2))=u9 p q:=λ_ _=>rfl;have f:∀p q:bs,o9 (p,q)=Z (hU p q):=λp q=>bi3 p q
 grind[bT,hU,aF,u9]
theorem OD{a b c d:bs}(e:a≠b)(h1:fr a b c=0)(h2:fr a b d=0):fr c d a=0:=by
 unfold fr at *;have f:(b.1-a.1)*((d.1-c.1)*(a.2-c.2)-(d.2-c.2)*(a.1-c.1))=0:=by grind
 grind[Int.mul_eq_zero,absurd,fC]
theorem te{a b c:bs}(ha:d' a=Y)(d:d' b=Y)(hc:d' c=Y):(0<fr a b c/\l7 a b c=1)\/(fr a b c<0/\l7 a b c=-1)\/(fr a b c=0/\l7 a b c=0):=by grind[l7,sP,bG]
def Uf{a b c d:bs}(g:a≠b)(j:c≠d):AP (a,b,c,d)=Z (oK a b c d):=by
 unfold AP oK;have e:∀p q:bs,(No (p.1=q.1)&&No (p.2=q.2))=u9 p q:=λ_ _=>rfl;have h1:u9 a b=U:=by grind[pt]
 have h2:u9 c d=U:=by grind[pt]
 simp only[bT,LL _ (show aa [a,b,c,d]<2^62 by simp),bE,dD,fQ,e,h1,h2,bu,aF,l4];have k:(d' a&&(d' b&&(d' c&&d' d)))=(d' a&&d' b&&d' c&&d' d):=by simp[fR]
 rw[k];cases i:(d' a&&d' b&&d' c&&d' d)with
 |false=>simp
 |true=>
  simp only[ab]at i;let ⟨⟨⟨ha,f⟩,hc⟩,hd⟩:=i;simp only[ar,bu,vE];let ⟨fa,gb,kc⟩:=yK ha f hc hd;let ⟨l,r,s⟩:=yK ha hc hc hd;let ⟨s1,s2,t⟩:=yK ha hc ha f;rw[fa,(yK ha f ha hc).1,(yK ha f ha hd).1,(yK hc hd hc ha).1,(yK hc hd hc f).1,l,s1,bb5];simp only[bT];have u:qB a b c d=fr a b d-fr a b c:=by unfold qB fr;grind
  have v:qB a b c d=fr c d a-fr c d b:=by unfold qB fr;grind
  have m:qB a c c d=fr c d a:=by unfold qB fr;grind
  have o:qB a c a b=- fr a b c:=by unfold qB fr;grind
  have n5:qB a b a c=fr a b c:=rfl;have n6:qB a b a d=fr a b d:=rfl;have n7:qB c d c a=fr c d a:=rfl;have n8:qB c d c b=fr c d b:=rfl;have hz:=OD (c:=c) (d:=d) g;rw[n5,n6,n7,n8];rw[fx (n:=0-qB a c c d),fx (n:=0-qB a c a b),fx (n:=0-qB a b c d)];have w:=te ha f hc;have x:=te ha f hd;have z:=te hc hd ha;have E:=te hc hd f;rw[m,o];generalize fr a b c=A at *;generalize fr a b d=B at *;generalize fr c d a=C at *;generalize fr c d b=D at *;generalize l7 a b c=G at *;generalize l7 a b d=H at *;generalize l7 c d a=I at *;generalize l7 c d b=J at *;generalize qB a b c d=n at *;by_cases h:n=0
  grind[decide_eq_true,decide_true,ar,decide_eq_false,aQ]
  rw[fc h,bu,cc (by omega)]
  grind[decide_eq_true,absurd,decide_eq_false]
end Dp
namespace Dp
def w9(x y:Int):Int:=ite (0<x/\0<=y) 0 <|ite (x<=0/\0<y) 1 <|ite (x<0) 2 3
def as9{o a:bs}(ho:d' o=Y)(ha:d' a=Y):EB (o,a)=Z (w9 (a.1-o.1) (a.2-o.2)):=by let ⟨⟨c,d⟩,e,f⟩:=BY ho ha;unfold EB w9;simp only[bT];rw[fx (n:=a.1-o.1),fx (n:=a.2-o.2)];generalize a.1-o.1=x at *;generalize a.2-o.2=y at *;by_cases h1:0<x;rw[hT h1,b6];by_cases h2:0<=y;rw[hT h2,b6,cr ⟨h1,h2⟩];rw[fc h2,bu,fc (by omega:¬x<=0),bu,fc (by omega:¬x<0),bu,cc (by omega),cc (by omega),cc (by omega)];rw[fc h1,bu,hT (by omega:x<=0),b6,cc (by omega)];by_cases h2:0<y;rw[hT h2,b6,cr ⟨by omega,h2⟩];rw[fc h2,bu,cc (by omega)];by_cases b:x<0;rw[hT b,b6,cr b];rw[fc b,bu,cc b]
def I'{x y:Int}(h:¬(x=0/\y=0)):(w9 x y=0/\0<x/\0<=y)\/(w9 x y=1/\x<=0/\0<y)\/(w9 x y=2/\x<0/\y<=0)\/(w9 x y=3/\0<=x/\y<0):=by unfold w9;split;exact .inl ⟨rfl,by assumption⟩;split;exact .inr (.inl ⟨rfl,by assumption⟩);split;exact .inr (.inr (.inl ⟨rfl,by omega⟩));exact .inr (.inr (.inr ⟨rfl,by omega⟩))
def bc4(o a b:bs):ET (o,a,b)=Z (oo o a b):=by
 unfold ET oo;have e:∀p q:bs,(No (p.1=q.1)&&No (p.2=q.2))=u9 p q:=λ_ _=>rfl;simp only[bT,LL _ (show aa [o,a,b]<2^62 by simp),bE,dD,fQ,e];have s:(d' o&&(d' a&&d' b))=(d' o&&d' a&&d' b):=by simp[fR]
 rw[s];cases n:(d' o&&d' a&&d' b)with
 |false=>simp
 |true=>
  simp only[ab]at n;let ⟨⟨ho,ha⟩,r⟩:=n;simp only[ar,bu,bQ];cases h1:u9 a o with
  |true=>simp
  |false=>
   cases h2:u9 b o with
   |true=>simp
   |false=>
    simp only[bu,aQ,bQ];rw[as9 ho ha,as9 ho r];simp only[bT];rw[(yK ho ha ho r).1];simp only[bT];have t:qB o a o b=fr o a b:=rfl;rw[t];have g1:¬(a.1-o.1=0/\a.2-o.2=0):=λ⟨p,q⟩=>by have:a=o:=fC (by omega) (by omega);rw[(pt a o).2 this]at h1;cases h1
    have g2:¬(b.1-o.1=0/\b.2-o.2=0):=λ⟨p,q⟩=>by have:b=o:=fC (by omega) (by omega);rw[(pt b o).2 this]at h2;cases h2
    have l2:oQ o a=No (2<=w9 (a.1-o.1) (a.2-o.2)):=by rw[dc,decide_eq_true_iff];simp only[oQ,bx,ab,kA];rcases I' g1 with h|h|h|h<;>omega
    have x8:oQ o b=No (2<=w9 (b.1-o.1) (b.2-o.2)):=by rw[dc,decide_eq_true_iff];simp only[oQ,bx,ab,kA];rcases I' g2 with h|h|h|h<;>omega
    rw[l2,x8];have hc:fr o a b=(a.1-o.1)*(b.2-o.2)-(a.2-o.2)*(b.1-o.1):=rfl;have c1:=I' g1;have c2:=I' g2;generalize w9 (a.1-o.1) (a.2-o.2)=p at *;generalize w9 (b.1-o.1) (b.2-o.2)=q at *;generalize a.1-o.1=x at *;generalize a.2-o.2=y at *;generalize b.1-o.1=u at *;generalize b.2-o.2=v at *;have c:p=0->q=1->0<fr o a b:=λk l=>by
     have h1:0<x/\0<=y:=by omega
     have h2:u<=0/\0<v:=by omega
     have m:=bR h1.1 h2.2;have d:=aB h1.2 (by omega:0<=-u);rw[cn]at d;omega
    have f:p=1->q=0->fr o a b<0:=λk l=>by
     have h1:x<=0/\0<y:=by omega
     have h2:0<u/\0<=v:=by omega
     have m:=bR h1.2 h2.1;have d:=aB (by omega:0<=-x) h2.2;rw[dX]at d;omega
    have g:p=2->q=3->0<fr o a b:=λk l=>by
     have h1:x<0/\y<=0:=by omega
     have h2:0<=u/\v<0:=by omega
     have m:=cN h1.1 h2.2;have d:=aB (by omega:0<=-y) h2.1;rw[dX]at d;omega
    have Ee:p=3->q=2->fr o a b<0:=λk l=>by
     have h1:0<=x/\y<0:=by omega
     have h2:u<0/\v<=0:=by omega
     have m:=cN h1.2 h2.1;have d:=aB h1.1 (by omega:0<=-v);rw[cn]at d;omega
    by_cases i:p<q;rw[hT i,b6];by_cases j:(2<=p↔2<=q);rw[cr (by rw[dc,decide_eq_true_iff,decide_eq_true_iff];exact j),hT];by_cases hp:p=0;exact c hp (by omega);exact g (by omega) (by omega);rw[cc (by rw[dc,decide_eq_true_iff,decide_eq_true_iff];exact j),hT (by omega)];rw[fc i,bu];by_cases he:p=q;rw[hT he,b6,he,cr rfl];rw[fc he,bu];by_cases j:(2<=p↔2<=q);rw[cr (by rw[dc,decide_eq_true_iff,decide_eq_true_iff];exact j),fc];by_cases hp:p=1;have:=f hp (by omega);omega;have:=Ee (by omega) (by omega);omega;rw[cc (by rw[dc,decide_eq_true_iff,decide_eq_true_iff];exact j),fc (by omega)]
end Dp
namespace Dp
theorem KP(al:gp)(ag:hI)(fs:eD)(id:Int)(hl:aa al<2^62:=by omega):AR ((al,ag,fs),id)=Z (match nQ al id with|some n=>(n,Y)|none=>((0,0,0),U)):=by
 unfold AR;refine mP (A:=Unit) al (λi _=>(i:Int)) (λ_ rest=>Z (match nQ rest id with|some n=>(n,Y)|none=>((0,0,0),U))) (by omega) ?_ ?_ ()
 grind[nQ]
 intro rec i a x rest a7 hd b;have:=b ();simp only[fB a7,b6,fm hd,bT,f' a7 hl,this,nQ,fW]
 grind[decide_eq_true,decide_eq_false]
def Hc(al:gp)(ag:hI)(fs:eD)(b:Bool)(q:aa al<=1000000)(ha:aa ag<=1000000):zm ((al,ag,fs),b)=Z (cond b (ag.map (·.1)) <|al.map (·.1)):=by
 unfold zm;have key:∀acc:eD,aa acc<=1000000->rounds (α:=Bool×eD×Int) (β:=eD) (λp d=>
   cond (d.2.2<(aa ag:Int)) (
   cond d.1 (
    a8 (nth ag d.2.2) λe=>
    a8 (j6 8 d.2.1 [e.1]) λf=>
    p (Y,f,(ek (d.2.2+(1:Int))))) (
    Z d.2.1)) (
   Z d.2.1)) (b,acc,(0:Int))=Z (cond b (acc++ag.map (·.1)) acc):=by
  intro acc g;cases b;refine Dh λrec=>?_
  grind
  rw[b6];refine vF (A:=eD) ag (λi a=>(Y,a,(i:Int))) (λa rest=>Z (a++rest.map (·.1))) (λi a=>aa a=aa acc+i) (by omega) ?_ ?_ acc (by simp)
  grind
  intro rec i a x rest a7 m hd n;simp only[fB a7,b6,fm hd,bT,f' a7]
  grind[m9,bT]
 cases b;simp only[aQ,b6,bu];refine vF (A:=eD) al (λi a=>(a,(i:Int))) (λa rest=>Z (a++rest.map (·.1))) (λi a=>aa a=i) (by omega) ?_ ?_ [] rfl
 grind
 intro rec i a x rest a7 m hd n;simp only[fB a7,b6,fm hd,bT,f' a7]
 grind[m9,bT]
 have h:=key [] (by simp);have o:∀acc:eD,aa acc<=1000000->rounds (α:=Bool×eD×Int×Bool) (β:=eD) (λl c=>
  cond (c.2.2.1<(aa ag:Int)) (
   cond c.1 (
   a8 (nth ag c.2.2.1) λj=>
   a8 (j6 8 c.2.1 [j.1]) λk=>
   l (Y,k,(ek (c.2.2.1+(1:Int))),c.2.2.2)) (
   Z c.2.1)) (
   Z c.2.1)) (Y,acc,(0:Int),Y)=Z (acc++ag.map (·.1)):=by
  intro acc g;refine vF (A:=eD) ag (λi a=>(Y,a,(i:Int),Y)) (λa rest=>Z (a++rest.map (·.1))) (λi a=>aa a=aa acc+i) (by omega) ?_ ?_ acc (by simp)
  grind
  intro rec i a x rest a7 m hd n;simp only[fB a7,b6,fm hd,bT,f' a7]
  grind[m9,bT]
 refine Dh λrec=>?_
 grind[ar]
def aL5(al:gp)(ag:hI)(fs:eD)(e:aa al<=1000)(ha:aa ag<=1000)(hv:∀a∈ag,aa a.2.2.2.1<=1000):HK (al,ag,fs)=Z (al.map (·.2)++(ag.map (·.2.2.2.1)).flatten):=by
 unfold HK;refine vF (A:=eY) al (λi a=>(a,(i:Int))) (λa rest=>Z ((a++rest.map (·.2))++(ag.map (·.2.2.2.1)).flatten)) (λi a=>aa a=i) (by omega) ?_ ?_ [] rfl;intro rec a b;simp only[kj,bu,cM,ba];refine vF (A:=eY) ag (λi a=>(a,(i:Int))) (λa rest=>Z (a++(rest.map (·.2.2.2.1)).flatten)) (λi a=>aa a<=1000+1000*i) (by omega) ?_ ?_ a (by omega)
 grind[List.flatten_nil]
 intro rec i a x rest a7 b hd c;have d:x∈ag:=aC (hd▸aR ..);have:=hv x d;simp only[fB a7,b6,fm hd,bT,f' a7]
 grind[m9,bT]
 intro rec i a x rest a7 b hd c;simp only[fB a7,b6,fm hd,bT,f' a7]
 grind[m9,bT]
def bc2(p:bs):HO p=Z (yU p):=by grind[HO,yU]
def aS1(al:gp)(ag:hI)(fs:eD)(n:Int)(hl:aa fs<2^62):ER ((al,ag,fs),n)=Z (No (n∈fs)||No (n=0)):=by
 unfold ER;refine mP (A:=Unit) fs (λi _=>(i:Int)) (λ_ rest=>Z (No (n∈rest)||No (n=0))) (by omega) ?_ ?_ ()
 grind[decide_false]
 intro rec i _ x rest a7 hd a;have:=a ();simp only[fB a7,b6,fm hd,bT,f' a7 hl,this]
 grind[decide_eq_true,decide_eq_false]
theorem DX{al:gp}{ag:hI}{fs:eD}(h:fp al ag fs){a:ct}(ha:a∈ag):∃p,pathOf al ag a.1=Z p/\ya ((al,ag,fs),a)=Z (p,Y):=by
 let ⟨f,t,h1,h2,b,_⟩:=h.path ha;have hv:=h.q4 ha;have c:=h.qF;refine⟨_,b,?_⟩;unfold ya
 grind[KP,bT,m9]
end Dp
open Go.Pg
namespace Dp
theorem xR{p q:bs}:hU p q=Y↔p.1<q.1\/(p.1=q.1/\p.2<q.2):=by simp[hU]
theorem JF{p q:bs}(h:hU p q=Y):hU q p=U:=by grind[xR]
theorem bW6(a b c d:bs):p8 a b c d=p8 c d a b:=by grind[p8,hU,JF]
def aI0{a b c d:bs}(g:a≠b)(h:c≠d):oK a b c d=oK c d a b:=by
 have h1:u9 a b=U:=by grind[pt]
 have h2:u9 c d=U:=by grind[pt]
 have i:(d' a&&d' b&&d' c&&d' d)=(d' c&&d' d&&d' a&&d' b):=by grind[d']
 unfold oK;rw[h1,h2,i];cases f:(d' c&&d' d&&d' a&&d' b)with
 |false=>rfl
 |true =>simp only[ab]at f;let ⟨⟨⟨hc,hd⟩,ha⟩,e⟩:=f;simp only[vE,aF,l4];have j:=te ha e hc;have k:=te ha e hd;have l:=te hc hd ha;have m:=te hc hd e;by_cases hz:l7 a b c=0/\l7 a b d=0<;>grind[l7,fr,OD,bW6]
abbrev Mh:=Int×Int×Int×eY×Int×Int×Int×Int×Int×b9
def pr(s:fy):Mh:=(s.1.1,s.1.2.1,s.1.2.2.1,s.1.2.2.2.1,s.1.2.2.2.2.1,s.1.2.2.2.2.2.1,s.2,(aa s.1.path:Int)-1,(hi s).1,(hi s).2,(gl s).1,(gl s).2)
theorem Du(a:ct)(p:eY):aa (pf a p)=aa p-1:=by simp[pf]
def aO7{a:ct}{p:eY}{i:Nat}{x:fy}{rest:cu fy}(h:(pf a p).drop i=x::rest):x=(rT a p,(i:Int))/\i+1<aa p:=by grind[gg,eA,fX,pf,bB,af,ah]
end Dp
namespace Dp
def Rx{a b c d:bs}{A B C D:Int}(f:A=fr a b c)(g:B=fr a b d)(i:C=fr c d a)(j:D=fr c d b)(h1:A<=0)(h2:0<=B)(o:D<=0)(k:0<=C)(p:A<B):¬uV a b c d:=by
 have e:c.1*B-d.1*A=b.1*C-a.1*D:=by subst f g i j;unfold fr;grind
 have l:B-A=C-D:=by subst f g i j;unfold fr;grind
 have q:(min c.1 d.1)*(B-A)<=c.1*B-d.1*A:=by have fa:=aM (by omega:min c.1 d.1<=c.1) h2;have gb:=aM (by omega:min c.1 d.1<=d.1) (by omega:0<=-A);rw[cn,cn]at gb;rw[cZ];omega
 have r:c.1*B-d.1*A<=(max c.1 d.1)*(B-A):=by have fa:=aM (by omega:c.1<=max c.1 d.1) h2;have gb:=aM (by omega:d.1<=max c.1 d.1) (by omega:0<=-A);rw[cn,cn]at gb;rw[cZ];omega
 have m:(min a.1 b.1)*(C-D)<=b.1*C-a.1*D:=by have fa:=aM (by omega:min a.1 b.1<=b.1) k;have gb:=aM (by omega:min a.1 b.1<=a.1) (by omega:0<=-D);rw[cn,cn]at gb;rw[cZ];omega
 have n:b.1*C-a.1*D<=(max a.1 b.1)*(C-D):=by have fa:=aM (by omega:b.1<=max a.1 b.1) k;have gb:=aM (by omega:a.1<=max a.1 b.1) (by omega:0<=-D);rw[cn,cn]at gb;rw[cZ];omega
 rw[<-l]at m n;rintro (h|h);have:=eE h (by omega:0<B-A);omega;have:=eE h (by omega:0<B-A);omega
def aI5{a b c d:bs}(ha:d' a=Y)(r:d' b=Y)(hc:d' c=Y)(hd:d' d=Y)(t:a≠b)(u:c≠d)(hf:uV a b c d):oK a b c d=0:=by
 have h1:u9 a b=U:=by rw[gM];exact λh=>t ((pt a b).1 h)
 have h2:u9 c d=U:=by rw[gM];exact λh=>u ((pt c d).1 h)
 unfold oK;rw[h1,h2,ha,r,hc,hd];simp only[bG,vE,aF,l4];have v:=te ha r hc;have s:=te ha r hd;have C:=te hc hd ha;have D:=te hc hd r;by_cases hz:l7 a b c=0/\l7 a b d=0;rw[cr hz];unfold p8;simp only;have E:∀x y:bs,((ite (hU y x=Y) y x).1=min x.1 y.1)/\(ite (hU y x=Y) x y).1=max x.1 y.1:=λx y=>by by_cases h:hU y x=Y;rw[cr h,cr h];rw[xR]at h;omega;rw[cc h,cc h];rw[xR]at h;omega
 let ⟨q5,nj⟩:=E a b;let ⟨rM,s_⟩:=E c d;generalize(ite (hU b a=Y) b a)=j at *;generalize(ite (hU b a=Y) a b)=k at *;generalize(ite (hU d c=Y) d c)=m at *;generalize(ite (hU d c=Y) c d)=n at *;have fa:(ite (hU j m=Y) m j).1=max j.1 m.1:=by by_cases h:hU j m=Y;rw[cr h];rw[xR]at h;omega;rw[cc h];rw[xR]at h;omega
 have gb:(ite (hU n k=Y) n k).1=min n.1 k.1:=by by_cases h:hU n k=Y;rw[cr h];rw[xR]at h;omega;rw[cc h];rw[xR]at h;omega
 generalize(ite (hU j m=Y) m j)=f at *;generalize(ite (hU n k=Y) n k)=l at *;have w:l.1<f.1:=by unfold uV at hf;omega
 rw[cc (by rw[pt];intro e;rw[e]at w;omega),cc (by rw[xR];omega)];rw[cc hz,cc];rintro ⟨g1,g2⟩;have H:fr a b d-fr a b c=fr c d a-fr c d b:=by unfold fr;grind
 have G:fr a b c≠fr a b d:=λe=>by
  rcases v with⟨p,q⟩|⟨p,q⟩|⟨p,q⟩
  rcases s with⟨i,g⟩|⟨i,g⟩|⟨i,g⟩
  rw[q,g]at g1;omega;omega;omega;rcases s with⟨i,g⟩|⟨i,g⟩|⟨i,g⟩
  omega;rw[q,g]at g1;omega;omega;exact hz ⟨q,by omega⟩
 rcases(by omega:fr a b c<fr a b d\/fr a b d<fr a b c)with z|z
 have o:fr a b c<=0/\0<=fr a b d:=by rcases v with⟨p,q⟩|⟨p,q⟩|⟨p,q⟩<;>rcases s with⟨i,g⟩|⟨i,g⟩|⟨i,g⟩<;>rw[q,g]at g1<;>omega
 have B:fr c d b<=0/\0<=fr c d a:=by rcases C with⟨p,q⟩|⟨p,q⟩|⟨p,q⟩<;>rcases D with⟨i,g⟩|⟨i,g⟩|⟨i,g⟩<;>rw[q,g]at g2<;>omega
 exact Rx rfl rfl rfl rfl o.1 o.2 B.1 B.2 z hf;have o:fr a b d<=0/\0<=fr a b c:=by rcases v with⟨p,q⟩|⟨p,q⟩|⟨p,q⟩<;>rcases s with⟨i,g⟩|⟨i,g⟩|⟨i,g⟩<;>rw[q,g]at g1<;>omega
 have B:fr c d a<=0/\0<=fr c d b:=by rcases C with⟨p,q⟩|⟨p,q⟩|⟨p,q⟩<;>rcases D with⟨i,g⟩|⟨i,g⟩|⟨i,g⟩<;>rw[q,g]at g2<;>omega
 have m1:fr d c a=- fr c d a:=by unfold fr;grind
 have m2:fr d c b=- fr c d b:=by unfold fr;grind
 exact Rx (a:=a) (b:=b) (c:=d) (d:=c) rfl rfl rfl rfl o.1 o.2 (by omega) (by omega) z (by unfold uV at *;omega)
end Dp
namespace Dp
def xf(s t:fy):Bool:=No (s.2+1=t.2)||(No (s.1.2.1=s.1.2.2.1)&&(tP s&&th t))
def uQ(s t:fy):Int:=oK (hi s) (gl s) (hi t) (gl t)
def ud(s:fy)(n:b9):Bool:=No (s.1.2.1=n.1)||No (s.1.2.2.1=n.1)
def V(al:gp)(s t:fy):Prop :=
 (s.1.1=t.1.1->s.2<t.2->uQ s t=bif xf s t then 1 else 0)/\(s.1.1=t.1.1->t.2<s.2->uQ s t=bif xf t s then 1 else 0) /\
 (s.1.1≠t.1.1->uQ s t=0\/(uQ s t=1/\∃n∈al,ud s n=Y/\ud t n=Y/\n' (hi s) (gl s) n.2=Y/\n' (hi t) (gl t) n.2=Y))
section
variable {al:gp} {ag:hI} {fs:eD} (h:fp al ag fs)
include h
theorem aL9{s t:fy}{a b:ct}{p q:eY}{i j:Nat}(o:nJ al ag s a p i)(o':nJ al ag t b q j)(hc:qx s t (mkMap al [])=Y):V al s t:=by
 unfold qx at hc;simp only at hc;refine⟨λe d=>?_,λe d=>?_,λe=>?_⟩
 grind[decide_eq_true,decide_eq_false,uQ,xf]
 grind[decide_eq_true,xf,uQ]
 rw[fc e,bu]at hc;by_cases c:oK (hi s) (gl s) (hi t) (gl t)=1;rw[hT c,b6]at hc;refine bm ⟨c,?_⟩;have f:∀n∈al,nv (mkMap al []) n.1=n.2:=λn g=>by unfold nv;rw[Jr [] (pq h.vL) g];rfl
 have k:s.1.2.1=a.2.1/\s.1.2.2.1=a.2.2.1:=by rw[o.eq];exact⟨rfl,rfl⟩
 let ⟨⟨l,m1,fa⟩,m,m2,gb⟩:=h.DQ o.nM
 grind[ud]
 rw[fc c,bu,kA]at hc;exact bw hc
theorem am7{s t:fy}{a b:ct}{p q:eY}{i j:Nat}(o:nJ al ag s a p i)(o':nJ al ag t b q j)(e:s.1.1=t.1.1)(c:xf s t=Y):gl s=hi t\/hi s=gl t:=by
 obtain⟨rfl,rfl⟩:=h.PT o o' e;unfold xf at c;rw[o.first,o'.last]at c;have g:s.2=(i:Int):=by rw[o.eq]
 have k:t.2=(j:Int):=by rw[o'.eq]
 have d:s.1.2.1=a.2.1/\s.1.2.2.1=a.2.2.1:=by rw[o.eq];exact⟨rfl,rfl⟩
 rw[g,k,d.1,d.2]at c;simp only[bx,ab,kA]at c;rcases c with c|⟨l2,x8,pG⟩
 have:i+1=j:=by omega
 subst this;have f:=o'.rO;rw[o.se]at f;exact .inl (aJ f);subst x8;exact .inr (h.N5 o'.nM o'.path l2 pG o.rO o'.se)
theorem bd1{s t:fy}{a b:ct}{p q:eY}{i j:Nat}(o:nJ al ag s a p i)(o':nJ al ag t b q j)(hf:uV (hi s) (gl s) (hi t) (gl t)):V al s t:=by
 have c:uQ s t=0:=aI5 (h.vp o).1 (h.vp o).2 (h.vp o').1 (h.vp o').2 (h.sD o) (h.sD o') hf;have no:∀x:Bool,(x=Y->gl s=hi t\/hi s=gl t)->x=U:=λx f=>by grind[uV]
 refine⟨λe _=>?_,λe _=>?_,λ_=>.inl c⟩;have d:=no (xf s t) (am7 h o o' e);rw[d,c];rfl;have d:=no (xf t s) (λx=>by grind[am7]);rw[d,c];rfl
theorem bd2{s t:fy}{a b:ct}{p q:eY}{i j:Nat}(o:nJ al ag s a p i)(o':nJ al ag t b q j)(hv:V al s t):V al t s:=by
 have e:uQ t s=uQ s t:=aI0 (h.sD o') (h.sD o);let ⟨d,f,k⟩:=hv;refine⟨λc g=>e.trans (f c.symm g),λc g=>e.trans (d c.symm g),λc=>?_⟩
 grind
theorem bd0{r:cu fy}(d:zb al ag ag=Z r):(∀s∈r,∀t∈r,s≠t->V al s t)/\∀s∈r,∀n∈al,p6 s n=Y:=by
 have hp:=h.FT;unfold u_ at hp;rw[d]at hp;simp only at hp;have k:=Da (vA r);have c:=tG (vA r);have e:(oy p2 r).Pairwise (qu ·<=qu ·):=k.imp λ{a b} x=>by unfold p2 at x;rw[uk]at x;omega
 let ⟨g1,g2⟩:=FN e hp;have g3:(oy p2 r).Pairwise (λs t=>s∈r->t∈r->s≠t->V al s t):=by
  refine g1.imp_of_mem λ{x y} l m f _ _ g=>?_;let ⟨a,p,i,o⟩:=h.q_ d (c.mem_iff.1 l);let ⟨b,q,j,o'⟩:=h.q_ d (c.mem_iff.1 m);rcases f with hc|hf
  exact aL9 h o o' hc;exact bd1 h o o' (bw hf)
 refine⟨λs hs t v u=>?_,λs hs n g=>g2 s (c.mem_iff.2 hs) n g⟩;exact Gw (R:=λs t=>s∈r->t∈r->s≠t->V al s t) (λx y f m l g=>by
  let ⟨a,p,i,o⟩:=h.q_ d l;let ⟨b,q,j,o'⟩:=h.q_ d m
  grind[bd2]) (λx _ _ g=>(g rfl).elim) g3 (c.mem_iff.2 hs) (c.mem_iff.2 v) hs v u
end
end Dp
namespace Dp
def Sn{α:Type}{xs:cu α}{i:Nat}{x:α}{rest:cu α}(h:xs.drop i=x::rest):xs.take (i+1)=xs.take i++[x]:=by rw[bn,oU h];rfl
def N6{l:eD}(hl:aa l<=1000000):CI l=Z (qM l):=by
 unfold CI;cases l;exact Dh λrec=>rfl;rename_i a xs;have e:(aa (a::xs):Int)=(aa xs:Int)+1:=by simp
 rw[e];refine vF (A:=Int) xs (λi _=>(i:Int)+1) (λb rest=>Z (qM (b::rest))) ((a::xs)[·]?=Z ·) (by simp at hl;omega) ?_ ?_ a rfl;intro rec b _;rw[fc (by omega)];rfl;intro rec i b x rest a7 c hd f;have d:xs[i]?=Z x:=oU hd;have h1:(a::xs)[i+1]?=Z x:=by simpa using d
 simp only[aA]at hl;rw[hT (by omega),b6,show ek ((i:Int)+1-1)=(i:Int)by grind[fx],zB,c,bT,show((i:Int)+1)=((i+1:Nat):Int)by omega,zB,h1,bT]
 grind[decide_eq_true,qM,decide_eq_false,fx]
def Xn(al:gp)(ag:hI)(fs:eD)(ha:aa ag<=1000000):HM (al,ag,fs)=Z (!wT al ag fs):=by
 unfold HM;refine(mP (A:=Unit) ag (λi _=>(i:Int)) (λ_ rest=>Z (!(No (aa al<=256)&&(No (aa ag<=256)&&(No (aa fs<=64)&&rest.all λa=>No (aa a.2.2.2.1<=64)))))) (by omega) ?_ ?_ ()).trans rfl;intro rec _;simp only[kj,bu,dD];have q:∀a b:Nat,No ((a:Int)<(b:Int))=!decide (b<=a):=λa b=>by by_cases h:b<=a<;>simp[h]<;>omega
 rw[show No ((256:Int)<(aa al:Int))=_ from q 256 _,show No ((256:Int)<(aa ag:Int))=_ from q 256 _,show No ((64:Int)<(aa fs:Int))=_ from q 64 _];cases No (aa al<=256)<;>cases No (aa ag<=256)<;>cases No (aa fs<=64)<;>rfl;intro rec i _ x rest a7 hd c;simp only[fB a7,b6,fm hd,bT,f' a7,bE];by_cases q:aa x.2.2.2.1<=64;rw[fc (by omega),bu,hT q,bQ];exact c ()
 grind[decide_eq_true,decide_eq_false]
def Z0(al:gp)(ag:hI)(fs:eD)(hs:wT al ag fs=Y):HI (al,ag,fs)=Z ((al.map (·.1)).all qL&&((ag.map (·.1)).all qL&&(fs.all qL&&((al.all λn=>yU n.2)&&(ag.all λa=>a.2.2.2.1.all yU))))):=by
 have k:aa al<=256:=by grind[wT]
 have ha:aa ag<=256:=by grind[wT]
 have hf:aa fs<=64:=by grind[wT]
 have hv:∀a∈ag,aa a.2.2.2.1<=64:=λa h=>by grind[wT,aj]
 unfold HI;simp only;rw[Hc al ag fs U (by omega) (by omega),Hc al ag fs Y (by omega) (by omega)];simp only[bT,b6,bu];rw[m9,bT,m9,bT];have e:((al.map (·.1)).all qL&&((ag.map (·.1)).all qL&&(fs.all qL&&((al.all λn=>yU n.2)&&(ag.all λa=>a.2.2.2.1.all yU)))))=(((al.map (·.1)++ag.map (·.1))++fs).all qL&&(al.map (·.2)++(ag.map (·.2.2.2.1)).flatten).all yU):=by grind[List.all_map,f_,fR]
 rw[e];have hlen:aa ((al.map (·.1)++ag.map (·.1))++fs)<=1000:=by simp;omega
 generalize(al.map (·.1)++ag.map (·.1))++fs=xs at hlen;refine mP (A:=Unit) xs (λi _=>(i:Int)) (λ_ rest=>Z (rest.all qL&&(al.map (·.2)++(ag.map (·.2.2.2.1)).flatten).all yU)) (by omega) ?_ ?_ ();intro rec _;simp only[kj,bu,dD,bQ];rw[aL5 al ag fs (by omega) (by omega) (λa f=>by have:=hv a f;omega)];simp only[bT];have d:aa (al.map (·.2)++(ag.map (·.2.2.2.1)).flatten)<=1000000:=by
  have:∀l:hI,(∀a∈l,a∈ag)->aa ((l.map (·.2.2.2.1)).flatten)<=64*aa l:=by
   intro l
   induction l with
   |nil=>intro _;simp
   |cons a l m=>grind[List.flatten_cons,aL,aA]
  grind[aL,aI]
 generalize al.map (·.2)++(ag.map (·.2.2.2.1)).flatten=ps at d;refine mP (A:=Unit) ps (λi _=>(i:Int)) (λ_ rest=>Z (rest.all yU)) (by omega) ?_ ?_ ();intro b _;simp only[kj,bu,dD];intro b i _ x rest a7 hd c;simp only[fB a7,b6,fm hd,bT,f' a7,bc2,bE];cases yU x with
 |true=>simpa using c ()
 |false=>rfl
 intro rec i _ x rest a7 hd c;have g:=oU hd;have j:No (0<=(i:Int))=Y:=hT (by omega);simp only[fB a7,b6,j,bG,bT,aO,g,ai,f' a7,bE];unfold qL at c⊢;by_cases fa:1<=x;rw[fc (by omega),bu,hT fa];by_cases gb:x<=1073741824;rw[fc (by omega),bu,hT gb];simpa using c ()
 grind[decide_eq_true,decide_eq_false]
 grind[decide_eq_true,decide_eq_false]
def ax7(al:gp)(ag:hI)(fs:eD)(l:aa al<=1000000):HS (al,ag,fs)=Z (sC [] al):=by
 unfold HS;refine(mP (A:=Unit) al (λi _=>(i:Int)) (λ_ rest=>Z (sC (al.take (aa al-aa rest)) rest)) (by omega) ?_ ?_ ()).trans (by simp);intro rec _;simp only[kj,bu];rfl;intro rec i _ x rest a7 hd g;have hlen:aa rest=aa al-i-1:=by have:=Ar aa hd;simp at this;omega
 simp only[fB a7,b6,fm hd,bT];have h:aa al-aa (x::rest)=i:=by simp[hlen];omega
 have j:aa al-aa rest=i+1:=by omega
 have a:=g ();rw[j,Sn hd]at a;rw[h];show _=Z ((al.take i).any (GH x)||sC (al.take i++[x]) rest);refine mP (A:=Unit) (al.take i) (λk _=>(k:Int)) (λ_ r=>Z (r.any (GH x)||sC (al.take i++[x]) rest)) (by simp;omega) ?_ ?_ ()
 grind[cQ,dw,f']
 intro f k _ z b hk sX c;rw[cQ,dw (by omega)]at hk;have hz:=oU sX;rw[eH hk]at hz;have d:nth al (k:Int)=Z z:=by rw[zB];exact hz
 rw[fB hk,b6,d,f' (n:=i) hk];simp only[bT,cx];have e:(No (x.2.1=z.2.1)&&No (x.2.2=z.2.2))=GH x z:=rfl;rw[e];cases GH x z with
 |true=>rfl
 |false=>simpa using c ()
end Dp
namespace Dp
structure Hr(al:List b9)(ag:List ct)(fs:List Int):Prop where
 AD:wT al ag fs=Y
 vL:qM (al.map (·.1))=Y
 rX:qM (ag.map (·.1))=Y
 ends:∀a∈ag,a.2.1∈al.map (·.1)/\a.2.2.1∈al.map (·.1)
def AI(al:gp)(ag l:hI):cu fy:=l.flatMap λa=>pf a ((pathOf al ag a.1).getD [])
def B5(al:gp)(s:fy):Bool:=al.all (p6 s)&&(!(u9 (hi s) (gl s))&&(!decide (s.1.2.1=s.1.2.2.1)||No (4<=aa s.1.path)))
def CM(al:gp)(s t:fy):Bool:=cond (s.1.1=t.1.1) (cond (xf s t) (No (uQ s t=1)) <|No (uQ s t=0)) (cond (uQ s t=1) (al.any (λn=>ud s n&&ud t n&&n' (hi s) (gl s) n.2&&n' (hi t) (gl t) n.2)) <|No (uQ s t=0))
section
variable {al:gp} {ag:hI} {fs:eD} (h:Hr al ag fs)
include h
namespace Hr
theorem qF:aa al<=256:=by have:=h.AD;grind[wT]
theorem pA:aa ag<=256:=by have:=h.AD;grind[wT]
theorem q4{a:ct}(ha:a∈ag):aa a.2.2.2.1<=64:=by have:=h.AD;grind[wT,aj]
theorem zD{a:ct}(ha:a∈ag):px ag a.1=Z a:=M5 (f:=λa:ct=>a.1) (pq h.rX) a ha
theorem vm{n:b9}(a:n∈al):nQ al n.1=Z n:=M5 (f:=λn:b9=>n.1) (pq h.vL) n a
theorem path{a:ct}(ha:a∈ag):∃f t,f∈al/\t∈al/\f.1=a.2.1/\t.1=a.2.2.1/\nQ al a.2.1=Z f/\nQ al a.2.2.1=Z t/\pathOf al ag a.1=Z (f.2::(a.2.2.2.1++[t.2])):=by let ⟨h1,h2⟩:=h.ends a ha;let ⟨f,hf,b⟩:=aN.1 h1;let ⟨t,c,d⟩:=aN.1 h2;have fa:=h.vm hf;have gb:=h.vm c;rw[b]at fa;rw[d]at gb;refine⟨f,t,hf,c,b,d,fa,gb,?_⟩;unfold pathOf;rw[h.zD ha];simp only[fa,gb]
theorem Ml{s:fy}(hs:s∈AI al ag ag):∃a p i,nJ al ag s a p i:=by let ⟨a,ha,hm⟩:=bW.1 hs;let ⟨f,t,_,_,_,_,_,_,hp⟩:=h.path ha;rw[hp]at hm;let ⟨i,a7,e⟩:=xw hm;exact⟨a,_,i,ha,hp,a7,e⟩
theorem Mk{a:ct}{p:eY}(ha:a∈ag)(hp:pathOf al ag a.1=Z p):aa p=aa a.2.2.2.1+2:=by let ⟨f,t,_,_,_,_,_,_,b⟩:=h.path ha;rw[hp]at b;cases b;simp
theorem PT{s t:fy}{a b:ct}{p q:eY}{i j:Nat}(o:nJ al ag s a p i)(o':nJ al ag t b q j)(e:s.1.1=t.1.1):a=b/\p=q:=by
 have d:a.1=b.1:=by rw[o.eq,o'.eq]at e;exact e
 have h1:=h.zD o.nM;have h2:=h.zD o'.nM;rw[d,h2]at h1;cases h1;have c:=o.path;rw[o'.path]at c;cases c;exact⟨rfl,rfl⟩
end Hr
theorem aM1{a:ct}(ha:a∈ag):ya ((al,ag,fs),a)=Z ((pathOf al ag a.1).getD [],Y):=by let ⟨f,t,_,_,_,_,h1,h2,b⟩:=h.path ha;have hv:=h.q4 ha;have c:=h.qF;rw[b];unfold ya;simp only;rw[KP al ag fs a.2.1,KP al ag fs a.2.2.1,h1,h2];simp only[bT];rw[m9,bT,m9,bT];simp
theorem am6:EA (al,ag,fs)=Z ((AI al ag ag).map pr):=by
 unfold EA;have hl:=h.pA;refine(vF (A:=cu Mh) ag (λi acc=>(acc,(i:Int))) (λacc rest=>Z (acc++(AI al ag rest).map pr)) (λi acc=>aa acc<=65*i) (by omega) ?_ ?_ [] (by simp)).trans (by simp);intro rec a u;simp only[kj,bu,AI,iQ,cM,ba];intro rec i acc x rest a7 u hd g;have o:x∈ag:=aC (hd▸aR ..);have c:=aM1 h o;let ⟨f,t,_,_,_,_,_,_,hp⟩:=h.path o;have q:=h.Mk o hp;have hv:=h.q4 o;rw[hp]at c;simp only[bM]at c;generalize(f.2::(x.2.2.2.1++[t.2]))=p at hp c q;have v:AI al ag (x::rest)=pf x p++AI al ag rest:=by unfold AI;rw[db,hp];rfl
 rw[v];simp only[fB a7,b6,fm hd,bT,f' a7];have d:ya ((al,ag,fs),x.1,x.2.1,x.2.2.1,x.2.2.2.1,x.2.2.2.2.1,x.2.2.2.2.2)=Z (p,Y):=c;rw[d];simp only[bT];refine(vF (A:=cu Mh) (pf x p) (λi acc=>(acc,(i:Int))) (λb k=>Z ((b++k.map pr)++(AI al ag rest).map pr)) (λj b=>aa b<=65*i+j) (by rw[Du];omega) ?_ ?_ acc (by omega)).trans ?_;intro l b m;rw[Du]at m⊢;rw[fx,fc (by omega),bu];refine(g b (by omega)).trans ?_;simp;intro l j b y k hj m r e;let ⟨s,w⟩:=aO7 r;have g1:p[j]?=Z (hi y):=by rw[s];show p[j]?=Z ((p[j]?).getD (0,0));rw[af (by omega)];rfl
 have g2:p[j+1]?=Z (gl y):=by rw[s];show p[j+1]?=Z ((p[j+1]?).getD (0,0));rw[af (by omega)];rfl
 rw[show ek ((j:Int)+1)=((j+1:Nat):Int)from f' (n:=aa p) (by omega),hT (by omega),b6];simp only[zB,g1,g2,bT];rw[fx (n:=(aa p:Int)-1),m9,bT,e _ (by simp;omega)];have z:pr y=(x.1,x.2.1,x.2.2.1,x.2.2.2.1,x.2.2.2.2.1,x.2.2.2.2.2,(j:Int),(aa p:Int)-1,(hi y).1,(hi y).2,(gl y).1,(gl y).2):=by rw[s];rfl
 rw[<-z];simp;simp
theorem aB9{s:fy}{a:ct}{p:eY}{i:Nat}(o:nJ al ag s a p i):EM ((al,ag,fs),pr s)=Z (B5 al s):=by
 have k:=h.qF;have b:=h.q4 o.nM;have c:=h.Mk o.nM o.path;have d:=o.at';have l:s.2=(i:Int):=by rw[o.eq]
 have e:aa s.1.path=aa p:=by rw[o.eq];rfl
 unfold pr;unfold EM B5;refine mP (A:=Unit) al (λi _=>(i:Int)) (λ_ rest=>Z (rest.all (p6 s)&&(!(u9 (hi s) (gl s))&&(!decide (s.1.2.1=s.1.2.2.1)||No (4<=aa s.1.path))))) (by omega) ?_ ?_ ();intro rec _;simp only[kj,bu,dD,bQ];show(cond (!(u9 (hi s) (gl s))) _ _)=_;cases u9 (hi s) (gl s)with
 |true=>rfl
 |false=>
  simp only[aQ,b6,bQ];cases No (s.1.2.1=s.1.2.2.1)with
  |false=>rfl
  |true =>simp only[ar,bu,cR];exact Ar Z (decide_eq_decide.2 (by omega))
 intro rec j _ x rest hj hd f;simp only[fB hj,b6,fm hd,bT,f' hj,bE];have on:yk (((hi s).1,(hi s).2),((gl s).1,(gl s).2),x.2.1,x.2.2)=Z (n' (hi s) (gl s) x.2):=Mg _ _ _;rw[on,f ()];have g:ek ((aa s.1.path:Int)-1-1)=(aa s.1.path:Int)-2:=by rw[e,fx];omega
 simp only[bT,g];unfold p6 tP th;cases No (s.2=0)<;>cases No (s.1.2.1=x.1)<;>cases No (s.2=(aa s.1.path:Int)-2)<;>cases No (s.1.2.2.1=x.1)<;>cases n' (hi s) (gl s) x.2<;>rfl
theorem az5{s t:fy}{a b:ct}{p q:eY}{i j:Nat}(o:nJ al ag s a p i)(o':nJ al ag t b q j)(hs:hi s≠gl s)(c:hi t≠gl t):CS (pr s,pr t)=Z (cond (xf s t) (No (uQ s t=1)) <|No (uQ s t=0)):=by
 have hm:AP (hi s,gl s,hi t,gl t)=Z (uQ s t):=Uf hs c;have d:=h.q4 o'.nM;have e:=h.Mk o'.nM o'.path;have f:=h.q4 o.nM;have g:=h.Mk o.nM o.path;have r:s.2=(i:Int):=by rw[o.eq]
 have u:t.2=(j:Int):=by rw[o'.eq]
 have k:aa t.1.path=aa q:=by rw[o'.eq];rfl
 have hj:=o'.at';have a7:=o.at';unfold pr;unfold CS;rw[hm];simp only[bT];have l:ek ((aa t.1.path:Int)-1-1)=(aa t.1.path:Int)-2:=by rw[k,fx];omega
 have m:ek (s.2+1)=s.2+1:=by rw[fx]
 rw[l,m];unfold xf tP th;have n:No (s.2+1=t.2)=No (t.2=s.2+1):=decide_eq_decide.2 (by omega);rw[n];cases No (t.2=s.2+1)<;>cases No (s.2=0)<;>cases No (t.2=(aa t.1.path:Int)-2)<;>cases No (s.1.2.1=s.1.2.2.1)<;>rfl
omit h in
theorem R_(x:ct)(id:Int):AQ (x,id)=Z (No (x.2.1=id)||No (x.2.2.1=id)):=by unfold AQ;cases No (x.2.1=id)<;>rfl
theorem X0{s t:fy}(hs:hi s≠gl s)(a:hi t≠gl t):CO ((al,ag,fs),pr s,pr t)=Z (cond (uQ s t=1) (al.any (λn=>ud s n&&ud t n&&n' (hi s) (gl s) n.2&&n' (hi t) (gl t) n.2)) <|No (uQ s t=0)):=by
 have hm:AP (hi s,gl s,hi t,gl t)=Z (uQ s t):=Uf hs a;have c:=h.qF;unfold pr;unfold CO;rw[hm];simp only[bT];cases No (uQ s t=1)with
 |false=>rfl
 |true =>simp only[ar,bu,b6];refine mP (A:=Unit) al (λi _=>(i:Int)) (λ_ rest=>Z (rest.any λn=>ud s n&&ud t n&&n' (hi s) (gl s) n.2&&n' (hi t) (gl t) n.2)) (by omega) ?_ ?_ ();intro rec _;simp only[kj,bu,fI];intro rec j _ x rest hj hd b;simp only[fB hj,b6,fm hd,bT,f' hj,b ()];have fa:AQ ((s.1.1,s.1.2.1,s.1.2.2.1,s.1.2.2.2.1,s.1.2.2.2.2.1,s.1.2.2.2.2.2.1),x.1)=Z (ud s x):=R_ _ _;have gb:AQ ((t.1.1,t.1.2.1,t.1.2.2.1,t.1.2.2.2.1,t.1.2.2.2.2.1,t.1.2.2.2.2.2.1),x.1)=Z (ud t x):=R_ _ _;have kc:yk (hi s,gl s,x.2)=Z (n' (hi s) (gl s) x.2):=Mg _ _ _;have yF:yk (hi t,gl t,x.2)=Z (n' (hi t) (gl t) x.2):=Mg _ _ _;rw[fa,gb,kc,yF];simp only[bT,cx];cases ud s x<;>cases ud t x<;>cases n' (hi s) (gl s) x.2<;>cases n' (hi t) (gl t) x.2<;>rfl
end
end Dp
namespace Dp
def CH(al:gp):cu fy->cu fy->Bool
 |_,[]=>Y
 |pre,t::rest=>B5 al t&&(pre.all (CM al · t)&&CH al (pre++[t]) rest)
def O2{al:gp}:∀(rest pre:cu fy),CH al pre rest=Y↔(∀t∈rest,B5 al t=Y)/\(∀s∈pre,∀t∈rest,CM al s t=Y)/\rest.Pairwise (CM al · ·=Y)
 | [],pre=>by simp[CH]
 |t::rest,pre=>by
  simp only[CH,ab,O2 rest,aU,aj,aG,aV]
  grind
def Wg{s t:fy}(m:cu (Int×bs))(hs:hi s≠gl s)(a:hi t≠gl t)(c:s.1.1=t.1.1->s.2≠t.2/\s.1.2.1=t.1.2.1/\s.1.2.2.1=t.1.2.2.1):qx s t m=qx t s m:=by
 unfold qx;simp only[aI0 a hs];by_cases e:s.1.1=t.1.1
 grind[decide_eq_true,Int.lt_or_gt_of_ne]
 have b:¬t.1.1=s.1.1:=λh=>e h.symm;simp only[fc e,fc b,bu];cases No (oK (hi s) (gl s) (hi t) (gl t)=1)with
 |false=>rfl
 |true=>grind[Bool.and_comm,n',hi,gl,nv]
def Sj{s:fy}{m:cu (Int×bs)}:∀ {r:cu fy},(∀t∈r,qx s t m=Y)->wU s m r=Y
 | [],_=>rfl
 |t::r,h=>by
  unfold wU;cases No (Co s<qu t)with
  |true=>rfl
  |false=>rw[bu,h t (by simp),Sj λu hu=>h u (by simp[hu])];rfl
def SA{al:gp}{m:cu (Int×bs)}:∀ {l:cu fy},l.Pairwise (qx · · m=Y)->(∀s∈l,∀n∈al,p6 s n=Y)->tV al m l=Y
 | [],_,_=>rfl
 |s::l,h1,h2=>by rw[aU]at h1;unfold tV;rw[Sj h1.1,aj.2 (h2 s (by simp)),SA h1.2 λt a=>h2 t (by simp[a])];rfl
def R8:∀ {l:eY},(∀(i:Nat) p q,l[i]?=Z p->l[i+1]?=Z q->p≠q)->qt l=Y
 | [],_=>rfl
 | [_],_=>rfl
 |p::q::l,h=>by
  have c:=h 0 p q rfl rfl;have e:u9 p q=U:=by grind[pt]
  show(!(u9 p q)&&qt (q::l))=Y;rw[e,R8 λi a b h1 h2=>h (i+1) a b (by simpa using h1) (by simpa using h2)];rfl
section
variable {al:gp} {ag:hI} {fs:eD} (h:Hr al ag fs)
include h
theorem RW:∀ {l:hI},(∀a∈l,a∈ag)->(∀s∈AI al ag l,B5 al s=Y)->zb al ag l=Z (AI al ag l)
 | [],_,_=>rfl
 |a::l,hm,ha=>by
  have b:=hm a (by simp);let ⟨f,t,_,_,_,_,_,_,hp⟩:=h.path b;have c:=h.Mk b hp;have e:AI al ag (a::l)=pf a (f.2::(a.2.2.2.1++[t.2]))++AI al ag l:=by grind[AI]
  rw[e]at ha⊢;generalize(f.2::(a.2.2.2.1++[t.2]))=p at hp c ha;have hs:∀i:Nat,i+1<aa p->B5 al (rT a p,(i:Int))=Y:=λi a7=>ha _ (aV.2 (.inl (aN.2 ⟨i,by rw[gf];omega,rfl⟩)));have j:qt p=Y:=R8 λi x y d k=>by
   have a7:i+1<aa p:=by grind[aq]
   have o:nJ al ag (rT a p,(i:Int)) a p i:=⟨b,hp,a7,rfl⟩;have g:=hs i a7;have m:=o.rO;have n:=o.se
   grind[B5,dt,aJ,pt]
  have hc:(No (a.2.1=a.2.2.1)&&No (aa p<4))=U:=by
   have g:=hs 0 (by omega);unfold B5 at g;simp only[ab]at g;have g2:(!decide (a.2.1=a.2.2.1)||No (4<=aa p))=Y:=g.2.2
   grind[decide_eq_false]
  have q:=RW (l:=l) (λx d=>hm x (by simp[d])) λs hs=>ha s (aV.2 (.inr hs));show(match pathOf al ag a.1 with|none=>W|some r=>_)=_
  grind
theorem OC:∀ {l:hI},(∀a∈l,a∈ag)->(l.map (·.1)).Pairwise (·<·)->(AI al ag l).Pairwise (λs t=>s.1.1=t.1.1->s.2<t.2)
 | [],_,_=>.nil
 |a::l,hm,hp=>by
  have c:=hm a (by simp);let ⟨f,t,_,_,_,_,_,_,m⟩:=h.path c;have n:AI al ag (a::l)=pf a (f.2::(a.2.2.2.1++[t.2]))++AI al ag l:=by grind[AI]
  rw[aD,aU]at hp;rw[n,fP];refine⟨?_,OC (λx o=>hm x (by simp[o])) hp.2,λs hs t p e=>?_⟩;unfold pf;rw[cE];refine List.pairwise_lt_range.imp λ{x y} q _=>?_;show(x:Int)<(y:Int);omega;obtain⟨i,_,rfl⟩:=xw hs;let ⟨b,g,k⟩:=bW.1 p;let ⟨r,u,_,_,_,_,_,_,d⟩:=h.path (hm b (by simp[g]));rw[d]at k;obtain⟨j,_,rfl⟩:=xw k;have:=hp.1 b.1 (aX g);have v:a.1=b.1:=e;omega
theorem Se:∀ {l:hI},(∀a∈l,a∈ag)->aa (AI al ag l)<=65*aa l
 | [],_=>by simp[AI]
 |a::l,hm=>by
  have b:=hm a (by simp);let ⟨f,t,_,_,_,_,_,_,hp⟩:=h.path b;have hv:=h.q4 b;have d:=Se (l:=l) λx c=>hm x (by simp[c])
  grind[AI,pf,aL,Du]
theorem ah9{s t:fy}{a b:ct}{p q:eY}{i j:Nat}(o:nJ al ag s a p i)(o':nJ al ag t b q j)(c:s.1.1=t.1.1->s.2<t.2)(hp:CM al s t=Y):qx s t (mkMap al [])=Y:=by
 unfold CM at hp;unfold qx;simp only;by_cases e:s.1.1=t.1.1;rw[hT e,b6]at hp⊢;rw[fc (by have:=c e;omega),bu];exact hp;rw[fc e,bu]at hp⊢;change(cond (uQ s t=1) _ <|No (uQ s t=0))=Y;cases hm:No (uQ s t=1)with
 |false=>rw[hm]at hp;exact hp
 |true=>
  rw[hm,b6]at hp;rw[b6];let ⟨n,d,g⟩:=gW.1 hp;have f:nv (mkMap al []) n.1=n.2:=by unfold nv;rw[Jr [] (pq h.vL) d];rfl
  grind[ud,left]
theorem ah4(hp:CH al [] (AI al ag ag)=Y):u_ al ag=Y:=by
 let ⟨h1,_,z⟩:=(O2 ..).1 hp;have m:=RW h (λ_ x=>x) h1;unfold u_;rw[m];simp only;have hO:=OC h (λ_ x=>x) (pq h.rX);have v:=M7 (pq h.rX) m;have c:=tG (vA (AI al ag ag));have r:∀s∈AI al ag ag,hi s≠gl s:=λs hs e=>by grind[B5,pt,gl]
 have d:∀s∈AI al ag ag,∀n∈al,p6 s n=Y:=λs hs n f=>by grind[B5,aj]
 have all:∀s∈AI al ag ag,∀t∈AI al ag ag,s≠t->qx s t (mkMap al [])=Y:=λs hs t w qJ=>by
  have g3:(AI al ag ag).Pairwise (λs t=>s∈AI al ag ag->t∈AI al ag ag->s≠t->qx s t (mkMap al [])=Y):=by
   refine(z.and hO).imp_of_mem λ{x y} k l g _ _ f=>?_;let ⟨a,p,i,o⟩:=h.Ml k;let ⟨b,q,j,o'⟩:=h.Ml l
   grind[ah9]
  refine Gw (R:=λs t=>s∈AI al ag ag->t∈AI al ag ag->s≠t->qx s t (mkMap al [])=Y) (λx y g l k f=>?_) (λx _ _ f=>(f rfl).elim) g3 hs w hs w qJ;let ⟨a,p,i,o⟩:=h.Ml k;let ⟨b,q,j,o'⟩:=h.Ml l;rw[Wg _ (r y l) (r x k) λe=>?_]
  grind
  obtain⟨rfl,rfl⟩:=h.PT o' o e;rw[o.eq,o'.eq]at f⊢
  grind
 have u:(oy p2 (AI al ag ag)).Nodup:=c.nodup_iff.2 v;refine SA ?_ λs hs n f=>d s (c.mem_iff.1 hs) n f;exact u.imp_of_mem λ{x y} k l g=>all x (c.mem_iff.1 k) y (c.mem_iff.1 l) g
theorem au8:HG (al,ag,fs)=Z (CH al [] (AI al ag ag)):=by
 have hlen:aa (AI al ag ag)<=100000:=by have:=Se h (l:=ag) λ_ x=>x;have:=h.pA;omega
 unfold HG;rw[show EA ((al,ag,fs).1,(al,ag,fs).2.1,(al,ag,fs).2.2)=_ from am6 h];simp only[bT];have d:∀s∈AI al ag ag,∃a p i,nJ al ag s a p i:=λs hs=>h.Ml hs;generalize AI al ag ag=r at hlen d;refine(vF (A:=Unit) (r.map pr) (λi _=>(i:Int)) (λ_ rest=>Z (CH al (r.take (aa r-aa rest)) (r.drop (aa r-aa rest)))) (λi _=>∀s∈r.take i,hi s≠gl s) (by simp;omega) ?_ ?_ () (by simp)).trans (by simp);intro rec _ _;simp only[kj,bu,cP,ml,gX];rfl;intro rec i _ y rest a7 O hd t;have D:=oU hd;rw[aS]at D;have g:i<aa r:=by simpa using a7
 rw[af g]at D;simp only[ai,ah]at D;have I:aa rest=aa r-i-1:=by have:=Ar aa hd;simp at this;omega
 have E:i<aa (r.map pr):=a7;rw[show aa r-aa (y::rest)=i by simp[I];omega];rw[show aa r-aa rest=i+1 by omega]at t;have P:r[i]∈r:=au g;let ⟨b,q,j,o'⟩:=d _ P;simp only[fB E,b6,fm hd,bT];have J:EM ((al,ag,fs),y.1,y.2.1,y.2.2.1,y.2.2.2.1,y.2.2.2.2.1,y.2.2.2.2.2.1,y.2.2.2.2.2.2.1,y.2.2.2.2.2.2.2.1,y.2.2.2.2.2.2.2.2.1,y.2.2.2.2.2.2.2.2.2.1,y.2.2.2.2.2.2.2.2.2.2.1,y.2.2.2.2.2.2.2.2.2.2.2)=Z (B5 al r[i]):=by rw[<-D];exact aB9 h o'
 rw[J];rw[bJ g];show _=Z (B5 al r[i]&&((r.take i).all (CM al · r[i])&&CH al (r.take i++[r[i]]) (r.drop (i+1))));have G:r.take i++[r[i]]=r.take (i+1):=by rw[bn,af g];rfl
 rw[G];simp only[bT];cases f:B5 al r[i]with
 |false=>rfl
 |true=>
  simp only[ar,bu,bQ];have u:hi r[i]≠gl r[i]:=λe=>by unfold B5 at f;rw[e,(pt (gl r[i]) (gl r[i])).2 rfl]at f;simp at f
  have w:=t () λs hs=>by
   rw[<-G]at hs;rcases aV.1 hs with hs|hs
   exact O s hs;simp only[bz]at hs;rw[hs];exact u
  refine mP (A:=Unit) (r.take i) (λk _=>(k:Int)) (λ_ K=>Z (K.all (CM al · r[i])&&CH al (r.take (i+1)) (r.drop (i+1)))) (by simp;omega) ?_ ?_ ();intro c _;rw[cQ,dw (by omega),kj,bu,f' E,dD,bQ];exact w;intro c k _ z B hk sX C;rw[cQ,dw (by omega)]at hk;have hz:=oU sX;rw[eH hk,af (by omega)]at hz;simp only[ah]at hz;have hs:r[k]∈r:=au (by omega);let ⟨a,p,R,o⟩:=d _ hs;have H:hi r[k]≠gl r[k]:=O _ (aH (i:=k) (by rw[eH hk,af (by omega)]));have M:nth (r.map pr) (k:Int)=Z (pr r[k]):=by rw[zB,aS,af (by omega)];rfl
  have Q:aa (r.map pr)<2^62:=by simp;omega
  rw[fB hk,b6,f' (n:=i) hk];simp only[M,fm hd,bT,<-D,bE,<-hz];have m:CM al r[k] r[i]=bif No (r[k].1.1=r[i].1.1)then(cond (xf r[k] r[i]) (No (uQ r[k] r[i]=1)) <|No (uQ r[k] r[i]=0))else(cond (uQ r[k] r[i]=1) (al.any (λn=>ud r[k] n&&ud r[i] n&&n' (hi r[k]) (gl r[k]) n.2&&n' (hi r[i]) (gl r[i]) n.2)) <|No (uQ r[k] r[i]=0)):=rfl
  have fin:∀b:Bool,(cond (!b) (Z U) <|c ((k+1:Nat):Int))=Z (b&&B.all (CM al · r[i])&&CH al (r.take (i+1)) (r.drop (i+1))):=λb=>by cases b;rfl;simpa using C ()
  by_cases e:r[k].1.1=r[i].1.1;have N:(pr r[k]).1=(pr r[i]).1:=e;rw[hT N];rw[hT e,b6]at m;simp only[b6,ar,bu];refine mj (b:=a8 (CS (pr r[k],pr r[i])) λv=>cond (!v) (Z U) <|c ((k+1:Nat):Int)) rfl ?_;rw[az5 h o o' H u,m];exact fin _;have N:(pr r[k]).1≠(pr r[i]).1:=e;rw[fc N];rw[fc e,bu]at m;simp only[aQ,b6,bu];refine mj (b:=a8 (CO ((al,ag,fs),pr r[k],pr r[i])) λv=>cond (!v) (Z U) <|c ((k+1:Nat):Int)) rfl ?_;rw[X0 h H u,m];exact fin _
omit h in
theorem Sr:∀ {l:hI} {r:cu fy},zb al ag l=Z r->r=AI al ag l
 | [],r,b=>by cases b;rfl
 |a::l,r,b=>by
  unfold zb at b;cases c:zb al ag l with
  |none=>grind
  |some d=>
   have:=Sr c
   grind[AI]
omit h in
theorem az2(h:fp al ag fs):CH al [] (AI al ag ag)=Y:=by
 have f:Hr al ag fs:=⟨h.AD,h.vL,h.rX,λa ha=>by let ⟨⟨n,g,e⟩,m,hm,j⟩:=h.DQ ha;exact⟨aN.2 ⟨n,g,e⟩,aN.2 ⟨m,hm,j⟩⟩⟩;let ⟨r,b⟩:=h.j7;have k:=Sr b;let ⟨l,dC⟩:=bd0 h b;have hO:=OC f (λ_ x=>x) (pq h.rX);rw[<-k]at hO⊢;refine(O2 ..).2 ⟨λt c=>?_,by simp,?_⟩;let ⟨a,p,i,o⟩:=h.q_ b c;let ⟨w,d,_,hl⟩:=I5 b a o.nM;have q:=h.sD o;have e:t.1.2.1=a.2.1/\t.1.2.2.1=a.2.2.1/\t.1.path=p:=by rw[o.eq];exact⟨rfl,rfl,rfl⟩
 have:u9 (hi t) (gl t)=U:=by grind[pt]
 rw[o.path]at d
 grind[B5,aj]
 refine((M7 (pq h.rX) b).and hO).imp_of_mem λ{s t} hs c qJ=>?_;let ⟨u,_,v⟩:=l s hs t c qJ.1
 grind[CM,xf,decide_false,decide_true,gW]
end
end Dp
set_option maxRecDepth 10000
namespace Dp
def St{α β:Type}(xs:cu α)(bad:α->Bool)(v K:dv β){F:(Int->dv β)->Int->dv β}(hl:aa xs<2^62)
  (h1:∀(rec:Int->dv β) (i:Nat) x rest,i<aa xs->xs.drop i=x::rest->F rec (i:Int)=bif bad x then v else rec ((i+1:Nat):Int)) (a:∀rec:Int->dv β,F rec (aa xs:Int)=K):rounds F 0=bif xs.any bad then v else K:=by
 refine mP (A:=Unit) xs (λi _=>(i:Int)) (λ_ rest=>cond (rest.any bad) v K) (by omega) (λrec _=>a rec) ?_ ();intro rec i _ x rest a7 hd b;rw[h1 rec i x rest a7 hd,cx];cases bad x with
 |true=>rfl
 |false=>exact b ()
theorem RT(al:gp)(id:Int):(nQ al id).isSome=No (id∈al.map (·.1)):=by unfold nQ;rw[dc,List.find?_isSome];simp only[kA,aN]
def aJ1(al:gp)(ag:hI)(fs:eD)(a:ct)(b:aa al<=1000000)(hv:aa a.2.2.2.1<=1000000):∃l,ya ((al,ag,fs),a)=Z (l,No (a.2.1∈al.map (·.1))&&No (a.2.2.1∈al.map (·.1))):=by unfold ya;simp only;rw[KP al ag fs a.2.1,KP al ag fs a.2.2.1,<-RT,<-RT];simp only[bT];rw[m9,bT,m9,bT];cases nQ al a.2.1<;>cases nQ al a.2.2.1<;>exact⟨_,rfl⟩
def Sv(al:gp)(ag:hI)(fs:eD)(d:aa al<=1000000)(ha:aa ag<=1000000)(hf:aa fs<=1000000):EP (al,ag,fs)=Z (tJ al ag fs):=by
 unfold EP tJ;simp only;rw[Xn al ag fs ha,Hc al ag fs U d ha,Hc al ag fs Y d ha];simp only[bT,b6,bu];rw[N6 (by simpa using d),N6 (by simpa using ha),N6 hf];simp only[bT];cases hs:wT al ag fs with
 |false=>rfl
 |true=>
  simp only[ar,bu];cases h1:qM (al.map (·.1))with
  |false=>rfl
  |true=>
   cases h2:qM (ag.map (·.1))with
   |false=>rfl
   |true=>
    cases m:qM fs with
    |false=>rfl
    |true=>
     simp only[ar,bu,bG];rw[Z0 al ag fs hs,ax7 al ag fs d];simp only[bT];generalize b:((al.map (·.1)).all qL&&((ag.map (·.1)).all qL&&(fs.all qL&&((al.all λn=>yU n.2)&&(ag.all λa=>a.2.2.2.1.all yU)))))=rg;cases rg;rfl;simp only[ar,bu];unfold vP;cases hd:sC [] al with
     |true=>rfl
     |false=>
      simp only[bu];have hv:∀a∈ag,aa a.2.2.2.1<=64:=λa h=>by grind[wT,aj]
      have o:aa fs<=64:=by grind[wT]
      refine(St ag (λa=>!(No (a.2.1∈al.map (·.1))&&No (a.2.2.1∈al.map (·.1)))) (Z 7) (cond (ag.any (λa=>!((No (a.2.2.2.2.1=0)||No (a.2.2.2.2.1∈fs))&&(No (a.2.2.2.2.2=0)||No (a.2.2.2.2.2∈fs))))) (Z 12) <|a8 (HG (al,ag,fs)) λv=>cond (!v) (Z 11) <|some 0) (by omega) ?_ ?_).trans ?_;intro rec i x rest a7 c;have f:x∈ag:=aC (c▸aR ..);let ⟨l,hl⟩:=aJ1 al ag fs x d (by have:=hv x f;omega);have g:ya ((al,ag,fs),x.1,x.2.1,x.2.2.1,x.2.2.2.1,x.2.2.2.2.1,x.2.2.2.2.2)=_:=hl;simp only[fB a7,b6,fm c,bT,f' a7,g];intro rec;simp only[kj,bu];refine St ag (λa=>!((No (a.2.2.2.2.1=0)||No (a.2.2.2.2.1∈fs))&&(No (a.2.2.2.2.2=0)||No (a.2.2.2.2.2∈fs)))) (Z 12) (a8 (HG (al,ag,fs)) λv=>cond (!v) (Z 11) <|some 0) (by omega) ?_ ?_;intro e i x rest a7 c;simp only[fB a7,b6,fm c,bT,f' a7,aS1 al ag fs _ (by omega:aa fs<2^62)];rw[iJ (No (x.2.2.2.2.1∈fs)),iJ (No (x.2.2.2.2.2∈fs))];cases(No (x.2.2.2.2.1=0)||No (x.2.2.2.2.1∈fs))<;>cases(No (x.2.2.2.2.2=0)||No (x.2.2.2.2.2∈fs))<;>rfl;intro e;simp only[kj,bu];cases he:ag.any (λa=>!(No (a.2.1∈al.map (·.1))&&No (a.2.2.1∈al.map (·.1))))with
      |true=>rfl
      |false=>
       simp only[bu];cases p:ag.any (λa=>!((No (a.2.2.2.2.1=0)||No (a.2.2.2.2.1∈fs))&&(No (a.2.2.2.2.2=0)||No (a.2.2.2.2.2∈fs))))with
       |true=>rfl
       |false=>
        have k:Hr al ag fs:=⟨hs,h1,h2,λa f=>by
         have:=c_.1 he a f;simpa using this⟩
        rw[au8 k];simp only[bu,bT,l6,ar];cases hp:u_ al ag with
        |false=>
         cases q:CH al [] (AI al ag ag)with
         |false=>rfl
         |true=>rw[ah4 k q]at hp;cases hp
        |true =>simp only[ab]at b;have j:fp al ag fs:=⟨hs,h1,h2,m,b.1,b.2.1,b.2.2.1,b.2.2.2.1,b.2.2.2.2,by unfold vP;rw[hd,he,p];rfl,hp⟩;rw[az2 j];rfl
theorem aB6{al:gp}{ag:hI}{fs:eD}(h:fp al ag fs):EP (al,ag,fs)=Z 0:=by have:=h.qF;have:=h.pA;have:=h.wX;rw[Sv al ag fs (by omega) (by omega) (by omega),De.2 h]
end Dp
open fp (l1)
set_option maxRecDepth 10000
namespace Dp
def Hd(al:gp)(ag:hI)(fs:eD)(id:Int)(hl:aa ag<2^62)(hv:∀a∈ag,aa a.2.2.2.1<=1000000):AX ((al,ag,fs),id)=Z (match px ag id with|some a=>(a,Y)|none=>((0,0,0,[],0,0),U)):=by
 unfold AX;refine mP (A:=Unit) ag (λi _=>(i:Int)) (λ_ rest=>Z (match px rest id with|some a=>(a,Y)|none=>((0,0,0,[],0,0),U))) (by omega) ?_ ?_ ()
 grind[px]
 intro rec i a x rest a7 hd b;have:=b ();have c:=hv x (aC (hd▸aR ..));simp only[fB a7,b6,fm hd,bT,f' a7 hl,this,px,fW]
 grind[m9,bT,decide_eq_true,decide_eq_false]
theorem Ka(p:eY)(hp:aa p<=100000):rounds (α:=eY×Int) (β:=eY) (λe b=>
  cond ((0:Int)<=b.2) (
   a8 (nth p b.2) λc=>
   a8 (j6 16 b.1 [c]) λd=>
   e (d,(ek (b.2-(1:Int))))) (
   Z b.1)) (([]:eY),(ek ((aa p:Int)-(1:Int))))=Z p.reverse:=by
 rw[fx];have:=vF (A:=eY) (β:=eY) (S:=eY×Int) p.reverse (F:=λe b=>
  cond ((0:Int)<=b.2) (
   a8 (nth p b.2) λc=>
   a8 (j6 16 b.1 [c]) λd=>
   e (d,(ek (b.2-(1:Int))))) (
   Z b.1)) (λi a=>(a,(aa p:Int)-1-(i:Int))) (λa rest=>Z (a++rest)) (λi a=>aa a=i) (by simp;omega) ?_ ?_ [] rfl
 simpa using this
 grind[decide_eq_false]
 intro rec i a x rest a7 g hd h;have f:i<aa p:=by simpa using a7
 have j:=oU hd
 grind[decide_eq_true,zB,bT,m9,fx]
def xl(al:gp)(ag:hI)(d:Int):eY:=ite (0<d) ((pathOf al ag (la d)).getD []) ((pathOf al ag (la d)).getD []).reverse
def aT4{β:Type}(o:bs)(b:eY)(n:Nat)(h:aa b=n)(hl:n<=1000000)(j:Nat)(y:bs)(k:b[j]?=Z y)(K:Int->dv β) :
  rounds (α:=Int×Int) (β:=β) (λd c=>
      cond (c.1<(n:Int)) (
       a8 ((cond (0<=c.1&&c.1<aa b) (Z ()) W)) λ_=>
       a8 ((b[(c.1).toNat]?).map (λx=>x)) λe=>
       a8 ((cond (0<=(j:Int)&&(j:Int)<aa b) (Z ()) W)) λ_=>
       a8 ((b[((j:Nat):Int).toNat]?).map (λx=>x)) λf=>
       a8 (ET (o,e,f)) λg=>
       cond g (
       d ((ek (c.1+(1:Int))),(ek (c.2+(1:Int))))) (
       d ((ek (c.1+(1:Int))),c.2))) <|K c.2) ((0:Int),(0:Int))=K ((b.countP (oo o · y):Nat):Int):=by
 subst h;have hj:j<aa b:=by grind[cU,bB]
 refine(vF (A:=Nat) b (λi a=>((i:Int),(a:Int))) (λa rest=>K (((a+rest.countP (oo o · y):Nat)):Int)) (λi a=>a<=i) (by omega) ?_ ?_ 0 (by omega)).trans (by simp)
 grind
 intro rec i a x rest a7 r hd l;have m:=oU hd;have p:No (0<=(i:Int))=Y:=hT (by omega);have q:No (0<=(j:Int))=Y:=hT (by omega);simp only[fB a7,fB hj,b6,p,q,bG,bT,aO,m,k,ai,bc4,f' a7,f' (show a<aa b by omega),iR];cases oo o x y with
 |true =>rw[b6,l (a+1) (by omega)];congr 2;simp;omega
 |false=>grind
section
variable {al:gp} {ag:hI} {fs:eD} (h:fp al ag fs)
include h
theorem Q7(id:Int):CU ((al,ag,fs),id)=Z (match pathOf al ag id with|some l=>(l,0)|none=>([],7)):=by
 have hl:=h.pA;unfold CU;simp only;rw[Hd al ag fs id (by omega) (λa ha=>by have:=h.q4 ha;omega)]
 grind[px,pathOf,FG,hid,DX,bT,ar,ya]
theorem an8(d:Int):aa (xl al ag d)<=66:=by
 unfold xl;cases hp:pathOf al ag (la d)with
 |none=>simp
 |some l =>let ⟨a,ha,e⟩:=Ya hp;have:=h.q4 (FG ha);split<;>simp<;>omega
theorem Tw{d:Int}(hd:nY d):ES ((al,ag,fs),d)=Z (xl al ag d):=by
 have hlen:=an8 h d;unfold ES;unfold xl at hlen⊢;simp only;let ⟨h1,h2⟩:=hd
 grind[decide_eq_true,Q7,bT,la,pathOf,decide_eq_false,fx,Ka]
theorem aQ7{node:Int}{p:Int×bs}(hp:p∈np al ag node ag):EK ((al,ag,fs),p.1)=Z p.2:=by
 let ⟨a,ha,q,b,hc⟩:=h.GF (λ_ ha=>ha) hp;have c:=h.num ha;have hl:=h.Ce ha b
 grind[nY,EK,Tw,bT,xl,la,decide_eq_false,af,zB]
theorem bL8{n:b9}(a:n∈al):(l1 al ag n).Pairwise (λd e=>oo n.2 (nv (rv [] (np al ag n.1 ag)) d) (nv (rv [] (np al ag n.1 ag)) e)=Y):=by
 let ⟨r,b⟩:=h.j7;have hs:=cE.1 (h.Mp b a).sorted;refine hs.imp_of_mem λ{d e} hd he g=>?_;let ⟨m1,s1,t1,_⟩:=h.tO b a hd;let ⟨m2,s2,t2,_⟩:=h.tO b a he;have ho:d' n.2=Y:=rS (h.tt a);have Ao:∀x∈l1 al ag n,d' (nv (rv [] (np al ag n.1 ag)) x)=Y:=λx f=>by
  rw[(h.wG a).mem_iff]at f;obtain⟨p,hp,rfl⟩:=aN.1 f;have c:nv (rv [] (np al ag n.1 ag)) p.1=p.2:=by unfold nv;rw[E5 _ [] (h.Ci n.1 (λ_ ha=>ha) (pq h.rX)) p hp];rfl
  rw[c];exact(h.Px (h.vm a) (λ_ ha=>ha) hp).1
 exact(at2 _ m1 m2 s1 t1 s2 t2 ho (Ao d hd) (Ao e he)).2 g
end
end Dp
open Go Go.Sort Go.Proofs Go.Shelf Go.Pg
open fp (l1)
namespace Dp
def ay6{α:Type}{lt:α->α->Bool}:∀ {L:cu α},(∀x∈L,lt x x=U)->L.Pairwise (λx y=>lt x y=Y/\lt y x=U)->∀ {j:Nat} {y:α},L[j]?=Z y->L.countP (lt · y)=j
 | [],_,_,j,y,b=>by simp at b
 |a::L,c,hs,j,y,b=>by
  rw[aU]at hs;rw[iR];cases j
  grind[List.getElem?_cons_zero,ah,List.countP_eq_zero]
  rename_i j;rw[aK]at b;rw[ay6 (λx d=>c x (by simp[d])) hs.2 b,(hs.1 y (aH b)).1];rfl
section
variable {al:gp} {ag:hI} {fs:eD} (h:fp al ag fs)
include h
theorem av6(id:Int):CP ((al,ag,fs),id)=Z (match nQ al id with|some n=>l1 al ag n|none=>[]):=by
 have hN:=h.qF;have hA:=h.pA;unfold CP;simp only;rw[KP al ag fs id];cases P:nQ al id with
 |none=>simp
 |some n=>
  have w:n.1=id:=by have:=eB P;simpa using this
  subst w;have u:n∈al:=bh P;have hraw:=h.Ci n.1 (λ_ ha=>ha) (pq h.rX);obtain⟨f,hf⟩:∃f,f=nv (rv [] (np al ag n.1 ag)):=⟨_,rfl⟩;have Q:∀p∈np al ag n.1 ag,f p.1=p.2:=λp hp=>by
   rw[hf];unfold nv
   grind[E5]
  have g:=h.wG u;have m:=bL8 h u;rw[<-hf]at m;have hlen:=fp.Kz (al:=al) (ag:=ag) n.1 ag;obtain⟨R,z⟩:∃R,R=(np al ag n.1 ag).map (·.1):=⟨_,rfl⟩;have hRl:aa R<=512:=by rw[z];simp;omega
  have sec:∀d∈R,EK ((al,ag,fs),d)=Z (f d):=λd hd=>by rw[z]at hd;obtain⟨p,hp,rfl⟩:=aN.1 hd;grind[aQ7]
  have o:∀d∈R,uR n.2 (f d):=λd hd=>by rw[z]at hd;obtain⟨p,hp,rfl⟩:=aN.1 hd;rw[Q p hp];exact h.Px P (λ_ ha=>ha) hp
  have ho:d' n.2=Y:=rS (h.tt u);rw[<-z]at g;simp only[bT,ar,bu];generalize hL:l1 al ag n=L at g m⊢;have l:∀d,d∈L↔d∈R:=λd=>g.mem_iff;have B:∀ {j:Nat} {d:Int},L[j]?=Z d->(R.map f).countP (oo n.2 · (f d))=j:=λ{j d} hj=>by have hs:L.Pairwise (λx y=>oo n.2 (f x) (f y)=Y/\oo n.2 (f y) (f x)=U):=m.imp_of_mem λ{x y} v hy C=>⟨C,bT7 ho (o x ((l x).1 v)) (o y ((l y).1 hy)) C⟩;rw[List.countP_map,<-g.countP_eq];exact ay6 (lt:=λx y=>oo n.2 (f x) (f y)) (λx v=>Nl ho (o x ((l x).1 v))) hs hj
  refine vF (A:=eD) ag (λi a=>((i:Int),a)) (λ_ _=>Z L) (λi a=>a=(np al ag n.1 (ag.take i)).map (·.1)/\aa a<=2*i) (by omega) ?_ ?_ [] ⟨rfl,by simp⟩;intro rec a ⟨M,_⟩;rw[bN,<-z]at M;subst M;simp only[kj,bu];refine vF (A:=eY) a (λi b=>(b,(i:Int))) (λ_ _=>Z L) (λi b=>b=(a.take i).map f) (by omega) ?_ ?_ [] rfl;intro D b N;rw[bN]at N;simp only[kj,bu];refine Fq (λx=>∃j,j<=aa L/\x=L.take j) (aa L-·.length) (λ_=>Z L) ?_ ⟨0,by omega,by simp⟩ (by have:=g.length_eq;simp;omega);rintro E x ⟨j,hj,rfl⟩ ih;have hll:=g.length_eq;have S:aa b=aa a:=by rw[N];simp
  rw[cQ,dw hj];by_cases hjl:j=aa L
  grind[jL]
  have s:j<aa L:=by omega
  have hLj:L[j]?=Z L[j]:=af s;rw[fB (by omega),b6];let ⟨k0,hk0,hk1⟩:=bk ((l L[j]).1 (au s));refine vF (A:=Unit) a (λi _=>(i:Int)) (λ_ _=>Z L) (λi _=>∃k,i<=k/\a[k]?=Z L[j]) (by omega) ?_ ?_ () ⟨k0,by omega,by grind⟩
  grind[bB]
  rintro G i _ d rest a7 ⟨k,hk,e⟩ hd hr;have r:=oU hd;have H:d∈a:=aH r;let ⟨O,hj',hdj⟩:=bk ((l d).2 H);have q:=B (j:=O) (d:=d) (by grind);rw[<-N]at q;have hbi:b[i]?=Z (f d):=by grind
  rw[fB a7,b6];refine(aT4 n.2 b (aa a) S (by omega) i (f d) hbi (λc=>cond (c=(j:Int)) (a8 (cond (0<=(i:Int)&&Y) (Z ()) W) λ_=>a8 (Option.map (λx=>x) a[((i:Nat):Int).toNat]?) λI=>a8 (j6 8 (L.take j) [I]) λJ=>E J) <|cond ((i:Int)=ek ((aa a:Int)-1)) (Z []) <|G (ek ((i:Int)+1)))).trans ?_;rw[q];by_cases ej:O=j;subst ej;have e0:No (0<=(i:Int))=Y:=hT (by omega);have:=ih (L.take (O+1)) ⟨O+1,by omega,rfl⟩ (by simp;omega);simp only[l6,b6,e0,fB a7,bG,bT,aO,r,ai]
  grind[m9,bT,bn]
  rw[fc (by omega),bu];have hne:k≠i:=λx=>by grind[aJ,gY]
  have hka:k<aa a:=by grind[cU,bB]
  rw[fx,fc (by omega),bu,f' a7];exact hr () ⟨k,by omega,e⟩;intro D i b d rest a7 N hd hr;have r:=oU hd;have H:d∈a:=aH r
  grind[decide_eq_true,fB,bG,bT,aO,f',m9,bn]
  intro rec i a x rest a7 ⟨M,hIl⟩ hd hr;have v:x∈ag:=aC (hd▸aR ..);have hxi:=oU hd;have K:=h.num v;let ⟨ft,t,h1,h2,h3,h4,h5⟩:=h.path v;have er:(np al ag n.1 (ag.take (i+1))).map (·.1)=a++((ite (x.2.1=n.1) [x.1] [])++(ite (x.2.2.1=n.1) [-x.1] [])):=by
   rw[bn,hxi];unfold np;rw[hZ,List.map_append,M];congr 1
   grind[kb,ph]
  simp only[fB a7,b6,fm hd,bT,f' a7,LX K]
  grind[decide_eq_true,m9,bT,decide_eq_false]
end
end Dp
open fp (l1 ny ki l9)
namespace Dp
def sS(L:eD):eD:=(aT (aa L)).map λi=>-((L[(i+1)%aa L]?).getD 0)
def aW5(L:eD):aa (sS L)=aa L:=by simp[sS]
theorem QW:∀ {l c:eD},l.Pairwise (·<·)->c.Pairwise (·<·)->(∀x,x∈l↔x∈c)->l=c
 | [],[],_,_,_=>rfl
 | [],b::c,_,_,h=>by have:=(h b).2 (by simp);simp at this
 |a::l,[],_,_,h=>by have:=(h a).1 (by simp);simp at this
 |a::l,b::c,h1,h2,h=>by
  rw[aU]at h1 h2;have d:a=b:=by
   have ha:=(h a).1 (by simp);have e:=(h b).2 (by simp)
   grind
  subst d;rw[QW h1.2 h2.2 λx=>?_]
  grind
def aQ4{l:eD}(h:l.Nodup):(l.mergeSort λa b=>No (a<=b)).Pairwise (·<·):=by have h1:=(cO l (λa b=>No (a<=b))).nodup_iff.2 h;have h2:=List.pairwise_mergeSort (le:=λa b:Int=>No (a<=b)) (by simp;omega) (by simp;omega) l;exact(h2.and h1).imp λ{a b} h=>by grind
def He{l:eD}(x:Int)(hl:aa l<2^62):Ib (l,x)=Z (No (x∈l)):=by
 unfold Ib;refine mP (A:=Unit) l (λi _=>(i:Int)) (λ_ rest=>Z (No (x∈rest))) (by omega) ?_ ?_ ()
 grind[decide_false]
 intro rec i _ y rest a7 hd a;have:=a ();simp only[fB a7,b6,fm hd,bT,f' a7 hl,this]
 grind[decide_eq_true,decide_eq_false]
section
variable {al:gp} {ag:hI} {fs:eD} (h:fp al ag fs)
include h
theorem Ww:(ny al ag).Nodup:=by unfold fp.ny fp.wF;rw[List.nodup_iff_pairwise_ne];refine fH.2 ⟨λl hl=>?_,cE.2 ?_⟩;obtain⟨n,c,rfl⟩:=aN.1 hl;exact h.E7 c;refine(cE.1 (pq h.vL)).imp_of_mem λ{a b} ha d f=>λx g y i e=>?_;subst e;have:=h.Mq ha d g i;subst this;omega
theorem aw5{d:Int}(hd:d∈ny al ag):1<=d/\d<=1073741824\/-1073741824<=d/\d<=-1:=by rw[h.uP]at hd;obtain⟨a,ha,e|e⟩:=hd<;>have:=h.num ha<;>omega
theorem aJ8{n:b9}(b:n∈al):(sS (l1 al ag n)).map (ki al ag)=l1 al ag n:=by
 have a:=h.E7 b;have key:=λe he=>h.Ap (n:=n) b (e:=e) he;generalize l1 al ag n=L at *;refine List.ext_getElem (by simp[sS]) λi h1 h2=>?_;have hm:(i+1)%aa L<aa L:=eZ _ (by omega);simp only[sS,cK,List.getElem_range];rw[af hm,bM,key _ (au hm),Go.Ab.Gt a hm];have e:((i+1)%aa L+aa L-1)%aa L=i:=by
  by_cases c:i+1=aa L
  grind[mo,da]
  rw[da (show i+1<aa L by omega),show i+1+aa L-1=i+aa L by omega,gT,da (by omega)]
 simp only[e]
theorem aX3{n:b9}(a:n∈al){e:Int}(he:e∈l1 al ag n):-e∈sS (l1 al ag n):=by
 obtain⟨i,a7,rfl⟩:=bk he;generalize l1 al ag n=L at *;refine aN.2 ⟨(i+aa L-1)%aa L,gf.2 (eZ _ (by omega)),?_⟩;have e:((i+aa L-1)%aa L+1)%aa L=i:=by by_cases c:i=0;subst c;rw[da (show 0+aa L-1<aa L by omega),show 0+aa L-1+1=aa L by omega,mo];rw[show i+aa L-1=i-1+aa L by omega,gT,da (show i-1<aa L by omega),show i-1+1=i by omega,da a7]
 grind
theorem bM8:Hv (al,ag,fs)=Z (al.flatMap (λn=>sS (l1 al ag n)),ny al ag):=by
 have v:=h.qF;unfold Hv;have f:ny al ag=al.flatMap (l1 al ag):=by grind[fp.ny,fp.wF]
 rw[f];refine vF (A:=eD×eD) al (λi a=>(a.1,a.2,(i:Int))) (λa rest=>Z (a.1++rest.flatMap (λn=>sS (l1 al ag n)),a.2++rest.flatMap (l1 al ag))) (λi a=>aa a.1<=512*i/\aa a.2<=512*i) (by omega) ?_ ?_ ([],[]) ⟨by simp,by simp⟩
 grind
 intro rec i a x rest a7 ⟨p,q⟩ hd w;have g:x∈al:=aC (hd▸aR ..);have r:=h.Mo g;simp only[fB a7,b6,fm hd,bT,av6 h,h.vm g,f' a7,db];have k:∀y∈l1 al ag x,y∈ny al ag:=λy o=>bZ.2 ⟨_,aX g,o⟩;have s:=aW5 (l1 al ag x);generalize z:l1 al ag x=L at *;refine vF (A:=eD×eD) L (λi b=>(b.1,b.2,(i:Int))) (λ_ _=>Z (a.1++(sS L++rest.flatMap (λn=>sS (l1 al ag n))),a.2++(L++rest.flatMap (l1 al ag)))) (λi b=>b.1=a.1++(sS L).take i/\b.2=a.2++L.take i) (by omega) ?_ ?_ a ⟨by simp,by simp⟩;rintro d b ⟨g1,g2⟩
 grind[bN,jL,aL,cz]
 rintro d j b y B hj ⟨g1,g2⟩ e l;have m:=oU e;have o:=aH m;have c:(j+1)%aa L<aa L:=eZ _ (by omega);have hz:L[(j+1)%aa L]?=Z L[(j+1)%aa L]:=af c;have t:=aw5 h (k _ (au c));have C:aa b.1<=512*i+j:=by grind
 have D:aa b.2<=512*i+j:=by grind
 have u:512*i<=512*256:=by omega
 simp only[fB hj,b6,f' hj,fm e,bT];rw[fc (by omega),bu,bT,show Int.tmod ((j+1:Nat):Int) (aa L:Int)=(((j+1)%aa L:Nat):Int)from rfl,zB,hz,bT,fx,m9,bT,m9,bT];refine l (b.1++[0-L[(j+1)%aa L]],b.2++[y]) ⟨?_,?_⟩
 grind[bn,cz,sS,dN,kb]
 grind[bn,cz]
theorem aZ0{F T:eD}(cb:F.map (ki al ag)=T)(dC:∀d∈ny al ag,d∈F)(hl:aa F<=1000000){d:Int}(hd:d∈ny al ag){m:Nat}(hm:0<m)(he:ot (ki al ag) d m=d)(q:(zg (ki al ag) d m).Nodup) :
  HW (F,T,d)=Z (zg (ki al ag) d m):=by
 have f:∀k,ot (ki al ag) d k∈ny al ag:=vU (λd hd=>h.qK hd) hd;have t:m<=aa F:=by
  have:aa (zg (ki al ag) d m)<=aa F:=by
   refine(eU q ?_)
   grind[td]
  simpa[zg]using this
 have u:aa T=aa F:=by rw[<-cb];simp
 unfold HW;refine Fq (λx=>x.1=U/\∃k,0<k/\k<=m/\x.2=zg (ki al ag) d k) (m-·.2.length) (λ_=>Z (zg (ki al ag) d m)) ?_ ⟨rfl,1,by omega,by omega,rfl⟩ (by simp;omega);rintro rec ⟨E,G⟩ ⟨l,k,v,w,r⟩ z;simp only at l r;subst l r;have hlen:aa (zg (ki al ag) d k)=k:=by simp[zg]
 simp only[hlen];rw[hT (by omega),b6];have b:(zg (ki al ag) d k)[k-1]?=Z (ot (ki al ag) d (k-1)):=by grind[zg,dN]
 refine vF (A:=Int) F (λi a=>((i:Int),a)) (λ_ _=>Z (zg (ki al ag) d m)) (ot (ki al ag) d (k-1)∈F.take ·->·=ot (ki al ag) d k) (by omega) ?_ ?_ 0 (by simp);intro g a n;rw[bN]at n;have ha:=n (dC _ (f _));subst ha;simp only[kj,bu];by_cases c:ot (ki al ag) d k=d;rw[hT c,b6];by_cases o:k=m;rw[o];exact b8 (av8 q (i:=k) (j:=0) (by omega) hm c) (by omega);have s:k≠m:=λe=>c (e▸he);rw[fc c,bu,m9 (by decide) (by simp[hlen];omega),bT,<-N4];exact z _ ⟨rfl,k+1,by omega,by omega,rfl⟩ (by simp[zg];omega);intro g i a x rest a7 n sX H;have B:=oU sX;have p:nth T (i:Int)=Z (ki al ag x):=by grind[zB]
 have C:No (0<=((k-1:Nat):Int))=Y:=hT (by omega);have l:No (((k-1:Nat):Int)<(k:Int))=Y:=hT (by omega);have D:ek ((k:Int)-1)=((k-1:Nat):Int):=by grind[fx]
 have I:ot (ki al ag) d k=ki al ag (ot (ki al ag) d (k-1)):=by
  have:k=k-1+1:=by omega
  rw[this];rfl
 simp only[fB a7,b6,fm sX,bT,D,C,l,bG,aO,b,ai,p,f' a7]
 grind[ot,ki,decide_eq_true,decide_eq_false,bn,absurd]
end
end Dp
namespace Dp
def W0(x:bs):∀(l:eY) (p:bs),oZ p (l++[x])=oZ p l+uA ((p::l).getLast (by simp)) x
 | [],p=>by simp[oZ]
 |q::l,p=>by simp only[cV,oZ,W0 x l q,gJ];omega
def Hm:eY->Int
 | []=>0
 |p::l=>oZ p l
def af6:∀l:eY,Hm l.reverse=- Hm l
 | []=>rfl
 | [p]=>by simp[Hm,oZ]
 |p::q::r=>by
  have d:=af6 (q::r);rw[gr];have c:(q::r).reverse≠[]:=by simp
  have b:(q::r).reverse.getLast c=q:=by simp
  generalize(q::r).reverse=L at *;cases L;exact b8 rfl c;rename_i a L;rw[cV];show oZ a (L++[p])=_;rw[W0,b];show _=-(uA p q+oZ q r);have:oZ a L=-(oZ q r):=d;rw[this];simp only[uA];omega
def bU1{β:Type}(p0:bs)(l:eY)(hl:aa l<=1000)(o:mQ p0)(hc:∀q∈l,mQ q)(acc:Int)(ha:-(2^60)<=acc/\acc<=2^60)(K:Int->dv β) :
  rounds (α:=Int×Int) (β:=β) (λj b=>
    cond (b.2<(aa (p0::l):Int)) (
    a8 (nth (p0::l) (ek (b.2-(1:Int)))) λc=>
    a8 (nth (p0::l) b.2) λd=>
    a8 (nth (p0::l) b.2) λe=>
    a8 (nth (p0::l) (ek (b.2-(1:Int)))) λf=>
    j ((ek ((ek (b.1+(ek (c.1*d.2))))-(ek (e.1*f.2)))),(ek (b.2+(1:Int))))) (
    K b.1)) (acc,(1:Int))=K (acc+oZ p0 l):=by
 refine(vF (A:=bs×Int) l (λi a=>(a.2,((i+1:Nat):Int))) (λa rest=>K (a.2+oZ a.1 rest)) (λi a=>(p0::l)[i]?=Z a.1/\mQ a.1/\-(2^60)-(8796093022208*(i:Int))<=a.2/\a.2<=2^60+8796093022208*(i:Int)) (by omega) ?_ ?_ (p0,acc) ⟨rfl,o,by simp;omega,by simp;omega⟩);intro rec a h;simp only[aA,kj,bu,oZ,ee];intro rec i a x rest a7 h hd p;let ⟨h,hp,g1,g2⟩:=h;have m:(p0::l)[i+1]?=Z x:=by rw[aK];exact oU hd
 have k:x∈l:=aC (hd▸aR ..);have g:=hc x k;have r:ek (((i+1:Nat):Int)-1)=(i:Int):=by rw[fx];omega
 have s:ek (((i+1:Nat):Int)+1)=((i+1+1:Nat):Int):=f' (n:=2000000) (by omega);simp only[aA,fB (show i+1<aa l+1 by omega),b6,r,s,zB,h,m,bT];let ⟨v,a2⟩:=vI (A:=2097152) hp.1 hp.2.1 g.2.2.1 g.2.2.2;let ⟨w,z⟩:=vI (A:=2097152) g.1 g.2.1 hp.2.2.1 hp.2.2.2;rw[fx (n:=a.1.1*x.2),fx (n:=x.1*a.1.2),fx (n:=a.2+a.1.1*x.2),fx];have t:a.2+a.1.1*x.2-x.1*a.1.2=a.2+uA a.1 x:=by unfold uA;omega
 rw[t];have u:uA a.1 x=a.1.1*x.2-x.1*a.1.2:=rfl;have:=p (x,a.2+uA a.1 x) ⟨m,g,by simp only;omega,by simp only;omega⟩;refine this.trans ?_;simp only[oZ];congr 1;omega
section
variable {al:gp} {ag:hI} {fs:eD} (h:fp al ag fs)
include h
theorem aT9:HQ (al,ag,fs)=Z ((ny al ag).mergeSort λa b=>No (a<=b)):=by
 have u:=h.pA;have he:(ny al ag).mergeSort (λa b=>No (a<=b))=ag.reverse.map (-·.1)++ag.map (·.1):=by
  refine QW (aQ4 (Ww h)) ?_ λx=>?_;refine fP.2 ⟨?_,pq h.rX,?_⟩;rw[cE,jR];exact(cE.1 (pq h.rX)).imp λ{a b} x=>by omega
  intro x k y r;obtain⟨a,ha,rfl⟩:=aN.1 k;obtain⟨b,l,rfl⟩:=aN.1 r;have:=h.num (eG.1 ha);have:=h.num l;omega;rw[(cO _ _).mem_iff,h.uP,aV,aN,aN];constructor;rintro ⟨a,ha,rfl|rfl⟩;exact .inr ⟨a,ha,rfl⟩;exact .inl ⟨a,eG.2 ha,rfl⟩;rintro (⟨a,ha,rfl⟩|⟨a,ha,rfl⟩);exact⟨a,eG.1 ha,.inr rfl⟩;exact⟨a,ha,.inl rfl⟩
 rw[he];unfold HQ;simp only;rw[fx];have hk:=vF (A:=eD) (β:=eD) (S:=eD×Int) ag.reverse (F:=λs c=>
  cond ((0:Int)<=c.2) (
  a8 (nth ag c.2) λm=>
  a8 (j6 8 c.1 [(ek (0-m.1))]) λd=>
  s (d,(ek (c.2-(1:Int))))) (
  rounds (α:=eD×Int) (β:=eD) (λt e=>
   cond (e.2<(aa (ag):Int)) (
   a8 (nth ag e.2) λf=>
   a8 (j6 8 e.1 [f.1]) λg=>
   t (g,(ek (e.2+(1:Int))))) (
   Z e.1)) (c.1,(0:Int)))) (λi a=>(a,(aa ag:Int)-1-(i:Int))) (λa rest=>Z (a++(rest.map (-·.1)++ag.map (·.1)))) (λi a=>aa a=i) (by simp;omega) ?_ ?_ [] rfl
 simpa using hk;intro rec a q;simp only[h_]at q⊢;rw[fc (by omega),bu,cM,br];refine vF (A:=eD) ag (λi b=>(b,(i:Int))) (λb rest=>Z (b++rest.map (·.1))) (λi b=>aa b=aa a+i) (by omega) ?_ ?_ a (by simp);intro j b l;simp only[kj,bu,cM,ba];intro j i b x rest a7 l hd n;simp only[fB a7,b6,fm hd,bT,f' a7];rw[m9,bT,n _ (by simp;omega)];simp;intro rec i a x rest a7 q hd n;have o:i<aa ag:=by simpa using a7
 have k:=oU hd;have p:x∈ag:=eG.1 (aC (hd▸aR ..));rw[jS o]at k;simp only;rw[hT (by omega),b6,show(aa ag:Int)-1-(i:Int)=((aa ag-1-i:Nat):Int)by omega,zB,k,bT,LX (h.num p),m9,bT,fx];have:=n (a++[-x.1]) (by simp;omega);rw[show((aa ag-1-i:Nat):Int)-1=(aa ag:Int)-1-((i+1:Nat):Int)by omega];refine this.trans ?_;simp
theorem aq4:EI (al,ag,fs)=Z (l9 al ag,0):=by
 have H:=h.MJ;have v:=Ww h;have j:∀d∈ny al ag,ki al ag d∈ny al ag:=λd hd=>h.qK hd;have inj:∀d∈ny al ag,∀e∈ny al ag,ki al ag d=ki al ag e->d=e:=λd hd e he x=>h.Ov hd he x;unfold EI;rw[aB6 h,bM8 h,aT9 h];simp only[bT,l6,ar,bu];have cb:(al.flatMap (λn=>sS (l1 al ag n))).map (ki al ag)=ny al ag:=by
  have:ny al ag=al.flatMap (l1 al ag):=by unfold fp.ny fp.wF;rw[k_]
  rw[this,List.map_flatMap];have key:∀l:gp,(∀n∈l,n∈al)->l.flatMap (λa=>cD (ki al ag) (sS (l1 al ag a)))=l.flatMap (l1 al ag):=by
   intro l
   induction l with
   |nil=>intro _;rfl
   |cons n l w =>intro hl;rw[db,db,w (λm hm=>hl m (by simp[hm])),aJ8 h (hl n (by simp))]
  exact key al λ_ x=>x
 have dC:∀d∈ny al ag,d∈al.flatMap (λn=>sS (l1 al ag n)):=λd hd=>by have h2:=h.JN hd;let ⟨l,hl,q⟩:=bZ.1 h2;obtain⟨n,k,rfl⟩:=aN.1 hl;refine bW.2 ⟨n,k,?_⟩;have:=aX3 h k q;rwa [Int.neg_neg]at this
 have r:aa (al.flatMap (λn=>sS (l1 al ag n)))=aa (ny al ag):=by rw[<-cb];simp
 generalize al.flatMap (λn=>sS (l1 al ag n))=F at cb dC r;have f:=cO (ny al ag) (λa b=>No (a<=b));unfold fp.l9;generalize I:(ny al ag).mergeSort (λa b=>No (a<=b))=L at f⊢;have z:aa L=aa (ny al ag):=f.length_eq;refine vF (A:=cu eD) L (λi b=>(b,b.flatten,(i:Int))) (λb rest=>Z (qW (ki al ag) (ny al ag) rest b.flatten b,0)) (λi b=>aa b<=i/\ze (ki al ag) (ny al ag) b) (by omega) ?_ ?_ [] ⟨by simp,by simp,by simp⟩;intro rec b _;simp only[kj,bu,qW];intro rec i b x rest a7 ⟨B,g⟩ hd u;have p:x∈ny al ag:=f.mem_iff.1 (aC (hd▸aR ..));have C:aa b.flatten<=512:=by have:=eU g.nodup (PL j inj g · ·);omega
 simp only[fB a7,b6,fm hd,bT,He x (by omega:aa b.flatten<2^62),f' a7];by_cases hs:x∈b.flatten;rw[hT hs,b6,u b ⟨by omega,g⟩]
 conv=>rhs;unfold qW
 rw[cr hs];rw[fc hs,bu];have hz:b.flatten++zg (ki al ag) x 0=b.flatten:=by simp[zg]
 let ⟨m,hm,he,hf,k⟩:=Nc j inj p (Rt j inj g) (PL j inj g) hs (pV (ny al ag) b.flatten+1) 0 (by rw[hz];exact g.nodup) (by rw[hz];omega);rw[hz]at hf;have s:rn (ki al ag) (pV (ny al ag) b.flatten+1) b.flatten x []=(zg (ki al ag) x m,b.flatten++zg (ki al ag) x m):=hf;have o:=(dP.1 k).2.1;have D:m<=512:=by
  have:=eU o (λy E=>by
   obtain⟨i,_,rfl⟩:=td.1 E;exact vU j p i:∀y∈zg (ki al ag) x m,y∈ny al ag)
  simp[zg]at this;omega
 rw[aZ0 h cb dC (by omega) p hm he o];have G:aa (zg (ki al ag) x m)=m:=by simp[zg]
 rw[bT,m9,bT,m9,bT];have e:b.flatten++zg (ki al ag) x m=(b++[zg (ki al ag) x m]).flatten:=by simp
 have t:ze (ki al ag) (ny al ag) (b++[zg (ki al ag) x m]):=by
  refine⟨λc hc=>?_,by rw[<-e];exact k⟩;rcases aV.1 hc with hc|hc
  exact g.y5 c hc;simp at hc;exact⟨x,m,p,hm,he,hc⟩
 have:=u (b++[zg (ki al ag) x m]) ⟨by simp;omega,t⟩;rw[e];refine this.trans ?_
 conv=>rhs;unfold qW
 rw[cc hs];simp only[s];rw[e]
theorem K0{d:Int}(hd:nY d):AT ((al,ag,fs),d)=Z (Am ag d):=by
 have b:=h.pA;let ⟨d1,d2⟩:=hd;unfold AT Am;simp only;rw[fx,Hd al ag fs d (by omega) (λa ha=>by have:=h.q4 ha;omega),Hd al ag fs (0-d) (by omega) (λa ha=>by have:=h.q4 ha;omega)];by_cases c:0<d;rw[hT c,b6,cc (by omega),show la d=d by unfold la;omega];cases px ag d with
 |none=>rfl
 |some a=>simp[c]
 rw[fc c,bu];by_cases c0:d=0;subst c0;rfl;rw[cc c0,hT (by omega),b6,show la d=0-d by unfold la;omega];cases px ag (0-d)with
 |none=>rfl
 |some a=>simp[c]
theorem aU0{d:Int}(hd:nY d)(f:d≠0)(ha:∃a∈ag,a.1=la d):HR ((al,ag,fs),d)=Z Y:=by
 have k:=h.pA;let ⟨d1,d2⟩:=hd;unfold HR;have key:H' ((al,ag,fs),d)=Z (match ag.find? (λb=>No (b.1=d)||No (b.1=-d))with|some b=>(b,!decide (b.1=d),Y)|none=>((0,0,0,[],0,0),U,U)):=by
  unfold H';refine mP (A:=Unit) ag (λi _=>(i:Int)) (λ_ rest=>Z (match rest.find? (λb=>No (b.1=d)||No (b.1=-d))with|some b=>(b,!decide (b.1=d),Y)|none=>((0,0,0,[],0,0),U,U))) (by omega) ?_ ?_ ();intro rec _;simp only[kj,bu,js];intro rec i _ x rest a7 c g;have:=g ();have j:ek (0-d)=-d:=by rw[fx];omega
  simp only[fB a7,b6,fm c,bT,f' a7,this,j,fW];by_cases c1:x.1=d;rw[hT c1];simp only[b6,jQ];rw[hT c1];rfl;rw[fc c1,bu];by_cases c2:x.1=-d;rw[hT c2];simp only[b6,Bool.or_true];rw[fc c1];rfl;rw[fc c2,bu];simp
 simp only[key,bT];let ⟨a,ha,e⟩:=ha;cases hf:ag.find? (λb=>No (b.1=d)||No (b.1=-d))with
 |none =>have:=il.1 hf a ha;unfold la at e;simp at this;omega
 |some b=>simp[f]
theorem QJ{od:eD}(hc:aa od<=512)(hm:∀d∈od,nY d/\d≠0/\∃a∈ag,a.1=la d):xh ((al,ag,fs),od)=Z (l5 al ag od):=by
 unfold xh;simp only;rw[fc (by omega),bu];refine(vF (A:=Int) od (λi a=>(a,(i:Int))) (λa rest=>Z (a+l5 al ag rest)) (λi a=>-(571746046443520*(i:Int))<=a/\a<=571746046443520*(i:Int)) (by omega) ?_ ?_ 0 ⟨by simp,by simp⟩).trans (by simp);intro rec a _;simp only[kj,bu,l5,ee];intro rec i a d rest a7 ⟨g1,g2⟩ hd p;have g:d∈od:=aC (hd▸aR ..);let ⟨k,r,ha⟩:=hm d g;let ⟨p0,l,hp,hl,c0,cl⟩:=h.It ha;simp only[fB a7,b6,fm hd,bT,aU0 h k r ha,ar,bu,Tw h k,f' a7];obtain⟨qN,m,e,s,n,o⟩:∃qN m,xl al ag d=qN::m/\aa m<=65/\mQ qN/\∀q∈m,mQ q:=by
  have b:∀q∈xl al ag d,mQ q:=λq e=>by
   unfold xl at e;rw[hp]at e;have:q∈p0::l:=by split at e;exact e;exact eG.1 e
   rcases aG.1 this with rfl|x
   exact c0;exact cl q x
  have hlen:aa (xl al ag d)=aa l+1:=by unfold xl;rw[hp];split<;>simp
  cases f:xl al ag d with
  |nil=>rw[f]at hlen;simp at hlen
  |cons qN m =>rw[f]at hlen b;exact⟨qN,m,rfl,by simp at hlen;omega,b qN (by simp),λq e=>b q (by simp[e])⟩
 have j:vi al ag d=oZ qN m:=by
  have t:oZ qN m=Hm (xl al ag d):=by rw[e];rfl
  rw[t];unfold vi xl;rw[hp];simp only[bM];by_cases c:0<d;rw[cc (by omega),cr c];rfl;rw[cr (by omega),cc c,af6];rfl
 rw[e];refine(bU1 qN m (by omega) n o a (by omega) (λA=>rec (A,((i+1:Nat):Int)))).trans ?_;let ⟨u,v⟩:=Nd m qN n o;rw[p (a+oZ qN m) (by omega),l5,j];congr 1;omega
end
end Dp
namespace Dp
theorem Q8{d:Int}(hd:nY d):zi d=Z (la d):=by
 let ⟨h1,h2⟩:=hd
 grind[zi,fx,yP,la]
def QN{a b p:bs}(ha:d' a=Y)(c:d' b=Y)(hp:d' p=Y):zh (a,b,p)=Z (l7 a b p):=by
 let ⟨⟨g,h⟩,i,j⟩:=BY ha c;let ⟨⟨k,l⟩,d,f⟩:=BY ha hp;have c1:=vR (a:=b.1-a.1) (b:=p.2-a.2) (m:=4194304) (n:=4194304);have c2:=vR (a:=p.1-a.1) (b:=b.2-a.2) (m:=4194304) (n:=4194304);unfold zh;simp only[bT];rw[fx (n:=b.1-a.1),fx (n:=p.2-a.2),fx (n:=p.1-a.1),fx (n:=b.2-a.2),fx (n:=(b.1-a.1)*(p.2-a.2)),fx (n:=(p.1-a.1)*(b.2-a.2)),fx];have e:(b.1-a.1)*(p.2-a.2)-(p.1-a.1)*(b.2-a.2)=fr a b p:=by grind[fr,cT]
 rw[e]
 grind[te,decide_eq_true,decide_eq_false]
def bc6{a b p:bs}(ha:d' a=Y)(d:d' b=Y)(hp:d' p=Y):EZ (a,b,p)=Z (n' a b p):=by
 unfold EZ;simp only[QN ha d hp,bT,KS,yP,n',ha,d,hp,bQ,sU];have e:No (l7 a b p=0)=No (fr a b p=0):=by apply decide_eq_decide.2;rcases te ha d hp with⟨c,s⟩|⟨c,s⟩|⟨c,s⟩<;>omega
 grind[fr]
theorem ah7{a b p:bs}(ha:d' a=Y)(d:d' b=Y)(hp:d' p=Y):l7 b a p=- l7 a b p:=by
 have e:fr b a p=- fr a b p:=by unfold fr;grind
 rcases te ha d hp with⟨c,s⟩|⟨c,s⟩|⟨c,s⟩<;>rcases te d ha hp with⟨f,s'⟩|⟨f,s'⟩|⟨f,s'⟩<;>omega
theorem aq9{q a b:bs}(c:d' q=Y)(ha:d' a=Y)(d:d' b=Y):Go.Ab.pg q a b=yZ q a b:=by grind[ah7,Go.Ab.pg,yZ,decide_eq_true,l7,decide_eq_false]
theorem aL4{q a b:bs}(c:d' q=Y)(ha:d' a=Y)(d:d' b=Y):Go.Ab.pg q b a=Go.Ab.pg q a b:=by grind[ah7,Go.Ab.pg,iJ]
def bE1(a b p:bs):n' b a p=n' a b p:=by grind[n',d',fr,sU,jG,iy]
def VX(g:bs->bs->Int)(x:bs):∀(l:eY) (p:bs),oN g p (l++[x])=oN g p l+g ((p::l).getLast (by simp)) x
 | [],p=>by simp[oN]
 |q::l,p=>by simp only[cV,oN,VX g x l q,gJ];omega
def W2(q x:bs):∀(l:eY) (p:bs),qa q p (l++[x])=(qa q p l||n' ((p::l).getLast (by simp)) x q)
 | [],p=>by simp[qa]
 |y::l,p=>by simp only[cV,qa,W2 q x l y,gJ,lQ]
theorem Oc{q:bs}(d:d' q=Y):∀ {l:eY},(∀p∈l,d' p=Y)->pY q l.reverse=pY q l
 | [],_=>rfl
 | [p],_=>rfl
 |p::y::r,hl=>by
  have e:=Oc d (l:=y::r) (λx f=>hl x (by simp[f]));rw[gr];have c:(y::r).reverse≠[]:=by simp
  have b:(y::r).reverse.getLast c=y:=by simp
  generalize(y::r).reverse=L at *;cases L;exact b8 rfl c;rename_i a L;rw[cV];show oN (nG q) a (L++[p])=nG q p y+oN (nG q) y r;rw[VX,b];have:oN (nG q) a L=oN (nG q) y r:=e
  grind[nG,aL4]
theorem aD6{q:bs}:∀ {l:eY},pB q l.reverse=pB q l
 | []=>rfl
 | [p]=>rfl
 |p::y::r=>by
  have d:=aD6 (q:=q) (l:=y::r);rw[gr];have c:(y::r).reverse≠[]:=by simp
  have b:(y::r).reverse.getLast c=y:=by simp
  generalize(y::r).reverse=L at *;cases L;exact b8 rfl c;rename_i a L;rw[cV];show qa q a (L++[p])=(n' p y q||qa q y r);rw[W2,b];have:qa q a L=qa q y r:=d;rw[this,bE1,iJ]
def bT6{q p0:bs}{l:eY}(hl:aa l<=100000)(j:d' q=Y)(o:d' p0=Y)(r:∀p∈l,d' p=Y)(n:Int)(K:Bool->dv Bool) :
  rounds (α:=Int×Bool) (β:=Bool) (λe b=>
   cond (b.1<(aa (p0::l):Int)) (
   a8 (nth (p0::l) (ek (b.1-(1:Int)))) λc=>
   a8 (nth (p0::l) b.1) λd=>
   a8 (EZ (c,d,q)) λh=>
   cond h (
    Z U) (
    cond (d.2<c.2) (
    cond (d.2<=q.2) (
     cond (q.2<c.2) (
     a8 (zh (d,c,q)) λf=>
     cond ((0:Int)<f) (
      e ((ek (b.1+(1:Int))),(!(b.2)))) (
      e ((ek (b.1+(1:Int))),b.2))) (
     e ((ek (b.1+(1:Int))),b.2))) (
     e ((ek (b.1+(1:Int))),b.2))) (
    cond (c.2<=q.2) (
     cond (q.2<d.2) (
     a8 (zh (c,d,q)) λf=>
     cond ((0:Int)<f) (
      e ((ek (b.1+(1:Int))),(!(b.2)))) (
      e ((ek (b.1+(1:Int))),b.2))) (
     e ((ek (b.1+(1:Int))),b.2))) (
     e ((ek (b.1+(1:Int))),b.2))))) (
   K b.2)) ((1:Int),No (n%2=1))=bif pB q (p0::l)then Z U else K (No ((n+pY q (p0::l))%2=1)):=by
 refine vF (A:=bs×Int) l (λi a=>(((i+1:Nat):Int),No (a.2%2=1))) (λa rest=>cond (qa q a.1 rest) (Z U) <|K (No ((a.2+oN (nG q) a.1 rest)%2=1))) (λi a=>(p0::l)[i]?=Z a.1/\d' a.1=Y) (by omega) ?_ ?_ (p0,n) ⟨rfl,o⟩;intro rec a _;simp only[aA,kj,bu,qa,oN,ee];intro rec i a x rest a7 ⟨s,hp⟩ hd m;have k:(p0::l)[i+1]?=Z x:=by rw[aK];exact oU hd
 have g:=r x (aC (hd▸aR ..));have t:ek (((i+1:Nat):Int)-1)=(i:Int):=by grind[fx]
 have u:ek (((i+1:Nat):Int)+1)=((i+1+1:Nat):Int):=f' (n:=2000000) (by omega);simp only[aA,fB (show i+1<aa l+1 by omega),b6,t,u,zB,s,k,bT,bc6 hp g j,QN hp g j,QN g hp j,qa,oN];cases n' a.1 x q with
 |true=>simp only[b6,jQ]
 |false=>
  simp only[bu,cR];have v:=m (x,a.2) ⟨k,g⟩;have w:=m (x,a.2+1) ⟨k,g⟩
  grind[dt,decide_eq_false_iff_not,aq9,nG,yZ,qa,oN,l7,jK]
section
variable {al:gp} {ag:hI} {fs:eD} (h:fp al ag fs)
include h
theorem S4{d:Int}(hd:nY d):CW ((al,ag,fs),d)=Z (xl al ag d):=by grind[an8,CW,Q8,bT,Q7,xl,pathOf,la,decide_eq_false,Ka]
theorem Qb{d:Int}(ha:∃a∈ag,a.1=la d):∃p0 l,xl al ag d=p0::l/\aa l<=65/\d' p0=Y/\(∀p∈l,d' p=Y)/\∃q5 b,pathOf al ag (la d)=Z (q5::b)/\(xl al ag d=q5::b\/xl al ag d=(q5::b).reverse):=by
 let ⟨q5,b,hp,hl,c0,cl⟩:=h.It ha;have f:∀p,mQ p->d' p=Y:=λp hp=>(wH p).2 hp;have hc:xl al ag d=q5::b\/xl al ag d=(q5::b).reverse:=by grind[xl]
 have c:∀q∈xl al ag d,d' q=Y:=λq g=>by grind
 have hlen:aa (xl al ag d)=aa b+1:=by grind
 cases e:xl al ag d<;>grind[xl]
theorem aJ6{m:cu (Int×eY)}(hm:∀a∈ag,fh gd a.1 m=pathOf al ag a.1){c:eD}(hc:aa c<=1000000)(hd:∀d∈c,nY d/\∃a∈ag,a.1=la d){q:bs}(k:d' q=Y) :
  CN ((al,ag,fs),c,q)=Z (nF m c q):=by
 have v:=h.pA;have key:CN ((al,ag,fs),c,q)=Z (No ((∀d∈c,pB q (xl al ag d)=U)/\((0:Int)+dk c λd=>pY q (xl al ag d))%2=1)):=by
  unfold CN;refine vF (A:=Int) c (λi n=>(No (n%2=1),(i:Int))) (λn rest=>Z (No ((∀d∈rest,pB q (xl al ag d)=U)/\(n+dk rest λd=>pY q (xl al ag d))%2=1))) (λ_ _=>True) (by omega) ?_ ?_ 0 trivial;intro rec n _;simp only[kj,bu,dk,ee];congr 1
  grind
  intro rec i n d rest a7 _ g o;let ⟨j,ha⟩:=hd d (aC (g▸aR ..));let ⟨p0,l,hp,hl,n0,nl,_⟩:=Qb h ha;simp only[fB a7,b6,fm g,bT,S4 h j,hp,f' a7];refine(bT6 (by omega) k n0 nl n (λb=>rec (b,((i+1:Nat):Int)))).trans ?_;rw[o _ trivial];cases ho:pB q (p0::l)with
  |true=>grind[decide_eq_false_iff_not]
  |false =>rw[bu];congr 1;apply decide_eq_decide.2;simp only[aG,forall_eq_or_imp,hp,ho,qj,dk,jK]
 rw[key];congr 1;rw[dc,decide_eq_true_iff,FU,iP];have same:∀d∈c,pB q (xl al ag d)=pB q ((fh gd (la d) m).getD [])/\pY q (xl al ag d)=pY q ((fh gd (la d) m).getD []):=λd f=>by
  let ⟨j,a,ha,e⟩:=hd d f;let ⟨p0,l,hp,hl,n0,nl,q5,w,p,r⟩:=Qb h ⟨a,ha,e⟩
  grind[fh,la,aD6,Oc,xl]
 have s:(∀d∈c,pB q (xl al ag d)=U)↔(∀d∈c,pB q ((fh gd (la d) m).getD [])=U) :=⟨λt d f=>by grind,λt d f=>by grind⟩;have u:(dk c λd=>pY q (xl al ag d))=dk c λd=>pY q ((fh gd (la d) m).getD []):=ns λd f=>(same d f).2;rw[s,u]
end
end Dp
open Classical
namespace Dp
section
variable {al:gp} {ag:hI} {fs:eD} (h:fp al ag fs)
include h
theorem X8{r:cu fy}(b:zb al ag ag=Z r){m:cu (Int×eY)}(hm:∀a∈ag,fh gd a.1 m=pathOf al ag a.1){n:b9}(i:n∈al){e:Int}(he:e∈l1 al ag n){C:eD}(j:C∈l9 al ag)(hc:0<l5 al ag C){d:Int}(hd:d∈C)(l:(h.tw b).qX (va al ag d) (va al ag e)):nF m C n.2=U:=by
 cases o:nF m C n.2 with
 |false=>rfl
 |true=>
  exfalso;have f:d' n.2=Y:=rS (h.tt i);have hO:=h.outer b j hc hd;have u:=(h.tO b i he).1;have p:=(h.tO b i he).2.1;have t:=h.OJ b hm j ((FU m _ C).1 o).1;have g:((m8 r).hY (h.j8 b)).L ((h.tw b).mv C) (va al ag e)=1:=by rw[h.Ox b i he λk hk hs=>(h.tw b).Bw (t k hk hs)];exact h.MT b f hm j hc o
  have:=hO.own _ l;rw[g]at this;have s:(h.tw b).c (va al ag e)=C:=by by_cases q:(h.tw b).c (va al ag e)=C;exact q;rw[tk q]at this;cases this
  grind[va]
theorem aF1{r:cu fy}(b:zb al ag ag=Z r){m:cu (Int×eY)}(hm:∀a∈ag,fh gd a.1 m=pathOf al ag a.1){n q:b9}(p:n∈al)(f:q∈al){e s:Int}(he:e∈l1 al ag n)(g:s∈l1 al ag q)(j:(h.tw b).qX (va al ag e) (va al ag s)){C:eD}(i:C∈l9 al ag)(hc:0<l5 al ag C) :
  nF m C n.2=nF m C q.2:=by
 by_cases o:∃d∈C,(h.tw b).qX (va al ag d) (va al ag e);let ⟨d,hd,o⟩:=o;rw[X8 h b hm p he i hc hd o,X8 h b hm f g i hc hd (Net.nK.oc _ o j)];have no:∀d∈C,¬(h.tw b).qX (va al ag d) (va al ag e):=λd hd l=>o ⟨d,hd,l⟩;have t:∀d∈C,¬(h.tw b).qX (va al ag d) (va al ag s):=λd hd l=>o ⟨d,hd,Net.nK.oc _ l (Net.nK.xC _ j)⟩;have o1:=h.Xl b p he hm i no;have o2:=h.Xl b f g hm i t;have nq:=h.OJ b hm i o1;have z2:=h.OJ b hm i o2;have u:=h.MU b (at':=n.2) (rS (h.tt p)) hm i o1;have w:=h.MU b (at':=q.2) (rS (h.tt f)) hm i o2;have l2:=h.Ox b p he (c:=C) λk hk hs=>(h.tw b).Bw (nq k hk hs);have x8:=h.Ox b f g (c:=C) λk hk hs=>(h.tw b).Bw (z2 k hk hs);have g1:=h.tO b p he;have g2:=h.tO b f g;have v:=(h.tw b).Bd ((m8 r).w8 (h.j8 b)) C j g1.1
 grind[va]
theorem NW{n:b9}(b:n∈al){e:Int}(he:e∈l1 al ag n):(xl al ag e)[0]?=Z n.2:=by
 let ⟨a,ha,hc⟩:=(h.zF b).1 he;let ⟨f,t,h1,h2,d,_⟩:=h.path ha;have g:=h.num ha;unfold xl;rcases hc with⟨c,rfl⟩|⟨c,rfl⟩
 rw[show la a.1=a.1 by unfold la;omega,d,cr (by omega)];rw[c,h.vm b]at h1;cases h1;rfl;rw[show la (-a.1)=a.1 by unfold la;omega,d,cc (by omega)];rw[c,h.vm b]at h2;cases h2;simp
theorem Og{m:cu (Int×eY)}(hm:∀a∈ag,fh gd a.1 m=pathOf al ag a.1){D:eD}(g:D∈l9 al ag):∃q,(xl al ag (D.headD 0))[0]?=Z q/\d' q=Y/\d' (rq m D)=Y/\∀C∈l9 al ag,0<l5 al ag C->nF m C q=nF m C (rq m D):=by
 let ⟨r,j⟩:=h.j7;let ⟨d1,yG⟩:=h.Dg g;have hd:D.headD 0∈D:=by cases D;simp at yG;rename_i x l;simp
 have b:=h.zS g hd;let ⟨l,hl,i⟩:=bZ.1 b;obtain⟨t,c,rfl⟩:=aN.1 hl;let ⟨d,k,n,p,e,he,hp,f,o⟩:=h.bi4 j hm g;refine⟨_,NW h c i,rS (h.tt c),f,λC s hc=>?_⟩;rw[hp];refine(aF1 h j hm p c he i ?_ s hc).symm;refine Net.nK.oc _ o (h.VS j g k _ ?_ (h.MY b j));show wh al ag (qw (va al ag (D.headD 0)))=D;rw[h.BD b];exact h.Iu g hd
end
def af0{m:cu (Int×eY)}{p q:bs}{L:cu kI}:∀(r:cu kI) (i b:Nat),(∀x∈r,nF m x.2.1 p=nF m x.2.1 q)->rz m p L r i b=rz m q L r i b
 | [],_,_,_=>rfl
 |x::r,i,b,a=>by unfold rz;rw[a x (by simp)];exact af0 r _ _ λy c=>a y (by simp[c])
def aI6{m:cu (Int×eY)}{p q:bs}{L:cu kI}(a:∀x∈L.tail,nF m x.2.1 p=nF m x.2.1 q):oI m L p=oI m L q:=af0 _ _ _ a
def bX4{m:cu (Int×eY)}{q:bs}{L:cu kI}(hk:oI m L q=0):∀x∈L.tail,nF m x.2.1 q=U:=by
 have:=NF (m:=m) (at':=q) (L:=L) L.tail [] 0 rfl (bw ⟨rfl,by simp⟩);rw[br,show rz m q L L.tail (aa ([]:cu kI)+1) 0=0 from hk]at this;rcases this with⟨_,h2⟩|⟨y,_,h2,_⟩
 exact h2;omega
def m_(al:gp)(ag:hI):cu eD:=(l9 al ag).filter λc=>No (0<l5 al ag c)
def xn(al:gp)(ag:hI):cu eD:=(l9 al ag).filter λc=>!decide (0<l5 al ag c)
def q8(al:gp)(ag:hI)(q:bs):eD:=((m_ al ag).find? λc=>nF (l8 al ag) c q&&(m_ al ag).all λa=>!nF (l8 al ag) a q||No (l5 al ag c<=l5 al ag a)).getD []
def pL(al:gp)(ag:hI)(outs:cu eD):cu kI:=(0,[],[],[])::outs.map λc=>(l5 al ag c,c,[],[])
section
variable {al:gp} {ag:hI} {fs:eD} (h:fp al ag fs)
include h
theorem SC{c:eD}{q:bs}(g:d' q=Y)(hc:c∈m_ al ag)(he:nF (l8 al ag) c q=Y)(hl:∀b∈m_ al ag,nF (l8 al ag) b q=Y->l5 al ag c<=l5 al ag b):q8 al ag q=c:=by
 have hm:∀a∈ag,fh gd a.1 (l8 al ag)=pathOf al ag a.1:=λa ha=>h.D1 ha;unfold q8;have xO:∀x:eD,(nF (l8 al ag) x q&&(m_ al ag).all λb=>!nF (l8 al ag) b q||No (l5 al ag x<=l5 al ag b))=Y↔nF (l8 al ag) x q=Y/\∀b∈m_ al ag,nF (l8 al ag) b q=Y->l5 al ag x<=l5 al ag b:=λx=>by grind[aj,nF,l8]
 cases hf:(m_ al ag).find? λc=>nF (l8 al ag) c q&&(m_ al ag).all λb=>!nF (l8 al ag) b q||No (l5 al ag c<=l5 al ag b)with
 |none=>grind[il,absurd]
 |some x=>
  have i:=bh hf;have d:=eB hf;let ⟨j,k⟩:=(xO x).1 d;rw[bM];refine fV λe=>?_;have f:=aY.1 i;have a2:=aY.1 hc;have:=h.bh6 g hm f.1 a2.1 e (pK f.2) (pK a2.2) j he
  grind
theorem aC5{q:bs}(hl:∀c∈m_ al ag,nF (l8 al ag) c q=U):q8 al ag q=[]:=by grind[q8,il]
theorem aH9{outs:cu eD}(hp:∀c,c∈outs↔c∈m_ al ag){q:bs}(f:d' q=Y):([]::outs)[oI (l8 al ag) (pL al ag outs) q]?=Z (q8 al ag q):=by
 cases hk:oI (l8 al ag) (pL al ag outs) q with
 |zero =>have:=bX4 hk;rw[aC5 h λc hc=>this (l5 al ag c,c,[],[]) (aX ((hp c).2 hc))];rfl
 |succ k=>
  let ⟨y,a,he,hl⟩:=bR7 hk;unfold pL at a;rw[aK,aS]at a;cases hc:outs[k]? with
  |none=>rw[hc]at a;cases a
  |some c =>rw[hc]at a;cases a;rw[aK,hc,SC h f ((hp c).1 (aH hc)) he λb d e=>hl (l5 al ag b,b,[],[]) (aX ((hp b).2 d)) e]
end
end Dp
namespace Dp
theorem as3{a b:Int}(ha:nY a)(c:nY b):∃r,EF (a,b)=Z r:=by unfold EF;simp only[Q8 ha,Q8 c,bT];exact sn ⟨_,rfl⟩ (sn ⟨_,rfl⟩ ⟨_,rfl⟩)
theorem bm8{c:eD}(hl:aa c<=1000000)(hc:c≠[])(hd:∀d∈c,nY d):∃k,C0 c=Z k/\nY k:=by
 cases c;exact b8 rfl hc;rename_i d r;unfold C0;have e:nth (d::r) (0:Int)=Z d:=by rw[show(0:Int)=((0:Nat):Int)by rfl,zB];rfl
 rw[e,bT];refine vB (A:=Int) (d::r) (λi a=>((i:Int),a)) (λo=>∃k,o=Z k/\nY k) (λ_ a=>nY a) (by omega) ?_ ?_ d (hd d (by simp))
 grind
 intro rec i a x rest a7 ha b f;have g:=hd x (aC (b▸aR ..))
 grind[as3,fB,fm,bT,f']
def swap_perm{α:Type}{l:cu α}{j:Nat}{c:α}(hj:0<j)(hl:j<aa l):((l.set j (l[j-1]'(by omega))).set (j-1) c).Perm (l.set j c):=by
 obtain⟨A,x,y,B,e,a⟩:∃A x y B,l=A++x::y::B/\aa A=j-1:=by
  refine⟨l.take (j-1),l[j-1],l[j],l.drop (j+1),?_,by simp;omega⟩
  grind[dJ,bJ]
 subst e;have ex:(A++x::y::B)[j-1]'(by omega)=x:=by simp[List.getElem_append,a]
 rw[ex];have s1:∀z:α,(A++x::y::B).set j z=A++x::z::B:=λz=>by rw[fJ j z (by omega),show j-aa A=1 by omega];rfl
 rw[s1,s1,fJ _ _ (by omega),show j-1-aa A=0 by omega,List.set_cons_zero];exact(List.Perm.swap ..).append_left A
section
variable {al:gp} {ag:hI} {fs:eD} (h:fp al ag fs)
include h
theorem w7{c:eD}(hc:c∈l9 al ag):c≠[]/\aa c<=512/\∀d∈c,nY d/\d≠0/\∃a∈ag,a.1=la d:=h.wK.od c hc
theorem aO6:∃outs,EJ (al,ag,fs)=Z outs/\outs.Perm (m_ al ag):=by
 have E:=h.wK.len;unfold EJ;rw[aq4 h];simp only[bT];have n:∀c∈l9 al ag,∃k,C0 c=Z k/\nY k:=λc hc=>by
  let ⟨c1,c2,Q⟩:=w7 h hc
  grind[bm8]
 have f:∀c∈l9 al ag,xh ((al,ag,fs),c)=Z (l5 al ag c):=λc hc=>by grind[w7,QJ]
 unfold m_;generalize l9 al ag=cs at *;refine vB (A:=cu eD) cs (λi a=>(a,(i:Int))) (λo=>∃outs:cu eD,o=Z outs/\outs.Perm (cs.filter λc=>No (0<l5 al ag c))) (λi a=>a.Perm ((cs.take i).filter λc=>No (0<l5 al ag c))) (by omega) ?_ ?_ [] (by simp)
 grind[bN]
 intro rec i a c rest a7 z hd G;have q:=oU hd;have hc:c∈cs:=aH q;have H:aa a<=i:=by
  have h1:=z.length_eq
  grind[cB,l5,List.length_take_le]
 have B:∀x∈a,x∈cs:=λx I=>ka (aY.1 (z.mem_iff.1 I)).1;have J:(cs.take (i+1)).filter (λc=>No (0<l5 al ag c))=(cs.take i).filter (λc=>No (0<l5 al ag c))++(ite (0<l5 al ag c) [c] []):=by grind[bn,l5]
 simp only[fB a7,b6,fm hd,bT,f c hc,f' a7];by_cases R:0<l5 al ag c;rw[fc (by omega),bu,m9,bT];let ⟨S,r,s⟩:=n c hc;simp only[r,bT];refine V5 (λx=>∃j:Nat,x.2=(j:Int)/\j<=aa a/\aa x.1=aa a+1/\(∀y∈x.1,y∈cs)/\(x.1.set j c).Perm (a++[c])) (·.2.toNat) (λo=>∃outs:cu eD,o=Z outs/\outs.Perm (cs.filter λc=>No (0<l5 al ag c))) ?_ ⟨aa a,rfl,by omega,by simp,?_,?_⟩ (by simp;omega);rintro C ⟨l,jj⟩ ⟨j,e,hj,t,p,hp⟩ K;simp only at e t p hp;subst e;have fin:∀o,o=rec (l.set j c,((i+1:Nat):Int))->∃outs,o=Z outs/\outs.Perm (cs.filter λc=>No (0<l5 al ag c)):=λo ho=>by
  rw[ho];refine G (l.set j c) ?_
  grind
 have M:No (0<=(j:Int))=Y:=hT (by omega);have d:j<aa l:=by omega
 have D:qI l j (λx y=>y) c=Z (l.set j c):=by unfold qI;rw[af d]
 by_cases u:0<j;have g:j-1<aa l:=by omega
 let ⟨k2,v,w⟩:=n _ (p _ (au g));let ⟨b,N⟩:=as3 s w;have O:ek ((j:Int)-1)=((j-1:Nat):Int):=by grind[fx]
 have P:No (0<=((j-1:Nat):Int))=Y:=hT (by omega);simp only[hT (by omega:(0:Int)<(j:Int)),b6,O,M,P,fB g,fB d,bG,bT,aO,af g,ai,v,N];cases b
 grind[bT]
 simp only[b6];have m:qI l j (λx y=>y) l[j-1]=Z (l.set j l[j-1]):=by unfold qI;rw[af d]
 rw[m,bT];refine K _ ⟨j-1,rfl,by omega,by simp;omega,λy hy=>?_,(swap_perm u d).trans hp⟩ (by simp;omega)
 grind[List.mem_or_eq_of_mem_set,au]
 grind[decide_eq_false,fB,bG,bT,aO]
 grind
 grind[fJ,kp]
 grind[decide_eq_true]
theorem BT{c:eD}(hc:c∈m_ al ag):c∈l9 al ag/\0<l5 al ag c:=by
 have:=aY.1 hc
 grind
theorem ax5{outs:cu eD}(ho:∀c∈outs,c∈m_ al ag)(hl:aa outs<=512){q:bs}(r:d' q=Y):AM ((al,ag,fs),outs,q)=Z ((oI (l8 al ag) (pL al ag outs) q:Int)-1):=by
 have hm:∀a∈ag,fh gd a.1 (l8 al ag)=pathOf al ag a.1:=λa ha=>h.D1 ha;have d:∀c∈outs,CN ((al,ag,fs),c,q)=Z (nF (l8 al ag) c q):=λc hc=>by grind[w7,BT,aJ6]
 have k:∀c∈outs,xh ((al,ag,fs),c)=Z (l5 al ag c):=λc hc=>by grind[w7,BT,QJ]
 unfold AM;unfold oI;refine(vF (A:=Nat) outs (λi b=>((i:Int),(b:Int)-1)) (λb rest=>Z (((rz (l8 al ag) q (pL al ag outs) (rest.map λc=>(l5 al ag c,c,[],[])) (aa outs-aa rest+1) b:Nat):Int)-1)) (λi b=>b<=i) (by omega) ?_ ?_ 0 (by omega)).trans ?_
 grind[rz]
 intro rec i b c rest a7 s hd f;have e:=oU hd;have hc:c∈outs:=aH e;have l:=(rl hd).2.1;have m:nth outs (i:Int)=Z c:=fm hd;simp only[fB a7,b6,m,bT,d c hc,f' a7,aD,rz];rw[show aa outs-aa (c::rest)+1=i+1 by grind[aA]];have g:=f (i+1) (by omega);have j:=f b (by omega);rw[show aa outs-aa rest+1=i+1+1 by omega]at g j;rw[show((i+1:Nat):Int)-1=(i:Int)by omega]at g;cases he:nF (l8 al ag) c q with
 |false=>rw[bu,jZ,bu];exact j
 |true=>
  rw[b6,fQ];by_cases n:b=0
  grind[decide_eq_true]
  rw[fc (by omega),bu,fc n,cR];have o:b-1<aa outs:=by omega
  have p:nth outs ((b:Int)-1)=Z outs[b-1]:=by grind[zB,af]
  have t:xd (pL al ag outs) b=l5 al ag outs[b-1]:=by
   unfold xd pL
   grind[aK,af]
  grind[bT,au,l5]
 rw[Nat.sub_self];rfl
end
end Dp
namespace Dp
theorem aL3(al:gp)(ag:hI)(fs:eD)(id:Int)(ha:aa ag<=1000000):HL ((al,ag,fs),id)=Z ((na ag id:Nat):Int):=by
 unfold HL;refine(vF (A:=Nat) ag (λi a=>((i:Int),(a:Int))) (λa rest=>Z (((a+na rest id:Nat)):Int)) (λi a=>a<=2*i) (by omega) ?_ ?_ 0 (by omega)).trans (by simp);intro rec a d;simp[na];intro rec i a x rest a7 d hd c;have e:ek ((a:Int)+1)=((a+1:Nat):Int):=f' (n:=2000000000) (by omega);have f:ek (((a+1:Nat):Int)+1)=((a+1+1:Nat):Int):=f' (n:=2000000000) (by omega);have b:na (x::rest) id=((ite (x.2.1=id) 1 0)+(ite (x.2.2.1=id) 1 0))+na rest id:=rfl;simp only[fB a7,b6,fm hd,bT,f' a7,e,f];by_cases c1:x.2.1=id<;>by_cases c2:x.2.2.1=id;simp only[hT c1,hT c2,b6];rw[c (a+1+1) (by omega),b,cr c1,cr c2];congr 2;omega;simp only[hT c1,fc c2,b6,bu];rw[c (a+1) (by omega),b,cr c1,cc c2];congr 2;omega;simp only[fc c1,hT c2,b6,bu];rw[c (a+1) (by omega),b,cc c1,cr c2];congr 2;omega
 grind[decide_eq_false]
def yO(k:eD->Nat):cu eD->cu kI->cu kI
 | [],L=>L
 |c::r,L=>yO k r (oY L (k c) c)
def xm(k:b9->Nat):gp->cu kI->cu kI
 | [],L=>L
 |n::r,L=>xm k r (p_ L (k n) n.1)
def an1(L:cu kI)(k:Nat)(c:Int)(i:Nat):(p_ L k c)[i]?=(L[i]?).map (λx=>(x.1,x.2.1,x.2.2.1,x.2.2.2++(ite (k=i) [c] []))):=by grind[p_,cU,bB]
theorem at4(L:cu kI)(k:Nat)(c:eD):aa (oY L k c)=aa L:=by grind[oY]
theorem as0(L:cu kI)(k:Nat)(c:Int):aa (p_ L k c)=aa L:=by grind[p_]
def az7(k:eD->Nat):∀(R:cu eD) (L:cu kI) (i:Nat),(yO k R L)[i]?=(L[i]?).map (λx=>(x.1,x.2.1,x.2.2.1++R.filter (λc=>No (k c=i)),x.2.2.2))
 | [],L,i=>by simp[yO]
 |c::R,L,i=>by
  unfold yO;rw[az7 k R,Pd,dQ]
  grind
def ay0(k:b9->Nat):∀(R:gp) (L:cu kI) (i:Nat),(xm k R L)[i]?=(L[i]?).map (λx=>(x.1,x.2.1,x.2.2.1,x.2.2.2++(R.filter (λn=>No (k n=i))).map (·.1)))
 | [],L,i=>by simp[xm]
 |n::R,L,i=>by
  unfold xm;rw[ay0 k R,an1,dQ]
  grind
def rm(al:gp)(ag:hI)(c:eD):cu eD:=(xn al ag).filter λd=>No (q8 al ag (rq (l8 al ag) d)=c)
def r7(ag:hI)(n:b9):Bool:=No (na ag n.1=0)
def wP(al:gp)(ag:hI)(c:eD):eD:=((al.filter (r7 ag)).filter λn=>No (q8 al ag n.2=c)).map λn=>n.1
abbrev uC(al:gp)(ag:hI)(c:eD):kI:=(0,c,rm al ag c,wP al ag c)
section
variable {al:gp} {ag:hI} {fs:eD} (h:fp al ag fs)
include h
theorem bX0:(m_ al ag).Nodup:=h.bg0.filter _
theorem Pc{outs:cu eD}(hp:outs.Perm (m_ al ag)){q:bs}(a:d' q=Y){i:Nat}{c:eD}(a7:([]::outs)[i]?=Z c):(oI (l8 al ag) (pL al ag outs) q=i)↔q8 al ag q=c:=by
 have hf:=aH9 h (outs:=outs) (λc=>hp.mem_iff) a;have b:([]::outs).Nodup:=dq.2 ⟨λhm=>by
  have:=(w7 h (BT h (hp.mem_iff.1 hm)).1).1;exact this rfl,hp.nodup_iff.2 (bX0 h)⟩
 grind[aJ,aq,gY]
theorem aE9:∃outs:cu eD,outs.Perm (m_ al ag)/\EJ (al,ag,fs)=Z outs/\CL (al,ag,fs)=Z (([]::outs).map (uC al ag)):=by
 let ⟨outs,ho,hp⟩:=aO6 h
 refine⟨outs,hp,ho,?_⟩;have hN:=h.qF;have hA:=h.pA;have R:=h.wK.len;have hm:∀a∈ag,fh gd a.1 (l8 al ag)=pathOf al ag a.1:=λa ha=>h.D1 ha;have o:aa outs<=512:=by
  have h1:=hp.length_eq
  grind[cB,l5,l9,m_]
 have p:∀c∈outs,c∈m_ al ag:=λc hc=>hp.mem_iff.1 hc;have j:∀c∈l9 al ag,xh ((al,ag,fs),c)=Z (l5 al ag c):=λc hc=>by grind[w7,QJ]
 have s:∀q,oI (l8 al ag) (pL al ag outs) q<aa outs+1:=λq=>N9 _ _ _ _ _ _ _ (by simp[pL];omega) (by omega);have S:∀D∈l9 al ag,∃d r,D=d::r/\CW ((al,ag,fs),d)=Z (xl al ag d)/\∃q,nth (xl al ag d) (0:Int)=Z q/\AM ((al,ag,fs),outs,q)=Z ((oI (l8 al ag) (pL al ag outs) (rq (l8 al ag) D):Int)-1):=λD z=>by
  let ⟨c1,c2,c3⟩:=w7 h z
  let ⟨q,B,C,_,E⟩:=Og h hm z
  cases D with
  |nil=>exact b8 rfl c1
  |cons d r=>
   refine⟨d,r,rfl,S4 h (c3 d (by simp)).1,q,by rw[show(0:Int)=((0:Nat):Int)by rfl,zB];exact B,?_⟩;rw[show q=q from rfl,ax5 h p o C,aI6];intro x hx;obtain⟨c,hc,rfl⟩:=aN.1 (show x∈outs.map λc=>(l5 al ag c,c,[],[])from hx)
   grind[BT]
 have kN:∀n∈al,AM ((al,ag,fs),outs,n.2)=Z ((oI (l8 al ag) (pL al ag outs) n.2:Int)-1):=λn t=>ax5 h p o (rS (h.tt t));obtain⟨e,u⟩:∃e:eD->Nat,e=λD=>oI (l8 al ag) (pL al ag outs) (rq (l8 al ag) D):=⟨_,rfl⟩;obtain⟨b,k⟩:∃b:b9->Nat,b=λn=>oI (l8 al ag) (pL al ag outs) n.2:=⟨_,rfl⟩;have run:CL (al,ag,fs)=Z (xm b (al.filter (r7 ag)) (yO e (xn al ag) (([]::outs).map λc=>(0,c,[],[])))):=by
  unfold CL;simp only;rw[ho];simp only[bT];refine vF (A:=cu Ct) outs (λi L=>(U,(i:Int),L)) (λ_ _=>Z (xm b (al.filter (r7 ag)) (yO e (xn al ag) (([]::outs).map λc=>(0,c,[],[]))))) (λi L=>L=([]::outs.take i).map (λc=>((0,c,(),()):Ct))) (by omega) ?_ ?_ _ rfl
  .intro rec L O
   rw[bN]at O;simp only[kj,bu];rw[aq4 h];simp only[bT];have v:zs (λx:Ct=>((x.1,x.2.1,([]:cu eD),([]:eD)):kI)) L=Z (([]::outs).map λc=>(0,c,[],[])):=by
    unfold zs;have:No (16*aa L<=tY)=Y:=by grind[aI,aA]
    rw[this,O,de];rfl
   rw[v,bT];generalize G:l9 al ag=cs at *;unfold xn;rw[G];refine vF (A:=cu kI) cs (λi L=>((i:Int),L)) (λL rest=>Z (xm b (al.filter (r7 ag)) (yO e (rest.filter λc=>!decide (0<l5 al ag c)) L))) (λi L=>aa L=aa outs+1/\∀a∈L,aa a.2.2.1<=i/\aa a.2.2.2=0) (by omega) ?_ ?_ _ ⟨by simp,by simp⟩
   .rintro w L ⟨l2,x8⟩
    simp only[kj,bu,List.filter_nil,yO];refine vF (A:=cu kI) al (λi L=>((i:Int),L)) (λL rest=>Z (xm b (rest.filter (r7 ag)) L)) (λi L=>aa L=aa outs+1/\∀a∈L,aa a.2.2.2<=i) (by omega) ?_ ?_ L ⟨l2,λa ha=>by have:=(x8 a ha).2;omega⟩
    .grind[xm]
    rintro P i L n rest a7 ⟨l2,x8⟩ hd H;have t:n∈al:=aC (hd▸aR ..);have E:No (((na ag n.1:Nat):Int)=0)=r7 ag n:=by grind[r7,na]
    simp only[fB a7,b6,fm hd,bT,aL3 al ag fs n.1 (by omega),E,f' a7,fz,kN n t];cases hz:r7 ag n with
    |false=>grind
    |true=>
     rw[b6,cr rfl,xm];have hk:b n<aa L:=by rw[k,l2];exact s _
     have l:oI (l8 al ag) (pL al ag outs) n.2=b n:=by rw[k]
     rw[l];have m:L[b n]?=Z L[b n]:=af hk;have I:=x8 _ (au hk);have r:=H (p_ L (b n) n.1) ⟨by rw[as0];exact l2,λa ha=>by
      obtain⟨J,K,rfl⟩:=bk ha;have g:=an1 L (b n) n.1 J
      grind[af,as0,aJ,au,aL]⟩
     have M:ek ((1:Int)+((b n:Int)-1))=(b n:Int):=by grind[fx]
     have N:(No (0<=(b n:Int))&&No ((b n:Int)<((aa L:Nat):Int)))=Y:=by grind
     generalize L[b n]=y at *;have f:j6 8 y.2.2.2 [n.1]=Z (y.2.2.2++[n.1]):=m9;simp only[M,aO,m,ai,bT,N,b6,uM,f,qI]
     grind[p_]
   rintro w i L c rest a7 ⟨l2,x8⟩ hd H;have hc:c∈cs:=aC (hd▸aR ..);simp only[fB a7,b6,fm hd,bT,j c hc,f' a7,fz];by_cases ht:0<l5 al ag c
   .grind[decide_eq_false,decide_eq_true]
   let ⟨d,r0,ec,ep,q,eq,Q⟩:=S c hc
   have l:oI (l8 al ag) (pL al ag outs) (rq (l8 al ag) c)=e c:=by rw[u]
   rw[l]at Q;have n0:nth c (0:Int)=Z d:=by grind[zB]
   rw[hT (by omega),b6,fc ht,cr (by decide),yO];have hk:e c<aa L:=by rw[u,l2];exact s _
   have m:L[e c]?=Z L[e c]:=af hk;have I:=x8 _ (au hk);have r:=H (oY L (e c) c) ⟨by rw[at4];exact l2,λa ha=>by
    obtain⟨J,K,rfl⟩:=bk ha;have g:=Pd L (e c) c J
    grind[af,at4,aJ,au,aL]⟩
   have M:ek ((1:Int)+((e c:Int)-1))=(e c:Int):=by grind[fx]
   have N:(No (0<=(e c:Int))&&No ((e c:Int)<((aa L:Nat):Int)))=Y:=by grind
   generalize L[e c]=y at *;have f:j6 24 y.2.2.1 [c]=Z (y.2.2.1++[c]):=m9;simp only[n0,ep,eq,Q,bT,M,aO,m,ai,N,b6,uM,f,qI]
   grind[oY]
  grind[fB,fm,bT,f',m9,bn,oU]
 rw[run];congr 1;apply dU;intro i;rw[ay0,az7,aS,aS,dQ,dQ];cases a7:([]::outs)[i]? with
 |none=>rfl
 |some c=>
  simp only[ai,kS,br];unfold uC rm wP;have B:(xn al ag).filter (λc=>No (e c=i))=(xn al ag).filter (λd=>No (q8 al ag (rq (l8 al ag) d)=c)):=iC λD z=>by
   let ⟨_,_,_,E,_⟩:=Og h hm (aY.1 z).1
   grind[Pc]
  have C:(al.filter (r7 ag)).filter (λn=>No (b n=i))=(al.filter (r7 ag)).filter (λn=>No (q8 al ag n.2=c)):=iC λn t=>by rw[k];exact decide_eq_decide.2 (Pc h hp (rS (h.tt (aY.1 t).1)) a7)
  rw[B,C]
end
end Dp
namespace Dp
def R1{l:eD}(x:Int)(hl:aa l<2^62):Ia (l,x)=Z (No (x∈l)):=He x hl
def bd7{l:eD}(x:Int)(hl:aa l<=1000000)(hs:l.Pairwise (·<·)):∃s,H4 (l,x)=Z s/\s.Pairwise (·<·)/\(∀y,y∈s↔y=x\/y∈l)/\aa s<=aa l+1:=by
 unfold H4;simp only[R1 x (by omega:aa l<2^62),bT];by_cases m:x∈l
 grind[decide_eq_true]
 rw[fc m,bu];have put:∀i:Nat,i<=aa l->(∀y∈l.take i,y<x)->(∀y∈l.drop i,x<y)->∃s,(a8 (tx l W (Z (i:Int))) λg=>a8 (j6 8 ([]:eD) g) λa=>a8 (j6 8 a [x]) λb=>a8 (tx l (Z (i:Int)) W) λc=>a8 (j6 8 b c) λd=>Z d)=Z s/\s.Pairwise (·<·)/\(∀y,y∈s↔y=x\/y∈l)/\aa s<=aa l+1:=λi a7 h1 h2=>by
  rw[N0 a7,bT,m9,bT,m9,bT,af1 (by omega) (by omega),bT,m9,bT];refine⟨_,rfl,?_,?_,?_⟩;rw[aO,br]
  grind
  grind[dJ,aO,bz]
  simp;omega
 refine vB (A:=Unit) l (λi _=>(i:Int)) (λo=>∃s:eD,o=Z s/\s.Pairwise (·<·)/\(∀y,y∈s↔y=x\/y∈l)/\aa s<=aa l+1) (λi _=>∀y∈l.take i,y<x) (by omega) ?_ ?_ () (by simp);intro rec _ h;simp only[kj,bu];exact put (aa l) (by omega) h (by simp);intro rec i _ y rest a7 h hd n;simp only[fB a7,b6,fm hd,bT,f' a7];have j:=oU hd;have k:=aH j;by_cases f:y<x;rw[hT f,b6];refine n () λz hz=>?_
 grind[bn]
 rw[fc f,bu];have p:y≠x:=λe=>m (e▸k);have hp:=hs.sublist (List.drop_sublist i l);rw[hd,aU]at hp;refine put i (by omega) h λz hz=>?_
 grind
def nx(ag:hI)(c:eD):Int:=Am ag (c.headD 0)
theorem OE{ag:hI}{k:Nat}:∀ {l:cu kI} {seen out:eD},((oH ag k U l seen out).2=Y↔(∀a∈l,(∀c∈qD a,∀d∈c,Am ag d=nx ag a.2.1)/\nx ag a.2.1≠0/\nx ag a.2.1∉seen)/\(l.map λa=>nx ag a.2.1).Nodup/\aa seen+aa l=k)/\((oH ag k U l seen out).2=Y->(oH ag k U l seen out).1=out++l.map λa=>nx ag a.2.1)
 | [],seen,out=>by simp[oH];omega
 |x::l,seen,out=>by
  have:=@OE ag k l (seen++[nx ag x.2.1]) (out++[nx ag x.2.1]);simp only[oH];change((cond (nx ag x.2.1=0||nx ag x.2.1∈seen) _ <|cond ((qD x).all (λc=>c.all λd=>No (Am ag d=nx ag x.2.1))) (oH ag k U l (seen++[nx ag x.2.1]) (out++[nx ag x.2.1])) _).2=Y↔_)/\((cond (nx ag x.2.1=0||nx ag x.2.1∈seen) _ <|cond ((qD x).all (λc=>c.all λd=>No (Am ag d=nx ag x.2.1))) (oH ag k U l (seen++[nx ag x.2.1]) (out++[nx ag x.2.1])) _).2=Y->(cond (nx ag x.2.1=0||nx ag x.2.1∈seen) _ <|cond ((qD x).all (λc=>c.all λd=>No (Am ag d=nx ag x.2.1))) (oH ag k U l (seen++[nx ag x.2.1]) (out++[nx ag x.2.1])) _).1=_);by_cases h1:nx ag x.2.1=0;simp[h1];by_cases h2:nx ag x.2.1∈seen;simp[h1,h2];cases b:(qD x).all (λc=>c.all λd=>No (Am ag d=nx ag x.2.1))with
  |false=>simp[h1,h2];simp at b;grind
  |true=>
   simp only[h1,h2,n4,jq,bu,b6];simp at b;simp only[aD,dq,aG,aA,aL,aV]at this⊢
   grind
structure CD(al:List b9)(ag:List ct)(fs:List Int):Prop where
 zero:∀D∈rm al ag [],∀d∈D,Am ag d=0
 all:∀c∈m_ al ag,∀D∈c::rm al ag c,∀d∈D,Am ag d=nx ag c
 ne:∀c∈m_ al ag,nx ag c≠0
 j0:((m_ al ag).map (nx ag)).Nodup
 len:aa (m_ al ag)=aa fs
section
variable {al:gp} {ag:hI} {fs:eD} (h:fp al ag fs)
include h
theorem au5:(nP al ag).map sE=([]::m_ al ag).map λc=>(l5 al ag c,c,rm al ag c):=by
 have hm:∀a∈ag,fh gd a.1 (l8 al ag)=pathOf al ag a.1:=λa ha=>h.D1 ha;apply dU;intro i;have b:AW al ag (l9 al ag)=pL al ag (m_ al ag):=rfl;unfold nP sL;rw[aS,aS];have g1:=at3 (al:=al) (ag:=ag) (m:=l8 al ag) al (sw (l8 al ag) (xn al ag) (pL al ag (m_ al ag))) i;rw[aD0 (xn al ag) (pL al ag (m_ al ag)) rfl i,dQ]at g1;have d:(sE:kI->_)=λx=>(x.1,x.2.1,x.2.2.1):=rfl;rw[d,b];refine g1.trans ?_;have e:(pL al ag (m_ al ag))[i]?=(([]::m_ al ag)[i]?).map λc=>(l5 al ag c,c,[],[]):=by cases i;rfl;rename_i i;unfold pL;rw[aK,aK,aS]
 rw[e,dQ];cases a7:([]::m_ al ag)[i]? with
 |none=>rfl
 |some c=>
  simp only[ai,kS,br];unfold rm;congr 3;refine iC λD f=>?_;let ⟨_,_,_,g,_⟩:=Og h hm (aY.1 f).1
  grind[Pc,kp]
theorem RP:∃a l,nP al ag=a::l/\a.2.1=[]/\a.2.2.1=rm al ag []/\l.map sE=(m_ al ag).map λc=>(l5 al ag c,c,rm al ag c):=by
 have b:=au5 h;cases d:nP al ag with
 |nil=>rw[d]at b;cases b
 |cons a l =>rw[d]at b;simp only[aD,cW]at b;exact⟨a,l,rfl,by grind[sE],by grind[sE],b.2⟩
theorem Dt:(oH ag (aa fs) Y (nP al ag) [] []).2=Y↔CD al ag fs:=by
 let ⟨a,l,e,i,j,f⟩:=RP h;have q:∀Q:Int×eD×cu eD->Prop,(∀b∈l,Q (sE b))↔∀c∈m_ al ag,Q (l5 al ag c,c,rm al ag c):=λQ=>by rw[<-kq (P:=Q),f,kq]
 have gb:(l.map λa=>nx ag a.2.1)=(m_ al ag).map (nx ag):=by have:=Ar (cD λx:Int×eD×cu eD=>nx ag x.2.1) f;rw[de,de]at this;exact this
 have g:=Ar aa f;have z:=q λx=>(∀c∈x.2.1::x.2.2,∀d∈c,Am ag d=nx ag x.2.1)/\nx ag x.2.1≠0;have it:=(@OE ag (aa fs) l [] [0]).1;rw[e];simp only[oH,br];rw[gb]at it;simp only[aI,List.not_mem_nil,not_false_eq_true,and_true,cP,Nat.zero_add]at g it;have k:(∀c∈qD a,∀d∈c,Am ag d=0)↔∀D∈rm al ag [],∀d∈D,Am ag d=0:=by simp[qD,i,j]
 cases ha:(qD a).all λc=>c.all λd=>No (Am ag d=0)with
 |false =>simp only[bu];simp at ha;exact⟨λx=>by simp at x,λF=>by have:=k.2 F.zero;grind⟩
 |true =>simp only[aj,kA]at ha;rw[b6,it];refine⟨λ⟨m,n,o⟩=>?_,λF=>⟨?_,F.j0,by rw[g,F.len]⟩⟩;have:=z.1 m;exact⟨k.1 ha,λc hc=>(this c hc).1,λc hc=>(this c hc).2,n,by omega⟩;exact z.2 λc hc=>⟨F.all c hc,F.ne c hc⟩
theorem aM4{a:ct}(ha:a∈ag):(a.2.2.2.2.1=0\/a.2.2.2.2.1∈fs)/\(a.2.2.2.2.2=0\/a.2.2.2.2.2∈fs):=by
 have b:=h.conn
 grind[vP,sC,c_]
theorem aL2(d:Int):Am ag d=0\/Am ag d∈fs:=by
 unfold Am;split;exact .inl rfl;cases ha:px ag (la d)with
 |none=>exact .inl rfl
 |some a=>
  have:=aM4 h (FG ha)
  grind
theorem bi0(F:CD al ag fs)(f:Int):f∈(m_ al ag).map (nx ag)↔f∈fs:=by
 have a:fs.Nodup:=(pq h.E8).imp λh=>by omega
 have sub:∀x∈(m_ al ag).map (nx ag),x∈fs:=λx b=>by
  obtain⟨c,hc,rfl⟩:=aN.1 b;rcases aL2 h (c.headD 0)with e|e
  exact b8 e (F.ne c hc);exact e
 refine⟨sub f,λhf=>?_⟩;exact PF F.j0 sub (by rw[aI,F.len];omega) f hf
end
end Dp
namespace Dp
abbrev ov(al:gp)(ag:hI)(c:eD):kI:=(nx ag c,c,rm al ag c,wP al ag c)
section
variable {al:gp} {ag:hI} {fs:eD} (h:fp al ag fs)
include h
theorem ar7{c D:eD}(a:D∈rm al ag c):aa D<=1000000/\∀d∈D,nY d:=by let ⟨_,c2,b⟩:=w7 h (aY.1 (aY.1 a).1).1;grind[w7]
theorem aF3(c:eD):aa (rm al ag c)<=512:=by
 have h1:=cB (λd=>No (q8 al ag (rq (l8 al ag) d)=c)) (xn al ag);have h2:=cB (λc=>!decide (0<l5 al ag c)) (l9 al ag);have:=h.wK.len
 grind[rm,xn]
end
end Dp
namespace Dp
theorem F_(k:Int):wj k=Z (om k):=BH k
theorem bO8(k:Int):om k=0\/om k=1\/om k=2\/om k=3:=by
 have h:=BH k
 grind[wv,ah]
theorem ba9{l:eD}(x:Int)(hl:aa l<2^62):EW (l,x)=Z (No (x∈l)):=He x hl
noncomputable def DM(f:AL):Int:=cond (om f.2.1=3) f.2.1 0
theorem Oq(S:cu (sI×Bool))(k c:sI):uN (wC sd k Y S) c=(No (c=k)||uN S c):=by
 have eq:∀a b:sI,sd a b=No (a=b):=λa b=>by
  unfold sd
  grind[fC]
 unfold uN
 induction S<;>grind[fh,wC,decide_eq_true,decide_eq_false]
end Dp
open Go.Pg
open fp (l1 ny ki l9)
set_option maxRecDepth 10000
namespace Dp
theorem aF0:∀ {l a:eD} (hl:aa l<=1000000),HZ (l,a)=Z (No (l=a)):=by
 intro l a hl;unfold HZ;by_cases f:aa l=aa a;rw[hT (by omega:(aa l:Int)=(aa a:Int)),ar,bu];refine(mP (A:=Unit) l (λi _=>(i:Int)) (λ_ rest=>Z (No (rest=a.drop (aa l-aa rest)))) (by omega) ?_ ?_ ()).trans (by simp)
 grind[cP,gX,decide_true]
 intro rec i _ x rest a7 hd g;have d:aa rest=aa l-i-1:=by have:=Ar aa hd;simp at this;omega
 have b:i<aa a:=by omega
 have j:nth a (i:Int)=Z a[i]:=by rw[zB,af b]
 rw[show aa l-aa (x::rest)=i by simp[d];omega,bJ b];have c:=g ();rw[show aa l-aa rest=i+1 by omega]at c;simp only[fB a7,b6,fm hd,j,bT,f' a7];by_cases e:x=a[i];rw[hT e,ar,bu,c];congr 1
 grind[kK]
 grind[decide_eq_false,aQ,kK]
 rw[fc (by omega:¬(aa l:Int)=(aa a:Int)),aQ,b6,fc λh=>f (by rw[h])]
def as1{l:eD}(hl:aa l<=1000):∃s,EG l=Z s/\s.Pairwise (·<·)/\(∀y,y∈s↔y∈l)/\aa s<=aa l:=by
 unfold EG;refine vB (A:=eD) l (λi a=>(a,(i:Int))) (λo=>∃s:eD,o=Z s/\s.Pairwise (·<·)/\(∀y,y∈s↔y∈l)/\aa s<=aa l) (λi a=>a.Pairwise (·<·)/\aa a<=i/\∀y,y∈a↔y∈l.take i) (by omega) ?_ ?_ [] ⟨by simp,by simp,by simp⟩
 grind[bN]
 rintro rec i a x rest a7 ⟨h1,h2,c⟩ hd b;let ⟨s,e,g1,g2,g3⟩:=bd7 x (l:=a) (by omega) h1;simp only[fB a7,b6,fm hd,bT,e,f' a7];refine b s ⟨g1,by omega,λy=>?_⟩
 grind[bn,oU]
section
variable {al:gp} {ag:hI} {fs:eD} (h:fp al ag fs)
include h
theorem Pa{c:eD}(hl:aa c<=1000000)(hd:∀d∈c,nY d)(f:Int):zf ((al,ag,fs),c,f)=Z (c.all λd=>No (Am ag d=f)):=by
 unfold zf;refine mP (A:=Unit) c (λi _=>(i:Int)) (λ_ rest=>Z (rest.all λd=>No (Am ag d=f))) (by omega) ?_ ?_ ();intro rec _;simp only[kj,bu,dD];intro rec i _ x rest a7 a b;have e:x∈c:=aC (a▸aR ..);simp only[fB a7,b6,fm a,bT,K0 h (hd x e),f' a7,bE];cases No (Am ag x=f)with
 |true=>simpa using b ()
 |false=>rfl
theorem az0:∃L b,EN (al,ag,fs)=Z (L,b)/\(b=Y↔CD al ag fs):=by
 let ⟨outs,hp,_,Q⟩:=aE9 h;have R:=h.wK.len;have dC:=h.wX;have hpl:aa (m_ al ag)<=512:=Nat.le_trans (cB ..) R;have hol:aa outs<=512:=by rw[hp.length_eq];exact hpl
 have I:∀c∈outs,c∈m_ al ag:=λc hc=>hp.mem_iff.1 hc;have bad:(CD al ag fs->False)->∀L:cu kI,∃L' b,(Z (L,U):dv (cu kI×Bool))=Z (L',b)/\(b=Y↔CD al ag fs):=λhn L=>⟨_,_,rfl,λe=>by(cases e),λF=>(hn F).elim⟩;unfold EN;simp only;rw[Q];simp only[bT];obtain⟨A,P⟩:∃A,A=([]:eD)::outs:=⟨_,rfl⟩;rw[<-P];have hAl:aa A=aa outs+1:=by rw[P];rfl
 refine vB (A:=cu kI×eD) A (λi a=>((i:Int),a.1,a.2)) (λo=>∃L b,o=Z (L,b)/\(b=Y↔CD al ag fs)) (λi a=>a.1=(A.take i).map (ov al ag)++(A.drop i).map (uC al ag)/\a.2=(outs.take (i-1)).map (nx ag)/\a.2.Nodup/\∀c∈A.take i,(c≠[]->nx ag c≠0)/\∀D∈c::rm al ag c,∀d∈D,Am ag d=nx ag c) (by omega) ?_ ?_ (A.map (uC al ag),[]) ⟨by simp,by simp,by simp,by simp⟩;rintro rec ⟨L,S⟩ ⟨E,t,J,u⟩;simp only at E t J u;rw[bN,gX,cM,ba]at E;rw[bN]at u;rw[hAl,iz,bN]at t;subst E t;let ⟨s,hN,g1,g2,g3⟩:=as1 (l:=outs.map (nx ag)) (by simp;omega);simp only[aI]at g3;simp only[aI,kj,bu,hN,bT,aF0 (show aa s<=1000000 by omega)];refine⟨_,_,rfl,λhb=>?_,λF=>hT (QW g1 (pq h.E8) λy=>(g2 y).trans (((hp.map (nx ag)).mem_iff).trans (bi0 h F y)))⟩;have hsf:=pK hb;subst hsf;have K:∀c∈m_ al ag,c∈A:=λc hc=>by grind[bC]
 refine⟨λD g d hd=>?_,λc hc D g d hd=>(u c (K c hc)).2 D g d hd,λc hc=>?_,?_,?_⟩;exact(u [] (by rw[P];simp)).2 D (bC _ g) d hd;exact(u c (K c hc)).1 (w7 h (BT h hc).1).1
 grind[nx]
 have hsn:s.Nodup:=g1.imp λh=>by omega
 have:=((List.perm_ext_iff_of_nodup hsn J).2 g2).length_eq;rw[aI]at this;rw[this,hp.length_eq];rintro rec i ⟨L,S⟩ c rest a7 ⟨E,t,eN,u⟩ hd hr;simp only at E t eN u;have hLl:aa L=aa A:=by rw[E];simp;omega
 have M:=oU hd;have v:L[i]?=Z (uC al ag c):=by grind[List.getElem?_append_right,aI,cQ,dw]
 have m:i<aa L:=by omega
 have J:No (0<=(i:Int))=Y:=hT (by omega);have hin:=aF3 h c;have next:L.set i (ov al ag c)=(A.take (i+1)).map (ov al ag)++(A.drop (i+1)).map (uC al ag):=by grind[fJ,aI,cQ,dw,bn,cz,List.tail,List.tail_drop]
 have told:∀D∈rm al ag c,∀f:Int,zf ((al,ag,fs),D,f)=Z (D.all λd=>No (Am ag d=f)):=λD g f=>Pa h (ar7 h g).1 (ar7 h g).2 f;have more:(c≠[]->nx ag c≠0)->(∀D∈c::rm al ag c,∀d∈D,Am ag d=nx ag c)->∀G∈A.take (i+1),(G≠[]->nx ag G≠0)/\∀D∈G::rm al ag G,∀d∈D,Am ag d=nx ag G:=λfa gb G hc'=>by grind[bn]
 rw[show((L,S):cu kI×eD).1=L from rfl,show((L,S):cu kI×eD).2=S from rfl];simp only[fB m,b6,J,bG,bT,aO,v,ai];by_cases h0:i=0;subst h0;have hc0:c=[]:=by grind[aJ]
 subst hc0;rw[fc (by omega),bu];have s0:zf ((al,ag,fs),(uC al ag []).2.1,(uC al ag []).1)=Z Y:=Pa h (by simp[uC]) (by simp[uC]) _;rw[s0];simp only[bT,ar,bu];refine vB (A:=Unit) (rm al ag []) (λj _=>(j:Int)) (λo=>∃L b,o=Z (L,b)/\(b=Y↔CD al ag fs)) (λj _=>∀D∈(rm al ag []).take j,∀d∈D,Am ag d=0) (by omega) ?_ ?_ () (by simp);intro n _ H;rw[bN]at H;simp only[uC,kj,bu,f' m];refine hr (L,S) ⟨?_,t,eN,more (λq=>b8 rfl q) λD g d w=>?_⟩;rw[<-next];simp only;have:L.set 0 (ov al ag [])=L:=by apply dU;intro k;rw[dx];split;rename_i e;subst e;exact v.symm;rfl
 rw[this];rcases aG.1 g with rfl|g
 simp at w;exact H D g d w;intro n j _ D r2 hj H p B;have g:D∈rm al ag []:=aC (p▸aR ..);simp only[uC,fB hj,b6,fm p,bT,told D g 0,f' hj];cases hs:D.all λd=>No (Am ag d=0)with
 |false=>exact bad (λF=>by have:=F.zero D g;simp at hs;grind) []
 |true=>
  simp only[ar,bu];refine B () λD' hD'=>?_
  grind[bn,oU]
 have hco:c∈outs:=by grind[aK,aH]
 have r:=I c hco;let ⟨q5,nj⟩:=BT h r;let ⟨c1,c2,c3⟩:=w7 h q5;have hS:aa S<=512:=by rw[t];simp;omega
 have nc:nth c (0:Int)=Z (c.headD 0):=by cases c<;>grind[absurd,zB]
 have hhd:nY (c.headD 0):=by cases c<;>grind[absurd]
 have N:qI L i (λx y=>(y,x.2.1,x.2.2.1,x.2.2.2)) (Am ag (c.headD 0))=Z (L.set i (ov al ag c)):=by unfold qI;rw[v];rfl
 have O:(L.set i (ov al ag c))[i]?=Z (ov al ag c):=by rw[dx,cr rfl,cr m]
 have hl2:aa (L.set i (ov al ag c))=aa L:=by simp
 rw[hT (by omega:(0:Int)<(i:Int)),b6];simp only[uC,nc,bT,K0 h hhd];rw[N];have eF:(ov al ag c).1=nx ag c:=rfl;have eO:(ov al ag c).2.1=c:=rfl;have eI:(ov al ag c).2.2.1=rm al ag c:=rfl;simp only[bT,hl2,J,fB m,bG,b6,O,ai,eF,eO,eI,R1 (nx ag c) (by omega:aa S<2^62)];by_cases z:nx ag c=0;rw[hT z];exact bad (·.ne c r z) [];rw[fc z,bu];by_cases C:nx ag c∈S;rw[hT C];refine bad (λF=>?_) [];have hn2:(outs.map (nx ag)).Nodup:=(hp.map _).nodup_iff.2 F.j0;obtain⟨k,rfl⟩:∃k,i=k+1:=⟨i-1,by omega⟩;rw[P,aK]at M;rw[t,iz]at C;have:=hn2.sublist ((List.take_sublist (k+1) outs).map (nx ag));rw[bn,M]at this
 grind[Option.toList,dP]
 rw[fc C,bu,m9];simp only[bT,Pa h (show aa c<=1000000 by omega) (λd hd=>(c3 d hd).1)];cases hsc:c.all λd=>No (Am ag d=nx ag c)with
 |false=>exact bad (λF=>by have:=F.all c r c (by simp);simp at hsc;grind) []
 |true=>
  simp only[ar,bu];refine vB (A:=Unit) (rm al ag c) (λj _=>(j:Int)) (λo=>∃L b,o=Z (L,b)/\(b=Y↔CD al ag fs)) (λj _=>∀D∈(rm al ag c).take j,∀d∈D,Am ag d=nx ag c) (by omega) ?_ ?_ () (by simp);intro n _ H;rw[bN]at H;simp only[kj,bu,f' m];refine hr (L.set i (ov al ag c),S++[nx ag c]) ⟨next,?_,?_,more (λ_=>z) λD g d w=>?_⟩;simp only;obtain⟨k',rfl⟩:∃k',i=k'+1:=⟨i-1,by omega⟩;grind[aK,iz,bn]
  grind[dP]
  grind[aj]
  intro n j _ D r2 hj H p B;have g:D∈rm al ag c:=aC (p▸aR ..);simp only[fB hj,b6,fm p,bT,told D g,f' hj];cases hs:D.all λd=>No (Am ag d=nx ag c)with
  |false=>exact bad (λF=>by have:=F.all c r D (by simp[g]);simp at hs;grind) []
  |true=>
   simp only[ar,bu];refine B () λD' hD'=>?_
   grind[bn,oU]
end
end Dp
namespace Dp
def R4(al:gp)(ag:hI)(fs:eD)(a:aa al<=1000000)(ha:aa ag<=1000000)(hf:aa fs<=1000000):EO (al,ag,fs)=Z (tH al ag fs):=by unfold EO tH;simp only[Sv al ag fs a ha hf,bT];by_cases hp:tJ al ag fs=0;have h:=De.1 hp;rw[hT hp,ar,bu,b6];let ⟨L,b,e,c⟩:=az0 h;rw[e];simp only[bT];have d:(oH ag (aa fs) Y (sL al ag (l8 al ag) (l9 al ag)) [] []).2=b:=dc.2 ((Dt h).trans c.symm);rw[d];cases b<;>rfl;rw[fc hp,aQ,b6,bu]
end Dp
namespace Dp
def S9{l:eD}(hl:aa l<=1000000):Ex l=Z (qM l):=N6 hl
theorem Qi:∀l:eD,xo l=qM l
 | []=>rfl
 | [_]=>rfl
 |a::b::l=>by show(!decide (b<=a)&&xo (b::l))=(No (a<b)&&qM (b::l));rw[Qi (b::l)];by_cases h:b<=a;rw[hT h,fc (by omega:¬a<b)];rfl;rw[fc h,hT (by omega:a<b)];rfl
theorem Tl:∀(l:Au) (p:Int),AZ (Z p) l=(l.any (!qM ·.2.2.2.2)||!qM (p::l.map (·.1)))
 | [],p=>rfl
 |f::l,p=>by show(cond (f.1<=p||!(xo f.2.2.2.2)) Y <|AZ (Z f.1) l)=(((!qM f.2.2.2.2)||l.any (!qM ·.2.2.2.2))||!(No (p<f.1)&&qM (f.1::l.map (·.1))));rw[Tl l f.1,Qi];by_cases h:f.1<=p;rw[hT h,fc (by omega:¬p<f.1)];simp;rw[fc h,hT (by omega:p<f.1)];cases qM f.2.2.2.2<;>simp
def au2(l:Au):AZ W l=(l.any (!qM ·.2.2.2.2)||!qM (l.map (·.1))):=by cases l<;>grind[xo,AZ,qM,Tl,Qi]
def GX{al:gp}{ag:hI}{fs:eD}{l:Au}(hl:aa l<=1000)(k:Int)(kO:AL->Bool)(h:∀f∈l,wi ((al,ag,fs,l),f,k)=Z (kO f)):xk ((al,ag,fs,l),k)=Z (l.any kO):=by
 unfold xk;refine mP (A:=Unit) l (λi _=>(i:Int)) (λ_ rest=>Z (rest.any kO)) (by omega) ?_ ?_ ()
 grind
 intro rec i _ x rest a7 hd a;have b:x∈l:=aC (hd▸aR ..);have hw:wi ((al,ag,fs,l),x,k)=Z (kO x):=h x b;simp only[fB a7,b6,fm hd,bT,hw,f' a7,cx];cases kO x with
 |true=>rfl
 |false=>simpa using a ()
theorem am4{al:gp}{ag:hI}{fs:eD}(h:fp al ag fs){f:AL}(hp:aa f.2.2.2.2<=1000)(b:om f.2.1≠0):Ez ((al,ag,fs),f)=Z (!(f.2.2.2.2.any (uO al ag fs f.2.1))):=by
 have d:=h.qF;have g:=h.pA;have dC:=h.wX;unfold Ez;refine mP (A:=Unit) f.2.2.2.2 (λi _=>(i:Int)) (λ_ rest=>Z (!(rest.any (uO al ag fs f.2.1)))) (by omega) ?_ ?_ ()
 grind[aQ]
 intro rec i _ x rest a7 hd c;have he:HA ((al,ag,fs),om f.2.1,x)=Z (!(uO al ag fs f.2.1 x)):=by
  unfold HA;simp only;unfold uO;rw[KP al ag fs x,Hd al ag fs x (by omega) (λa ha=>by have:=h.q4 ha;omega),ba9 x (by omega)];rcases bO8 f.2.1 with e|e|e|e
  exact b8 e b;rw[e];cases nQ al x<;>rfl;rw[e];cases px ag x<;>rfl;rw[e];cases No (x∈fs)<;>rfl
 simp only[fB a7,b6,fm hd,bT,F_,he,f' a7,cx];cases uO al ag fs f.2.1 x with
 |true=>rfl
 |false=>simpa using c ()
noncomputable def CJ(f g:AL):Bool:=cond (om f.2.1=2) U <|cond (!decide (om f.2.1=om g.2.1)) U <|cond (om f.2.1=3&&!decide (f.2.1=g.2.1)) U <|f.2.2.2.2.any λp=>No (p∈g.2.2.2.2)
noncomputable def Et:Au->Au->Bool
 |_,[]=>U
 |pre,f::rest=>pre.any (CJ f ·)||Et (pre++[f]) rest
def aA1{f g:AL}(hf:aa f.2.2.2.2<=1000)(h:aa g.2.2.2.2<=1000):EL (f,g)=Z (CJ f g):=by
 have loop:rounds (α:=Int) (β:=Bool) (λd a=>
   cond (a<(aa (f.2.2.2.2):Int)) (
    a8 (nth f.2.2.2.2 a) λb=>
    a8 (EW (g.2.2.2.2,b)) λc=>
    cond c (
    Z Y) (
    d (ek (a+(1:Int))))) (
    Z U)) (0:Int)=Z (f.2.2.2.2.any λp=>No (p∈g.2.2.2.2)):=by
  refine mP (A:=Unit) f.2.2.2.2 (λi _=>(i:Int)) (λ_ rest=>Z (rest.any λp=>No (p∈g.2.2.2.2))) (by omega) ?_ ?_ ()
  grind
  intro rec i _ x rest a7 hd e;simp only[fB a7,b6,fm hd,bT,ba9 x (by omega:aa g.2.2.2.2<2^62),f' a7,cx];cases No (x∈g.2.2.2.2)with
  |true=>rfl
  |false=>simpa using e ()
 grind[EL,CJ,F_,bT,om]
def aE2{al:gp}{ag:hI}{fs:eD}{l:Au}(hl:aa l<=1000)(hp:∀f∈l,aa f.2.2.2.2<=1000):H8 (al,ag,fs,l)=Z (Et [] l):=by
 unfold H8;refine(mP (A:=Unit) l (λi _=>(i:Int)) (λ_ rest=>Z (Et (l.take (aa l-aa rest)) rest)) (by omega) ?_ ?_ ()).trans (by simp);intro rec _;simp only[kj,bu];rfl;intro rec i _ f rest a7 hd n;have a:=oU hd;have hf:f∈l:=aH a;have hlen:aa rest=aa l-i-1:=by have:=Ar aa hd;simp at this;omega
 have b:nth l (i:Int)=Z f:=fm hd;have c:=n ();rw[show aa l-aa rest=i+1 by omega,Sn hd]at c;rw[show aa l-aa (f::rest)=i by simp[hlen];omega,fB a7,b6];show _=Z ((l.take i).any (CJ f ·)||Et (l.take i++[f]) rest);refine mP (A:=Unit) (l.take i) (λk _=>(k:Int)) (λ_ r=>Z (r.any (CJ f ·)||Et (l.take i++[f]) rest)) (by simp;omega) ?_ ?_ ()
 grind[cQ,dw,f']
 intro m k _ g o hk sX d;rw[cQ,dw (by omega)]at hk;have e:=oU sX;rw[eH hk]at e;have h:g∈l:=aH e;have j:nth l (k:Int)=Z g:=by rw[zB];exact e
 have hc:EL (f,g)=Z (CJ f g):=aA1 (hp f hf) (hp g h);simp only[fB hk,b6,b,j,bT,hc,f' hk,cx];cases CJ f g with
 |true=>rfl
 |false=>simpa using d ()
def Sc:∀(l pre:Au),Et pre l=U↔(∀g∈pre,∀f∈l,CJ f g=U)/\l.Pairwise (λg f=>CJ f g=U)
 | [],pre=>by simp[Et]
 |f::l,pre=>by
  simp only[Et,dM,Sc l,aU,c_,aG,aV]
  grind
theorem RQ(k:Int):∀ {ps:eD} {S:cu (sI×Bool)},ps.Nodup->match xP k ps S with
  |none=>∃p∈ps,uN S (k,p)=Y
  |some b=>(∀p∈ps,uN S (k,p)=U)/\∀q:sI,uN b q=Y↔(q.1=k/\q.2∈ps)\/uN S q=Y
 | [],S,_=>by simp[xP]
 |p::ps,S,a=>by
  rw[dq]at a;have c:=RQ k (S:=wC sd (k,p) Y S) a.2
  grind[xP,uN,wC,Oq]
theorem Wr{f g:AL}(a:om f.2.1≠0)(b:om g.2.1≠0):CJ f g=U↔(om g.2.1≠2->om f.2.1≠2->DM g=DM f->∀p∈g.2.2.2.2,p∉f.2.2.2.2):=by grind[om,BH,wv,CJ,DM,bO8]
def RO:∀ {l:Au} {S:cu (sI×Bool)},(∀f∈l,om f.2.1≠0/\f.2.2.2.2.Nodup)->(xN l S=U↔(∀f∈l,om f.2.1≠2->∀p∈f.2.2.2.2,uN S (DM f,p)=U)/\l.Pairwise (λg f=>CJ f g=U))
 | [],S,_=>by simp[xN]
 |g::l,S,a=>by
  have b:=a g (by simp);have c:=λS=>RO (l:=l) (S:=S) λf hf=>a f (by simp[hf])
  grind[Wr,xN,om,decide_eq_true,aU,decide_eq_false,RQ,DM,xP]
end Dp
namespace Dp
def ar9{al:gp}{ag:hI}{fs:eD}(h:tH al ag fs=0):fp al ag fs:=by unfold tH at h;by_cases hp:tJ al ag fs=0;exact De.1 hp;rw[fc hp,bu]at h;exact b8 h hp
def az3(al:gp)(ag:hI)(fs:eD)(l:Au)(j:aa al<=1000000)(ha:aa ag<=1000000)(hf:aa fs<=1000000)(hl:aa l<=1000)(hp:∀f∈l,aa f.2.2.2.2<=1000):HU (al,ag,fs,l)=Z (pD al ag fs l):=by
 unfold HU pD;simp only;rw[R4 al ag fs j ha hf,au2];simp only[bT];by_cases c:tH al ag fs=0;have h:=ar9 c;rw[hT c,ar,bu,bu];by_cases b:(128:Int)<(aa l:Int);rw[hT b];rfl;rw[fc b,bu,bu];refine vF (A:=eD) l (λi a=>(a,(i:Int))) (λ_ _=>Z _) (λi a=>a=(l.take i).map (·.1)) (by omega) ?_ ?_ [] rfl;intro rec a ha;rw[bN]at ha;subst ha;simp only[kj,bu];have k:xk ((al,ag,fs,l),3)=Z (l.any q5):=GX hl 3 q5 λf hf=>by unfold wi q5;rw[show No (((3:Int))=3)=Y from rfl,b6]
 have d:xk ((al,ag,fs,l),10)=Z (l.any λf=>!qM f.2.2.2.2):=GX hl 10 _ λf hf=>by unfold wi;rw[show No (((10:Int))=3)=U from rfl,bu,show No (((10:Int))=10)=Y from rfl,b6];simp only;rw[S9 (by have:=hp f hf;omega)];rfl
 have m:xk ((al,ag,fs,l),2)=Z (l.any nj):=GX hl 2 nj λf hf=>by unfold wi nj;rw[show No (((2:Int))=3)=U from rfl,bu,show No (((2:Int))=10)=U from rfl,bu,show No (((2:Int))=2)=Y from rfl,b6];simp only;cases No (f.1<1)<;>cases No (1073741824<f.1)<;>cases No (f.2.2.1<1)<;>rfl
 have K8:xk ((al,ag,fs,l),9)=Z (l.any rM):=GX hl 9 rM λf hf=>by unfold wi rM;rw[show No (((9:Int))=3)=U from rfl,bu,show No (((9:Int))=10)=U from rfl,bu,show No (((9:Int))=2)=U from rfl,bu,show No (((9:Int))=9)=Y from rfl,b6];simp only;rw[F_,bT]
 have g:xk ((al,ag,fs,l),14)=Z (l.any s_):=GX hl 14 s_ λf hf=>by
  unfold wi s_;rw[show No (((14:Int))=3)=U from rfl,bu,show No (((14:Int))=10)=U from rfl,bu,show No (((14:Int))=2)=U from rfl,bu,show No (((14:Int))=9)=U from rfl,bu,show No (((14:Int))=14)=Y from rfl,b6];simp only;cases !(f.2.2.2.1.toList==(bU #[]).toList)with
  |false=>rfl
  |true =>let ⟨_,e,h1,h2⟩:=aB8 f.2.2.2.1;rw[b6,b6,h1,bT,h2]
 have n:xk ((al,ag,fs,l),1)=Z (l.any xY):=GX hl 1 xY λf hf=>by unfold wi xY;rw[show No (((1:Int))=3)=U from rfl,bu,show No (((1:Int))=10)=U from rfl,bu,show No (((1:Int))=2)=U from rfl,bu,show No (((1:Int))=9)=U from rfl,bu,show No (((1:Int))=14)=U from rfl,bu,show No (((1:Int))=1)=Y from rfl,b6];simp only;simp only[F_,bT];cases No ((aa f.2.2.2.2:Int)=0)<;>cases No (om f.2.1=1)<;>rfl
 rw[k,d,S9 (by simp;omega),m,K8,g,n];simp only[bT];cases l.any q5 with
 |true=>rfl
 |false=>
  cases hd:l.any λf=>!qM f.2.2.2.2 with
  |true=>rfl
  |false=>
   cases qM (l.map (·.1))with
   |false=>rfl
   |true=>
    cases l.any nj with
    |true=>rfl
    |false=>
     cases o:l.any rM with
     |true=>rfl
     |false=>
      cases l.any s_ with
      |true=>rfl
      |false=>
       cases l.any xY with
       |true=>rfl
       |false=>
        have hs:∀f∈l,om f.2.1≠0:=λf hf e=>by have:=c_.1 o f hf;unfold rM at this;exact this (hT e)
        have p:xk ((al,ag,fs,l),7)=Z (l.any λf=>f.2.2.2.2.any (uO al ag fs f.2.1)):=GX hl 7 _ λf hf=>by unfold wi;rw[show No (((7:Int))=3)=U from rfl,bu,show No (((7:Int))=10)=U from rfl,bu,show No (((7:Int))=2)=U from rfl,bu,show No (((7:Int))=9)=U from rfl,bu,show No (((7:Int))=14)=U from rfl,bu,show No (((7:Int))=1)=U from rfl,bu];rw[show Ez ((al,ag,fs),f.1,f.2.1,f.2.2.1,f.2.2.2.1,f.2.2.2.2)=_ from am4 h (f:=f) (hp f hf) (hs f hf),bT,Bool.not_not]
        rw[p,aE2 hl hp];simp only[bT,ar,bu,jq];cases l.any λf=>f.2.2.2.2.any (uO al ag fs f.2.1)with
        |true=>rfl
        |false=>
         have r:Et [] l=xN l []:=by
          have h1:=Sc l [];have h2:=RO (l:=l) (S:=[]) λf hf=>⟨hs f hf,(pq (by simpa using c_.1 hd f hf)).imp λh=>by omega⟩;have s:∀q,uN [] q=U:=λ_=>rfl
          grind
         rw[r];simp only[bu];cases xN l []<;>rfl
 intro rec i a x rest a7 ha hd c;simp only[fB a7,b6,fm hd,bT,f' a7];rw[m9 (by decide) (by rw[ha];simp;omega),bT];refine c _ ?_;rw[ha,bn,oU hd];simp;rw[fc c,aQ,b6,b6]
end Dp
namespace Dp
theorem H3{a b:Int}(ha:0<=a):a.tmod b=a%b:=jt ha
theorem aA8{a b:Int}(ha:0<=a)(c:0<b):bS a.toNat b.toNat=bS b.toNat (a%b).toNat:=by
 obtain⟨x,rfl⟩:∃x:Nat,a=(x:Int):=⟨a.toNat,by omega⟩
 grind[aO,Nat.gcd_comm,Nat.gcd_rec]
def Rr{a b:Int}(ha:0<=a)(e:0<=b)(d:b<=18446744073709551615):DW (a,b)=Z ((bS a.toNat b.toNat:Nat):Int):=by
 unfold DW;refine bI2 (λx:Int×Int=>0<=x.1/\0<=x.2/\x.2<=18446744073709551615) (·.2.toNat) (λx o=>o=Z ((bS x.1.toNat x.2.toNat:Nat):Int)) ?_ (x:=(a,b)) ⟨ha,e,d⟩ (by simp only;omega);rintro rec ⟨a,b⟩ ⟨i1,i2,i3⟩ f;simp only at i1 i2 i3⊢;by_cases c:0<b;have m1:=df a (show b≠0 by omega);have m2:=cX a c
 grind[decide_eq_true,decide_eq_false,bT,H3,aA8]
 rw[fc c,bu,show b=0 by omega]
 grind[bS,Nat.gcd_zero_right]
def aL0(n k:Nat):n &&& 2^k=(n.testBit k).toNat*2^k:=by
 apply Nat.eq_of_testBit_eq
 grind[decide_eq_false]
def aO9{c:Int}{k:Nat}(a:0<=c)(h1:c<=9223372036854775807)(hk:k<63):No (ek (aW du.bits c &&& aW du.bits ((2^k:Nat):Int)).toNat=(0:Int))=No (c / ((2^k:Nat):Int)%2=0):=by
 obtain⟨n,rfl⟩:∃n:Nat,c=(n:Int):=⟨c.toNat,by omega⟩;have hp:2^k<9223372036854775808:=Nat.pow_lt_pow_right (by decide) hk;have p:0<2^k:=lH k;have e:(aW du.bits (n:Int) &&& aW du.bits ((2^k:Nat):Int)).toNat=(n.testBit k).toNat*2^k:=by show(aW 64 (n:Int) &&& aW 64 ((2^k:Nat):Int)).toNat=_;rw[BitVec.toNat_and,eW,eW,show(((2^k:Nat):Int)%((2^64:Nat):Int)).toNat=2^k by omega,show((n:Int)%((2^64:Nat):Int)).toNat=n by omega,aL0]
 grind[Int.natCast_emod,Int.natCast_ediv,eZ,fx,decide_true,decide_eq_false]
def aK3{c n:Int}(hc:0<=c)(B:c<=35184372088832)(R:1<=n)(C:n<=35184372088832)(S:c*c<=n*35184372088832):Hx (c,n)=Z (c*c / n):=by
 unfold Hx;have step:∀ {q r m s w:Int},q*n+r=m*c->0<=r->r<n->0<=q->q<=35184372088832->0<=s->s<=n->2*m*c+s=w->2*q+(2*r+s) / n=w / n/\(2*r+s)%n=w%n:=by
  intro q r m s w h1 h2 h3 h4 h5 h6 h7 D;have e:w=(2*r+s)+n*(2*q):=by rw[<-D,show 2*m*c=2*(m*c)by grind,<-h1];grind
  rw[e,ke _ _ (by omega),ju];omega
 have mlt:∀ {m:Int},0<=m->m<=c->0<=m*c / n/\m*c / n<=35184372088832:=λ{m} E h1=>by have a:=aM h1 hc;have b:m*c / n<35184372088833:=cm (by omega) (by omega);exact⟨bH (aB E hc) (by omega),by omega⟩
 have o:c / ((2^47:Nat):Int)=0:=by
  have:((2^47:Nat):Int)=140737488355328:=by decide
  exact Int.ediv_eq_zero_of_lt hc (by omega)
 have P9:((0:Int),(0:Int),(70368744177664:Int))=(c / ((2^(47-0):Nat):Int)*c / n,c / ((2^(47-0):Nat):Int)*c%n,ite (0=47) 0 ((2^(46-0):Nat):Int)):=by simp only[ml];rw[o,Int.zero_mul,Int.zero_ediv,Int.zero_emod];rfl
 rw[P9];refine vF (A:=Unit) (aT 47) (λj _=>(c / ((2^(47-j):Nat):Int)*c / n,c / ((2^(47-j):Nat):Int)*c%n,ite (j=47) 0 ((2^(46-j):Nat):Int))) (λ_ _=>Z (c*c / n)) (λ_ _=>True) (by decide) ?_ ?_ () trivial;intro rec _ _;rw[dO,cr rfl];show Z (c / ((2^0:Nat):Int)*c / n)=_;rw[show((2^0:Nat):Int)=1 by rfl,Int.ediv_one];intro rec j _ y rest hj _ _ G;rw[dO]at hj;rw[cc (by omega)];have pk:0<2^(46-j):=lH _;have H:((2^(47-j):Nat):Int)=((2^(46-j):Nat):Int)*2:=by rw[show 47-j=(46-j)+1 by omega,mq,cY];rfl
 have f:=G () trivial;rw[show 47-(j+1)=46-j by omega]at f;have d:(((2^(46-j):Nat):Int)).tdiv 2=if j+1=47 then 0 else((2^(46-(j+1)):Nat):Int):=by rw[B2];by_cases e:j+1=47;rw[cr e,show 46-j=0 by omega];rfl;rw[cc e,show 46-j=(46-(j+1))+1 by omega,mq];omega
 have I:(0:Int)<=((2^(46-(j+1)):Nat):Int):=Int.natCast_nonneg _;have J:2^(46-j)<=2^46:=Nat.pow_le_pow_right (by decide) (by omega);have h:c / ((2^(46-j):Nat):Int)=2*(c / ((2^(47-j):Nat):Int))+c / ((2^(46-j):Nat):Int)%2:=by
  have g:c / (((2^(46-j):Nat):Int)*2)=c / ((2^(46-j):Nat):Int) / 2:=by rw[Int.ediv_ediv,cc (by omega)];omega
  rw[H,g];omega
 have p:0<=c / ((2^(46-j):Nat):Int):=bH hc (by omega);have t:c / ((2^(46-j):Nat):Int)<=c:=fg _ hc;have Nc:0<=c / ((2^(47-j):Nat):Int):=bH hc (by omega);have i:=aO9 (k:=46-j) hc (by omega) (by omega);generalize K:c / ((2^(46-j):Nat):Int)=m at *;generalize N:c / ((2^(47-j):Nat):Int)=M at *;let ⟨qN,fa⟩:=mlt Nc (by omega);let ⟨t0,t1⟩:=mlt p t;have O:=df (M*c) (show n≠0 by omega);have P:=cX (M*c) (show 0<n by omega);have u:M*c / n*n+M*c%n=M*c:=by have:=dg (M*c) n;rw[cT n]at this;exact this
 have tX:0<=c / n:=bH hc (by omega);have yG:c / n<=c:=fg _ hc;have f0:=df c (show n≠0 by omega);have f1:=cX c (show 0<n by omega);have Q:=dg c n;simp only;rw[hT (by omega:(0:Int)<((2^(46-j):Nat):Int)),b6,fx (n:=2*(M*c / n)),fx (n:=2*(M*c%n))];simp only[bT,i];rw[fc (by omega:¬n=0),fc (by decide:¬(2:Int)=0),d];simp only[bu,bT];rw[fx (n:=ite (j+1=47) 0 ((2^(46-(j+1)):Nat):Int)) (by split<;>omega) (by rw[<-d,B2];omega)];by_cases v:m%2=0;rw[hT v,ar,bu,B2,H3 (by omega)];let ⟨g,l⟩:=step (s:=0) (w:=m*c) u O P qN fa (by omega) (by omega) (by rw[h,v];grind);rw[ee]at g l;have z0:0<=2*(M*c%n) / n:=bH (by omega) (by omega);rw[fx (n:=2*(M*c%n) / n),fx (n:=2*(M*c / n)+2*(M*c%n) / n),g,l];exact f;have x:m%2=1:=by omega
 rw[fc v,aQ,b6,B2 hc,H3 hc,fx (n:=c / n),fx (n:=2*(M*c%n)+c%n),B2,H3 (by omega)];have e0:2*M*c+c=m*c:=by rw[h,x];grind
 have z0:0<=(2*(M*c%n)+c%n) / n:=bH (by omega) (by omega);have z:m*c=(2*(M*c%n)+c%n)+n*(2*(M*c / n)+c / n):=by grind
 have g:2*(M*c / n)+c / n+(2*(M*c%n)+c%n) / n=m*c / n:=by
  conv=>rhs;rw[z]
  rw[ke _ _ (by omega)];omega
 have l:(2*(M*c%n)+c%n)%n=m*c%n:=by
  conv=>rhs;rw[z]
  rw[ju]
 rw[fx (n:=(2*(M*c%n)+c%n) / n),fx (n:=2*(M*c / n)+c / n),fx (n:=2*(M*c / n)+c / n+(2*(M*c%n)+c%n) / n),g,l];exact f
end Dp
namespace Dp
theorem Q_{x:Int}(a:0<=x)(h1:x<=9223372036854775807):DP x=Z x:=by grind[DP,decide_eq_false,G3]
def TD{m d:Int}(hm:0<=m)(a:m<=9223372036854775807)(hd:1<=d)(sX:d<=9223372036854775807):J_ (m,d)=Z (m / d,0):=by
 have b:0<=m / d:=bH hm (by omega);have h1:m / d<=m:=fg _ hm;have hp:NT (m,d)=Z (m / d,m%d,U):=by
  unfold NT
  grind[Q_,bT,decide_eq_false,B2,H3,G3]
 grind[J_,decide_eq_false,bT,Ji,fx]
def aP9{c n:Int}(hc:0<c)(J:0<n):∃g o x h d y:Int,0<g/\0<o/\0<x/\0<h/\0<d/\0<y/\((bS c.toNat n.toNat:Nat):Int)=g/\n / g=o/\o<=n/\c / g=x/\x<=c/\((bS c.toNat o.toNat:Nat):Int)=h/\o / h=d/\d<=n/\c / h=y/\y<=c/\bS (x*y).toNat d.toNat=1/\∀G:Int,x*y<G*d↔c*c<G*n:=by
 obtain⟨C,rfl⟩:∃C:Nat,c=(C:Int):=⟨c.toNat,by omega⟩;obtain⟨N,rfl⟩:∃N:Nat,n=(N:Int):=⟨n.toNat,by omega⟩;have w:0<C:=by omega
 have K:0<N:=by omega
 have l:0<bS C N:=jM _ w;let ⟨X,p⟩:=lr C N;let ⟨f,i⟩:=lf C N;have t:bS X f=1:=by have:=lu (bS C N) X f;rw[<-p,<-i]at this;exact(jC l (by omega:bS C N*1=bS C N*bS X f)).symm
 have z:0<f:=by grind[gh]
 have M:0<X:=by grind[gh]
 have hp:0<bS C f:=jM _ w;let ⟨j,r⟩:=lr C f;let ⟨D,m⟩:=lf C f;have u:bS j D=1:=by have:=lu (bS C f) j D;rw[<-r,<-m]at this;exact(jC hp (by omega:bS C f*1=bS C f*bS j D)).symm
 have O:0<D:=by grind[gh]
 have P:0<j:=by grind[gh]
 have v:bS X D=1:=mE ⟨bS C f,by rw[Nat.mul_comm];exact m⟩ t;have co:bS (X*j) D=1:=mF v u;have le:∀ {a b k:Nat},0<k->a=k*b->b<=a:=λ{a b k} h e=>by rw[e];exact Nat.le_mul_of_pos_left _ h
 have fa:f<=N:=le l i;have gb:X<=C:=le l p;have kc:D<=f:=le hp m;have yF:j<=C:=le hp r;have s:∀ {a b k:Nat},0<k->a=k*b->(a:Int) / (k:Int)=(b:Int):=λ{a b k} h e=>by rw[e,cY,Int.mul_ediv_cancel_left _ (by omega)]
 generalize B:bS C N=g at l p i;generalize E:bS C f=h at hp r m;refine⟨(g:Int),(f:Int),(X:Int),(h:Int),(D:Int),(j:Int),by omega,by omega,by omega,by omega,by omega,by omega,?_,s l i,by omega,s l p,by omega,?_,s hp m,by omega,s hp r,by omega,?_,λG=>?_⟩;rw[aO,aO,B];rw[aO,aO,E];rw[<-cY,aO,aO];exact co;have H:(C:Int)*(C:Int)=((g*h:Nat):Int)*((X:Int)*(j:Int)):=by
  have a:(C:Int)=(g:Int)*(X:Int):=by rw[p,cY]
  have b:(C:Int)=(h:Int)*(j:Int):=by rw[r,cY]
  grind[cY]
 have I:G*(N:Int)=((g*h:Nat):Int)*(G*(D:Int)):=by
  have a:(N:Int)=(g:Int)*((h:Int)*(D:Int)):=by rw[i,cY,m,cY]
  rw[a,cY];grind
 have pp:0<((g*h:Nat):Int):=by have:=Nat.mul_pos l hp;omega
 rw[H,I];exact⟨λq=>Int.mul_lt_mul_of_pos_left q pp,λq=>Int.lt_of_mul_lt_mul_left q (by omega)⟩
def Ub{a b p:bs}(ha:d' a=Y)(j:d' b=Y)(hp:d' p=Y):∃m d:Int,F1 (a,b,p)=Z (m,d)/\0<=m/\m<=9223372036854775807/\1<=d/\d<=9223372036854775807/\bS m.toNat d.toNat=1/\∀G,m<G*d↔Ba a b p G:=by
 let ⟨_,s2,K⟩:=Gr ha j;let ⟨_,s5,s6⟩:=Gr ha hp;let ⟨_,s8,s9⟩:=Gr j hp;have g1:∀n:Nat,bS n 1=1:=Nat.gcd_one_right;have M:CV [(a.1,a.2),(b.1,b.2),(p.1,p.2)]=Z Y:=by grind[LL]
 have d1:Ic ((a.1,a.2),(b.1,b.2),(a.1,a.2),(b.1,b.2))=Z (sl a b):=bg8 ha j ha j;have d2:Ic ((a.1,a.2),(b.1,b.2),(a.1,a.2),(p.1,p.2))=Z (A4 a b p):=bg8 ha j ha hp;have d3:Ic ((a.1,a.2),(p.1,p.2),(a.1,a.2),(p.1,p.2))=Z (sl a p):=bg8 ha hp ha hp;have d4:Ic ((b.1,b.2),(p.1,p.2),(b.1,b.2),(p.1,p.2))=Z (sl b p):=bg8 j hp j hp;have d5:we ((a.1,a.2),(b.1,b.2),(a.1,a.2),(p.1,p.2))=Z (fr a b p):=(yK ha j ha hp).1;unfold F1;simp only[bT];rw[M,d1,d2,d3,d4,d5];simp only[bT,ar,bu];unfold Ba;by_cases c1:A4 a b p<=0
 grind[decide_eq_true]
 rw[fc c1,bu];by_cases c2:sl a b<=A4 a b p
 grind[decide_eq_true]
 rw[fc c2,bu];have H:1<=sl a b:=by omega
 have ht:=aF7 ha j hp;have N:=T4 ha hp H;have zero:fr a b p=0->∃m d:Int,(Z ((0:Int),(1:Int)):dv bs)=Z (m,d)/\0<=m/\m<=9223372036854775807/\1<=d/\d<=9223372036854775807/\bS m.toNat d.toNat=1/\∀G,m<G*d↔if A4 a b p<=0 then sl a p<G else ite (sl a b<=A4 a b p) (sl b p<G) <|fr a b p*fr a b p<G*sl a b:=λz=>by
  refine⟨_,_,rfl,by omega,by omega,by omega,by omega,g1 _,λG=>?_⟩;rw[cc c1,cc c2,z,Int.mul_one,dV];exact⟨λh=>bR h (by omega),λh=>by
   rcases(by omega:0<G\/G<=0)with q|q
   exact q;have:=Int.mul_nonpos_of_nonpos_of_nonneg q (show 0<=sl a b by omega);omega⟩
 have main:∀c:Int,0<c->c<=35184372088832->c*c=fr a b p*fr a b p->∃m d:Int,
   (a8 (DW (c,sl a b)) λe=>
    a8 ((cond (e=0) W <|some (ek ((sl a b).tdiv e)))) λl=>
    a8 (DW (c,l)) λf=>
    a8 ((cond (e=0) W <|some (ek (c.tdiv e)))) λk=>
    a8 ((cond (f=0) W <|some (ek (c.tdiv f)))) λi=>
    a8 ((cond (e=0) W <|some (ek ((sl a b).tdiv e)))) λr=>
    a8 ((cond (f=0) W <|some (ek (r.tdiv f)))) λs=>
    a8 ((cond (i=0) W <|some (ek ((9223372036854775807:Int).tdiv i)))) λt=>
    cond (t<k) (
    a8 (Hx (c,sl a b)) λu=>
    Z (u,(1:Int))) (
    Z ((ek (k*i)),s)))=Z (m,d)/\0<=m/\m<=9223372036854775807/\1<=d/\d<=9223372036854775807/\bS m.toNat d.toNat=1/\∀G,m<G*d↔if A4 a b p<=0 then sl a p<G else ite (sl a b<=A4 a b p) (sl b p<G) <|fr a b p*fr a b p<G*sl a b:=λc O P B=>by
  let ⟨g,I,x,h,d,y,f1,f2,f3,f4,f5,f6,Q,R,e3,S,e5,e6,e7,e8,e9,e10,C,D⟩:=aP9 (c:=c) (n:=sl a b) O (by omega);rw[Rr (by omega) (by omega) (by omega),Q];simp only[bT];rw[fc (by omega:¬g=0)];simp only[bu,bT];rw[B2,R,fx (n:=I),Rr (by omega) (by omega) (by omega),e6];simp only[bT];rw[fc (by omega:¬h=0),show c.tdiv g=x from(B2).trans S,show c.tdiv h=y from(B2).trans e9,show I.tdiv h=d from(B2).trans e7,fx (n:=x),fx (n:=y),fx (n:=d)];simp only[bu,bT];have VK:0<=(9223372036854775807:Int) / y:=bH (by omega) (by omega);have hy1:(9223372036854775807:Int) / y<=9223372036854775807:=fg _ (by omega);rw[fc (by omega:¬y=0),bu,bT,B2,fx];by_cases o:(9223372036854775807:Int) / y<x;rw[hT o,b6,aK3 (by omega) P H K (by rw[B];exact N),bT];have qs:0<=c*c / sl a b:=bH (sq_nonneg c) (by omega);have w1:c*c / sl a b<35184372088833:=cm (by omega) (by rw[B];omega);refine⟨_,_,rfl,qs,by omega,by omega,by omega,g1 _,λG=>?_⟩
  grind[gN]
  have v:x*y<=9223372036854775807:=by have a:=aM (show x<=9223372036854775807 / y by omega) (show 0<=y by omega);have b:=Int.ediv_mul_le 9223372036854775807 (show y≠0 by omega);omega
  have w:0<=x*y:=aB (by omega) (by omega);rw[fc o,bu,fx (n:=x*y) (by omega) v];refine⟨_,_,rfl,w,v,by omega,by omega,C,λG=>?_⟩;rw[cc c1,cc c2,<-B];exact D G
 by_cases J:fr a b p<0;rw[hT J,b6,fx,fc (by omega),bu];exact main (0-fr a b p) (by omega) (by omega) (by grind);rw[fc J,bu];by_cases E:fr a b p=0;rw[hT E,b6];exact zero E;rw[fc E,bu];exact main (fr a b p) (by omega) (by omega) rfl
end Dp
def qc(l:Au)(id:Int):dv AL:=l.find? (λf=>No (f.1=id))
def J0:AL:=(0,0,0,bU #[],[])
def bm2(al:gp)(ag:hI)(fs:eD)(l:Au)(id:Int)(hl:aa l<=1000000)(hp:∀f∈l,aa f.2.2.2.2<=1000000) :
  OU ((al,ag,fs,l),id)=Z (match qc l id with|some f=>(f,Y)|none=>(J0,U)):=by
 unfold OU;simp only[bT];refine mP (A:=Unit) l (λi _=>(i:Int)) (λ_ rest=>Z (match qc rest id with|some f=>(f,Y)|none=>(J0,U))) (by omega) ?_ ?_ ();intro rec a;simp only[kj,bu,qc,js];rfl;intro rec i a x rest a7 hd c;have d:x∈l:=by grind[aC]
 have b:xp x.2.2.2.2=Z x.2.2.2.2:=by grind[xp,m9]
 simp only[fB a7,b6,fm hd,bT,f' a7 (show aa l<2^62 by omega),b];have:=c ()
 grind[qc,fC,decide_false]
def uY(al:gp)(ag:hI)(a:ct):Int:=match pathOf al ag a.1 with
 |some (p::l)=>oZ p l
 |_=>0
def qo(al:gp)(ag:hI)(ps:eD):hI->Int
 | []=>0
 |a::r=>(cond (No (a.2.2.2.2.1∈ps)==No (a.2.2.2.2.2∈ps)) 0 <|cond (a.2.2.2.2.2∈ps) (-(uY al ag a)) <|uY al ag a)+qo al ag ps r
def aR8{β:Type}(p0:bs)(l:eY)(hl:aa l<=1000)(p:mQ p0)(hc:∀q∈l,mQ q)(K:Int×Int->dv β) :
  rounds (α:=Int×Int) (β:=β) (λj b=>
    cond (b.2<((aa (p0::l):Nat):Int)) (
     a8 (nth (p0::l) (ek (b.2-(1:Int)))) λc=>
     a8 (nth (p0::l) b.2) λd=>
     a8 (nth (p0::l) b.2) λf=>
     a8 (nth (p0::l) (ek (b.2-(1:Int)))) λg=>
     j (ek (b.1+ek (ek (c.1*d.2)-ek (f.1*g.2))),ek (b.2+(1:Int)))) (
     K b)) ((0:Int),(1:Int))=K (oZ p0 l,((aa l+1:Nat):Int)):=by
 have e:((aa (p0::l):Nat):Int)=((aa l+1:Nat):Int):=by simp
 refine(vF (A:=bs×Int) l (λi a=>(a.2,((i+1:Nat):Int))) (λa rest=>K (a.2+oZ a.1 rest,((aa l+1:Nat):Int))) (λi a=>(p0::l)[i]?=Z a.1/\mQ a.1/\-(8796093022208*(i:Int))<=a.2/\a.2<=8796093022208*(i:Int)) (by omega) ?_ ?_ (p0,0) ⟨rfl,p,by simp,by simp⟩).trans (by simp)
 grind[oZ]
 intro rec i a x rest a7 k hd r;let ⟨k,hp,g1,g2⟩:=k;have o:(p0::l)[i+1]?=Z x:=by rw[aK,<-zB];exact fm hd
 have m:x∈l:=by grind[aC]
 have h:=hc x m;have s:ek (((i+1:Nat):Int)-1)=(i:Int):=by grind[fx]
 have t:ek (((i+1:Nat):Int)+1)=((i+1+1:Nat):Int):=f' (n:=2000000) (by omega);simp only[e,fB (show i+1<aa l+1 by omega),b6,s,t,zB,k,o,bT];let ⟨C,a2⟩:=vI (A:=2097152) hp.1 hp.2.1 h.2.2.1 h.2.2.2;let ⟨D,E⟩:=vI (A:=2097152) h.1 h.2.1 hp.2.2.1 hp.2.2.2;have u:ek (a.1.1*x.2)=a.1.1*x.2:=fx;have v:ek (x.1*a.1.2)=x.1*a.1.2:=fx;have w:ek (a.1.1*x.2-x.1*a.1.2)=uA a.1 x:=fx;have z:uA a.1 x=a.1.1*x.2-x.1*a.1.2:=rfl;have B:ek (a.2+uA a.1 x)=a.2+uA a.1 x:=fx;rw[u,v,w,B];have:=r (x,a.2+uA a.1 x) ⟨o,h,by simp only;omega,by simp only;omega⟩
 grind[oZ]
namespace fp
variable {al:gp} {ag:hI} {fs:eD} (h:fp al ag fs)
include h
theorem aI4(l:Au)(id:Int)(hl:aa l<=1000000)(hp:∀f∈l,aa f.2.2.2.2<=1000000) :
  H2 ((al,ag,fs,l),id)=Z (match qc l id with|some f=>ite (om f.2.1=3) (qo al ag f.2.2.2.2 ag) <| 0|none=>0):=by
 have r:=h.pA;have e:tJ al ag fs=0:=De.2 h;unfold H2;simp only[bm2 al ag fs l id hl hp,bT];cases hf:qc l id with
 |none=>rfl
 |some f=>
  have k:f∈l:=bh hf;have m:=hp f k;simp only[ar,bu,BH,bT];by_cases hs:om f.2.1=3;simp only[hs,l6,ar,bu,VN,e,bT,vE];refine(vF (A:=Int) ag (λi a=>(a,(i:Int))) (λa rest=>Z (a+qo al ag f.2.2.2.2 rest)) (λi a=>-(571746046443520*(i:Int))<=a/\a<=571746046443520*(i:Int)) (by omega) ?_ ?_ 0 ⟨by simp,by simp⟩).trans (by simp)
  grind[qo]
  intro rec i a x rest a7 s hd t;have g:x∈ag:=by grind[aC]
  have u:=h.num g;have c:x.1=la x.1:=by unfold la;omega
  let ⟨p0,pl,b,o,c0,cl⟩:=h.It (d:=x.1) ⟨x,g,c⟩;rw[<-c]at b;have p:ek ((i:Int)+1)=((i+1:Nat):Int):=f' (n:=2000000) (by omega);let ⟨v,w⟩:=Nd pl p0 c0 cl;have q:-571746046443520<=oZ p0 pl/\oZ p0 pl<=571746046443520:=by omega
  have j:uY al ag x=oZ p0 pl:=by simp only[uY,b]
  simp only[fB a7,b6,fm hd,bT,HC _ _ (show aa f.2.2.2.2<2^62 by omega),p,h.Hz,b,qo,j];cases No (x.2.2.2.2.1∈f.2.2.2.2)==No (x.2.2.2.2.2∈f.2.2.2.2)with
  |true=>grind
  |false=>
   simp only[bu];refine(aR8 p0 pl (by omega) c0 cl _).trans ?_
   grind[oZ,fx]
  grind[decide_false,aQ]
end fp
def bg6{n d:Int}(h1:0<=n)(h2:n<=9223372036854775807)(a:1<=d):Ir (n,d)=Z (n / d,0):=by
 have hc:O1 (n,d)=Z 0:=by unfold O1;simp only[bT,show ¬d=0 by omega,show ¬n=-9223372036854775808 by omega,n4,bu]
 have b:No (d=0)=U:=fc (by omega);have em:n.tmod d=n%d:=jt h1;have c:¬n%d<0:=by have:=df n (show d≠0 by omega);omega
 have e:¬d<0:=by omega
 unfold Ir;simp only[hc,bT,l6,ar,bu,b,IntWalk.i64_quo n d ⟨h1,h2,a⟩,em,c,e,n4,beq_self_eq_true,Bool.cond_self]
noncomputable def sy(a b p:bs):Int:=((yw (a,b,p)).getD (0,0)).1 / ((yw (a,b,p)).getD (0,0)).2
theorem Ua{a b p:bs}(ha:d' a=Y)(g:d' b=Y)(hp:d' p=Y):∃f,yw (a,b,p)=Z f/\Ir f=Z (sy a b p,0)/\0<=sy a b p/\sy a b p<=9223372036854775807:=by
 let ⟨m,d,e,f1,f2,f3,f4,_⟩:=Dp.Sp ha g hp;have c:sy a b p=m / d:=by unfold sy;rw[e];rfl
 refine⟨(m,d),e,?_,?_,?_⟩;rw[c];exact bg6 f1 f2 f3;rw[c];exact bH f1 (by omega);rw[c];have:=fg d f1;omega
def Qn{q a b c u v w M T:Int}(h:q*T=a*u+b*v+c*w)(cb:T=u+v+w)(hu:0<=u)(hv:0<=v)(hw:0<=w)(d:0<T)(ha:a<=M)(e:b<=M)(hc:c<=M):q<=M:=by
 have h1:=aM ha hu;have h2:=aM e hv;have f:=aM hc hw;have g:M*T=M*u+M*v+M*w:=by rw[cb];grind
 refine Int.le_of_mul_le_mul_right (a:=T) ?_ d;omega
theorem Q2{q a b c u v w T m M:Int}(h:q*T=a*u+b*v+c*w)(cb:T=u+v+w)(hs:(0<=u/\0<=v/\0<=w)\/(u<=0/\v<=0/\w<=0))(f:T≠0)(ha:m<=a/\a<=M)(d:m<=b/\b<=M)(hc:m<=c/\c<=M):m<=q/\q<=M:=by
 rcases hs with⟨hu,hv,hw⟩|⟨hu,hv,hw⟩
 refine⟨?_,Qn h cb hu hv hw (by omega) ha.2 d.2 hc.2⟩;have:=Qn (q:=-q) (a:=-a) (b:=-b) (c:=-c) (M:=-m) (by rw[dX,dX,dX,dX,h];omega) cb hu hv hw (by omega) (by omega) (by omega) (by omega);omega;have e:∀x y:Int,x*-y=-(x*y):=λx y=>cn x y;refine⟨?_,Qn (u:=-u) (v:=-v) (w:=-w) (T:=-T) (by rw[e,e,e,e,h];omega) (by omega) (by omega) (by omega) (by omega) (by omega) ha.2 d.2 hc.2⟩;have:=Qn (q:=-q) (a:=-a) (b:=-b) (c:=-c) (M:=-m) (u:=-u) (v:=-v) (w:=-w) (T:=-T) (by rw[dS,dS,dS,dS,h]) (by omega) (by omega) (by omega) (by omega) (by omega) (by omega) (by omega) (by omega);omega
def QG{x y s T:Int}(h:x*T=y*s)(c:(x<=0/\y<0)\/(0<=x/\0<y)):(0<T->0<=s)/\(T<0->s<=0):=by
 rcases c with⟨h1,h2⟩|⟨h1,h2⟩
 constructor;intro cb;have:=aB (a:=-x) (b:=T) (by omega) (by omega);by_cases hs:0<=s;exact hs;have:=bR (a:=-y) (b:=-s) (by omega) (by omega);rw[dS]at this;rw[dX]at *;omega;intro cb;have:=aB (a:=-x) (b:=-T) (by omega) (by omega);by_cases hs:s<=0;exact hs;have:=bR (a:=-y) (b:=s) (by omega) (by omega);rw[dS]at *;rw[dX]at this;omega;constructor;intro cb;have:=aB (a:=x) (b:=T) (by omega) (by omega);by_cases hs:0<=s;exact hs;have:=bR (a:=y) (b:=-s) (by omega) (by omega);rw[cn]at this;omega;intro cb;have:=aB (a:=x) (b:=-T) (by omega) (by omega);by_cases hs:s<=0;exact hs;have:=bR (a:=y) (b:=s) (by omega) (by omega);rw[cn]at *;omega
def yl(a b q:Int):Prop:=(a<=q/\q<=b)\/(b<=q/\q<=a)
def U4(a b c q:bs):fr a b c=fr a b q+fr b c q+fr c a q:=by unfold fr;grind
def aj7(a b c q:bs):q.1*fr a b c=a.1*fr b c q+b.1*fr c a q+c.1*fr a b q:=by unfold fr;grind
def aj8(a b c q:bs):q.2*fr a b c=a.2*fr b c q+b.2*fr c a q+c.2*fr a b q:=by unfold fr;grind
def UJ(a b c:bs):fr b c a=fr a b c:=by unfold fr;grind
def RV{a b c q:bs}(h:fr a b q=0)(d:yl a.1 b.1 q.1)(e:yl a.2 b.2 q.2):(0<fr a b c->0<=fr b c q/\0<=fr c a q)/\(fr a b c<0->fr b c q<=0/\fr c a q<=0):=by
 have s:=U4 a b c q;have X:=aj7 a b c q;have f:=aj8 a b c q;rw[h]at s X f;have g:(q.1-b.1)*fr a b c=(a.1-b.1)*fr b c q:=by grind
 have i:(q.2-b.2)*fr a b c=(a.2-b.2)*fr b c q:=by grind
 have j:(q.1-a.1)*fr a b c=(b.1-a.1)*fr c a q:=by grind
 have m:(q.2-a.2)*fr a b c=(b.2-a.2)*fr c a q:=by grind
 unfold yl at d e;by_cases h1:a.1=b.1;by_cases h2:a.2=b.2;have:fr a b c=0:=by unfold fr;rw[h1,h2];grind
 omega;have k:=QG i (by omega);have l:=QG m (by omega);exact⟨λh=>⟨k.1 h,l.1 h⟩,λh=>⟨k.2 h,l.2 h⟩⟩;have k:=QG g (by omega);have l:=QG j (by omega);exact⟨λh=>⟨k.1 h,l.1 h⟩,λh=>⟨k.2 h,l.2 h⟩⟩
def mM(x:Int):Int:=ite (0<x) 1 <|ite (x<0) (-1) 0
def wR(a b q:bs):Prop:=fr a b q=0/\yl a.1 b.1 q.1/\yl a.2 b.2 q.2
def yD(a b c q:Int):Prop:=min (min a b) c<=q/\q<=max (max a b) c
def RL{a b c q:bs}(h:wR a b q):yD a.1 b.1 c.1 q.1/\yD a.2 b.2 c.2 q.2:=by
 let ⟨_,h1,h2⟩:=h
 grind[yl,yD]
def Ev{a b c q:Int}(h:yD a b c q):yD b c a q:=by unfold yD at *;omega
def bm3(a b c q:bs):(yD a.1 b.1 c.1 q.1/\yD a.2 b.2 c.2 q.2/\(ite (fr a b c=0) (wR a b q\/wR b c q\/wR c a q) <| 0<=mM (fr a b c)*mM (fr a b q)/\0<=mM (fr a b c)*mM (fr b c q)/\0<=mM (fr a b c)*mM (fr c a q))) ↔
  (wR a b q\/wR b c q\/wR c a q\/(mM (fr a b q)≠0/\mM (fr a b q)=mM (fr b c q)/\mM (fr b c q)=mM (fr c a q))):=by
 have s:=U4 a b c q;have X:=aj7 a b c q;have i:=aj8 a b c q;have p:=UJ a b c;have r:=UJ b c a;have d:∀x y:Int,x≠0->(0<=mM x*mM y↔(0<x->0<=y)/\(x<0->y<=0)):=by intro x y t;unfold mM;by_cases h1:0<x<;>by_cases h2:x<0<;>by_cases e:0<y<;>by_cases k:y<0<;>simp[h1,h2,e,k]<;>omega
 have g:∀x y:Int,mM x=mM y↔(0<x↔0<y)/\(x<0↔y<0):=by intro x y;unfold mM;by_cases h1:0<x<;>by_cases h2:x<0<;>by_cases e:0<y<;>by_cases k:y<0<;>simp[h1,h2,e,k]<;>omega
 have j:∀x:Int,mM x≠0↔x≠0:=by intro x;unfold mM;by_cases h1:0<x<;>by_cases h2:x<0<;>simp[h1,h2]<;>omega
 constructor;rintro ⟨z,B,h⟩;split at h;rcases h with h|h|h<;>simp[h]
 rename_i cb;rw[d _ _ cb,d _ _ cb,d _ _ cb]at h;have hs:(0<=fr b c q/\0<=fr c a q/\0<=fr a b q)\/(fr b c q<=0/\fr c a q<=0/\fr a b q<=0):=by omega
 have side:∀ {u v w:bs},q.1*fr a b c=u.1*fr v w q+v.1*fr w u q+w.1*0->q.2*fr a b c=u.2*fr v w q+v.2*fr w u q+w.2*0->fr a b c=fr v w q+fr w u q+0->((0<=fr v w q/\0<=fr w u q)\/(fr v w q<=0/\fr w u q<=0))->fr u v q=0->wR u v q:=by intro u v w h1 h2 e k l;refine⟨l,?_,?_⟩;have:=Q2 (m:=min u.1 v.1) (M:=max u.1 v.1) (c:=u.1) (by rw[dV]at *;exact h1) e (by omega) cb (by omega) (by omega) (by omega);unfold yl;omega;have:=Q2 (m:=min u.2 v.2) (M:=max u.2 v.2) (c:=u.2) (by rw[dV]at *;exact h2) e (by omega) cb (by omega) (by omega) (by omega);unfold yl;omega
 by_cases nq:fr a b q=0;exact .inl (side (w:=c) (by rw[nq]at X;exact X) (by rw[nq]at i;exact i) (by omega) (by omega) nq);by_cases z2:fr b c q=0;exact .inr (.inl (side (w:=a) (by rw[z2]at X;omega) (by rw[z2]at i;omega) (by omega) (by omega) z2));by_cases z3:fr c a q=0;exact .inr (.inr (.inl (side (w:=b) (by rw[z3]at X;omega) (by rw[z3]at i;omega) (by omega) (by omega) z3)));refine .inr (.inr (.inr ?_));rw[j,g,g];omega;intro h;rcases h with h|h|h|⟨h1,h2,e⟩
 have f:=RL (c:=c) h;refine⟨f.1,f.2,?_⟩;split;exact .inl h;rename_i cb;rw[d _ _ cb,d _ _ cb,d _ _ cb];have:=RV (c:=c) h.1 h.2.1 h.2.2;have:=h.1;omega;have f:=RL (c:=a) h;refine⟨Ev (Ev f.1),Ev (Ev f.2),?_⟩;split;exact .inr (.inl h);rename_i cb;rw[d _ _ cb,d _ _ cb,d _ _ cb];have:=RV (c:=a) h.1 h.2.1 h.2.2;have:=h.1;omega;have f:=RL (c:=b) h;refine⟨Ev f.1,Ev f.2,?_⟩;split;exact .inr (.inr h);rename_i cb;rw[d _ _ cb,d _ _ cb,d _ _ cb];have:=RV (c:=b) h.1 h.2.1 h.2.2;have:=h.1;omega;rw[j]at h1;rw[g]at h2 e;have cb:fr a b c≠0:=by omega
 have hs:(0<=fr b c q/\0<=fr c a q/\0<=fr a b q)\/(fr b c q<=0/\fr c a q<=0/\fr a b q<=0):=by omega
 have n:=Q2 (m:=min (min a.1 b.1) c.1) (M:=max (max a.1 b.1) c.1) X (by omega) hs cb (by omega) (by omega) (by omega);have o:=Q2 (m:=min (min a.2 b.2) c.2) (M:=max (max a.2 b.2) c.2) i (by omega) hs cb (by omega) (by omega) (by omega);refine⟨n,o,?_⟩;rw[cc cb,d _ _ cb,d _ _ cb,d _ _ cb];omega
theorem aV8{m d e c:Int}{P:Int->Prop}(hd:1<=d)(f:1<=c)(h:∀G,m<G*d↔P G)(h':∀G,e<G*c↔P G):m / d=e / c:=by
 have k:∀G,m / d<G↔e / c<G:=λG=>by rw[gN (by omega),gN (by omega),h,h']
 have a:=(k (m / d+1)).1 (by omega);have b:=(k (e / c+1)).2 (by omega);omega
namespace Dp
theorem ag2(a b c:bs):zx (a,b,c)=Z (sP a b c):=by grind[zx,sP,bT,CV,LL,d',fR,we,yK,qB,fr]
def aN6(a b c:bs):zZ (a,b,c)=Z (l7 a b c):=by grind[zZ,l7,zx,ag2,bT,sP]
def Cv(a b c q:bs):Bool:=n' a b q||n' b c q||n' c a q||(No (l7 a b q≠0)&&No (l7 a b q=l7 b c q)&&No (l7 b c q=l7 c a q))
theorem bk0(a b c q:bs):DG ([a,b,c],q)=Z (Cv a b c q):=by
 unfold DG Cv;have n0:nth [a,b,c] 0=Z a:=rfl;have d:nth [a,b,c] 1=Z b:=rfl;have e:nth [a,b,c] 2=Z c:=rfl;have o:∀x y:bs,yk ((x.1,x.2),(y.1,y.2),q.1,q.2)=Z (n' x y q):=λx y=>Mg x y q;have f:∀x y:bs,zZ ((x.1,x.2),(y.1,y.2),q.1,q.2)=Z (l7 x y q):=λx y=>aN6 x y q;simp only[n0,d,e,bT,o,f]
 grind[l7,n']
def bu8(n b7 a7:Int):xj (n,b7,a7)=Z (No (b7<=n)&&No (n<=a7)):=by grind[xj]
theorem Xc(al:gp)(ag:hI)(fs:eD)(l:Au)(id:Int)(ha:aa ag<=1000000):HN ((al,ag,fs,l),id)=Z (No (na ag id=0)):=by unfold HN;simp only;rw[aL3 al ag fs id ha];simp
def Jv(a b c q:bs):Bool:=(No (min (min a.1 b.1) c.1<=q.1)&&No (q.1<=max (max a.1 b.1) c.1)&&(No (min (min a.2 b.2) c.2<=q.2)&&No (q.2<=max (max a.2 b.2) c.2)))&&(cond (l7 a b c=0) (n' a b q||n' b c q||n' c a q) <|No (0<=l7 a b c*l7 a b q)&&No (0<=l7 a b c*l7 b c q)&&No (0<=l7 a b c*l7 c a q))
theorem bh2{a b c:bs}(ha:d' a=Y)(d:d' b=Y)(hc:d' c=Y):l7 a b c=mM (fr a b c):=by grind[l7,mM,sP]
theorem bC3{a b q:bs}(ha:d' a=Y)(c:d' b=Y)(d:d' q=Y):n' a b q=Y↔wR a b q:=by grind[n',wR,sU,yl,bG]
def bh4{a b c q:bs}(ha:d' a=Y)(d:d' b=Y)(hc:d' c=Y)(e:d' q=Y):Jv a b c q=Cv a b c q:=by
 have k:=bm3 a b c q
 grind[Jv,Cv,mM,fr,yD,bh2,bC3,decide_true,decide_false]
end Dp
namespace Dp
def Uo(a b c:bs):l7 a b c=-1\/l7 a b c=0\/l7 a b c=1:=by unfold l7;split;simp;split<;>simp
def vq(p a:bs):Bool:=!(No (p.1=a.1)&&No (p.2=a.2))
def Ud(a K_ b c:Int)(p:bs):DH ((a,K_,b,c),p)=Z (No (a<=p.1)&&No (p.1<=b)&&(No (K_<=p.2)&&No (p.2<=c))):=by unfold DH;by_cases h1:a<=p.1<;>by_cases h2:p.1<=b<;>by_cases d:K_<=p.2<;>by_cases e:p.2<=c<;>simp[h1,h2,d,e]
def Uc(a b c p:bs)(go:dv Bool):Jf a b c p (l7 a b c) go=bif vq p a&&(vq p b&&(vq p c&&Jv a b c p))then Z U else go:=by
 unfold Jf Jv vq;rw[Ud];simp only[FH,M8,bT];have f:∀x y z:Int,bf w6 x [y,z]=min (min x y) z:=λx y z=>by simp[bf,w6];grind
 have g:∀x y z:Int,bf qG x [y,z]=max (max x y) z:=λx y z=>by simp[bf,qG];grind
 rw[f,f,g,g];have w:∀x y z:bs,ek (l7 a b c*l7 x y z)=l7 a b c*l7 x y z:=λx y z=>by rcases Uo a b c with h|h|h<;>rcases Uo x y z with h'|h'|h'<;>rw[h,h']<;>rfl
 simp only[w];generalize(!(No (p.1=a.1)&&No (p.2=a.2)))=i;generalize(!(No (p.1=b.1)&&No (p.2=b.2)))=j;generalize(!(No (p.1=c.1)&&No (p.2=c.2)))=k;generalize(No (min (min a.1 b.1) c.1<=p.1)&&No (p.1<=max (max a.1 b.1) c.1)&&(No (min (min a.2 b.2) c.2<=p.2)&&No (p.2<=max (max a.2 b.2) c.2)))=l;generalize No (l7 a b c=0)=m;generalize n' a b p=n;generalize n' b c p=o;generalize n' c a p=q;generalize No (0<=l7 a b c*l7 a b p)=r;generalize No (0<=l7 a b c*l7 b c p)=d;generalize No (0<=l7 a b c*l7 c a p)=e;cases i<;>cases j<;>cases k<;>cases l<;>cases m<;>try rfl
 cases r<;>cases d<;>cases e<;>rfl;cases n<;>cases o<;>cases q<;>rfl
end Dp
namespace Dp
def mb(a b c p:bs):Bool:=vq p a&&(vq p b&&(vq p c&&Jv a b c p))
def bj7(a b c:bs)(l:eY)(hl:aa l<2^62)(K:dv Bool):rounds (α:=Int) (β:=Bool) (λd y=>
  cond (y<(aa l:Int)) (
  a8 (nth l y) λv=>
  Jf a b c (v.1,v.2) (l7 a b c) (d (ek (y+(1:Int))))) K) (0:Int)=bif l.any (mb a b c)then Z U else K:=by
 refine mP (A:=Unit) l (λi _=>(i:Int)) (λ_ rest=>cond (rest.any (mb a b c)) (Z U) K) (by omega) ?_ ?_ ();intro rec _;simp only[kj,bu,fI];intro rec i _ x rest a7 hd e;simp only[fB a7,b6,fm hd,bT,f' a7 hl,e (),cx];rw[Uc];show(cond (mb a b c x) (Z U) _)=_;cases mb a b c x<;>rfl
def be9(al:gp)(ag:hI)(a b c:bs)(e:aa al<2^62)(ha:aa ag<2^62)(hv:∀x∈ag,aa x.2.2.2.1<2^62):Q1 al ag a b c=Z (!(al.any λn=>mb a b c n.2)&&!(ag.any λx=>x.2.2.2.1.any (mb a b c))):=by unfold Q1;rw[M8,bT];refine mP (A:=Unit) al (λi _=>(i:Int)) (λ_ rest=>Z (!(rest.any λn=>mb a b c n.2)&&!(ag.any λx=>x.2.2.2.1.any (mb a b c)))) (by omega) ?_ ?_ ();intro rec _;simp only[kj,bu,fI,aQ,bQ];refine mP (A:=Unit) ag (λi _=>(i:Int)) (λ_ rest=>Z (!(rest.any λx=>x.2.2.2.1.any (mb a b c)))) (by omega) ?_ ?_ ();intro rec _;simp only[kj,bu,fI,aQ];intro rec i _ x rest a7 hd d;have f:x∈ag:=aC (hd▸aR ..);simp only[fB a7,b6,fm hd,bT,f' a7 ha,d (),cx];rw[bj7 a b c x.2.2.2.1 (hv x f)];cases x.2.2.2.1.any (mb a b c)<;>simp;intro rec i _ x rest a7 hd d;simp only[fB a7,b6,fm hd,bT,f' a7 e,d (),cx];rw[Uc];show(cond (mb a b c x.2) (Z U) _)=_;cases mb a b c x.2<;>simp
end Dp
namespace Dp
def bh1(p:bs):AS p=Z (yU p):=by unfold AS;rw[show DH ((-1048576,-1048576,1048576,1048576),p.1,p.2)=_ from Ud (-1048576) (-1048576) 1048576 1048576 p,bT];unfold yU;simp only[fR]
def wM(b a:ct):Bool:=!decide (b.1=a.1)&&(No (aa b.2.2.2.1=0)&&(No (b.2.1=a.2.1)&&No (b.2.2.1=a.2.2.1)||No (b.2.1=a.2.2.1)&&No (b.2.2.1=a.2.1)))
def bt0(b a:ct):NB (b,a)=Z (wM b a):=by
 unfold NB wM;simp only[bT];have e:No ((aa b.2.2.2.1:Int)=0)=No (aa b.2.2.2.1=0):=by rw[decide_eq_decide];omega
 rw[e];cases No (b.1=a.1)<;>cases No (aa b.2.2.2.1=0)<;>cases No (b.2.1=a.2.1)<;>cases No (b.2.2.1=a.2.2.1)<;>cases No (b.2.1=a.2.2.1)<;>cases No (b.2.2.1=a.2.1)<;>rfl
def bH5(al:gp)(ag:hI)(fs:eD)(a:ct)(h:aa ag<=1000000):HV ((al,ag,fs),a)=Z (ag.any (wM · a)):=by unfold HV;unfold Rf;simp only[bT];rw[Br ag h _ (wM · a) (λb _=>bt0 b a)];rfl
def aW3(al:gp)(ag:hI)(fs:eD)(a:ct)(h:aa ag<2^62):Gp ((al,ag,fs),a)=Z (ag.any (wM · a)):=by
 unfold Gp;refine mP (A:=Unit) ag (λi _=>(i:Int)) (λ_ rest=>Z (rest.any (wM · a))) (by omega) ?_ ?_ ();intro rec _;simp only[bT,kj,bu,fI];intro rec i _ b rest a7 hd c;have e:No ((aa b.2.2.2.1:Int)=0)=No (aa b.2.2.2.1=0):=by rw[decide_eq_decide];omega
 simp only[fB a7,b6,fm hd,bT,f' a7 h,c (),cx,wM,e];cases No (b.1=a.1)<;>cases No (aa b.2.2.2.1=0)<;>cases No (b.2.1=a.2.1)<;>cases No (b.2.2.1=a.2.2.1)<;>cases No (b.2.1=a.2.2.1)<;>cases No (b.2.2.1=a.2.1)<;>simp
def Fk(al:gp)(ag:hI)(a:ct)(p q r:bs):Bool:=yU p&&yU q&&yU r&&(!(No (a.2.1=a.2.2.1)&&No (aa a.2.2.2.1<3))&&(!(No (aa a.2.2.2.1=1)&&ag.any (wM · a))&&(!(al.any λn=>mb p q r n.2)&&!(ag.any λx=>x.2.2.2.1.any (mb p q r)))))
def bu5{al:gp}{ag:hI}{fs:eD}{a:ct}{l:eY}{i:Nat}{p q r:bs}(h:aa al<=1000000)(ha:aa ag<=1000000)(hv:∀a∈ag,aa a.2.2.2.1<=1000000)(a7:i<1000000)(hp:l[i]?=Z p)(b:l[i+1]?=Z q)(c:l[i+2]?=Z r):OM ((al,ag,fs),a,l,(i:Int))=Z (Fk al ag a p q r):=by
 unfold OM Fk;simp only[bT];rw[fx,fx,zB,hp,bT,show(i:Int)+1=((i+1:Nat):Int)by omega,zB,b,bT,show(i:Int)+2=((i+2:Nat):Int)by omega,zB,c,bT];have v:∀x:bs,AS (x.1,x.2)=Z (yU x):=λx=>bh1 x;have t:=be9 al ag p q r (by omega) (by omega) (λx d=>by have:=hv x d;omega);have e:HV ((al,ag,fs),a.1,a.2.1,a.2.2.1,a.2.2.2.1,a.2.2.2.2.1,a.2.2.2.2.2)=_:=bH5 al ag fs a ha;have f:No ((aa a.2.2.2.1:Int)<3)=No (aa a.2.2.2.1<3):=by rw[decide_eq_decide];omega
 have g:No ((aa a.2.2.2.1:Int)=1)=No (aa a.2.2.2.1=1):=by rw[decide_eq_decide];omega
 simp only[v,t,e,bT,f,g];generalize(ag.any (wM · a))=k;generalize(!(al.any λn=>mb p q r n.2)&&!(ag.any λx=>x.2.2.2.1.any (mb p q r)))=m;cases yU p<;>cases yU q<;>cases yU r<;>cases No (a.2.1=a.2.2.1)<;>cases No (aa a.2.2.2.1<3)<;>cases No (aa a.2.2.2.1=1)<;>cases k<;>rfl
end Dp
abbrev mK:=Int×b9
def Up{X V β:Type}(xs:cu X){F:(Int×cu V->dv β)->Int×cu V->dv β}(g:X->cu V)(c N:Nat)(hl:aa xs<2^60)(f:∀x∈xs,aa (g x)<=c)(K:Int×cu V->dv β){acc0:cu V}(b:aa acc0<=N)
  (e:∀rec acc,F rec ((aa xs:Int),acc)=K ((aa xs:Int),acc))
  (d:∀rec (i:Nat) acc x,i<aa xs->xs[i]?=Z x->x∈xs->aa acc<=N+c*i->F rec ((i:Int),acc)=rec (((i+1:Nat):Int),acc++g x)) :
  rounds F ((0:Int),acc0)=K ((aa xs:Int),acc0++xs.flatMap g):=by
 refine(vF (A:=cu V) xs (λi a=>((i:Int),a)) (λa rest=>K ((aa xs:Int),a++rest.flatMap g)) (λi a=>aa a<=N+c*i) (Nat.lt_of_lt_of_le hl (by decide)) ?_ ?_ acc0 (by simpa using b))
 grind
 grind[aC,gg,eA,aL,Nat.mul_add,cz]
def mO{X V:Type}{g:X->cu V}{c:Nat}:∀ {xs:cu X},(∀x∈xs,aa (g x)<=c)->aa (xs.flatMap g)<=c*aa xs
 | [],_=>by simp
 |x::xs,h=>by
  have h1:=h x (by simp);have h2:=mO (g:=g) (c:=c) (xs:=xs) λy a=>h y (by simp[a])
  grind[aL,aA,mr]
def mL(m:Int)(vs:eD):Int:=vs.foldl min m
theorem Us(vs:eD):∀m,mL m vs<=m:=by
 induction vs with
 |nil=>intro m;exact Int.le_refl m
 |cons v vs a=>intro m;have:=a (min m v);show mL (min m v) vs<=m;omega
def IA{b:Int}:∀ {vs:eD} {m:Int},b<=m->(∀v∈vs,b<=v)->b<=mL m vs
 | [],m,h,_=>h
 |v::vs,m,h,hv=>by show b<=mL (min m v) vs;have:=hv v (by simp);exact IA (by omega) λx a=>hv x (by simp[a])
def bc9(vs:eD):∀ {m a:Int},m<=a->mL m vs=min m (mL a vs):=by
 induction vs with
 |nil=>intro m a h;show m=min m a;omega
 |cons v vs b=>
  intro m a h;show mL (min m v) vs=min m (mL (min a v) vs)
  grind[Us]
theorem q3{α:Type}{xs:cu α}{i:Nat}{x:α}(h:xs[i]?=Z x):nth xs (i:Int)=Z x:=by rw[zB,h]
theorem pz{i n:Nat}(h:i<n)(a:n<=1000000):ek ((i:Int)+1)=((i+1:Nat):Int):=f' h
noncomputable def pC(a:ct)(f:AL):Bool:=cond (om f.2.1=2) (No (a.1∈f.2.2.2.2)) <|cond (om f.2.1=3) (!(No (a.2.2.2.2.1∈f.2.2.2.2)==No (a.2.2.2.2.2∈f.2.2.2.2))) U
noncomputable def mS(ag:hI)(l:Au):eD:=ag.flatMap λa=>ite (l.any (pC a)) [] [a.1]
theorem bt3(l:Au)(a:ct)(hl:aa l<=1000000)(hp:∀f∈l,aa f.2.2.2.2<=1000000):LQ (l,(a.1,a.2.1,a.2.2.1,a.2.2.2.1,a.2.2.2.2.1,a.2.2.2.2.2))=Z (l.any (pC a)):=by
 unfold LQ;simp only[bT];refine Br l hl _ (pC a) λf hf=>?_
 grind[Rs,pC,BH,bT,HC,om]
theorem bc0(al:gp)(ag:hI)(fs:eD)(l:Au)(ha:aa ag<=1000)(hl:aa l<=1000000)(hp:∀f∈l,aa f.2.2.2.2<=1000000):NX (al,ag,fs,l)=Z (mS ag l):=by
 unfold NX;simp only[bT];refine(Up ag (λa=>ite (l.any (pC a)) [] [a.1]) 1 0 (by omega) (λa _=>by split<;>simp) (Z ·.2) (acc0:=[]) (by simp) ?_ ?_).trans (by simp only[br];rfl)
 grind
 grind[fB,q3,bT,bt3,pz,pC,aQ,m9]
def aW6{al:gp}{ag:hI}{fs:eD}{l:Au}(a:pD al ag fs l=0)(ha:aa ag<=1000)(hl:aa l<=1000000)(hp:∀f∈l,aa f.2.2.2.2<=1000000):H0 (al,ag,fs,l)=Z (mS ag l):=by grind[H0,E1,bT,decide_true,ar,bc0]
noncomputable def yR(p:eY)(at':bs):eD:=(aT (aa p-1)).map λi=>sy ((p[i]?).getD (0,0)) ((p[i+1]?).getD (0,0)) at'
def RM(a b:Int):bf w6 a [b]=min a b:=KS a b
def aT6{al:gp}{ag:hI}{fs:eD}{id most:Int}{at':bs}{p:eY}(h:wE ((al,ag,fs),id)=Z (p,0))(hl:aa p<=1000)(d:∀q∈p,d' q=Y)(ha:d' at'=Y):N2 ((al,ag,fs),id,at',most)=Z (mL most (yR p at')):=by
 unfold N2;simp only[h,bT];have g:aa (aT (aa p-1))=aa p-1:=dO;refine(vF (A:=Int) (aT (aa p-1)) (λi a=>(((i+1:Nat):Int),a)) (λa rest=>Z (mL a (rest.map λi=>sy ((p[i]?).getD (0,0)) ((p[i+1]?).getD (0,0)) at'))) (λ_ _=>True) (by omega) ?_ ?_ most trivial);intro rec a _;rw[g];have e:No (((aa p-1+1:Nat):Int)<(aa p:Int))=U:=fc (by omega);simp only[e,bu,cM];rfl;intro rec i a x rest a7 _ hd c;rw[g]at a7;have j:x=i:=by grind[gg,eA,fX,dN,aJ]
 subst j;have k:ek (((x+1:Nat):Int)-1)=(x:Int):=by grind[fx]
 have l:ek (((x+1:Nat):Int)+1)=((x+1+1:Nat):Int):=by grind[fx]
 have b:x+1<aa p:=by omega
 have g1:p[x]?=Z p[x]:=af (by omega);have g2:p[x+1]?=Z p[x+1]:=af b;let ⟨f,d1,d2,_,_⟩:=Ua (d _ (au (show x<aa p by omega))) (d _ (au b)) ha;simp only[fB b,b6,k,bT,zB,g1,g2,d1,d2,l6,RM,l];rw[c _ trivial];simp only[aD,g1,g2,bM];rfl
def Ur{p:eY}{at':bs}(a:∀q∈p,d' q=Y)(ha:d' at'=Y):∀v∈yR p at',0<=v:=by
 intro v hv;obtain⟨i,a7,rfl⟩:=aN.1 hv
 grind[af,Ua,au]
noncomputable def zq(al:gp)(ag:hI)(fs:eD)(id:Int)(i:Nat):Bool:=(BE ((al,ag,fs),id,(i:Int))).getD U
def FW(p:eY)(i:Nat):Int:=sP ((p[i]?).getD (0,0)) ((p[i+1]?).getD (0,0)) ((p[i+2]?).getD (0,0))
def IH(v:Int):Int:=max v (-v)
noncomputable def oP(al:gp)(ag:hI)(fs:eD)(a:ct)(p:eY):cu Nat->eD
 | []=>[]
 |i::r=>ite (zq al ag fs a.1 i) (IH (FW p i)::oP al ag fs a p r) <|oP al ag fs a p r
def TT(a b c:bs):-35184372088832<=sP a b c/\sP a b c<=35184372088832:=by unfold sP;split;rename_i h;simp only[ab]at h;exact aF7 h.1.1 h.1.2 h.2;omega
theorem Po{al:gp}{ag:hI}{fs:eD}{a:ct}{p:eY}:∀ {r:cu Nat},∀v∈oP al ag fs a p r,0<=v
 | [],v,h=>by simp[oP]at h
 |i::r,v,h=>by
  unfold oP at h;split at h;rcases aG.1 h with rfl|h
  unfold IH;omega;exact Po v h;exact Po v h
def ah6{al:gp}{ag:hI}{fs:eD}(h:fp al ag fs){a:ct}(ha:a∈ag){l:eY}{i:Nat}{p q r:bs}(a7:i<aa a.2.2.2.1)(c:pathOf al ag a.1=Z l)(hp:l[i]?=Z p)(d:l[i+1]?=Z q)(e:l[i+2]?=Z r):BE ((al,ag,fs),a.1,(i:Int))=Z (Dp.Fk al ag a p q r):=by have hv:=h.q4 ha;have k:=Dp.bu5 (al:=al) (ag:=ag) (fs:=fs) (a:=a) (l:=l) (i:=i) (by have:=h.qF;omega) (by have:=h.pA;omega) (λb f=>by have:=h.q4 f;omega) (by omega) hp d e;unfold BE;have c1:No ((i:Int)<0)=U:=fc (by omega);have c2:No (((aa a.2.2.2.1:Nat):Int)<=(i:Int))=U:=fc (by omega);simp only[h.Rq,h.zD ha,bT,ar,bu,c1,c2,h.Hz,c,l6,b6,k]
theorem bs3{al:gp}{ag:hI}{fs:eD}(h:fp al ag fs){a:ct}(ha:a∈ag){i:Nat}(a7:i<aa a.2.2.2.1):BE ((al,ag,fs),a.1,(i:Int))=Z (zq al ag fs a.1 i):=by let ⟨f,t,_,_,hp,_,_⟩:=h.path ha;have k:=ah6 h ha a7 hp (af (by simp;omega)) (af (by simp;omega)) (af (by simp;omega));simp only[zq,k,bM]
set_option maxRecDepth 10000
def Ut:∀ {l:Au} {o:dv Int},AZ o l=U->(∀p,o=Z p->∀f∈l,p<f.1)/\l.Pairwise (·.1<·.1)
 | [],_,_=>⟨λ_ _ f hf=>by simp at hf,jY⟩
 |f::r,o,h=>by
  unfold AZ at h;have h2:AZ (Z f.1) r=U:=by grind[xo]
  have h1:∀p,o=Z p->p<f.1:=by grind
  let ⟨a,b⟩:=Ut h2
  grind[aU]
structure FX(al:List b9)(ag:List ct)(fs:List Int)(l:List AL):Prop where
 pl:fp al ag fs
 len:aa l<=128
 parts:∀f∈l,aa f.2.2.2.2<=64
 aj0:l.Pairwise (·.1<·.1)
 num:∀f∈l,1<=f.1/\f.1<=1073741824
 bN1:∀f∈l,f.2.2.2.2≠[]
def CQ{c:Bool}{a b:Int}(ha:a≠0)(h:(cond c a b)=0):c=U/\b=0:=by grind[absurd]
def Ep{al:gp}{ag:hI}{fs:eD}{l:Au}(a:pD al ag fs l=0):FX al ag fs l:=by
 unfold pD at a;have b:tH al ag fs=0:=by grind[tH]
 rw[b]at a;simp only[l6,ar,bu]at a;have hp:fp al ag fs:=by grind[De,tH,tJ]
 let ⟨h1,a⟩:=CQ (by decide) a;let ⟨h2,a⟩:=CQ (by decide) a;let ⟨c,a⟩:=CQ (by decide) a;let ⟨d,a⟩:=CQ (by decide) a;let ⟨g,a⟩:=CQ (by decide) a;let ⟨h,a⟩:=CQ (by decide) a;let ⟨e,a⟩:=CQ (by decide) a;refine⟨hp,by grind[of_decide_eq_false],λf hf=>?_,(Ut c).2,λf hf=>?_,λf hf=>?_⟩;have:=c_.1 h2 f hf;simp[q5]at this;omega;have:=c_.1 d f hf;simp[nj]at this;omega;have:=c_.1 e f hf;intro he;rw[xY,he]at this;simp at this
noncomputable def wu(al:gp)(ag:hI)(l:Au)(id:Int):Int:=match qc l id with
 |some f=>ite (om f.2.1=3) (qo al ag f.2.2.2.2 ag) <| 0
 |none=>0
noncomputable def mN(al:gp)(ag:hI)(l:Au)(least:Int)(f:AL):cu mK:=ite (om f.2.1=3/\wu al ag l f.1<least) [(1,f.1,0,least-wu al ag l f.1)] []
noncomputable def vX(al:gp)(ag:hI)(fs:eD)(a:ct)(tol:Int):Int:=match pathOf al ag a.1 with
 |some p=>mL tol (oP al ag fs a p (aT (aa a.2.2.2.1)))
 |none=>tol
noncomputable def mT(al:gp)(ag:hI)(fs:eD)(tol:Int)(a:ct):cu mK:=ite (vX al ag fs a tol<tol) [(2,a.1,0,tol-vX al ag fs a tol)] []
def nodeAt(al:gp)(id:Int):b9:=match nQ al id with|some n=>n|none=>(0,0,0)
noncomputable def vw(al:gp)(ag:hI)(a:ct)(at':bs)(most:Int):Int:=match pathOf al ag a.1 with
 |some p=>mL most (yR p at')
 |none=>most
noncomputable def oJ(al:gp)(ag:hI)(least:Int)(f:AL)(n:b9)(a:ct):cu mK:=ite (vw al ag a (n.2.1,n.2.2) least<least) [(3,f.1,a.1,least-vw al ag a (n.2.1,n.2.2) least)] []
def bL3(m n:b9):Int:=(m.2.1-n.2.1)*(m.2.1-n.2.1)+(m.2.2-n.2.2)*(m.2.2-n.2.2)
def mR(least:Int)(f:AL)(n m:b9):cu mK:=ite (m.1≠n.1/\bL3 m n<least) [(3,f.1,-m.1,least-bL3 m n)] []
def nE(al:gp)(ag:hI):gp:=al.flatMap λn=>ite (na ag n.1=0) [n] []
def rD(f:AL):Int:=f.2.2.2.2.headD 0
noncomputable def qd(al:gp)(ag:hI)(least:Int)(f:AL):cu mK :=ite (om f.2.1=1/\na ag (rD f)=0) (ag.flatMap (oJ al ag least f (nodeAt al (rD f)))++(nE al ag).flatMap (mR least f (nodeAt al (rD f)))) []
def manyN(l:Au)(mc most:Int):Int:=((l.countP λf=>No (mc<f.2.2.1):Nat):Int)+max ((aa l:Int)-(l.countP λf=>No (mc<f.2.2.1):Nat)-most) 0
def so(l:Au)(mc most:Int):cu mK:=ite (0<manyN l mc most) [(4,0,0,manyN l mc most*257)] []
noncomputable def zd(al:gp)(ag:hI)(fs:eD)(l:Au)(mc mA tol gap most:Int):cu mK :=(((l.flatMap (mN al ag l mA)++ag.flatMap (mT al ag fs tol))++l.flatMap (qd al ag (gap*gap)))++so l mc most)++(mS ag l).flatMap (λi=>[(5,i,0,1)])
def bs2(a b c:Int):NS [a,b,c]=Z (ite (a=0) (ite (b=0) c b) a):=by
 unfold NS;refine(mP (A:=Unit) [a,b,c] (λi _=>(i:Int)) (λ_ rest=>Z (match rest.find? (λv=>No (v≠0))with|some v=>v|none=>0)) (by simp) ?_ ?_ ()).trans ?_;intro rec _;simp;intro rec i _ x rest a7 hd d;simp only[fB a7,b6,fm hd,bT,f' a7 (show aa [a,b,c]<2^62 by simp),fW];by_cases h:x=0;subst h;simpa using d ();simp[h]
 grind
def pI(a b:mK):Int:=ite (A_ a.1 b.1=0) (ite (A_ a.2.1 b.2.1=0) (A_ a.2.2.1 b.2.2.1) <|A_ a.2.1 b.2.1) <|A_ a.1 b.1
theorem bn9(a b:mK):HT (a,b)=Z (pI a b):=by unfold HT;simp only[cmp_eq,bT,bs2];rfl
theorem bb8{a b:Int}:A_ a b=0↔a=b:=by grind[A_]
theorem Ix{a b:mK}:pI a b<0↔a.1<b.1\/(a.1=b.1/\(a.2.1<b.2.1\/(a.2.1=b.2.1/\a.2.2.1<b.2.2.1))):=by grind[pI,bb8,uk]
theorem RB(l:cu mK):Ordered pI l :=IX (λx _=>by rw[Ix];omega) (λx _ y _ z _=>by simp only[Ix];omega) (λx _ y _ z _=>by simp only[Ix];omega)
def bh3{l:cu mK}(hl:aa l<=1000000):Em (l,4,())=Z (oy pI l):=by grind[Em,decide_true,Jw,bn9,RB]
def uz{X V β:Type}(xs:cu X){S:(Int×cu V->dv β)->Int×cu V->dv β}{K:Int×cu V->dv β}(g:X->cu V)(c N:Nat)(hl:aa xs<2^60)(d:∀x∈xs,aa (g x)<=c){acc0:cu V}(a:aa acc0<=N)
  (b:∀rec (i:Nat) acc x,i<aa xs->xs[i]?=Z x->x∈xs->aa acc<=N+c*i->S rec ((i:Int),acc)=rec (((i+1:Nat):Int),acc++g x)) :
  rounds (λk x=>cond (x.1<(aa xs:Int)) (S k x) <|K x) ((0:Int),acc0)=K ((aa xs:Int),acc0++xs.flatMap g):=by
 refine Up xs g c N hl d K a ?_ ?_
 grind
 grind[fB]
theorem aj9{v:Int}(h1:-35184372088832<=v)(h2:v<=35184372088832):bf qG v [ek (0-v)]=IH v:=by grind[yP,fx,IH]
def aY2{al:gp}{ag:hI}{fs:eD}(h:fp al ag fs){a:ct}(ha:a∈ag){p:eY}(hp:aa p=aa a.2.2.2.1+2){β:Type}{K:Int×Int->dv β}(m0:Int) :
  rounds (α:=Int×Int) (β:=β) (λg b=>cond (b.1<(aa a.2.2.2.1:Int)) (a8 (nth p b.1) λd=>a8 (nth p (ek (b.1+(1:Int)))) λe=>a8 (nth p (ek (b.1+(2:Int)))) λf=>
   a8 (IZ ((d.1,d.2),(e.1,e.2),(f.1,f.2))) λc=>
   cond (bf qG c [ek (0-c)]<b.2) (a8 (BE ((al,ag,fs),a.1,b.1)) λj=>
    cond j (g (ek (b.1+(1:Int)),bf qG c [ek (0-c)])) <|g (ek (b.1+(1:Int)),b.2)) <|g (ek (b.1+(1:Int)),b.2)) <|K b) ((0:Int),m0)=K ((aa a.2.2.2.1:Int),mL m0 (oP al ag fs a p (aT (aa a.2.2.2.1)))):=by
 have k:aa (aT (aa a.2.2.2.1))=aa a.2.2.2.1:=dO;have hv:=h.q4 ha;refine(vF (A:=Int) (aT (aa a.2.2.2.1)) (λi m=>((i:Int),m)) (λm rest=>K ((aa a.2.2.2.1:Int),mL m (oP al ag fs a p rest))) (λ_ _=>True) (by omega) ?_ ?_ m0 trivial);intro rec m _;rw[k];simp only[kj,bu];rfl;intro rec i m x rest a7 _ hd l;rw[k]at a7;have n:x=i:=by grind[gg,eA,fX,dN,aJ]
 subst n;have o:ek ((x:Int)+1)=((x+1:Nat):Int):=by grind[fx]
 have q:ek ((x:Int)+2)=((x+2:Nat):Int):=by grind[fx]
 have g1:p[x]?=Z p[x]:=af (by omega);have g2:p[x+1]?=Z p[x+1]:=af (by omega);have g3:p[x+2]?=Z p[x+2]:=af (by omega);have r:sP (p[x].1,p[x].2) (p[x+1].1,p[x+1].2) (p[x+2].1,p[x+2].2)=FW p x:=by unfold FW;rw[g1,g2,g3];rfl
 let ⟨s,t⟩:=TT (p[x].1,p[x].2) (p[x+1].1,p[x+1].2) (p[x+2].1,p[x+2].2);simp only[fB a7,b6,o,q,zB,g1,g2,g3,bT,bG3]
 grind[aj9,bs3,IH,FW,oP,zq,decide_true,bT,mL,decide_false]
def T3{al:gp}{ag:hI}{ps:eD}{B:Int}(c:0<=B):∀ {r:hI},(∀a∈r,-B<=uY al ag a/\uY al ag a<=B)->-(B*(aa r:Int))<=qo al ag ps r/\qo al ag ps r<=B*(aa r:Int)
 | [],_=>by simp[qo]
 |a::r,h=>by
  have h1:=h a (by simp);have h2:=T3 (al:=al) (ag:=ag) (ps:=ps) c (r:=r) λb d=>h b (by simp[d]);unfold qo;rw[aA,Int.natCast_add,Int.mul_add]
  grind
def bh0{al:gp}{ag:hI}{fs:eD}(h:fp al ag fs){a:ct}(ha:a∈ag):-571746046443520<=uY al ag a/\uY al ag a<=571746046443520:=by
 have f:=h.num ha;have b:a.1=la a.1:=by unfold la;omega
 let ⟨p0,pl,c,e,c0,cl⟩:=h.It (d:=a.1) ⟨a,ha,b⟩;rw[<-b]at c;let ⟨g,i⟩:=Nd pl p0 c0 cl
 grind[uY,oZ]
def T2{al:gp}{ag:hI}{fs:eD}(h:fp al ag fs)(l:Au)(id:Int):-146366987889541120<=wu al ag l id/\wu al ag l id<=146366987889541120:=by
 have b:=h.pA;unfold wu;cases qc l id with
 |none=>simp
 |some f =>dsimp only;split;let ⟨c,d⟩:=T3 (al:=al) (ag:=ag) (ps:=f.2.2.2.2) (B:=571746046443520) (by decide) (r:=ag) λa ha=>bh0 h ha;omega;omega
theorem PM{p:bs}(h:yU p=Y):-1048576<=p.1/\p.1<=1048576/\-1048576<=p.2/\p.2<=1048576:=by simpa[yU,and_assoc]using h
def T0(al:gp)(ag:hI):aa (nE al ag)<=aa al:=by have:=mO (g:=λn:b9=>ite (na ag n.1=0) [n] []) (c:=1) (xs:=al) (λf _=>by split<;>simp);show aa (al.flatMap _)<=_;omega
def TY{al:gp}{ag:hI}{n:b9}(h:n∈nE al ag):n∈al:=by let ⟨m,hm,h⟩:=bW.1 h;split at h;simp only[bz]at h;rw[h];exact hm;simp at h
def PA{al:gp}{ag:hI}(h1:aa al<=256)(h2:aa ag<=256)(least:Int)(f:AL):aa (qd al ag least f)<=512:=by unfold qd;split;have l2:=mO (g:=oJ al ag least f (nodeAt al (rD f))) (c:=1) (xs:=ag) (λf _=>by unfold oJ;split<;>simp);have x8:=mO (g:=mR least f (nodeAt al (rD f))) (c:=1) (xs:=nE al ag) (λf _=>by unfold mR;split<;>simp);have pG:=T0 al ag;rw[aL];omega;simp
def Oz{al:gp}{ag:hI}{fs:eD}(h:fp al ag fs){n:b9}(a:n∈al):1<=n.1/\n.1<=1073741824:=by have:=aj.1 h.Oz n.1 (aX a);simpa[qL]using this
def T6(l:Au)(mc:Int)(hl:aa l<=128){β:Type}{K:Int×Int->dv β} :
  rounds (α:=Int×Int) (β:=β) (λk x=>cond (x.1<(aa l:Int)) (a8 (nth l x.1) λb=>cond (mc<b.2.2.1) (k (ek (x.1+(1:Int)),ek (x.2+(1:Int)))) <|k (ek (x.1+(1:Int)),x.2)) <|K x) ((0:Int),(0:Int))=K ((aa l:Int),((l.countP λf=>No (mc<f.2.2.1):Nat):Int)):=by
 refine(vF (A:=Nat) l (λi a=>((i:Int),(a:Int))) (λa rest=>K ((aa l:Int),((a+rest.countP (λf=>No (mc<f.2.2.1)):Nat):Int))) (λi a=>a<=i) (by omega) ?_ ?_ 0 (by simp)).trans (by simp);intro rec a _;simp only[kj,bu,List.countP_nil,eC];intro rec i a x rest a7 g hd d;simp only[fB a7,b6,fm hd,bT,pz a7 (show aa l<=1000000 by omega),iR];by_cases c:mc<x.2.2.1;have e:ek ((a:Int)+1)=((a+1:Nat):Int):=by rw[fx];omega
 simp only[c,l6,b6,e,vE];rw[d (a+1) (by omega)];congr 3;omega;simp only[c,n4,bu,aF,l4,eC];exact d a (by omega)
def aQ2{al:gp}{ag:hI}{fs:eD}{l:Au}{b4 mc mA tol gap most:Int}(hA:0<=mA/\mA<=4398046511104)(cb:0<=tol/\tol<=4398046511104)(H:0<=gap/\gap<=64)(hM:0<=most/\most<=128)
  (hc:pM (b4,mc,mA,tol,gap,most)=Z 0) (D:pD al ag fs l=0) :
  qH ((al,ag,fs,l),(b4,mc,mA,tol,gap,most))=Z (oy pI (zd al ag fs l mc mA tol gap most),0):=by
 have h:=(Ep D).pl;have hl:=(Ep D).len;have I:=(Ep D).parts;have lN:=h.qF;have lA:=h.pA;have S:0<=gap*gap/\gap*gap<=4096:=by refine⟨aB H.1 H.1,?_⟩;have:=kH H.2 H.2 H.1 (by decide);simpa using this
 unfold qH;simp only[bT,hc,E1,D,l6,ar,bu];refine(uz l (mN al ag l mA) 1 0 (by omega) (λf _=>by unfold mN;split<;>simp) (by simp) ?_).trans ?_;intro rec i acc f a7 d hm hlen;have hpl:∀f∈l,aa f.2.2.2.2<=1000000:=λf hf=>by have:=I f hf;omega
 have v:=h.aI4 l f.1 (by omega) hpl;let ⟨b1,b2⟩:=T2 h l f.1;have v:H2 ((al,ag,fs,l),f.1)=Z (wu al ag l f.1):=v;simp only[q3 d,bT,BH,v,pz a7 (show aa l<=1000000 by omega)];by_cases c1:om f.2.1=3;simp only[c1,l6,ar,bu];by_cases c2:wu al ag l f.1<mA;simp only[c2,l6,b6];rw[m9,fx];simp only[bT,mN,c1,c2,qj,vE];simp only[c2,n4,bu];simp only[mN,c1,c2,qj,l4,ba];simp only[c1,n4,aQ,b6];simp only[mN,c1,false_and,l4,ba];dsimp only;have len1:=mO (g:=mN al ag l mA) (c:=1) (xs:=l) (λf _=>by unfold mN;split<;>simp);refine(uz ag (mT al ag fs tol) 1 128 (by omega) (λf _=>by unfold mT;split<;>simp) (by rw[br];omega) ?_).trans ?_;intro rec i acc a a7 d hm hlen;let ⟨f,t,_,_,hp,_,_⟩:=h.path hm;simp only[q3 d,bT,h.Hz,hp,l6,ar,bu,pz a7 (show aa ag<=1000000 by omega)];refine(aY2 h hm (by simp) tol).trans ?_;have e:vX al ag fs a tol=mL tol (oP al ag fs a ((f.2.1,f.2.2)::(a.2.2.2.1++[(t.2.1,t.2.2)])) (aT (aa a.2.2.2.1))):=by unfold vX;rw[hp]
 rw[<-e];have lb:0<=vX al ag fs a tol:=by rw[e];exact IA cb.1 Po
 dsimp only;by_cases c:vX al ag fs a tol<tol;simp only[c,l6,b6];rw[m9,fx];simp only[bT,mT,c,vE];simp only[c,n4,bu,mT,l4,ba];dsimp only;have len2:=mO (g:=mT al ag fs tol) (c:=1) (xs:=ag) (λf _=>by unfold mT;split<;>simp);refine(uz al (λn=>ite (na ag n.1=0) [n] []) 1 0 (by omega) (λf _=>by split<;>simp) (by simp) ?_).trans ?_;intro rec i acc n a7 d hm hlen;simp only[q3 d,bT,MR al ag fs n.1 (show aa ag<=1000000 by omega),pz a7 (show aa al<=1000000 by omega)];by_cases c:na ag n.1=0;have c':No (((na ag n.1:Nat):Int)=0)=Y:=by simp[c]
 simp only[c',b6];rw[m9];simp only[bT,c,vE];have c':No (((na ag n.1:Nat):Int)=0)=U:=fc (by omega);simp only[c',bu,c,l4,ba];dsimp only;rw[show([]++al.flatMap (λn=>ite (na ag n.1=0) [n] []))=nE al ag from rfl];have lenAl:=T0 al ag;have wg:ek (gap*gap)=gap*gap:=fx;simp only[wg];refine(uz l (qd al ag (gap*gap)) 512 384 (by omega) (λf _=>PA (by omega) (by omega) (gap*gap) f) (by rw[br,aL];omega) ?_).trans ?_
 .intro rec i acc f a7 d hm hlen
  simp only[q3 d,bT,BH,pz a7 (show aa l<=1000000 by omega)];by_cases c1:om f.2.1=1;rotate_left;simp only[c1,n4,aQ,b6,qd,false_and,l4,ba];obtain⟨p0,J,K⟩:∃p0 J,f.2.2.2.2=p0::J:=by
   cases M:f.2.2.2.2 with
   |nil=>exact b8 M ((Ep D).bN1 f hm)
   |cons p0 J=>exact⟨p0,J,rfl⟩
  have j:rD f=p0:=by unfold rD;rw[K];rfl
  have n0:nth (p0::J) (0:Int)=Z p0:=rfl;simp only[c1,l6,ar,bu,K,n0,bT,MR al ag fs p0 (show aa ag<=1000000 by omega)];by_cases c2:na ag p0=0;rotate_left;have w:No ((0:Int)<((na ag p0:Nat):Int))=Y:=hT (by omega);simp only[w,b6,qd,j,c2,and_false,l4,ba];have w:No ((0:Int)<((na ag p0:Nat):Int))=U:=fc (by omega);obtain⟨b,hb⟩:∃b,xt ((al,ag,fs),p0)=Z (nodeAt al p0,b):=by
   rw[h.Hw];unfold nodeAt;cases nQ al p0 with
   |none=>exact⟨U,rfl⟩
   |some n=>exact⟨Y,rfl⟩
  have o:yU ((nodeAt al p0).2.1,(nodeAt al p0).2.2)=Y:=by
   unfold nodeAt;cases M:nQ al p0 with
   |none=>rfl
   |some n=>exact h.tt (bh M)
  simp only[w,bu,hb,bT];generalize hnd:nodeAt al p0=j0 at o;have p:=rS o;have hpb:=PM o;have hi128:aa acc<=65920:=by omega
  refine(uz ag (oJ al ag (gap*gap) f j0) 1 (aa acc) (by omega) (λf _=>by unfold oJ;split<;>simp) (Nat.le_refl _) ?_).trans ?_;intro rec i u a a7 d z r;let ⟨E,G,_,_,hp,_,_⟩:=h.path z;have hPe:wE ((al,ag,fs),a.1)=Z ((E.2.1,E.2.2)::(a.2.2.2.1++[(G.2.1,G.2.2)]),0):=by rw[h.Hz,hp]
  have N:∀q∈(E.2.1,E.2.2)::(a.2.2.2.1++[(G.2.1,G.2.2)]),d' q=Y:=λq M=>rS (h.D0 z hp q M);have hd:=aT6 (most:=gap*gap) (at':=(j0.2.1,j0.2.2)) hPe (by have:=h.q4 z;simp;omega) N p;have hdn:=Ur N p;have e:vw al ag a (j0.2.1,j0.2.2) (gap*gap)=mL (gap*gap) (yR ((E.2.1,E.2.2)::(a.2.2.2.1++[(G.2.1,G.2.2)])) (j0.2.1,j0.2.2)):=by unfold vw;rw[hp]
  rw[<-e]at hd;have lb:0<=vw al ag a (j0.2.1,j0.2.2) (gap*gap):=by rw[e];exact IA S.1 hdn
  simp only[q3 d,bT,hd,pz a7 (show aa ag<=1000000 by omega)];by_cases c:vw al ag a (j0.2.1,j0.2.2) (gap*gap)<gap*gap;simp only[c,l6,b6];rw[m9,fx];simp only[bT,oJ,c,vE];simp only[c,n4,bu,oJ,l4,ba];dsimp only;have len3:=mO (g:=oJ al ag (gap*gap) f j0) (c:=1) (xs:=ag) (λf _=>by unfold oJ;split<;>simp);refine(uz (nE al ag) (mR (gap*gap) f j0) 1 66500 (by omega) (λf _=>by unfold mR;split<;>simp) (by rw[aL];omega) ?_).trans ?_;intro rec i u m a7 d B r;have hmp:=PM (h.tt (TY B));have fa:(No ((0:Int)<=(i:Int))&&No ((i:Int)<(aa (nE al ag):Int)))=Y:=by simp;omega
  have w1:ek (m.2.1-j0.2.1)=m.2.1-j0.2.1:=fx;have w2:ek (m.2.2-j0.2.2)=m.2.2-j0.2.2:=fx;let ⟨m1,m2⟩:=vR (a:=m.2.1-j0.2.1) (b:=m.2.1-j0.2.1) (m:=2097152) (n:=2097152);let ⟨m3,m4⟩:=vR (a:=m.2.2-j0.2.2) (b:=m.2.2-j0.2.2) (m:=2097152) (n:=2097152);have q5:=sq_nonneg (m.2.1-j0.2.1);have nj:=sq_nonneg (m.2.2-j0.2.2);have w3:ek ((m.2.1-j0.2.1)*(m.2.1-j0.2.1))=(m.2.1-j0.2.1)*(m.2.1-j0.2.1):=fx;have w4:ek ((m.2.2-j0.2.2)*(m.2.2-j0.2.2))=(m.2.2-j0.2.2)*(m.2.2-j0.2.2):=fx;have w5:ek ((m.2.1-j0.2.1)*(m.2.1-j0.2.1)+(m.2.2-j0.2.2)*(m.2.2-j0.2.2))=bL3 m j0:=fx;have esq:bL3 m j0=(m.2.1-j0.2.1)*(m.2.1-j0.2.1)+(m.2.2-j0.2.2)*(m.2.2-j0.2.2):=rfl;simp only[fa,b6,bT,aO,d,ai,w1,w2,w3,w4,w5,pz a7 (show aa (nE al ag)<=1000000 by omega)];by_cases c:m.1=j0.1;simp only[c,l6,ar,bu,mR,ne_eq,not_true_eq_false,false_and,l4,ba];simp only[c,n4,aQ,b6];by_cases c5:bL3 m j0<gap*gap;have hmn:=Oz h (TY B);simp only[c5,l6,b6];rw[m9,fx (n:=0-m.1),fx];simp only[bT,mR,c,c5,ne_eq,not_false_eq_true,qj,vE,mu];simp only[c5,n4,bu,mR,and_false,l4,ba];simp only[pz a7 (show aa l<=1000000 by omega),qd,j,c1,c2,and_self,vE,hnd,cz]
 dsimp only;have len4:=mO (g:=qd al ag (gap*gap)) (c:=512) (xs:=l) (λf _=>PA (by omega) (by omega) (gap*gap) f);refine(T6 l mc hl).trans ?_;dsimp only;have O:l.countP (λf=>No (mc<f.2.2.1))<=aa l:=gQ;generalize hk:l.countP (λf=>No (mc<f.2.2.1))=k at O;have w1:ek ((aa l:Int)-(k:Int))=(aa l:Int)-(k:Int):=fx;have w2:ek ((aa l:Int)-(k:Int)-most)=(aa l:Int)-(k:Int)-most:=fx;have w3:ek ((k:Int)+max ((aa l:Int)-(k:Int)-most) 0)=manyN l mc most:=by unfold manyN;rw[hk];exact fx
 have hmn:manyN l mc most=(k:Int)+max ((aa l:Int)-(k:Int)-most) 0:=by unfold manyN;rw[hk]
 have hun:=aW6 D (show aa ag<=1000 by omega) (show aa l<=1000000 by omega) (λf hf=>by have:=I f hf;omega);have P:=mO (g:=λa:ct=>ite (l.any (pC a)) [] [a.1]) (c:=1) (xs:=ag) (λa _=>by split<;>simp);have P:aa (mS ag l)<=1*aa ag:=P;have tail:∀acc:cu mK,aa acc<=70000->rounds (α:=Int×cu mK) (β:=cu mK×Int) (λk x=>cond (x.1<(aa (mS ag l):Int)) (a8 (nth (mS ag l) x.1) λs=>a8 (j6 32 x.2 [((5:Int),s,(0:Int),(1:Int))]) λQ=>k (ek (x.1+(1:Int)),Q)) <|a8 (Em (x.2,(4:Int),())) λs=>Z (s,(0:Int))) ((0:Int),acc)=Z (oy pI (acc++(mS ag l).flatMap (λi=>[(5,i,0,1)])),0):=by intro acc R;refine(uz (mS ag l) (λi=>[((5:Int),i,(0:Int),(1:Int))]) 1 70000 (by omega) (λf _=>by simp) R ?_).trans ?_;intro rec i u m a7 d B r;simp only[q3 d,bT,pz a7 (show aa (mS ag l)<=1000000 by omega)];rw[m9];rfl;dsimp only;have len5:=mO (g:=λi:Int=>[((5:Int),i,(0:Int),(1:Int))]) (c:=1) (xs:=mS ag l) (λf _=>by simp);rw[bh3 (by rw[aL];omega)];rfl
 simp only[w1,w2,yP,w3,hun,bT];by_cases c:0<manyN l mc most;have C:so l mc most=[(4,0,0,manyN l mc most*257)]:=by unfold so;rw[cr c]
 simp only[c,l6,b6];rw[m9 (by omega) (by simp only[aL,cP,aA,br];omega),fx];simp only[bT];refine(tail _ (by simp only[aL,cP,aA,br];omega)).trans ?_;unfold zd;rw[C];rfl;have C:so l mc most=[]:=by unfold so;rw[cc c]
 simp only[c,n4,bu];refine(tail _ (by simp only[aL,cP,br];omega)).trans ?_;unfold zd;rw[C,ba];rfl
def Sg{α β:Type}{F:(α->dv β)->α->dv β}(I:α->Prop)(a:α->Nat)(Q:β->Prop)(h:∀rec x,I x->(∀y,I y->a y<a x->∃v,rec y=Z v/\Q v)->∃v,F rec x=Z v/\Q v){x:α}(b:I x)(hm:a x<2^100):∃v,rounds F x=Z v/\Q v:=V5 I a (λo=>∃v,o=Z v/\Q v) h b hm
def RX{α:Type}{xs:cu α}{i:Int}(b:0<=i)(h1:i<(aa xs:Int)):∃v,nth xs i=Z v/\v∈xs:=by
 have a:i.toNat<aa xs:=by omega
 refine⟨xs[i.toNat],?_,au a⟩;rw[aD4 b];exact af a
def bc5(l:eY)(hl:aa l<=1000000):∃v,Lo l=Z v/\True:=by unfold Lo;cases l;exact⟨_,rfl,trivial⟩;rename_i p l;have a:No (((aa (p::l):Nat):Int)=0)=U:=fc (by simp;omega);have n0:nth (p::l) (0:Int)=Z p:=rfl;simp only[a,bu,n0,bT];refine Sg (λy:Int×Int×b9=>0<=y.1) (λy=>(((aa (p::l):Nat):Int)-y.1).toNat) _ ?_ (by simp) (by grind);intro rec x b d;by_cases c:x.1<((aa (p::l):Nat):Int);let ⟨q,f,_⟩:=RX (xs:=p::l) b c;have e:ek (x.1+1)=x.1+1:=fx;simp only[c,l6,b6,f,bT,e];exact d _ (by simp only;omega) (by simp only;omega);simp only[c,n4,bu];exact⟨_,rfl,trivial⟩
def aW8(al:gp)(ag:hI)(fs:eD)(hv:∀a∈ag,aa a.2.2.2.1<=4611686018427387904):∃v,MK (al,ag,fs)=Z v/\(v=Y->aa al<=30/\aa ag<=30/\aa fs<=30):=by
 unfold MK;simp only[bT];by_cases h1:(30:Int)<(aa al:Int);simp only[h1,l6,b6];exact⟨_,rfl,nofun⟩;by_cases h2:(30:Int)<(aa ag:Int);simp only[h1,h2,l6,n4,b6,bu];exact⟨_,rfl,nofun⟩;by_cases g:(30:Int)<(aa fs:Int);simp only[h1,h2,g,l6,n4,b6,bu];exact⟨_,rfl,nofun⟩;simp only[h1,h2,g,n4,bu];have h:∀v:Bool,v=Y->aa al<=30/\aa ag<=30/\aa fs<=30:=λ_ _=>by omega
 refine Sg (λy:eY×Int=>0<=y.2/\y.2<=(aa al:Int)/\(aa y.1:Int)<=y.2) (λy=>((aa al:Int)-y.2).toNat) _ ?_ ⟨by decide,by simp only;omega,by simp⟩ (by simp only;omega);intro rec x k l;let ⟨m,t,u⟩:=k;by_cases c:x.2<(aa al:Int);let ⟨q,b,_⟩:=RX (xs:=al) m c;have e:ek (x.2+1)=x.2+1:=fx;simp only[c,l6,b6,b,bT,e];rw[m9,bT];exact l _ ⟨by simp only;omega,by simp only;omega,by simp;omega⟩ (by simp only;omega);simp only[c,n4,bu];refine Sg (λy:eY×Int=>0<=y.2/\aa y.1<=180) (λy=>((aa ag:Int)-y.2).toNat) _ ?_ ⟨by simp,by simp only;omega⟩ (by simp only;omega);intro i y n d;let ⟨o,w⟩:=n;by_cases c2:y.2<(aa ag:Int);let ⟨q,b,f⟩:=RX (xs:=ag) o c2;have p:=hv q f;have e:ek (y.2+1)=y.2+1:=fx;have r:ek ((aa y.1:Int)+(aa q.2.2.2.1:Int))=(aa y.1:Int)+(aa q.2.2.2.1:Int):=fx;simp only[c2,l6,b6,b,bT,e,r];by_cases j:(180:Int)<(aa y.1:Int)+(aa q.2.2.2.1:Int);simp only[j,l6,b6];exact⟨_,rfl,h _⟩;simp only[j,n4,bu];rw[m9,bT];exact d _ ⟨by simp only;omega,by simp;omega⟩ (by simp only;omega);let ⟨v,s,_⟩:=bc5 y.1 (by omega);simp only[c2,n4,bu,s,bT];cases No ((-1073741824:Int)<=v.1)<;>cases No ((-1073741824:Int)<=v.2.1)<;>cases No (v.2.2.1<=(1073741824:Int))<;>cases No (v.2.2.2<=(1073741824:Int))<;>cases No (ek (v.2.2.1-v.1)<=(3000:Int))<;>exact⟨_,rfl,h _⟩
def aW7(al:gp)(ag:hI)(fs:eD)(l:Au)(hv:∀a∈ag,aa a.2.2.2.1<=4611686018427387904):∃v,Nn (al,ag,fs,l)=Z v/\(v=Y->aa al<=30/\aa ag<=30/\aa fs<=30/\aa l<=20/\∀f∈l,aa f.2.2.2.2<=40):=by
 let ⟨b,d,h⟩:=aW8 al ag fs hv;unfold Nn;simp only[d,bT];cases b;exact⟨_,rfl,nofun⟩;let ⟨g,j,k⟩:=h rfl;simp only[ar,bu];by_cases h1:(20:Int)<(aa l:Int)
 grind[decide_true]
 simp only[h1,n4,bu];refine vB (A:=Unit) l (λi _=>(i:Int)) (λo=>∃b,o=Z b/\(b=Y->aa al<=30/\aa ag<=30/\aa fs<=30/\aa l<=20/\∀f∈l,aa f.2.2.2.2<=40)) (λi _=>∀f∈l.take i,aa f.2.2.2.2<=40) (by omega) ?_ ?_ () (by simp)
 grind[bN]
 intro rec i _ x rest a7 m hd e;simp only[fB a7,b6,fm hd,bT,f' a7 (show aa l<2^62 by omega)];by_cases c:(40:Int)<(aa x.2.2.2.2:Int)
 grind[decide_eq_true]
 rw[fc c,bu];cases No ((100:Int)<(x.2.2.2.1.size:Int))with
 |true=>exact⟨_,rfl,nofun⟩
 |false=>
  refine e () λf hf=>?_
  grind[bn,oU]
def T_(n b7 a7:Int):xW (n,b7,a7)=Z (No (b7<=n)&&No (n<=a7)):=by grind[xW,bT]
theorem aR2(x:Int×Int×Int×b9):∃c,pM x=Z c/\(c=0->1<=x.2.1/\x.2.1<=9/\0<=x.2.2.1/\x.2.2.1<=4398046511104/\0<=x.2.2.2.1/\x.2.2.2.1<=4398046511104/\0<=x.2.2.2.2.1/\x.2.2.2.2.1<=64/\0<=x.2.2.2.2.2/\x.2.2.2.2.2<=128):=by
 unfold pM;simp only[T_,bT];cases h1:(No (1<=x.1)&&No (x.1<=1073741824))with
 |false=>exact⟨2,rfl,λh=>b8 h (by decide)⟩
 |true=>
 cases h2:(No (1<=x.2.1)&&No (x.2.1<=9))with
 |false=>exact⟨2,rfl,λh=>b8 h (by decide)⟩
 |true=>
 cases a:(No (0<=x.2.2.1)&&No (x.2.2.1<=4398046511104))with
 |false=>exact⟨2,rfl,λh=>b8 h (by decide)⟩
 |true=>
 cases b:(No (0<=x.2.2.2.1)&&No (x.2.2.2.1<=4398046511104))with
 |false=>exact⟨2,rfl,λh=>b8 h (by decide)⟩
 |true=>
 cases d:(No (0<=x.2.2.2.2.1)&&No (x.2.2.2.2.1<=64))with
 |false=>exact⟨2,rfl,λh=>b8 h (by decide)⟩
 |true=>
 cases e:(No (0<=x.2.2.2.2.2)&&No (x.2.2.2.2.2<=128))with
 |false=>exact⟨2,rfl,λh=>b8 h (by decide)⟩
 |true=>
  refine⟨0,rfl,λ_=>?_⟩
  grind
def aP4{al:gp}{ag:hI}{fs:eD}{l:Au}{s:Int×Int×Int×b9}{c:Int}(hc:pM s=Z c)(h:c≠0):qH ((al,ag,fs,l),s)=Z ([],c):=by grind[qH,pM,bT,decide_false,aQ]
def aP7{al:gp}{ag:hI}{fs:eD}{l:Au}{s:Int×Int×Int×b9}(hc:pM s=Z 0)(h:pD al ag fs l≠0):qH ((al,ag,fs,l),s)=Z ([],pD al ag fs l):=by grind[qH,pM,bT,decide_true,ar,E1,decide_false,aQ]
theorem Im{al:gp}{ag:hI}{l:Au}{mA:Int}{f:AL}{v:mK}(h:v∈mN al ag l mA f):v.1=1/\v.2.1=f.1/\v.2.2.1=0/\1<=v.2.2.2:=by unfold mN at h;split at h;rename_i hc;simp only[bz]at h;subst h;exact⟨rfl,rfl,rfl,by show 1<=mA-_;omega⟩;simp at h
theorem Iz{al:gp}{ag:hI}{fs:eD}{tol:Int}{a:ct}{v:mK}(h:v∈mT al ag fs tol a):v.1=2/\v.2.1=a.1/\v.2.2.1=0/\1<=v.2.2.2:=by unfold mT at h;split at h;rename_i hc;simp only[bz]at h;subst h;exact⟨rfl,rfl,rfl,by show 1<=tol-_;omega⟩;simp at h
theorem RI{al:gp}{ag:hI}{least:Int}{f:AL}{n:b9}{a:ct}{v:mK}(h:v∈oJ al ag least f n a):v.1=3/\v.2.1=f.1/\v.2.2.1=a.1/\1<=v.2.2.2:=by unfold oJ at h;split at h;rename_i hc;simp only[bz]at h;subst h;exact⟨rfl,rfl,rfl,by show 1<=least-_;omega⟩;simp at h
theorem RH{least:Int}{f:AL}{n m:b9}{v:mK}(h:v∈mR least f n m):v.1=3/\v.2.1=f.1/\v.2.2.1=-m.1/\1<=v.2.2.2:=by unfold mR at h;split at h;rename_i hc;simp only[bz]at h;subst h;exact⟨rfl,rfl,rfl,by show 1<=least-_;omega⟩;simp at h
theorem bk3{al:gp}{ag:hI}{least:Int}{f:AL}{v:mK}(h:v∈qd al ag least f):v.1=3/\v.2.1=f.1/\1<=v.2.2.2:=by
 unfold qd at h;split at h;rcases aV.1 h with h|h
 let ⟨a,_,h⟩:=bW.1 h;have:=RI h;exact⟨this.1,this.2.1,this.2.2.2⟩;let ⟨a,_,h⟩:=bW.1 h;have:=RH h;exact⟨this.1,this.2.1,this.2.2.2⟩;simp at h
theorem P5{l:Au}{mc most:Int}{v:mK}(h:v∈so l mc most):v.1=4/\1<=v.2.2.2:=by unfold so at h;split at h;simp only[bz]at h;subst h;exact⟨rfl,by show 1<=manyN l mc most*257;omega⟩;simp at h
def IU{V:Type}{R:V->V->Prop}{c:Prop}[Decidable c]{v:V}:(ite c [v] ([]:cu V)).Pairwise R:=by split<;>simp
theorem ba5{al:gp}{ag:hI}{fs:eD}{l:Au}{mc mA tol gap most:Int}(dC:FX al ag fs l):aa (zd al ag fs l mc mA tol gap most)<=100000:=by
 have m:=dC.pl.qF;have n:=dC.pl.pA;have hl:=dC.len;have d:=mO (g:=mN al ag l mA) (c:=1) (xs:=l) (λf _=>by unfold mN;split<;>simp);have e:=mO (g:=mT al ag fs tol) (c:=1) (xs:=ag) (λf _=>by unfold mT;split<;>simp);have h:=mO (g:=qd al ag (gap*gap)) (c:=512) (xs:=l) (λf _=>PA (by omega) (by omega) (gap*gap) f);have b:=mO (g:=λa:ct=>ite (l.any (pC a)) [] [a.1]) (c:=1) (xs:=ag) (λa _=>by split<;>simp);have b:aa (mS ag l)<=1*aa ag:=b;have j:=mO (g:=λi:Int=>[((5:Int),i,(0:Int),(1:Int))]) (c:=1) (xs:=mS ag l) (λf _=>by simp);have k:aa (so l mc most)<=1:=by unfold so;split<;>simp
 unfold zd;simp only[aL];omega
noncomputable def vz(al:gp)(ag:hI)(least:Int)(f:AL):cu mK :=ite (om f.2.1=1/\na ag (rD f)=0) ((nE al ag).reverse.flatMap (mR least f (nodeAt al (rD f)))++ag.flatMap (oJ al ag least f (nodeAt al (rD f)))) []
noncomputable def Dx(al:gp)(ag:hI)(fs:eD)(l:Au)(mc mA tol gap most:Int):cu mK :=(((l.flatMap (mN al ag l mA)++ag.flatMap (mT al ag fs tol))++l.flatMap (vz al ag (gap*gap)))++so l mc most)++(mS ag l).flatMap (λi=>[(5,i,0,1)])
def T5{α β:Type}{f g:α->cu β}:∀ {l:cu α},(∀x∈l,(f x).Perm (g x))->(l.flatMap f).Perm (l.flatMap g)
 | [],_=>.refl _
 |x::l,h=>by rw[db,db];exact(h x aR).append (T5 λy a=>h y (bC _ a))
theorem bf0{α β:Type}(f:α->cu β)(l:cu α):(l.reverse.flatMap f).Perm (l.flatMap f):=(List.reverse_perm l).flatMap_right f
theorem RF(al:gp)(ag:hI)(least:Int)(f:AL):(vz al ag least f).Perm (qd al ag least f):=by grind[vz,qd,bf0,List.perm_append_comm]
def T9(al:gp)(ag:hI)(fs:eD)(l:Au)(mc mA tol gap most:Int):(Dx al ag fs l mc mA tol gap most).Perm (zd al ag fs l mc mA tol gap most):=by unfold Dx zd;exact(((T5 λf _=>RF al ag _ f).append_left _).append_right _).append_right _
theorem ai6{α:Type}{R:α->α->Prop}:∀ {l:cu α},l.Pairwise R->∀ {a b:α},a∈l->b∈l->a=b\/R a b\/R b a
 | [],_,_,_,ha,_=>by cases ha
 |x::l,h,a,b,ha,g=>by
  rw[aU]at h;rcases aG.1 ha with e|c<;>rcases aG.1 g with f|d
  exact .inl (e.trans f.symm);exact .inr (.inl (e▸h.1 b d));exact .inr (.inr (f▸h.1 a c));exact ai6 h.2 c d
def Gk{al:gp}{ag:hI}{fs:eD}(h:fp al ag fs){a:ct}(ha:a∈ag):1<=a.1/\a.1<=1073741824:=by have:=aj.1 h.Gk a.1 (aX ha);simpa[qL]using this
def bb7{L R:cu mK}(hp:R.Perm L)(hs:R.Pairwise (pI · ·<0)):oy pI L=R:=by
 have h1:=tG (RB L);have h2:=Da (RB L);have c:=h1.trans hp.symm;have d:∀a∈R,∀b∈R,a=b\/pI a b<0\/pI b a<0:=by grind[ai6]
 refine List.Perm.eq_of_pairwise (le:=λa b=>¬pI b a<0) ?_ h2 (hs.imp λ{a b} h=>?_) c
 grind[absurd]
 grind[Ix]
def aT3{al:gp}{ag:hI}{fs:eD}{l:Au}{mc mA tol gap most:Int}(dC:FX al ag fs l):(Dx al ag fs l mc mA tol gap most).Pairwise (pI · ·<0):=by
 have d:=dC.pl;have e:ag.Pairwise (·.1<·.1):=cE.1 (pq d.rX);have p:al.Pairwise (·.1<·.1):=cE.1 (pq d.vL);have j:(nE al ag).Pairwise (·.1<·.1):=by grind[nE]
 have k:∀n∈nE al ag,n∈al:=by grind[nE]
 have q:∀ {f:AL} {v:mK},v∈vz al ag (gap*gap) f->v.1=3/\v.2.1=f.1:=by
  intro f v h
  grind[bk3,RF]
 unfold Dx;simp only[fP,gR,aV,bW,Ix];refine⟨⟨⟨⟨⟨λf _=>IU,dC.aj0.imp λ{f g} h a ha b c=>?_⟩,⟨λf _=>IU,e.imp λ{f g} h a ha b c=>?_⟩,?_⟩,⟨λf _=>?_,dC.aj0.imp λ{f g} h a ha b c=>?_⟩,?_⟩,?_,?_⟩,?_,?_⟩
 grind[Im]
 grind[Iz]
 rintro a ⟨f,_,ha⟩ b ⟨g,_,c⟩
 grind[Im,Iz]
 unfold vz;split;simp only[fP,gR,bW];refine⟨⟨λf _=>IU,jR.2 (j.imp λ{f g} h a ha b c=>?_)⟩,⟨λf _=>IU,e.imp λ{f g} h a ha b c=>?_⟩,?_⟩
 grind[RH]
 grind[RI]
 rintro a ⟨n,m,ha⟩ b ⟨x,o,c⟩;have r:=RH ha;have s:=RI c;have h1:=Oz d (k n (eG.1 m));have h2:=Gk d o;omega;simp
 grind
 rintro a (⟨f,_,ha⟩|⟨f,_,ha⟩) b ⟨g,_,c⟩
 grind[Im]
 grind[Iz]
 unfold so;exact IU;rintro a ((⟨f,_,ha⟩|⟨f,_,ha⟩)|⟨f,_,ha⟩) b c
 grind[Im,P5]
 grind[Iz,P5]
 grind[P5]
 refine⟨λa _=>by simp,?_⟩;unfold mS;rw[gR];refine⟨λa _=>by split<;>simp,e.imp λ{f g} h a ha b c=>?_⟩
 grind
 rintro a (((⟨f,_,ha⟩|⟨f,_,ha⟩)|⟨f,_,ha⟩)|ha) b ⟨i,_,c⟩
 grind[Im]
 grind[Iz]
 grind
 grind[P5]
def bi8{al:gp}{ag:hI}{fs:eD}{l:Au}{mc mA tol gap most:Int}(dC:FX al ag fs l):oy pI (zd al ag fs l mc mA tol gap most)=Dx al ag fs l mc mA tol gap most:=bb7 (T9 ..) (aT3 dC)
namespace Dp
def E2(p q r v:bs):Bool:=vq v p&&(vq v q&&(vq v r&&Cv p q r v))
theorem Ui{p q r v:bs}(hp:d' p=Y)(a:d' q=Y)(b:d' r=Y)(hv:d' v=Y):E2 p q r v=mb p q r v:=by unfold E2 mb;rw[bh4 hp a b hv]
def bk7(p q r:bs)(L:eY)(hl:aa L<2^62)(K:dv Bool):rounds (α:=Int) (β:=Bool) (λg c=>
    a8 (Z (aa (L):Int)) λm=>
    a8 (Z (No (c<m))) λn=>
    cond n (
    a8 (nth L c) λh=>
    a8 (nth [p,q,r] (0:Int)) λj=>
    a8 (Z (!((λ(a b:Int×Int)=>(No (a.1=b.1)&&No (a.2=b.2))) (h.1,h.2) (j.1,j.2)))) λo=>
    cond o (
     a8 (nth L c) λd=>
     a8 (nth [p,q,r] (1:Int)) λk=>
     a8 (Z (!((λ(a b:Int×Int)=>(No (a.1=b.1)&&No (a.2=b.2))) (d.1,d.2) (k.1,k.2)))) λs=>
     cond s (
     a8 (nth L c) λe=>
     a8 (nth [p,q,r] (2:Int)) λl=>
     a8 (Z (!((λ(a b:Int×Int)=>(No (a.1=b.1)&&No (a.2=b.2))) (e.1,e.2) (l.1,l.2)))) λt=>
     cond t (
      a8 (nth L c) λf=>
      a8 (DG ([p,q,r],(f.1,f.2))) λu=>
      cond u (
      Z U) (
      a8 (Z (ek (c+(1:Int)))) λv=>
      g v)) (
      a8 (Z (ek (c+(1:Int)))) λf=>
      g f)) (
     a8 (Z (ek (c+(1:Int)))) λe=>
     g e)) (
     a8 (Z (ek (c+(1:Int)))) λd=>
     g d)) K) (0:Int)=bif L.any (E2 p q r)then Z U else K:=by
 have n0:nth [p,q,r] 0=Z p:=rfl;have z:nth [p,q,r] 1=Z q:=rfl;have B:nth [p,q,r] 2=Z r:=rfl;refine mP (A:=Unit) L (λi _=>(i:Int)) (λ_ rest=>cond (rest.any (E2 p q r)) (Z U) K) (by omega) ?_ ?_ ();intro rec _;simp only[bT,kj,bu,fI];intro rec i _ x rest a7 hd C;have w:DG ([p,q,r],x.1,x.2)=Z (Cv p q r x):=bk0 p q r x;simp only[bT,fB a7,b6,fm hd,n0,z,B,f' a7 hl,C (),cx,w];unfold E2 vq;generalize(No (x.1=p.1)&&No (x.2=p.2))=D;generalize(No (x.1=q.1)&&No (x.2=q.2))=E;generalize(No (x.1=r.1)&&No (x.2=r.2))=G;cases D<;>cases E<;>cases G<;>cases Cv p q r x<;>rfl
end Dp
namespace Dp
def bJ1{l:eY}{i:Nat}{p q r:bs}(hp:l[i]?=Z p)(b:l[i+1]?=Z q)(a:l[i+2]?=Z r):tx l (Z (i:Int)) (Z ((i+3:Nat):Int))=Z [p,q,r]:=by
 have hl:i+3<=aa l:=by have:=aq.1 a;let ⟨h,_⟩:=this;omega
 have e:(l.take (i+3)).drop i=[p,q,r]:=by
  apply dU;intro k;rw[List.getElem?_drop,List.getElem?_take]
  match k with
  | 0=>simp[hp]
  | 1=>simp[b]
  | 2=>simp[a]
  |k+3=>simp;omega
 unfold tx yi;simp[hl]
 grind
end Dp
namespace Dp
def bq3{al:gp}{ag:hI}{fs:eD}(h:fp al ag fs){a:ct}(ha:a∈ag){l:eY}{i:Nat}{p q r:bs}(a7:i<aa a.2.2.2.1)(b:pathOf al ag a.1=Z l)(hp:l[i]?=Z p)(c:l[i+1]?=Z q)(d:l[i+2]?=Z r):MX ((al,ag,fs),a.1,(i:Int))=Z ([p,q,r],Y):=by have f:=h.pA;have hv:=h.q4 ha;unfold MX;simp only[bT];rw[Hd al ag fs a.1 (by omega) (λx e=>by have:=h.q4 e;omega),h.zD ha,bT,Q7 h a.1,b,bT];simp only[ar,bu,l6];rw[fc (by omega),bu,fc (by omega),bu,fx,show(i:Int)+3=((i+3:Nat):Int)by omega,bJ1 hp c d,bT]
end Dp
namespace Dp
def Un{α β:Type}(f:α->cu β)(g:β->Bool):∀l:cu α,((l.map f).flatten).any g=l.any λx=>(f x).any g
 | []=>rfl
 |x::l=>by simp[Un f g l]
def PE{α:Type}{f g:α->Bool}:∀ {l:cu α},(∀x∈l,f x=g x)->l.any f=l.any g
 | [],_=>rfl
 |x::l,h=>by rw[cx,cx,h x aR,PE λy a=>h y (bC _ a)]
def aK7{al:gp}{ag:hI}{fs:eD}(h:fp al ag fs){a:ct}(ha:a∈ag){l:eY}{i:Nat}{p q r:bs}(a7:i<aa a.2.2.2.1)(k:pathOf al ag a.1=Z l)(hp:l[i]?=Z p)(m:l[i+1]?=Z q)(o:l[i+2]?=Z r):DU ((al,ag,fs),a.1,(i:Int))=Z (Fk al ag a p q r):=by
 have B:=h.qF;have C:=h.pA;have hv:=λ(x:ct) (b:x∈ag)=>h.q4 b;have n0:nth [p,q,r] 0=Z p:=rfl;have s:nth [p,q,r] 1=Z q:=rfl;have t:nth [p,q,r] 2=Z r:=rfl;unfold DU Fk;simp only;rw[bq3 h ha a7 k hp m o];simp only[bT,ar,bu,n0,s,t];rw[show HO (p.1,p.2)=_ from bc2 p,show HO (q.1,q.2)=_ from bc2 q,show HO (r.1,r.2)=_ from bc2 r];simp only[bT];cases d:yU p with
 |false=>rfl
 |true=>
 cases f:yU q with
 |false=>rfl
 |true=>
 cases j:yU r with
 |false=>rfl
 |true=>
 simp only[ar,bu,bG,bQ];rw[aL5 al ag fs (by omega) (by omega) (λx b=>by have:=hv x b;omega),bT];have len:aa (al.map (·.2)++(ag.map (·.2.2.2.1)).flatten)<2^62:=by have:=mO (g:=λa:ct=>a.2.2.2.1) (c:=64) (xs:=ag) (hv · ·);rw[aL,aI,<-k_];omega
 refine(bk7 p q r _ len _).trans ?_;have e:(al.map (·.2)++(ag.map (·.2.2.2.1)).flatten).any (E2 p q r)=((al.any λn=>mb p q r n.2)||(ag.any λx=>x.2.2.2.1.any (mb p q r))):=by rw[List.any_append,Un,List.any_map];congr 1;exact PE λn u=>Ui (rS d) (rS f) (rS j) (rS (h.tt u));exact PE λx b=>PE λv hv=>Ui (rS d) (rS f) (rS j) (rS (aj.1 (aj.1 h.J' x b) v hv))
 rw[e,Hd al ag fs a.1 (by omega) (λx b=>by have:=hv x b;omega),h.zD ha,bT];have st:Gp ((al,ag,fs),a.1,a.2.1,a.2.2.1,a.2.2.2.1,a.2.2.2.2.1,a.2.2.2.2.2)=_:=aW3 al ag fs a (by omega);have w:No ((3:Int)<=(aa a.2.2.2.1:Int))=!decide (aa a.2.2.2.1<3):=by rw[<-decide_not,decide_eq_decide];omega
 have z:No ((aa a.2.2.2.1:Int)=1)=No (aa a.2.2.2.1=1):=by rw[decide_eq_decide];omega
 simp only[st,bT,w,z];cases(al.any λn=>mb p q r n.2)<;>cases(ag.any λx=>x.2.2.2.1.any (mb p q r))<;>cases(ag.any (wM · a))<;>cases No (a.2.1=a.2.2.1)<;>cases No (aa a.2.2.2.1<3)<;>cases No (aa a.2.2.2.1=1)<;>rfl
end Dp
namespace Dp
def aT1{a b p:bs}(ha:d' a=Y)(h:d' b=Y)(hp:d' p=Y):∃f,F1 (a,b,p)=Z f/\J_ f=Z (sy a b p,0):=by
 let ⟨m,d,e,m0,m1,d0,d1,_,i⟩:=Ub ha h hp;let ⟨j,k,l,_,_,c,_,_,g⟩:=Sp ha h hp;refine⟨(m,d),e,?_⟩;rw[TD m0 m1 d0 d1];have:sy a b p=j / k:=by unfold sy;rw[l];rfl
 rw[this,aV8 d0 c i g]
end Dp
namespace Dp
def aV9{at':bs}{p:eY}(hl:aa p<=1000)(h:∀q∈p,d' q=Y)(ha:d' at'=Y):Ld (p,at')=Z (mL 1152921504606846976 (yR p at')):=by
 unfold Ld;have j:aa (aT (aa p-1))=aa p-1:=dO;refine(vF (A:=Int) (aT (aa p-1)) (λi a=>(a,((i+1:Nat):Int))) (λa rest=>Z (mL a (rest.map λi=>sy ((p[i]?).getD (0,0)) ((p[i+1]?).getD (0,0)) at'))) (λ_ _=>True) (by omega) ?_ ?_ 1152921504606846976 trivial);intro rec a _;rw[j];have e:No (((aa p-1+1:Nat):Int)<(aa p:Int))=U:=fc (by omega);simp only[bT,e,bu,cM];rfl;intro rec i a x rest a7 _ hd c;rw[j]at a7;have k:x=i:=by have:=Ar gg hd;simp only[eA,fX]at this;rw[dN a7]at this;exact(aJ this).symm
 subst k;have l:ek (((x+1:Nat):Int)-1)=(x:Int):=by rw[fx];omega
 have m:ek (((x+1:Nat):Int)+1)=((x+1+1:Nat):Int):=by rw[fx];omega
 have b:x+1<aa p:=by omega
 have g1:p[x]?=Z p[x]:=af (by omega);have g2:p[x+1]?=Z p[x+1]:=af b;let ⟨f,d1,d2⟩:=aT1 (h _ (au (show x<aa p by omega))) (h _ (au b)) ha;have d:F1 ((p[x].1,p[x].2),(p[x+1].1,p[x+1].2),at'.1,at'.2)=Z f:=d1;have g:J_ (f.1,f.2)=Z (sy p[x] p[x+1] at',0):=d2;simp only[bT,fB b,b6,l,zB,g1,g2,d,g,RM,m];rw[c _ trivial];simp only[aD,g1,g2,bM];rfl
end Dp
namespace Dp
def bk1(al:gp)(ag:hI)(fs:eD)(l:Au)(a:ct)(hl:aa l<2^62)(hp:∀f∈l,aa f.2.2.2.2<2^62):G_ ((al,ag,fs,l),a)=Z (!l.any (pC a)):=by
 unfold G_;refine mP (A:=Unit) l (λi _=>(i:Int)) (λ_ rest=>Z (!rest.any (pC a))) (by omega) ?_ ?_ ();intro rec _;simp only[bT,kj,bu,fI,aQ];intro rec i _ f rest a7 hd c;have hf:f∈l:=aC (hd▸aR ..);simp only[bT,fB a7,b6,fm hd,f' a7 hl,c (),cx,F_,R1 _ (hp f hf)];unfold pC;by_cases h2:om f.2.1=2;have b:¬om f.2.1=3:=by omega
 simp only[h2,l6,b6];cases No (a.1∈f.2.2.2.2)<;>simp;by_cases b:om f.2.1=3;simp only[b,l6,b6];cases No (a.2.2.2.2.1∈f.2.2.2.2)<;>cases No (a.2.2.2.2.2∈f.2.2.2.2)<;>simp;simp[h2,b]
end Dp
namespace Dp
def bh5{al:gp}{ag:hI}{fs:eD}{l:Au}(c:pD al ag fs l=0)(d:aa al<=1000000)(ha:aa ag<=1000000)(hf:aa fs<=1000000)(hl:aa l<=1000)(hp:∀f∈l,aa f.2.2.2.2<=1000):G6 (al,ag,fs,l)=Z (mS ag l):=by
 unfold G6;simp only;rw[az3 al ag fs l d ha hf hl hp,c];simp only[bT,l6,ar,bu];refine(vF (A:=eD) ag (λi a=>((i:Int),a)) (λa rest=>Z (a++rest.flatMap λx=>ite (l.any (pC x)) [] [x.1])) (λi a=>aa a<=i) (by omega) ?_ ?_ [] (by simp)).trans (by simp[mS]);intro rec a _;simp only[kj,bu,iQ,ba];intro rec i a x rest a7 e hd b;have u:G_ ((al,ag,fs,l),x.1,x.2.1,x.2.2.1,x.2.2.2.1,x.2.2.2.2.1,x.2.2.2.2.2)=_:=bk1 al ag fs l x (by omega) (λf hf=>by have:=hp f hf;omega);simp only[fB a7,b6,fm hd,bT,u,f' a7,db];cases l.any (pC x)with
 |true =>simp only[ar,bu,vE,br];exact b a (by omega)
 |false =>simp only[aQ,b6];rw[m9,bT,b _ (by simp;omega)];simp
end Dp
namespace Dp
def aK1(al:gp)(ag:hI)(fs:eD)(l:Au)(id:Int)(hl:aa l<2^62)(hp:∀f∈l,aa f.2.2.2.2<=1000000):Nu ((al,ag,fs,l),id)=Z (match qc l id with|some f=>(f,Y)|none=>(J0,U)):=by unfold Nu;refine mP (A:=Unit) l (λi _=>(i:Int)) (λ_ rest=>Z (match qc rest id with|some f=>(f,Y)|none=>(J0,U))) (by omega) ?_ ?_ ();intro rec _;simp only[bT,kj,bu,qc,js,J0];intro rec i _ f rest a7 hd a;have hf:f∈l:=aC (hd▸aR ..);have:=a ();simp only[bT,fB a7,b6,fm hd,f' a7 hl,this,qc,fW];by_cases h:f.1=id;rw[hT h];simp only[b6];rw[m9 (by decide) (by have:=hp f hf;simp;omega)];simp;rw[fc h];simp
end Dp
namespace Dp
def RR(x:Int×Int×Int×b9):LY x=pM x:=by unfold LY pM;simp only[bu8,T_,bT];generalize(No ((1:Int)<=x.1)&&No (x.1<=1073741824))=a;generalize(No ((1:Int)<=x.2.1)&&No (x.2.1<=9))=b;generalize(No ((0:Int)<=x.2.2.1)&&No (x.2.2.1<=4398046511104))=c;generalize(No ((0:Int)<=x.2.2.2.1)&&No (x.2.2.2.1<=4398046511104))=d;generalize(No ((0:Int)<=x.2.2.2.2.1)&&No (x.2.2.2.2.1<=64))=e;generalize(No ((0:Int)<=x.2.2.2.2.2)&&No (x.2.2.2.2.2<=128))=f;cases a<;>cases b<;>cases c<;>cases d<;>cases e<;>cases f<;>rfl
end Dp
namespace Dp
theorem be7{al:gp}{ag:hI}{fs:eD}(h:fp al ag fs){a:ct}(ha:a∈ag){l:eY}{i:Nat}{p q r:bs}(a7:i<aa a.2.2.2.1)(b:pathOf al ag a.1=Z l)(hp:l[i]?=Z p)(c:l[i+1]?=Z q)(d:l[i+2]?=Z r):zq al ag fs a.1 i=Fk al ag a p q r:=by simp only[zq,ah6 h ha a7 b hp c d,bM]
def be3{al:gp}{ag:hI}{fs:eD}(h:fp al ag fs){a:ct}(ha:a∈ag){l:eY}{i:Nat}{p q r:bs}(a7:i<aa a.2.2.2.1)(b:pathOf al ag a.1=Z l)(hp:l[i]?=Z p)(c:l[i+1]?=Z q)(d:l[i+2]?=Z r):DU ((al,ag,fs),a.1,(i:Int))=Z (zq al ag fs a.1 i):=by rw[aK7 h ha a7 b hp c d,be7 h ha a7 b hp c d]
end Dp
namespace Dp
def bK9(p0:bs)(l:eY)(hl:aa l<=1000)(g:mQ p0)(hc:∀q∈l,mQ q):DV (p0::l)=Z (oZ p0 l):=by
 unfold DV;refine(vF (A:=bs×Int) l (λi a=>(a.2,(i:Int))) (λa rest=>Z (a.2+oZ a.1 rest)) (λi a=>(p0::l)[i]?=Z a.1/\mQ a.1/\-(8796093022208*(i:Int))<=a.2/\a.2<=8796093022208*(i:Int)) (by omega) ?_ ?_ (p0,0) ⟨rfl,g,by simp,by simp⟩).trans (by simp);intro rec a c;have d:ek ((aa l:Int)+1)=((aa l+1:Nat):Int):=f' (n:=2000000) (by omega);simp only[bT,d,aA,kj,bu,oZ,ee];intro rec i a x rest a7 c hd h;let ⟨c,hp,g1,g2⟩:=c;have f:(p0::l)[i+1]?=Z x:=by rw[aK];exact oU hd
 have e:x∈l:=aC (hd▸aR ..);have b:=hc x e;have d:ek ((i:Int)+1)=((i+1:Nat):Int):=f' (n:=2000000) (by omega);simp only[bT,d,aA,fB (show i+1<aa l+1 by omega),b6,zB,c,f];let ⟨m,a2⟩:=vI (A:=2097152) hp.1 hp.2.1 b.2.2.1 b.2.2.2;let ⟨o,p⟩:=vI (A:=2097152) b.1 b.2.1 hp.2.2.1 hp.2.2.2;rw[fx (n:=a.1.1*x.2),fx (n:=x.1*a.1.2),fx (n:=a.2+a.1.1*x.2),fx];have j:a.2+a.1.1*x.2-x.1*a.1.2=a.2+uA a.1 x:=by unfold uA;omega
 rw[j];have k:uA a.1 x=a.1.1*x.2-x.1*a.1.2:=rfl;have:=h (x,a.2+uA a.1 x) ⟨f,b,by simp only;omega,by simp only;omega⟩;refine this.trans ?_;simp only[oZ];congr 1;omega
end Dp
namespace Dp
def aI3{al:gp}{ag:hI}{fs:eD}(h:fp al ag fs)(l:Au)(id:Int)(hl:aa l<=1000000)(hp:∀f∈l,aa f.2.2.2.2<=1000000):HB ((al,ag,fs,l),id)=Z (wu al ag l id):=by
 have s:=h.pA;unfold HB wu;simp only[aK1 al ag fs l id (by omega) hp,bT];cases hf:qc l id with
 |none=>rfl
 |some f=>
  have k:=hp f (bh hf);simp only[ar,bu,F_,bT];by_cases hs:om f.2.1=3;simp only[hs,l6,ar,bu,aB6 h,bT,vE];refine(vF (A:=Int) ag (λi a=>((i:Int),a)) (λa rest=>Z (a+qo al ag f.2.2.2.2 rest)) (λi a=>-(571746046443520*(i:Int))<=a/\a<=571746046443520*(i:Int)) (by omega) ?_ ?_ 0 ⟨by simp,by simp⟩).trans (by simp);intro rec a m;simp only[bT,kj,bu,qo,ee];intro rec i a x rest a7 m hd j;have e:x∈ag:=aC (hd▸aR ..);have t:=h.num e;have c:x.1=la x.1:=by unfold la;omega
  let ⟨p0,pl,b,n,c0,cl⟩:=h.It (d:=x.1) ⟨x,e,c⟩;rw[<-c]at b;let ⟨u,w⟩:=Nd pl p0 c0 cl;have o:-571746046443520<=oZ p0 pl/\oZ p0 pl<=571746046443520:=by omega
  have g:uY al ag x=oZ p0 pl:=by simp only[uY,b]
  simp only[fB a7,b6,fm hd,bT,ba9 _ (show aa f.2.2.2.2<2^62 by omega),f' a7 (show aa ag<2^62 by omega),Q7 h,b,bK9 p0 pl (by omega) c0 cl,qo,g];generalize oZ p0 pl=v at *;have p:ek (a+v)=a+v:=fx;have q:ek (a-v)=a-v:=fx;have r:ek (a+v-v)=a:=by rw[fx];omega
  cases No (x.2.2.2.2.1∈f.2.2.2.2)<;>cases No (x.2.2.2.2.2∈f.2.2.2.2)<;>simp only[b6,bu,p,q,r,beq_self_eq_true];rw[j a (by omega)];congr 1;omega;rw[j (a-v) (by omega)];simp;omega;rw[j (a+v) (by omega)];simp;omega;rw[j a (by omega)];congr 1;omega;simp only[hs,n4,aQ,b6,l4]
end Dp
namespace Dp
variable {al:gp} {ag:hI} {fs:eD} {l:Au} {b4 mc mA tol gap most:Int}
def bk8(h:fp al ag fs)(hl:aa l<=128)(hp:∀f∈l,aa f.2.2.2.2<=1000000)(c:0<=mA/\mA<=4398046511104):Hf ((al,ag,fs,l),b4,mc,mA,tol,gap,most)=Z (l.flatMap (mN al ag l mA)):=by unfold Hf;simp only[bT];refine(uz l (mN al ag l mA) 1 0 (by omega) (λf _=>by unfold mN;split<;>simp) (by simp) ?_).trans (by simp);intro rec i acc f a7 b hm hlen;let ⟨d,e⟩:=T2 h l f.1;have a:=aI3 h l f.1 (by omega) hp;simp only[q3 b,bT,F_,a,pz a7 (show aa l<=1000000 by omega)];by_cases c1:om f.2.1=3;simp only[c1,l6,b6];by_cases c2:wu al ag l f.1<mA;simp only[c2,l6,b6];rw[m9,fx];simp only[bT,mN,c1,c2,qj,vE];simp only[c2,n4,bu,mN,c1,qj,l4,ba];simp only[c1,n4,bu,mN,false_and,l4,ba]
def bt4(h:fp al ag fs){a:ct}(ha:a∈ag){p:eY}(hp:aa p=aa a.2.2.2.1+2)(o:pathOf al ag a.1=Z p){β:Type}{K:Int×Int->dv β}(m0:Int) :
  rounds (α:=Int×Int) (β:=β) (λk x=>cond (x.1<(aa a.2.2.2.1:Int)) (a8 (nth p x.1) λb=>a8 (nth p (ek (x.1+(1:Int)))) λc=>a8 (nth p (ek (x.1+(2:Int)))) λd=>
   a8 (zx ((b.1,b.2),(c.1,c.2),(d.1,d.2))) λe=>
   a8 (DU ((al,ag,fs),a.1,x.1)) λg=>
   cond g (k (ek (x.1+(1:Int)),bf w6 x.2 [bf qG e [ek (0-e)]])) <|k (ek (x.1+(1:Int)),x.2)) <|K x) ((0:Int),m0)=K ((aa a.2.2.2.1:Int),mL m0 (oP al ag fs a p (aT (aa a.2.2.2.1)))):=by
 have j:aa (aT (aa a.2.2.2.1))=aa a.2.2.2.1:=dO;have hv:=h.q4 ha;refine(vF (A:=Int) (aT (aa a.2.2.2.1)) (λi m=>((i:Int),m)) (λm rest=>K ((aa a.2.2.2.1:Int),mL m (oP al ag fs a p rest))) (λ_ _=>True) (by omega) ?_ ?_ m0 trivial);intro rec m _;rw[j];simp only[kj,bu];rfl;intro rec i m x rest a7 _ hd f;rw[j]at a7;have q:x=i:=by have:=Ar gg hd;simp only[eA,fX]at this;rw[dN a7]at this;exact(aJ this).symm
 subst q;have r:ek ((x:Int)+1)=((x+1:Nat):Int):=by rw[fx];omega
 have s:ek ((x:Int)+2)=((x+2:Nat):Int):=by rw[fx];omega
 have g1:p[x]?=Z p[x]:=af (by omega);have g2:p[x+1]?=Z p[x+1]:=af (by omega);have g3:p[x+2]?=Z p[x+2]:=af (by omega);have t:sP (p[x].1,p[x].2) (p[x+1].1,p[x+1].2) (p[x+2].1,p[x+2].2)=FW p x:=by unfold FW;rw[g1,g2,g3];rfl
 let ⟨u,v⟩:=TT (p[x].1,p[x].2) (p[x+1].1,p[x+1].2) (p[x+2].1,p[x+2].2);simp only[fB a7,b6,r,s,zB,g1,g2,g3,bT,ag2,be3 h ha a7 o g1 g2 g3];rw[aj9 u v,t,RM];cases n:zq al ag fs a.1 x with
 |true =>rw[b6,f _ trivial];simp only[oP,n,vE];rfl
 |false =>rw[bu,f _ trivial];simp only[oP,n,aF,l4]
def bu4(h:fp al ag fs)(cb:0<=tol/\tol<=4398046511104):Nw ((al,ag,fs,l),b4,mc,mA,tol,gap,most)=Z (ag.flatMap (mT al ag fs tol)):=by
 have d:=h.pA;unfold Nw;simp only[bT];refine(uz ag (mT al ag fs tol) 1 0 (by omega) (λf _=>by unfold mT;split<;>simp) (by simp) ?_).trans (by simp);intro rec i acc a a7 b hm hlen;let ⟨f,t,_,_,hp,_,_⟩:=h.path hm;simp only[q3 b,bT,Q7 h,hp,pz a7 (show aa ag<=1000000 by omega)];refine(bt4 h hm (by simp) hp tol).trans ?_;have e:vX al ag fs a tol=mL tol (oP al ag fs a ((f.2.1,f.2.2)::(a.2.2.2.1++[(t.2.1,t.2.2)])) (aT (aa a.2.2.2.1))):=by unfold vX;rw[hp]
 rw[<-e];have g:0<=vX al ag fs a tol:=by rw[e];exact IA cb.1 Po
 dsimp only;by_cases c:vX al ag fs a tol<tol;simp only[c,l6,b6];rw[m9,fx];simp only[bT,mT,c,vE];simp only[c,n4,bu,mT,l4,ba]
end Dp
namespace Dp
def aW4{X V β:Type}(xs:cu X){S:(Int×cu V->dv β)->Int×cu V->dv β}{K:Int×cu V->dv β}(g:X->cu V)(c:Nat)(hl:aa xs<2^60)(j:∀x∈xs,aa (g x)<=c)
  (b:∀rec (i:Nat) acc x,i<aa xs->xs[i]?=Z x->x∈xs->aa acc<=c*aa xs->S rec ((i:Int),acc)=rec ((i:Int)-1,acc++g x)) :
  rounds (λk x=>cond ((0:Int)<=x.1) (S k x) <|K x) ((aa xs:Int)-1,[])=K (-1,xs.reverse.flatMap g):=by
 have h:aa xs.reverse=aa xs:=h_;have l:((aa xs:Int)-1,([]:cu V))=((aa xs:Int)-1-((0:Nat):Int),[]):=by simp
 rw[l,show K (-1,xs.reverse.flatMap g)=K (-1,[]++xs.reverse.flatMap g)from rfl];refine(vF (A:=cu V) xs.reverse (λi a=>((aa xs:Int)-1-(i:Int),a)) (λa rest=>K (-1,a++rest.flatMap g)) (λi a=>aa a<=c*i) (by omega) ?_ ?_ [] (by simp));intro rec a _;rw[h];have e:(aa xs:Int)-1-(aa xs:Int)=-1:=by omega
 simp only[e,show No ((0:Int)<=-1)=U from rfl,bu,iQ,ba];intro rec i a x rest a7 n hd d;rw[h]at a7;have f:xs.reverse[i]?=Z x:=oU hd;rw[jS a7]at f;have hm:x∈xs:=aH f;have e:(aa xs:Int)-1-(i:Int)=((aa xs-1-i:Nat):Int):=by omega
 have m:((aa xs-1-i:Nat):Int)-1=(aa xs:Int)-1-((i+1:Nat):Int):=by omega
 have hle:c*i<=c*aa xs:=Nat.mul_le_mul_left c (by omega);have:=j x hm;rw[e,show No ((0:Int)<=((aa xs-1-i:Nat):Int))=Y from hT (by omega),b6,b rec _ a x (by omega) f hm (by omega),m,d _ (by rw[aL,mr];omega),db,cz]
def T7(ag:hI)(G:b9->cu mK):∀al:gp,(nE al ag).reverse.flatMap G=al.reverse.flatMap (λn=>ite (na ag n.1=0) (G n) [])
 | []=>rfl
 |n::al=>by have a:=T7 ag G al;have e:nE (n::al) ag=(ite (na ag n.1=0) [n] [])++nE al ag:=rfl;rw[e,List.reverse_append,hZ,a,gr,hZ];congr 1;by_cases h:na ag n.1=0<;>simp[h]
end Dp
namespace Dp
variable {al:gp} {ag:hI} {fs:eD} {l:Au} {b4 mc mA tol gap most:Int}
def bj9(h:fp al ag fs)(r:0<=gap/\gap<=64){f:AL}{p0:Int}{D:eD}(w:f.2.2.2.2=p0::D):LA ((al,ag,fs,l),(b4,mc,mA,tol,gap,most),f)=Z ((nE al ag).reverse.flatMap (mR (gap*gap) f (nodeAt al p0))++ag.flatMap (oJ al ag (gap*gap) f (nodeAt al p0))):=by
 have lN:=h.qF;have lA:=h.pA;have x:0<=gap*gap/\gap*gap<=4096:=⟨aB r.1 r.1,by have:=kH r.2 r.2 r.1 (by decide);simpa using this⟩;have E:ek (gap*gap)=gap*gap:=fx;obtain⟨b,G⟩:∃b,AR ((al,ag,fs),p0)=Z (nodeAt al p0,b):=by rw[KP al ag fs p0];unfold nodeAt;cases nQ al p0<;>grind[nQ]
 have d:yU ((nodeAt al p0).2.1,(nodeAt al p0).2.2)=Y:=by
  unfold nodeAt;cases z:nQ al p0 with
  |none=>rfl
  |some n=>exact h.tt (bh z)
 have n0:nth (p0::D) (0:Int)=Z p0:=rfl;have wl:ek ((aa al:Int)-1)=(aa al:Int)-1:=fx;unfold LA;simp only[w,n0,G,bT,wl,E];generalize nodeAt al p0=j0 at d;have j:=rS d;have H:=PM d;rw[T7];refine(aW4 al (λn=>ite (na ag n.1=0) (mR (gap*gap) f j0 n) []) 1 (by omega) (λn _=>by grind[mR]) ?_).trans ?_;intro rec i acc m a7 B s hlen;have I:=PM (h.tt s);have J:ek (m.2.1-j0.2.1)=m.2.1-j0.2.1:=fx;have K:ek (m.2.2-j0.2.2)=m.2.2-j0.2.2:=fx;let ⟨m1,m2⟩:=vR (a:=m.2.1-j0.2.1) (b:=m.2.1-j0.2.1) (m:=2097152) (n:=2097152);let ⟨m3,m4⟩:=vR (a:=m.2.2-j0.2.2) (b:=m.2.2-j0.2.2) (m:=2097152) (n:=2097152);have q5:=sq_nonneg (m.2.1-j0.2.1);have nj:=sq_nonneg (m.2.2-j0.2.2);have M:bL3 m j0=(m.2.1-j0.2.1)*(m.2.1-j0.2.1)+(m.2.2-j0.2.2)*(m.2.2-j0.2.2):=rfl;have N:ek ((m.2.1-j0.2.1)*(m.2.1-j0.2.1))=(m.2.1-j0.2.1)*(m.2.1-j0.2.1):=fx;have O:ek ((m.2.2-j0.2.2)*(m.2.2-j0.2.2))=(m.2.2-j0.2.2)*(m.2.2-j0.2.2):=fx;have P:ek ((m.2.1-j0.2.1)*(m.2.1-j0.2.1)+(m.2.2-j0.2.2)*(m.2.2-j0.2.2))=bL3 m j0:=fx;have Q:ek (gap*gap-(m.2.1-j0.2.1)*(m.2.1-j0.2.1))=gap*gap-(m.2.1-j0.2.1)*(m.2.1-j0.2.1):=fx;have R:ek (gap*gap-(m.2.1-j0.2.1)*(m.2.1-j0.2.1)-(m.2.2-j0.2.2)*(m.2.2-j0.2.2))=gap*gap-bL3 m j0:=by grind[fx]
 have K7:ek ((i:Int)-1)=(i:Int)-1:=fx;simp only[q3 B,bT,J,K,N,O,P,Q,R,K7,Xc al ag fs l m.1 (show aa ag<=1000000 by omega)];by_cases c:m.1=j0.1
 grind[decide_true,ar,mR,not_true_eq_false]
 simp only[c,n4,aQ,b6];by_cases c2:na ag m.1=0;simp only[c2,l6,b6,vE];by_cases c5:bL3 m j0<gap*gap;have S:=Oz h s
 grind[decide_true,m9,fx,bT,mR,not_false_eq_true,mu]
 grind[decide_false,mR]
 grind[decide_false]
 dsimp only;have t:=mO (g:=λn:b9=>ite (na ag n.1=0) (mR (gap*gap) f j0 n) []) (c:=1) (xs:=al.reverse) (λn _=>by grind[mR]);rw[h_]at t;generalize al.reverse.flatMap (λn:b9=>ite (na ag n.1=0) (mR (gap*gap) f j0 n) [])=acc0 at *;refine(uz ag (oJ al ag (gap*gap) f j0) 1 256 (by omega) (λf _=>by unfold oJ;split<;>simp) (by omega) ?_).trans rfl;intro rec i acc a a7 B p hlen;let ⟨k,o,_,_,hp,_,_⟩:=h.path p;have u:∀q∈(k.2.1,k.2.2)::(a.2.2.2.1++[(o.2.1,o.2.2)]),d' q=Y:=λq z=>rS (h.D0 p hp q z);have hd:=aV9 (at':=(j0.2.1,j0.2.2)) (by have:=h.q4 p;simp;omega) u j;have C:=Ur u j;have e:vw al ag a (j0.2.1,j0.2.2) (gap*gap)=mL (gap*gap) (yR ((k.2.1,k.2.2)::(a.2.2.2.1++[(o.2.1,o.2.2)])) (j0.2.1,j0.2.2)):=by unfold vw;rw[hp]
 have lb:0<=vw al ag a (j0.2.1,j0.2.2) (gap*gap):=by rw[e];exact IA x.1 C
 rw[bc9 _ (show gap*gap<=1152921504606846976 by omega)]at e;have ub:=Us (yR ((k.2.1,k.2.2)::(a.2.2.2.1++[(o.2.1,o.2.2)])) (j0.2.1,j0.2.2)) 1152921504606846976;simp only[q3 B,bT,Q7 h,hp,hd,pz a7 (show aa ag<=1000000 by omega)];generalize mL 1152921504606846976 (yR ((k.2.1,k.2.2)::(a.2.2.2.1++[(o.2.1,o.2.2)])) (j0.2.1,j0.2.2))=v at e ub
 grind[oJ,vw,decide_true,m9,fx,bT,decide_false]
end Dp
set_option maxRecDepth 10000
namespace Dp
variable {al:gp} {ag:hI} {fs:eD} {l:Au} {b4 mc mA tol gap most:Int}
def RJ(h:fp al ag fs)(least:Int)(f:AL):aa (vz al ag least f)<=512:=by rw[(RF al ag least f).length_eq];exact PA h.qF h.pA least f
def bv0(dC:FX al ag fs l)(e:0<=gap/\gap<=64):NJ ((al,ag,fs,l),b4,mc,mA,tol,gap,most)=Z (l.flatMap (vz al ag (gap*gap))):=by
 have h:=dC.pl;have hl:=dC.len;have m:=h.pA;unfold NJ;simp only[bT];refine(uz l (vz al ag (gap*gap)) 512 0 (by omega) (λf _=>RJ h _ f) (by simp) ?_).trans (by simp);intro rec i acc f a7 g hm hlen;obtain⟨p0,d,b⟩:∃p0 d,f.2.2.2.2=p0::d:=by
  cases j:f.2.2.2.2 with
  |nil=>exact b8 j (dC.bN1 f hm)
  |cons p0 d=>exact⟨p0,d,rfl⟩
 have c:rD f=p0:=by unfold rD;rw[b];rfl
 have n0:nth (p0::d) (0:Int)=Z p0:=rfl;have k:=bj9 (l:=l) (b4:=b4) (mc:=mc) (mA:=mA) (tol:=tol) (most:=most) h e b;have a:=RJ h (gap*gap) f;simp only[q3 g,bT,F_,b,n0,Xc al ag fs l p0 (show aa ag<=1000000 by omega),k,pz a7 (show aa l<=1000000 by omega)];unfold vz at a⊢;rw[c]at a⊢;by_cases c1:om f.2.1=1;by_cases c2:na ag p0=0;simp only[c1,c2,and_self,vE,l6,b6]at a⊢;rw[m9];simp only[bT];simp only[c1,c2,and_false,l4,l6,n4,b6,bu,ba];simp only[c1,false_and,l4,n4,bu,ba]
def aW9(hl:aa l<=128)(b:0<=most/\most<=128):Lj ((al,ag,fs,l),b4,mc,mA,tol,gap,most)=Z (manyN l mc most):=by have a:l.countP (λf=>No (mc<f.2.2.1))<=aa l:=gQ;unfold Lj;simp only[bT];refine(T6 l mc hl).trans ?_;dsimp only;unfold manyN;generalize l.countP (λf=>No (mc<f.2.2.1))=k at a;rw[fx (n:=(aa l:Int)-(k:Int)),fx (n:=(aa l:Int)-(k:Int)-most),yP,fx,iy]
theorem T8{X V β:Type}(xs:cu X)(g:X->V)(K:cu V->dv β){acc0:cu V}(hl:aa xs<=1000000)(b:aa acc0<=1000000) :
  rounds (λ(k:cu V×Int->dv β) x=>cond (x.2<(aa xs:Int)) (a8 (nth xs x.2) λv=>a8 (j6 32 x.1 [g v]) λw=>k (w,ek (x.2+1))) <|K x.1) (acc0,(0:Int))=K (acc0++xs.map g):=by
 refine(vF (A:=cu V) xs (λi a=>(a,(i:Int))) (λa rest=>K (a++rest.map g)) (λi a=>aa a<=1000000+i) (by omega) ?_ ?_ acc0 (by omega));intro rec a _;simp only[kj,bu,cM,ba];intro rec i a x rest a7 d hd c;simp only[fB a7,b6,fm hd,bT];rw[m9];simp only[bT,f' a7 (show aa xs<2^62 by omega)];rw[c _ (by simp;omega)];simp
end Dp
namespace Dp
variable {al:gp} {ag:hI} {fs:eD} {l:Au} {b4 mc mA tol gap most:Int}
def aR7(q:0<=mA/\mA<=4398046511104)(cb:0<=tol/\tol<=4398046511104)(r:0<=gap/\gap<=64)(s:0<=most/\most<=128)
  (hc:pM (b4,mc,mA,tol,gap,most)=Z 0) (j:pD al ag fs l=0) :
  yL ((al,ag,fs,l),(b4,mc,mA,tol,gap,most))=Z (Dx al ag fs l mc mA tol gap most,0):=by
 have dC:=Ep j;have h:=dC.pl;have hl:=dC.len;have u:=h.qF;have v:=h.pA;have d:aa fs<=1000000:=by have:=h.wX;omega
 have b:=dC.parts;have k:=(RR (b4,mc,mA,tol,gap,most)).trans hc;have hk:=(az3 al ag fs l (by omega) (by omega) d (by omega) (λf hf=>by have:=b f hf;omega)).trans (Ar Z j);have hs:=bk8 (b4:=b4) (mc:=mc) (tol:=tol) (gap:=gap) (most:=most) h hl (λf hf=>by have:=b f hf;omega) q;have hf:=bu4 (l:=l) (b4:=b4) (mc:=mc) (mA:=mA) (gap:=gap) (most:=most) h cb;have t:=bv0 (b4:=b4) (mc:=mc) (mA:=mA) (tol:=tol) (most:=most) dC r;have hm:=aW9 (al:=al) (ag:=ag) (fs:=fs) (b4:=b4) (mc:=mc) (mA:=mA) (tol:=tol) (gap:=gap) hl s;have hu:=bh5 j (by omega) (by omega) d (by omega) (λf hf=>by have:=b f hf;omega);have m:=mO (g:=mN al ag l mA) (c:=1) (xs:=l) (λf _=>by unfold mN;split<;>simp);have n:=mO (g:=mT al ag fs tol) (c:=1) (xs:=ag) (λf _=>by unfold mT;split<;>simp);have o:=mO (g:=vz al ag (gap*gap)) (c:=512) (xs:=l) (λf _=>RJ h (gap*gap) f);have e:=mO (g:=λa:ct=>ite (l.any (pC a)) [] [a.1]) (c:=1) (xs:=ag) (λa _=>by split<;>simp);have e:aa (mS ag l)<=1*aa ag:=e;have w:-256<=manyN l mc most/\manyN l mc most<=256:=by have p:l.countP (λf=>No (mc<f.2.2.1))<=aa l:=gQ;unfold manyN;omega
 unfold yL;simp only[k,hk,hs,hf,t,hm,hu,bT,l6,ar,b6,bu];rw[m9];simp only[bT];rw[m9 (by omega) (by rw[aL];omega)];simp only[bT];unfold Dx so;rw[<-List.map_eq_flatMap];by_cases c:0<manyN l mc most;simp only[c,l6,b6,vE];rw[fx,m9 (by omega) (by simp only[aL,aA,cP];omega)];simp only[bT];exact T8 (mS ag l) (λi=>((5:Int),i,(0:Int),(1:Int))) (λa=>Z (a,(0:Int))) (by omega) (by simp only[aL,aA,cP];omega);simp only[c,n4,bu,l4,ba];exact T8 (mS ag l) (λi=>((5:Int),i,(0:Int),(1:Int))) (λa=>Z (a,(0:Int))) (by omega) (by simp only[aL];omega)
end Dp
end Go.Ab
namespace Go.Ab
open Go
set_option maxRecDepth 100000
@[instance_reducible] def Sf (m:Nat):Fuel:=⟨m+1000⟩
def aV7(m:Nat):@DT (Sf m) ()=Z Y:=by kernel_rfl
def bs8:∃m,ce9=Sf m:=by obtain⟨m,hm⟩:∃m,many=m+1000:=⟨many-1000,by have:=aL7;omega⟩;exact⟨m,by unfold ce9 Sf;rw[hm]⟩
def br4:DT ()=Z Y:=by let ⟨m,hm⟩:=bs8;rw[hm];exact aV7 m
open Go.Proofs Go.Shelf Go.Sort
namespace Dp
def aM7(l:cu mK)(hl:aa l<2^62):HD (l,l)=Z Y:=by unfold HD;simp only[bT,l6,ar,bu];refine mP (A:=Unit) l (λi _=>(i:Int)) (λ_ _=>Z Y) (by omega) ?_ ?_ ();intro rec _;simp only[kj,bu];intro rec i _ x rest a7 hd a;simp only[fB a7,b6,fm hd,bT,l6,bG,ar,bu,f' a7 hl];exact a ()
def aM6(d:DT ()=Z Y)(al:gp)(ag:hI)(fs:eD)(l:Au)(s:Int×Int×Int×b9)(hv:∀a∈ag,aa a.2.2.2.1<=4611686018427387904):KW ((al,ag,fs,l),s)=Z Y:=by
 let ⟨b,u,hs⟩:=aW7 al ag fs l hv;unfold KW;simp only[u,d,bT];cases b;rfl;let ⟨x,z,B,C,w⟩:=hs rfl;simp only[ar,bu,b6];have e:=az3 al ag fs l (by omega) (by omega) (by omega) (by omega) (λf hf=>by have:=w f hf;omega);let ⟨c,hc,g⟩:=aR2 s;have key:∃v,aa v.1<2^62/\qH ((al,ag,fs,l),s)=Z v/\yL ((al,ag,fs,l),s)=Z v:=by by_cases h:c=0;subst h;let ⟨_,_,k,m,n,o,p,q,r,t⟩:=g rfl;by_cases hf:pD al ag fs l=0;have dC:=Ep hf;refine⟨_,?_,(aQ2 ⟨k,m⟩ ⟨n,o⟩ ⟨p,q⟩ ⟨r,t⟩ hc hf).trans ?_,aR7 ⟨k,m⟩ ⟨n,o⟩ ⟨p,q⟩ ⟨r,t⟩ hc hf⟩;have:=ba5 (mc:=s.2.1) (mA:=s.2.2.1) (tol:=s.2.2.2.1) (gap:=s.2.2.2.2.1) (most:=s.2.2.2.2.2) dC;rw[<-(T9 ..).length_eq]at this;exact Nat.lt_of_le_of_lt this (by decide);rw[bi8 dC];refine⟨_,by simp,aP7 hc hf,?_⟩;unfold yL;simp only[(RR (s.1,s.2.1,s.2.2.1,s.2.2.2.1,s.2.2.2.2.1,s.2.2.2.2.2)).trans hc,e,bT,l6,b6,hf,n4,aQ];refine⟨_,by simp,aP4 hc h,?_⟩;unfold yL;simp only[(RR (s.1,s.2.1,s.2.2.1,s.2.2.2.1,s.2.2.2.2.1,s.2.2.2.2.2)).trans hc,bT,h,n4,bu,aQ,b6]
 let ⟨v,hlen,i,j⟩:=key;have i:qH ((al,ag,fs,l),s.1,s.2.1,s.2.2.1,s.2.2.2.1,s.2.2.2.2.1,s.2.2.2.2.2)=Z v:=i;have j:yL ((al,ag,fs,l),s.1,s.2.1,s.2.2.1,s.2.2.2.1,s.2.2.2.2.1,s.2.2.2.2.2)=Z v:=j;simp only[i,j,bT,aM7 v.1 hlen,b6,l6]
end Dp
end Go.Ab
