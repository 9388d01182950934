/- A part of the proof; its readable source lies in wip of the prover's repo (squeezed here for the limit of bytes). -/
import Derived.Test.YtiogbkenmjdkoaaGreatDoorMe
import Derived.Lib.DecodeN
set_option linter.all false
open Bool renaming and_eq_false_iff->dv,and_eq_true->ab,and_self->e_,eq_false_iff->gE,false_eq_true->aq,false_or->dt,not_eq_true'->bS,not_eq_true->dS,not_false->aW,not_true->ax,or_eq_false_iff->bU,or_eq_true->bD,true_and->dX,true->IN,false->IS
open ByteArray renaming mk->dj
open Classical renaming byContradiction->dO,em->ia
open Decidable renaming decide->IT
open Eq renaming trans->jX
open Go.IntKind renaming i64->aa
open Go.Utf8 renaming decode->cz
open Int renaming add_mul->gu,add_zero->jh,dvd_mul_right->jW,dvd_trans->kP,eq_of_mul_eq_mul_left->cm,le_of_lt->dm,le_of_mul_le_mul_left->bV,le_refl->bJ,lt_of_le_of_lt->df,lt_of_mul_lt_mul_left->dA,lt_or_gt_of_ne->jJ,lt_or_le->eE,lt_trichotomy->fI,max_comm->gO,min_comm->gN,mul_add->hJ,mul_assoc->cU,mul_comm->dy,mul_eq_zero->fJ,mul_le_mul_of_nonneg_left->bd,mul_le_mul_of_nonneg_right->dJ,mul_lt_mul_of_pos_left->cd,mul_neg->ez,mul_neg_of_pos_of_neg->iC,mul_nonneg->aK,mul_one->gh,mul_pos->cH,mul_pos_of_neg_of_neg->eb,mul_sub->cP,mul_zero->d_,neg_mul->h_,neg_mul_neg->ky,neg_neg->dM,pos_of_mul_pos_right->bZ,sub_mul->lp,zero_add->ji,zero_mul->eh
open List renaming all_eq_true->ak,any_cons->iE,any_eq_false->bC,append_assoc->cx,append_nil->cM,cons_append->fC,drop->kf,drop_drop->eD,drop_set_of_lt->jt,filter_append->jC,filter_cons->bw,filter_eq_self->di,filter_nil->gT,find?_some->dI,flatMap_cons->dF,foldl_append->g_,foldl_cons->fP,getElem?_cons_succ->aM,getElem?_cons_zero->cX,getElem?_eq_getElem->ae,getElem?_eq_none->bM,getElem?_eq_some_iff->ao,getElem?_map->aX,getElem?_set_self->fR,getElem_inj->dL,getElem_map->cK,getElem_mem->au,getElem_of_mem->aH,length_append->aT,length_cons->aA,length_filter_le->cV,length_map->aF,length_nil->bL,length_pos_of_mem->iL,length_singleton->gn,map_cons->ay,mem_append->aO,mem_append_left->bX,mem_append_right->cC,mem_cons->aI,mem_cons_of_mem->bB,mem_cons_self->cn,mem_filter->aD,mem_flatMap->cY,mem_flatten->br,mem_map->aP,mem_map_of_mem->aC,mem_of_find?_eq_some->bj,mem_of_getElem?->aJ,mem_of_mem_drop->bn,mem_or_eq_of_mem_set->cO,mem_range->kx,mem_singleton->aG,mergeSort_perm->cy,nil_append->bq,nodup_append->bQ,nodup_cons->cF,not_mem_nil->iA,pairwise_cons->ba,pairwise_flatten->cQ,pairwise_iff_getElem->bE,pairwise_map->ch,perm_ext_iff_of_nodup->hY,range->bo,range_succ->ke,range_succ_eq_map->iM,take_add_one->bR,take_append_drop->cJ,take_length->cB,take_set_of_le->js
open List.Pairwise renaming of_cons->fj
open List.cons renaming injEq->cG
open Nat renaming add_comm->fF,add_mod_right->gK,le_refl->aw,lt_of_lt_of_le->ed,lt_or_ge->dc,mod_eq_of_lt->eN,mod_lt->gV,succ->jK,zero_add->aN
open Option renaming map_map->dw,map_some->aj,some->U,none->No
open Option.some renaming inj->aQ,injEq->ai
open Or renaming inl->bk,inr->a_
open Prod renaming ext->fg,fst->jB
open Prod.mk renaming injEq->cq
namespace Go.Ab
open Go Go.Sort Go.Proofs Go.Shelf
def bi0(D S:List Int):pe D S<=D.length:=cV _ _
def Mv{lC:Int->Int}{D:List Int}(b:∀d∈D,lC d∈D):∀(n:Nat) (S:List Int) (d:Int) (c:List Int),d∈D->(∀x∈c,x∈D) ->
  (∀x∈(qw lC n S d c).1,x∈D)/\(qw lC n S d c).1.length+pe D (qw lC n S d c).2<=c.length+pe D S/\c.length<=(qw lC n S d c).1.length
 | 0,S,d,c,_,hc=>by simp only[qw];exact⟨hc,by omega,by omega⟩
 |n+1,S,d,c,e,hc=>by
  unfold qw;split
  .exact⟨hc,aw _,aw _⟩
  rename_i hs;obtain⟨h1,h2,f⟩:=Mv b n (S++[d]) (lC d) (c++[d]) (b d e) (λx a=>by
   rcases aO.1 a with a|a
   .exact hc x a
   simp at a;subst a;exact e)
  have:=M3 e hs;simp only[aT,gn]at h2 f;exact⟨h1,by omega,by omega⟩
def Mn{lC:Int->Int}{D:List Int}(a:∀d∈D,lC d∈D):∀(b S:List Int) (acc:List (List Int)),(∀d∈b,d∈D)->(∀c∈acc,c≠[]/\c.length<=D.length/\∀d∈c,d∈D) ->
  (qg lC D b S acc).length<=acc.length+b.length/\∀c∈qg lC D b S acc,c≠[]/\c.length<=D.length/\∀d∈c,d∈D
 | [],S,acc,_,ha=>by simp only[qg];exact⟨by simp,ha⟩
 |d::b,S,acc,f,ha=>by
  unfold qg;split
  .obtain⟨h1,h2⟩:=Mn a b S acc (λx g=>f x (by simp[g])) ha
   exact⟨by simp only[aA];omega,h2⟩
  rename_i hs;have e:=f d (by simp);obtain⟨g1,g2,g3⟩:=Mv a (pe D S+1) S d [] e (by simp);have h:(qw lC (pe D S+1) S d []).1≠[]:=by unfold qw;rw[b8 hs];have:=(Mv a (pe D S) (S++[d]) (lC d) ([]++[d]) (a d e) (by simpa using e)).2.2;intro he;rw[he]at this;simp at this
  obtain⟨h1,h2⟩:=Mn a b (qw lC (pe D S+1) S d []).2 (acc++[(qw lC (pe D S+1) S d []).1]) (λx g=>f x (by simp[g])) (λc hc=>by
   rcases aO.1 hc with hc|hc
   .exact ha c hc
   simp at hc;subst hc;have:=bi0 D S;simp only[bL]at g2;exact⟨h,by omega,g1⟩)
  simp only[aT,gn]at h1;exact⟨by simp only[aA];omega,h2⟩
namespace eS
variable {a6:List ef} {al:List dk} {fs:List Int} (h:eS a6 al fs)
include h
theorem xH:Pm al (lT a6 al):=by
 have f:=h.Rb;obtain⟨h1,h2⟩:=Mn (lC:=mC a6 al) (D:=l3 a6 al) (λd e=>h.qK e) ((l3 a6 al).mergeSort λa b=>IT (a<=b)) [] [] (λd e=>(cy _ _).mem_iff.1 e) (by simp);have hl:((l3 a6 al).mergeSort λa b=>IT (a<=b)).length=(l3 a6 al).length:=(cy _ _).length_eq;refine⟨by show(qg ..).length<=_;simp only[bL]at h1;omega,λc hc=>?_⟩;obtain⟨g1,g2,g3⟩:=h2 c hc;refine⟨g1,by omega,λd e=>?_⟩;obtain⟨a,ha,he⟩:=h.qZ.1 (g3 d e);have g:=h.num ha;refine⟨?_,?_,a,ha,?_⟩
 .unfold qY;rcases he with rfl|rfl<;>omega
 .rcases he with rfl|rfl<;>omega
 unfold lN;rcases he with rfl|rfl<;>omega
end eS
structure qN(L:List l6)(i:Nat):Prop where
 all:∀a∈L,((∀d∈a.2.1,qY d)/\a.2.1.length<=1000000)/\(∀c∈a.2.2.1,(∀d∈c,qY d)/\c.length<=1000000)/\a.2.2.1.length<=i
 ne:∀a∈L.tail,a.2.1≠[]
theorem qN.pr{L:List l6}{i k:Nat}(h:qN L i){c:List Int}(hc:(∀d∈c,qY d)/\c.length<=1000000):qN (pr L k c) (i+1):=by
 unfold Go.Ab.pr;cases f:L[k]? with
 |none=>exact⟨λa ha=>by obtain⟨h1,h2,g⟩:=h.all a ha;exact⟨h1,h2,by omega⟩,h.ne⟩
 |some x=>
  have e:=aJ f;refine⟨λa ha=>?_,λa ha=>?_⟩
  .rcases cO ha with ha|rfl
   .obtain⟨h1,h2,g⟩:=h.all a ha;exact⟨h1,h2,by omega⟩
   obtain⟨h1,h2,g⟩:=h.all x e;refine⟨h1,λc' b=>?_,by simp;omega⟩;rcases aO.1 b with b|b
   .exact h2 c' b
   simp at b;subst b;exact hc
  rcases G3 ha with ha|⟨rfl,hk,_⟩
  .exact h.ne a ha
  exact h.ne x (HY f hk)
theorem qN.rX{L:List l6}{i k:Nat}(h:qN L i)(n:Int):qN (rX L k n) i:=by
 unfold Go.Ab.rX;cases c:L[k]? with
 |none=>exact h
 |some x=>
  have b:=aJ c;refine⟨λa ha=>?_,λa ha=>?_⟩
  .rcases cO ha with ha|rfl
   .exact h.all a ha
   exact h.all x b
  rcases G3 ha with ha|⟨rfl,hk,_⟩
  .exact h.ne a ha
  exact h.ne x (HY c hk)
def qN.qW{m:List (Int×List b6)}:∀(r:List (List Int)) (L:List l6) (i:Nat),qN L i->(∀c∈r,(∀d∈c,qY d)/\c.length<=1000000)->qN (qW m r L) (i+r.length)
 | [],L,i,h,_=>h
 |c::r,L,i,h,a=>by have:=qN.qW (m:=m) r _ (i+1) (h.pr (k:=p_ m L (oo m c)) (a c (by simp))) (λx b=>a x (by simp[b]));simp only[Go.Ab.qW,aA];rw[show i+(r.length+1)=i+1+r.length by omega];exact this
def qN.qB{a6:List ef}{al:List dk}{m:List (Int×List b6)}{i:Nat}:∀(r:List ef) (L:List l6),qN L i->qN (qB a6 al m r L) i
 | [],L,h=>h
 |n::r,L,h=>by
  simp only[Go.Ab.qB];cases IT (oP al n.1=0)with
  |false=>exact qN.qB r L h
  |true=>exact qN.qB r _ (h.rX n.1)
def WR{m:List (Int×List b6)}:∀(r:List (List Int)) (L:List l6),(qW m r L).length=L.length
 | [],L=>rfl
 |c::r,L=>by simp only[qW];rw[WR r];unfold pr;cases L[p_ m L (oo m c)]?<;>simp
def VT{a6:List ef}{al:List dk}{m:List (Int×List b6)}:∀(r:List ef) (L:List l6),(qB a6 al m r L).length=L.length
 | [],L=>rfl
 |n::r,L=>by
  simp only[qB];rw[VT r];cases IT (oP al n.1=0)with
  |false=>rfl
  |true=>simp only[dn];unfold rX;cases L[p_ m L (n.2.1,n.2.2)]?<;>simp
open eS (lT)
def eS.Eg{a6:List ef}{al:List dk}{fs:List Int}(h:eS a6 al fs):qN (tv a6 al (j9 a6 al) (lT a6 al)) 512/\(tv a6 al (j9 a6 al) (lT a6 al)).length<=1000000:=by
  have hc:=h.xH;have g:qN (tv a6 al (j9 a6 al) (lT a6 al)) 512:=by
   have e:∀c∈lT a6 al,(∀d∈c,qY d)/\c.length<=1000000:=λc b=>by obtain⟨_,g2,g3⟩:=hc.nc c b;exact⟨λd i=>(g3 d i).1,by omega⟩
   have f:qN (oR a6 al (lT a6 al)) 0:=by
    refine⟨λa ha=>?_,λa ha=>?_⟩
    .rcases aI.1 ha with rfl|ha
     .simp
     obtain⟨c,b,rfl⟩:=aP.1 ha;exact⟨e c (aD.1 b).1,by simp,by simp⟩
    simp only[oR,List.tail_cons]at ha;obtain⟨c,b,rfl⟩:=aP.1 ha;exact(hc.nc c (aD.1 b).1).1
   have:=qN.qB (a6:=a6) (al:=al) (m:=j9 a6 al) a6 _ (qN.qW (m:=j9 a6 al) ((lT a6 al).filter λc=>!decide (0<mK a6 al c)) _ 0 f (λc b=>e c (aD.1 b).1));refine⟨λa ha=>?_,this.ne⟩;obtain⟨h1,h2,j⟩:=this.all a ha;have hl:=cV (λc=>!decide (0<mK a6 al c)) (lT a6 al);have:=hc.len;exact⟨h1,h2,by omega⟩
  have hlen:(tv a6 al (j9 a6 al) (lT a6 al)).length<=1000000:=by unfold tv;rw[VT,WR];have hl:=cV (λc=>IT (0<mK a6 al c)) (lT a6 al);have:=hc.len;simp only[oR,aA,aF];omega
  exact⟨g,hlen⟩
def t_(a6:List ef)(al:List dk)(fs:List Int):Int:=bif IT (so a6 al fs=0)then(bif (ns al fs.length IN (tv a6 al (j9 a6 al) (lT a6 al)) [] []).2 then 0 else 12)else so a6 al fs
def aw6(a6:List ef)(al:List dk)(fs:List Int):Ea (a6,al,fs)=U (t_ a6 al fs):=by
 unfold Ea t_;by_cases hp:so a6 al fs=0
 .have h:=B'.1 hp
  have hc:=h.xH;obtain⟨b,hlen⟩:=h.Eg;have hf:=h.Hk (l:=tv a6 al (j9 a6 al) (lT a6 al)) hlen (λa ha=>by obtain⟨h1,h2,c⟩:=b.all a ha;exact⟨h1,h2,by omega⟩) b.ne;simp only[h.Gy,cr,lV,ax,ct,h.IJ,h.Hf hc,hf,hp,dn];cases(ns al fs.length IN (tv a6 al (j9 a6 al) (lT a6 al)) [] []).2<;>rfl
 simp only[Rg hp,cr,hp,mD,aW,dn,ct]
end Go.Ab
namespace Go.Ab
open Go Go.Sort Go.Proofs Go.Shelf
def Bg:List (Int×Int×Int):=[(32,32,0),(39,41,0),(45,46,0),(48,57,0),(65,90,1),(97,122,1),(192,214,1),(216,246,1),(248,591,1),(880,1023,2),(1024,1279,3),(1488,1514,4),(19968,40959,5)]
def Gj(c:Int):List (Int×Int×Int)->Int
 | []=>-1
 |r::l=>bif IT (r.1<=c)&&IT (c<=r.2.1)then r.2.2 else Gj c l
def Fh(r:Int):Int:=bif IT (r<0)||IT (1114111<r)then -1 else Gj r Bg
def Ro(r:Int):B5 r=U (Fh r):=by
 unfold B5 Fh;by_cases h1:r<0
 .simp[h1]
 by_cases h2:(1114111:Int)<r
 .simp[h1,h2]
 have c:IntKind.i32.wrap r=r:=IntWalk.i32_in r ⟨by omega,by omega⟩;simp only[h1,h2,mD,ct,Bool.or_self,c,RP,cr];refine oy (A:=Unit) Bg (λi _=>(i:Int)) (λ_ rest=>U (Gj r rest)) (by simp[Bg]) ?_ ?_ ()
 .intro rec a
  simp[Bg,Gj]
 intro rec i a x rest a7 d e;have f:IT ((i:Int)<13)=IN:=by grind[Bg,aA,bL]
 have b:nth Bg (i:Int)=U x:=mq d;have g:aa.wrap ((i:Int)+1)=((i+1:Nat):Int):=lG (n:=100) (by grind) (by omega);simp only[Bg]at b;simp only[f,dn,b,cr,g,Gj];have:=e ()
 grind
def Y4(b:ByteArray)(n:Nat):1<=(cz b n).2/\(cz b n).2<=4/\(cz b n).1<=2097151:=by grind[Lib.decode_at,Lib.decodeN]
def Xn{α β:Type}{F:(α->Option β)->α->Option β}(I:α->Prop)(a:α->Nat)(Q:β->Prop)(h:∀rec x,I x->(∀y,I y->a y<a x->∃v,rec y=U v/\Q v)->∃v,F rec x=U v/\Q v):∀(n:Nat) (x:α),I x->a x<n->∃v,iter F n x=U v/\Q v
 | 0,x,_,hm=>lH hm (Nat.not_lt_zero _)
 |n+1,x,a7,hm=>by show ∃v,F (iter F n) x=U v/\Q v;exact h _ x a7 λy b c=>Xn I a Q h n y b (by omega)
def oa{α β:Type}{F:(α->Option β)->α->Option β}(I:α->Prop)(a:α->Nat)(Q:β->Prop)(h:∀rec x,I x->(∀y,I y->a y<a x->∃v,rec y=U v/\Q v)->∃v,F rec x=U v/\Q v){x:α}(b:I x)(hm:a x<2^100):∃v,rounds F x=U v/\Q v :=Xn I a Q h many x b (ed hm Cw)
def bg9(b:ByteArray)(g:b.size<=1000):∃r,Eo b=U r/\(r.2=0\/r.2=4)/\r.1.length<=1000:=by
 unfold Eo;refine oa (λx:List Int×Int=>0<=x.2/\x.2<=(b.size:Int)+4/\(x.1.length:Int)<=x.2/\x.1.length<=1000) (λx:List Int×Int=>((b.size:Int)+4-x.2).toNat) (λr:List Int×Int=>(r.2=0\/r.2=4)/\r.1.length<=1000) ?_ ⟨by simp,by simp only;omega,by simp,by simp⟩ (by simp only;omega);intro rec x d e;obtain⟨h1,h2,h,i⟩:=d;by_cases a:x.2.toNat<b.size
 .obtain⟨j,k,l⟩:=Y4 b x.2.toNat
  have hs:Gg b x.2=U ((x.2.toNat:Int),((cz b x.2.toNat).1:Int),((x.2.toNat+(cz b x.2.toNat).2:Nat):Int)):=by unfold Gg;simp[a]
  have f:aa.wrap (((cz b x.2.toNat).1:Nat):Int)=(((cz b x.2.toNat).1:Nat):Int):=lR (by omega) (by omega);have c:la 8 x.1 [(((cz b x.2.toNat).1:Nat):Int)]=U (x.1++[(((cz b x.2.toNat).1:Nat):Int)]):=nE (by omega) (by simp;omega);simp only[a,lV,dn,hs,cr,f,Ro,c];by_cases hz:Fh (((cz b x.2.toNat).1:Nat):Int)<0
  .simp[hz]
  simp only[hz,mD,ct];exact e _ ⟨by omega,by simp only;omega,by grind,by grind⟩ (by simp only;omega)
 grind
def WX{b:ByteArray}{i:Int}(a:0<=i)(h:i.toNat<b.size):∃v,tP b i=U v:=by unfold tP;have:b[i.toNat]?=U b[i.toNat]:=getElem?_pos b i.toNat h;simp[a,this]
def Y1(b:ByteArray):∃r,EO b=U r:=by
 unfold EO;cases he:(b.toList==(dj #[]).toList)with
 |true=>exact⟨_,rfl⟩
 |false=>
  simp only[ct];by_cases g:(40:Int)<(b.size:Int)
  .simp only[g,lV,dn];exact⟨_,rfl⟩
  have h:0<b.size:=by
   refine Nat.pos_of_ne_zero λhz=>?_;have q:b=dj #[]:=by
    cases b with
    |mk d=>cases d with
     |mk l=>cases l with
      |nil=>rfl
      |cons x l=>simp[ByteArray.size]at hz
   rw[q]at he;simp at he
  obtain⟨r,s,e,t⟩:=bg9 b (by omega);simp only[g,mD,ct,s,cr];rcases e with e|e
  .obtain⟨u,w⟩:=WX (b:=b) (i:=0) (by omega) (by simpa using h)
   have z:aa.wrap ((b.size:Int)-1)=(b.size:Int)-1:=lR (by omega) (by omega);obtain⟨v11,j⟩:=WX (b:=b) (i:=(b.size:Int)-1) (by omega) (by omega);have hc:∃v,strings_Contains (b,dj #[32,32])=U v:=by
    unfold strings_Contains;have:IT (b.size<4294967281)=IN:=by grind
    simp only[this,dn];exact⟨_,rfl⟩
   obtain⟨k,m⟩:=hc;simp only[e,lV,ax,ct,w,cr,z,j,m];cases IT (u=32)with
   |true=>exact⟨_,rfl⟩
   |false=>
    simp only[ct];cases IT (v11=32)with
    |true=>exact⟨_,rfl⟩
    |false=>
     simp only[ct];cases k with
     |true=>exact⟨_,rfl⟩
     |false=>
      simp only[ct,Ro,cr];have:=oy (A:=Unit) r.1 (β:=List Int×Int) (F:=λn f=>
       bif IT (f<(r.1.length:Int))then a8 (nth r.1 f) λo=>bif !decide (Fh o=0)then U (r.1,0)else n (aa.wrap (f+1))else U ([],14)) (λi _=>(i:Int)) (λ_ rest=>U (bif rest.any (λc=>!decide (Fh c=0))then(r.1,0)else([],14))) (by omega) ?_ ?_ ()
      .exact⟨_,this⟩
      .grind
      intro rec i a x rest a7 B p;simp only[lJ a7,dn,mq B,cr,lG a7 (show r.1.length<2^62 by omega),iE,p ()]
      grind
  grind
def az7(b:ByteArray):∃c,Ar b=U c:=by obtain⟨r,a⟩:=Y1 b;unfold Ar;rw[a];exact⟨_,rfl⟩
abbrev l9:=Int×Int×Int×ByteArray×List Int
def Aq{α:Type}(xs:List α)(hl:xs.length<=1000000)(P:α->Option Bool)(p:α->Bool)(hp:∀x∈xs,P x=U (p x)) :
  rounds (α:=Int) (β:=Bool) (λc b=>
   bif IT (b<((xs.length:Nat):Int))then a8 (nth xs b) λv5=>a8 (P v5) λv10=>bif v10 then U (IT ((0:Int)<=b))else c (aa.wrap (b+(1:Int)))else U IS) (0:Int)=U (xs.any p):=by
 refine oy (A:=Unit) xs (λi _=>(i:Int)) (λ_ rest=>U (rest.any p)) (by omega) ?_ ?_ ()
 .grind
 intro rec i a x rest a7 d f;have g:x∈xs:=by grind[bn]
 have e:IT ((0:Int)<=(i:Int))=IN:=by simp
 simp only[lJ a7,dn,mq d,cr,hp x g,lG a7 (show xs.length<2^62 by omega),iE,f (),e];cases p x<;>rfl
def mb(f:l9):Bool:=IT ((64:Int)<(f.2.2.2.2.length:Int))
def bb8(l:List l9)(hl:l.length<=1000000):Ge (l,())=U (l.any mb):=by unfold Ge;simp only[cr];exact Aq l hl _ mb λx _=>rfl
def mn(f:l9):Bool:=IT (f.1<1)||(IT (1073741824<f.1)||(IT (f.2.2.1<1)||IT (9<f.2.2.1)))
def bb1(l:List l9)(hl:l.length<=1000000):zk (l,())=U (l.any mn):=by
 unfold zk;simp only[cr];refine Aq l hl _ mn λx _=>?_;unfold GO mn
 grind
def bp3(k:Int):∃s,qM k=U s:=by
 unfold qM
 repeat' (first|exact⟨_,rfl⟩| (generalize IT (k=_)=c;cases c<;>simp only[dn,ct]))
noncomputable def ow(k:Int):Int:=(qM k).getD 0
theorem AP(k:Int):qM k=U (ow k):=by obtain⟨s,hs⟩:=bp3 k;simp[ow,hs]
noncomputable def pN(f:l9):Bool:=IT (ow f.2.1=0)
noncomputable def K7(b:ByteArray):Int:=(Ar b).getD 0
theorem ZL(b:ByteArray):Ar b=U (K7 b):=by obtain⟨s,hs⟩:=az7 b;simp[K7,hs]
def bb3(l:List l9)(hl:l.length<=1000000):zm (l,())=U (l.any pN):=by unfold zm;simp only[cr];refine Aq l hl _ pN λx _=>?_;unfold GN pN;simp only[AP,cr]
noncomputable def sf(f:l9):Bool:=bif !(f.2.2.2.1.toList==(dj #[]).toList)then !decide (K7 f.2.2.2.1=0)else IS
def be0(l:List l9)(hl:l.length<=1000000):zl (l,())=U (l.any sf):=by
 unfold zl;simp only[cr];refine Aq l hl _ sf λx _=>?_;unfold GM sf
 grind[ZL,cr]
noncomputable def xd(f:l9):Bool:=bif IT ((f.2.2.2.2.length:Int)=0)then IN else bif IT (ow f.2.1=1)then IT ((1:Int)<(f.2.2.2.2.length:Int))else IS
def aV9(l:List l9)(hl:l.length<=1000000):zn (l,())=U (l.any xd):=by
 unfold zn;simp only[cr];refine Aq l hl _ xd λx _=>?_;unfold GP xd
 grind[AP,cr,ow]
noncomputable def uu(a6:List ef)(al:List dk)(fs:List Int)(k:Int)(id:Int):Bool :=bif IT (ow k=1)then !(pq a6 id).isSome else bif IT (ow k=2)then !(qC al id).isSome else bif IT (ow k=3)then !decide (id∈fs)else IN
namespace eS
variable {a6:List ef} {al:List dk} {fs:List Int} (h:eS a6 al fs)
include h
theorem az4(id:Int)(f:l9):DX (id,(f.1,f.2.1,f.2.2.1,f.2.2.2.1,f.2.2.2.2),(a6,al,fs))=U (uu a6 al fs f.2.1 id):=by
 have a:=h.zo;have cu:=h.Fl;unfold DX uu;simp only[AP,cr,LV a6 al fs id (by omega),h.PN,Hr,BO fs id (by omega)]
 grind
theorem az5(f:l9)(hl:f.2.2.2.2.length<=1000000):D3 ((a6,al,fs),(f.1,f.2.1,f.2.2.1,f.2.2.2.1,f.2.2.2.2))=U (f.2.2.2.2.any (uu a6 al fs f.2.1)):=by unfold D3 Gw;simp only[cr];rw[Aq f.2.2.2.2 hl _ (uu a6 al fs f.2.1) λx _=>h.az4 x f];rfl
theorem Zz(l:List l9)(a:List l9)(hl:l.length<=1000000)(hp:∀f∈l,f.2.2.2.2.length<=1000000):zj (l,(a6,al,fs,a))=U (l.any λf=>f.2.2.2.2.any (uu a6 al fs f.2.1)):=by unfold zj;simp only[cr];refine Aq l hl _ _ λf hf=>?_;unfold GQ;simp only[h.az5 f (hp f hf),cr]
end eS
def wa:List Int->Bool
 | []=>IN
 | [_]=>IN
 |a::b::l=>!decide (b<=a)&&wa (b::l)
theorem bp8(l:List Int)(hl:l.length<=1000000):B7 l=U (wa l):=by
 unfold B7;cases l with
 |nil=>exact SQ λrec=>rfl
 |cons p0 l=>
  simp only[aA]at hl;refine(oU (A:=Int) l (λi _=>((i+1:Nat):Int)) (λa rest=>U (wa (a::rest))) (λi a=>(p0::l)[i]?=U a) (by omega) ?_ ?_ p0 rfl)
  .grind[wa]
  intro rec i a x rest a7 b c h;have d:(p0::l)[i+1]?=U x:=by rw[aM,<-mJ];exact mq c
  have e:((p0::l).length:Int)=((l.length+1:Nat):Int):=by simp
  have f:aa.wrap (((i+1:Nat):Int)-1)=(i:Int):=by grind[lR]
  have g:aa.wrap (((i+1:Nat):Int)+1)=((i+1+1:Nat):Int):=lG (n:=2000000) (by omega) (by omega);simp only[e,lJ (show i+1<l.length+1 by omega),dn,f,mJ,b,d,cr,g,wa]
  grind
abbrev rn:=Int×Int
def x8:rn->rn->Bool:=λ(a b:Int×Int)=>(IT (a.1=b.1)&&IT (a.2=b.2))
def sV(S:List (rn×Bool))(k:rn):Bool:=(ff x8 k S).getD IS
def vL(k:Int):List Int->List (rn×Bool)->Option (List (rn×Bool))
 | [],S=>U S
 |p::r,S=>bif sV S (k,p)then No else vL k r (k7 x8 (k,p) IN S)
noncomputable def wW:List l9->List (rn×Bool)->Bool
 | [],_=>IS
 |f::r,S=>bif IT (ow f.2.1=2)then wW r S else
  match vL (bif IT (ow f.2.1=3)then f.2.1 else 0) f.2.2.2.2 S with
  |some a=>wW r a
  |none=>IN
def Sx(k:Int)(d:List Int)(hl:d.length<=1000000)(K:Int×List (rn×Bool)->Option Int)(V:Option Int)(S:List (rn×Bool)) :
  rounds (α:=Int×List (rn×Bool)) (β:=Int) (λg c=>
   bif IT (c.1<((d.length:Nat):Int))then
    a8 (nth d c.1) λf=>
    a8 (mH (ff (λ(a b:Int×Int)=>(IT (a.1=b.1)&&IT (a.2=b.2))) (k,f) c.2) (U IS)) λv53=>
    bif v53 then V else g (aa.wrap (c.1+(1:Int)),k7 (λ(a b:Int×Int)=>(IT (a.1=b.1)&&IT (a.2=b.2))) (k,f) IN c.2)else K c) ((0:Int),S)=match vL k d S with|some h=>K (((d.length:Nat):Int),h)|none=>V:=by
 refine oy (A:=List (rn×Bool)) d (λi a=>((i:Int),a)) (λa rest=>match vL k rest a with|some h=>K (((d.length:Nat):Int),h)|none=>V) (by omega) ?_ ?_ S
 .grind[vL]
 intro rec i a x rest a7 j l;have e:mH (ff (λ(a b:Int×Int)=>(IT (a.1=b.1)&&IT (a.2=b.2))) (k,x) a) (U IS)=U (sV a (k,x)):=by unfold sV;show mH (ff x8 (k,x) a) (U IS)=_;cases ff x8 (k,x) a<;>rfl
 simp only[lJ a7,dn,mq j,cr,e,lG a7 (show d.length<2^62 by omega),vL];cases sV a (k,x)with
 |true=>rfl
 |false=>exact l _
def wg:Option Int->List l9->Bool
 |_,[]=>IS
 |a,f::r=>bif (match a with|some p=>IT (f.1<=p)|none=>IS)||!(wa f.2.2.2.2)then IN else wg (U f.1) r
noncomputable def sN(a6:List ef)(al:List dk)(fs:List Int)(l:List l9):Int :=
 bif !decide (t_ a6 al fs=0)then t_ a6 al fs else
 bif IT (128<(l.length:Int))then 3 else
 bif l.any mb then 3 else
 bif wg No l then 10 else
 bif l.any mn then 2 else
 bif l.any pN then 9 else
 bif l.any sf then 14 else
 bif l.any xd then 1 else
 bif l.any (λf=>f.2.2.2.2.any (uu a6 al fs f.2.1))then 7 else
 bif wW l []then 13 else 0
def Lo(a6:List ef)(al:List dk)(fs:List Int)(l:List l9):yB (a6,al,fs,l)=U (sN a6 al fs l):=by
 unfold yB sN;simp only[aw6,cr];cases d:IT (t_ a6 al fs=0)with
 |false=>simp
 |true=>
  have hp:eS a6 al fs:=by grind[B',t_,so]
  simp only[ax,ct];cases h:IT ((128:Int)<(l.length:Int))with
  |true=>rfl
  |false=>
   have hl:l.length<=1000000:=by grind
   simp only[ct,bb8 l hl,cr];cases h1:l.any mb with
   |true=>rfl
   |false=>
    have b:∀f∈l,f.2.2.2.2.length<=1000000:=λf hf=>by have:=bC.1 h1 f hf;simp only[mb,gb]at this;omega
    have hlen:l.length<=128:=by grind
    simp only[ct,bb1 l hl,bb3 l hl,be0 l hl,aV9 l hl,hp.Zz l l hl b,cr];refine(oU (A:=Option Int) l (λi _=>((i:Int),(i:Int))) (λa rest=>U (bif wg a rest then(10:Int)else bif l.any mn then 2 else bif l.any pN then 9 else bif l.any sf then 14 else bif l.any xd then 1 else bif l.any (λf=>f.2.2.2.2.any (uu a6 al fs f.2.1))then 7 else bif wW l []then 13 else 0))
     (λi a=>match a with|none=>i=0|some p=>0<i/\∃g:l9,l[i-1]?=U g/\g.1=p) (by omega) ?_ ?_ No rfl).trans ?_
    rotate_left 2
    .rfl
    .intro rec a m
     simp only[mG,ct,wg];cases l.any mn with
     |true=>rfl
     |false=>
      cases l.any pN with
      |true=>rfl
      |false=>
       cases l.any sf with
       |true=>rfl
       |false=>
        cases l.any xd with
        |true=>rfl
        |false=>
         cases l.any (λf=>f.2.2.2.2.any (uu a6 al fs f.2.1))with
         |true=>rfl
         |false=>
          simp only[ct];refine(oy (A:=List (rn×Bool)) l (λi a=>((i:Int),a)) (λa rest=>U (bif wW rest a then(13:Int)else 0)) (by omega) ?_ ?_ [])
          .grind[wW]
          intro rec i a x rest a7 e d;have c:x∈l:=by grind[bn]
          have j:aa.wrap ((i:Int)+1)=((i+1:Nat):Int):=lG (n:=2000000) (by omega) (by omega);have k:IT ((0:Int)<=(i:Int))=IN:=by simp
          simp only[lJ a7,dn,mq e,cr,AP,j,k,wW];cases IT (ow x.2.1=2)with
          |true=>exact d a
          |false=>
           simp only[ct];cases IT (ow x.2.1=3)with
           |true=>
            simp only[dn];refine(Sx x.2.1 x.2.2.2.2 (b x c) _ _ a).trans ?_
            grind
           |false=>
            simp only[ct];refine(Sx 0 x.2.2.2.2 (b x c) _ _ a).trans ?_
            grind
    intro rec i a x rest a7 m e d;have c:x∈l:=by grind[bn]
    have j:aa.wrap ((i:Int)+1)=((i+1:Nat):Int):=lG (n:=2000000) (by omega) (by omega);have k:IT ((0:Int)<=(i:Int))=IN:=by simp
    have o:l[i]?=U x:=by rw[<-mJ];exact mq e
    grind[lJ,mq,cr,bp8,wg,wa,lR,mJ]
def zA(l:List l9)(id:Int):Option l9:=l.find? (λf=>IT (f.1=id))
def Z3:l9:=(0,0,0,dj #[],[])
def LR(a6:List ef)(al:List dk)(fs:List Int)(l:List l9)(id:Int)(hl:l.length<=1000000)(hp:∀f∈l,f.2.2.2.2.length<=1000000) :
  G4 ((a6,al,fs,l),id)=U (match zA l id with|some f=>(f,IN)|none=>(Z3,IS)):=by
 unfold G4;simp only[cr];refine oy (A:=Unit) l (λi _=>(i:Int)) (λ_ rest=>U (match zA rest id with|some f=>(f,IN)|none=>(Z3,IS))) (by omega) ?_ ?_ ()
 .intro rec a
  simp only[mG,ct,zA,List.find?_nil];rfl
 intro rec i a x rest a7 d e;have b:x∈l:=by
  have:x∈l.drop i:=by rw[d];simp
  exact bn this
 have c:Dm x.2.2.2.2=U x.2.2.2.2:=by unfold Dm;rw[nE (by omega) (by have:=hp x b;simp;omega)];rfl
 simp only[lJ a7,dn,mq d,cr,lG a7 (show l.length<2^62 by omega),c];have:=e ();by_cases h:x.1=id
 .simp[zA,h]
  exact fg h.symm rfl
 simp only[h,mD,ct,this,zA,List.find?_cons]
namespace eS
variable {a6:List ef} {al:List dk} {fs:List Int} (h:eS a6 al fs)
include h
end eS
abbrev t':=Int×List Int×List (List Int)×List Int
namespace Dp
variable (a6:List ef) (al:List dk)
def nw:List l6:=tv a6 al (j9 a6 al) (eS.lT a6 al)
def rz(fs:List Int):List Int:=(ns al fs.length IN (nw a6 al) [] []).1
def xh(l:List Int)(L:List l6):List t':=l.zipWith (λf x=>(f,x.2.1,x.2.2.1,x.2.2.2)) L
def zW(x y:t'):Int:=tR x.1 y.1
def Gl(fs:List Int):List t':=nG zW (xh (rz a6 al fs) (nw a6 al))
end Dp
variable {al:List dk} {a6 ns':List ef}
namespace Dp
end Dp
end Go.Ab
namespace Go.Pg
abbrev qy:=Int×Int
def eu{α:Type}:List α->(α->Int)->Int
 | [],_=>0
 |a::l,f=>f a+eu l f
section
variable {α β:Type}
def mu{f g:α->Int}:∀ {l:List α},(∀a∈l,f a=g a)->eu l f=eu l g
 | [],_=>rfl
 |a::l,h=>by have h1:=h a (by simp);have h2:=mu (f:=f) (g:=g) (l:=l) λb c=>h b (by simp[c]);simp only[eu,h1,h2]
def qS(f g:α->Int):∀l:List α,eu l (λa=>f a+g a)=eu l f+eu l g
 | []=>by simp[eu]
 |a::l=>by have:=qS f g l;simp only[eu,this];omega
def xP(f g:α->Int):∀l:List α,eu l (λa=>f a-g a)=eu l f-eu l g
 | []=>by simp[eu]
 |a::l=>by have:=xP f g l;simp only[eu,this];omega
def y'(f:α->Int):∀l:List α,eu l (λa=>- f a)=- eu l f
 | []=>by simp[eu]
 |a::l=>by have:=y' f l;simp only[eu,this];omega
def sq{f:α->Int}{l:List α}(h:∀a∈l,f a=0):eu l f=0:=by
 induction l with
 |nil=>rfl
 |cons a l c=>simp only[eu,h a (by simp),c λb d=>h b (by simp[d])];rfl
def Fg(c:Int)(f:α->Int):∀l:List α,eu l (λa=>c*f a)=c*eu l f
 | []=>by simp[eu]
 |a::l=>by have:=Fg c f l;simp only[eu,this,hJ]
def yP(f:α->Int):∀l m:List α,eu (l++m) f=eu l f+eu m f
 | [],m=>by simp[eu]
 |a::l,m=>by have:=yP f l m;simp only[fC,eu,this];omega
def Io{f:α->Int}{l m:List α}(h:l.Perm m):eu l f=eu m f:=by
 induction h with
 |nil=>rfl
 |cons x _ a=>simp only[eu,a]
 |swap x y l=>simp only[eu];omega
 |trans _ _ h1 h2=>exact h1.trans h2
def Ba(g:β->α)(f:α->Int):∀l:List β,eu (l.map g) f=eu l (λb=>f (g b))
 | []=>rfl
 |b::l=>by simp only[ay,eu,Ba g f l]
def MW(p:α->Bool)(f:α->Int):∀l:List α,eu (l.filter p) f=eu l (λa=>if p a then f a else 0)
 | []=>rfl
 |a::l=>by
  have:=MW p f l;by_cases h:p a=IN
  .simp only[bw,h,jj,eu,this]
  simp only[bw,h,j2,eu]
  grind[aq]
def Ff(f:α->β->Int):∀(l:List α) (m:List β),eu l (λa=>eu m (f a))=eu m (λb=>eu l (λa=>f a b))
 | [],m=>by simp only[eu];exact(sq λ_ _=>rfl).symm
 |a::l,m=>by simp only[eu,Ff f l m];rw[<-qS]
end
structure Net(ι:Type) where
 E:List ι
 b5:ι->qy
 a7:ι->qy
 M:Int
 s:ι->Int
 oC:0<M
 ord:∀e∈E,(b5 e).2<(a7 e).2\/((b5 e).2=(a7 e).2/\(b5 e).1<(a7 e).1)
 x':∀e∈E,(b5 e).2<(a7 e).2->s e*((a7 e).2-(b5 e).2)=M*((a7 e).1-(b5 e).1)
namespace Net
variable {ι:Type} (N:Net ι)
def X(e:ι)(y:Int):Int:=N.M*(N.b5 e).1+N.s e*(y-(N.b5 e).2)
def up(e:ι):Prop:=(N.b5 e).2<(N.a7 e).2
instance (e:ι):Decidable (N.up e):=by unfold up;infer_instance
def lA(e:ι)(k:Int):Prop:=(N.b5 e).2<=k/\k<(N.a7 e).2
instance (e:ι) (k:Int):Decidable (N.lA e k):=by unfold lA;infer_instance
def uO(e:ι):N.X e (N.b5 e).2=N.M*(N.b5 e).1:=by simp[X]
def xz{e:ι}(he:e∈N.E)(hu:N.up e):N.X e (N.a7 e).2=N.M*(N.a7 e).1:=by have:=N.x' e he hu;unfold X;rw[this,cP];omega
structure PY:Prop where
 nodup:N.E.Nodup
 kj:∀e∈N.E,∀f∈N.E,∀k,N.lA e k->N.lA f k->N.X e k<N.X f k->N.X e (k+1)<=N.X f (k+1)
 Q3:∀e∈N.E,∀f∈N.E,∀k,N.lA e k->N.lA f k->N.X e (k+1)<N.X f (k+1)->N.X e k<=N.X f k
 apart:∀e∈N.E,∀f∈N.E,∀k,N.lA e k->N.lA f k->N.X e k=N.X f k->N.X e (k+1)=N.X f (k+1)->e=f
 Kn:∀e∈N.E,∀f∈N.E,∀k,N.up e->N.up f->e≠f->(N.b5 e).2<=k->k<=(N.a7 e).2->(N.b5 f).2<=k->k<=(N.a7 f).2->N.X e k=N.X f k->(k=(N.b5 e).2\/k=(N.a7 e).2)
 flat:∀e∈N.E,∀f∈N.E,N.up e->¬N.up f->(N.b5 e).2<=(N.b5 f).2->(N.b5 f).2<=(N.a7 e).2->N.M*(N.b5 f).1<=N.X e (N.b5 f).2->N.X e (N.b5 f).2<=N.M*(N.a7 f).1 ->
  ((N.b5 f).2=(N.b5 e).2\/(N.b5 f).2=(N.a7 e).2)/\(N.X e (N.b5 f).2=N.M*(N.b5 f).1\/N.X e (N.b5 f).2=N.M*(N.a7 f).1)
 rE:∀e∈N.E,∀f∈N.E,¬N.up e->¬N.up f->(N.b5 e).2=(N.b5 f).2->(N.b5 e).1<(N.a7 f).1->(N.b5 f).1<(N.a7 e).1->e=f
def qO(d:ι->Int):Prop:=∀A:qy->Bool,eu N.E (λe=>d e*((if A (N.b5 e)then 1 else 0)-(if A (N.a7 e)then 1 else 0)))=0
def rW(d:ι->Int)(k a:Int):Int:=eu N.E λe=>if N.lA e k/\N.X e k<a then d e else 0
def below(d:ι->Int)(k a:Int):Int:=eu N.E λe=>if N.lA e (k-1)/\N.X e k<a then d e else 0
def sZ(d:ι->Int)(k a:Int):Int:=eu N.E λe=>if ¬N.up e/\(N.b5 e).2=k/\N.M*(N.b5 e).1<a/\a<=N.M*(N.a7 e).1 then d e else 0
def line{d:ι->Int}(j:N.qO d)(k a:Int):N.rW d k a+N.sZ d k a=N.below d k a:=by
 have h:=j λv=>IT (v.2=k/\N.M*v.1<a);have e:eu N.E (λe=>d e*((if IT ((N.b5 e).2=k/\N.M*(N.b5 e).1<a)=IN then 1 else 0)-(if IT ((N.a7 e).2=k/\N.M*(N.a7 e).1<a)=IN then 1 else 0)))=eu N.E (λe=>((if N.lA e k/\N.X e k<a then d e else 0)+(if ¬N.up e/\(N.b5 e).2=k/\N.M*(N.b5 e).1<a/\a<=N.M*(N.a7 e).1 then d e else 0))-(if N.lA e (k-1)/\N.X e k<a then d e else 0)):=by
  refine mu λe he=>?_;simp only[gb];rcases N.ord e he with f|⟨f,l⟩
  .have hu:N.up e:=f
   by_cases h1:(N.b5 e).2=k
   .have g:N.X e k=N.M*(N.b5 e).1:=by rw[<-h1];exact N.uO e
    have c1:N.lA e k:=⟨by omega,by omega⟩;have c2:¬N.lA e (k-1):=λh=>by have:=h.1;omega
    have m:¬(N.a7 e).2=k:=by omega
    simp only[h1,c1,c2,m,hu,g,pB,false_and,not_true_eq_false,j2];split<;>simp
   by_cases h2:(N.a7 e).2=k
   .have g:N.X e k=N.M*(N.a7 e).1:=by rw[<-h2];exact N.xz he hu
    have c1:¬N.lA e k:=λh=>by have:=h.2;omega
    have c2:N.lA e (k-1):=⟨by omega,by omega⟩;simp only[h1,h2,c1,c2,hu,g,pB,false_and,not_true_eq_false,j2];split<;>simp
   have c:N.lA e k↔N.lA e (k-1):=by unfold lA;omega
   simp only[h1,h2,c,hu,false_and,not_true_eq_false,j2];omega
  have hu:¬N.up e:=λh=>by unfold up at h;omega
  have c1:∀k,¬N.lA e k:=λk h=>by have:=h.1;have:=h.2;omega
  have n:=cd l N.oC;simp only[c1,hu,false_and,j2,not_false_eq_true,pB,<-f];by_cases h1:(N.b5 e).2=k
  .simp only[h1,pB]
   by_cases h2:N.M*(N.b5 e).1<a
   .by_cases b:N.M*(N.a7 e).1<a
    .have i:¬a<=N.M*(N.a7 e).1:=by omega
     simp[h2,b,i]
    have i:a<=N.M*(N.a7 e).1:=by omega
    simp[h2,b,i]
   have b:¬N.M*(N.a7 e).1<a:=by omega
   simp[h2,b]
  simp[h1]
 rw[e,xP,qS]at h;show eu N.E _+eu N.E _=eu N.E _;omega
def W(d:ι->Int)(k:Int)(u:ι):Int:=eu N.E λe=>if N.lA e k/\N.X e k+N.X e (k+1)<N.X u k+N.X u (k+1)then d e else 0
variable {N} (hP:N.PY)
include hP
theorem HP{e u:ι}(he:e∈N.E)(hu:u∈N.E){k:Int}(h1:N.lA e k)(h2:N.lA u k):N.X e k+N.X e (k+1)<N.X u k+N.X u (k+1)↔N.X e k<N.X u k\/(N.X e k=N.X u k/\N.X e (k+1)<N.X u (k+1)):=by
 have a:=hP.kj e he u hu k h1 h2;have b:=hP.kj u hu e he k h2 h1;constructor
 .intro h
  rcases fI (N.X e k) (N.X u k)with c|c|c
  .exact bk c
  .exact a_ ⟨c,by omega⟩
  have:=b c;omega
 rintro (h|⟨h,h'⟩)
 .have:=a h;omega
 omega
theorem UI{e u:ι}(he:e∈N.E)(hu:u∈N.E){k:Int}(h1:N.lA e k)(h2:N.lA u k):N.X e k+N.X e (k+1)<N.X u k+N.X u (k+1)↔N.X e (k+1)<N.X u (k+1)\/(N.X e (k+1)=N.X u (k+1)/\N.X e k<N.X u k):=by
 have a:=hP.Q3 e he u hu k h1 h2;have b:=hP.Q3 u hu e he k h2 h1;constructor
 .intro h
  rcases fI (N.X e (k+1)) (N.X u (k+1))with c|c|c
  .exact bk c
  .exact a_ ⟨c,by omega⟩
  have:=b c;omega
 rintro (h|⟨h,h'⟩)
 .have:=a h;omega
 omega
theorem P1(d:ι->Int){u:ι}(hu:u∈N.E){k:Int}(h2:N.lA u k):N.W d k u=N.rW d k (N.X u k)+eu N.E (λe=>if N.lA e k/\N.X e k=N.X u k/\N.X e (k+1)<N.X u (k+1)then d e else 0):=by
 unfold W rW;rw[<-qS];refine mu λe he=>?_;by_cases h1:N.lA e k
 .have:=HP hP he hu h1 h2
  simp only[h1,pB,this];by_cases c1:N.X e k<N.X u k
  .have c2:¬N.X e k=N.X u k:=by omega
   simp[c1,c2]
  simp[c1]
 simp[h1]
theorem P2(d:ι->Int){u:ι}(hu:u∈N.E){k:Int}(h2:N.lA u k):N.W d k u=N.below d (k+1) (N.X u (k+1))+eu N.E (λe=>if N.lA e k/\N.X e (k+1)=N.X u (k+1)/\N.X e k<N.X u k then d e else 0):=by
 unfold W below;rw[<-qS];refine mu λe he=>?_;rw[show k+1-1=k by omega];by_cases h1:N.lA e k
 .have:=UI hP he hu h1 h2
  simp only[h1,pB,this];by_cases c1:N.X e (k+1)<N.X u (k+1)
  .have c2:¬N.X e (k+1)=N.X u (k+1):=by omega
   simp[c1,c2]
  simp[c1]
 simp[h1]
theorem qk{e:ι}{k:Int}(h:N.lA e k):N.up e:=by have:=h.1;have:=h.2;unfold up;omega
theorem Z0{d:ι->Int}(i:N.qO d){u:ι}(hu:u∈N.E){k:Int}(h1:N.lA u k)(h2:N.lA u (k+1)):N.W d k u=N.W d (k+1) u:=by
 have a:=qk hP h1;have i1:(N.b5 u).2<k+1:=by have:=h1.1;omega
 have i2:k+1<(N.a7 u).2:=h2.2;have j:eu N.E (λe=>if N.lA e k/\N.X e (k+1)=N.X u (k+1)/\N.X e k<N.X u k then d e else 0)=0:=sq λe he=>by
  by_cases c:N.lA e k/\N.X e (k+1)=N.X u (k+1)/\N.X e k<N.X u k
  .obtain⟨c1,c2,g⟩:=c
   have b:u≠e:=λh=>by subst h;omega
   have:=hP.Kn u hu e he (k+1) a (qk hP c1) b (by omega) (by omega) (by have:=c1.1;omega) (by have:=c1.2;omega) c2.symm;omega
  rw[b8 c]
 have m:eu N.E (λe=>if N.lA e (k+1)/\N.X e (k+1)=N.X u (k+1)/\N.X e (k+1+1)<N.X u (k+1+1)then d e else 0)=0:=sq λe he=>by
  by_cases c:N.lA e (k+1)/\N.X e (k+1)=N.X u (k+1)/\N.X e (k+1+1)<N.X u (k+1+1)
  .obtain⟨c1,c2,g⟩:=c
   have b:u≠e:=λh=>by subst h;omega
   have:=hP.Kn u hu e he (k+1) a (qk hP c1) b (by omega) (by omega) (by have:=c1.1;omega) (by have:=c1.2;omega) c2.symm;omega
  rw[b8 c]
 have n:N.sZ d (k+1) (N.X u (k+1))=0:=sq λf hf=>by
  by_cases c:¬N.up f/\(N.b5 f).2=k+1/\N.M*(N.b5 f).1<N.X u (k+1)/\N.X u (k+1)<=N.M*(N.a7 f).1
  .obtain⟨c1,c2,g,o⟩:=c
   have:=hP.flat u hu f hf a c1 (by omega) (by omega) (by rw[c2];omega) (by rw[c2];omega);omega
  rw[b8 c]
 have l:=N.line i (k+1) (N.X u (k+1));rw[P2 hP d hu h1,P1 hP d hu h2,j,m];omega
theorem X3{d:ι->Int}(b:N.qO d){u:ι}(hu:u∈N.E)(n:Nat):∀ {k:Int},N.lA u k->N.lA u (k+n)->N.W d k u=N.W d (k+n) u:=by
 induction n with
 |zero=>intro k _ _;simp
 |succ n c=>intro k h1 h2;have a:N.lA u (k+1):=⟨by have:=h1.1;omega,by have:=h2.2;omega⟩;rw[Z0 hP b hu h1 a,show k+((n+1:Nat):Int)=k+1+(n:Int)by omega];exact c a (by rw[show k+1+(n:Int)=k+((n+1:Nat):Int)by omega];exact h2)
theorem P0{d:ι->Int}(b:N.qO d){u:ι}(hu:u∈N.E){k a:Int}(h1:N.lA u k)(h2:N.lA u a):N.W d k u=N.W d a u:=by
 rcases Int.le_total k a with h|h
 .have:=X3 hP b hu (a-k).toNat h1 (by rw[show k+((a-k).toNat:Int)=a by omega];exact h2)
  rw[show k+((a-k).toNat:Int)=a by omega]at this;exact this
 have:=X3 hP b hu (k-a).toNat h2 (by rw[show a+((k-a).toNat:Int)=k by omega];exact h1);rw[show a+((k-a).toNat:Int)=k by omega]at this;exact this.symm
end Net
end Go.Pg
namespace Go.Pg
namespace Net
variable {ι:Type} {N:Net ι} (hP:N.PY)
def xC(N:Net ι)(d:ι->Int)(v:qy):Int:=eu N.E λe=>if N.up e/\N.b5 e=v then d e else 0
def Cc(N:Net ι)(d:ι->Int)(v:qy):Int:=eu N.E λe=>if N.up e/\N.a7 e=v then d e else 0
def As(N:Net ι)(d:ι->Int)(v:qy):Int:=eu N.E λe=>if ¬N.up e/\N.b5 e=v then d e else 0
def Au(N:Net ι)(d:ι->Int)(v:qy):Int:=eu N.E λe=>if ¬N.up e/\N.a7 e=v then d e else 0
def Xr{d:ι->Int}(a:N.qO d)(v:qy):N.xC d v+N.As d v=N.Cc d v+N.Au d v:=by
 have h:=a λp=>IT (p=v);have e:eu N.E (λe=>d e*((if IT (N.b5 e=v)=IN then 1 else 0)-(if IT (N.a7 e=v)=IN then 1 else 0)))=eu N.E (λe=>((if N.up e/\N.b5 e=v then d e else 0)+(if ¬N.up e/\N.b5 e=v then d e else 0))-((if N.up e/\N.a7 e=v then d e else 0)+(if ¬N.up e/\N.a7 e=v then d e else 0))):=by refine mu λe _=>?_;simp only[gb];by_cases h1:N.up e<;>by_cases h2:N.b5 e=v<;>by_cases b:N.a7 e=v<;>simp[h1,h2,b]
 rw[e,xP,qS,qS]at h;unfold xC Cc As Au;omega
def K_(N:Net ι)(v:qy):Prop:=∃e∈N.E,N.b5 e=v\/N.a7 e=v
include hP
omit hP in
theorem wT{e:ι}(he:e∈N.E)(h:¬N.up e):(N.b5 e).2=(N.a7 e).2/\(N.b5 e).1<(N.a7 e).1:=by
 rcases N.ord e he with a|a
 .exact lH a h
 exact a
theorem Mq(d:ι->Int){v:qy}(hv:N.K_ v):N.sZ d v.2 (N.M*v.1)=N.Au d v:=by
 refine mu λf hf=>?_;by_cases h1:N.up f
 .simp[h1]
 obtain⟨k,l⟩:=wT hf h1;by_cases h2:N.a7 f=v
 .have c:(N.b5 f).2=v.2/\N.M*(N.b5 f).1<N.M*v.1/\N.M*v.1<=N.M*(N.a7 f).1:=by rw[<-h2];exact⟨k,cd l N.oC,bJ _⟩
  simp[h1,h2,c]
 have c:¬((N.b5 f).2=v.2/\N.M*(N.b5 f).1<N.M*v.1/\N.M*v.1<=N.M*(N.a7 f).1):=by
  rintro ⟨c1,c2,i⟩;have c2:(N.b5 f).1<v.1:=dA c2 (dm N.oC);have i:v.1<=(N.a7 f).1:=bV i N.oC;have n:v.1≠(N.a7 f).1:=λh=>h2 (fg h.symm (by omega));obtain⟨e,he,a⟩:=hv;by_cases b:N.up e
  .rcases a with a|a
   .have g:N.X e (N.b5 f).2=N.M*v.1:=by rw[c1,<-a];exact N.uO e
    have:=hP.flat e he f hf b h1 (by rw[a];omega) (by unfold up at b;rw[a]at b;omega) (by rw[g];exact bd (by omega) (dm N.oC)) (by rw[g];exact bd (by omega) (dm N.oC));rw[g]at this;rcases this.2 with h|h
    .have:=cm (by have:=N.oC;omega) h;omega
    have:=cm (by have:=N.oC;omega) h;omega
   have g:N.X e (N.b5 f).2=N.M*v.1:=by rw[c1,<-a];exact N.xz he b
   have:=hP.flat e he f hf b h1 (by unfold up at b;rw[a]at b;omega) (by rw[a];omega) (by rw[g];exact bd (by omega) (dm N.oC)) (by rw[g];exact bd (by omega) (dm N.oC));rw[g]at this;rcases this.2 with h|h
   .have:=cm (by have:=N.oC;omega) h;omega
   have:=cm (by have:=N.oC;omega) h;omega
  obtain⟨m,j⟩:=wT he b;rcases a with a|a
  .have:=hP.rE e he f hf b h1 (by rw[a];omega) (by rw[a];omega) (by rw[a]at j;omega)
   subst this;rw[a]at c2;omega
  have:=hP.rE e he f hf b h1 (by rw[m,a];omega) (by rw[a]at j;omega) (by rw[a];omega);subst this;exact h2 a
 simp only[h1,h2,not_false_eq_true,pB,false_and,and_false,j2];rw[b8 c]
theorem ZZ(d:ι->Int){u:ι}(hu:u∈N.E)(h:N.up u){v:qy}(hv:N.b5 u=v):N.W d v.2 u=N.rW d v.2 (N.M*v.1)+eu N.E (λe=>if N.up e/\N.b5 e=v/\N.X e (v.2+1)<N.X u (v.2+1)then d e else 0):=by
 subst hv;have f:=N.uO u;have hc:N.lA u (N.b5 u).2:=⟨bJ _,h⟩;rw[P1 hP d hu hc,f];congr 1;refine mu λe he=>?_;by_cases c:N.up e/\N.b5 e=N.b5 u/\N.X e ((N.b5 u).2+1)<N.X u ((N.b5 u).2+1)
 .obtain⟨c1,c2,a⟩:=c
  rw[b9 ⟨⟨by rw[c2];omega,by unfold up at c1;rw[c2]at c1;exact c1⟩,by rw[<-c2];exact N.uO e,a⟩,b9 ⟨c1,c2,a⟩]
 rw[b8 c,b8];rintro ⟨c1,c2,a⟩;have b:e≠u:=λh=>by subst h;omega
 have i:=hP.Kn e he u hu (N.b5 u).2 (qk hP c1) h b c1.1 (by have:=c1.2;omega) (bJ _) (by unfold up at h;omega) (by rw[c2,f]);have g:(N.b5 u).2=(N.b5 e).2:=by have:=c1.2;omega
 refine c ⟨qk hP c1,fg ?_ g.symm,a⟩;have:N.X e (N.b5 e).2=N.M*(N.b5 e).1:=N.uO e;rw[<-g,c2]at this;exact(cm (by have:=N.oC;omega) this).symm
theorem ZY(d:ι->Int){u:ι}(hu:u∈N.E)(h:N.up u){v:qy}(hv:N.a7 u=v):N.W d (v.2-1) u=N.below d v.2 (N.M*v.1)+eu N.E (λe=>if N.up e/\N.a7 e=v/\N.X e (v.2-1)<N.X u (v.2-1)then d e else 0):=by
 subst hv;have g:=N.xz hu h;have hc:N.lA u ((N.a7 u).2-1):=⟨by unfold up at h;omega,by omega⟩;have j:(N.a7 u).2-1+1=(N.a7 u).2:=by omega
 rw[P2 hP d hu hc,j,g];congr 1;refine mu λe he=>?_;by_cases c:N.up e/\N.a7 e=N.a7 u/\N.X e ((N.a7 u).2-1)<N.X u ((N.a7 u).2-1)
 .obtain⟨c1,c2,a⟩:=c
  have b:=N.xz he c1;rw[b9 ⟨⟨by unfold up at c1;rw[c2]at c1;omega,by rw[c2];omega⟩,by rw[<-c2];exact b,a⟩,b9 ⟨c1,c2,a⟩]
 rw[b8 c,b8];rintro ⟨c1,c2,a⟩;have f:e≠u:=λh=>by subst h;omega
 have k:=hP.Kn e he u hu (N.a7 u).2 (qk hP c1) h f (by have:=c1.1;omega) (by have:=c1.2;omega) (by unfold up at h;omega) (bJ _) (by rw[c2,g]);have i:(N.a7 u).2=(N.a7 e).2:=by have:=c1.1;omega
 refine c ⟨qk hP c1,fg ?_ i.symm,a⟩;have:N.X e (N.a7 e).2=N.M*(N.a7 e).1:=N.xz he (qk hP c1);rw[<-i,c2]at this;exact(cm (by have:=N.oC;omega) this).symm
theorem aB5(d:ι->Int){f:ι}(hf:f∈N.E)(h:¬N.up f):N.rW d (N.b5 f).2 (N.M*(N.a7 f).1)=N.rW d (N.b5 f).2 (N.M*(N.b5 f).1)+N.xC d (N.b5 f):=by
 obtain⟨p,m⟩:=wT hf h;have n:=cd m N.oC;unfold rW xC;rw[<-qS];refine mu λe he=>?_;by_cases c:N.lA e (N.b5 f).2
 .have g:=qk hP c
  simp only[c,g,pB];by_cases c1:N.b5 e=N.b5 f
  .have j:N.X e (N.b5 f).2=N.M*(N.b5 f).1:=by rw[<-c1];exact N.uO e
   have o:¬N.M*(N.b5 f).1<N.M*(N.b5 f).1:=by omega
   simp only[c1,j,jj,o,n,j2];omega
  simp only[c1,j2];by_cases c2:N.X e (N.b5 f).2<N.M*(N.b5 f).1
  .have k:N.X e (N.b5 f).2<N.M*(N.a7 f).1:=by omega
   simp only[c2,k,jj];omega
  by_cases k:N.X e (N.b5 f).2<N.M*(N.a7 f).1
  .have:=hP.flat e he f hf g h c.1 (by have:=c.2;omega) (by omega) (by omega)
   have l:(N.b5 f).2=(N.b5 e).2:=by have:=c.2;omega
   have j:N.X e (N.b5 f).2=N.M*(N.b5 f).1:=by omega
   have i:=N.uO e;rw[<-l,j]at i;exact lH (fg (cm (by have:=N.oC;omega) i).symm l.symm) c1
  simp only[c2,k,j2];omega
 have c1:¬(N.up e/\N.b5 e=N.b5 f):=by rintro ⟨a,b⟩;exact c ⟨by rw[b];omega,by unfold up at a;rw[b]at a;exact a⟩
 simp[c,c1]
end Net
end Go.Pg
namespace Go.Pg
def Be{α:Type}[DecidableEq α](f:α->Int){u:α}:∀ {l:List α},l.Nodup->u∈l->eu l (λa=>if a=u then f a else 0)=f u
 | [],_,h=>by simp at h
 |a::l,c,h=>by
  have c:=cF.1 c;simp only[eu];by_cases e:a=u
  .subst e
   rw[b9 rfl,sq λb d=>b8 λ(h:b=a)=>c.1 (h▸d)];omega
  rcases aI.1 h with h|h
  .exact lH h.symm e
  rw[b8 e,Be f c.2 h];omega
namespace Net
variable {ι:Type} {N:Net ι} (hP:N.PY)
abbrev lS(ι:Type):=ι×Bool
def src(N:Net ι)(h:lS ι):qy:=bif h.2 then N.b5 h.1 else N.a7 h.1
def dst(N:Net ι)(h:lS ι):qy:=bif h.2 then N.a7 h.1 else N.b5 h.1
def rev(h:lS ι):lS ι:=(h.1,!h.2)
def dl(d:ι->Int)(h:lS ι):Int:=bif h.2 then d h.1 else-d h.1
def L(N:Net ι)(d:ι->Int)(h:lS ι):Int :=if N.up h.1 then(bif h.2 then N.W d (N.b5 h.1).2 h.1 else N.W d (N.b5 h.1).2 h.1+d h.1)else(bif h.2 then N.rW d (N.b5 h.1).2 (N.M*(N.a7 h.1).1)else N.below d (N.b5 h.1).2 (N.M*(N.a7 h.1).1))
def cls(N:Net ι)(h:lS ι):Nat:=if N.up h.1 then(bif h.2 then 1 else 3)else(bif h.2 then 0 else 2)
def mo(N:Net ι)(k:Int)(g h:lS ι):Prop:=N.cls g<N.cls h\/(N.cls g=1/\N.cls h=1/\N.X h.1 (k+1)<N.X g.1 (k+1))\/(N.cls g=3/\N.cls h=3/\N.X g.1 (k-1)<N.X h.1 (k-1))
def nz(N:Net ι):List (lS ι):=N.E.flatMap λe=>[(e,IN),(e,IS)]
def BG(F:lS ι->Int):eu N.nz F=eu N.E (λe=>F (e,IN)+F (e,IS)):=by
 unfold nz;generalize N.E=E
 induction E with
 |nil=>rfl
 |cons e E a=>simp only[dF,fC,bq,eu,a];omega
include hP
theorem WS(d:ι->Int){f:ι}(hf:f∈N.E)(h:¬N.up f):N.Au d (N.a7 f)=d f:=by
 open Classical in
 rw[<-Be d hP.nodup hf];refine mu λe he=>?_;by_cases c:e=f
 .subst c;simp[h]
 rw[b8 c,b8];rintro ⟨c1,c2⟩;obtain⟨a,b⟩:=wT he c1;obtain⟨g,i⟩:=wT hf h;exact c (hP.rE e he f hf c1 h (by rw[a,c2,g]) (by rw[<-c2];exact b) (by rw[c2];exact i))
theorem YA(d:ι->Int){f:ι}(hf:f∈N.E)(h:¬N.up f):N.As d (N.b5 f)=d f:=by
 open Classical in
 rw[<-Be d hP.nodup hf];refine mu λe he=>?_;by_cases c:e=f
 .subst c;simp[h]
 rw[b8 c,b8];rintro ⟨c1,c2⟩;obtain⟨g,a⟩:=wT he c1;obtain⟨i,b⟩:=wT hf h;exact c (hP.rE e he f hf c1 h (by rw[c2]) (by rw[c2];exact b) (by rw[<-c2];exact a))
theorem Ku{d:ι->Int}(c:N.qO d){h:lS ι}(a:h.1∈N.E):N.L d (rev h)=N.L d h+dl d h:=by
 obtain⟨e,b⟩:=h;have a:e∈N.E:=a;unfold L rev dl;by_cases hu:N.up e
 .cases b
  .simp only[hu,jj,aW,dn,ct];omega
  simp only[hu,jj,ax,dn,ct]
 obtain⟨f,g⟩:=wT a hu;have l:=N.line c (N.a7 e).2 (N.M*(N.a7 e).1);rw[Mq hP d ⟨e,a,a_ rfl⟩,WS hP d a hu]at l;rw[<-f]at l;cases b
 .simp only[hu,j2,aW,dn,ct];omega
 simp only[hu,j2,ax,dn,ct];omega
open Classical in
theorem bn7{d:ι->Int}(s:N.qO d){h:lS ι}(B:h.1∈N.E){v:qy}(hv:N.src h=v) :
  N.L d h=N.below d v.2 (N.M*v.1)+N.Cc d v-eu N.nz (λg=>if N.src g=v/\(g=h\/N.mo v.2 g h)then dl d g else 0):=by
 obtain⟨u,b⟩:=h;have hu:u∈N.E:=B;have q:N.K_ v:=by
  cases b
  .exact⟨u,hu,a_ hv⟩
  exact⟨u,hu,bk hv⟩
 have n:=N.line s v.2 (N.M*v.1);rw[Mq hP d q]at n;have w:=Xr s v;rw[BG];by_cases a:N.up u
 .cases b with
  |true=>
   have hv:N.b5 u=v:=hv;have o:N.L d (u,IN)=N.W d v.2 u:=by simp only[L,a,jj,dn,hv]
   have f:N.cls (u,IN)=1:=by simp[cls,a]
   have p:eu N.E (λe=>(if N.src (e,IN)=v/\((e,IN)=(u,IN)\/N.mo v.2 (e,IN) (u,IN))then dl d (e,IN)else 0)+(if N.src (e,IS)=v/\((e,IS)=(u,IN)\/N.mo v.2 (e,IS) (u,IN))then dl d (e,IS)else 0))
     = eu N.E (λe=>(if ¬N.up e/\N.b5 e=v then d e else 0)+((if N.up e/\N.b5 e=v then d e else 0)-(if N.up e/\N.b5 e=v/\N.X e (v.2+1)<N.X u (v.2+1)then d e else 0))):=by
    refine mu λe he=>?_;have s1:N.src (e,IN)=N.b5 e:=rfl;have d1:dl d (e,IN)=d e:=rfl;by_cases c:N.up e
    .have l:N.cls (e,IN)=1:=by simp[cls,c]
     have m:N.cls (e,IS)=3:=by simp[cls,c]
     have k:¬((e,IS)=(u,IN)\/N.mo v.2 (e,IS) (u,IN)):=by
      rintro (h|h)
      .cases h
      unfold mo at h;rw[m,f]at h;omega
     rw[b8 (λh:_/\_=>k h.2)];simp only[s1,d1,c,not_true_eq_false,false_and,j2,pB];by_cases c1:N.b5 e=v
     .simp only[c1,pB,jj]
      have i:((e,IN)=(u,IN)\/N.mo v.2 (e,IN) (u,IN))↔¬N.X e (v.2+1)<N.X u (v.2+1):=by
       constructor
       .rintro (h|h)
        .cases h;omega
        unfold mo at h;rw[l,f]at h;simp only at h;omega
       intro h;by_cases h2:N.X u (v.2+1)<N.X e (v.2+1)
       .exact a_ (a_ (bk ⟨l,f,h2⟩))
       left;have ce:N.lA e v.2:=⟨by rw[c1];omega,by unfold up at c;rw[c1]at c;exact c⟩;have C:N.lA u v.2:=⟨by rw[hv];omega,by unfold up at a;rw[hv]at a;exact a⟩;have D:N.X e v.2=N.M*v.1:=by rw[<-c1];exact N.uO e
       have G:N.X u v.2=N.M*v.1:=by rw[<-hv];exact N.uO u
       have:=hP.apart e he u hu v.2 ce C (by rw[D,G]) (by omega);rw[this]
      by_cases c2:N.X e (v.2+1)<N.X u (v.2+1)
      .rw[b8 (λh=>(i.1 h) c2),b9 c2];omega
      rw[b9 (i.2 c2),b8 c2];omega
     simp[c1]
    have l:N.cls (e,IN)=0:=by simp[cls,c]
    have m:N.cls (e,IS)=2:=by simp[cls,c]
    have i:((e,IN)=(u,IN)\/N.mo v.2 (e,IN) (u,IN)):=by right;unfold mo;rw[l,f];omega
    have k:¬((e,IS)=(u,IN)\/N.mo v.2 (e,IS) (u,IN)):=by
     rintro (h|h)
     .cases h
     unfold mo at h;rw[m,f]at h;omega
    rw[b8 (λh:_/\_=>k h.2)];simp only[s1,d1,c,i,and_true,not_false_eq_true,pB,false_and,j2];omega
   rw[p,qS,xP,o,ZZ hP d hu a hv];have:eu N.E (λe=>if ¬N.up e/\N.b5 e=v then d e else 0)=N.As d v:=rfl;have:eu N.E (λe=>if N.up e/\N.b5 e=v then d e else 0)=N.xC d v:=rfl;omega
  |false=>
   have hv:N.a7 u=v:=hv;have o:N.L d (u,IS)=N.W d (v.2-1) u+d u:=by have c1:N.lA u (N.b5 u).2:=⟨bJ _,a⟩;have c2:N.lA u (v.2-1):=⟨by unfold up at a;rw[hv]at a;omega,by rw[hv];omega⟩;simp only[L,a,jj,ct,P0 hP s hu c1 c2]
   have f:N.cls (u,IS)=3:=by simp[cls,a]
   have p:eu N.E (λe=>(if N.src (e,IN)=v/\((e,IN)=(u,IS)\/N.mo v.2 (e,IN) (u,IS))then dl d (e,IN)else 0)+(if N.src (e,IS)=v/\((e,IS)=(u,IS)\/N.mo v.2 (e,IS) (u,IS))then dl d (e,IS)else 0))
     = eu N.E (λe=>((if N.up e/\N.b5 e=v then d e else 0)+(if ¬N.up e/\N.b5 e=v then d e else 0))-((if ¬N.up e/\N.a7 e=v then d e else 0)+((if e=u then d e else 0)+(if N.up e/\N.a7 e=v/\N.X e (v.2-1)<N.X u (v.2-1)then d e else 0)))):=by
    refine mu λe he=>?_;have s1:N.src (e,IN)=N.b5 e:=rfl;have d1:dl d (e,IN)=d e:=rfl;have s2:N.src (e,IS)=N.a7 e:=rfl;have d2:dl d (e,IS)=- d e:=rfl;by_cases c:N.up e
    .have l:N.cls (e,IN)=1:=by simp[cls,c]
     have m:N.cls (e,IS)=3:=by simp[cls,c]
     have i:((e,IN)=(u,IS)\/N.mo v.2 (e,IN) (u,IS)):=by right;unfold mo;rw[l,f];omega
     have k:N.a7 e=v->(((e,IS)=(u,IS)\/N.mo v.2 (e,IS) (u,IS))↔(e=u\/N.X e (v.2-1)<N.X u (v.2-1))):=by
      intro _;constructor
      .rintro (h|h)
       .cases h;exact bk rfl
       unfold mo at h;rw[m,f]at h;simp only at h;right;omega
      rintro (h|h)
      .rw[h];exact bk rfl
      exact a_ (a_ (a_ ⟨m,f,h⟩))
     by_cases j:e=u
     .subst j
      have t:¬N.X e (v.2-1)<N.X e (v.2-1):=by omega
      simp only[s1,s2,d1,d2,c,hv,pB,i,and_true,not_true_eq_false,false_and,j2,true_or,jj,t,and_false];split<;>omega
     by_cases c2:N.a7 e=v
     .have:=k c2
      simp only[s1,s2,d1,d2,c,c2,pB,i,and_true,not_true_eq_false,false_and,j2,j,this,false_or];by_cases x:N.X e (v.2-1)<N.X u (v.2-1)
      .simp only[x,jj];omega
      simp only[x,j2];omega
     simp only[s1,s2,d1,d2,c,c2,pB,i,and_true,not_true_eq_false,false_and,j2,j];omega
    have l:N.cls (e,IN)=0:=by simp[cls,c]
    have m:N.cls (e,IS)=2:=by simp[cls,c]
    have i:((e,IN)=(u,IS)\/N.mo v.2 (e,IN) (u,IS)):=by right;unfold mo;rw[l,f];omega
    have k:((e,IS)=(u,IS)\/N.mo v.2 (e,IS) (u,IS)):=by right;unfold mo;rw[m,f];omega
    have j:¬e=u:=λh=>c (h▸a);simp only[s1,s2,d1,d2,c,i,k,and_true,false_and,j2,not_false_eq_true,pB,j];split<;>split<;>omega
   rw[p,xP,qS,qS,qS,o,ZY hP d hu a hv,Be d hP.nodup hu];have:eu N.E (λe=>if ¬N.up e/\N.b5 e=v then d e else 0)=N.As d v:=rfl;have:eu N.E (λe=>if N.up e/\N.b5 e=v then d e else 0)=N.xC d v:=rfl;have:eu N.E (λe=>if ¬N.up e/\N.a7 e=v then d e else 0)=N.Au d v:=rfl;omega
 cases b with
 |true=>
  have hv:N.b5 u=v:=hv;have o:N.L d (u,IN)=N.rW d v.2 (N.M*v.1)+N.xC d v:=by have:=aB5 hP d hu a;simp only[L,a,j2,dn];rw[<-hv];exact this
  have f:N.cls (u,IN)=0:=by simp[cls,a]
  have p:eu N.E (λe=>(if N.src (e,IN)=v/\((e,IN)=(u,IN)\/N.mo v.2 (e,IN) (u,IN))then dl d (e,IN)else 0)+(if N.src (e,IS)=v/\((e,IS)=(u,IN)\/N.mo v.2 (e,IS) (u,IN))then dl d (e,IS)else 0))
    = eu N.E (λe=>if e=u then d e else 0):=by
   refine mu λe he=>?_;have pY:∀b,¬N.mo v.2 (e,b) (u,IN):=by intro b h;unfold mo at h;rw[f]at h;omega
   have z:¬((e,IS)=(u,IN)):=λh=>by cases h
   have d1:dl d (e,IN)=d e:=rfl;by_cases j:e=u
   .subst j
    simp only[pY,z,or_false,and_false,j2,and_true,jj,d1,show N.src (e,IN)=v from hv];omega
   have H:¬((e,IN)=(u,IN)):=λh=>j (by cases h;rfl);simp only[pY,H,z,or_false,and_false,j2,j];rfl
  rw[p,o,Be d hP.nodup hu];have:=YA hP d hu a;rw[hv]at this;omega
 |false=>
  have hv:N.a7 u=v:=hv;obtain⟨I,J⟩:=wT hu a;have o:N.L d (u,IS)=N.below d v.2 (N.M*v.1):=by simp only[L,a,j2,ct,I,hv]
  have f:N.cls (u,IS)=2:=by simp[cls,a]
  have p:eu N.E (λe=>(if N.src (e,IN)=v/\((e,IN)=(u,IS)\/N.mo v.2 (e,IN) (u,IS))then dl d (e,IN)else 0)+(if N.src (e,IS)=v/\((e,IS)=(u,IS)\/N.mo v.2 (e,IS) (u,IS))then dl d (e,IS)else 0))
    = eu N.E (λe=>((if N.up e/\N.b5 e=v then d e else 0)+(if ¬N.up e/\N.b5 e=v then d e else 0))-(if e=u then d e else 0)):=by
   refine mu λe he=>?_;have s1:N.src (e,IN)=N.b5 e:=rfl;have d1:dl d (e,IN)=d e:=rfl;have s2:N.src (e,IS)=N.a7 e:=rfl;have d2:dl d (e,IS)=- d e:=rfl;have i:((e,IN)=(u,IS)\/N.mo v.2 (e,IN) (u,IS)):=by right;unfold mo;rw[f];left;unfold cls;split<;>simp
   have k:((e,IS)=(u,IS)\/N.mo v.2 (e,IS) (u,IS))↔e=u:=by
    constructor
    .rintro (h|h)
     .cases h;rfl
     unfold mo at h;rw[f]at h;have:2<=N.cls (e,IS):=by unfold cls;split<;>simp
     omega
    rintro rfl;exact bk rfl
   by_cases j:e=u
   .subst j
    have r:=k.2 rfl;by_cases c1:N.b5 e=v
    .rw[b9 ⟨c1,i⟩,b9 ⟨hv,r⟩,b8 (λh=>a h.1),b9 ⟨a,c1⟩,b9 rfl,d1,d2];omega
    rw[b8 (λh=>c1 h.1),b9 ⟨hv,r⟩,b8 (λh=>a h.1),b8 (λh=>c1 h.2),b9 rfl,d2];omega
   simp only[s1,s2,d1,d2,i,and_true,k,j,and_false,j2];by_cases c:N.up e<;>by_cases c1:N.b5 e=v<;>simp[c,c1]
  rw[p,xP,qS,o,Be d hP.nodup hu];have h1:=WS hP d hu a;rw[hv]at h1;have:eu N.E (λe=>if ¬N.up e/\N.b5 e=v then d e else 0)=N.As d v:=rfl;have:eu N.E (λe=>if N.up e/\N.b5 e=v then d e else 0)=N.xC d v:=rfl;omega
end Net
end Go.Pg
namespace Go.Pg
namespace Net
variable {ι:Type} {N:Net ι} (hP:N.PY)
def Yn(k:Int)(h:lS ι):¬N.mo k h h:=by unfold mo;omega
def Zk{k:Int}{g h:lS ι}(a:N.mo k g h):¬N.mo k h g:=by unfold mo at *;omega
def Bh{h:lS ι}:h∈N.nz↔h.1∈N.E:=by
 unfold nz;rw[cY];constructor
 .rintro ⟨e,he,h2⟩
  simp only[aI,iA,or_false]at h2;rcases h2 with rfl|rfl<;>exact he
 intro h1;refine⟨h.1,h1,?_⟩;obtain⟨e,b⟩:=h;cases b<;>simp
open Classical in
def aY8{d:ι->Int}(b:N.qO d)(v:qy):eu N.nz (λg=>if N.src g=v then dl d g else 0)=0:=by
 have a:=Xr b v;rw[BG];have e:eu N.E (λe=>(if N.src (e,IN)=v then dl d (e,IN)else 0)+(if N.src (e,IS)=v then dl d (e,IS)else 0))=eu N.E (λe=>((if N.up e/\N.b5 e=v then d e else 0)+(if ¬N.up e/\N.b5 e=v then d e else 0))-((if N.up e/\N.a7 e=v then d e else 0)+(if ¬N.up e/\N.a7 e=v then d e else 0))):=by refine mu λe _=>?_;have s1:N.src (e,IN)=N.b5 e:=rfl;have d1:dl d (e,IN)=d e:=rfl;have s2:N.src (e,IS)=N.a7 e:=rfl;have d2:dl d (e,IS)=- d e:=rfl;rw[s1,s2,d1,d2];by_cases c:N.up e<;>by_cases c1:N.b5 e=v<;>by_cases c2:N.a7 e=v<;>simp[c,c1,c2]<;>omega
 rw[e,xP,qS,qS];have:eu N.E (λe=>if ¬N.up e/\N.b5 e=v then d e else 0)=N.As d v:=rfl;have:eu N.E (λe=>if N.up e/\N.b5 e=v then d e else 0)=N.xC d v:=rfl;have:eu N.E (λe=>if ¬N.up e/\N.a7 e=v then d e else 0)=N.Au d v:=rfl;have:eu N.E (λe=>if N.up e/\N.a7 e=v then d e else 0)=N.Cc d v:=rfl;omega
structure BN(N:Net ι)(v:qy)(l:List (lS ι)):Prop where
 mem:∀h,h∈l↔h.1∈N.E/\N.src h=v
 nodup:l.Nodup
 sorted:l.Pairwise (N.mo v.2)
include hP
theorem RW:N.nz.Nodup:=by
 have a:=hP.nodup;unfold nz;generalize N.E=E at a
 induction E with
 |nil=>exact List.nodup_nil
 |cons e E d=>
  have a:=cF.1 a;simp only[dF,fC,bq];have key:∀b,∀h∈E.flatMap (λe=>[(e,IN),(e,IS)]),h≠(e,b):=by rintro b h f rfl;obtain⟨g,c,h2⟩:=cY.1 f;simp only[aI,iA,or_false]at h2;rcases h2 with h2|h2<;>(cases h2;exact a.1 c)
  refine cF.2 ⟨?_,cF.2 ⟨λh=>key _ _ h rfl,d a.2⟩⟩;intro h;rcases aI.1 h with h|h
  .cases h
  exact key _ _ h rfl
open Classical in
theorem TE{v:qy}{l:List (lS ι)}(hl:BN N v l)(F:lS ι->Int):eu N.nz (λg=>if N.src g=v then F g else 0)=eu l F:=by
 have hp:(N.nz.filter λg=>IT (N.src g=v)).Perm l:=by refine(hY ((RW hP).filter _) hl.nodup).2 λh=>?_;rw[aD,Bh,hl.mem];simp
 rw[<-Io hp,MW];refine mu λg _=>?_;simp
theorem DS{d:ι->Int}(e:N.qO d){v:qy}{l:List (lS ι)}(hl:BN N v l){i:Nat}(a7:i<l.length):N.L d l[i]=N.below d v.2 (N.M*v.1)+N.Cc d v-eu (l.take (i+1)) (dl d):=by
 classical
 have hm:=(hl.mem l[i]).1 (au a7);rw[bn7 hP e hm.1 hm.2];congr 1;have f:eu N.nz (λg=>if N.src g=v/\(g=l[i]\/N.mo v.2 g l[i])then dl d g else 0)=eu N.nz (λg=>if N.src g=v then(if g=l[i]\/N.mo v.2 g l[i]then dl d g else 0)else 0):=by refine mu λg _=>?_;by_cases c:N.src g=v<;>simp[c]
 rw[f,TE hP hl];have split:∀F:lS ι->Int,eu l F=eu (l.take (i+1)) F+eu (l.drop (i+1)) F:=λF=>by rw[<-yP,cJ]
 rw[split];have k:eu (l.take (i+1)) (λg=>if g=l[i]\/N.mo v.2 g l[i]then dl d g else 0)=eu (l.take (i+1)) (dl d):=by
  refine mu λg a=>?_;obtain⟨j,hj,rfl⟩:=aH a;simp only[List.length_take]at hj;rw[List.getElem_take];rw[b9];by_cases c:j=i
  .subst c;exact bk rfl
  exact a_ (bE.1 hl.sorted j i (by omega) a7 (by omega))
 have m:eu (l.drop (i+1)) (λg=>if g=l[i]\/N.mo v.2 g l[i]then dl d g else 0)=0:=by
  refine sq λg a=>?_;obtain⟨j,hj,rfl⟩:=aH a;simp only[List.length_drop]at hj;rw[List.getElem_drop];have b:=bE.1 hl.sorted i (i+1+j) a7 (by omega) (by omega);rw[b8];rintro (h|h)
  .rw[h]at b;exact Yn _ _ b
  exact Zk h b
 rw[k,m];omega
theorem La{d:ι->Int}(b:N.qO d){v:qy}{l:List (lS ι)}(hl:BN N v l){i:Nat}(a7:i<l.length) :
  N.L d (l[(i+l.length-1)%l.length]'(gV _ (by omega)))=N.L d (rev l[i]):=by
 have hm:=(hl.mem l[i]).1 (au a7);have g:=Ku hP b hm.1;rw[g];have hlen:0<l.length:=by omega
 have f:eu l (dl d)=0:=by
  classical
  rw[<-TE hP hl (dl d)];exact aY8 b v
 by_cases c:i=0
 .subst c
  have e:(0+l.length-1)%l.length=l.length-1:=by rw[eN (by omega)];omega
  have h1:=DS hP b hl (i:=l.length-1) (by omega);have h2:=DS hP b hl (i:=0) a7;have h:l.take (l.length-1+1)=l:=by rw[List.take_of_length_le (by omega)]
  rw[h,f]at h1;have j:eu (l.take (0+1)) (dl d)=dl d l[0]:=by
   cases l with
   |nil=>simp at a7
   |cons a l=>simp[eu]
  rw[j]at h2;simp only[e];omega
 have e:(i+l.length-1)%l.length=i-1:=by rw[show i+l.length-1=i-1+l.length by omega,gK,eN (by omega)]
 have h1:=DS hP b hl (i:=i-1) (by omega);have h2:=DS hP b hl (i:=i) a7;rw[show i-1+1=i by omega]at h1;rw[List.take_succ_eq_append_getElem a7,yP]at h2;simp only[eu]at h2;simp only[e];omega
end Net
end Go.Pg
namespace Go.Pg
open Classical
def Ft{α:Type}(f:α->Int):∀ {l:List α},l≠[]->∃m∈l,∀x∈l,f m<=f x
 | [],h=>lH rfl h
 |a::l,_=>by
  by_cases e:l=[]
  .subst e;exact⟨a,by simp,λx b=>by grind⟩
  obtain⟨m,hm,h⟩:=Ft f e
  grind
noncomputable def ind(p:Prop):Int:=if p then 1 else 0
def Sb{p:Prop}(h:p):ind p=1:=b9 h
def qo{p:Prop}(h:¬p):ind p=0:=b8 h
namespace Net
structure my{ι:Type}(N:Net ι)(κ:Type) where
 c:lS ι->κ
 lC:lS ι->lS ι
 mem:∀h:lS ι,h.1∈N.E->(lC h).1∈N.E
 M8:∀h:lS ι,h.1∈N.E->c (lC h)=c h
 left:∀h:lS ι,h.1∈N.E->∀d,N.qO d->N.L d (lC h)=N.L d h
 closed:∀(C:κ) (A:qy->Int),eu N.nz (λh=>if c h=C then A (N.src h)-A (N.dst h)else 0)=0
namespace my
variable {ι κ:Type} {N:Net ι} (w:N.my κ)
inductive lI:lS ι->lS ι->Prop
 |refl (h:lS ι):lI h h
 |lC {g h:lS ι} (hm:h.1∈N.E):lI g h->lI g (w.lC h)
 |BL {g h:lS ι} (hm:h.1∈N.E):lI g (w.lC h)->lI g h
 |rev {g h:lS ι}:lI g h->lI g (rev h)
noncomputable def lF(C:κ)(e:ι):Int:=ind (w.c (e,IS)=C)-ind (w.c (e,IN)=C)
def sw(C:κ):N.qO (w.lF C):=by
 intro A;have h:=w.closed C (λp=>if A p then 1 else 0);rw[BG]at h;have e:eu N.E (λe=>w.lF C e*((if A (N.b5 e)then 1 else 0)-(if A (N.a7 e)then 1 else 0)))=- eu N.E (λe=>(if w.c (e,IN)=C then(if A (N.src (e,IN))then(1:Int)else 0)-(if A (N.dst (e,IN))then 1 else 0)else 0)+(if w.c (e,IS)=C then(if A (N.src (e,IS))then(1:Int)else 0)-(if A (N.dst (e,IS))then 1 else 0)else 0)):=by rw[<-y'];refine mu λe _=>?_;have s1:N.src (e,IN)=N.b5 e:=rfl;have s2:N.src (e,IS)=N.a7 e:=rfl;have d:N.dst (e,IN)=N.a7 e:=rfl;have f:N.dst (e,IS)=N.b5 e:=rfl;rw[s1,s2,d,f];unfold lF ind;by_cases a:w.c (e,IN)=C<;>by_cases b:w.c (e,IS)=C<;>simp only[a,b,jj,j2]<;>omega
 rw[e,h];rfl
def ah6(C:κ)(h:lS ι):dl (w.lF C) h=ind (w.c (Net.rev h)=C)-ind (w.c h=C):=by
 obtain⟨e,b⟩:=h;cases b
 .show-(w.lF C e)=_
  unfold lF Net.rev;simp only[aW];omega
 rfl
def xI{C:κ}{e:ι}(h:∀b,w.c (e,b)≠C):w.lF C e=0:=by unfold lF;rw[qo (h IS),qo (h IN)];rfl
def nn{f g h:lS ι}(a:w.lI f g)(b:w.lI g h):w.lI f h:=by
 induction b with
 |refl=>exact a
 |lC hm _ c=>exact .lC hm c
 |BL hm _ c=>exact .BL hm c
 |rev _ c=>exact .rev c
def rev_rev(h:lS ι):Net.rev (Net.rev h)=h:=by obtain⟨e,b⟩:=h;simp[Net.rev]
def r7{g h:lS ι}(a:w.lI g h):w.lI h g:=by
 induction a with
 |refl=>exact .refl _
 | @lC h' hm _ b=>exact nn w (.BL hm (.refl _)) b
 | @BL h' hm _ b=>exact nn w (.lC hm (.refl _)) b
 | @rev h' _ b=>exact nn w (by have:=lI.rev (w:=w) (.refl (Net.rev h'));rw[rev_rev]at this;exact this) b
def qj(e:ι)(b a:Bool):w.lI (e,b) (e,a):=by
 by_cases c:b=a
 .subst c;exact .refl _
 have h:(e,a)=Net.rev (e,b):=by cases b<;>cases a<;>simp[Net.rev]at c⊢
 rw[h];exact .rev (.refl _)
def ag2{g h:lS ι}(a:w.lI g h)(c:g.1∈N.E):h.1∈N.E:=by
 induction a with
 |refl=>exact c
 |lC hm _ b=>exact w.mem _ b
 |BL hm _ b=>exact hm
 |rev _ b=>exact b
variable (hP:N.PY)
include hP
theorem wy(C:κ){g h:lS ι}(a:w.lI g h)(d:g.1∈N.E):N.L (w.lF C) h-ind (w.c h=C)=N.L (w.lF C) g-ind (w.c g=C):=by
 induction a with
 |refl=>rfl
 | @lC h' hm a b=>rw[w.M8 _ hm,w.left _ hm _ (w.sw C)];exact b
 | @BL h' hm a b=>rw[w.M8 _ hm,w.left _ hm _ (w.sw C)]at b;exact b
 | @rev h' a b=>have hm:=w.ag2 a d;rw[Ku hP (w.sw C) hm,w.ah6];omega
omit hP in
theorem Dt{C:κ}{g:lS ι}(d:∀h,w.c h=C->h.1∈N.E->w.lI g h){p:ι->Prop}[DecidablePred p](hp:∀t∈N.E,p t->∀b,¬w.lI g (t,b)):eu N.E (λt=>if p t then w.lF C t else 0)=0:=by
 refine sq λt a=>?_;by_cases c:p t
 .rw[b9 c]
  exact w.xI λb e=>hp t a c b (d (t,b) e a)
 rw[b8 c]
theorem MZ{t u:ι}(a:t∈N.E)(hu:u∈N.E){k:Int}(c1:N.lA t k)(c2:N.lA u k)(h:N.X t k+N.X t (k+1)=N.X u k+N.X u (k+1)):t=u:=by
 rcases fI (N.X t k) (N.X u k)with h1|h1|h1
 .have:=(HP hP a hu c1 c2).2 (bk h1);omega
 .exact hP.apart t a u hu k c1 c2 h1 (by omega)
 have:=(HP hP hu a c2 c1).2 (bk h1);omega
theorem yz(d:ι->Int)(b:N.qO d){u:ι}(hu:u∈N.E){k:Int}(hc:N.lA u k):N.L d (u,IN)=N.W d k u:=by have a:=qk hP hc;have c1:N.lA u (N.b5 u).2:=⟨bJ _,a⟩;simp only[L,a,jj,dn];exact P0 hP b hu c1 hc
theorem base{g:lS ι}(q:g.1∈N.E):∃d,w.lI g d/\d.1∈N.E/\∀C,(∀h,w.c h=C->h.1∈N.E->w.lI g h)->N.L (w.lF C) d=0:=by
 by_cases hex:∃e∈N.E,N.up e/\w.lI g (e,IN)
 .obtain⟨e,he,i,j⟩:=hex
  have k:(N.E.filter λt=>IT (N.lA t (N.b5 e).2/\w.lI g (t,IN)))≠[]:=by intro d;have:e∈(N.E.filter λt=>IT (N.lA t (N.b5 e).2/\w.lI g (t,IN))):=aD.2 ⟨he,by simp only[gb];exact⟨⟨bJ _,i⟩,j⟩⟩;rw[d]at this;cases this
  obtain⟨u,hu,f⟩:=Ft (λt=>N.X t (N.b5 e).2+N.X t ((N.b5 e).2+1)) k;obtain⟨hu,a⟩:=aD.1 hu;simp only[gb]at a;refine⟨(u,IN),a.2,hu,λC l=>?_⟩;rw[yz hP _ (w.sw C) hu a.1];refine w.Dt l λt m hp b n=>?_;have:=f t (aD.2 ⟨m,by simp only[gb];exact⟨hp.1,w.nn n (w.qj t b IN)⟩⟩);have:=hp.2;omega
 refine⟨(g.1,IN),w.nn (.refl g) (by obtain⟨e,b⟩:=g;exact w.qj e b IN),q,λC l=>?_⟩;have o:¬N.up g.1:=λh=>hex ⟨g.1,q,h,by obtain⟨e,b⟩:=g;exact w.qj e b IN⟩;simp only[L,o,j2,dn];refine w.Dt (p:=λt=>N.lA t (N.b5 g.1).2/\N.X t (N.b5 g.1).2<N.M*(N.a7 g.1).1) l λt m hp b n=>?_;exact hex ⟨t,m,qk hP hp.1,w.nn n (w.qj t b IN)⟩
theorem Um{g:lS ι}(e:g.1∈N.E):∃d,w.lI g d/\d.1∈N.E/\∀C,(∀h,w.c h=C->h.1∈N.E->w.lI g h)->∀h,w.lI g h->N.L (w.lF C) h=ind (w.c h=C)-ind (w.c d=C):=by obtain⟨d,h1,h2,f⟩:=w.base hP e;refine⟨d,h1,h2,λC i h j=>?_⟩;have a:=w.wy hP C h1 e;have b:=w.wy hP C j e;have:=f C i;omega
theorem TA{C D:κ}{g d:lS ι}(G:g.1∈N.E)(l:d.1∈N.E)(s:∀h,w.c h=C->h.1∈N.E->w.lI g h)(H:∀h,w.c h=D->h.1∈N.E->w.lI d h)(I:¬w.lI g d):N.L (w.lF C) d=0\/N.L (w.lF D) g=0:=by
 have m:∀h,w.lI d h->h.1∈N.E->¬w.c h=C:=λh a hm e=>I (w.nn (s h e hm) (w.r7 a));have q:∀h,w.lI g h->h.1∈N.E->¬w.c h=D:=λh a hm e=>I (w.nn a (w.r7 (H h e hm)));by_cases hex:∃e∈N.E,N.up e/\w.lI g (e,IN)
 .obtain⟨e,he,x,z⟩:=hex
  have B:(N.E.filter λt=>IT (N.lA t (N.b5 e).2/\(w.lI g (t,IN)\/w.lI d (t,IN))))≠[]:=by intro J;have:e∈(N.E.filter λt=>IT (N.lA t (N.b5 e).2/\(w.lI g (t,IN)\/w.lI d (t,IN)))):=aD.2 ⟨he,by simp only[gb];exact⟨⟨bJ _,x⟩,bk z⟩⟩;rw[J]at this;cases this
  obtain⟨u,hu,j⟩:=Ft (λt=>N.X t (N.b5 e).2+N.X t ((N.b5 e).2+1)) B;obtain⟨hu,i⟩:=aD.1 hu;simp only[gb]at i;rcases i.2 with f|f
  .right
   have K:N.L (w.lF D) (u,IN)=0:=by rw[yz hP _ (w.sw D) hu i.1];refine w.Dt H λt o hp b r=>?_;have:=j t (aD.2 ⟨o,by simp only[gb];exact⟨hp.1,a_ (w.nn r (w.qj t b IN))⟩⟩);have:=hp.2;omega
   have v:=w.wy hP D f G;rw[qo (q _ f hu),qo (q _ (.refl _) G)]at v;omega
  left;have K:N.L (w.lF C) (u,IN)=0:=by rw[yz hP _ (w.sw C) hu i.1];refine w.Dt s λt o hp b r=>?_;have:=j t (aD.2 ⟨o,by simp only[gb];exact⟨hp.1,bk (w.nn r (w.qj t b IN))⟩⟩);have:=hp.2;omega
  have v:=w.wy hP C f l;rw[qo (m _ f hu),qo (m _ (.refl _) l)]at v;omega
 left;have hz:∀(p:ι->Prop) [DecidablePred p],(∀t∈N.E,p t->N.up t)->eu N.E (λt=>if p t then w.lF C t else 0)=0  :=λp _ hp=>w.Dt s λt o h b r=>hex ⟨t,o,hp t o h,w.nn r (w.qj t b IN)⟩;have M:w.lF C d.1=0:=w.xI λb=>m (d.1,b) (by obtain⟨e,O⟩:=d;exact w.qj e O b) l;unfold L;have ni:∀k u,N.W (w.lF C) k u=0:=λk u=>hz (λt=>N.lA t k/\N.X t k+N.X t (k+1)<N.X u k+N.X u (k+1)) λt _ h=>qk hP h.1;have z2:∀k n,N.rW (w.lF C) k n=0:=λk n=>hz (λt=>N.lA t k/\N.X t k<n) λt _ h=>qk hP h.1;have z3:∀k n,N.below (w.lF C) k n=0:=λk n=>hz (λt=>N.lA t (k-1)/\N.X t k<n) λt _ h=>qk hP h.1;rw[ni,z2,z3,M];cases d.2<;>simp
end my
end Net
end Go.Pg
namespace Go.Pg
open Classical
def q0{α:Type}(key F:α->Int):List α->Int
 |u::v::l=>F u*(key v-key u)+q0 key F (v::l)
 |_=>0
def Iu{α:Type}{key F G:α->Int}:∀ {l:List α},l.Pairwise (λa b=>key a<key b)->(∀u∈l,F u<=G u)->q0 key F l<=q0 key G l
 | [],_,_=>bJ _
 | [_],_,_=>bJ _
 |u::v::l,hs,h=>by have h1:=h u (by simp);have hk:=(ba.1 hs).1 v (by simp);have d:=Iu (l:=v::l) (ba.1 hs).2 λx c=>h x (by simp at c⊢;right;exact c);have:=dJ h1 (show 0<=key v-key u by omega);simp only[q0];omega
def WO{α:Type}{key F G:α->Int}:∀ {l:List α},l.Pairwise (λa b=>key a<key b)->(∀u∈l,F u<=G u)->∀u∈l,F u<G u->(∀z,l.getLast?=U z->F z=G z)->q0 key F l<q0 key G l
 | [],_,_,u,hu,_,_=>by simp at hu
 | [a],_,_,u,hu,c,hz=>by grind[aG]
 |a::v::l,hs,h,u,hu,c,hz=>by
  have h1:=h a (by simp);have hk:=(ba.1 hs).1 v (by simp);have d:=(ba.1 hs).2;have h2:∀x∈v::l,F x<=G x:=λx e=>h x (by simp at e⊢;right;exact e);simp only[q0];rcases aI.1 hu with rfl|hu
  .have f:=Iu d h2
   have:=Int.mul_lt_mul_of_pos_right c (show 0<key v-key u by omega);omega
  have f:=WO d h2 u hu c (λz g=>hz z (by grind));have:=dJ h1 (show 0<=key v-key a by omega);omega
def Tb{α:Type}{key F G:α->Int}:∀ {l:List α},(∀u∈l,F u=G u)->q0 key F l=q0 key G l
 | [],_=>rfl
 | [_],_=>rfl
 |u::v::l,h=>by simp only[q0];rw[h u (by simp),Tb (l:=v::l) λx a=>h x (by simp at a⊢;right;exact a)]
def QN{α:Type}(key d:α->Int):∀(l:List α) (u:α) (w:Int) (F:α->Int) (pre:List α),w=eu pre d->(∀(p q:List α) (x:α),u::l=p++x::q->F x=w+eu p d+d x) ->
  ∀z,(u::l).getLast?=U z->q0 key F (u::l)+w*key u+eu (u::l) (λx=>d x*key x)=(w+eu (u::l) d)*key z
 | [],u,w,F,pre,_,_,z,hz=>by simp at hz;subst hz;simp only[q0,eu,gu];omega
 |v::l,u,w,F,pre,hw,cu,z,hz=>by
  rw[List.getLast?_cons_cons]at hz;have b:=cu [] (v::l) u rfl;simp only[eu,jh]at b;have c:=QN key d l v (w+d u) F (pre++[u]) (by rw[yP,hw];simp[eu]) (λp q x a=>by
   have:=cu (u::p) q x (by rw[a];rfl);simp only[eu]at this;omega) z hz
  simp only[q0,eu]at c⊢
  grind[cP,gu]
namespace Net
variable {ι:Type} {N:Net ι} (hP:N.PY)
def key(N:Net ι)(k:Int)(e:ι):Int:=N.X e k+N.X e (k+1)
def OD{d:ι->Int}(a:N.qO d)(k:Int):eu N.E (λe=>if N.lA e k then d e else 0)=0:=by
 have h:=a λp=>IT (p.2<=k);refine jX ?_ h;refine mu λe he=>?_;simp only[gb];have b:=N.ord e he;by_cases c1:(N.b5 e).2<=k<;>by_cases c2:(N.a7 e).2<=k
 .have:¬N.lA e k:=λh=>by have:=h.2;omega
  simp[c1,c2,this]
 .have:N.lA e k:=⟨c1,by omega⟩
  simp[c1,c2,this]
 .omega
 have:¬N.lA e k:=λh=>c1 h.1;simp[c1,c2,this]
include hP
theorem strip(k:Int):∃l:List ι,l.Perm (N.E.filter λe=>IT (N.lA e k))/\l.Pairwise (λa b=>N.key k a<N.key k b):=by
 refine⟨(N.E.filter λe=>IT (N.lA e k)).mergeSort (λa b=>IT (N.key k a<=N.key k b)),cy ..,?_⟩;have h1:=List.pairwise_mergeSort (le:=λa b=>IT (N.key k a<=N.key k b)) (λa b c h1 h2=>by simp only[gb]at *;omega) (λa b=>by simp only[bD,gb];omega) (N.E.filter λe=>IT (N.lA e k));have h2:((N.E.filter λe=>IT (N.lA e k)).mergeSort (λa b=>IT (N.key k a<=N.key k b))).Nodup:=(cy _ _).nodup_iff.2 (hP.nodup.filter _);have f:∀x∈(N.E.filter λe=>IT (N.lA e k)).mergeSort (λa b=>IT (N.key k a<=N.key k b)),x∈N.E/\N.lA x k:=λx g=>by have:=(cy _ _).mem_iff.1 g;rw[aD]at this;simpa using this
 have m:=bE.1 h1;have n:=bE.1 h2;refine bE.2 λi j a7 hj d=>?_;have a:=m i j a7 hj d;have b:=n i j a7 hj d;simp only[gb]at a;have m1:=f _ (au a7);have m2:=f _ (au hj);have:N.key k _≠N.key k _:=λh=>b (my.MZ hP m1.1 m2.1 m1.2 m2.2 h);omega
theorem MI{d:ι->Int}(n:N.qO d){k:Int}{l:List ι}(hp:l.Perm (N.E.filter λe=>IT (N.lA e k)))(hs:l.Pairwise (λa b=>N.key k a<N.key k b)) :
  eu N.E (λe=>if N.lA e k then d e*N.key k e else 0)=- q0 (N.key k) (λu=>N.L d (u,IS)) l/\∀z,l.getLast?=U z->N.L d (z,IS)=0:=by
 have i:∀u∈l,u∈N.E/\N.lA u k:=λu hu=>by have:=hp.mem_iff.1 hu;rw[aD]at this;simpa using this
 have f:∀F:ι->Int,eu l F=eu N.E (λe=>if N.lA e k then F e else 0):=λF=>by rw[Io hp,MW];exact mu λe _=>by simp
 have cu:∀(p q:List ι) (x:ι),l=p++x::q->N.L d (x,IS)=eu p d+d x:=by
  intro p q x hl;have o:=i x (by rw[hl];simp);have s:N.L d (x,IS)=N.W d k x+d x:=by have:=Ku hP n (h:=(x,IN)) o.1;rw[my.yz hP _ n o.1 o.2]at this;exact this
  have v:N.W d k x=eu l (λt=>if N.key k t<N.key k x then d t else 0):=by
   rw[f];refine mu λt _=>?_;by_cases c:N.lA t k
   .simp only[c,pB,jj];rfl
   simp[c]
  have j:=hs;rw[hl]at j;obtain⟨_,s2,r⟩:=List.pairwise_append.1 j;have w:eu l (λt=>if N.key k t<N.key k x then d t else 0)=eu p d:=by
   rw[hl,yP];have B:eu p (λt=>if N.key k t<N.key k x then d t else 0)=eu p d:=mu λt m=>b9 (r t m x (by simp));have a2:eu (x::q) (λt=>if N.key k t<N.key k x then d t else 0)=0:=sq λt m=>by
    rcases aI.1 m with rfl|m
    .exact b8 (by omega)
    have:=(ba.1 s2).1 t m;exact b8 (by omega)
   omega
  omega
 have g:eu l d=0:=by rw[f];exact OD n k
 constructor
 .rw[<-f]
  cases l with
  |nil=>simp[eu,q0]
  |cons u l=>
   obtain⟨z,hz⟩:∃z,(u::l).getLast?=U z:=by
    cases hz:(u::l).getLast? with
    |none=>simp at hz
    |some z=>exact⟨z,rfl⟩
   have:=QN (N.key k) d l u 0 (λu=>N.L d (u,IS)) [] rfl (λp q x hl=>by
    have:=cu p q x hl;omega) z hz
   rw[g]at this;omega
 intro z hz;cases l with
 |nil=>simp at hz
 |cons u l=>obtain⟨ys,e⟩:=List.getLast?_eq_some_iff.1 hz;have:=cu ys [] z (by rw[e]);rw[e,yP]at g;simp only[eu]at g;omega
end Net
end Go.Pg
namespace Go.Pg
open Classical
def KN{α:Type}{f g:α->Int}:∀ {l:List α},(∀a∈l,f a<=g a)->eu l f<=eu l g
 | [],_=>bJ _
 |a::l,h=>by have h1:=h a (by simp);have h2:=KN (f:=f) (g:=g) (l:=l) λb c=>h b (by simp[c]);simp only[eu];omega
def Wq{α:Type}{f g:α->Int}:∀ {l:List α},(∀a∈l,f a<=g a)->∀a∈l,f a<g a->eu l f<eu l g
 | [],_,a,ha,_=>by simp at ha
 |b::l,h,a,ha,c=>by
  have h1:=h b (by simp);have h2:∀x∈l,f x<=g x:=λx d=>h x (by simp[d]);simp only[eu];rcases aI.1 ha with rfl|ha
  .have:=KN h2;omega
  have:=Wq h2 a ha c;omega
namespace Net
variable {ι κ:Type} {N:Net ι} (hP:N.PY)
def fb(N:Net ι)(e:ι):Int:=((N.b5 e).1+(N.a7 e).1)*((N.a7 e).2-(N.b5 e).2)
def uU(N:Net ι)(h:lS ι):Int:=(N.src h).1*(N.dst h).2-(N.dst h).1*(N.src h).2
noncomputable def ss(w:N.my κ)(C:κ):Int:=eu N.nz (λh=>if w.c h=C then N.uU h else 0)
def aP3(a b c d:Int):a*d-b*c-(a*c-b*d)=(a+b)*(d-c):=by rw[gu,cP,cP];omega
def be4(w:N.my κ)(C:κ):ss w C=- eu N.E (λe=>w.lF C e*N.fb e):=by
 have h:=w.closed C (λp=>p.1*p.2);have e:ss w C-eu N.nz (λh=>if w.c h=C then(N.src h).1*(N.src h).2-(N.dst h).1*(N.dst h).2 else 0)=- eu N.E (λe=>w.lF C e*N.fb e):=by unfold ss;rw[<-xP,BG,<-y'];refine mu λe _=>?_;have mb:=aP3 (N.b5 e).1 (N.a7 e).1 (N.b5 e).2 (N.a7 e).2;have s1:N.src (e,IN)=N.b5 e:=rfl;have s2:N.src (e,IS)=N.a7 e:=rfl;have d:N.dst (e,IN)=N.a7 e:=rfl;have f:N.dst (e,IS)=N.b5 e:=rfl;unfold uU fb my.lF ind;rw[s1,s2,d,f,<-mb];by_cases a:w.c (e,IN)=C<;>by_cases b:w.c (e,IS)=C<;>simp only[a,b,jj,j2]<;>omega
 rw[<-e,h];omega
def u6(e:ι)(N:Net ι)(x:Int):Int:=max (N.b5 e).2 (min (N.a7 e).2 x)
def z_(N:Net ι)(e:ι)(k:Int):Int:=2*(N.M*(N.b5 e).1)*(k-(N.b5 e).2)+N.s e*((k-(N.b5 e).2)*(k-(N.b5 e).2))
def YP(e:ι)(k:Int):N.z_ e (k+1)-N.z_ e k=N.key k e:=by
 unfold z_ key X;have b:k+1-(N.b5 e).2=(k-(N.b5 e).2)+1:=by omega
 rw[b];generalize k-(N.b5 e).2=t;generalize N.M*(N.b5 e).1=a;generalize N.s e=s;have h1:(t+1)*(t+1)=t*t+t+t+1:=by rw[gu,hJ,gh,Int.one_mul];omega
 rw[h1];simp only[hJ,gh];omega
def WY{e:ι}(he:e∈N.E){a:Int}(ha:a<=(N.b5 e).2):∀n:Nat,eu (bo n) (λj:Nat=>if N.lA e (a+j)then N.key (a+j) e else 0)=N.z_ e (u6 e N (a+n))
 | 0=>by
  have b:=N.ord e he;have:u6 e N (a+(0:Nat))=(N.b5 e).2:=by unfold u6;omega
  rw[this];simp[eu,z_]
 |n+1=>by
  have b:=N.ord e he;rw[ke,yP,WY he ha n];simp only[eu];by_cases c:N.lA e (a+n)
  .have h1:=c.1
   have h2:=c.2;have c1:u6 e N (a+n)=a+n:=by unfold u6;omega
   have c2:u6 e N (a+(n+1:Nat))=a+n+1:=by unfold u6;omega
   have:=YP (N:=N) e (a+n);rw[b9 c,c1,c2];omega
  have c2:u6 e N (a+(n+1:Nat))=u6 e N (a+n):=by unfold lA at c;unfold u6;omega
  rw[b8 c,c2];omega
def ZP{e:ι}(he:e∈N.E):N.z_ e (N.a7 e).2=N.M*N.fb e:=by
 unfold z_ fb;rcases N.ord e he with a|⟨a,_⟩
 .have hs:=N.x' e he a
  rw[<-cU (N.s e),hs];generalize(N.a7 e).2-(N.b5 e).2=t;have h2:2*(N.M*(N.b5 e).1)+N.M*((N.a7 e).1-(N.b5 e).1)=N.M*((N.b5 e).1+(N.a7 e).1):=by rw[cP,hJ];omega
  rw[<-gu,h2,cU]
 rw[<-a];simp
def bounds(N:Net ι):∃(a:Int) (n:Nat),∀e∈N.E,a<=(N.b5 e).2/\(N.a7 e).2<=a+n:=by
 generalize N.E=E
 induction E with
 |nil=>exact⟨0,0,λe h=>by simp at h⟩
 |cons e E b=>
  obtain⟨a,n,h⟩:=b;refine⟨min a (N.b5 e).2,(max (a+n) (N.a7 e).2-min a (N.b5 e).2).toNat,λf hf=>?_⟩;rcases aI.1 hf with rfl|hf
  .omega
  have:=h f hf;omega
include hP
noncomputable def yb(k:Int):List ι:=(strip hP k).choose
theorem Cq(k:Int):(yb hP k).Perm (N.E.filter λe=>IT (N.lA e k))/\(yb hP k).Pairwise (λa b=>N.key k a<N.key k b):=(strip hP k).choose_spec
theorem Kj{k:Int}{e:ι}:e∈yb hP k↔e∈N.E/\N.lA e k:=by rw[(Cq hP k).1.mem_iff,aD];simp
theorem Lj:∃(a:Int) (n:Nat),(∀e∈N.E,a<=(N.b5 e).2/\(N.a7 e).2<=a+n)/\∀ {κ:Type} (w:N.my κ) (C:κ),N.M*ss w C=eu (bo n) (λj:Nat=>q0 (N.key (a+j)) (λu=>N.L (w.lF C) (u,IS)) (yb hP (a+j))):=by
 obtain⟨a,n,c⟩:=bounds N;refine⟨a,n,c,λw C=>?_⟩;have d:N.M*eu N.E (λe=>w.lF C e*N.fb e)=eu N.E (λe=>eu (bo n) (λj:Nat=>if N.lA e (a+j)then w.lF C e*N.key (a+j) e else 0)):=by
  rw[<-Fg];refine mu λe he=>?_;have b:=c e he;have f:=N.ord e he;have h1:=WY he b.1 n;have c1:u6 e N (a+n)=(N.a7 e).2:=by unfold u6;omega
  rw[c1,ZP he]at h1;have h2:eu (bo n) (λj:Nat=>if N.lA e (a+j)then w.lF C e*N.key (a+j) e else 0)=eu (bo n) (λj:Nat=>w.lF C e*(if N.lA e (a+j)then N.key (a+j) e else 0)):=mu λj _=>by split<;>simp
  rw[h2,Fg,h1,<-cU,<-cU,dy N.M]
 rw[be4,ez,d,Ff,<-y'];refine mu λj _=>?_;obtain⟨mb,mn⟩:=Cq hP (a+j);have:=(MI hP (w.sw C) mb mn).1;show-eu N.E (λe=>if N.lA e (a+j)then w.lF C e*N.key (a+j) e else 0)=_;omega
theorem YU{κ b:Type}(w:N.my κ)(w':N.my b){C:κ}{D:b}(h:∀e∈N.E,N.up e->N.L (w.lF C) (e,IS)<=N.L (w'.lF D) (e,IS)){u:ι}(hu:u∈N.E)(c:N.up u)(d:N.L (w.lF C) (u,IS)<N.L (w'.lF D) (u,IS)):ss w C<ss w' D:=by
 obtain⟨a,n,f,hs⟩:=Lj hP;have h1:=hs w C;have h2:=hs w' D;have g:=f u hu;have hc:N.lA u (N.b5 u).2:=⟨bJ _,c⟩;have hj:((N.b5 u).2-a).toNat<n:=by unfold up at c;omega
 have i:a+(((N.b5 u).2-a).toNat:Int)=(N.b5 u).2:=by omega
 have:N.M*ss w C<N.M*ss w' D:=by
  rw[h1,h2];have hle:∀k,∀x∈yb hP k,N.L (w.lF C) (x,IS)<=N.L (w'.lF D) (x,IS):=λk x l=>by have:=(Kj hP).1 l;exact h x this.1 (qk hP this.2)
  refine Wq (λj _=>Iu (Cq hP _).2 (hle _)) ((N.b5 u).2-a).toNat (kx.2 hj) ?_;rw[i];refine WO (Cq hP _).2 (hle _) u ((Kj hP).2 ⟨hu,hc⟩) d λz hz=>?_;obtain⟨mb,mn⟩:=Cq hP (N.b5 u).2;rw[(MI hP (w.sw C) mb mn).2 z hz,(MI hP (w'.sw D) mb mn).2 z hz]
 exact dA this (dm N.oC)
end Net
end Go.Pg
namespace Go.Pg
open Classical
def MA{α:Type}(key:α->Int):∀l:List α,q0 key (λ_=>0) l=0
 | []=>rfl
 | [_]=>rfl
 |u::v::l=>by simp only[q0,MA key (v::l)];omega
namespace Net
namespace my
variable {ι κ:Type} {N:Net ι} (w:N.my κ) (hP:N.PY)
def BR(C:κ)(g:lS ι):Prop:=∀h,w.c h=C->h.1∈N.E->w.lI g h
structure vp(N:Net ι)(k:Int)(S:ι->Prop):Prop where
 lA:∀t∈N.E,S t->N.lA t k
 Ct:∀t∈N.E,∀s∈N.E,S t->N.lA s k->N.key k s<N.key k t->S s
noncomputable def oM(C:κ)(S:ι->Prop):Int:=eu N.E (λt=>if S t then w.lF C t else 0)
include hP
theorem BT{u:ι}(hu:u∈N.E){k:Int}(hc:N.lA u k)(C:κ):N.L (w.lF C) (u,IS)=w.oM C (λt=>N.lA t k/\N.key k t<=N.key k u):=by
 have e:N.L (w.lF C) (u,IS)=N.W (w.lF C) k u+w.lF C u:=by have:=Ku hP (w.sw C) (h:=(u,IN)) hu;rw[yz hP _ (w.sw C) hu hc]at this;exact this
 rw[e,<-Be (w.lF C) hP.nodup hu];unfold W oM;rw[<-qS];refine mu λt f=>?_;by_cases c:t=u
 .subst c
  have h1:¬(N.lA t k/\N.X t k+N.X t (k+1)<N.X t k+N.X t (k+1)):=λh=>by have:=h.2;omega
  have h2:N.lA t k/\N.key k t<=N.key k t:=⟨hc,bJ _⟩;rw[b8 h1,b9 rfl,b9 h2];omega
 rw[b8 c];by_cases h1:N.lA t k/\N.X t k+N.X t (k+1)<N.X u k+N.X u (k+1)
 .have h2:N.lA t k/\N.key k t<=N.key k u:=⟨h1.1,by have:=h1.2;unfold key;omega⟩
  rw[b9 h1,b9 h2];omega
 have h2:¬(N.lA t k/\N.key k t<=N.key k u):=by rintro ⟨a,b⟩;have d:N.key k t≠N.key k u:=λh=>c (MZ hP f hu a hc h);exact h1 ⟨a,by unfold key at b d;omega⟩
 rw[b8 h1,b8 h2];rfl
theorem Lb{u:ι}(hu:u∈N.E){k:Int}(hc:N.lA u k)(C:κ):N.L (w.lF C) (u,IN)=w.oM C (λt=>N.lA t k/\N.key k t<N.key k u):=by
 rw[yz hP _ (w.sw C) hu hc];unfold W oM;refine mu λt a=>?_;by_cases h:N.lA t k/\N.key k t<N.key k u
 .have h':N.lA t k/\N.X t k+N.X t (k+1)<N.X u k+N.X u (k+1):=h
  rw[b9 h,b9 h']
 have h':¬(N.lA t k/\N.X t k+N.X t (k+1)<N.X u k+N.X u (k+1)):=h;rw[b8 h,b8 h']
omit hP in
theorem Pt(k:Int)(x:Int):vp N k (λt=>N.lA t k/\N.key k t<=x) :=⟨λt _ h=>h.1,λt _ s _ h hs a=>⟨hs,by have:=h.2;omega⟩⟩
omit hP in
theorem Ib(k:Int)(x:Int):vp N k (λt=>N.lA t k/\N.key k t<x) :=⟨λt _ h=>h.1,λt _ s _ h hs a=>⟨hs,by have:=h.2;omega⟩⟩
theorem last{g:lS ι}{k:Int}{S:ι->Prop}(h:vp N k S) :
  (∀t∈N.E,S t->∀b,¬w.lI g (t,b))\/∃v∈N.E,S v/\N.lA v k/\w.lI g (v,IN)/\∀t∈N.E,S t->N.key k v<N.key k t->∀b,¬w.lI g (t,b):=by
 by_cases c:(N.E.filter λt=>IT (S t/\w.lI g (t,IN)))=[]
 .left
  intro t e hp b f;have:t∈(N.E.filter λt=>IT (S t/\w.lI g (t,IN))):=aD.2 ⟨e,by simp only[gb];exact⟨hp,w.nn f (w.qj t b IN)⟩⟩;rw[c]at this;cases this
 right;obtain⟨u,hu,d⟩:=Ft (λt=>- N.key k t) c;obtain⟨hu,a⟩:=aD.1 hu;simp only[gb]at a;refine⟨u,hu,a.1,h.lA u hu a.1,a.2,λt e hp i b f=>?_⟩;have:=d t (aD.2 ⟨e,by simp only[gb];exact⟨hp,w.nn f (w.qj t b IN)⟩⟩);omega
theorem vW{C:κ}{g:lS ι}(i:w.BR C g){k:Int}{S:ι->Prop}(e:vp N k S){v:ι}(hv:v∈N.E)(c:S v)(j:∀t∈N.E,S t->N.key k v<N.key k t->∀b,¬w.lI g (t,b)):w.oM C S=N.L (w.lF C) (v,IS):=by
 have hc:=e.lA v hv c;rw[w.BT hP hv hc];unfold oM;refine mu λt d=>?_;by_cases h1:S t
 .rw[b9 h1]
  by_cases h2:N.lA t k/\N.key k t<=N.key k v
  .rw[b9 h2]
  rw[b8 h2];have f:N.key k v<N.key k t:=by
   rcases eE (N.key k v) (N.key k t)with h|h
   .exact h
   exact lH ⟨e.lA t d h1,h⟩ h2
  exact w.xI λb l=>j t d h1 f b (i (t,b) l d)
 rw[b8 h1,b8];rintro ⟨a,b⟩;rcases eE (N.key k t) (N.key k v)with h|h
 .exact h1 (e.Ct v hv t d c a h)
 have:=MZ hP d hv a hc (show N.key k t=N.key k v by omega);rw[this]at h1;exact h1 c
omit hP in
theorem zC{C:κ}{g:lS ι}(a:w.BR C g){S:ι->Prop}(c:∀t∈N.E,S t->∀b,¬w.lI g (t,b)):w.oM C S=0:=w.Dt a c
structure xr(C:κ)(g:lS ι):Prop where
 mem:g.1∈N.E
 part:w.BR C g
 own:∀h,w.lI g h->N.L (w.lF C) h=ind (w.c h=C)
omit hP in
theorem Sa(p:Prop):ind p=0\/ind p=1:=by unfold ind;split<;>simp
theorem FA{C:κ}{g:lS ι}(hO:w.xr C g){k:Int}{S:ι->Prop}(c:vp N k S):w.oM C S=0\/w.oM C S=1:=by
 rcases w.last hP (g:=g) c with h|⟨v,hv,a,hc,b,d⟩
 .exact bk (w.zC hO.part h)
 rw[w.vW hP hO.part c hv a d,hO.own _ (w.nn b (w.qj v IN IS))];exact Sa _
theorem aL8{C:κ}{g:lS ι}(k:g.1∈N.E)(b:w.BR C g)(ha:0<ss w C):w.xr C g:=by
 obtain⟨o,h1,h2,l⟩:=w.Um hP k;refine⟨k,b,?_⟩;by_cases c:w.c o=C
 .exfalso
  have hle:∀e∈N.E,N.up e->N.L (w.lF C) (e,IS)<=0:=by
   intro e he d;have hc:N.lA e (N.b5 e).2:=⟨bJ _,d⟩;have m:=Pt (N:=N) (N.b5 e).2 (N.key (N.b5 e).2 e);rw[w.BT hP he hc];rcases w.last hP (g:=g) m with h|⟨v,hv,f,p,i,q⟩
   .rw[w.zC b h];exact bJ _
   rw[w.vW hP b m hv f q,l C b _ (w.nn i (w.qj v IN IS)),Sb c];rcases Sa (w.c (v,IS)=C)with h|h<;>omega
  obtain⟨a,n,_,hs⟩:=Lj hP;have t:=hs w C;have r:eu (bo n) (λj:Nat=>q0 (N.key (a+j)) (λu=>N.L (w.lF C) (u,IS)) (yb hP (a+j)))<=eu (bo n) (λ_=>0):=by refine KN λj _=>?_;rw[<-MA (N.key (a+j)) (yb hP (a+j))];exact Iu (Cq hP _).2 λu hu=>by have:=(Kj hP).1 hu;exact hle u this.1 (qk hP this.2)
  rw[sq (λ_ _=>rfl)]at r;have:=cH N.oC ha;omega
 intro h s;rw[l C b h s,qo c];omega
theorem inside{C D:κ}{g m:lS ι}(d:w.xr C g)(n:w.xr D m)(hn:¬w.lI g m)(ha:N.L (w.lF C) m=0){k:Int}{S:ι->Prop}(o:vp N k S)(h1:w.oM C S=1)(h2:w.oM D S=1):ss w C<ss w D:=by
 have r:∀h,w.lI m h->h.1∈N.E->¬w.c h=C:=λh a hm e=>hn (w.nn (d.part h e hm) (w.r7 a));have z:∀h,w.lI g h->h.1∈N.E->¬w.c h=D:=λh a hm e=>hn (w.nn a (w.r7 (n.part h e hm)));have B:∀h,w.lI m h->h.1∈N.E->N.L (w.lF C) h=0:=λh a hm=>by have v:=w.wy hP C a n.mem;rw[qo (r _ a hm),qo (r _ (.refl _) n.mem)]at v;omega
 have G:∀h,w.lI g h->h.1∈N.E->N.L (w.lF D) h=N.L (w.lF D) g:=λh a hm=>by have v:=w.wy hP D a d.mem;rw[qo (z _ a hm),qo (z _ (.refl _) d.mem)]at v;omega
 have i:∀ {k:Int} {S:ι->Prop},vp N k S->w.oM C S=1->w.oM D S=N.L (w.lF D) g/\∃v∈N.E,N.lA v k/\w.lI g (v,IN):=by
  intro k S o h1;rcases w.last hP (g:=g) o with h|⟨v,hv,H,hc,f,I⟩
  .rw[w.zC d.part h]at h1;cases h1
  rw[w.vW hP d.part o hv H I]at h1;refine⟨?_,v,hv,hc,f⟩;have R:∀t∈N.E,S t->N.key k v<N.key k t->∀b,¬w.lI m (t,b):=by intro t j J V b hb;have hct:=o.lA t j J;have e1:N.L (w.lF C) (t,IN)=0:=B _ (w.nn hb (w.qj t b IN)) j;rw[w.Lb hP j hct]at e1;have e2:=w.vW hP d.part (Ib (N:=N) k (N.key k t)) hv ⟨hc,V⟩ (λs hs K M b2=>I s hs (o.Ct t j s hs J K.1 K.2) M b2);omega
  rw[w.vW hP n.part o hv H R];exact G _ (w.nn f (w.qj v IN IS)) hv
 obtain⟨hb,v,hv,f,hcn⟩:=i o h1;have hb1:N.L (w.lF D) g=1:=by omega
 have hle:∀e∈N.E,N.up e->N.L (w.lF C) (e,IS)<=N.L (w.lF D) (e,IS):=by
  intro e he hup;have hc:N.lA e (N.b5 e).2:=⟨bJ _,hup⟩;have hW:=Pt (N:=N) (N.b5 e).2 (N.key (N.b5 e).2 e);rw[w.BT hP he hc,w.BT hP he hc];rcases w.FA hP d hW with h|h
  .rcases w.FA hP n hW with h'|h'<;>omega
  have:=(i hW h).1;omega
 have hne:(N.E.filter λt=>IT (N.lA t k/\w.lI g (t,IN)))≠[]:=by intro h0;have:v∈(N.E.filter λt=>IT (N.lA t k/\w.lI g (t,IN))):=aD.2 ⟨hv,by simp only[gb];exact⟨f,hcn⟩⟩;rw[h0]at this;cases this
 obtain⟨u,hu,l⟩:=Ft (λt=>N.key k t) hne;obtain⟨hu,p⟩:=aD.1 hu;simp only[gb]at p;have hCu:w.oM C (λt=>N.lA t k/\N.key k t<N.key k u)=0:=w.zC d.part λt j hp b q=>by have:=l t (aD.2 ⟨j,by simp only[gb];exact⟨hp.1,w.nn q (w.qj t b IN)⟩⟩);have:=hp.2;omega
 have O:w.oM D (λt=>N.lA t k/\N.key k t<N.key k u)=1:=by rw[<-w.Lb hP hu p.1,G _ p.2 hu,hb1]
 rcases w.last hP (g:=m) (Ib (N:=N) k (N.key k u))with h|⟨x,hx,P,Q,hcnx,hnx⟩
 .rw[w.zC n.part h]at O;cases O
 refine YU hP w w hle hx (qk hP Q) ?_;have e1:=w.vW hP n.part (Ib (N:=N) k (N.key k u)) hx P hnx;have e2:N.L (w.lF C) (x,IS)=0:=by rw[w.BT hP hx Q];refine w.zC d.part λt j hp b q=>?_;have:=l t (aD.2 ⟨j,by simp only[gb];exact⟨hp.1,w.nn q (w.qj t b IN)⟩⟩);have:=hp.2;have:=P.2;omega
 omega
theorem af1{C D:κ}{g q:lS ι}(d:w.xr C g)(f:w.xr D q)(o:C≠D){k:Int}{S:ι->Prop}(i:vp N k S)(h1:w.oM C S=1)(h2:w.oM D S=1):ss w C≠ss w D:=by
 by_cases j:w.lI g q
 .exfalso
  have p:w.BR D g:=λh e hm=>w.nn j (f.part h e hm);rcases w.last hP (g:=g) i with h|⟨v,hv,l,hc,m,n⟩
  .rw[w.zC d.part h]at h1;cases h1
  rw[w.vW hP d.part i hv l n,d.own _ (w.nn m (w.qj v IN IS))]at h1;rw[w.vW hP p i hv l n,f.own _ (w.nn (w.r7 j) (w.nn m (w.qj v IN IS)))]at h2;have a:w.c (v,IS)=C:=by
   by_cases c:w.c (v,IS)=C
   .exact c
   rw[qo c]at h1;cases h1
  have b:w.c (v,IS)=D:=by
   by_cases c:w.c (v,IS)=D
   .exact c
   rw[qo c]at h2;cases h2
  exact o (a.symm.trans b)
 rcases w.TA hP d.mem f.mem d.part f.part j with h|h
 .have:=w.inside hP d f j h i h1 h2
  omega
 have:=w.inside hP f d (λc=>j (w.r7 c)) h i h2 h1;omega
end my
end Net
end Go.Pg
namespace Go.Ab
open Go
def qA(a b c d:b6):Prop:=oZ a b c d=0\/(oZ a b c d=1/\∃p,(p=a\/p=b)/\(p=c\/p=d))
theorem xw{a b c:b6}(ha:fc a=IN)(d:fc b=IN)(hc:fc c=IN):rY a b c=kj a b c:=by unfold rY;simp[ha,d,hc]
theorem WA{a b c d e c':b6}(h:(rY a b c<=0/\0<=rY d e c')\/(0<=rY a b c/\rY d e c'<=0)):lK a b c*lK d e c'<=0:=by grind[lK]
theorem Co{a b c:b6}:lK a b c=0↔rY a b c=0:=by grind[lK]
def ou(M s:Int)(a:b6)(y:Int):Int:=M*a.1+s*(y-a.2)
def be8{M s:Int}{a b p:b6}(hs:s*(b.2-a.2)=M*(b.1-a.1)):M*kj a b p=(b.2-a.2)*(ou M s a p.2-M*p.1):=by grind[kj,ou,cP,cU,dy]
def vn{M s:Int}{a b p:b6}(c:0<M)(hu:a.2<b.2)(hs:s*(b.2-a.2)=M*(b.1-a.1)) :
  (0<kj a b p↔M*p.1<ou M s a p.2)/\(kj a b p<0↔ou M s a p.2<M*p.1):=by
 have h:=be8 (p:=p) hs;generalize kj a b p=x at h;generalize hz:ou M s a p.2-M*p.1=z at h;have d:0<b.2-a.2:=by omega
 constructor
 .constructor
  .intro e
   have:=cH c e;rw[h]at this;have:=bZ this d;omega
  intro f;have:0<(b.2-a.2)*z:=cH d (by omega);rw[<-h]at this;exact bZ this c
 constructor
 .intro e
  have:M*x<0:=iC c e;rw[h]at this;have:0<(b.2-a.2)*(-z):=by rw[ez];omega
  have:=bZ this d;omega
 intro f;have:0<(b.2-a.2)*(-z):=cH d (by omega);rw[ez,<-h,<-ez]at this;have:=bZ this c;omega
theorem Cu{M s:Int}{a b:b6}(hs:s*(b.2-a.2)=M*(b.1-a.1)):ou M s a b.2=M*b.1:=by grind[ou,cP]
theorem Cv(M s:Int)(a:b6):ou M s a a.2=M*a.1:=by simp[ou]
def aV7(M s t:Int)(a c:b6)(y z:Int):(ou M s a z-ou M t c z)-(ou M s a y-ou M t c y)=(s-t)*(z-y):=by grind[ou,lp,cP]
def LG{a b c d:b6}(ha:fc a=IN)(g:fc b=IN)(hc:fc c=IN)(h:fc d=IN)(e:a≠b)(f:c≠d)
  (h1:(kj a b c<=0/\0<=kj a b d)\/(0<=kj a b c/\kj a b d<=0)) (h2:(kj c d a<=0/\0<=kj c d b)\/(0<=kj c d a/\kj c d b<=0)) (i:¬(kj a b c=0/\kj a b d=0)):oZ a b c d=1:=by grind[oZ,mz,pR,xw,lK,Co,WA,e_,aq]
section
variable {M s t:Int} {a b c d:b6} (hM:0<M) (ha:fc a=IN) (hb:fc b=IN) (hc:fc c=IN) (hd:fc d=IN) (hu:a.2<b.2) (hv:c.2<d.2)
 (hs:s*(b.2-a.2)=M*(b.1-a.1)) (ht:t*(d.2-c.2)=M*(d.1-c.1))
def oB(M s t:Int)(a c:b6)(y:Int):Int:=ou M s a y-ou M t c y
theorem uc(M s t:Int)(a c:b6)(y z:Int):oB M s t a c z-oB M s t a c y=(s-t)*(z-y):=aV7 M s t a c y z
include hM ha hb hc hd hu hv hs ht
theorem VA:(oB M s t a c c.2=ou M s a c.2-M*c.1)/\(oB M s t a c d.2=ou M s a d.2-M*d.1)/\(oB M s t a c a.2=M*a.1-ou M t c a.2)/\(oB M s t a c b.2=M*b.1-ou M t c b.2):=by grind[oB,Cv,Cu]
theorem H_(h1:(oB M s t a c c.2<=0/\0<=oB M s t a c d.2)\/(0<=oB M s t a c c.2/\oB M s t a c d.2<=0))(h2:(oB M s t a c a.2<=0/\0<=oB M s t a c b.2)\/(0<=oB M s t a c a.2/\oB M s t a c b.2<=0))(e:¬(oB M s t a c c.2=0/\oB M s t a c d.2=0)):oZ a b c d=1:=by obtain⟨f,g,i,j⟩:=VA hM ha hb hc hd hu hv hs ht;have mj:=vn (p:=c) hM hu hs;have nh:=vn (p:=d) hM hu hs;have px:=vn (p:=a) hM hv ht;have k:=vn (p:=b) hM hv ht;exact LG ha hb hc hd (λh=>by rw[h]at hu;omega) (λh=>by rw[h]at hv;omega) (by omega) (by omega) (by omega)
theorem N4{p:b6}(h1:p=a\/p=b)(h2:p=c\/p=d):oB M s t a c p.2=0:=by grind[ou,Cv,Cu,oB]
theorem bm0(hm:qA a b c d){k:Int}(g:a.2<=k)(h:k+1<=b.2)(i:c.2<=k)(j:k+1<=d.2):¬(oB M s t a c k<0/\0<oB M s t a c (k+1))/\¬(0<oB M s t a c k/\oB M s t a c (k+1)<0):=by
 have st:=uc M s t a c k (k+1);have rM:=uc M s t a c a.2 k;have bF:=uc M s t a c c.2 k;have si:=uc M s t a c (k+1) b.2;have l:=uc M s t a c (k+1) d.2;have m:(s-t)*(k+1-k)=s-t:=by grind
 constructor
 .rintro ⟨h1,h2⟩
  have hp:0<=s-t:=by omega
  have mb:=aK hp (show 0<=k-a.2 by omega);have mn:=aK hp (show 0<=k-c.2 by omega);have pN:=aK hp (show 0<=b.2-(k+1)by omega);have sf:=aK hp (show 0<=d.2-(k+1)by omega);have e:=H_ hM ha hb hc hd hu hv hs ht (bk ⟨by omega,by omega⟩) (bk ⟨by omega,by omega⟩) (by omega);rcases hm with hm|⟨_,p,lL,fa⟩<;>grind[N4]
 rintro ⟨h1,h2⟩;have hp:0<=t-s:=by omega
 have mb:=aK hp (show 0<=k-a.2 by omega);have mn:=aK hp (show 0<=k-c.2 by omega);have pN:=aK hp (show 0<=b.2-(k+1)by omega);have sf:=aK hp (show 0<=d.2-(k+1)by omega);have f:∀x,(t-s)*x=- ((s-t)*x):=λx=>by grind[h_]
 rw[f]at mb mn pN sf;have e:=H_ hM ha hb hc hd hu hv hs ht (a_ ⟨by omega,by omega⟩) (a_ ⟨by omega,by omega⟩) (by omega);rcases hm with hm|⟨_,p,lL,fa⟩<;>grind[N4]
end
theorem Cf(a b c:b6):kj b a c=- kj a b c:=by grind[kj,h_,cP,dy]
theorem aO0(a b c:b6):rY b a c=- rY a b c:=by grind[rY,fc,Cf]
theorem Ap(a b c:b6):lK b a c=- lK a b c:=by grind[lK,aO0]
theorem SR(a b:b6)(h:a≠b):lo b a=!lo a b:=by grind[fg,lo]
theorem aA2{a b:b6}(c d:b6)(h:a≠b):qx b a c d=qx a b c d:=by grind[qx,SR,lo]
theorem aA4(a b:b6){c d:b6}(h:c≠d):qx a b d c=qx a b c d:=by grind[qx,SR,lo]
def bc3{a b:b6}(c d:b6)(h:a≠b):oZ b a c d=oZ a b c d:=by
 unfold oZ;have e:mz a b=IS:=by grind[pR]
 have f:mz b a=IS:=by grind[pR]
 grind[fc,l_,kj,Cf,sU,gN,gO,aq,mz,lK,Ap,ky,dy,aA2]
def bf8(a b:b6){c d:b6}(h:c≠d):oZ a b d c=oZ a b c d:=by
 unfold oZ;have e:mz c d=IS:=by grind[pR]
 have f:mz d c=IS:=by grind[pR]
 grind[fc,l_,kj,Cf,sU,gN,gO,mz,aq,lK,dy,Ap,ky,aA4]
def qA.Gc{a b c d:b6}(h:a≠b)(m:qA a b c d):qA b a c d:=by
 unfold qA at *;rw[bc3 c d h];rcases m with m|⟨m,p,h1,h2⟩
 .exact bk m
 exact a_ ⟨m,p,h1.symm,h2⟩
def qA.Kk{a b c d:b6}(h:c≠d)(m:qA a b c d):qA a b d c:=by
 unfold qA at *;rw[bf8 a b h];rcases m with m|⟨m,p,h1,h2⟩
 .exact bk m
 exact a_ ⟨m,p,h1,h2.symm⟩
def aQ1{M s:Int}{a b c d:b6}(m:0<M)(hu:a.2<b.2)(hv:c.2<d.2)(mj:∀p,p=a\/p=b\/p=c\/p=d->M*p.1=ou M s a p.2) :
  (max a.2 c.2<min b.2 d.2->qx a b c d=2)/\(max a.2 c.2=min b.2 d.2->qx a b c d=1):=by
 have t:=mj a (by simp);have u:=mj b (by simp);have lc:=mj c (by simp);have ld:=mj d (by simp);have g:∀p q:b6,(p=a\/p=b\/p=c\/p=d)->(q=a\/q=b\/q=c\/q=d)->M*(q.1-p.1)=s*(q.2-p.2):=by
  intro p q hp e;have h1:=mj p hp;have h2:=mj q e;unfold ou at h1 h2;have n:s*(q.2-p.2)=s*(q.2-a.2)-s*(p.2-a.2):=by rw[<-cP];congr 1;omega
  rw[cP];omega
 have i:∀p q:b6,(p=a\/p=b\/p=c\/p=d)->(q=a\/q=b\/q=c\/q=d)->p.2=q.2->p=q:=by
  intro p q hp e h;have:=g p q hp e;rw[show q.2-p.2=0 by omega,d_]at this;rcases fJ.1 this with h2|h2
  .omega
  exact fg (by omega) h
 by_cases hs:0<=s
 .have mo:∀p q:b6,(p=a\/p=b\/p=c\/p=d)->(q=a\/q=b\/q=c\/q=d)->lo p q=IT (p.2<q.2):=by
   intro p q hp e;have h:=g p q hp e;unfold lo;by_cases h1:p.2<q.2
   .have h2:=aK hs (show 0<=q.2-p.2 by omega)
    rw[<-h]at h2;have n:0<=q.1-p.1:=by
     rcases eE (q.1-p.1) 0 with f|f
     .have:=iC m f;omega
     exact f
    by_cases f:p.1<q.1
    .simp[h1,f]
    have j:p.1=q.1:=by omega
    simp[h1,j]
   by_cases h2:p.2=q.2
   .have:=i p q hp e h2
    subst this;simp
   have n:=aK hs (show 0<=p.2-q.2 by omega);have f:s*(p.2-q.2)=- (s*(q.2-p.2)):=by rw[<-ez];congr 1;omega
   rw[f,<-h]at n;have j:¬p.1<q.1:=λk=>by have:=cH m (show 0<q.1-p.1 by omega);omega
   simp[h1,j]
  have o:lo b a=IS:=by rw[mo b a (by simp) (by simp)];exact mN (by omega)
  have r:lo d c=IS:=by rw[mo d c (by simp) (by simp)];exact mN (by omega)
  unfold qx;simp only[o,r,aq,j2,mo a c (by simp) (by simp),mo d b (by simp) (by simp),gb];by_cases c1:a.2<c.2<;>by_cases c2:d.2<b.2<;>simp only[c1,c2,jj,j2]
  all_goals
   constructor
   .intro h
    rw[mo _ _ (by simp) (by simp)];rw[b8 (λhe=>by have:=mP Prod.snd ((pR _ _).1 he);omega),b9 (mw (by omega))]
   intro h;rw[b9 ((pR _ _).2 (i _ _ (by simp) (by simp) (by omega)))]
 have mo:∀p q:b6,(p=a\/p=b\/p=c\/p=d)->(q=a\/q=b\/q=c\/q=d)->lo p q=IT (q.2<p.2):=by
  intro p q hp e;have h:=g p q hp e;unfold lo;by_cases h1:q.2<p.2
  .have h2:=eb (show s<0 by omega) (show q.2-p.2<0 by omega)
   rw[<-h]at h2;have n:=bZ h2 m;have f:p.1<q.1:=by omega
   simp[h1,f]
  by_cases h2:p.2=q.2
  .have:=i p q hp e h2
   subst this;simp
  have l:s*(q.2-p.2)<0:=Int.mul_neg_of_neg_of_pos (show s<0 by omega) (show 0<q.2-p.2 by omega);rw[<-h]at l;have j:¬p.1<q.1:=λk=>by have:=cH m (show 0<q.1-p.1 by omega);omega
  have k:¬p.1=q.1:=λk=>by rw[k,Int.sub_self,d_]at l;omega
  simp[h1,j,k]
 grind[lo,decide_eq_true,qx,pR]
section
variable {M s t:Int} {a b c d:b6} (hM:0<M) (ha:fc a=IN) (hb:fc b=IN) (hc:fc c=IN) (hd:fc d=IN) (hu:a.2<b.2) (hv:c.2<d.2)
 (hs:s*(b.2-a.2)=M*(b.1-a.1)) (ht:t*(d.2-c.2)=M*(d.1-c.1))
def St{a b c d:b6}(ha:fc a=IN)(hb:fc b=IN)(hc:fc c=IN)(hd:fc d=IN)(e:a≠b)(f:c≠d)(h1:kj a b c=0)(h2:kj a b d=0):oZ a b c d=qx a b c d:=by grind[oZ,mz,pR,xw,lK,Co,e_,aq]
include hM ha hb hc hd hu hv hs ht
theorem Uh(l4:s=t){k:Int}(j:oB M s t a c k=0)(hm:qA a b c d):¬max a.2 c.2<min b.2 d.2:=by
 subst l4;obtain⟨g,i,l,m⟩:=VA hM ha hb hc hd hu hv hs ht;have z:∀y,oB M s s a c y=0:=λy=>by grind[uc]
 rw[z]at g i;have mj:∀p,p=a\/p=b\/p=c\/p=d->M*p.1=ou M s a p.2:=by grind[Cv,Cu]
 have g1:=vn (p:=c) hM hu hs;have g2:=vn (p:=d) hM hu hs;have e:=St ha hb hc hd (λh=>by rw[h]at hu;omega) (λh=>by rw[h]at hv;omega) (by omega) (by omega);intro f;rcases hm with hm|⟨hm,_⟩<;>rw[e,(aQ1 hM hu hv mj).1 f]at hm<;>omega
theorem br8(hm:qA a b c d){k:Int}(h:a.2<=k)(i:k<=b.2)(j:c.2<=k)(l:k<=d.2)(e:oB M s t a c k=0):(k=a.2\/k=b.2)/\(k=c.2\/k=d.2):=by
 by_cases l4:s=t
 .have:=Uh hM ha hb hc hd hu hv hs ht l4 e hm
  omega
 have rM:=uc M s t a c a.2 k;have bF:=uc M s t a c c.2 k;have si:=uc M s t a c k b.2;have m:=uc M s t a c k d.2;have f:=uc M s t a c c.2 d.2;have n:¬(oB M s t a c c.2=0/\oB M s t a c d.2=0):=by grind[fJ]
 have g:oZ a b c d=1:=by
  rcases eE s t with hl|hl
  .have o:∀x,(t-s)*x=- ((s-t)*x):=λx=>by grind[h_]
   have mb:=aK (show 0<=t-s by omega) (show 0<=k-a.2 by omega);have mn:=aK (show 0<=t-s by omega) (show 0<=k-c.2 by omega);have pN:=aK (show 0<=t-s by omega) (show 0<=b.2-k by omega);have sf:=aK (show 0<=t-s by omega) (show 0<=d.2-k by omega)
   grind[H_]
  have mb:=aK (show 0<=s-t by omega) (show 0<=k-a.2 by omega);have mn:=aK (show 0<=s-t by omega) (show 0<=k-c.2 by omega);have pN:=aK (show 0<=s-t by omega) (show 0<=b.2-k by omega);have sf:=aK (show 0<=s-t by omega) (show 0<=d.2-k by omega)
  grind[H_]
 rcases hm with hm|⟨_,p,lL,fa⟩<;>grind[N4,uc,fJ]
theorem bq0(hm:qA a b c d){k:Int}(f:a.2<=k)(g:k+1<=b.2)(h:c.2<=k)(i:k+1<=d.2)(e:oB M s t a c k=0)(h1:oB M s t a c (k+1)=0):False:=by have h2:=uc M s t a c k (k+1);rw[e,h1,show k+1-k=1 by omega,gh]at h2;have:=Uh hM ha hb hc hd hu hv hs ht (by omega) e hm;omega
end
def Zg{M s:Int}{a b c d:b6}(e:0<M)(ha:fc a=IN)(f:fc b=IN)(hc:fc c=IN)(g:fc d=IN)(hu:a.2<b.2)(hv:c.2=d.2)(hw:c.1<d.1)
  (hs:s*(b.2-a.2)=M*(b.1-a.1)) (hm:qA a b c d\/qA c d a b) (o:a.2<=c.2) (q:c.2<=b.2) (r:M*c.1<=ou M s a c.2) (t:ou M s a c.2<=M*d.1) :
  (c.2=a.2\/c.2=b.2)/\(ou M s a c.2=M*c.1\/ou M s a c.2=M*d.1):=by
 have mj:=vn (p:=c) e hu hs;have nh:=vn (p:=d) e hu hs;rw[<-hv]at nh;have k:M*c.1<M*d.1:=cd hw e;have s1:kj c d a<=0:=by
  unfold kj;rw[show d.2-c.2=0 by omega,eh];have:=aK (show 0<=d.1-c.1 by omega) (show 0<=c.2-a.2 by omega)
  grind[ez]
 have s2:0<=kj c d b:=by unfold kj;rw[show d.2-c.2=0 by omega,eh];have:=aK (show 0<=d.1-c.1 by omega) (show 0<=b.2-c.2 by omega);omega
 have i:a≠b:=λh=>by rw[h]at hu;omega
 have j:c≠d:=λh=>by rw[h]at hw;omega
 have l:=LG ha f hc g i j (a_ ⟨by omega,by omega⟩) (bk ⟨s1,s2⟩) (by omega);have m:oZ c d a b=1:=LG hc g ha f j i (bk ⟨s1,s2⟩) (a_ ⟨by omega,by omega⟩) (by grind[kj,fJ]);have n:∃p,(p=a\/p=b)/\(p=c\/p=d):=by
  rcases hm with(h|⟨_,h⟩)| (h|⟨_,p,h1,h2⟩)
  .omega
  .exact h
  .omega
  exact⟨p,h2,h1⟩
 grind[ou,Cv,Cu]
def TP{a b c d:b6}(ha:fc a=IN)(i:fc b=IN)(hc:fc c=IN)(j:fc d=IN)(hu:a.2=b.2)(f:a.1<b.1)(hv:c.2=d.2)(g:c.1<d.1)(l:a.2=c.2)
  (hm:qA a b c d) (h1:a.1<d.1) (h2:c.1<b.1):False:=by
 have z:∀p,p.2=a.2->kj a b p=0:=λp h=>by grind[kj]
 have e:=St ha i hc j (λh=>by rw[h]at f;omega) (λh=>by rw[h]at g;omega) (z c (by omega)) (z d (by omega));have mo:∀p q:b6,p.2=q.2->lo p q=IT (p.1<q.1):=by grind[lo]
 have m:lo b a=IS:=by grind[decide_eq_false]
 have n:lo d c=IS:=by grind[decide_eq_false]
 have k:qx a b c d=2:=by grind[qx,aq,pR,decide_eq_true]
 rcases hm with hm|⟨hm,_⟩<;>rw[e,k]at hm<;>omega
open Go.Pg
def yu(a b c d:b6):Prop:=max a.1 b.1<min c.1 d.1\/max c.1 d.1<min a.1 b.1
def Sep(a b c d:b6):Prop:=qA a b c d\/qA c d a b\/yu a b c d
def Sep.swap{a b c d:b6}(h:Sep a b c d):Sep c d a b:=by
 rcases h with h|h|h
 .exact a_ (bk h)
 .exact bk h
 exact a_ (a_ h.symm)
def Sep.Gc{a b c d:b6}(n:a≠b)(h:Sep a b c d):Sep b a c d:=by
 rcases h with h|h|h
 .exact bk (h.Gc n)
 .exact a_ (bk (h.Kk n))
 refine a_ (a_ ?_);unfold yu at *;omega
def Sep.Kk{a b c d:b6}(n:c≠d)(h:Sep a b c d):Sep a b d c:=(h.swap.Gc n).swap
structure pk(ι:Type) where
 E:List ι
 src:ι->b6
 dst:ι->b6
namespace pk
variable {ι:Type} (F:pk ι)
structure Ok:Prop where
 nodup:F.E.Nodup
 ne:∀e∈F.E,F.src e≠F.dst e
 Tt:∀e∈F.E,fc (F.src e)=IN/\fc (F.dst e)=IN
 meet:∀e∈F.E,∀f∈F.E,e≠f->Sep (F.src e) (F.dst e) (F.src f) (F.dst f)
def fwd(e:ι):Bool:=IT ((F.src e).2<(F.dst e).2\/((F.src e).2=(F.dst e).2/\(F.src e).1<(F.dst e).1))
def b5(e:ι):b6:=bif F.fwd e then F.src e else F.dst e
def a7(e:ι):b6:=bif F.fwd e then F.dst e else F.src e
def u_(e:ι):Int:=if(F.b5 e).2<(F.a7 e).2 then(F.a7 e).2-(F.b5 e).2 else 1
def prod:List ι->Int
 | []=>1
 |e::l=>F.u_ e*prod l
def aV6(e:ι):0<F.u_ e:=by unfold u_;split<;>omega
def zw:∀l,0<F.prod l
 | []=>by simp[prod]
 |e::l=>cH (F.aV6 e) (zw l)
def VZ{e:ι}:∀ {l:List ι},e∈l->F.u_ e∣F.prod l
 |f::l,h=>by
  rcases aI.1 h with rfl|h
  .exact jW _ _
  exact kP (VZ h) (Int.dvd_mul_left _ _)
def w7{F:pk ι}(cu:F.Ok){e:ι}(he:e∈F.E):(F.b5 e).2<(F.a7 e).2\/((F.b5 e).2=(F.a7 e).2/\(F.b5 e).1<(F.a7 e).1):=by
 have a:=cu.ne e he;have:¬((F.src e).1=(F.dst e).1/\(F.src e).2=(F.dst e).2):=λ⟨x,y⟩=>a (fg x y);unfold b5 a7;cases h:F.fwd e
 .unfold fwd at h
  grind[of_decide_eq_false]
 unfold fwd at h
 grind
def dC(cu:F.Ok):Net ι where
 E:=F.E
 b5:=F.b5
 a7:=F.a7
 M:=F.prod F.E
 s:=λe=>F.prod F.E*((F.a7 e).1-(F.b5 e).1) / F.u_ e
 oC:=F.zw _
 ord:=λe he=>w7 cu he
 x':=λe he hu=>by have a:F.u_ e=(F.a7 e).2-(F.b5 e).2:=b9 hu;have h:=F.VZ he;have h2:F.u_ e∣F.prod F.E*((F.a7 e).1-(F.b5 e).1):=kP h (jW _ _);rw[<-a];exact Int.ediv_mul_cancel h2
def ph{F:pk ι}(cu:F.Ok){e:ι}(he:e∈F.E):fc (F.b5 e)=IN/\fc (F.a7 e)=IN:=by
 have:=cu.Tt e he;unfold b5 a7
 grind
def KI{F:pk ι}(cu:F.Ok){e f:ι}(he:e∈F.E)(hf:f∈F.E)(h:e≠f):Sep (F.b5 e) (F.a7 e) (F.b5 f) (F.a7 f):=by
 have m:=cu.meet e he f hf h;have a:=cu.ne e he;have b:=cu.ne f hf;unfold b5 a7;cases F.fwd e<;>cases F.fwd f
 .exact(m.Gc a).Kk b
 .exact m.Gc a
 .exact m.Kk b
 exact m
section
variable (cu:F.Ok)
def D9{e:ι}(he:e∈F.E)(hu:(F.b5 e).2<(F.a7 e).2){k:Int}(a:(F.b5 e).2<=k)(b:k<=(F.a7 e).2) :
  F.prod F.E*min (F.b5 e).1 (F.a7 e).1<=(F.dC cu).X e k/\(F.dC cu).X e k<=F.prod F.E*max (F.b5 e).1 (F.a7 e).1:=by
 have c:=F.zw F.E;have d:(F.dC cu).X e (F.b5 e).2=F.prod F.E*(F.b5 e).1:=Net.uO _ e;have f:(F.dC cu).X e (F.a7 e).2=F.prod F.E*(F.a7 e).1:=Net.xz (F.dC cu) he hu;have st:∀y z,(F.dC cu).X e z-(F.dC cu).X e y=(F.dC cu).s e*(z-y):=λy z=>by
  unfold Net.X
  grind[cP]
 have s1:=st (F.b5 e).2 k;have s2:=st k (F.a7 e).2;have m1:F.prod F.E*min (F.b5 e).1 (F.a7 e).1<=F.prod F.E*(F.b5 e).1:=bd (by omega) (by omega);have m2:F.prod F.E*min (F.b5 e).1 (F.a7 e).1<=F.prod F.E*(F.a7 e).1:=bd (by omega) (by omega);have m3:F.prod F.E*(F.b5 e).1<=F.prod F.E*max (F.b5 e).1 (F.a7 e).1:=bd (by omega) (by omega);have m4:F.prod F.E*(F.a7 e).1<=F.prod F.E*max (F.b5 e).1 (F.a7 e).1:=bd (by omega) (by omega);rcases eE ((F.dC cu).s e) 0 with h|h
 .have mb:=aK (show 0<=- (F.dC cu).s e by omega) (show 0<=k-(F.b5 e).2 by omega)
  have mn:=aK (show 0<=- (F.dC cu).s e by omega) (show 0<=(F.a7 e).2-k by omega);rw[h_]at mb mn;omega
 have mb:=aK h (show 0<=k-(F.b5 e).2 by omega);have mn:=aK h (show 0<=(F.a7 e).2-k by omega);omega
structure BX(e f:ι):Prop where
 LB:∀k,(F.dC cu).lA e k->(F.dC cu).lA f k->¬((F.dC cu).X e k<(F.dC cu).X f k/\(F.dC cu).X f (k+1)<(F.dC cu).X e (k+1))/\¬((F.dC cu).X f k<(F.dC cu).X e k/\(F.dC cu).X e (k+1)<(F.dC cu).X f (k+1))
 QP:∀k,(F.dC cu).lA e k->(F.dC cu).lA f k->(F.dC cu).X e k=(F.dC cu).X f k->(F.dC cu).X e (k+1)=(F.dC cu).X f (k+1)->False
 Wy:∀k,(F.b5 e).2<=k->k<=(F.a7 e).2->(F.b5 f).2<=k->k<=(F.a7 f).2->(F.dC cu).X e k=(F.dC cu).X f k->(k=(F.b5 e).2\/k=(F.a7 e).2)/\(k=(F.b5 f).2\/k=(F.a7 f).2)
def BX.symm{e f:ι}(h:F.BX cu e f):F.BX cu f e :=⟨λk a b=>(h.LB k b a).symm,λk a b x y=>h.QP k b a x.symm y.symm,λk a b c d x=>(h.Wy k c d a b x.symm).symm⟩
def Uq{e f:ι}(he:e∈F.E)(hf:f∈F.E)(b:(F.b5 e).2<(F.a7 e).2)(c:(F.b5 f).2<(F.a7 f).2)(hm:qA (F.b5 e) (F.a7 e) (F.b5 f) (F.a7 f)):F.BX cu e f:=by
 have d:=(F.dC cu).oC;have a:∀e f y,oB (F.dC cu).M ((F.dC cu).s e) ((F.dC cu).s f) (F.b5 e) (F.b5 f) y=(F.dC cu).X e y-(F.dC cu).X f y:=λ_ _ _=>rfl;have ft:∀e∈F.E,(F.b5 e).2<(F.a7 e).2->(F.dC cu).s e*((F.a7 e).2-(F.b5 e).2)=(F.dC cu).M*((F.a7 e).1-(F.b5 e).1):=(F.dC cu).x';constructor
 .intro k c1 c2
  have h:=bm0 d (ph cu he).1 (ph cu he).2 (ph cu hf).1 (ph cu hf).2 b c (ft e he b) (ft f hf c) hm (k:=k) c1.1 c1.2 c2.1 c2.2
  grind
 .intro k c1 c2 h1 h2
  exact bq0 d (ph cu he).1 (ph cu he).2 (ph cu hf).1 (ph cu hf).2 b c (ft e he b) (ft f hf c) hm (k:=k) c1.1 c1.2 c2.1 c2.2 (by rw[a];omega) (by rw[a];omega)
 intro k g i j l h;exact br8 d (ph cu he).1 (ph cu he).2 (ph cu hf).1 (ph cu hf).2 b c (ft e he b) (ft f hf c) hm (k:=k) g i j l (by rw[a];omega)
def Up{e f:ι}(he:e∈F.E)(hf:f∈F.E)(a:(F.b5 e).2<(F.a7 e).2)(b:(F.b5 f).2<(F.a7 f).2)(hm:max (F.b5 e).1 (F.a7 e).1<min (F.b5 f).1 (F.a7 f).1):F.BX cu e f:=by
 have lt:∀k,(F.b5 e).2<=k->k<=(F.a7 e).2->(F.b5 f).2<=k->k<=(F.a7 f).2->(F.dC cu).X e k<(F.dC cu).X f k:=λk c d g h=>by have h1:=(F.D9 cu he a c d).2;have h2:=(F.D9 cu hf b g h).1;have j:=cd hm (F.zw F.E);omega
 have i:∀k,(F.dC cu).lA e k->(F.dC cu).lA f k->(F.dC cu).X e k<(F.dC cu).X f k/\(F.dC cu).X e (k+1)<(F.dC cu).X f (k+1):=λk c1 c2=>by
  have l:(F.b5 e).2<=k:=c1.1;have a2:k<(F.a7 e).2:=c1.2;have a3:(F.b5 f).2<=k:=c2.1;have a4:k<(F.a7 f).2:=c2.2
  grind
 constructor
 .grind
 .grind
 grind
def pair{e f:ι}(he:e∈F.E)(hf:f∈F.E)(a:(F.b5 e).2<(F.a7 e).2)(b:(F.b5 f).2<(F.a7 f).2)(h:e≠f):F.BX cu e f:=by
 rcases KI cu he hf h with m|m|m|m
 .exact F.Uq cu he hf a b m
 .exact(F.Uq cu hf he b a m).symm
 .exact F.Up cu he hf a b m
 exact(F.Up cu hf he b a m).symm
def tM:(F.dC cu).PY:=by
 have u:=(F.dC cu).oC;have ft:∀e∈F.E,(F.b5 e).2<(F.a7 e).2->(F.dC cu).s e*((F.a7 e).2-(F.b5 e).2)=(F.dC cu).M*((F.a7 e).1-(F.b5 e).1):=(F.dC cu).x';constructor
 .exact cu.nodup
 .intro e he f hf k c1 c2 h
  by_cases a:e=f
  .subst a;omega
  have:=((F.pair cu he hf (df c1.1 c1.2) (df c2.1 c2.2) a).LB k c1 c2).1;omega
 .intro e he f hf k c1 c2 h
  by_cases a:e=f
  .subst a;omega
  have:=((F.pair cu he hf (df c1.1 c1.2) (df c2.1 c2.2) a).LB k c1 c2).2;omega
 .intro e he f hf k c1 c2 h1 h2
  rcases ia (e=f)with h|a
  .exact h
  exact((F.pair cu he hf (df c1.1 c1.2) (df c2.1 c2.2) a).QP k c1 c2 h1 h2).elim
 .intro e he f hf k d v a l n w x h
  exact((F.pair cu he hf d v a).Wy k l n w x h).1
 .intro e he f hf d p l n r t
  have a:e≠f:=λh=>p (h▸d);have o:=w7 cu hf;have q:¬(F.b5 f).2<(F.a7 f).2:=p;have z:(F.b5 f).2=(F.a7 f).2:=by omega
  have B:(F.b5 f).1<(F.a7 f).1:=by omega
  have m:=KI cu he hf a;by_cases c:yu (F.b5 e) (F.a7 e) (F.b5 f) (F.a7 f)
  .have b:=F.D9 cu he d l n
   have C:F.prod F.E*(F.b5 f).1<=(F.dC cu).X e (F.b5 f).2:=r;have D:(F.dC cu).X e (F.b5 f).2<=F.prod F.E*(F.a7 f).1:=t;have K:F.prod F.E*min (F.b5 e).1 (F.a7 e).1<=(F.dC cu).X e (F.b5 f).2/\(F.dC cu).X e (F.b5 f).2<=F.prod F.E*max (F.b5 e).1 (F.a7 e).1:=b;rcases c with h|h
   .have:=cd (show max (F.b5 e).1 (F.a7 e).1<(F.b5 f).1 by omega) (F.zw F.E)
    omega
   have:=cd (show(F.a7 f).1<min (F.b5 e).1 (F.a7 e).1 by omega) (F.zw F.E);omega
  have G:qA (F.b5 e) (F.a7 e) (F.b5 f) (F.a7 f)\/qA (F.b5 f) (F.a7 f) (F.b5 e) (F.a7 e):=by
   rcases m with m|m|m
   .exact bk m
   .exact a_ m
   exact(c m).elim
  exact Zg u (ph cu he).1 (ph cu he).2 (ph cu hf).1 (ph cu hf).2 d z B (ft e he d) G l n r t
 intro e he f hf H p I h1 h2;rcases ia (e=f)with h|a
 .exact h
 have J:¬(F.b5 e).2<(F.a7 e).2:=H;have q:¬(F.b5 f).2<(F.a7 f).2:=p;have g:(F.b5 e).1<(F.a7 f).1:=h1;have i:(F.b5 f).1<(F.a7 e).1:=h2;have j:(F.b5 e).2=(F.b5 f).2:=I;have o1:=w7 cu he;have o2:=w7 cu hf;rcases KI cu he hf a with m|m|m
 .exact(TP (ph cu he).1 (ph cu he).2 (ph cu hf).1 (ph cu hf).2 (by omega) (by omega) (by omega) (by omega) j m g i).elim
 .exact(TP (ph cu hf).1 (ph cu hf).2 (ph cu he).1 (ph cu he).2 (by omega) (by omega) (by omega) (by omega) j.symm m i g).elim
 unfold yu at m;omega
end
end pk
theorem Ta{s:fy}{m:List (Int×b6)}:∀ {r:List fy},r.Pairwise (λa b=>oh a<=oh b)->wU s m r=IN->∀t∈r,oH s t m=IN\/sk s<oh t
 | [],_,_,t,c=>by simp at c
 |u::r,hp,h,t,c=>by
  unfold wU at h;by_cases d:sk s<oh u
  .grind[List.rel_of_pairwise_cons]
  rw[mN d]at h;simp only[ct,ab]at h;rcases aI.1 c with rfl|c
  .exact bk h.1
  exact Ta (fj hp) h.2 t c
def ET{a6:List ef}{m:List (Int×b6)}:∀ {l:List fy},l.Pairwise (λa b=>oh a<=oh b)->u3 a6 m l=IN->l.Pairwise (λs t=>oH s t m=IN\/sk s<oh t)/\∀s∈l,∀n∈a6,rp s n=IN
 | [],_,_=>by simp
 |s::r,hp,h=>by
  unfold u3 at h;simp only[ab,ak]at h;obtain⟨h1,h2,c⟩:=h;obtain⟨i1,i2⟩:=ET (fj hp) c
  grind[ba,Ta,fj]
def E2{n:ef}:∀ {a6:List ef} (m:List (Int×b6)),(a6.map (·.1)).Pairwise (·<·)->n∈a6->ff fx n.1 (mkMap a6 m)=U (n.2.1,n.2.2)
 |u::a6,m,hp,a=>by
  rw[ay,ba]at hp;rcases aI.1 a with rfl|a
  .show ff fx n.1 (mkMap a6 (k7 fx n.1 (n.2.1,n.2.2) m))=_
   grind[TQ,aC,sL]
  show ff fx n.1 (mkMap a6 (k7 fx u.1 (u.2.1,u.2.2) m))=_;exact E2 _ hp.2 a
def CP{α:Type}{R:α->α->Prop}(ek:∀x y,R x y->R y x)(b:∀x,R x x):∀ {l:List α},l.Pairwise R->∀ {x y},x∈l->y∈l->R x y
 |a::l,hp,x,y,c,d=>by
  rw[ba]at hp;rcases aI.1 c with h1|h1
  .grind
  rcases aI.1 d with h2|h2
  .grind
  exact CP ek b hp.2 h1 h2
structure oQ(a6:List ef)(al:List dk)(s:fy)(a:dk)(p:List b6)(i:Nat):Prop where
 nb:a∈al
 path:pathOf a6 al a.1=U p
 at':i+1<p.length
 eq:s=(mi a p,(i:Int))
namespace oQ
variable {a6:List ef} {al:List dk} {s:fy} {a:dk} {p:List b6} {i:Nat} (h:oQ a6 al s a p i)
include h
theorem rM:p[i]?=U (hT s):=by
 have:=h.at';rw[h.eq];show p[i]?=U ((p[i]?).getD (0,0))
 grind[ae]
theorem si:p[i+1]?=U (hF s):=by
 have:=h.at';rw[h.eq];show p[i+1]?=U ((p[i+1]?).getD (0,0))
 grind[ae]
theorem first:uR s=IT (i=0):=by
 rw[h.eq];unfold uR
 grind
theorem last:ui s=IT (i+2=p.length):=by have:=h.at';rw[h.eq];unfold ui;exact decide_eq_decide.2 (by show(i:Int)=(p.length:Int)-2↔_;omega)
end oQ
namespace eS
variable {a6:List ef} {al:List dk} {fs:List Int} (h:eS a6 al fs)
include h
theorem sj{r:List fy}(b:mE a6 al al=U r){s:fy}(hs:s∈r):∃a p i,oQ a6 al s a p i:=by obtain⟨a,ha,p,hp,hm⟩:=Hh b s hs;obtain⟨i,a7,e⟩:=Cr hm;exact⟨a,p,i,ha,hp,a7,e⟩
theorem vV{s:fy}{a:dk}{p:List b6}{i:Nat}(o:oQ a6 al s a p i):hT s≠hF s:=by obtain⟨f,t,_,_,b,c,_⟩:=h.path o.nb;rw[o.path]at b;cases b;exact H8 c o.rM o.si
theorem x9{s:fy}{a:dk}{p:List b6}{i:Nat}(o:oQ a6 al s a p i):fc (hT s)=IN/\fc (hF s)=IN :=⟨vl (h.Br o.nb o.path _ (aJ o.rM)),vl (h.Br o.nb o.path _ (aJ o.si))⟩
theorem BE{s:fy}{a:dk}{p:List b6}{i:Nat}(o:oQ a6 al s a p i)(a7:i=0){n:ef}(b:n∈a6)(e:a.2.1=n.1):hT s=(n.2.1,n.2.2):=by
 obtain⟨f,t,h1,_,c,_⟩:=h.path o.nb;rw[o.path]at c;have d:=o.rM;rw[e,h.x3 b]at h1
 grind
theorem Di{s:fy}{a:dk}{p:List b6}{i:Nat}(o:oQ a6 al s a p i)(a7:i+2=p.length){n:ef}(b:n∈a6)(e:a.2.2.1=n.1):hF s=(n.2.1,n.2.2):=by
 obtain⟨f,t,_,h2,c,_⟩:=h.path o.nb;rw[o.path]at c;have d:=o.si;rw[e,h.x3 b]at h2
 grind
theorem Wg{s:fy}{a:dk}{p:List b6}{i:Nat}(o:oQ a6 al s a p i){n:ef}(b:n∈a6)(hf:rp s n=IN)(c:l_ (hT s) (hF s) (n.2.1,n.2.2)=IN):(n.2.1,n.2.2)=hT s\/(n.2.1,n.2.2)=hF s:=by
 unfold rp at hf;rw[c,o.first,o.last]at hf;simp only[ax,dt,bD,ab,gb]at hf;rcases hf with⟨x,y⟩|⟨x,y⟩
 .exact bk (h.BE o x b (by rw[o.eq]at y;exact y)).symm
 exact a_ (h.Di o x b (by rw[o.eq]at y;exact y)).symm
theorem Ou{s t:fy}{a b:dk}{p q:List b6}{i j:Nat}(o:oQ a6 al s a p i)(o':oQ a6 al t b q j)(e:s.1.1=t.1.1):a=b/\p=q:=by
 have d:a.1=b.1:=by rw[o.eq,o'.eq]at e;exact e
 have h1:=h.vA o.nb;have h2:=h.vA o'.nb;rw[d,h2]at h1;cases h1;have c:=o.path;rw[o'.path]at c;cases c;exact⟨rfl,rfl⟩
theorem S7{a:dk}{p:List b6}(ha:a∈al)(hp:pathOf a6 al a.1=U p)(e:a.2.1=a.2.2.1){i:Nat}(a7:i+2=p.length){x y:b6}(b:p[0]?=U x)(c:p[i+1]?=U y):x=y:=by
 obtain⟨f,t,h1,h2,d,_⟩:=h.path ha
 grind
theorem xb{a:dk}(ha:a∈al):(∃n∈a6,n.1=a.2.1)/\∃n∈a6,n.1=a.2.2.1:=by obtain⟨f,t,h1,h2,_⟩:=h.path ha;exact⟨⟨f,bj h1,by have:=dI h1;simpa using this⟩,⟨t,bj h2,by have:=dI h2;simpa using this⟩⟩
theorem ag0{s t:fy}{a b:dk}{p q:List b6}{i j:Nat}(o:oQ a6 al s a p i)(o':oQ a6 al t b q j)(m:s≠t)(fs':∀n∈a6,rp s n=IN)(v:∀n∈a6,rp t n=IN)(hc:oH s t (mkMap a6 [])=IN):qA (hT s) (hF s) (hT t) (hF t):=by
 unfold oH at hc;simp only at hc;by_cases e:s.1.1=t.1.1
 .rw[mw e]at hc
  simp only[dn]at hc;obtain⟨rfl,rfl⟩:=h.Ou o o' e;have w:s.2=(i:Int):=by rw[o.eq]
  have z:t.2=(j:Int):=by rw[o'.eq]
  have f:s.1.2.1=a.2.1/\s.1.2.2.1=a.2.2.1:=by rw[o.eq];exact⟨rfl,rfl⟩
  have u:t.1.2.1=a.2.1/\t.1.2.2.1=a.2.2.1:=by rw[o'.eq];exact⟨rfl,rfl⟩
  rw[w,z,f.1,f.2,u.1,u.2,o.first,o.last,o'.first,o'.last]at hc;have B:i≠j:=λh=>m (by rw[o.eq,o'.eq,h]);by_cases g:(j:Int)<(i:Int)
  .rw[mw g]at hc
   simp only[dn]at hc;by_cases c:(IT ((j:Int)+1=(i:Int))||(IT (a.2.1=a.2.2.1)&&(IT (j=0)&&IT (i+2=p.length))))=IN
   .rw[c]at hc
    simp only[dn,gb]at hc;refine a_ ⟨hc,?_⟩;simp only[bD,ab,gb]at c;rcases c with c|⟨mj,nh,px⟩
    .have:j+1=i:=by omega
     subst this;have l:hT s=hF t:=aQ (o.rM.symm.trans o'.si);exact⟨hT s,bk rfl,a_ l⟩
    subst nh;have:=h.S7 o.nb o.path mj px o'.rM o.si;exact⟨hF s,a_ rfl,bk this.symm⟩
   rw[gE.2 c]at hc;simp only[ct,gb]at hc;exact bk hc
  rw[mN g]at hc;simp only[ct]at hc;by_cases c:(IT ((i:Int)+1=(j:Int))||(IT (a.2.1=a.2.2.1)&&(IT (i=0)&&IT (j+2=p.length))))=IN
  .rw[c]at hc
   simp only[dn,gb]at hc;refine a_ ⟨hc,?_⟩;simp only[bD,ab,gb]at c;rcases c with c|⟨mj,nh,px⟩
   .have:i+1=j:=by omega
    subst this;have l:=o'.rM;rw[o.si]at l;exact⟨hF s,a_ rfl,bk (aQ l)⟩
   subst nh;have:=h.S7 o'.nb o'.path mj px o.rM o'.si;exact⟨hT s,bk rfl,a_ this⟩
  rw[gE.2 c]at hc;simp only[ct,gb]at hc;exact bk hc
 rw[mN e]at hc;simp only[ct]at hc;by_cases d:oZ (hT s) (hF s) (hT t) (hF t)=1
 .rw[mw d]at hc
  simp only[dn]at hc;refine a_ ⟨d,?_⟩;have key:∀n∈a6,(l_ (hT s) (hF s) (nI (mkMap a6 []) n.1)&&l_ (hT t) (hF t) (nI (mkMap a6 []) n.1))=IN->∃x,(x=hT s\/x=hF s)/\(x=hT t\/x=hF t):=by
   intro n k r;have:nI (mkMap a6 []) n.1=(n.2.1,n.2.2):=by unfold nI;rw[E2 [] (pA h.wK) k];rfl
   rw[this,ab]at r;exact⟨(n.2.1,n.2.2),h.Wg o k (fs' n k) r.1,h.Wg o' k (v n k) r.2⟩
  have f:s.1.2.1=a.2.1/\s.1.2.2.1=a.2.2.1:=by rw[o.eq];exact⟨rfl,rfl⟩
  obtain⟨⟨C,m1,lL⟩,D,m2,fa⟩:=h.xb o.nb;rw[f.1,f.2,<-lL,<-fa,bD]at hc;rcases hc with hc|hc
  .exact key C m1 (ab _ _▸hc).2
  exact key D m2 (ab _ _▸hc).2
 rw[mN d]at hc;simp only[ct,gb]at hc;exact bk hc
theorem aX4{r:List fy}(k:mE a6 al al=U r){s t:fy}(hs:s∈r)(v:t∈r)(l:s≠t):Sep (hT s) (hF s) (hT t) (hF t):=by
 have hp:=h.C2;unfold uQ at hp;rw[k]at hp;simp only at hp;have m:=yE (uJ r);have c:=q4 (uJ r);have f:(nG pv r).Pairwise (λa b=>oh a<=oh b):=m.imp λ{a b} x=>by unfold pv at x;rw[qu]at x;omega
 obtain⟨g1,g2⟩:=ET f hp;have g3:(nG pv r).Pairwise (λs t=>s≠t->Sep (hT s) (hF s) (hT t) (hF t)):=by
  refine g1.imp_of_mem λ{x y} n u d g=>?_;obtain⟨a,p,i,o⟩:=h.sj k (c.mem_iff.1 n);obtain⟨b,q,j,o'⟩:=h.sj k (c.mem_iff.1 u);rcases d with hc|hf
  .exact bk (h.ag0 o o' g (g2 x n) (g2 y u) hc)
  exact a_ (a_ (bk hf))
 exact CP (R:=λs t=>s≠t->Sep (hT s) (hF s) (hT t) (hF t)) (λx y d g=>(d λe=>g e.symm).swap) (λx g=>(g rfl).elim) g3 (c.mem_iff.2 hs) (c.mem_iff.2 v) l
end eS
def LN{a6:List ef}{al:List dk}:∀ {l:List dk} {r:List fy},(l.map (·.1)).Pairwise (·<·)->mE a6 al l=U r->r.Nodup
 | [],r,_,h=>by grind[mE]
 |a::l,r,hp,h=>by
  rw[ay,ba]at hp;unfold mE at h;split at h
  .cases h
  rename_i p f;cases hc:((IT (a.2.1=a.2.2.1)&&IT (p.length<4))||!(re p))with
  |true=>rw[hc]at h;cases h
  |false=>
   rw[hc]at h;simp only[ct]at h;split at h
   next o c=>
    cases h;have g:=LN hp.2 c;refine bQ.2 ⟨?_,g,?_⟩
    .unfold pV
     refine ch.2 (List.nodup_range.imp ?_)
     grind
    intro x k y m d;subst d;obtain⟨i,_,e⟩:=Cr k;obtain⟨b,s,q,_,hm⟩:=Hh c x m;obtain⟨j,_,n⟩:=Cr hm;have t:a.1=b.1:=by have:=mP (λz:fy=>z.1.1) (e.symm.trans n);exact this
    grind[aC]
   cases h
def W3(a b:b6):kj a b a=0:=by unfold kj;simp
def WQ(a b:b6):kj a b b=0:=by unfold kj;rw[dy (b.2-a.2)];omega
def Vz{a b x:b6}(ha:fc a=IN)(c:fc b=IN)(d:x=a\/x=b):lK a b x=0:=by
 rw[Co];rcases d with rfl|rfl
 .rw[xw ha c ha];exact W3 _ _
 rw[xw ha c c];exact WQ _ _
def bh8{a b c:b6}(h1:lo b a=IS)(h2:lo c b=IS):lo c a=IS:=by unfold lo at *;simp only[bU,dv,nu]at *;omega
def Hn(a:b6):lo a a=IS:=by unfold lo;simp
def Ti{a b:b6}(h:lo a b=IN):lo b a=IS:=by unfold lo at *;simp only[bU,dv,nu,bD,ab,gb]at *;omega
def be9{a b:b6}(h:lo b a=IS):mz a b=IN\/lo a b=IN:=by rw[pR,Prod.ext_iff];unfold lo at *;simp only[bU,dv,nu,bD,ab,gb]at *;omega
def bn8{a b c d x:b6}(ha:fc a=IN)(l:fc b=IN)(hc:fc c=IN)(m:fc d=IN)(j:a≠b)(k:c≠d)(h1:x=a\/x=b)(h2:x=c\/x=d):oZ a b c d≠0:=by
 unfold oZ;have o:mz a b=IS:=by rw[<-dS,pR];exact j
 have p:mz c d=IS:=by rw[<-dS,pR];exact k
 have s1:=Vz ha l h1;have s2:=Vz hc m h2;have mb:lK a b c*lK a b d=0:=by
  rcases h2 with rfl|rfl
  .rw[s1,eh]
  rw[s1,d_]
 have mn:lK c d a*lK c d b=0:=by
  rcases h1 with rfl|rfl
  .rw[s2,eh]
  rw[s2,d_]
 simp only[ha,l,hc,m,e_,jj,o,p,aq,j2,mb,mn];split
 .have st:∀ {u v:b6},(x=u\/x=v)->lo x (if lo v u=IN then v else u)=IS/\lo (if lo v u=IN then u else v) x=IS:=by
   intro u v n;by_cases hv:lo v u=IN
   .rw[b9 hv,b9 hv]
    rcases n with rfl|rfl
    .exact⟨Ti hv,Hn _⟩
    exact⟨Hn _,Ti hv⟩
   have e:=gE.2 hv;rw[b8 hv,b8 hv];rcases n with rfl|rfl
   .exact⟨Hn _,e⟩
   exact⟨e,Hn _⟩
  have lL:=st h1;have fa:=st h2;unfold qx;simp only;generalize(if lo b a=IN then b else a)=f at *;generalize(if lo b a=IN then a else b)=g at *;generalize(if lo d c=IN then d else c)=c' at *;generalize(if lo d c=IN then c else d)=i at *;have f1:lo x (if lo f c'=IN then c' else f)=IS:=by
   split
   .exact fa.1
   exact lL.1
  have f2:lo (if lo i g=IN then i else g) x=IS:=by
   split
   .exact fa.2
   exact lL.2
  rcases be9 (bh8 f1 f2)with h|h
  .rw[b9 h];omega
  by_cases h':mz (if lo f c'=IN then c' else f) (if lo i g=IN then i else g)=IN
  .rw[b9 h'];omega
  rw[b8 h',b9 h];omega
 simp
namespace pk
variable {ι:Type} (F:pk ι) (cu:F.Ok)
include cu
theorem Rm{e f:ι}(he:e∈F.E)(hf:f∈F.E)(h1:F.b5 e=F.b5 f)(h2:F.a7 e=F.a7 f):e=f:=by
 have a:=F.tM cu;have o:=w7 cu he;by_cases hu:(F.b5 e).2<(F.a7 e).2
 .have c1:(F.dC cu).lA e (F.b5 e).2:=⟨bJ _,hu⟩
  have c2:(F.dC cu).lA f (F.b5 e).2:=⟨by show(F.b5 f).2<=_;rw[h1];exact bJ _,by show _<(F.a7 f).2;rw[<-h2];exact hu⟩;have b:∀y,(F.dC cu).X e y=(F.dC cu).X f y:=λy=>by unfold Net.X;show(F.dC cu).M*(F.b5 e).1+F.prod F.E*((F.a7 e).1-(F.b5 e).1) / F.u_ e*(y-(F.b5 e).2)=(F.dC cu).M*(F.b5 f).1+F.prod F.E*((F.a7 f).1-(F.b5 f).1) / F.u_ f*(y-(F.b5 f).2);unfold u_;rw[h1,h2]
  exact a.apart e he f hf _ c1 c2 (b _) (b _)
 have o':=w7 cu hf;refine a.rE e he f hf hu ?_ ?_ ?_ ?_
 .show ¬(F.b5 f).2<(F.a7 f).2
  rw[<-h1,<-h2];exact hu
 .show (F.b5 e).2=(F.b5 f).2
  rw[h1]
 .show (F.b5 e).1<(F.a7 f).1
  rw[<-h2];omega
 show(F.b5 f).1<(F.a7 e).1;rw[<-h1];omega
theorem Ug{e f:ι}(he:e∈F.E)(hf:f∈F.E)(j:e≠f){x y:b6}(l:x=F.src e\/x=F.dst e)(m:x=F.src f\/x=F.dst f)(n:y=F.src e\/y=F.dst e)(p:y=F.src f\/y=F.dst f):x=y:=by
 rcases ia (x=y)with h|k
 .exact h
 have o:=w7 cu he;have o':=w7 cu hf;have c:∀ {g:ι} {z:b6},(z=F.src g\/z=F.dst g)->z=F.b5 g\/z=F.a7 g:=by
  intro g z hz;unfold b5 a7;cases F.fwd g
  .exact hz.symm
  exact hz
 have nl:¬(F.b5 e=F.a7 f/\F.a7 e=F.b5 f):=λ⟨a,b⟩=>by rw[a,b]at o;omega
 exfalso;apply j;rcases c l with a|a<;>rcases c n with b|b<;>rcases c m with d|d<;>rcases c p with i|i
 all_goals first
  |exact lH (a.trans b.symm) k
  |exact lH (d.trans i.symm) k
  |exact F.Rm cu he hf (a.symm.trans d) (b.symm.trans i)
  |exact F.Rm cu he hf (b.symm.trans i) (a.symm.trans d)
  |exact(nl ⟨a.symm.trans d,b.symm.trans i⟩).elim
  |exact(nl ⟨b.symm.trans i,a.symm.trans d⟩).elim
end pk
def fh(r:List fy):pk fy:=⟨r,hT,hF⟩
def eS.fm{a6:List ef}{al:List dk}{fs:List Int}(h:eS a6 al fs){r:List fy}(b:mE a6 al al=U r):(fh r).Ok where
 nodup:=LN (pA h.tz) b
 ne:=λe he=>by obtain⟨a,p,i,o⟩:=h.sj b he;exact h.vV o
 Tt:=λe he=>by obtain⟨a,p,i,o⟩:=h.sj b he;exact h.x9 o
 meet:=λe he f hf c=>h.aX4 b he hf c
def Zp{a b c d x:b6}(h1:x=a\/x=b)(h2:x=c\/x=d)(hf:yu a b c d):False:=by grind[yu]
def FF(n:ef)(s:fy)(a:dk)(p:List b6)(i:Nat):Prop:=(i=0/\a.2.1=n.1/\hT s=(n.2.1,n.2.2))\/(i+2=p.length/\a.2.2.1=n.1/\hF s=(n.2.1,n.2.2))
def FF.Rk{n:ef}{s:fy}{a:dk}{p:List b6}{i:Nat}(h:FF n s a p i):(n.2.1,n.2.2)=hT s\/(n.2.1,n.2.2)=hF s:=by
 rcases h with⟨_,_,h⟩|⟨_,_,h⟩
 .exact bk h.symm
 exact a_ h.symm
structure Dv(a6:List ef)(s t:fy)(a b:dk)(p q:List b6)(i j:Nat)(x:b6):Prop where
 or:(a=b/\i+1=j/\x=hF s/\x=hT t)\/(a=b/\j+1=i/\x=hT s/\x=hF t)\/∃n∈a6,x=(n.2.1,n.2.2)/\FF n s a p i/\FF n t b q j
def Dv.symm{a6:List ef}{s t:fy}{a b:dk}{p q:List b6}{i j:Nat}{x:b6}(h:Dv a6 s t a b p q i j x):Dv a6 t s b a q p j i x:=by
 rcases h.or with⟨h1,h2,c,d⟩|⟨h1,h2,c,d⟩|⟨n,h1,h2,c,d⟩
 .exact⟨a_ (bk ⟨h1.symm,h2,d,c⟩)⟩
 .exact⟨bk ⟨h1.symm,h2,d,c⟩⟩
 exact⟨a_ (a_ ⟨n,h1,h2,d,c⟩)⟩
namespace eS
variable {a6:List ef} {al:List dk} {fs:List Int} (h:eS a6 al fs)
include h
theorem Ej{s:fy}{a:dk}{p:List b6}{i:Nat}(o:oQ a6 al s a p i){n:ef}(c:n∈a6)(hf:rp s n=IN)(d:l_ (hT s) (hF s) (n.2.1,n.2.2)=IN):FF n s a p i:=by
 unfold rp at hf;rw[d,o.first,o.last]at hf;simp only[ax,dt,bD,ab,gb]at hf;rcases hf with⟨x,y⟩|⟨x,y⟩
 .have b:a.2.1=n.1:=by rw[o.eq]at y;exact y
  exact bk ⟨x,b,h.BE o x c b⟩
 have b:a.2.2.1=n.1:=by rw[o.eq]at y;exact y
 exact a_ ⟨x,b,h.Di o x c b⟩
theorem QZ{s t:fy}{a b:dk}{p q:List b6}{i j:Nat}(o:oQ a6 al s a p i)(o':oQ a6 al t b q j)(m:s≠t)(fs':∀n∈a6,rp s n=IN)(C:∀n∈a6,rp t n=IN)(hc:oH s t (mkMap a6 [])=IN)
  (one:∀ {x y:b6},(x=hT s\/x=hF s)->(x=hT t\/x=hF t)->(y=hT s\/y=hF s)->(y=hT t\/y=hF t)->x=y) {x:b6} (f:x=hT s\/x=hF s) (g:x=hT t\/x=hF t):Dv a6 s t a b p q i j x:=by
 have hm:=bn8 (h.x9 o).1 (h.x9 o).2 (h.x9 o').1 (h.x9 o').2 (h.vV o) (h.vV o') f g;unfold oH at hc;simp only at hc;by_cases e:s.1.1=t.1.1
 .rw[mw e]at hc
  simp only[dn]at hc;obtain⟨rfl,rfl⟩:=h.Ou o o' e;have D:s.2=(i:Int):=by rw[o.eq]
  have E:t.2=(j:Int):=by rw[o'.eq]
  have r:s.1.2.1=a.2.1/\s.1.2.2.1=a.2.2.1:=by rw[o.eq];exact⟨rfl,rfl⟩
  have z:t.1.2.1=a.2.1/\t.1.2.2.1=a.2.2.1:=by rw[o'.eq];exact⟨rfl,rfl⟩
  rw[D,E,r.1,r.2,z.1,z.2,o.first,o.last,o'.first,o'.last]at hc;have G:i≠j:=λh=>m (by rw[o.eq,o'.eq,h]);obtain⟨⟨u,m1,lL⟩,_⟩:=h.xb o.nb;by_cases l:(j:Int)<(i:Int)
  .rw[mw l]at hc
   simp only[dn]at hc;by_cases d:(IT ((j:Int)+1=(i:Int))||(IT (a.2.1=a.2.2.1)&&(IT (j=0)&&IT (i+2=p.length))))=IN
   .simp only[bD,ab,gb]at d
    rcases d with d|⟨mj,nh,px⟩
    .have:j+1=i:=by omega
     subst this;have c:hT s=hF t:=aQ (o.rM.symm.trans o'.si);have:=one f g (bk rfl) (a_ c);exact⟨a_ (bk ⟨rfl,rfl,this,this.trans c⟩)⟩
    have f1:=h.BE o' nh m1 lL.symm;have f2:=h.Di o px m1 (mj.symm.trans lL.symm);have:=one f g (a_ rfl) (bk (f2.trans f1.symm));exact⟨a_ (a_ ⟨u,m1,this.trans f2,a_ ⟨px,mj.symm.trans lL.symm,f2⟩,bk ⟨nh,lL.symm,f1⟩⟩)⟩
   grind
  rw[mN l]at hc;simp only[ct]at hc;by_cases d:(IT ((i:Int)+1=(j:Int))||(IT (a.2.1=a.2.2.1)&&(IT (i=0)&&IT (j+2=p.length))))=IN
  .simp only[bD,ab,gb]at d
   rcases d with d|⟨mj,nh,px⟩
   .have:i+1=j:=by omega
    subst this;have c:hF s=hT t:=aQ (o.si.symm.trans o'.rM);have:=one f g (a_ rfl) (bk c);exact⟨bk ⟨rfl,rfl,this,this.trans c⟩⟩
   have f1:=h.BE o nh m1 lL.symm;have f2:=h.Di o' px m1 (mj.symm.trans lL.symm);have:=one f g (bk rfl) (a_ (f1.trans f2.symm));exact⟨a_ (a_ ⟨u,m1,this.trans f1,bk ⟨nh,lL.symm,f1⟩,a_ ⟨px,mj.symm.trans lL.symm,f2⟩⟩)⟩
  grind
 rw[mN e]at hc;simp only[ct]at hc;by_cases v:oZ (hT s) (hF s) (hT t) (hF t)=1
 .rw[mw v]at hc
  simp only[dn]at hc;have key:∀n∈a6,(l_ (hT s) (hF s) (nI (mkMap a6 []) n.1)&&l_ (hT t) (hF t) (nI (mkMap a6 []) n.1))=IN->Dv a6 s t a b p q i j x:=by
   intro n k w;have:nI (mkMap a6 []) n.1=(n.2.1,n.2.2):=by unfold nI;rw[E2 [] (pA h.wK) k];rfl
   rw[this,ab]at w;have c:=h.Ej o k (fs' n k) w.1;have B:=h.Ej o' k (C n k) w.2;exact⟨a_ (a_ ⟨n,k,one f g c.Rk B.Rk,c,B⟩)⟩
  have r:s.1.2.1=a.2.1/\s.1.2.2.1=a.2.2.1:=by rw[o.eq];exact⟨rfl,rfl⟩
  obtain⟨⟨u,m1,lL⟩,H,m2,fa⟩:=h.xb o.nb
  grind
 grind[decide_eq_false]
theorem share{r:List fy}(u:mE a6 al al=U r){s t:fy}(hs:s∈r)(v:t∈r)(d:s≠t){a b:dk}{p q:List b6}{i j:Nat}(o:oQ a6 al s a p i)(o':oQ a6 al t b q j){x:b6}(w:x=hT s\/x=hF s)(z:x=hT t\/x=hF t):Dv a6 s t a b p q i j x:=by
 have hp:=h.C2;unfold uQ at hp;rw[u]at hp;simp only at hp;have B:=yE (uJ r);have l:=q4 (uJ r);have m:(nG pv r).Pairwise (λa b=>oh a<=oh b):=B.imp λ{a b} x=>by unfold pv at x;rw[qu]at x;omega
 obtain⟨g1,g2⟩:=ET m hp;have f:=l.mem_iff.2 hs;have k:=l.mem_iff.2 v;have g3:(nG pv r).Pairwise (λs t=>s=t\/oH s t (mkMap a6 [])=IN\/oH t s (mkMap a6 [])=IN\/yu (hT s) (hF s) (hT t) (hF t)):=g1.imp λ{x y} c=>by
  rcases c with hc|hf
  .exact a_ (bk hc)
  exact a_ (a_ (a_ (bk hf)))
 have g4:=CP (R:=λs t=>s=t\/oH s t (mkMap a6 [])=IN\/oH t s (mkMap a6 [])=IN\/yu (hT s) (hF s) (hT t) (hF t)) (λx y c=>by
  rcases c with c|c|c|c
  .exact bk c.symm
  .grind
  .exact a_ (bk c)
  exact a_ (a_ (a_ c.symm))) (λx=>bk rfl) g3 f k
 have one:=λ{x y:b6}=>(fh r).Ug (h.fm u) hs v d (x:=x) (y:=y);have n:=λ{x y:b6}=>(fh r).Ug (h.fm u) v hs (λe=>d e.symm) (x:=x) (y:=y);rcases g4 with g|g|g|g
 .exact(d g).elim
 .exact h.QZ o o' d (g2 s f) (g2 t k) g one w z
 .exact(h.QZ o' o (λe=>d e.symm) (g2 t k) (g2 s f) g n z w).symm
 exact(Zp w z g).elim
end eS
def Sp{M s t:Int}{v a b:b6}(h1:s*(a.2-v.2)=M*(a.1-v.1))(h2:t*(b.2-v.2)=M*(b.1-v.1)):M*kj v a b=(s-t)*((a.2-v.2)*(b.2-v.2)):=by
 unfold kj;generalize a.2-v.2=A at *;generalize b.2-v.2=B at *;generalize a.1-v.1=x at *;generalize b.1-v.1=y at *;have c:M*(x*B)=s*(A*B):=by rw[<-cU,<-h1,cU]
 have d:M*(A*y)=t*(A*B):=by rw[<-cU,dy M A,cU,<-h2,<-cU,dy A t,cU]
 rw[cP,c,d,<-lp]
def WE{M c d P:Int}(a:0<M)(b:0<P)(h:M*c=d*P):0<c↔0<d:=by
 constructor
 .intro hc
  have:=cH a hc;rw[h,dy]at this;exact bZ this b
 intro e;have:=cH e b;rw[<-h]at this;exact bZ this a
section
variable {ι:Type} (N:Net ι)
def Ks{g:Net.lS ι}(f:g.1∈N.E){v w:b6}(hv:N.src g=v)(hw:N.dst g=w) :
  (N.cls g=0/\v.2=w.2/\v.1<w.1)\/(N.cls g=1/\v.2<w.2/\N.s g.1*(w.2-v.2)=N.M*(w.1-v.1)/\N.X g.1 (v.2+1)=N.M*v.1+N.s g.1) \/
  (N.cls g=2/\v.2=w.2/\w.1<v.1)\/(N.cls g=3/\w.2<v.2/\N.s g.1*(w.2-v.2)=N.M*(w.1-v.1)/\N.X g.1 (v.2-1)=N.M*v.1-N.s g.1):=by
 obtain⟨e,b⟩:=g;have o:=N.ord e f;by_cases hu:N.up e
 .have hs:=N.x' e f hu
  have h:=N.xz f hu;cases b
  .right;right;right
   have c:N.a7 e=v:=hv;have d:N.b5 e=w:=hw;have a:(N.b5 e).2<(N.a7 e).2:=hu;rw[c,d]at hs a;rw[c]at h;refine⟨by simp[Net.cls,hu],a,?_,?_⟩
   .have i:N.s e*(w.2-v.2)=- (N.s e*(v.2-w.2)):=by rw[<-ez];congr 1;omega
    have a2:N.M*(w.1-v.1)=- (N.M*(v.1-w.1)):=by rw[<-ez];congr 1;omega
    show N.s e*(w.2-v.2)=_;omega
   show N.X e (v.2-1)=_;rw[<-h];show N.M*(N.b5 e).1+N.s e*(v.2-1-(N.b5 e).2)=N.M*(N.b5 e).1+N.s e*(v.2-(N.b5 e).2)-N.s e;have:N.s e*(v.2-1-(N.b5 e).2)=N.s e*(v.2-(N.b5 e).2)-N.s e:=by
    have:v.2-1-(N.b5 e).2=(v.2-(N.b5 e).2)-1:=by omega
    rw[this,cP,gh]
   omega
  right;left;have c:N.b5 e=v:=hv;have d:N.a7 e=w:=hw;have a:(N.b5 e).2<(N.a7 e).2:=hu;rw[c,d]at hs a;refine⟨by simp[Net.cls,hu],a,hs,?_⟩;show N.X e (v.2+1)=_;unfold Net.X;rw[c,show v.2+1-v.2=1 by omega,gh]
 have a:¬(N.b5 e).2<(N.a7 e).2:=hu;cases b
 .right;right;left
  have c:N.a7 e=v:=hv;have d:N.b5 e=w:=hw;rw[c,d]at o a;exact⟨by simp[Net.cls,hu],by omega,by omega⟩
 left;have c:N.b5 e=v:=hv;have d:N.a7 e=w:=hw;rw[c,d]at o a;exact⟨by simp[Net.cls,hu],by omega,by omega⟩
def bn4{g h:Net.lS ι}(m:g.1∈N.E)(n:h.1∈N.E){v a b:b6}(g1:N.src g=v)(g2:N.dst g=a)(h1:N.src h=v)(h2:N.dst h=b)(p:fc v=IN)(q:fc a=IN)(pY:fc b=IN) :
  qb v a b=IN↔N.mo v.2 g h:=by
 have i:mz a v=IS:=by rw[<-dS,pR];rintro rfl;rcases Ks N m g1 g2 with x|x|x|x<;>omega
 have j:mz b v=IS:=by rw[<-dS,pR];rintro rfl;rcases Ks N n h1 h2 with x|x|x|x<;>omega
 have key:qb v a b=if oX v a=oX v b then IT (0<kj v a b)else oX v b:=by unfold qb;simp[p,q,pY,i,j]
 rw[key];unfold Net.mo;have o:=N.oC;rcases Ks N m g1 g2 with⟨c1,k,e⟩|⟨c1,k,e,ni⟩|⟨c1,k,e⟩|⟨c1,k,e,ni⟩<;>rcases Ks N n h1 h2 with⟨c2,l,f⟩|⟨c2,l,f,z2⟩|⟨c2,l,f⟩|⟨c2,l,f,z2⟩
 all_goals
  have c:oX v a=IT (a.2<v.2\/(a.2=v.2/\a.1<v.1)):=by unfold oX;simp
  have d:oX v b=IT (b.2<v.2\/(b.2=v.2/\b.1<v.1)):=by unfold oX;simp
 case inl.inl=>rw[mN (by omega)]at c d;rw[c,d,b9 rfl,gb];unfold kj;rw[show a.2-v.2=0 by omega,show b.2-v.2=0 by omega,eh,d_];omega
 case inl.inr.inl=>rw[mN (by omega)]at c d;rw[c,d,b9 rfl,gb];unfold kj;rw[show a.2-v.2=0 by omega,eh];have:=cH (show 0<a.1-v.1 by omega) (show 0<b.2-v.2 by omega);omega
 case inr.inl.inl=>rw[mN (by omega)]at c d;rw[c,d,b9 rfl,gb];unfold kj;rw[show b.2-v.2=0 by omega,d_];have:=cH (show 0<a.2-v.2 by omega) (show 0<b.1-v.1 by omega);omega
 case inr.inl.inr.inl=>rw[mN (by omega)]at c d;rw[c,d,b9 rfl,gb,WE o (cH (show 0<a.2-v.2 by omega) (show 0<b.2-v.2 by omega)) (Sp e f)];omega
 case inr.inr.inl.inr.inr.inl=>rw[mw (by omega)]at c d;rw[c,d,b9 rfl,gb];unfold kj;rw[show a.2-v.2=0 by omega,show b.2-v.2=0 by omega,eh,d_];omega
 case inr.inr.inl.inr.inr.inr=>rw[mw (by omega)]at c d;rw[c,d,b9 rfl,gb];unfold kj;rw[show a.2-v.2=0 by omega,eh];have:=eb (show a.1-v.1<0 by omega) (show b.2-v.2<0 by omega);omega
 case inr.inr.inr.inr.inr.inl=>rw[mw (by omega)]at c d;rw[c,d,b9 rfl,gb];unfold kj;rw[show b.2-v.2=0 by omega,d_];have:=eb (show a.2-v.2<0 by omega) (show b.1-v.1<0 by omega);omega
 case inr.inr.inr.inr.inr.inr=>rw[mw (by omega)]at c d;rw[c,d,b9 rfl,gb,WE o (eb (show a.2-v.2<0 by omega) (show b.2-v.2<0 by omega)) (Sp e f)];omega
 all_goals first
  | (rw[mN (by omega)]at c;rw[mw (by omega)]at d;rw[c,d];simp only[aq,j2,true_iff];(first|rw[b8 (by simp)]|skip);omega)
  | (rw[mw (by omega)]at c;rw[mN (by omega)]at d;rw[c,d,b8 (by simp)];simp only[aq,false_iff];omega)
end
namespace Ld
variable {ι:Type} {N:Net ι} (hP:N.PY)
include hP
theorem QU{g h:Net.lS ι}(k:g.1∈N.E)(l:h.1∈N.E){v:b6}(g1:N.src g=v)(h1:N.src h=v)(r:g≠h):N.mo v.2 g h\/N.mo v.2 h g:=by
 rcases Nat.lt_trichotomy (N.cls g) (N.cls h)with c|c|c
 .exact bk (bk c)
 .have f:g.1=h.1->False:=by intro e;obtain⟨a,s⟩:=g;obtain⟨d,t⟩:=h;simp only at e;subst e;unfold Net.cls at c;by_cases hu:N.up a<;>cases s<;>cases t<;>simp[hu]at c<;>exact r rfl
  have key:∀b:Bool,g.2=b->h.2=b->N.up g.1->N.up h.1->(b=IN->N.X g.1 (v.2+1)≠N.X h.1 (v.2+1))/\(b=IS->N.X g.1 (v.2-1)≠N.X h.1 (v.2-1)):=by
   intro b w z B C;have o:(N.b5 g.1).2<(N.a7 g.1).2:=B;have p:(N.b5 h.1).2<(N.a7 h.1).2:=C;constructor
   .intro e u
    subst e;have s1:N.b5 g.1=v:=by unfold Net.src at g1;rw[w]at g1;exact g1
    have s2:N.b5 h.1=v:=by unfold Net.src at h1;rw[z]at h1;exact h1
    refine f (hP.apart g.1 k h.1 l v.2 ⟨by rw[s1];exact bJ _,by rw[<-s1];exact o⟩ ⟨by rw[s2];exact bJ _,by rw[<-s2];exact p⟩ ?_ u);have q:=N.uO g.1;have a2:=N.uO h.1;rw[s1]at q;rw[s2]at a2;rw[q,a2]
   intro e u;subst e;have s1:N.a7 g.1=v:=by unfold Net.src at g1;rw[w]at g1;exact g1
   have s2:N.a7 h.1=v:=by unfold Net.src at h1;rw[z]at h1;exact h1
   rw[s1]at o;rw[s2]at p;refine f (hP.apart g.1 k h.1 l (v.2-1) ⟨by omega,by rw[s1];omega⟩ ⟨by omega,by rw[s2];omega⟩ u ?_);have q:=N.xz k B;have a2:=N.xz l C;rw[s1]at q;rw[s2]at a2;rw[show v.2-1+1=v.2 by omega,q,a2]
  obtain⟨a,s⟩:=g;obtain⟨d,t⟩:=h;by_cases i:N.up a<;>by_cases j:N.up d<;>cases s<;>cases t<;>simp[Net.cls,i,j]at c
  .have:=(key IS rfl rfl i j).2 rfl
   have c1:N.cls (a,IS)=3:=by simp[Net.cls,i]
   have c2:N.cls (d,IS)=3:=by simp[Net.cls,j]
   rcases jJ this with x|x
   .exact bk (a_ (a_ ⟨c1,c2,x⟩))
   exact a_ (a_ (a_ ⟨c2,c1,x⟩))
  .have:=(key IN rfl rfl i j).1 rfl
   have c1:N.cls (a,IN)=1:=by simp[Net.cls,i]
   have c2:N.cls (d,IN)=1:=by simp[Net.cls,j]
   rcases jJ this with x|x
   .exact a_ (a_ (bk ⟨c2,c1,x⟩))
   exact bk (a_ (bk ⟨c1,c2,x⟩))
  .exfalso
   have s1:N.a7 a=v:=g1;have s2:N.a7 d=v:=h1;have o1:=N.ord a k;have o2:=N.ord d l;have m:¬(N.b5 a).2<(N.a7 a).2:=i;have n:¬(N.b5 d).2<(N.a7 d).2:=j;rw[s1]at o1 m;rw[s2]at o2 n;exact f (hP.rE a k d l i j (by omega) (by rw[s2];omega) (by rw[s1];omega))
  exfalso;have s1:N.b5 a=v:=g1;have s2:N.b5 d=v:=h1;have o1:=N.ord a k;have o2:=N.ord d l;have m:¬(N.b5 a).2<(N.a7 a).2:=i;have n:¬(N.b5 d).2<(N.a7 d).2:=j;rw[s1]at o1 m;rw[s2]at o2 n;exact f (hP.rE a k d l i j (by rw[s1,s2]) (by rw[s1];omega) (by rw[s2];omega))
 exact a_ (bk c)
end Ld
def na(s:fy):Net.lS fy:=(s,(fh []).fwd s)
def m_(s:fy):Net.lS fy:=(s,!(fh []).fwd s)
section
variable {r:List fy} (cu:(fh r).Ok)
theorem y8(s:fy):((fh r).dC cu).src (na s)=hT s:=by show(bif (fh []).fwd s then(fh r).b5 s else(fh r).a7 s)=_;unfold pk.b5 pk.a7;show(bif (fh r).fwd s then _ else _)=_;cases(fh r).fwd s<;>rfl
def Fu(s:fy):((fh r).dC cu).dst (na s)=hF s:=by show(bif (fh []).fwd s then(fh r).a7 s else(fh r).b5 s)=_;unfold pk.b5 pk.a7;show(bif (fh r).fwd s then _ else _)=_;cases(fh r).fwd s<;>rfl
theorem zi(s:fy):((fh r).dC cu).src (m_ s)=hF s:=by show(bif !(fh []).fwd s then(fh r).b5 s else(fh r).a7 s)=_;unfold pk.b5 pk.a7;show(bif !(fh r).fwd s then _ else _)=_;cases(fh r).fwd s<;>rfl
def Fz(s:fy):((fh r).dC cu).dst (m_ s)=hT s:=by show(bif !(fh []).fwd s then(fh r).a7 s else(fh r).b5 s)=_;unfold pk.b5 pk.a7;show(bif !(fh r).fwd s then _ else _)=_;cases(fh r).fwd s<;>rfl
theorem xK(h:Net.lS fy):h=na h.1\/h=m_ h.1:=by obtain⟨s,b⟩:=h;unfold na m_;cases b<;>cases(fh []).fwd s<;>simp
theorem Po(s:fy):Net.rev (na s)=m_ s:=rfl
theorem O7(s:fy):Net.rev (m_ s)=na s:=by unfold Net.rev m_ na;simp
end
def vv{a:dk}{l:List b6}{i:Nat}(a7:i+1<l.length):(mi a l,(i:Int))∈pV a l:=by unfold pV;exact aP.2 ⟨i,kx.2 (by omega),rfl⟩
def uL{a6:List ef}{al:List dk}:∀ {l:List dk} {r:List fy},mE a6 al l=U r->∀a∈l,∀p,pathOf a6 al a.1=U p->∀s∈pV a p,s∈r
 | [],r,h,a,ha=>by simp at ha
 |b::l,r,h,a,ha=>by
  intro p hp s hs;unfold mE at h;split at h
  .cases h
  rename_i q d;cases hc:((IT (b.2.1=b.2.2.1)&&IT (q.length<4))||!(re q))with
  |true=>rw[hc]at h;cases h
  |false=>
   rw[hc]at h;simp only[ct]at h;split at h
   next e c=>
    cases h;rcases aI.1 ha with rfl|ha
    .rw[hp]at d
     cases d;exact bX _ hs
    exact cC _ (uL c a ha p hp s hs)
   cases h
def lY(a6:List ef)(al:List dk)(d:Int):Net.lS fy:=match qC al (lN d),pathOf a6 al (lN d)with
 |some a,U p=>if 0<d then na (mi a p,((0:Nat):Int))else m_ (mi a p,((p.length-2:Nat):Int))
 |_,_=>default
theorem O9{a b x:b6}(ha:fc a=IN)(d:fc b=IN)(c:x=a\/x=b):l_ a b x=IN:=by
 have hc:kj a b x=0:=by
  rcases c with rfl|rfl
  .exact W3 _ _
  exact WQ _ _
 have e:fc x=IN:=by rcases c with rfl|rfl<;>assumption
 unfold l_ sU;simp only[ha,d,e,hc,e_,dX,lV,ab,gb];rcases c with rfl|rfl<;>omega
theorem Od{s t:fy}(e:na s=na t):s=t:=mP jB e
theorem N9{s t:fy}(e:m_ s=m_ t):s=t:=mP jB e
theorem AN{s t:fy}:na s≠m_ t:=by intro e;have h1:s=t:=mP jB e;subst h1;have h2:(fh []).fwd s=!(fh []).fwd s:=mP Prod.snd e;cases h:(fh []).fwd s<;>rw[h]at h2<;>cases h2
namespace eS
variable {a6:List ef} {al:List dk} {fs:List Int} (h:eS a6 al fs)
include h
theorem p7{a:dk}(ha:a∈al):0<a.1:=by have:=ak.1 h.Iv a.1 (aC ha);unfold qp at this;simp only[ab,gb]at this;omega
theorem AY{a:dk}(ha:a∈al){q:List b6}(b:pathOf a6 al a.1=U q):lY a6 al a.1=na (mi a q,((0:Nat):Int)):=by
 have hp:=h.p7 ha;have e:lN a.1=a.1:=by unfold lN;omega
 unfold lY;rw[e,h.vA ha,b];simp only[hp,jj]
theorem CD{a:dk}(ha:a∈al){q:List b6}(b:pathOf a6 al a.1=U q):lY a6 al (-a.1)=m_ (mi a q,((q.length-2:Nat):Int)):=by
 have hp:=h.p7 ha;have e:lN (-a.1)=a.1:=by unfold lN;omega
 unfold lY;rw[e,h.vA ha,b];simp only;rw[b8 (by omega)]
theorem FD{a:dk}(ha:a∈al){q:List b6}(c:pathOf a6 al a.1=U q):2<=q.length:=by obtain⟨f,t,_,_,b,_⟩:=h.path ha;rw[c]at b;cases b;simp
variable {r:List fy} (hr:mE a6 al al=U r)
include hr
theorem free{s:fy}(hs:s∈r):∀n∈a6,rp s n=IN:=by
 have hp:=h.C2;unfold uQ at hp;rw[hr]at hp;simp only at hp;have d:=yE (uJ r);have c:(nG pv r).Pairwise (λa b=>oh a<=oh b):=d.imp λ{a b} x=>by unfold pv at x;rw[qu]at x;omega
 exact(ET c hp).2 s ((q4 (uJ r)).mem_iff.2 hs)
theorem tx{n:ef}(c:n∈a6){d:Int}(i:d∈l2 a6 al n):(lY a6 al d).1∈r/\((fh r).dC (h.fm hr)).src (lY a6 al d)=(n.2.1,n.2.2) /\
  ((fh r).dC (h.fm hr)).dst (lY a6 al d)=nI (sR [] (rj a6 al n.1 al)) d/\∃a∈al,∃q,pathOf a6 al a.1=U q/\((d=a.1/\lY a6 al d=na (mi a q,((0:Nat):Int)))\/(d=-a.1/\lY a6 al d=m_ (mi a q,((q.length-2:Nat):Int)))):=by
 rw[(h.wJ c).mem_iff]at i;obtain⟨p,hp,rfl⟩:=aP.1 i;have f:nI (sR [] (rj a6 al n.1 al)) p.1=p.2:=by unfold nI;rw[Lr _ [] (h.F8 n.1 (λ_ ha=>ha) (pA h.tz)) p hp];rfl
 rw[f];obtain⟨a,ha,q,b,hc⟩:=h.J6 (λ_ ha=>ha) hp;have hl:=h.FD ha b;rcases hc with⟨e,rfl⟩|⟨e,rfl⟩
 .have hm:(mi a q,((0:Nat):Int))∈r:=uL hr a ha q b _ (vv (by omega))
  have o:oQ a6 al (mi a q,((0:Nat):Int)) a q 0:=⟨ha,b,by omega,rfl⟩;have g:=h.AY ha b;simp only[g];refine⟨hm,?_,?_,a,ha,q,b,bk ⟨rfl,rfl⟩⟩
  .rw[y8];exact h.BE o rfl c e
  rw[Fu];rfl
 have hm:(mi a q,((q.length-2:Nat):Int))∈r:=uL hr a ha q b _ (vv (by omega));have o:oQ a6 al (mi a q,((q.length-2:Nat):Int)) a q (q.length-2):=⟨ha,b,by omega,rfl⟩;have g:=h.CD ha b;simp only[g];refine⟨hm,?_,?_,a,ha,q,b,a_ ⟨rfl,rfl⟩⟩
 .rw[zi];exact h.Di o (by omega) c e
 rw[Fz];rfl
theorem QS{n:ef}(g:n∈a6):Net.BN ((fh r).dC (h.fm hr)) (n.2.1,n.2.2) ((l2 a6 al n).map (lY a6 al)):=by
 have m:(l2 a6 al n).Nodup:=(h.wJ g).nodup_iff.2 (h.F8 n.1 (λ_ ha=>ha) (pA h.tz));have inj:∀d∈l2 a6 al n,∀e∈l2 a6 al n,lY a6 al d=lY a6 al e->d=e:=by
  intro d k e he f;obtain⟨_,_,_,a,ha,q,D,c⟩:=h.tx hr g k;obtain⟨_,_,_,b,E,G,B,c'⟩:=h.tx hr g he;rcases c with⟨rfl,f1⟩|⟨rfl,f1⟩<;>rcases c' with⟨rfl,f2⟩|⟨rfl,f2⟩<;>rw[f1,f2]at f
  .have:=mP (λs:fy=>s.1.1) (Od f);exact this
  .exact lH f AN
  .exact lH f.symm AN
  have:a.1=b.1:=mP (λs:fy=>s.1.1) (N9 f);rw[this]
 constructor
 .intro hf
  constructor
  .intro hm
   obtain⟨d,k,rfl⟩:=aP.1 hm;have:=h.tx hr g k;exact⟨this.1,this.2.1⟩
  rintro ⟨h1,h2⟩;have l:hf.1∈r:=h1;obtain⟨a,p,i,o⟩:=h.sj hr l;have j:=h.x9 o;have mk:∀d,d∈(nY a6 al n.1 a).map (·.1)->d∈l2 a6 al n:=λd t=>by rw[(h.wJ g).mem_iff];obtain⟨x,C,e⟩:=aP.1 t;exact e▸aC (cY.2 ⟨a,o.nb,C⟩)
  rcases xK hf with e|e
  .rw[e,y8]at h2
   rcases h.Ej o g (h.free hr l n g) (O9 j.1 j.2 (bk h2.symm))with⟨i0,u,_⟩|⟨_,_,v⟩
   .refine aP.2 ⟨a.1,mk _ ?_,?_⟩
    .unfold nY;rw[o.path];simp[u]
    rw[h.AY o.nb o.path,e,o.eq,i0]
   exact lH (h2.trans v.symm) (h.vV o)
  rw[e,zi]at h2;rcases h.Ej o g (h.free hr l n g) (O9 j.1 j.2 (a_ h2.symm))with⟨_,_,v⟩|⟨i0,u,_⟩
  .exact lH (v.trans h2.symm) (h.vV o)
  refine aP.2 ⟨-a.1,mk _ ?_,?_⟩
  .unfold nY;rw[o.path];simp[u]
  rw[h.CD o.nb o.path,e,o.eq,<-i0];rfl
 .exact ch.2 (m.imp_of_mem λ{d e} k he w f=>w (inj d k e he f))
 have hs:=yE (h.Lz (h.x3 g) g);refine ch.2 ((hs.and m).imp_of_mem λ{d e} k he f=>?_);obtain⟨m1,s1,t1,_⟩:=h.tx hr g k;obtain⟨m2,s2,t2,_⟩:=h.tx hr g he;rcases Ld.QU ((fh r).tM (h.fm hr)) m1 m2 s1 s2 (λx=>f.2 (inj d k e he x))with b|b
 .exact b
 exfalso;refine f.1 ?_;have z:∀ {hf:Net.lS fy},hf.1∈r->fc (((fh r).dC (h.fm hr)).dst hf)=IN:=λ{hf} hm=>by
  obtain⟨a,p,i,o⟩:=h.sj hr hm;have:=h.x9 o;rcases xK hf with e|e
  .rw[e,Fu];exact this.2
  rw[e,Fz];exact this.1
 have:=(bn4 ((fh r).dC (h.fm hr)) m2 m1 s2 t2 s1 t1 (vl (h.Ir g)) (t2▸z m2) (t1▸z m1)).2 b;unfold zQ;rw[b9 this];omega
end eS
section
variable {ι:Type} {N:Net ι} (hP:N.PY)
include hP
theorem UN{v:b6}{g h:Net.lS ι}(a:g≠h)(mem:∀k:Net.lS ι,(k.1∈N.E/\N.src k=v)↔(k=g\/k=h)){d:ι->Int}(c:N.qO d):N.L d h=N.L d (Net.rev g):=by
 have e:=(mem g).2 (bk rfl);have f:=(mem h).2 (a_ rfl);rcases Ld.QU hP e.1 f.1 e.2 f.2 a with b|b
 .have ha:Net.BN N v [g,h]:=by
   refine⟨λk=>?_,?_,?_⟩
   .rw[mem];simp
   .simp[a]
   simp[b]
  exact Net.La hP c ha (i:=0) (by simp)
 have ha:Net.BN N v [h,g]:=by
  refine⟨λk=>?_,?_,?_⟩
  .rw[mem];simp[or_comm]
  .simp[Ne.symm a]
  simp[b]
 have:=Net.La hP c ha (i:=1) (by simp);simpa using this
end
namespace eS
variable {a6:List ef} {al:List dk} {fs:List Int} (h:eS a6 al fs)
variable {r:List fy} (hr:mE a6 al al=U r)
include h hr
theorem af7{a:dk}{p:List b6}{i:Nat}{s t:fy}(o:oQ a6 al s a p i)(o':oQ a6 al t a p (i+1))(k:Net.lS fy) :
  (k.1∈r/\((fh r).dC (h.fm hr)).src k=hF s)↔(k=m_ s\/k=na t):=by
 have hs:s∈r:=by rw[o.eq];exact uL hr a o.nb p o.path _ (vv o.at')
 have v:t∈r:=by rw[o'.eq];exact uL hr a o'.nb p o'.path _ (vv o'.at')
 have l4:hF s=hT t:=aQ (o.si.symm.trans o'.rM);constructor
 .rintro ⟨l,d⟩
  by_cases f:k.1=s
  .rcases xK k with e|e
   .rw[e,y8,f]at d
    exact lH d (h.vV o)
   rw[f]at e;exact bk e
  by_cases g:k.1=t
  .rcases xK k with e|e
   .rw[g]at e;exact a_ e
   rw[e,zi,g,l4]at d;exact lH d.symm (h.vV o')
  exfalso;obtain⟨b,q,j,u⟩:=h.sj hr l;have w:hF s=hT k.1\/hF s=hF k.1:=by
   rcases xK k with e|e
   .rw[e,y8]at d;exact bk d.symm
   rw[e,zi]at d;exact a_ d.symm
  rcases(h.share hr hs l (λe=>f e.symm) o u (a_ rfl) w).or with⟨rfl,c,_⟩|⟨_,_,c,_⟩|⟨n,_,c,c1,_⟩
  .have m:=u.path
   rw[o.path]at m;cases m;exact g (by rw[u.eq,o'.eq,c])
  .exact h.vV o c.symm
  rcases c1 with⟨_,_,c1⟩|⟨c1,_⟩
  .exact h.vV o (c1.trans c.symm)
  have:=o'.at';omega
 rintro (rfl|rfl)
 .exact⟨hs,zi _ _⟩
 exact⟨v,(y8 _ _).trans l4.symm⟩
theorem S5{a:dk}{p:List b6}{i:Nat}{s t:fy}(o:oQ a6 al s a p i)(o':oQ a6 al t a p (i+1)){d:fy->Int}(c:((fh r).dC (h.fm hr)).qO d) :
  ((fh r).dC (h.fm hr)).L d (na t)=((fh r).dC (h.fm hr)).L d (na s)/\((fh r).dC (h.fm hr)).L d (m_ s)=((fh r).dC (h.fm hr)).L d (m_ t):=by
 have f:=(fh r).tM (h.fm hr);have m:=h.af7 hr o o';have b:m_ s≠na t:=λe=>AN e.symm;constructor
 .have:=UN f b m c
  rw[O7]at this;exact this
 have:=UN f b.symm (λk=>(m k).trans Or.comm) c;rw[Po]at this;exact this
end eS
def HE{l:List Int}(a:l.Nodup){i:Nat}(a7:i<l.length):pf l l[i]=l[(i+l.length-1)%l.length]'(gV _ (by omega)):=by
 have hm:l[i]∈l:=au a7;have e:l.idxOf l[i]=i:=by have h1:l.idxOf l[i]<l.length:=List.idxOf_lt_length_iff.2 hm;have h2:l[l.idxOf l[i]]=l[i]:=List.getElem_idxOf h1;exact(dL a).1 h2
 unfold pf;rw[b9 hm,e,ae (gV _ (by omega))];rfl
def LY(l:List Int):∀(x:List Int) (m:List (Int×Int)) (d:Int),ff fx (-d) (x.foldl (λm d=>k7 (λ(a b:Int)=>IT (a=b)) (-d) (pf l d) m) m)=if d∈x then U (pf l d)else ff fx (-d) m
 | [],m,d=>by simp
 |y::x,m,d=>by
  have c:=LY l x (k7 fx (-y) (pf l y) m) d;show ff fx (-d) (x.foldl _ (k7 fx (-y) (pf l y) m))=_;rw[c,sL];by_cases h1:d∈x
  .rw[b9 h1,b9 (bB _ h1)]
  rw[b8 h1];by_cases h2:d=y
  .subst h2
   rw[b9 rfl,b9 (cn ..)]
  rw[b8 (by omega),b8 (by simp[h1,h2])]
def Sh{d:Int}{l:List Int}(j:d∈l):∀(L:List (List Int)) (m:List (Int×Int)),l∈L->(∀k∈L,d∈k->k=l)->ff fx (-d) (xc L m)=U (pf l d)
 | [],m,hl,_=>by simp at hl
 |k::L,m,hl,hu=>by
  show ff fx (-d) (xc L (AZ k m))=_;by_cases g:l∈L
  .exact Sh j L _ g (λa hk=>hu a (by simp[hk]))
  have hk:k=l:=by
   rcases aI.1 hl with e|e
   .exact e.symm
   exact(g e).elim
  subst hk;have no:∀a∈L,d∉a:=λa hk h=>g (by have:=hu a (by simp[hk]) h;exact this▸hk);have rest:∀(b:List (List Int)) (c:List (Int×Int)),(∀a∈b,d∉a)->ff fx (-d) (xc b c)=ff fx (-d) c:=by
   intro b
   induction b with
   |nil=>intro c _;rfl
   |cons a b n=>intro c f;show ff fx (-d) (xc b (AZ a c))=_;rw[n _ (λi hk=>f i (by simp[hk]))];unfold AZ;rw[LY,b8 (f a (by simp))]
  rw[rest L _ no];unfold AZ;rw[LY,b9 j]
def wc(k:Net.lS fy):Bool:=k.2==(fh []).fwd k.1
theorem vD(s:fy):wc (na s)=IN:=by unfold wc na;simp
theorem uT(s:fy):wc (m_ s)=IS:=by unfold wc m_;cases(fh []).fwd s<;>rfl
def k5(k:Net.lS fy):Int:=if wc k=IN then k.1.1.1 else-k.1.1.1
def oe(a6:List ef)(al:List dk)(k:Net.lS fy):Net.lS fy :=
 if wc k=IN then
  (if k.1.2.toNat+2<k.1.1.path.length then na (k.1.1,((k.1.2.toNat+1:Nat):Int))else lY a6 al (eS.mC a6 al k.1.1.1))else(if 0<k.1.2.toNat then m_ (k.1.1,((k.1.2.toNat-1:Nat):Int))else lY a6 al (eS.mC a6 al (- k.1.1.1)))
namespace eS
variable {a6:List ef} {al:List dk} {fs:List Int} (h:eS a6 al fs)
include h
theorem su{n:ef}(d:n∈a6){e:Int}:e∈l2 a6 al n↔∃a∈al,(a.2.1=n.1/\e=a.1)\/(a.2.2.1=n.1/\e=-a.1):=by
 rw[(h.wJ d).mem_iff];constructor
 .intro he
  obtain⟨p,hp,rfl⟩:=aP.1 he;obtain⟨a,ha,q,j,hc⟩:=h.J6 (λ_ ha=>ha) hp;rcases hc with⟨e,rfl⟩|⟨e,rfl⟩
  .exact⟨a,ha,bk ⟨e,rfl⟩⟩
  exact⟨a,ha,a_ ⟨e,rfl⟩⟩
 rintro ⟨a,ha,hc⟩;obtain⟨f,t,h1,h2,g,_⟩:=h.path ha;have mk:e∈(nY a6 al n.1 a).map (·.1)->e∈(rj a6 al n.1 al).map (·.1):=λb=>by obtain⟨x,i,e⟩:=aP.1 b;exact e▸aC (cY.2 ⟨a,ha,i⟩)
 apply mk;unfold nY;rw[g];rcases hc with⟨c,rfl⟩|⟨c,rfl⟩<;>simp[c]
theorem xB{a b:dk}(ha:a∈al)(c:b∈al)(e:a.1=b.1):a=b:=by have h1:=h.vA ha;rw[e,h.vA c]at h1;exact(aQ h1).symm
theorem Tz{a b:ef}(ha:a∈a6)(c:b∈a6)(e:a.1=b.1):a=b:=by have h1:=h.x3 ha;rw[e,h.x3 c]at h1;exact(aQ h1).symm
theorem Cb{n m:ef}(d:n∈a6)(hm:m∈a6){e:Int}(h1:e∈l2 a6 al n)(h2:e∈l2 a6 al m):n=m:=by
 obtain⟨a,ha,c⟩:=(h.su d).1 h1;obtain⟨b,f,c'⟩:=(h.su hm).1 h2;have mb:=h.p7 ha;have mn:=h.p7 f;rcases c with⟨c,rfl⟩|⟨c,rfl⟩<;>rcases c' with⟨c',e⟩|⟨c',e⟩
 .have:=h.xB ha f e;subst this;exact h.Tz d hm (c.symm.trans c')
 .omega
 .omega
 have:=h.xB ha f (by omega);subst this;exact h.Tz d hm (c.symm.trans c')
theorem xa{n:ef}(b:n∈a6){e:Int}(he:e∈l2 a6 al n):mC a6 al (-e)=pf (l2 a6 al n) e:=by
 unfold mC Gr;rw[Sh he (wI a6 al) [] (aC b) (λk hk a=>by
  obtain⟨m,hm,rfl⟩:=aP.1 hk;rw[h.Cb b hm he a])]
 rfl
theorem Eh{n:ef}(a:n∈a6):(l2 a6 al n).Nodup:=(h.wJ a).nodup_iff.2 (h.F8 n.1 (λ_ ha=>ha) (pA h.tz))
variable {r:List fy} (hr:mE a6 al al=U r)
include hr
theorem S6{n:ef}(a:n∈a6){e:Int}(he:e∈l2 a6 al n){d:fy->Int}(c:((fh r).dC (h.fm hr)).qO d) :
  ((fh r).dC (h.fm hr)).L d (lY a6 al (mC a6 al (-e)))=((fh r).dC (h.fm hr)).L d (Net.rev (lY a6 al e)):=by
 obtain⟨i,a7,rfl⟩:=aH he;have ha:=h.QS hr a;have b:=Net.La ((fh r).tM (h.fm hr)) c ha (i:=i) (by simpa using a7);simp only[cK,aF]at b;rw[h.xa a he,HE (h.Eh a) a7];exact b
theorem Bl{k:Net.lS fy}(hk:k.1∈r):(oe a6 al k).1∈r/\((fh r).dC (h.fm hr)).src (oe a6 al k)=((fh r).dC (h.fm hr)).dst k /\
  (∀d,((fh r).dC (h.fm hr)).qO d->((fh r).dC (h.fm hr)).L d (oe a6 al k)=((fh r).dC (h.fm hr)).L d k) /\
  ((k5 (oe a6 al k)=k5 k)\/(oe a6 al k=lY a6 al (mC a6 al (k5 k)))):=by
 obtain⟨a,p,i,o⟩:=h.sj hr hk;have v:=o.at';have s:k.1.2.toNat=i:=by rw[o.eq];simp
 have n:k.1.1=mi a p:=by rw[o.eq]
 have w:k.1.1.path=p:=by rw[n];rfl
 have l:k.1.1.1=a.1:=by rw[n];rfl
 obtain⟨⟨t,m1,lL⟩,u,m2,fa⟩:=h.xb o.nb;have hl:=h.FD o.nb o.path;rcases xK k with e|e
 .have f:wc k=IN:=by rw[e];exact vD _
  unfold oe;rw[b9 f,s,w,l];by_cases a7:i+2<p.length
  .rw[b9 a7,n]
   have o':oQ a6 al (mi a p,((i+1:Nat):Int)) a p (i+1):=⟨o.nb,o.path,by omega,rfl⟩;refine⟨uL hr a o.nb p o.path _ (vv (by omega)),?_,λd g=>?_,bk ?_⟩
   .rw[y8,e,Fu]
    exact aQ (o'.rM.symm.trans o.si)
   .have:=(h.S5 hr o o' g).1
    rw[this,<-e]
   unfold k5;rw[vD,f,b9 rfl,b9 rfl];exact l.symm
  rw[b8 a7];have b:-a.1∈l2 a6 al u:=(h.su m2).2 ⟨a,o.nb,a_ ⟨fa.symm,rfl⟩⟩;have c:=h.xa m2 b;rw[dM]at c;have j:mC a6 al a.1∈l2 a6 al u:=by rw[c];exact Cm b
  have m:=h.tx hr m2 j;have hf:=h.CD o.nb o.path;have es:k.1=(mi a p,((p.length-2:Nat):Int)):=by rw[o.eq,show i=p.length-2 by omega]
  refine⟨m.1,?_,λd g=>?_,a_ ?_⟩
  .rw[m.2.1,e,Fu]
   exact(h.Di o (by omega) m2 fa.symm).symm
  .have:=h.S6 hr m2 b g
   rw[dM,hf,O7,<-es,<-e]at this;exact this
  unfold k5;rw[f,b9 rfl,l]
 have f:wc k=IS:=by rw[e];exact uT _
 have q:¬wc k=IN:=by rw[f];simp
 unfold oe;rw[b8 q,s,l];by_cases a7:0<i
 .rw[b9 a7,n]
  have o':oQ a6 al (mi a p,((i-1:Nat):Int)) a p (i-1):=⟨o.nb,o.path,by omega,rfl⟩;have o2:oQ a6 al k.1 a p (i-1+1):=⟨o.nb,o.path,by omega,by rw[show i-1+1=i by omega];exact o.eq⟩;refine⟨uL hr a o.nb p o.path _ (vv (by omega)),?_,λd g=>?_,bk ?_⟩
  .rw[zi,e,Fz]
   exact aQ (o'.si.symm.trans o2.rM)
  .have:=(h.S5 hr o' o2 g).2
   rw[this,<-e]
  unfold k5;rw[uT,f,b8 (by simp),b8 (by simp),l];rfl
 rw[b8 a7];have b:a.1∈l2 a6 al t:=(h.su m1).2 ⟨a,o.nb,bk ⟨lL.symm,rfl⟩⟩;have c:=h.xa m1 b;have j:mC a6 al (-a.1)∈l2 a6 al t:=by rw[c];exact Cm b
 have m:=h.tx hr m1 j;have hf:=h.AY o.nb o.path;have es:k.1=(mi a p,((0:Nat):Int)):=by rw[o.eq,show i=0 by omega]
 refine⟨m.1,?_,λd g=>?_,a_ ?_⟩
 .rw[m.2.1,e,Fz]
  exact(h.BE o (by omega) m1 lL.symm).symm
 .have:=h.S6 hr m1 b g
  rw[hf,Po,<-es,<-e]at this;exact this
 unfold k5;rw[f,b8 (by simp),l]
end eS
def WU{α:Type}[DecidableEq α]:∀ {l m:List α},l.Nodup->(∀x∈l,x∈m)->m.length<=l.length->∀x∈m,x∈l
 | [],m,_,_,h,x,b=>by grind[iL]
 |a::l,m,d,hs,h,x,b=>by
  rw[cF]at d;by_cases e:x=a
  .grind
  have c:a∈m:=hs a (cn ..);have h1:(m.erase a).length=m.length-1:=List.length_erase_of_mem c;have h2:0<m.length:=iL b;rw[aA]at h;refine bB _ (WU (m:=m.erase a) d.2 (λy f=>?_) (by omega) x ((List.mem_erase_of_ne e).2 b))
  grind[bB]
def bl5{l:List Int}(a:l.Nodup){x y:Int}(b:x∈l)(c:y∈l)(e:pf l x=pf l y):x=y:=by
 obtain⟨i,a7,rfl⟩:=aH b;obtain⟨j,hj,rfl⟩:=aH c;rw[HE a a7,HE a hj]at e;have d:=(dL a).1 e;have md:∀n,n<l.length->(n+l.length-1)%l.length=if n=0 then l.length-1 else n-1:=by
  intro n a;split
  .rw[eN (by omega)];omega
  rw[show n+l.length-1=(n-1)+l.length by omega,gK,eN (by omega)]
 grind
namespace eS
variable {a6:List ef} {al:List dk} {fs:List Int} (h:eS a6 al fs)
include h
theorem EU{d:Int}(e:d∈l3 a6 al):∃a∈al,∃p,pathOf a6 al a.1=U p/\((d=a.1/\lY a6 al d=na (mi a p,((0:Nat):Int)))\/(d=-a.1/\lY a6 al d=m_ (mi a p,((p.length-2:Nat):Int)))):=by
 obtain⟨a,ha,c⟩:=h.qZ.1 e;obtain⟨f,t,_,_,b,_⟩:=h.path ha;rcases c with rfl|rfl
 .exact⟨a,ha,_,b,bk ⟨rfl,h.AY ha b⟩⟩
 exact⟨a,ha,_,b,a_ ⟨rfl,h.CD ha b⟩⟩
theorem ue{d:Int}(b:d∈l3 a6 al):k5 (lY a6 al d)=d:=by
 obtain⟨a,ha,p,hp,⟨rfl,e⟩|⟨rfl,e⟩⟩:=h.EU b<;>rw[e]<;>unfold k5
 .rw[vD,b9 rfl];rfl
 rw[uT,b8 (by simp)];rfl
theorem CV{d e:Int}(i:d∈l3 a6 al)(he:e∈l3 a6 al)(a:mC a6 al d=mC a6 al e):d=e:=by
 have find:∀x,x∈l3 a6 al->∃n∈a6,-x∈l2 a6 al n:=λx j=>by have:=h.Fq j;obtain⟨l,hl,c⟩:=br.1 this;obtain⟨n,b,rfl⟩:=aP.1 hl;exact⟨n,b,c⟩
 obtain⟨n,b,h1⟩:=find d i;obtain⟨m,hm,h2⟩:=find e he;have f:=h.xa b h1;have g:=h.xa hm h2;rw[dM]at f g;have lL:=Cm h1;have fa:=Cm h2;rw[<-f,a,g]at lL;have:=h.Cb b hm lL fa;subst this;rw[f,g]at a;have:=bl5 (h.Eh b) h1 h2 a;omega
variable {r:List fy} (hr:mE a6 al al=U r)
include hr
theorem uw{k:Net.lS fy}(hk:k.1∈r):k5 k∈l3 a6 al/\∃a∈al,∃p,pathOf a6 al a.1=U p/\∃i:Nat,i+1<p.length /\
  ((k=na (mi a p,(i:Int))/\k5 k=a.1/\((i+2<p.length/\oe a6 al k=na (mi a p,((i+1:Nat):Int)))\/(i+2=p.length/\oe a6 al k=lY a6 al (mC a6 al a.1)))) \/
   (k=m_ (mi a p,(i:Int))/\k5 k=-a.1/\((0<i/\oe a6 al k=m_ (mi a p,((i-1:Nat):Int)))\/(i=0/\oe a6 al k=lY a6 al (mC a6 al (-a.1)))))):=by
 obtain⟨a,p,i,o⟩:=h.sj hr hk;have g:=o.at';have j:k.1.2.toNat=i:=by rw[o.eq];simp
 have d:k.1.1=mi a p:=by rw[o.eq]
 have l:k.1.1.path=p:=by rw[d];rfl
 have f:k.1.1.1=a.1:=by rw[d];rfl
 rcases xK k with e|e
 .have c:wc k=IN:=by rw[e];exact vD _
  have b:k5 k=a.1:=by unfold k5;rw[b9 c,f]
  refine⟨h.qZ.2 ⟨a,o.nb,bk b⟩,a,o.nb,p,o.path,i,o.at',bk ⟨by rw[<-o.eq];exact e,b,?_⟩⟩
  grind[oe]
 have c:¬wc k=IN:=by rw[e,uT];simp
 have b:k5 k=-a.1:=by unfold k5;rw[b8 c,f]
 refine⟨h.qZ.2 ⟨a,o.nb,a_ b⟩,a,o.nb,p,o.path,i,o.at',a_ ⟨by rw[<-o.eq];exact e,b,?_⟩⟩
 grind[oe]
theorem mk_inj{a b:dk}(ha:a∈al)(c:b∈al){p q:List b6}{i j:Nat}(e:((mi a p,(i:Int)):fy)=(mi b q,(j:Int))):a=b/\p=q/\i=j:=by have d:a.1=b.1:=mP (λs:fy=>s.1.1) e;have f:p=q:=mP (λs:fy=>s.1.path) e;have g:(i:Int)=(j:Int):=mP (λs:fy=>s.2) e;exact⟨h.xB ha c d,f,by omega⟩
theorem aB9{k f:Net.lS fy}(hk:k.1∈r)(o:f.1∈r)(e:oe a6 al k=oe a6 al f):k=f:=by
 obtain⟨d1,a,ha,p,hp,i,a7,c⟩:=h.uw hr hk;obtain⟨d2,b,g,q,l,j,hj,c'⟩:=h.uw hr o;have fin:k5 k=k5 f->lY a6 al (mC a6 al (k5 k))=lY a6 al (mC a6 al (k5 f)):=λe=>by rw[e]
 have t:lY a6 al (mC a6 al (k5 k))=lY a6 al (mC a6 al (k5 f))->k5 k=k5 f:=λe=>by have B:=h.qK d1;have C:=h.qK d2;have:=mP k5 e;rw[h.ue B,h.ue C]at this;exact h.CV d1 d2 this
 have G:=h.p7 ha;have H:=h.p7 g;have d:∀x∈l3 a6 al,(∀(u:dk) (w:List b6) (m:Nat),u∈al->pathOf a6 al u.1=U w->0<m->lY a6 al x≠na (mi u w,(m:Int)))/\∀(u:dk) (w:List b6) (m:Nat),u∈al->pathOf a6 al u.1=U w->m+2<w.length->lY a6 al x≠m_ (mi u w,(m:Int)):=by
  intro x D;obtain⟨v,hv,w',E,⟨_,z⟩|⟨_,z⟩⟩:=h.EU D<;>rw[z]
  .grind[AN,Od]
  refine⟨λu w m hu hw hm e=>AN e.symm,λu w m hu hw hm e=>?_⟩;obtain⟨_,rfl,I⟩:=h.mk_inj hr hv hu (N9 e);omega
 rcases c with⟨c1,c2,⟨s,n⟩|⟨s,n⟩⟩|⟨c1,c2,⟨s,n⟩|⟨s,n⟩⟩<;>rcases c' with⟨g1,g2,⟨g3,g4⟩|⟨g3,g4⟩⟩|⟨g1,g2,⟨g3,g4⟩|⟨g3,g4⟩⟩<;>rw[n,g4]at e
 .grind[Od]
 .exact lH e.symm ((d _ (h.qK (g2▸d2))).1 a p (i+1) ha hp (by omega))
 .exact lH e AN
 .exact lH e.symm ((d _ (h.qK (g2▸d2))).1 a p (i+1) ha hp (by omega))
 .exact lH e ((d _ (h.qK (c2▸d1))).1 b q (j+1) g l (by omega))
 .rw[<-c2,<-g2]at e
  have:=t e;obtain rfl:=h.xB ha g (by omega)
  grind
 .exact lH e ((d _ (h.qK (c2▸d1))).2 b q (j-1) g l (by omega))
 .grind
 .exact lH e.symm AN
 .exact lH e.symm ((d _ (h.qK (g2▸d2))).2 a p (i-1) ha hp (by omega))
 .grind[N9]
 .exact lH e.symm ((d _ (h.qK (g2▸d2))).2 a p (i-1) ha hp (by omega))
 .exact lH e ((d _ (h.qK (c2▸d1))).1 b q (j+1) g l (by omega))
 .grind
 .exact lH e ((d _ (h.qK (c2▸d1))).2 b q (j-1) g l (by omega))
 rw[<-c2,<-g2]at e;have:=t e;obtain rfl:=h.xB ha g (by omega)
 grind
end eS
open Classical
namespace eS
variable {a6:List ef} {al:List dk} {fs:List Int} (h:eS a6 al fs)
variable {r:List fy} (hr:mE a6 al al=U r)
include h hr
theorem aC0:(((fh r).dC (h.fm hr)).nz.map (oe a6 al)).Perm ((fh r).dC (h.fm hr)).nz:=by
 have g:=(fh r).tM (h.fm hr);have f:=Net.RW g;have mem:∀k,k∈((fh r).dC (h.fm hr)).nz↔k.1∈r:=λk=>Net.Bh;have b:(((fh r).dC (h.fm hr)).nz.map (oe a6 al)).Nodup:=ch.2 (f.imp_of_mem λ{k c} hk a d e=>d (h.aB9 hr ((mem k).1 hk) ((mem c).1 a) e));have sub:∀k∈((fh r).dC (h.fm hr)).nz.map (oe a6 al),k∈((fh r).dC (h.fm hr)).nz:=by intro k hk;obtain⟨c,a,rfl⟩:=aP.1 hk;exact(mem _).2 (h.Bl hr ((mem c).1 a)).1
 exact(hY b f).2 λk=>⟨sub k,WU b sub (by rw[aF];exact aw _) k⟩
omit hr in
omit h in
noncomputable def bk8{a6:List ef}{al:List dk}{fs:List Int}(h:eS a6 al fs){r:List fy}(hr:mE a6 al al=U r){κ:Type}(a:Int->κ)(hc:∀d∈l3 a6 al,a (mC a6 al d)=a d):Net.my ((fh r).dC (h.fm hr)) κ where
 c:=λk=>a (k5 k)
 lC:=oe a6 al
 mem:=λk hk=>(h.Bl hr hk).1
 M8:=λk hk=>by
  have b:=(h.uw hr hk).1;rcases(h.Bl hr hk).2.2.2 with e|e
  .show a (k5 (oe a6 al k))=_
   rw[e]
  show a (k5 (oe a6 al k))=_;rw[e,h.ue (h.qK b),hc _ b]
 left:=λk hk d b=>(h.Bl hr hk).2.2.1 d b
 closed:=λC A=>by
  have mem:∀k,k∈((fh r).dC (h.fm hr)).nz↔k.1∈r:=λk=>Net.Bh;have j:eu ((fh r).dC (h.fm hr)).nz (λk=>if a (k5 k)=C then A (((fh r).dC (h.fm hr)).src k)-A (((fh r).dC (h.fm hr)).dst k)else 0)
    = eu ((fh r).dC (h.fm hr)).nz (λk=>if a (k5 k)=C then A (((fh r).dC (h.fm hr)).src k)else 0)-eu ((fh r).dC (h.fm hr)).nz (λk=>if a (k5 k)=C then A (((fh r).dC (h.fm hr)).dst k)else 0):=by
   rw[<-xP];refine mu λk _=>?_;by_cases g:a (k5 k)=C
   .simp only[b9 g]
   simp only[b8 g];omega
  have l:eu ((fh r).dC (h.fm hr)).nz (λk=>if a (k5 k)=C then A (((fh r).dC (h.fm hr)).dst k)else 0)=eu ((fh r).dC (h.fm hr)).nz (λk=>if a (k5 k)=C then A (((fh r).dC (h.fm hr)).src k)else 0):=by
   refine Eq.symm ?_;rw[<-Io (h.aC0 hr),Ba];refine mu λk hk=>?_;have f:=(mem k).1 hk;have i:=h.Bl hr f;have b:=(h.uw hr f).1;have hl:a (k5 (oe a6 al k))=a (k5 k):=by
    rcases i.2.2.2 with e|e
    .rw[e]
    rw[e,h.ue (h.qK b),hc _ b]
   rw[hl,i.2.1]
  show eu ((fh r).dC (h.fm hr)).nz (λk=>if a (k5 k)=C then A (((fh r).dC (h.fm hr)).src k)-A (((fh r).dC (h.fm hr)).dst k)else 0)=0;rw[j,l];omega
end eS
end Go.Ab
namespace Go.Ab
open Go
def mX(lC:Int->Int)(d:Int):Nat->Int
 | 0=>d
 |n+1=>lC (mX lC d n)
def mT(lC:Int->Int)(d:Int)(m:Nat):List Int:=(bo m).map (mX lC d)
def TJ(lC:Int->Int)(d:Int)(m:Nat):mT lC d (m+1)=mT lC d m++[mX lC d m]:=by unfold mT;rw[ke,List.map_append];rfl
def qP{lC:Int->Int}{d:Int}{m:Nat}{x:Int}:x∈mT lC d m↔∃i,i<m/\mX lC d i=x:=by unfold mT;simp
def VK{lC:Int->Int}{d:Int}{m:Nat}(a:(mT lC d m).Nodup){i j:Nat}(a7:i<m)(hj:j<m)(e:mX lC d i=mX lC d j):i=j:=by
 unfold mT at a;have h1:i<((bo m).map (mX lC d)).length:=by simpa using a7
 have h2:j<((bo m).map (mX lC d)).length:=by simpa using hj
 exact(dL (h₀:=h1) (h₁:=h2) a).1 (by simpa using e)
section
variable {lC:Int->Int} {D:List Int} (hD:∀d∈D,lC d∈D) (inj:∀d∈D,∀e∈D,lC d=lC e->d=e)
def y5(hD:∀d∈D,lC d∈D){d:Int}(a:d∈D):∀n,mX lC d n∈D
 | 0=>a
 |n+1=>hD _ (y5 hD a n)
include hD inj
theorem Hc{d:Int}(f:d∈D){c:List Int}(g:∀y∈c,∃x∈c,lC x=y)(s0:∀x∈c,x∈D)(pJ:d∉c):∀(n m:Nat),(c++mT lC d m).Nodup->pe D (c++mT lC d m)<n ->
  ∃h,0<h/\mX lC d h=d/\qw lC n (c++mT lC d m) (mX lC d m) (mT lC d m)=(mT lC d h,c++mT lC d h)/\(c++mT lC d h).Nodup
 | 0,m,_,hu=>by omega
 |n+1,m,k,hu=>by
  unfold qw;have i:=(bQ.1 k).2.2;by_cases hm:mX lC d m∈c++mT lC d m
  .rw[b9 hm]
   have key:0<m/\mX lC d m=d:=by
    rcases aO.1 hm with h1|h1
    .exfalso
     cases m with
     |zero=>exact pJ h1
     |succ m=>obtain⟨x,p,e⟩:=g _ h1;have:=inj x (s0 x p) _ (y5 hD f m) e;exact i x p x (qP.2 ⟨m,by omega,this.symm⟩) rfl
    obtain⟨j,hj,e⟩:=qP.1 h1;refine⟨by omega,?_⟩;cases j with
    |zero=>exact e.symm
    |succ j=>
     exfalso;cases m with
     |zero=>omega
     |succ m=>have:=inj _ (y5 hD f j) _ (y5 hD f m) e;have:=VK (bQ.1 k).2.1 (by omega) (by omega) this;omega
   exact⟨m,key.1,key.2,rfl,k⟩
  rw[b8 hm];have e:c++mT lC d m++[mX lC d m]=c++mT lC d (m+1):=by rw[TJ,cx]
  have l:=M3 (y5 hD f m) hm;rw[e]at l⊢;rw[<-TJ];refine Hc f g s0 pJ n (m+1) ?_ (by omega);rw[<-e];refine bQ.2 ⟨k,by simp,?_⟩;intro a ha b q o;simp at q;exact hm (q▸o▸ha)
structure wk(lC:Int->Int)(D:List Int)(cs:List (List Int)):Prop where
 u9:∀c∈cs,∃d m,d∈D/\0<m/\mX lC d m=d/\c=mT lC d m
 nodup:cs.flatten.Nodup
theorem Oj{cs:List (List Int)}(hc:wk lC D cs):∀y∈cs.flatten,∃x∈cs.flatten,lC x=y:=by
 intro y b;obtain⟨c,a,b⟩:=br.1 b;obtain⟨d,m,f,hm,he,rfl⟩:=hc.u9 c a;obtain⟨i,a7,rfl⟩:=qP.1 b;cases i with
 |zero=>exact⟨mX lC d (m-1),br.2 ⟨_,a,qP.2 ⟨m-1,by omega,rfl⟩⟩,by
   have:mX lC d (m-1+1)=d:=by rw[show m-1+1=m by omega];exact he
   exact this⟩
 |succ i=>exact⟨mX lC d i,br.2 ⟨_,a,qP.2 ⟨i,by omega,rfl⟩⟩,rfl⟩
theorem Ob{cs:List (List Int)}(hc:wk lC D cs):∀y∈cs.flatten,y∈D:=by intro y a;obtain⟨c,b,a⟩:=br.1 a;obtain⟨d,m,f,hm,he,rfl⟩:=hc.u9 c b;obtain⟨i,a7,rfl⟩:=qP.1 a;exact y5 hD f i
theorem Mf:∀(b:List Int) (acc:List (List Int)),(∀d∈b,d∈D)->wk lC D acc->wk lC D (qg lC D b acc.flatten acc)/\∀d,(d∈b\/d∈acc.flatten)->d∈(qg lC D b acc.flatten acc).flatten
 | [],acc,_,hc=>⟨hc,λd a=>by
   rcases a with a|a
   .simp at a
   exact a⟩
 |d::b,acc,f,hc=>by
  have a:=f d (by simp);unfold qg;by_cases hs:d∈acc.flatten
  .rw[b9 hs]
   obtain⟨i1,i2⟩:=Mf b acc (λe he=>f e (by simp[he])) hc;refine⟨i1,λe he=>i2 e ?_⟩;rcases he with he|he
   .rcases aI.1 he with rfl|he
    .exact a_ hs
    exact bk he
   exact a_ he
  rw[b8 hs];have hz:acc.flatten++mT lC d 0=acc.flatten:=by simp[mT]
  obtain⟨m,hm,he,hf,k⟩:=Hc hD inj a (Oj hD inj hc) (Ob hD inj hc) hs (pe D acc.flatten+1) 0 (by rw[hz];exact hc.nodup) (by rw[hz];omega);rw[hz]at hf;have i:qw lC (pe D acc.flatten+1) acc.flatten d []=(mT lC d m,acc.flatten++mT lC d m):=hf;simp only[i];have e:acc.flatten++mT lC d m=(acc++[mT lC d m]).flatten:=by simp
  have j:wk lC D (acc++[mT lC d m]):=by
   refine⟨λc h=>?_,by rw[<-e];exact k⟩;rcases aO.1 h with h|h
   .exact hc.u9 c h
   simp at h;exact⟨d,m,a,hm,he,h⟩
  rw[e];obtain⟨i1,i2⟩:=Mf b _ (λe he=>f e (by simp[he])) j;refine⟨i1,λx g=>i2 x ?_⟩;rcases g with g|g
  .rcases aI.1 g with rfl|g
   .exact a_ (by rw[<-e];exact cC _ (qP.2 ⟨0,hm,rfl⟩))
   exact bk g
  exact a_ (by rw[<-e];exact bX _ g)
end
open Go.Pg
def sF(a6:List ef)(al:List dk)(d:Int):List Int:=((eS.lT a6 al).find? (λc=>IT (d∈c))).getD []
def bs7{cs:List (List Int)}(f:cs.flatten.Nodup){c c':List Int}(h1:c∈cs)(h2:c'∈cs){d:Int}(d1:d∈c)(d2:d∈c'):c=c':=by
 have hp:=(cQ.1 f).2;have:=CP (R:=λc c':List Int=>c=c'\/∀x∈c,∀y∈c',x≠y) (λx y h=>by
  rcases h with h|h
  .exact bk h.symm
  exact a_ λa ha b g e=>h b g a ha e.symm) (λx=>bk rfl) (hp.imp λ{x y} h=>a_ h) h1 h2
 rcases this with h|h
 .exact h
 exact(h d d1 d d2 rfl).elim
namespace eS
variable {a6:List ef} {al:List dk} {fs:List Int} (h:eS a6 al fs)
include h
theorem sS:wk (mC a6 al) (l3 a6 al) (lT a6 al)/\∀d∈l3 a6 al,d∈(lT a6 al).flatten:=by have hp:=cy (l3 a6 al) (λa b=>IT (a<=b));obtain⟨i1,i2⟩:=Mf (lC:=mC a6 al) (D:=l3 a6 al) (λd f=>h.qK f) (λd f e he x=>h.CV f he x) ((l3 a6 al).mergeSort λa b=>IT (a<=b)) [] (λd f=>hp.mem_iff.1 f) ⟨λc hc=>by simp at hc,by simp⟩;exact⟨i1,λd f=>i2 d (bk (hp.mem_iff.2 f))⟩
theorem yY{d:Int}(b:d∈l3 a6 al):sF a6 al d∈lT a6 al/\d∈sF a6 al d:=by
 obtain⟨c,hc,a⟩:=br.1 (h.sS.2 d b);unfold sF;cases hf:(lT a6 al).find? (λc=>IT (d∈c))with
 |none=>exact lH a (by have:=List.find?_eq_none.1 hf c hc;simpa using this)
 |some c' =>have h1:=bj hf;have h2:=dI hf;exact⟨h1,by simpa using h2⟩
theorem o_{c:List Int}(hc:c∈lT a6 al){d:Int}(a:d∈c):d∈l3 a6 al:=by obtain⟨e,m,he,hm,_,rfl⟩:=h.sS.1.u9 c hc;obtain⟨i,_,rfl⟩:=qP.1 a;exact y5 (λd a=>h.qK a) he i
theorem yX{c:List Int}(hc:c∈lT a6 al){d:Int}(a:d∈c):sF a6 al d=c:=by have h1:=h.yY (h.o_ hc a);exact bs7 h.sS.1.nodup h1.1 hc h1.2 a
theorem yV{c:List Int}(hc:c∈lT a6 al){d:Int}(a:d∈c):mC a6 al d∈c:=by
 obtain⟨e,m,he,hm,hz,rfl⟩:=h.sS.1.u9 c hc;obtain⟨i,a7,rfl⟩:=qP.1 a;by_cases hl:i+1<m
 .exact qP.2 ⟨i+1,hl,rfl⟩
 refine qP.2 ⟨0,hm,?_⟩;have:mX (mC a6 al) e (i+1)=e:=by rw[show i+1=m by omega];exact hz
 exact this.symm
theorem ah4{d:Int}(a:d∈l3 a6 al):sF a6 al (mC a6 al d)=sF a6 al d:=by have h1:=h.yY a;exact h.yX h1.1 (h.yV h1.1 h1.2)
variable {r:List fy} (hr:mE a6 al al=U r)
noncomputable def j0{a6:List ef}{al:List dk}{fs:List Int}(h:eS a6 al fs){r:List fy}(hr:mE a6 al al=U r):Net.my ((fh r).dC (h.fm hr)) (List Int):=h.bk8 hr (sF a6 al) (λ_ a=>h.ah4 a)
theorem AX{d:Int}(b:d∈l3 a6 al)(hr:mE a6 al al=U r):(lY a6 al d).1∈r:=by
 obtain⟨a,ha,p,hp,⟨_,e⟩|⟨_,e⟩⟩:=h.EU b<;>rw[e]
 .exact uL hr a ha p hp _ (vv (by have:=h.FD ha hp;omega))
 exact uL hr a ha p hp _ (vv (by have:=h.FD ha hp;omega))
theorem AD{k:Net.lS fy}(hk:k.1∈r):(h.j0 hr).lI (lY a6 al (k5 k)) k/\(h.j0 hr).lI k (lY a6 al (mC a6 al (k5 k))):=by
 obtain⟨_,a,ha,p,hp,i,a7,c⟩:=h.uw hr hk;have inr:∀j:Nat,j+1<p.length->(mi a p,(j:Int))∈r:=λj hj=>uL hr a ha p hp _ (vv hj);have b:∀k,(h.j0 hr).lC k=oe a6 al k:=λ_=>rfl;rcases c with⟨c1,c2,_⟩|⟨c1,c2,_⟩
 .rw[c1,show k5 (na (mi a p,(i:Int)))=a.1 from c1▸c2,h.AY ha hp]
  have st:∀j:Nat,j+2<p.length->oe a6 al (na (mi a p,(j:Int)))=na (mi a p,((j+1:Nat):Int)):=λj hj=>by
   unfold oe;rw[b9 (vD _)];have d:((na (mi a p,(j:Int))).1.2).toNat=j:=by show((j:Int)).toNat=j;simp
   have e:(na (mi a p,(j:Int))).1.1.path.length=p.length:=rfl;rw[d,e,b9 hj];rfl
  have f:∀j:Nat,j+2=p.length->oe a6 al (na (mi a p,(j:Int)))=lY a6 al (mC a6 al a.1):=λj hj=>by
   unfold oe;rw[b9 (vD _)];have d:((na (mi a p,(j:Int))).1.2).toNat=j:=by show((j:Int)).toNat=j;simp
   have e:(na (mi a p,(j:Int))).1.1.path.length=p.length:=rfl;rw[d,e,b8 (by omega)];rfl
  have up:∀n j:Nat,j+n+1<p.length->(h.j0 hr).lI (na (mi a p,(j:Int))) (na (mi a p,((j+n:Nat):Int))):=by
   intro n
   induction n with
   |zero=>intro j hj;exact Net.my.lI.refl _
   |succ n g=>intro j hj;have h1:=g j (by omega);have h2:=Net.my.lI.lC (w:=h.j0 hr) (h:=na (mi a p,((j+n:Nat):Int))) (inr (j+n) (by omega)) h1;rw[b,st (j+n) (by omega)]at h2;exact h2
  refine⟨by have:=up i 0 (by omega);rw[aN]at this;exact this,?_⟩;have h1:=up (p.length-2-i) i (by omega);have h2:=Net.my.lI.lC (w:=h.j0 hr) (h:=na (mi a p,((i+(p.length-2-i):Nat):Int))) (inr _ (by omega)) h1;rw[b,f _ (by omega)]at h2;exact h2
 rw[c1,show k5 (m_ (mi a p,(i:Int)))=-a.1 from c1▸c2,h.CD ha hp];have st:∀j:Nat,0<j->oe a6 al (m_ (mi a p,(j:Int)))=m_ (mi a p,((j-1:Nat):Int)):=λj hj=>by
  unfold oe;rw[b8 (by rw[uT];simp)];have d:((m_ (mi a p,(j:Int))).1.2).toNat=j:=by show((j:Int)).toNat=j;simp
  rw[d,b9 hj];rfl
 have f:oe a6 al (m_ (mi a p,((0:Nat):Int)))=lY a6 al (mC a6 al (-a.1)):=by unfold oe;rw[b8 (by rw[uT];simp)];have d:((m_ (mi a p,((0:Nat):Int))).1.2).toNat=0:=rfl;rw[d,b8 (by omega)];rfl
 have Ct:∀n j:Nat,j+n+1<p.length->(h.j0 hr).lI (m_ (mi a p,((j+n:Nat):Int))) (m_ (mi a p,(j:Int))):=by
  intro n
  induction n with
  |zero=>intro j hj;exact Net.my.lI.refl _
  |succ n g=>intro j hj;have h1:=g (j+1) (by omega);rw[show j+1+n=j+(n+1)by omega]at h1;have h2:=Net.my.lI.lC (w:=h.j0 hr) (h:=m_ (mi a p,((j+1:Nat):Int))) (inr (j+1) (by omega)) h1;rw[b,st (j+1) (by omega)]at h2;exact h2
 refine⟨by have:=Ct (p.length-2-i) i (by omega);rw[show i+(p.length-2-i)=p.length-2 by omega]at this;exact this,?_⟩;have h1:=Ct i 0 (by omega);rw[aN]at h1;have h2:=Net.my.lI.lC (w:=h.j0 hr) (h:=m_ (mi a p,((0:Nat):Int))) (inr 0 (by omega)) h1;rw[b,f]at h2;exact h2
end eS
namespace eS
variable {a6:List ef} {al:List dk} {fs:List Int} (h:eS a6 al fs)
variable {r:List fy} (hr:mE a6 al al=U r)
include h
theorem LA{e:Int}(he:e∈l3 a6 al):∀i,(h.j0 hr).lI (lY a6 al e) (lY a6 al (mX (mC a6 al) e i))
 | 0=>Net.my.lI.refl _
 |i+1=>by have hm:=y5 (lC:=mC a6 al) (λd a=>h.qK a) he i;have h1:=LA he i;have h2:=(h.AD hr (h.AX hm hr)).2;rw[h.ue hm]at h2;exact Net.my.nn _ h1 h2
theorem R'{c:List Int}(hc:c∈lT a6 al){d:Int}(n:d∈c):(h.j0 hr).BR c (lY a6 al d):=by
 intro k hk b;have a:k.1∈r:=b;have f:=(h.uw hr a).1;have g:sF a6 al (k5 k)=c:=hk;have h1:=(h.AD hr a).1;have h2:k5 k∈c:=by rw[<-g];exact(h.yY f).2
 obtain⟨e,m,he,hm,_,rfl⟩:=h.sS.1.u9 c hc;obtain⟨i,_,a7⟩:=qP.1 h2;obtain⟨j,_,hj⟩:=qP.1 n;have l:=h.LA hr he i;have a2:=h.LA hr he j;rw[a7]at l;rw[hj]at a2;exact Net.my.nn _ (Net.my.r7 _ a2) (Net.my.nn _ l h1)
end eS
open Classical
def zO(p q:b6):Int:=p.1*q.2-q.1*p.2
def Wo:∀(l:List b6) (p:b6),eu (bo l.length) (λi=>zO (((p::l)[i]?).getD (0,0)) (((p::l)[i+1]?).getD (0,0)))=o9 p l
 | [],p=>rfl
 |q::l,p=>by have a:=Wo l q;rw[aA,iM];simp only[eu,Ba];have e:∀i:Nat,(p::q::l)[i+1]?=(q::l)[i]?:=λi=>rfl;have b:∀i:Nat,(p::q::l)[jK i+1]?=(q::l)[i+1]?:=λi=>rfl;have c:∀i:Nat,(p::q::l)[jK i]?=(q::l)[i]?:=λi=>rfl;simp only[b,c];rw[a];rfl
def aY7{a6:List ef}{al:List dk}{f:fy->Int}{a:dk}{p:List b6}(hp:pathOf a6 al a.1=U p):∀ {l:List dk} {r:List fy},(l.map (·.1)).Pairwise (·<·)->mE a6 al l=U r ->
  eu r (λs=>if s.1.1=a.1 then f s else 0)=if a.1∈l.map (·.1)then eu r (λs=>if s.1.1=a.1 then f s else 0)else 0
 |l,r,hl,h=>by
  by_cases c:a.1∈l.map (·.1)
  .rw[b9 c]
  rw[b8 c];refine sq λs hs=>?_;obtain⟨b,d,q,_,hm⟩:=Hh h s hs;obtain⟨i,_,e⟩:=Cr hm;have g:s.1.1=b.1:=by rw[e];rfl
  rw[b8 (λj=>c (by rw[<-j,g];exact aC d))]
def Hu{a6:List ef}{al:List dk}(f:fy->Int){a:dk}{p:List b6}(hp:pathOf a6 al a.1=U p):∀ {l:List dk} {r:List fy},(l.map (·.1)).Pairwise (·<·)->(∀b∈l,b.1=a.1->b=a)->mE a6 al l=U r->a∈l ->
  eu r (λs=>if s.1.1=a.1 then f s else 0)=eu (pV a p) f
 | [],r,_,_,_,ha=>by simp at ha
 |b::l,r,hl,hu,h,ha=>by
  rw[ay,ba]at hl;unfold mE at h;split at h
  .cases h
  rename_i q j;cases hc:((IT (b.2.1=b.2.2.1)&&IT (q.length<4))||!(re q))with
  |true=>rw[hc]at h;cases h
  |false=>
   rw[hc]at h;simp only[ct]at h;split at h
   next o c=>
    cases h;rw[yP];have k:∀s∈pV b q,s.1.1=b.1:=λs hs=>by obtain⟨i,_,e⟩:=Cr hs;rw[e];rfl
    by_cases e:b=a
    .subst e
     rw[hp]at j;cases j;have z:=aY7 (f:=f) (a:=b) hp hl.2 c;rw[b8 (λhm=>by have:=hl.1 _ hm;omega)]at z;rw[z,mu (f:=λs=>if s.1.1=b.1 then f s else 0) (g:=f) (l:=pV b p) (λs hs=>b9 (k s hs))];omega
    have d:a∈l:=by
     rcases aI.1 ha with h|h
     .exact(e h.symm).elim
     exact h
    rw[Hu f hp hl.2 (λb m=>hu b (by simp[m])) c d,sq (l:=pV b q) (λs hs=>b8 (λn=>e (hu b (by simp) (by rw[<-k s hs];exact n))))];omega
   cases h
def bf5(a:dk)(p0:b6)(l:List b6):eu (pV a (p0::l)) (λs=>zO (hT s) (hF s))=o9 p0 l:=by unfold pV;rw[Ba,<-Wo];exact mu λi _=>rfl
def Cl(a6:List ef)(al:List dk):∀c:List Int,mK a6 al c=eu c (tH a6 al)
 | []=>rfl
 |d::c=>by show tH a6 al d+mK a6 al c=_;rw[Cl a6 al c];rfl
def H7(x:Int)(v:Int):∀ {c:List Int},c.Nodup->eu c (λd=>if x=d then v else 0)=if x∈c then v else 0
 | [],_=>by simp[eu]
 |a::c,f=>by
  rw[cF]at f;have g:=H7 x v f.2;simp only[eu,g];by_cases e:x=a
  .subst e
   rw[b9 rfl,b8 f.1,b9 (cn ..)];omega
  rw[b8 e];by_cases b:x∈c
  .rw[b9 b,b9 (bB _ b)];omega
  rw[b8 b,b8 (by simp[e,b])];rfl
namespace eS
variable {a6:List ef} {al:List dk} {fs:List Int} (h:eS a6 al fs)
variable {r:List fy} (hr:mE a6 al al=U r)
include h
theorem OA(F:Net.lS fy->Int):eu ((fh r).dC (h.fm hr)).nz F=eu r (λs=>F (na s)+F (m_ s)):=by
 rw[Net.BG];refine mu λs _=>?_;unfold na m_;cases(fh []).fwd s
 .show F (s,IN)+F (s,IS)=F (s,IS)+F (s,IN)
  omega
 rfl
theorem ah0{d:Int}(l:d∈l3 a6 al):eu ((fh r).dC (h.fm hr)).nz (λk=>if k5 k=d then((fh r).dC (h.fm hr)).uU k else 0)=tH a6 al d:=by
 rw[h.OA hr];have d1:∀s,k5 (na s)=s.1.1:=λs=>by unfold k5;rw[b9 (vD s)];rfl
 have d2:∀s,k5 (m_ s)=- s.1.1:=λs=>by unfold k5;rw[b8 (by rw[uT];simp)];rfl
 have c1:∀s,((fh r).dC (h.fm hr)).uU (na s)=zO (hT s) (hF s):=λs=>by unfold Net.uU;rw[y8,Fu];rfl
 have c2:∀s,((fh r).dC (h.fm hr)).uU (m_ s)=- zO (hT s) (hF s):=λs=>by unfold Net.uU zO;rw[zi,Fz];omega
 have pos:∀s∈r,0<s.1.1:=λs hs=>by obtain⟨a,p,i,o⟩:=h.sj hr hs;have:=h.p7 o.nb;rw[o.eq];exact this
 obtain⟨a,ha,c⟩:=h.qZ.1 l;obtain⟨f,t,_,_,g,_⟩:=h.path ha;have hp:=h.p7 ha;have j:=Hu (λs=>zO (hT s) (hF s)) g (pA h.tz) (λb m e=>h.xB m ha e) hr ha;rw[bf5]at j;rcases c with rfl|rfl
 .have e:eu r (λs=>(if k5 (na s)=a.1 then((fh r).dC (h.fm hr)).uU (na s)else 0)+(if k5 (m_ s)=a.1 then((fh r).dC (h.fm hr)).uU (m_ s)else 0))=eu r (λs=>if s.1.1=a.1 then zO (hT s) (hF s)else 0):=by refine mu λs hs=>?_;have:=pos s hs;rw[d1,d2,c1,b8 (show ¬-s.1.1=a.1 by omega),jh]
  rw[e,j];unfold tH;rw[show lN a.1=a.1 by unfold lN;omega,g];simp only;rw[b8 (by omega)]
 have e:eu r (λs=>(if k5 (na s)=-a.1 then((fh r).dC (h.fm hr)).uU (na s)else 0)+(if k5 (m_ s)=-a.1 then((fh r).dC (h.fm hr)).uU (m_ s)else 0))=- eu r (λs=>if s.1.1=a.1 then zO (hT s) (hF s)else 0):=by
  rw[<-y'];refine mu λs hs=>?_;have:=pos s hs;rw[d1,d2,c2,b8 (show ¬s.1.1=-a.1 by omega),ji];by_cases q:s.1.1=a.1
  .rw[b9 q,b9 (by omega)]
  rw[b8 q,b8 (by omega)];rfl
 rw[e,j];unfold tH;rw[show lN (-a.1)=a.1 by unfold lN;omega,g];simp only;rw[b9 (by omega)]
theorem zD{c:List Int}(hc:c∈lT a6 al):Net.ss (h.j0 hr) c=mK a6 al c:=by
 have g:c.Nodup:=(cQ.1 h.sS.1.nodup).1 c hc;have mem:∀k,k∈((fh r).dC (h.fm hr)).nz↔k.1∈r:=λk=>Net.Bh;rw[Cl];have i:eu c (tH a6 al)=eu c (λd=>eu ((fh r).dC (h.fm hr)).nz (λk=>if k5 k=d then((fh r).dC (h.fm hr)).uU k else 0)) :=mu λd j=>(h.ah0 hr (h.o_ hc j)).symm;rw[i,Ff];unfold Net.ss;refine mu λk hk=>?_;rw[H7 _ _ g];have f:=(h.uw hr ((mem k).1 hk)).1;by_cases b:k5 k∈c
 .have a:(h.j0 hr).c k=c:=h.yX hc b
  rw[b9 b,b9 a]
 have a:¬(h.j0 hr).c k=c:=λe=>b (by
  have l:sF a6 al (k5 k)=c:=e;rw[<-l];exact(h.yY f).2)
 rw[b8 b,b8 a]
end eS
end Go.Ab
namespace Go.Ab
open Go Go.Pg
def uS(g:b6->b6->Int):b6->List b6->Int
 |_,[]=>0
 |p,q::r=>g p q+uS g q r
def SM(g:b6->b6->Int):∀(l:List b6) (p:b6),eu (bo l.length) (λi=>g (((p::l)[i]?).getD (0,0)) (((p::l)[i+1]?).getD (0,0)))=uS g p l
 | [],p=>rfl
 |q::l,p=>by have a:=SM g l q;rw[aA,iM];simp only[eu,Ba];have b:∀i:Nat,(p::q::l)[jK i+1]?=(q::l)[i+1]?:=λi=>rfl;have c:∀i:Nat,(p::q::l)[jK i]?=(q::l)[i]?:=λi=>rfl;simp only[b,c];rw[a];rfl
def Ts(g:b6->b6->Int)(a:dk)(p0:b6)(l:List b6):eu (pV a (p0::l)) (λs=>g (hT s) (hF s))=uS g p0 l:=by unfold pV;rw[Ba,<-SM];exact mu λi _=>rfl
def yl(at' a b:b6):Bool:=(IT (a.2<=at'.2)&&(IT (at'.2<b.2)&&IT (0<lK a b at')))||(IT (b.2<=at'.2)&&(IT (at'.2<a.2)&&IT (lK a b at'<0)))
def pb(at' a b:b6):Int:=if yl at' a b=IN then 1 else 0
def u7(at':b6):b6->List b6->Bool
 |_,[]=>IS
 |p,q::r=>l_ p q at'||u7 at' q r
def Th(at':b6):∀(l:List b6) (p:b6) (st:Bool×Bool),(um at' p l st).2=(st.2||u7 at' p l)/\(u7 at' p l=IS->∀n:Int,st.1=IT (n%2=1)->(um at' p l st).1=IT ((n+uS (pb at') p l)%2=1))
 | [],p,st=>⟨by simp[um,u7],λ_ n a=>by simpa[um,uS]using a⟩
 |q::l,p,st=>by
  obtain⟨i1,i2⟩:=Th at' l q (vQ at' st p q);show(um at' q l (vQ at' st p q)).2=(st.2||(l_ p q at'||u7 at' q l))/\((l_ p q at'||u7 at' q l)=IS->∀n:Int,st.1=IT (n%2=1)->(um at' q l (vQ at' st p q)).1=IT ((n+(pb at' p q+uS (pb at') q l))%2=1));cases b:l_ p q at' with
  |true=>
   have e:vQ at' st p q=(st.1,IN):=by unfold vQ;rw[b];rfl
   rw[e]at i1⊢;refine⟨by rw[i1];simp,λh=>by simp at h⟩
  |false=>
   have e:vQ at' st p q=bif yl at' p q then(!st.1,st.2)else st:=by unfold vQ;rw[b];rfl
   have d:(vQ at' st p q).2=st.2:=by rw[e];cases yl at' p q<;>rfl
   refine⟨by rw[i1,d];simp,λh n a=>?_⟩;have h':u7 at' q l=IS:=by simpa using h
   have f:(vQ at' st p q).1=IT ((n+pb at' p q)%2=1):=by
    rw[e];unfold pb;cases yl at' p q with
    |false=>simpa using a
    |true=>
     show(!st.1)=IT ((n+1)%2=1);rw[a];by_cases c:n%2=1
     .have:¬(n+1)%2=1:=by omega
      simp[c,this]
     have:(n+1)%2=1:=by omega
     simp[c,this]
   rw[i2 h' (n+pb at' p q) f];exact decide_eq_decide.2 (by rw[show n+(pb at' p q+uS (pb at') q l)=n+pb at' p q+uS (pb at') q l by omega])
def xX(at':b6):List b6->Int
 | []=>0
 |p::l=>uS (pb at') p l
def tL(at':b6):List b6->Bool
 | []=>IS
 |p::l=>u7 at' p l
def bc7(at':b6)(l:List b6)(st:Bool×Bool):(x4 at' l st).2=(st.2||tL at' l)/\(tL at' l=IS->∀n:Int,st.1=IT (n%2=1)->(x4 at' l st).1=IT ((n+xX at' l)%2=1)):=by
 cases l with
 |nil=>exact⟨by simp[x4,tL],λ_ n a=>by simpa[x4,xX]using a⟩
 |cons p l=>exact Th at' l p st
def SJ(m:List (Int×List b6))(at':b6):∀(c:List Int) (st:Bool×Bool),(q6 m at' c st).2=(st.2||c.any λd=>tL at' ((ff fx (lN d) m).getD [])) /\
  ((∀d∈c,tL at' ((ff fx (lN d) m).getD [])=IS)->∀n:Int,st.1=IT (n%2=1)->(q6 m at' c st).1=IT ((n+eu c λd=>xX at' ((ff fx (lN d) m).getD []))%2=1))
 | [],st=>⟨by simp[q6],λ_ n a=>by simpa[q6,eu]using a⟩
 |d::c,st=>by
  obtain⟨mb,mn⟩:=bc7 at' ((ff fx (lN d) m).getD []) st;obtain⟨i1,i2⟩:=SJ m at' c (x4 at' ((ff fx (lN d) m).getD []) st);refine⟨?_,λa n h=>?_⟩
  .show (q6 m at' c (x4 at' ((ff fx (lN d) m).getD []) st)).2=_
   rw[i1,mb,iE,Bool.or_assoc]
  show(q6 m at' c (x4 at' ((ff fx (lN d) m).getD []) st)).1=_;rw[i2 (λe he=>a e (by simp[he])) _ (mn (a d (by simp)) n h)];exact decide_eq_decide.2 (by simp only[eu];rw[Int.add_assoc])
theorem EY(m:List (Int×List b6))(at':b6)(c:List Int):pd m c at'=IN↔(∀d∈c,tL at' ((ff fx (lN d) m).getD [])=IS)/\(eu c λd=>xX at' ((ff fx (lN d) m).getD []))%2=1:=by
 obtain⟨h1,h2⟩:=SJ m at' c (IS,IS);unfold pd;by_cases a:∀d∈c,tL at' ((ff fx (lN d) m).getD [])=IS
 .have g:=h2 a 0 (by simp)
  have f:(q6 m at' c (IS,IS)).2=IS:=by rw[h1,dt];exact bC.2 λd e=>by rw[a d e];simp
  rw[g,f,ji];constructor
  .intro h
   refine⟨a,?_⟩;by_cases q:(eu c λd=>xX at' ((ff fx (lN d) m).getD []))%2=1
   .exact q
   rw[mN q]at h;cases h
  rintro ⟨_,h⟩;rw[mw h];rfl
 have f:(q6 m at' c (IS,IS)).2=IN:=by rw[h1,dt,List.any_eq_true];have:∃d,d∈c/\¬tL at' ((ff fx (lN d) m).getD [])=IS:=dO λh=>a λd e=>dO λh'=>h ⟨d,e,h'⟩;obtain⟨d,e,h⟩:=this;exact⟨d,e,by simpa using h⟩
 rw[f];constructor
 .intro h
  exfalso;generalize(q6 m at' c (IS,IS)).1=b at h;cases b<;>simp at h
 rintro ⟨h,_⟩;exact(a h).elim
def Ux{a b p:b6}(ha:fc a=IN)(c:fc b=IN)(hp:fc p=IN):(0<lK a b p↔0<kj a b p)/\(lK a b p<0↔kj a b p<0):=by unfold lK;rw[xw ha c hp];constructor<;>(repeat' split)<;>omega
namespace pk
variable {ι:Type} (F:pk ι) (cu:F.Ok)
include cu
theorem Kq(x k:Int):Net.my.vp (F.dC cu) k (λt=>(F.dC cu).lA t k/\(F.dC cu).X t k<(F.dC cu).M*x):=by
 refine⟨λt _ h=>h.1,λt b s hs h hc a=>⟨hc,?_⟩⟩;have c:=F.tM cu;rcases eE ((F.dC cu).X t k) ((F.dC cu).X s k)with q|q
 .have:=c.kj t b s hs k h.1 hc q
  unfold Net.key at a;omega
 have:=h.2;omega
theorem av4{e:ι}(he:e∈F.E){at':b6}(c:fc at'=IN):yl at' (F.src e) (F.dst e)=IN↔(F.dC cu).lA e at'.2/\(F.dC cu).M*at'.1<(F.dC cu).X e at'.2:=by
 have o:=w7 cu he;have b:=ph cu he;have core:(F.b5 e).2<=at'.2->at'.2<(F.a7 e).2->(0<lK (F.b5 e) (F.a7 e) at'↔(F.dC cu).M*at'.1<(F.dC cu).X e at'.2):=λh1 h2=>by rw[(Ux b.1 b.2 c).1];exact(vn (F.dC cu).oC (show(F.b5 e).2<(F.a7 e).2 by omega) ((F.dC cu).x' e he (show(F.b5 e).2<(F.a7 e).2 by omega))).1
 have key:yl at' (F.src e) (F.dst e)=IN↔((F.b5 e).2<=at'.2/\at'.2<(F.a7 e).2/\0<lK (F.b5 e) (F.a7 e) at'):=by
  unfold yl;unfold b5 a7 at *;cases hf:F.fwd e
  .rw[hf]at o
   simp only[ct]at o⊢;rw[Ap (F.src e) (F.dst e) at'];simp only[bD,ab,gb];constructor
   .rintro (h|h)<;>omega
   intro h;right;omega
  rw[hf]at o;simp only[dn]at o⊢;simp only[bD,ab,gb];constructor
  .rintro (h|h)<;>omega
  intro h;left;omega
 rw[key];constructor
 .rintro ⟨h1,h2,a⟩
  exact⟨⟨h1,h2⟩,(core h1 h2).1 a⟩
 rintro ⟨⟨h1,h2⟩,a⟩;exact⟨h1,h2,(core h1 h2).2 a⟩
theorem WC(a b p:b6):l_ b a p=l_ a b p:=by
 unfold l_;have c:(fc b&&fc a&&fc p)=(fc a&&fc b&&fc p):=by cases fc a<;>cases fc b<;>rfl
 have d:IT (kj b a p=0)=IT (kj a b p=0):=by rw[Cf];exact decide_eq_decide.2 (by omega)
 have e:sU b a p=sU a b p:=by unfold sU;rw[gN b.1,gO b.1,gN b.2,gO b.2]
 rw[c,d,e]
theorem aD0{e:ι}(he:e∈F.E){at':b6}(h:fc at'=IN)(i:l_ (F.src e) (F.dst e) at'=IS)(hc:(F.dC cu).lA e at'.2):(F.dC cu).X e at'.2≠(F.dC cu).M*at'.1:=by
 intro d;have hu:(F.b5 e).2<(F.a7 e).2:=df hc.1 hc.2;have h1:(F.b5 e).2<=at'.2:=hc.1;have h2:at'.2<(F.a7 e).2:=hc.2;have f:=ph cu he;have a:=F.D9 cu he hu h1 (by omega);have g:=F.zw F.E;have b:(F.dC cu).X e at'.2=F.prod F.E*at'.1:=d;rw[b]at a;have k:=bV a.1 g;have l:=bV a.2 g;have hs:=vn (p:=at') (F.dC cu).oC hu ((F.dC cu).x' e he hu);have j:ou (F.dC cu).M ((F.dC cu).s e) (F.b5 e) at'.2=(F.dC cu).M*at'.1:=d;have hz:kj (F.b5 e) (F.a7 e) at'=0:=by
  have s1:¬ 0<kj (F.b5 e) (F.a7 e) at':=λq=>by have:=hs.1.1 q;omega
  have s2:¬kj (F.b5 e) (F.a7 e) at'<0:=λq=>by have:=hs.2.1 q;omega
  omega
 have on:l_ (F.b5 e) (F.a7 e) at'=IN:=by unfold l_ sU;simp only[f.1,f.2,h,hz,e_,dX,lV,ab,gb];omega
 have c:l_ (F.b5 e) (F.a7 e) at'=l_ (F.src e) (F.dst e) at':=by
  unfold b5 a7;cases F.fwd e
  .exact WC F cu _ _ _
  rfl
 rw[c,i]at on;cases on
end pk
open Classical
def Uf(at':b6):∀(l:List b6) (p:b6),u7 at' p l=IS->∀(i:Nat) (x y:b6),(p::l)[i]?=U x->(p::l)[i+1]?=U y->l_ x y at'=IS
 | [],p,_,i,x,y,_,h2=>by simp at h2
 |q::l,p,h,i,x,y,h1,h2=>by
  have h':(l_ p q at'||u7 at' q l)=IS:=h;rw[bU]at h';cases i with
  |zero=>
   have a:p=x:=by simpa using h1
   have b:q=y:=by simpa using h2
   rw[<-a,<-b];exact h'.1
  |succ i=>exact Uf at' l q h'.2 i x y h1 h2
namespace eS
variable {a6:List ef} {al:List dk} {fs:List Int} (h:eS a6 al fs)
variable {r:List fy} (hr:mE a6 al al=U r)
include h
theorem ah1(at':b6){d:Int}(l:d∈l3 a6 al){p:List b6}(hp:pathOf a6 al (lN d)=U p):eu ((fh r).dC (h.fm hr)).nz (λk=>if k5 k=d then pb at' (hT k.1) (hF k.1)else 0)=xX at' p:=by
 rw[h.OA hr];have d1:∀s,k5 (na s)=s.1.1:=λs=>by unfold k5;rw[b9 (vD s)];rfl
 have d2:∀s,k5 (m_ s)=- s.1.1:=λs=>by unfold k5;rw[b8 (by rw[uT];simp)];rfl
 have pos:∀s∈r,0<s.1.1:=λs hs=>by obtain⟨a,p,i,o⟩:=h.sj hr hs;have:=h.p7 o.nb;rw[o.eq];exact this
 obtain⟨a,ha,c⟩:=h.qZ.1 l;obtain⟨f,t,_,_,g,_⟩:=h.path ha;have u:=h.p7 ha;have j:=Hu (λs=>pb at' (hT s) (hF s)) g (pA h.tz) (λb m e=>h.xB m ha e) hr ha;rw[Ts]at j;have n:lN d=a.1:=by unfold lN;omega
 rw[n,g]at hp;cases hp;show _=uS (pb at') _ _;rw[<-j];refine mu λs hs=>?_;have:=pos s hs;rw[d1,d2];show(if s.1.1=d then pb at' (hT s) (hF s)else 0)+(if-s.1.1=d then pb at' (hT s) (hF s)else 0)=_;rcases c with rfl|rfl
 .rw[b8 (show ¬-s.1.1=a.1 by omega),jh]
 rw[b8 (show ¬s.1.1=-a.1 by omega),ji];by_cases q:s.1.1=a.1
 .rw[b9 q,b9 (by omega)]
 rw[b8 q,b8 (by omega)]
theorem Q4(at':b6){m:List (Int×List b6)}(hm:∀a∈al,ff fx a.1 m=pathOf a6 al a.1){c:List Int}(hc:c∈lT a6 al) :
  (eu c λd=>xX at' ((ff fx (lN d) m).getD []))=eu ((fh r).dC (h.fm hr)).nz (λk=>if(h.j0 hr).c k=c then pb at' (hT k.1) (hF k.1)else 0):=by
 have o:c.Nodup:=(cQ.1 h.sS.1.nodup).1 c hc;have mem:∀k,k∈((fh r).dC (h.fm hr)).nz↔k.1∈r:=λk=>Net.Bh;have p:(eu c λd=>xX at' ((ff fx (lN d) m).getD []))=eu c (λd=>eu ((fh r).dC (h.fm hr)).nz (λk=>if k5 k=d then pb at' (hT k.1) (hF k.1)else 0)):=by
  refine mu λd q=>?_;have g:=h.o_ hc q;obtain⟨a,ha,e⟩:=h.qZ.1 g;have u:=h.p7 ha;have l:lN d=a.1:=by unfold lN;omega
  obtain⟨f,t,_,_,n,_⟩:=h.path ha;rw[l,hm a ha,n];exact(h.ah1 hr at' g (by rw[l];exact n)).symm
 rw[p,Ff];refine mu λk hk=>?_;rw[H7 _ _ o];have j:=(h.uw hr ((mem k).1 hk)).1;by_cases i:k5 k∈c
 .have b:(h.j0 hr).c k=c:=h.yX hc i
  rw[b9 i,b9 b]
 have b:¬(h.j0 hr).c k=c:=λe=>i (by
  have s:sF a6 al (k5 k)=c:=e;rw[<-s];exact(h.yY j).2)
 rw[b8 i,b8 b]
theorem G8(at':b6){m:List (Int×List b6)}(hm:∀a∈al,ff fx a.1 m=pathOf a6 al a.1){c:List Int}(hc:c∈lT a6 al)(hoff:∀d∈c,tL at' ((ff fx (lN d) m).getD [])=IS){k:Net.lS fy}(hk:k.1∈r)(b:(h.j0 hr).c k=c):l_ (hT k.1) (hF k.1) at'=IS:=by
 have e:=(h.uw hr hk).1;have f:sF a6 al (k5 k)=c:=b;have g:k5 k∈c:=by rw[<-f];exact(h.yY e).2
 obtain⟨a,p,i,o⟩:=h.sj hr hk;have s:=h.p7 o.nb;have j:k.1.1.1=a.1:=by rw[o.eq];rfl
 have n:lN (k5 k)=a.1:=by unfold lN k5;rw[j];split<;>omega
 have h1:=hoff _ g;rw[n,hm a o.nb,o.path]at h1;have h2:=o.rM;have q:=o.si;cases p with
 |nil=>simp at h2
 |cons p0 l=>exact Uf at' l p0 h1 i _ _ h2 q
end eS
namespace eS
variable {a6:List ef} {al:List dk} {fs:List Int} (h:eS a6 al fs)
variable {r:List fy} (hr:mE a6 al al=U r)
include h
theorem Rj{at':b6}(n:fc at'=IN){m:List (Int×List b6)}(hm:∀a∈al,ff fx a.1 m=pathOf a6 al a.1){c:List Int}(hc:c∈lT a6 al)(hoff:∀d∈c,tL at' ((ff fx (lN d) m).getD [])=IS) :
  pd m c at'=IN↔(h.j0 hr).oM c (λt=>((fh r).dC (h.fm hr)).lA t at'.2/\((fh r).dC (h.fm hr)).X t at'.2<((fh r).dC (h.fm hr)).M*at'.1)%2=1:=by
 have cu:=h.fm hr;rw[EY,h.Q4 hr at' hm hc];have l:=Net.OD (N:=(fh r).dC (h.fm hr)) ((h.j0 hr).sw c) at'.2;have g:eu r (λe=>if((fh r).dC (h.fm hr)).lA e at'.2 then(h.j0 hr).lF c e else 0)=eu r (λe=>if((fh r).dC (h.fm hr)).lA e at'.2/\((fh r).dC (h.fm hr)).X e at'.2<((fh r).dC (h.fm hr)).M*at'.1 then(h.j0 hr).lF c e else 0)+eu r (λe=>pb at' (hT e) (hF e)*(h.j0 hr).lF c e):=by
  rw[<-qS];refine mu λe he=>?_;have o:=(fh r).av4 cu he n;have f:yl at' (hT e) (hF e)=IN↔_:=o;unfold pb;by_cases lA:((fh r).dC (h.fm hr)).lA e at'.2
  .rw[b9 lA]
   rcases fI (((fh r).dC (h.fm hr)).X e at'.2) (((fh r).dC (h.fm hr)).M*at'.1)with x|x|x
   .rw[b9 ⟨lA,x⟩,b8 (λq=>by have:=(f.1 q).2;omega)]
    omega
   .have z:(h.j0 hr).lF c e=0:=by refine(h.j0 hr).xI λb p=>?_;have s:=h.G8 hr at' hm hc hoff (k:=(e,b)) he p;exact(fh r).aD0 cu he n s lA x
    rw[z];simp
   rw[b8 (λq=>by have:=q.2;omega),b9 (f.2 ⟨lA,x⟩)];omega
  rw[b8 lA,b8 (λq=>lA q.1),b8 (λq=>lA (f.1 q).1)];omega
 have i:eu ((fh r).dC (h.fm hr)).nz (λk=>if(h.j0 hr).c k=c then pb at' (hT k.1) (hF k.1)else 0)=eu r (λe=>pb at' (hT e) (hF e)*(h.j0 hr).lF c e)+2*eu r (λe=>if(h.j0 hr).c (e,IN)=c then pb at' (hT e) (hF e)else 0):=by
  rw[Net.BG,<-Fg,<-qS];refine mu λe he=>?_;show(if(h.j0 hr).c (e,IN)=c then pb at' (hT e) (hF e)else 0)+(if(h.j0 hr).c (e,IS)=c then pb at' (hT e) (hF e)else 0)=_;unfold Net.my.lF ind;generalize pb at' (hT e) (hF e)=v;by_cases lL:(h.j0 hr).c (e,IN)=c<;>by_cases fa:(h.j0 hr).c (e,IS)=c
  .simp only[b9 lL,b9 fa];omega
  .simp only[b9 lL,b8 fa];omega
  .simp only[b8 lL,b9 fa];omega
  simp only[b8 lL,b8 fa];omega
 have j:eu r (λe=>if((fh r).dC (h.fm hr)).lA e at'.2 then(h.j0 hr).lF c e else 0)=0:=by
  refine jX (mu λe he=>?_) l;by_cases q:((fh r).dC (h.fm hr)).lA e at'.2
  .simp only[b9 q]
  simp only[b8 q]
 have hs:(h.j0 hr).oM c (λt=>((fh r).dC (h.fm hr)).lA t at'.2/\((fh r).dC (h.fm hr)).X t at'.2<((fh r).dC (h.fm hr)).M*at'.1)=eu r (λe=>if((fh r).dC (h.fm hr)).lA e at'.2/\((fh r).dC (h.fm hr)).X e at'.2<((fh r).dC (h.fm hr)).M*at'.1 then(h.j0 hr).lF c e else 0):=by
  unfold Net.my.oM;refine mu λe he=>?_;by_cases q:((fh r).dC (h.fm hr)).lA e at'.2/\((fh r).dC (h.fm hr)).X e at'.2<((fh r).dC (h.fm hr)).M*at'.1
  .simp only[b9 q]
  simp only[b8 q]
 rw[hs,i];rw[j]at g;constructor
 .rintro ⟨_,q⟩;omega
 intro q;exact⟨hoff,by omega⟩
end eS
namespace eS
variable {a6:List ef} {al:List dk} {fs:List Int} (h:eS a6 al fs)
variable {r:List fy} (hr:mE a6 al al=U r)
include h
theorem vF{c:List Int}(hc:c∈lT a6 al):∃d,d∈c:=by obtain⟨e,m,he,hm,_,rfl⟩:=h.sS.1.u9 c hc;exact⟨_,qP.2 ⟨0,hm,rfl⟩⟩
theorem outer{c:List Int}(hc:c∈lT a6 al)(ha:0<mK a6 al c){d:Int}(a:d∈c):(h.j0 hr).xr c (lY a6 al d):=by
 refine(h.j0 hr).aL8 ((fh r).tM (h.fm hr)) ?_ (h.R' hr hc a) ?_
 .exact h.AX (h.o_ hc a) hr
 rw[h.zD hr hc];exact ha
theorem Cz{at':b6}(b:fc at'=IN){m:List (Int×List b6)}(hm:∀a∈al,ff fx a.1 m=pathOf a6 al a.1){c:List Int}(hc:c∈lT a6 al)(ha:0<mK a6 al c)(he:pd m c at'=IN) :
  (h.j0 hr).oM c (λt=>((fh r).dC (h.fm hr)).lA t at'.2/\((fh r).dC (h.fm hr)).X t at'.2<((fh r).dC (h.fm hr)).M*at'.1)=1:=by
 obtain⟨d,e⟩:=h.vF hc;have f:=h.outer hr hc ha e;have g:=(fh r).Kq (h.fm hr) at'.1 at'.2;have h1:=(h.Rj hr b hm hc ((EY m at' c).1 he).1).1 he;rcases(h.j0 hr).FA ((fh r).tM (h.fm hr)) f g with q|q
 .omega
 exact q
theorem as7{at':b6}(j:fc at'=IN){m:List (Int×List b6)}(hm:∀a∈al,ff fx a.1 m=pathOf a6 al a.1){c c':List Int}(hc:c∈lT a6 al)(b:c'∈lT a6 al)(f:c≠c')(ha:0<mK a6 al c)(e:0<mK a6 al c')
  (he:pd m c at'=IN) (g:pd m c' at'=IN):mK a6 al c≠mK a6 al c':=by
 obtain⟨d,k⟩:=h.vF hc;obtain⟨l,i⟩:=h.vF b;obtain⟨r,hr⟩:=h.x_;have h1:=h.Cz hr j hm hc ha he;have h2:=h.Cz hr j hm b e g;have:=(h.j0 hr).af1 ((fh r).tM (h.fm hr)) (h.outer hr hc ha k) (h.outer hr b e i) f ((fh r).Kq (h.fm hr) at'.1 at'.2) h1 h2;rw[h.zD hr hc,h.zD hr b]at this;exact this
end eS
namespace eS
variable {a6:List ef} {al:List dk} {fs:List Int} (h:eS a6 al fs)
variable {r:List fy} (hr:mE a6 al al=U r)
include h
theorem Q9:(lT a6 al).Nodup:=by have hp:=(cQ.1 h.sS.1.nodup).2;refine hp.imp_of_mem λ{c c'} hc b f e=>?_;obtain⟨d,a⟩:=h.vF hc;exact f d a d (e▸a) rfl
end eS
end Go.Ab
namespace Go.Pg
open Classical
namespace Net
namespace my
variable {ι κ:Type} {N:Net ι} (w:N.my κ) (hP:N.PY)
include hP
theorem bl1{C D:κ}{g d:lS ι}(f:w.xr C g)(u:w.xr D d)(J:¬w.lI g d)(ha:N.L (w.lF C) d=0){k:Int}{S:ι->Prop}(i:vp N k S)(h1:w.oM C S=1):w.oM D S=N.L (w.lF D) g:=by
 have j:∀h,w.lI d h->h.1∈N.E->¬w.c h=C:=λh a hm e=>J (w.nn (f.part h e hm) (w.r7 a));have l:∀h,w.lI g h->h.1∈N.E->¬w.c h=D:=λh a hm e=>J (w.nn a (w.r7 (u.part h e hm)));have m:∀h,w.lI d h->h.1∈N.E->N.L (w.lF C) h=0:=λh a hm=>by have v:=w.wy hP C a u.mem;rw[qo (j _ a hm),qo (j _ (.refl _) u.mem)]at v;omega
 have z:∀h,w.lI g h->h.1∈N.E->N.L (w.lF D) h=N.L (w.lF D) g:=λh a hm=>by have v:=w.wy hP D a f.mem;rw[qo (l _ a hm),qo (l _ (.refl _) f.mem)]at v;omega
 rcases w.last hP (g:=g) i with h|⟨v,hv,n,hc,B,o⟩
 .rw[w.zC f.part h]at h1;cases h1
 rw[w.vW hP f.part i hv n o]at h1;have G:∀t∈N.E,S t->N.key k v<N.key k t->∀b,¬w.lI d (t,b):=by intro t x p H b K;have I:=i.lA t x p;have M:N.L (w.lF C) (t,IN)=0:=m _ (w.nn K (w.qj t b IN)) x;rw[w.Lb hP x I]at M;have P:=w.vW hP f.part (Ib (N:=N) k (N.key k t)) hv ⟨hc,H⟩ (λs hs q r O=>o s hs (i.Ct t x s hs p q.1 q.2) r O);omega
 rw[w.vW hP u.part i hv n G];exact z _ (w.nn B (w.qj v IN IS)) hv
end my
end Net
end Go.Pg
namespace Go.Ab
open Go Go.Pg
open Classical
namespace eS
variable {a6:List ef} {al:List dk} {fs:List Int} (h:eS a6 al fs)
variable {r:List fy} (hr:mE a6 al al=U r)
include h
omit h in
theorem LI(k:Net.lS fy):k5 (Net.rev k)=- k5 k:=by grind[k5,na,vD,m_,uT,xK,Po,O7]
theorem ag1{n:ef}(a:n∈a6){e d:Int}(he:e∈l2 a6 al n)(b:d∈l2 a6 al n):(h.j0 hr).lI (lY a6 al e) (lY a6 al d):=by
 have prec:∀x∈l2 a6 al n,(h.j0 hr).lI (lY a6 al x) (lY a6 al (pf (l2 a6 al n) x)):=λx c=>by have hm:=(h.tx hr a c).1;have f:x∈l3 a6 al:=br.2 ⟨_,aC a,c⟩;have h2:=(h.AD hr (k:=Net.rev (lY a6 al x)) hm).2;rw[LI,h.ue f,h.xa a c]at h2;exact Net.my.nn _ (.rev (.refl _)) h2
 have all:∀(i:Nat) (a7:i<(l2 a6 al n).length),(h.j0 hr).lI (lY a6 al (l2 a6 al n)[i]) (lY a6 al ((l2 a6 al n)[0]'(by omega))):=by
  intro i
  induction i with
  |zero=>intro a7;exact .refl _
  |succ i g=>
   intro a7;have h1:=prec _ (au a7);have l:(i+1+(l2 a6 al n).length-1)%(l2 a6 al n).length=i:=by grind[l2,gK,eN]
   rw[HE (h.Eh a) a7]at h1;simp only[l]at h1;exact Net.my.nn _ h1 (g (by omega))
 obtain⟨i,a7,rfl⟩:=aH he;obtain⟨j,hj,rfl⟩:=aH b;exact Net.my.nn _ (all i a7) (Net.my.r7 _ (all j hj))
theorem Is{n:ef}(d:n∈a6){e:Int}(he:e∈l2 a6 al n){c:List Int}(z:∀k:Net.lS fy,k.1∈r->((fh r).dC (h.fm hr)).src k=(n.2.1,n.2.2)->(h.j0 hr).lF c k.1=0) :
  ((fh r).dC (h.fm hr)).L ((h.j0 hr).lF c) (lY a6 al e)=(h.j0 hr).oM c (λt=>((fh r).dC (h.fm hr)).lA t n.2.2/\((fh r).dC (h.fm hr)).X t n.2.2<((fh r).dC (h.fm hr)).M*n.2.1):=by
 have f:=(fh r).tM (h.fm hr);have g:=(h.j0 hr).sw c;have ha:=h.QS hr d;obtain⟨i,a7,rfl⟩:=aH he;have hl:=Net.DS f g ha (i:=i) (by simpa using a7);rw[cK]at hl;have j:eu (((l2 a6 al n).map (lY a6 al)).take (i+1)) (Net.dl ((h.j0 hr).lF c))=0:=sq λk hk=>by have:=(ha.mem k).1 (List.mem_of_mem_take hk);have:=z k this.1 this.2;unfold Net.dl;rw[this];cases k.2<;>rfl
 have l:((fh r).dC (h.fm hr)).Cc ((h.j0 hr).lF c) (n.2.1,n.2.2)=0:=sq λt b=>by
  split
  next q=>exact z (t,IS) b q.2
  rfl
 have m:((fh r).dC (h.fm hr)).Au ((h.j0 hr).lF c) (n.2.1,n.2.2)=0:=sq λt b=>by
  split
  next q=>exact z (t,IS) b q.2
  rfl
 have a:((fh r).dC (h.fm hr)).K_ (n.2.1,n.2.2):=by
  have:=h.tx hr d (au a7);refine⟨_,this.1,?_⟩;have s:=this.2.1;unfold Net.src at s
  grind[lY,l2]
 have li:=Net.line _ g n.2.2 (((fh r).dC (h.fm hr)).M*n.2.1);have o:=Net.Mq f ((h.j0 hr).lF c) a;have p:((fh r).dC (h.fm hr)).sZ ((h.j0 hr).lF c) n.2.2 (((fh r).dC (h.fm hr)).M*n.2.1)=0:=by rw[<-m];exact o
 rw[hl,j,l];have u:((fh r).dC (h.fm hr)).rW ((h.j0 hr).lF c) n.2.2 (((fh r).dC (h.fm hr)).M*n.2.1)=(h.j0 hr).oM c (λt=>((fh r).dC (h.fm hr)).lA t n.2.2/\((fh r).dC (h.fm hr)).X t n.2.2<((fh r).dC (h.fm hr)).M*n.2.1):=by
  unfold Net.rW Net.my.oM
  grind[fh]
 grind[fh]
theorem Fw{n:ef}{m:List (Int×List b6)}(hm:∀a∈al,ff fx a.1 m=pathOf a6 al a.1){c:List Int}(hc:c∈lT a6 al)(hoff:∀d∈c,tL (n.2.1,n.2.2) ((ff fx (lN d) m).getD [])=IS) :
  ∀k:Net.lS fy,k.1∈r->((fh r).dC (h.fm hr)).src k=(n.2.1,n.2.2)->∀b,(h.j0 hr).c (k.1,b)≠c:=by
 intro k hk hs b f;have h1:=h.G8 hr (n.2.1,n.2.2) hm hc hoff (k:=(k.1,b)) hk f;obtain⟨a,p,i,o⟩:=h.sj hr hk;obtain⟨g,pY⟩:=h.x9 o;have e:(n.2.1,n.2.2)=hT k.1\/(n.2.1,n.2.2)=hF k.1:=by rw[<-hs];rcases xK k with q|q<;>grind[xK,left,y8,zi]
 grind[O9]
omit h in
theorem NO(at':b6):∀(l:List b6) (p:b6),(∀(i:Nat) (x y:b6),(p::l)[i]?=U x->(p::l)[i+1]?=U y->l_ x y at'=IS)->u7 at' p l=IS
 | [],p,_=>rfl
 |q::l,p,a=>by unfold u7;rw[a 0 p q rfl rfl,NO at' l q λi x y b c=>a (i+1) x y (by simpa using b) (by simpa using c)];rfl
theorem TZ{n:ef}(b:n∈a6){e:Int}(he:e∈l2 a6 al n){m:List (Int×List b6)}(hm:∀a∈al,ff fx a.1 m=pathOf a6 al a.1){c:List Int}(hc:c∈lT a6 al)(j:∀d∈c,¬(h.j0 hr).lI (lY a6 al d) (lY a6 al e)) :
  ∀d∈c,tL (n.2.1,n.2.2) ((ff fx (lN d) m).getD [])=IS:=by
 intro d v;obtain⟨a,ha,p,hp,s⟩:=h.EU (h.o_ hc v);have w:=h.p7 ha;have B:lN d=a.1:=by grind[lN]
 rw[B,hm a ha,hp];cases p with
 |nil=>rfl
 |cons p0 l=>
  refine NO _ l p0 λi x y C D=>?_;cases E:l_ x y (n.2.1,n.2.2)with
  |false=>rfl
  |true=>
   exfalso;have a7:i+1<(p0::l).length:=by grind[dc,bM]
   have hs:(mi a (p0::l),(i:Int))∈r:=uL hr a ha _ hp _ (vv a7);have o:oQ a6 al (mi a (p0::l),(i:Int)) a (p0::l) i:=⟨ha,hp,a7,rfl⟩;have G:hT (mi a (p0::l),(i:Int))=x:=aQ (o.rM.symm.trans C);have ek:hF (mi a (p0::l),(i:Int))=y:=aQ (o.si.symm.trans D);have at':=h.Ej o b (h.free hr hs n b) (by rw[G,ek];exact E);have fin:∃g∈l2 a6 al n,(lY a6 al g).1=(mi a (p0::l),(i:Int)):=by
    rcases at' with⟨q,f,_⟩|⟨q,f,_⟩
    .refine⟨a.1,(h.su b).2 ⟨a,ha,bk ⟨f,rfl⟩⟩,?_⟩
     rw[h.AY ha hp,q];rfl
    refine⟨-a.1,(h.su b).2 ⟨a,ha,a_ ⟨f,rfl⟩⟩,?_⟩;rw[h.CD ha hp,show(p0::l).length-2=i by omega];rfl
   obtain⟨g,t,hf⟩:=fin;have c1:=h.ag1 hr b t he;have c2:∃k:Net.lS fy,k.1=(mi a (p0::l),(i:Int))/\k5 k=d:=by
    rcases s with⟨q,_⟩|⟨q,_⟩
    .exact⟨na (mi a (p0::l),(i:Int)),rfl,by unfold k5;rw[vD,b9 rfl];exact q.symm⟩
    exact⟨m_ (mi a (p0::l),(i:Int)),rfl,by unfold k5;rw[uT,b8 (by simp)];exact q.symm⟩
   obtain⟨k,hk,u⟩:=c2;have z:=(h.AD hr (k:=k) (by rw[hk];exact hs)).1;rw[u]at z;have H:(h.j0 hr).lI k (lY a6 al g):=by
    have:=(h.j0 hr).qj k.1 k.2 (lY a6 al g).2
    grind[lY]
   exact j d v (Net.my.nn _ z (Net.my.nn _ H c1))
end eS
namespace eS
variable {a6:List ef} {al:List dk} {fs:List Int} (h:eS a6 al fs)
variable {r:List fy} (hr:mE a6 al al=U r)
include h
theorem Rx{m:List (Int×List b6)}(hm:∀a∈al,ff fx a.1 m=pathOf a6 al a.1){D:List Int}(s:D∈lT a6 al):∃d∈D,∃n∈a6,∃e∈l2 a6 al n,oo m D=(n.2.1,n.2.2)/\fc (oo m D)=IN/\(h.j0 hr).lI (lY a6 al e) (lY a6 al d):=by
 obtain⟨d1,va⟩:=h.vF s;have t:D.headD 0∈D:=by
  cases D with
  |nil=>simp at va
  |cons x l=>simp
 have i:=h.o_ s t;obtain⟨a,ha,p,hp,b⟩:=h.EU i;have u:=h.p7 ha;have z:lN (D.headD 0)=a.1:=by unfold lN;rcases b with⟨q,_⟩|⟨q,_⟩<;>omega
 obtain⟨⟨n,j,g⟩,_⟩:=h.xb ha;have hl:=h.FD ha hp;have o:oQ a6 al (mi a p,((0:Nat):Int)) a p 0:=⟨ha,hp,by omega,rfl⟩;have hs:(mi a p,((0:Nat):Int))∈r:=uL hr a ha p hp _ (vv (by omega));have v:=h.BE o rfl j g.symm;have w:oo m D=(n.2.1,n.2.2):=by unfold oo;rw[z,hm a ha,hp];have:=o.rM;rw[v]at this;simp only[Option.getD_some,this]
 refine⟨_,t,n,j,a.1,(h.su j).2 ⟨a,ha,bk ⟨g.symm,rfl⟩⟩,w,by rw[w,<-v];exact(h.x9 o).1,?_⟩;rw[h.AY ha hp];rcases b with⟨q,f⟩|⟨q,f⟩
 .rw[f];exact .refl _
 have c:=(h.AD hr (k:=m_ (mi a p,((0:Nat):Int))) hs).1;have B:k5 (m_ (mi a p,((0:Nat):Int)))=D.headD 0:=by unfold k5;rw[uT,b8 (by simp)];exact q.symm
 rw[B]at c;exact Net.my.nn _ ((h.j0 hr).qj _ _ _) (Net.my.r7 _ c)
end eS
def q8(x:l6):Int×List Int:=(x.1,x.2.1)
theorem R4{m:List (Int×List b6)}{at':b6}{L c:List l6}(d:L.map q8=c.map q8):∀(r a:List l6) (i b:Nat),r.map q8=a.map q8->ug m at' L r i b=ug m at' c a i b
 | [],[],_,_,_=>rfl
 | [],_::_,_,_,h=>by simp at h
 |_::_,[],_,_,h=>by simp at h
 |x::r,y::a,i,b,h=>by
  simp only[ay,cG,q8,cq]at h;have e:yj L b=yj c b:=by
   have:=mP (λl=>(l[b]?).map jB) d
   grind[dw,q8,yj]
  simp only[ug];rw[h.1.1,h.1.2,e];exact R4 d r a _ _ (by simpa[q8]using h.2)
def Sw{m:List (Int×List b6)}{L a:List l6}(b:L.map q8=a.map q8)(at':b6):p_ m L at'=p_ m a at':=by grind[p_,R4,List.map_tail]
def WD(L:List l6)(k:Nat)(c:List Int):(pr L k c).map q8=L.map q8:=by
 unfold pr;cases a:L[k]? with
 |none=>rfl
 |some x=>
  simp only[List.map_set];refine List.ext_getElem? λi=>?_;rw[List.getElem?_set];by_cases e:k=i
  .subst e
   have hk:k<L.length:=by grind[dc,bM]
   rw[b9 rfl,b9 (by simpa using hk),aX,a];rfl
  rw[b8 e]
def bk6(L:List l6)(k:Nat)(c:List Int)(i:Nat):(pr L k c)[i]?=(L[i]?).map (λx=>(x.1,x.2.1,x.2.2.1++(if k=i then [c]else []),x.2.2.2)):=by grind[pr,dc,bM]
def H9{m:List (Int×List b6)}{L0:List l6}:∀(R:List (List Int)) (L:List l6),L.map q8=L0.map q8->∀(k:Nat),(qW m R L)[k]?=(L[k]?).map (λx=>(x.1,x.2.1,x.2.2.1++R.filter (λc=>IT (p_ m L0 (oo m c)=k)),x.2.2.2))
 | [],L,_,k=>by simp[qW]
 |c::R,L,a,k=>by
  have e:=Sw (m:=m) a (oo m c);simp only[qW];rw[H9 R _ ((WD L _ c).trans a) k,bk6,dw,e]
  grind[cx,p_,oo]
theorem bs1(L:List l6)(k:Nat)(c:Int)(i:Nat):((rX L k c)[i]?).map (λx=>(x.1,x.2.1,x.2.2.1))=(L[i]?).map (λx=>(x.1,x.2.1,x.2.2.1)):=by grind[rX,dc,bM]
def Nn{a6:List ef}{al:List dk}{m:List (Int×List b6)}:∀(R:List ef) (L:List l6) (i:Nat),((qB a6 al m R L)[i]?).map (λx=>(x.1,x.2.1,x.2.2.1))=(L[i]?).map (λx=>(x.1,x.2.1,x.2.2.1))
 | [],_,_=>rfl
 |n::R,L,i=>by
  simp only[qB];rw[Nn R]
  grind[oP,bs1]
def PW(m:List (Int×List b6))(at':b6)(L pre:List l6)(b:Nat):Prop :=(b=0/\∀x∈pre,pd m x.2.1 at'=IS)\/∃y,L[b]?=U y/\1<=b/\pd m y.2.1 at'=IN/\∀x∈pre,pd m x.2.1 at'=IN->y.1<=x.1
def Td{m:List (Int×List b6)}{at':b6}{L:List l6}:∀(r:List l6) (pre:List l6) (b:Nat),L.tail=pre++r->PW m at' L pre b->PW m at' L (pre++r) (ug m at' L r (pre.length+1) b)
 | [],pre,b,_,h=>by rw[cM];exact h
 |x::r,pre,b,hp,h=>by
  have d:L[pre.length+1]?=U x:=by rw[<-List.getElem?_tail,hp];simp
  simp only[ug];have e:pre++x::r=(pre++[x])++r:=by simp
  have el:pre.length+1+1=(pre++[x]).length+1:=by simp
  rw[e,el];refine Td r (pre++[x]) _ (hp.trans e) ?_;cases he:pd m x.2.1 at' with
  |false=>
   rw[Bool.and_false,ct];rcases h with⟨h1,h2⟩|⟨y,h1,h2,c,f⟩
   .refine bk ⟨h1,λz hz=>?_⟩
    grind[aG]
   refine a_ ⟨y,h1,h2,c,λz hz a=>?_⟩
   grind[aG]
  |true=>
   rw[Bool.and_true];rcases h with⟨h1,h2⟩|⟨y,h1,h2,c,f⟩
   .rw[h1,mw (rfl:(0:Nat)=0),Bool.true_or,dn]
    refine a_ ⟨x,d,by omega,he,λz hz a=>?_⟩
    grind[aG]
   have g:yj L b=y.1:=by unfold yj;rw[h1];rfl
   rw[g,mN (show ¬b=0 by omega),dt];by_cases q:x.1<y.1
   .rw[mw q,dn]
    refine a_ ⟨x,d,by omega,he,λz hz a=>?_⟩
    grind[aG]
   rw[mN q,ct];refine a_ ⟨y,h1,h2,c,λz hz a=>?_⟩
   grind[aG]
theorem Tl{al:List dk}{k:Nat}:∀ {l:List l6} {seen out:List Int},(ns al k IS l seen out).2=IN->∀a∈l,∃f,∀c∈nM a,∀d∈c,l5 al d=f
 | [],_,_,_,a,ha=>by simp at ha
 |x::l,seen,out,h,a,ha=>by
  simp only[ns]at h;cases h1:IT (l5 al (x.2.1.headD 0)=0)||IT (l5 al (x.2.1.headD 0)∈seen)with
  |true=>rw[h1,dn]at h;cases h
  |false=>
   rw[h1,ct]at h;cases h2:(nM x).all (λc=>c.all λd=>IT (l5 al d=l5 al (x.2.1.headD 0)))with
   |false=>rw[h2,ct]at h;cases h
   |true=>
    rw[h2,dn]at h;rcases aI.1 ha with rfl|ha
    .refine⟨l5 al (a.2.1.headD 0),λc hc d b=>?_⟩
     grind[ak]
    exact Tl h a ha
def R1{al:List dk}{k:Nat}{a:l6}{l:List l6}(h:(ns al k IN (a::l) [] []).2=IN):(∀c∈nM a,∀d∈c,l5 al d=0)/\∀b∈l,∃f,∀c∈nM b,∀d∈c,l5 al d=f:=by grind[ns,nM,l5,ak,Tl]
end Go.Ab
namespace Go.Ab
open Go Go.Sort Go.Proofs Go.Shelf
theorem Mk{al:List dk}{k:Nat}:∀(L:List l6) (b:Bool) (seen out:List Int),(ns al k b L seen out).2=IN->(ns al k b L seen out).1.length=out.length+L.length
 | [],b,seen,out,_=>by cases b<;>rfl
 |x::L,IN,seen,out,h=>by
  simp only[ns]at h⊢;cases hc:(nM x).all (λc=>c.all λd=>IT (l5 al d=0))with
  |false=>rw[hc]at h;simp at h
  |true=>rw[hc,dn]at h;rw[dn,Mk L _ _ _ h];simp only[aT,aA,bL];omega
 |x::L,IS,seen,out,h=>by
  simp only[ns]at h⊢;generalize l5 al (x.2.1.headD 0)=f at h⊢;cases a:IT (f=0)||IT (f∈seen)with
  |true=>rw[a]at h;simp at h
  |false=>
   rw[a,ct]at h;rw[ct];cases hc:(nM x).all (λc=>c.all λd=>IT (l5 al d=f))with
   |false=>rw[hc]at h;simp at h
   |true=>rw[hc,dn]at h;rw[dn,Mk L _ _ _ h];simp only[aT,aA,bL];omega
namespace Dp
def G5(l:List t'):Ordered zW l :=Cd (λx _=>by grind[zW,qu]) (λx _ y _ z _ a b=>by unfold zW at *;rw[qu]at *;omega) (λx _ y _ z _ a b=>by unfold zW at *;rw[qu]at *;omega)
theorem bm5{l:List t'}(hl:l.length<=1000000):DJ (l,4,())=U (nG zW l):=by unfold DJ;simp only[lV,dn];refine Cy (λx _ y _=>?_) (G5 l) (by omega);unfold D1;simp only[cmp_eq,cr];rfl
section
variable {a6:List ef} {al:List dk} {fs:List Int} (h:eS a6 al fs) (hf:(ns al fs.length IN (nw a6 al) [] []).2=IN)
include h hf
theorem Ps:(rz a6 al fs).length=(nw a6 al).length:=by grind[rz,Mk]
theorem Xg:(xh (rz a6 al fs) (nw a6 al)).length=(nw a6 al).length:=by unfold xh;rw[List.length_zipWith,Ps h hf,Nat.min_self]
theorem aZ0:yx (a6,al,fs)=U (Gl a6 al fs,0):=by
 obtain⟨d,hlen⟩:=h.Eg;have b:=h.Hk (l:=nw a6 al) hlen (λa ha=>by obtain⟨h1,h2,g⟩:=d.all a ha;exact⟨h1,h2,by omega⟩) d.ne;have hdiv:wo ((a6,al,fs),eS.lT a6 al,j9 a6 al)=U (nw a6 al):=h.Hf h.xH;have hz:=Xg h hf;have hl:=Ps h hf;unfold yx;simp only[h.Gy,cr,lV,ax,ct,h.IJ,hdiv,b,hf];have c:(nw a6 al).length<=1000000:=hlen;refine(oU (A:=List t') (xh (rz a6 al fs) (nw a6 al)) (λi a=>(a,(i:Int))) (λa rest=>U (nG zW (a++rest),0)) (λi a=>a.length=i) (by omega) ?_ ?_ [] rfl).trans rfl
 .grind[bm5,cr]
 intro rec i a x rest a7 j f k;rw[hz]at a7;have e:(xh (rz a6 al fs) (nw a6 al))[i]?=U x:=by rw[<-mJ];exact mq f
 unfold xh at e;rw[List.getElem?_zipWith]at e
 grind[rz,ae,nw,aQ,ns,lJ,mJ,cr,nE,lG]
end
end Dp
open Go Go.Pg
def rD(al:List dk)(a:l6):Int:=l5 al (a.2.1.headD 0)
theorem Hi{al:List dk}{k:Nat}:∀ {l:List l6} {seen out:List Int},(ns al k IS l seen out).2=IN->seen.Nodup ->
  (ns al k IS l seen out).1=out++l.map (rD al)/\(seen++l.map (rD al)).Nodup/\(0:Int)∉l.map (rD al)/\seen.length+l.length=k/\∀a∈l,∀c∈nM a,∀d∈c,l5 al d=rD al a
 | [],seen,out,h,e=>by grind[ns,bL]
 |x::l,seen,out,h,e=>by
  simp only[ns]at h⊢;cases h1:IT (l5 al (x.2.1.headD 0)=0)||IT (l5 al (x.2.1.headD 0)∈seen)with
  |true=>rw[h1,dn]at h;cases h
  |false=>
   rw[h1,ct]at h;rw[ct];cases h2:(nM x).all (λc=>c.all λd=>IT (l5 al d=l5 al (x.2.1.headD 0)))with
   |false=>rw[h2,ct]at h;cases h
   |true=>
    rw[h2,dn]at h;rw[dn];simp only[bU,nu]at h1;have b:(seen++[l5 al (x.2.1.headD 0)]).Nodup:=by grind[bQ,aG]
    obtain⟨lL,fa,j7,lP,nA⟩:=Hi h b
    grind[rD,aT,aA,bL,ak]
namespace Dp
section
variable {a6:List ef} {al:List dk} {fs:List Int} (h:eS a6 al fs) (hf:(ns al fs.length IN (nw a6 al) [] []).2=IN)
include h hf
theorem Xl{r:t'}(hr:r∈Gl a6 al fs)(D:r.2.1≠[])(a7:r.2.2.1=[]):r.1≠0/\r.2.1∈eS.lT a6 al/\0<mK a6 al r.2.1/\(∀d∈r.2.1,l5 al d=r.1)/\∀d∈eS.l3 a6 al,l5 al d=r.1->d∈r.2.1:=by
 have hz:r∈xh (rz a6 al fs) (nw a6 al):=(q4 (G5 _)).mem_iff.1 hr;have E:∃cs,cs=eS.lT a6 al:=⟨_,rfl⟩;obtain⟨cs,p⟩:=E;have hA:nw a6 al=tv a6 al (j9 a6 al) cs:=by rw[p];rfl
 let m:=j9 a6 al
 let outs:=cs.filter λc=>IT (0<mK a6 al c)
 let q:=cs.filter λc=>!decide (0<mK a6 al c)
 let fd:List Int->Nat:=λc=>p_ m (oR a6 al cs) (oo m c)
 have l7:∀k,((nw a6 al)[k]?).map (λx=>(x.1,x.2.1,x.2.2.1))=((oR a6 al cs)[k]?).map (λx=>(x.1,x.2.1,x.2.2.1++q.filter (λc=>IT (fd c=k)))):=λk=>by rw[hA];unfold tv;rw[Nn,H9 _ _ rfl k,dw];rfl
 have n:(oR a6 al cs).length=outs.length+1:=by unfold oR;simp[outs]
 have G:∀c,fd c<outs.length+1:=λc=>by
  rw[<-n];refine MF m _ _ _ 1 0 _ ?_ ?_
  .rw[List.length_tail];omega
  omega
 cases f:nw a6 al with
 |nil=>have h1:=l7 0;rw[f]at h1;simp[oR]at h1
 |cons a0 l=>
  have v:∀c∈nM a0,∀d∈c,l5 al d=0:=by rw[f]at hf;exact(R1 hf).1
  have H:(ns al fs.length IS l [] [0]).2=IN:=by
   rw[f]at hf;simp only[ns]at hf;cases h2:(nM a0).all (λc=>c.all λd=>IT (l5 al d=0))with
   |false=>rw[h2,ct]at hf;cases hf
   |true=>rw[h2,dn]at hf;exact hf
  obtain⟨lL,fa,j7,lP,nA⟩:=Hi H .nil;have I:rz a6 al fs=0::l.map (rD al):=by
   unfold rz;rw[f];simp only[ns];have h2:(nM a0).all (λc=>c.all λd=>IT (l5 al d=0))=IN:=by rw[ak];intro c hc;rw[ak];intro d f;exact mw (v c hc d f)
   rw[h2,dn];exact lL
  have s:a0.2.1=[]:=by have h1:=l7 0;rw[f]at h1;simp only[oR,cX,aj,ai,cq]at h1;exact h1.2.1
  have J:∃a∈l,r=(rD al a,a.2.1,a.2.2.1,a.2.2.2):=by
   rw[I,f]at hz;unfold xh at hz;rw[List.zipWith_cons_cons]at hz;rcases aI.1 hz with e|hz
   .rw[e]at D;exact(D s).elim
   rw[List.zipWith_map_left]at hz;obtain⟨i,a7,e⟩:=aH hz;rw[List.getElem_zipWith]at e;exact⟨_,au _,e.symm⟩
  obtain⟨a,ha,rfl⟩:=J;simp only at D a7⊢;have w:rD al a≠0:=λe=>j7 (e▸aC ha);obtain⟨k,hk,t⟩:=aH ha;have K:(nw a6 al)[k+1]?=U a:=by rw[f,aM,ae hk,t]
  have z:∃C,outs[k]?=U C/\a.2.1=C/\a.2.2.1=q.filter (λc=>IT (fd c=k+1)):=by
   have h1:=l7 (k+1);rw[K]at h1;unfold oR at h1;rw[aM,aX]at h1;cases B:(cs.filter λc=>IT (0<mK a6 al c))[k]? with
   |none=>rw[B]at h1;simp at h1
   |some C=>rw[B]at h1;simp only[aj,ai,cq,bq]at h1;exact⟨C,rfl,h1.2.1,h1.2.2⟩
  obtain⟨C,B,e1,e2⟩:=z;obtain⟨M,N⟩:=aD.1 (aJ B);refine⟨w,by rw[e1,<-p];exact M,by rw[e1];exact sK N,λd f=>nA a ha _ (cn ..) d f,λd O hs=>?_⟩;obtain⟨c,hc,u⟩:=br.1 (h.sS.2 d O);rw[<-p]at hc;have P:∃i:Nat,∃b,(nw a6 al)[i]?=U b/\c∈nM b:=by
   by_cases hp:0<mK a6 al c
   .obtain⟨j,hj,hjc⟩:=aH (show c∈outs from aD.2 ⟨hc,mw hp⟩)
    have h1:=l7 (j+1)
    grind[oR,mK,aM,ae,nw,ai,cq,nM,cn]
   have Q:c∈q:=aD.2 ⟨hc,by simp[hp]⟩;have h1:=l7 (fd c);have R:fd c<(oR a6 al cs).length:=by rw[n];exact G c
   rw[ae R]at h1;cases S:(nw a6 al)[fd c]? with
   |none=>rw[S]at h1;simp at h1
   |some b=>rw[S]at h1;simp only[aj,ai,cq]at h1;exact⟨fd c,b,S,by unfold nM;rw[h1.2.2];exact bB _ (cC _ (aD.2 ⟨Q,by simp⟩))⟩
  obtain⟨i,b,o,g⟩:=P;rw[f]at o;cases i with
  |zero=>rw[cX]at o;cases o;exact(w (by rw[<-hs];exact v c g d u)).elim
  |succ i=>
   rw[aM]at o;have n:=aJ o;have e3:rD al b=rD al a:=by rw[<-nA b n c g d u,hs]
   have V:i=k:=by
    obtain⟨a7,hib⟩:=ao.1 o;have q2':(l.map (rD al)).Nodup:=by simpa using fa
    refine(dL (h₀:=by simpa using a7) (h₁:=by simpa using hk) q2').1 ?_;simp only[cK,hib,t,e3]
   subst V;have:b=a:=by rw[ae hk]at o;rw[<-t];exact(aQ o).symm
   subst this;unfold nM at g;rw[a7]at g;rw[<-aG.1 g];exact u
end
end Dp
def y'{α:Type}(f:α->Int):∀l:List α,eu l (λa=>-f a)=-eu l f
 | []=>rfl
 |a::l=>by simp only[eu,y' f l];omega
def nB(p:Int)(a:dk):Bool:=!decide (a.2.2.2.2.1=p)&&!decide (a.2.2.2.2.2=p)
namespace Dp
section
variable {a6:List ef} {al:List dk} {fs:List Int} (h:eS a6 al fs)
include h
theorem HS{a:dk}(ha:a∈al):l5 al a.1=a.2.2.2.2.1/\l5 al (-a.1)=a.2.2.2.2.2:=by
 have c:=h.num ha;have b:=h.vA ha;constructor
 .unfold l5
  have e:lN a.1=a.1:=by unfold lN;omega
  rw[b8 (by omega),e,b];simp only;rw[b9 (by omega)]
 unfold l5;have e:lN (-a.1)=a.1:=by unfold lN;omega
 rw[b8 (by omega),e,b];simp only;rw[b8 (by omega)]
theorem N5{d:Int}(b:l5 al d≠0):l5 al d∈fs:=by
 have hc:=h.conn;unfold vt at hc;have e:al.any (λa=>!((IT (a.2.2.2.2.1=0)||IT (a.2.2.2.2.1∈fs))&&(IT (a.2.2.2.2.2=0)||IT (a.2.2.2.2.2∈fs))))=IS:=by
  cases g:al.any (λa=>!((IT (a.2.2.2.2.1=0)||IT (a.2.2.2.2.1∈fs))&&(IT (a.2.2.2.2.2=0)||IT (a.2.2.2.2.2∈fs))))with
  |false=>rfl
  |true=>rw[g]at hc;generalize uz [] a6=i at hc;generalize(al.any λa=>!(IT (a.2.1∈a6.map (·.1))&&IT (a.2.2.1∈a6.map (·.1))))=j at hc;revert hc;cases i<;>cases j<;>decide
 have c:∀a∈al,(a.2.2.2.2.1=0\/a.2.2.2.2.1∈fs)/\(a.2.2.2.2.2=0\/a.2.2.2.2.2∈fs):=λa ha=>by have:=bC.1 e a ha;simp only[bS,Bool.not_eq_false,ab,bD,gb]at this;exact this
 unfold l5 at b⊢;split at b
 .exact(b rfl).elim
 rename_i k;rw[b8 k];split at b
 next a f=>
  have ha:a∈al:=bj f;split at b
  next hp=>rw[b9 hp];exact(c a ha).1.resolve_left b
  rename_i hp;rw[b8 hp];exact(c a ha).2.resolve_left b
 exact(b rfl).elim
variable (hf:(ns al fs.length IN (nw a6 al) [] []).2=IN)
include hf
end
end Dp
set_option maxRecDepth 10000
def L3{α β:Type}{F:(α->Option β)->α->Option β}{x y:α}{v:Option β}(h1:∀rec,rec y=v->F rec x=v)(h2:∀rec,F rec y=v):rounds F x=v:=by obtain⟨n,a⟩:∃n,many=n+2:=⟨many-2,by have:=Nq;omega⟩;show iter F many x=v;rw[a];exact h1 _ (h2 _)
def LK{S β α M:Type}(l:List α)(b:α->Bool)(c:M->α->M){F:(S->Option β)->S->Option β}(st:Nat->M->List α->Nat->S)(R:Option β)(hl:l.length<2^62){i:Nat}(m0:M)
  (a7:i<l.length) (f:∀x∈l.take i,b x=IN) (v:∀x,l[i]?=U x->b x=IS)
  (g:∀rec row w,row.length=l.length->w<=l.length->row.take w=l.filter b->F rec (st l.length ((l.drop (i+1)).foldl (λm a=>if b a=IN then m else c m a) m0) row w)=R)
  (e:∀rec j m row w x,j<l.length->w<j->row.length=l.length->row[j]?=U x->rec (st (j+1) (if b x=IN then m else c m x) (if b x=IN then row.set w x else row) (if b x=IN then w+1 else w))=R->F rec (st j m row w)=R) :
  rounds F (st (i+1) m0 l i)=R:=by
 have o:(l.take (i+1)).filter b=l.take i:=by rw[bR,ae a7,jC];have h2:b l[i]=IS:=v _ (ae a7);simp only[Option.toList_some,bw,h2,aq,j2,gT,cM];exact di.2 f
 have key:∀(d j n:Nat) (m:M) (row:List α) (w:Nat),j+d=l.length->w<j->row.length=l.length->row.take w=(l.take j).filter b->row.drop j=l.drop j->m=((l.take j).drop (i+1)).foldl (λm a=>if b a=IN then m else c m a) m0->i+1<=j->d<n->iter F n (st j m row w)=R:=by
  intro d
  induction d with
  |zero=>
   intro j n m row w hj hw k h1 h2 hm p z;have:j=l.length:=by omega
   subst this;cases n with
   |zero=>omega
   |succ n=>rw[cB]at h1 hm;rw[hm];exact g _ row w k (by omega) h1
  |succ d B=>
   intro j n m row w hj hw k h1 h2 hm p z;cases n with
   |zero=>omega
   |succ n=>
    have h:j<l.length:=by omega
    have r:row[j]?=l[j]?:=by have:=mP (λq:List α=>q[0]?) h2;simpa using this
    have t:l[j]?=U l[j]:=ae h;have u:l.take (j+1)=l.take j++[l[j]]:=by rw[bR,t];rfl
    have Dk:row.drop (j+1)=l.drop (j+1):=by have:=mP (kf 1) h2;simpa[eD,fF]using this
    have s:(l.take (j+1)).drop (i+1)=(l.take j).drop (i+1)++[l[j]]:=by rw[u,List.drop_append_of_le_length (by simp;omega)]
    refine e (iter F n) j m row w l[j] h hw k (by rw[r,t]) ?_;refine B (j+1) n _ _ _ (by omega) ?_ ?_ ?_ ?_ ?_ (by omega) (by omega)
    .split<;>omega
    .split<;>simp[k]
    .rw[u,jC,<-h1]
     by_cases hk:b l[j]=IN
     .simp only[hk,jj,bw,gT]
      rw[bR,fR (by omega),js (aw w)];rfl
     simp only[hk,j2,aq,bw,gT,cM]
    .split
     .rw[jt (by omega)];exact Dk
     exact Dk
    rw[s,g_,<-hm];rfl
 refine key (l.length-(i+1)) (i+1) many m0 l i (by omega) (by omega) rfl o.symm rfl ?_ (aw _) (ed (show l.length-(i+1)<2^100 by omega) Cw);rw[List.drop_of_length_le (by simp;omega)];rfl
namespace Dp
def ob(p:Int)(l:List dk)(m:List (Int×Bool)):List (Int×Bool):=l.foldl (λm a=>if nB p a=IN then m else k7 fx a.2.2.1 IN (k7 fx a.2.1 IN m)) m
def nj:List ef->Int->Int
 | [],c=>c
 |n::r,c=>nj r (bif IT (n.1=c)then c+1 else c)
def tl(id c:Int)(f:l9):l9:=bif IT (f.1=id)then(f.1,8,f.2.2.1,f.2.2.2.1,[c])else f
def we(x y:ef):Int:=tR x.1 y.1
def pU(m:List (Int×Bool))(n:ef):Bool:=!((ff fx n.1 m).getD IS)
def nU(a6:List ef)(al:List dk)(fs:List Int)(l:List l9)(id p:Int)(at':b6):List ef×List dk×List Int×List l9 :=(nG we (a6.filter (pU (ob p al []))++[(nj a6 1,at'.1,at'.2)]),al.filter (nB p),fs.filter (λf=>!decide (f=p)),l.map (tl id (nj a6 1)))
theorem B4(l:List ef):Ordered we l :=Cd (λx _=>by grind[we,qu]) (λx _ y _ z _ a b=>by unfold we at *;rw[qu]at *;omega) (λx _ y _ z _ a b=>by unfold we at *;rw[qu]at *;omega)
def bn5{l:List ef}(hl:l.length<=1000000):DR (l,3,())=U (nG we l):=by unfold DR;simp only[lV,dn];refine Cy (λx _ y _=>?_) (B4 l) (by omega);unfold DW;simp only[cmp_eq,cr];rfl
end Dp
namespace Dp
def PU{l:List ef}(h:l.length<=1000000):DF l=U l:=by unfold DF;rw[nE (by decide) (by simp;omega),bq]
def Yd{l:List b6}(h:l.length<=1000000):Dn l=U l:=by unfold Dn;rw[nE (by decide) (by simp;omega),bq]
def J5{l:List Int}(h:l.length<=1000000):Dm l=U l:=by unfold Dm;rw[nE (by decide) (by simp;omega),bq]
def rr{i n:Nat}(h:i<n):(bif IT (0<=(i:Int))&&IT ((i:Int)<(n:Int))then U ()else No)=U ():=by
 have h1:IT (0<=(i:Int))=IN:=by simp
 rw[h1,lJ h];rfl
def rS{α:Type}(l:List α)(i:Nat):l[((i:Nat):Int).toNat]?=l[i]?:=rfl
def Il(i:Nat):IT ((i:Int)=-1)=IS:=by rw[nu];omega
def E3{α:Type}{l:List α}{i:Nat}{x:α}{rest:List α}(h:l.drop i=x::rest):l[i]?=U x:=by rw[<-mJ];exact mq h
def wO{α β:Type}{row:List α}{n w:Nat}(b:row.length=n)(hw:w<=n)(K:List α->Option β) :
  (a8 (sb (row.length:Int) (w:Int)) λv=>a8 (uF row v.1 v.2) λu=>a8 (uB (row.length:Int) (u.length:Int) (w:Int)) λ_=>K u)=K (row.take w):=by
 have h1:sb (row.length:Int) (w:Int)=U ((w:Int),(row.length:Int)-(w:Int)):=by
  unfold sb;have:(IT (0<=(w:Int))&&IT ((w:Int)<=(row.length:Int)))=IN:=by simp;omega
  rw[this];rfl
 have h2:uF row (w:Int) ((row.length:Int)-(w:Int))=U (row.take w):=by
  unfold uF;have:(IT (0<=(w:Int))&&(IT (0<=(row.length:Int)-(w:Int))&&IT ((w:Int)+((row.length:Int)-(w:Int))=(row.length:Int))))=IN:=by simp;omega
  rw[this];simp
 have a:uB (row.length:Int) ((row.take w).length:Int) (w:Int)=U IN:=by
  unfold uB;have:(IT (0<=(w:Int))&&(IT ((w:Int)<=(row.length:Int))&&IT ((w:Int)=((row.take w).length:Int))))=IN:=by simp;omega
  rw[this];rfl
 rw[h1,cr];simp only;rw[h2,cr,a,cr]
def AW{α β:Type}{xs:List α}{i:Nat}{f:α->β->α}{v:β}{x:α}(h:xs[i]?=U x):rG xs ((i:Nat):Int).toNat f v=U (xs.set i (f x v)):=by
 unfold rG;have e:((i:Nat):Int).toNat=i:=by simp
 rw[e,h]
def LJ{β α:Type}(l:List α)(a:α->Bool){F:(Int->Option β)->Int->Option β}(R:Option β)(hl:l.length<2^62)
  (d:∀rec,(∀x∈l,a x=IN)->F rec (l.length:Int)=R)
  (f:∀rec i x,i<l.length->l[i]?=U x->a x=IN->rec ((i+1:Nat):Int)=R->F rec (i:Int)=R)
  (b:∀rec i x,i<l.length->l[i]?=U x->a x=IS->(∀y∈l.take i,a y=IN)->F rec (i:Int)=R):rounds F 0=R:=by
 refine oU (A:=Unit) l (λi _=>(i:Int)) (λ_ _=>R) (λi _=>∀y∈l.take i,a y=IN) (by omega) ?_ ?_ () (by simp)
 .intro rec _ e
  rw[cB]at e;exact d rec e
 intro rec i _ x rest a7 e h j;have g:=E3 h;by_cases hk:a x=IN
 .refine f rec i x a7 g hk (j () ?_)
  intro y c;rw[bR,g]at c;rcases aO.1 c with c|c
  .exact e y c
  simp at c;rw[c];exact hk
 exact b rec i x a7 g (by simpa using hk) e
def Ml{M α:Type}(b:α->Bool)(c:M->α->M):∀(l:List α) (m:M),(∀x∈l,b x=IN)->l.foldl (λm a=>if b a=IN then m else c m a) m=m
 | [],_,_=>rfl
 |a::l,m,h=>by rw[fP,b9 (h a (cn ..))];exact Ml b c l m λx d=>h x (bB _ d)
def bs8{M α:Type}(b:α->Bool)(c:M->α->M){l:List α}{i:Nat}{x:α}(m:M)(d:l[i]?=U x)(hk:b x=IS)(hp:∀y∈l.take i,b y=IN) :
  l.foldl (λm a=>if b a=IN then m else c m a) m=(l.drop (i+1)).foldl (λm a=>if b a=IN then m else c m a) (c m x):=by
 obtain⟨a7,e⟩:=ao.1 d;have:l=l.take i++x::l.drop (i+1):=by rw[<-e,List.getElem_cons_drop,cJ]
 rw[this,g_,Ml b c _ _ hp,fP,<-this];rw[hk];rfl
end Dp
namespace Dp
def Zj{β:Type}(l:List l9)(hl:l.length<=1000000)(id c:Int){F:(Int×List l9->Option β)->Int×List l9->Option β}(R:Option β)
  (d:∀rec,F rec ((l.length:Int),l.map (tl id c))=R)
  (b:∀rec i row x,i<l.length->row.length=l.length->row[i]?=U x->rec (((i+1:Nat):Int),row.set i (tl id c x))=R->F rec ((i:Int),row)=R):rounds F (0,l)=R:=by
 refine oU (A:=List l9) l (λi a=>((i:Int),a)) (λ_ _=>R) (λi row=>row.length=l.length/\row.take i=(l.take i).map (tl id c)/\row.drop i=l.drop i) (by omega) ?_ ?_ l ⟨rfl,by simp,by simp⟩
 .rintro rec row ⟨h1,h2,_⟩
  rw[cB,<-h1,cB]at h2;rw[h2];exact d rec
 rintro rec i row x rest a7 ⟨h1,h2,f⟩ h j;have g:=E3 h;have e:row[i]?=U x:=by have:=mP (λq:List l9=>q[0]?) f;simp only[List.getElem?_drop,Nat.add_zero]at this;rw[this,g]
 refine b rec i row x a7 h1 e (j _ ⟨by simp[h1],?_,?_⟩)
 .rw[bR,fR (by omega),js (aw i),h2,bR,g]
  simp
 rw[jt (by omega)];have:=mP (kf 1) f;simpa[eD,fF]using this
def bg0{β:Type}(a6:List ef)(h:a6.length<=1000000){F:(Int×Int->Option β)->Int×Int->Option β}(R:Option β)
  (d:∀rec,F rec ((a6.length:Int),nj a6 1)=R)
  (b:∀rec i c n,i<a6.length->a6[i]?=U n->1<=c->c<=1000001->rec (((i+1:Nat):Int),bif IT (n.1=c)then c+1 else c)=R->F rec ((i:Int),c)=R):rounds F (0,1)=R:=by
 refine oU (A:=Int) a6 (λi a=>((i:Int),a)) (λ_ _=>R) (λi c=>1<=c/\c<=1+(i:Int)/\nj (a6.drop i) c=nj a6 1) (by omega) ?_ ?_ 1 ⟨by omega,by omega,by simp⟩
 .rintro rec c ⟨_,_,e⟩
  rw[List.drop_length]at e;have:c=nj a6 1:=e;rw[this];exact d rec
 rintro rec i c n rest a7 ⟨h1,h2,e⟩ f g;refine b rec i c n a7 (E3 f) h1 (by omega) (g _ ?_);have Dk:a6.drop (i+1)=rest:=by have:=mP (kf 1) f;simpa[eD,fF]using this
 rw[f]at e;rw[Dk];refine⟨?_,?_,e⟩
 .cases IT (n.1=c)<;>simp only[dn,ct]<;>omega
 cases IT (n.1=c)<;>simp only[dn,ct]<;>omega
def _root_.List.aX6{α:Type}{l:List α}{i:Nat}{x:α}(h:l[i]?=U x):l.set i x=l:=by obtain⟨a7,rfl⟩:=ao.1 h;exact List.set_getElem_self a7
section
variable {a6:List ef} {al:List dk} {fs:List Int} {l:List l9} (hn:a6.length<=1000) (ha:al.length<=1000) (hv:∀a∈al,a.2.2.2.1.length<=1000) (hf:fs.length<=1000) (hl:l.length<=1000) (hp:∀f∈l,f.2.2.2.2.length<=1000)
include hn ha hv hf hl hp
theorem bk1(id p:Int)(at':b6):BU ((a6,al,fs,l),id,p,at')=U (nU a6 al fs l id p at'):=by
 unfold BU;simp only[PU (show a6.length<=1000000 by omega),J5 (show fs.length<=1000000 by omega),cr];refine oU (A:=List dk) al (λi a=>((i:Int),a)) (λ_ _=>U (nU a6 al fs l id p at')) (λi a=>a=al.take i) (by omega) ?_ ?_ [] (by simp)
 .intro rec a C
  rw[cB]at C;subst C;simp only[mG,ct];refine oU (A:=List l9) l (λi a=>((i:Int),a)) (λ_ _=>U (nU a6 a fs l id p at')) (λi b=>b=l.take i) (by omega) ?_ ?_ [] (by simp)
  .intro rec b C
   rw[cB]at C;subst C;simp only[mG,ct];refine L3 (y:=(a.filter (nB p),ob p a [],IN)) ?_ ?_
   .intro rec g
    simp only[ct];refine LJ a (nB p) _ (by omega) ?_ ?_ ?_
    .intro k r
     simp only[mG,ct];rw[di.2 r]at g;have:ob p a []=[]:=Ml (nB p) (λm a=>k7 fx a.2.2.1 IN (k7 fx a.2.1 IN m)) a [] r;rw[this]at g;exact g
    .intro k i x a7 h hk q
     unfold nB at hk;simp only[ab,bS,nu]at hk;simp only[lJ a7,rr a7,rS,h,aj,cr,dn,hk.1,hk.2,mD,aW,lG a7 (by omega:a.length<2^62)];exact q
    intro k i x a7 h hk s;have I:=bs8 (nB p) (λm a=>k7 fx a.2.2.1 IN (k7 fx a.2.1 IN m)) ([]:List (Int×Bool)) h hk s;have D:∀y,a[i]?=U y->nB p y=IS:=λy E=>by rw[h]at E;cases E;exact hk
    have fin:∀(m0:List (Int×Bool)),m0=k7 fx x.2.2.1 IN (k7 fx x.2.1 IN [])->∀ {G:(Int×List (Int×Bool)×List dk×Int->Option (List ef×List dk×List Int×List l9))->Int×List (Int×Bool)×List dk×Int->Option (List ef×List dk×List Int×List l9)},
      (∀d row w,row.length=a.length->w<=a.length->row.take w=a.filter (nB p)->G d ((a.length:Int),ob p a [],row,(w:Int))=U (nU a6 a fs b id p at')) ->
      (∀d j m row w y,j<a.length->w<j->row.length=a.length->row[j]?=U y->d (((j+1:Nat):Int),(if nB p y=IN then m else k7 fx y.2.2.1 IN (k7 fx y.2.1 IN m)),(if nB p y=IN then row.set w y else row),(((if nB p y=IN then w+1 else w):Nat):Int))=U (nU a6 a fs b id p at')->G d ((j:Int),m,row,(w:Int))=U (nU a6 a fs b id p at')) ->
      rounds G (((i+1:Nat):Int),m0,a,(i:Int))=U (nU a6 a fs b id p at'):=by
     intro m0 Q G g1 g2;refine LK a (nB p) (λm a=>k7 fx a.2.2.1 IN (k7 fx a.2.1 IN m)) (λj m row w=>((j:Int),m,row,(w:Int))) _ (by omega) m0 a7 s D ?_ ?_
     .intro d row w h1 h2 t
      have:=g1 d row w h1 h2 t;unfold ob at this;rw[I,<-Q]at this;exact this
     intro d j m row w y h1 h2 t B o;exact g2 d j m row w y h1 h2 t B o
    have step:∀(d:Int×List (Int×Bool)×List dk×Int->Option (List ef×List dk×List Int×List l9)) (j:Nat) (m:List (Int×Bool)) (row:List dk) (w:Nat) (y:dk),j<a.length->w<j->row.length=a.length->row[j]?=U y ->
      d (((j+1:Nat):Int),(if nB p y=IN then m else k7 fx y.2.2.1 IN (k7 fx y.2.1 IN m)),(if nB p y=IN then row.set w y else row),(((if nB p y=IN then w+1 else w):Nat):Int))=U (nU a6 a fs b id p at') ->
      (bif (!decide (y.2.2.2.2.1=p))then(
       bif (!decide (y.2.2.2.2.2=p))then(
        a8 (bif IT (0<=(w:Int))&&IT ((w:Int)<(row.length:Int))then U ()else No) λ_=>
        a8 (rG row ((w:Int)).toNat (λx y=>(y.1,y.2.1,y.2.2.1,y.2.2.2.1,y.2.2.2.2.1,y.2.2.2.2.2)) y) λv55=>
        d (((j+1:Nat):Int),m,v55,(aa.wrap ((w:Int)+(1:Int)))))else(
        d (((j+1:Nat):Int),(k7 fx y.2.2.1 IN (k7 fx y.2.1 IN m)),row,(w:Int))))else(
       d (((j+1:Nat):Int),(k7 fx y.2.2.1 IN (k7 fx y.2.1 IN m)),row,(w:Int))))=U (nU a6 a fs b id p at'):=by
     intro d j m row w y h1 h2 t B o;have hw:w<row.length:=by omega
     by_cases c1:y.2.2.2.2.1=p
     .have hk:nB p y=IS:=by simp[nB,c1]
      simp only[hk,aq,j2]at o;simp only[c1,lV,ax,ct];exact o
     by_cases c2:y.2.2.2.2.2=p
     .have hk:nB p y=IS:=by simp[nB,c2]
      simp only[hk,aq,j2]at o;simp only[c1,c2,lV,mD,ax,aW,dn,ct];exact o
     have hk:nB p y=IN:=by simp[nB,c1,c2]
     simp only[hk,jj]at o;simp only[c1,c2,mD,aW,dn,rr hw,cr,AW (ae hw),lG hw (by omega:row.length<2^62)];exact o
    have ends:∀(row:List dk) (w:Nat),row.length=a.length->w<=a.length->row.take w=a.filter (nB p)->(a8 (sb (row.length:Int) (w:Int)) λv=>a8 (uF row v.1 v.2) λu=>a8 (uB (row.length:Int) (u.length:Int) (w:Int)) λ_=>rec (u,ob p a [],IN))=U (nU a6 a fs b id p at'):=by intro row w h1 h2 t;rw[wO h1 h2 (λu=>rec (u,ob p a [],IN)),t];exact g
    by_cases c1:x.2.2.2.2.1=p
    .simp only[lJ a7,rr a7,rS,h,aj,cr,dn,c1,lV,ax,ct,Il,lG a7 (by omega:a.length<2^62)]
     refine fin _ rfl ?_ ?_
     .intro d row w h1 h2 t
      simp only[h1,mG,ct];have:=ends row w h1 h2 t;rw[h1]at this;exact this
     intro d j m row w y h1 h2 t B o;have hj:j<row.length:=by omega
     simp only[lJ hj,rr hj,rS,B,aj,cr,dn,lG hj (by omega:row.length<2^62)];exact step d j m row w y h1 h2 t B o
    have c2:x.2.2.2.2.2=p:=by unfold nB at hk;simpa[c1]using hk
    simp only[lJ a7,rr a7,rS,h,aj,cr,dn,c1,c2,lV,mD,ax,aW,ct,Il,lG a7 (by omega:a.length<2^62)];refine fin _ rfl ?_ ?_
    .intro d row w h1 h2 t
     simp only[h1,mG,ct];have:=ends row w h1 h2 t;rw[h1]at this;exact this
    intro d j m row w y h1 h2 t B o;have hj:j<row.length:=by omega
    simp only[lJ hj,rr hj,rS,B,aj,cr,dn,lG hj (by omega:row.length<2^62)];exact step d j m row w y h1 h2 t B o
   intro rec;simp only[dn];refine L3 (y:=(fs.filter (λf=>!decide (f=p)),IN)) ?_ ?_
   .intro H g
    simp only[ct];refine LJ fs (λf=>!decide (f=p)) _ (by omega) ?_ ?_ ?_
    .intro k r
     simp only[mG,ct];rw[di.2 r]at g;exact g
    .intro k i x a7 h hk q
     simp only[bS,nu]at hk;simp only[lJ a7,rr a7,rS,h,aj,cr,dn,hk,mD,ct,lG a7 (by omega:fs.length<2^62)];exact q
    intro k i x a7 h hk s;have D:∀y,fs[i]?=U y->(λf=>!decide (f=p)) y=IS:=λy E=>by rw[h]at E;cases E;exact hk
    have R:x=p:=by simpa using hk
    simp only[lJ a7,rr a7,rS,h,aj,cr,dn,R,lV,Il,ct,lG a7 (by omega:fs.length<2^62)];refine LK (M:=Unit) fs (λf=>!decide (f=p)) (λm _=>m) (λj _ row w=>((j:Int),row,(w:Int))) _ (by omega) () a7 s D ?_ ?_
    .intro d row w h1 h2 t
     simp only[h1,mG,ct];have:=wO h1 h2 (λu=>H (u,IN));rw[t,g,h1]at this;exact this
    intro d j _ row w y h1 h2 t B o;have hj:j<row.length:=by omega
    have hw:w<row.length:=by omega
    simp only[lJ hj,rr hj,rS,B,aj,cr,dn,lG hj (by omega:row.length<2^62)];by_cases c:y=p
    .simp only[c,lV,ax,aq,j2,ct]at o⊢
     exact o
    simp only[c,mD,aW,jj,dn]at o⊢;simp only[rr hw,cr,AW (ae hw),lG hw (by omega:row.length<2^62)];exact o
   intro H;simp only[dn];refine bg0 a6 (by omega) _ ?_ ?_
   .intro k
    simp only[mG,ct];refine L3 (y:=(a6.filter (pU (ob p a [])),IN)) ?_ ?_
    .intro d g
     simp only[ct];have J:∀(n:ef),mH (ff (λ(a b:Int)=>IT (a=b)) n.1 (ob p a [])) (U IS)=U (!pU (ob p a []) n):=λn=>by unfold pU;rw[Bool.not_not];show mH (ff fx n.1 (ob p a [])) (U IS)=_;cases ff fx n.1 (ob p a [])<;>rfl
     refine LJ a6 (pU (ob p a [])) _ (by omega) ?_ ?_ ?_
     .intro z r
      simp only[mG,ct];rw[di.2 r]at g;exact g
     .intro z i x a7 h hk q
      simp only[lJ a7,rr a7,rS,h,aj,cr,dn,J,hk,ax,ct,lG a7 (by omega:a6.length<2^62)];exact q
     intro z i x a7 h hk s;have D:∀y,a6[i]?=U y->pU (ob p a []) y=IS:=λy E=>by rw[h]at E;cases E;exact hk
     simp only[lJ a7,rr a7,rS,h,aj,cr,dn,J,hk,aW,Il,ct,lG a7 (by omega:a6.length<2^62)];refine LK (M:=Unit) a6 (pU (ob p a [])) (λm _=>m) (λj _ row w=>((j:Int),row,(w:Int))) _ (by omega) () a7 s D ?_ ?_
     .intro N row w h1 h2 t
      simp only[h1,mG,ct];have:=wO h1 h2 (λu=>d (u,IN));rw[t,g,h1]at this;exact this
     intro N j _ row w y h1 h2 t B o;have hj:j<row.length:=by omega
     have hw:w<row.length:=by omega
     simp only[lJ hj,rr hj,rS,B,aj,cr,dn,J,lG hj (by omega:row.length<2^62)];cases c:pU (ob p a []) y with
     |false=>simp only[c,aq,j2,aW,ax,ct]at o⊢;exact o
     |true=>simp only[c,jj,ax,aW,dn]at o⊢;simp only[rr hw,cr,AW (ae hw),lG hw (by omega:row.length<2^62)];exact o
    intro d;simp only[dn];have hfl:(a6.filter (pU (ob p a []))).length<=1000:=Nat.le_trans (cV _ _) hn;rw[nE (by decide) (by simp;omega),cr,bn5 (by simp;omega),cr];refine Zj b (by omega) id (nj a6 1) _ ?_ ?_
    .intro z
     simp only[mG,ct];rfl
    intro z i row x a7 hrl K q;have O:i<row.length:=by omega
    simp only[lJ a7,rr O,rS,K,aj,cr,dn,lG a7 (by omega:b.length<2^62)];unfold tl at q;by_cases c:x.1=id
    .simp only[c,lV,dn]at q⊢
     rw[AW K,cr,AW (fR O),cr,List.set_set];simp only;rw[c];exact q
    simp only[c,mD,ct]at q⊢;rw[List.aX6 K]at q;exact q
   intro k i c n a7 h h1 h2 q;simp only[lJ a7,mJ,h,cr,dn,lG a7 (by omega:a6.length<2^62)];by_cases e:n.1=c
   .simp only[e,lV,dn]at q⊢
    rw[lR (by omega) (by omega)];exact q
   simp only[e,mD,ct]at q⊢;exact q
  intro rec i b x rest a7 C P q;have h:=E3 P;have S:x∈l:=aJ h;have V:=hp x S;simp only[lJ a7,mq P,cr,dn,J5 (show x.2.2.2.2.length<=1000000 by omega),lG a7 (by omega:l.length<2^62)];rw[nE (by decide) (by rw[C];simp;omega),cr];exact q _ (by rw[C,bR,h];rfl)
 intro rec i a x rest a7 C P q;have h:=E3 P;have V:=hv x (aJ h);simp only[lJ a7,mq P,cr,dn,Yd (show x.2.2.2.1.length<=1000000 by omega),lG a7 (by omega:al.length<2^62)];rw[nE (by decide) (by rw[C];simp;omega),cr];exact q _ (by rw[C,bR,h];rfl)
end
end Dp
namespace Dp
def br6(a:Int)(l:List Int):(yk a l).length=l.length+1:=(HB a l).length_eq
def NC:∀l:List Int,(uG l).length=l.length
 | []=>rfl
 |a::l=>by show(yk a (uG l)).length=_;rw[br6,NC l];rfl
def Xe{l:List Int}(hl:l.length<=1000000):vO (l,1)=U (uG l):=by grind[vO]
def X0{n x k:Nat}(h:x+k<n)(a:x<=n):v8 (x:Int) ((n:Int)-(x:Int)) (k:Int)=U ((x+k:Nat):Int):=by grind[v8]
def Tp{l:List Int}(hl:l.length<=1000):∃v,B3 [l]=U v/\v.length<=1000:=by
 unfold B3;refine oa (λy:Int×Int=>(y.2=0/\y.1=0)\/(y.2=1/\y.1=(l.length:Int))) (λy=>(1-y.2).toNat) _ ?_ (.inl ⟨rfl,rfl⟩) (by simp);rintro rec ⟨s,i⟩ d e;simp only at d;rcases d with⟨rfl,rfl⟩|⟨rfl,rfl⟩
 .have c:IT ((0:Int)<(([l]:List (List Int)).length:Int))=IN:=by simp
  have j:nth [l] (0:Int)=U l:=rfl;have m:aa.wrap (0+(l.length:Int))=(l.length:Int):=by grind[lR]
  have o:IT ((l.length:Int)<0)=IS:=by simp
  have p:aa.wrap (0+1)=1:=by decide
  simp only[c,j,m,o,p,dn,ct,cr];exact e _ (.inr ⟨rfl,rfl⟩) (by simp)
 have c:IT ((1:Int)<(([l]:List (List Int)).length:Int))=IS:=by simp
 have o:IT ((l.length:Int)<0)=IS:=by simp
 have m:aa.wrap ((l.length:Int)-0)=(l.length:Int):=by grind[lR]
 simp only[c,o,m,ct,cr];have b:∀ {F:(List Int×Int->Option (List Int))->List Int×Int->Option (List Int)},(∀rec x,F rec x=(bif (IT (x.2<(([l]:List (List Int)).length:Int)))then(
   a8 (nth [l] x.2) λr=>a8 (la 8 x.1 r) λt=>rec (t,(aa.wrap (x.2+(1:Int)))))else F (λ_=>No) (x.1,1)))->(∀rec,∃v,F rec (l,1)=U v/\v.length<=1000)->∃v,rounds F ([],0)=U v/\v.length<=1000:=by
  intro F cu I;refine oa (λy:List Int×Int=>(y.2=0/\y.1=[])\/(y.2=1/\y.1=l)) (λy=>(1-y.2).toNat) _ ?_ (.inl ⟨rfl,rfl⟩) (by simp);rintro rec ⟨a,i⟩ d e;simp only at d;rcases d with⟨rfl,rfl⟩|⟨rfl,rfl⟩
  .rw[cu]
   have c:IT ((0:Int)<(([l]:List (List Int)).length:Int))=IN:=by simp
   have j:nth [l] (0:Int)=U l:=rfl;have p:aa.wrap (0+1)=1:=by decide
   simp only[c,j,p,dn,cr];rw[nE (by decide) (by simp;omega),cr,bq];exact e _ (.inr ⟨rfl,rfl⟩) (by simp)
  exact I rec
 cases f:IT ((0:Int)<(l.length:Int))with
 |false=>
  have g:l=[]:=by rw[nu]at f;exact List.eq_nil_of_length_eq_zero (by omega)
  subst g;simp only[ct];refine b (λrec x=>?_) (λrec=>?_)
  .grind
  exact⟨[],rfl,by simp⟩
 |true=>
  have hz:yq 8 ((0:Int):Int) (l.length:Int)=U (List.replicate l.length 0):=by grind[yq,lR]
  simp only[dn,hz,cr];refine b (λrec x=>?_) (λrec=>?_)
  .grind
  simp only[c,ct,Xe (show l.length<=1000000 by omega),cr];have u:=NC l;generalize uG l=s at u⊢;cases h2:IT ((s.length:Int)<2)with
  |true=>exact⟨s,rfl,by omega⟩
  |false=>
   rw[nu]at h2;simp only[ct];refine oa (λy:Int=>1<=y/\y<=(s.length:Int)) (λy=>((s.length:Int)-y).toNat) _ ?_ ⟨by omega,by omega⟩ (by grind);rintro G y ⟨P,Q⟩ e;obtain⟨k,rfl⟩:∃k:Nat,y=k:=⟨y.toNat,by omega⟩;by_cases hk:k<s.length
   .have J:aa.wrap ((k:Int)-1)=((k-1:Nat):Int):=by grind[lR]
    simp only[lJ hk,rr hk,rS,ae hk,aj,cr,dn,J,rr (show k-1<s.length by omega),ae (show k-1<s.length by omega),lG hk (by omega:s.length<2^62)];cases heq:IT (s[k]=s[k-1])with
    |false=>simp only[ct];exact e _ ⟨by omega,by omega⟩ (by grind)
    |true=>
     simp only[dn];have K:sb (s.length:Int) (k:Int)=U ((k:Int),(s.length:Int)-(k:Int)):=by grind[sb]
     rw[K,cr];refine oa (λz:Int×List Int×Int=>z.2.1.length=s.length/\1<=z.1/\z.1<=(s.length:Int)-k/\0<=z.2.2/\z.2.2<=k+z.1-1) (λz=>((s.length:Int)-k-z.1).toNat) _ ?_ ⟨rfl,by grind,by grind,by grind,by grind⟩ (by grind);rintro H ⟨q,row,w⟩ ⟨g1,g2,g3,g4,g5⟩ h;simp only at g1 g2 g3 g4 g5;obtain⟨q,rfl⟩:∃M:Nat,q=M:=⟨q.toNat,by omega⟩;obtain⟨w,rfl⟩:∃w':Nat,w=w':=⟨w.toNat,by omega⟩;have N:CX ((s.length:Int)-(k:Int))=U ():=by grind[CX]
     simp only[N,cr];cases O:IT ((q:Int)<(s.length:Int)-(k:Int))with
     |true=>
      rw[gb]at O;have B:k+q<s.length:=by omega
      have C:aa.wrap ((q:Int)-1)=((q-1:Nat):Int):=by grind[lR]
      have hw:w<row.length:=by omega
      have D:aa.wrap ((q:Int)+1)=((q+1:Nat):Int):=by grind[lR]
      have E:aa.wrap ((w:Int)+1)=((w+1:Nat):Int):=by grind[lR]
      simp only[X0 B (by omega),cr,rS,ae (show k+q<row.length by omega),aj,C,X0 (show k+(q-1)<s.length by omega) (by omega),ae (show k+(q-1)<row.length by omega),rr hw,AW (ae hw),D,E,dn];cases(!decide (row[k+q]=row[k+(q-1)]))with
      |true=>simp only[dn];exact h _ ⟨by simp[g1],by grind,by grind,by grind,by grind⟩ (by grind)
      |false=>simp only[ct];exact h _ ⟨g1,by grind,by grind,by grind,by grind⟩ (by grind)
     |false=>
      simp only[ct];rw[wO (n:=s.length) g1 (by omega) U]
      grind
   grind
end Dp
end Go.Ab
