/- A part of the proof; its readable source lies in wip of the prover's repo (squeezed here for the limit of bytes). -/
import Derived.Test.YtohmcmgdnjfpjaaGreatDoorMe
import Derived.KernelRfl
set_option linter.all false
open Bool renaming and_assoc->gT,and_eq_true->ab,and_false->fI,and_self->bw,and_true->dN,eq_false_iff->ee,eq_iff_iff->dm,false_and->fY,false_eq_true->aG,false_or->cY,not_eq_true'->cT,not_false->bB,not_true->aw,or_assoc->kX,or_comm->ji,or_eq_false_iff->cE,or_eq_true->bC,or_true->lp,true_and->cZ,true_or->hY,true->No,false->N2
open ByteArray renaming mk->bW
open Classical renaming byContradiction->dW
open Decidable renaming decide->Eo
open Eq renaming trans->lC
open Function renaming comp->ke,comp_def->eK
open Go.ByteArray renaming toList_eq->iT
open Go.IntKind renaming i64->aa,u64->an
open Go.Lib renaming contains->ic
open Go.Utf8 renaming decode->bI
open Int renaming add_assoc->gQ,add_zero->e_,le_of_mul_le_mul_left->iS,le_refl->cz,lt_or_gt_of_ne->ka,max_comm->iY,min_comm->iX,mul_le_mul_of_nonneg_right->bh,mul_lt_mul_of_pos_right->fS,mul_neg->cK,mul_nonneg->aL,mul_pos->cw,mul_pos_of_neg_of_neg->cO,mul_sub->cW,neg_mul->im,neg_neg->iE,toNat_natCast->aW,zero_add->gv
open List renaming all_cons->bU,all_eq_true->aj,all_nil->gp,any_cons->gq,any_eq_false->cB,any_eq_true->fC,append_assoc->bm,append_nil->bD,cons_append->cL,countP_cons->kr,dropLast_concat_getLast->iq,drop_eq_getElem_cons->bq,drop_length->fD,ext_getElem?->eH,filter_congr->gV,filter_cons->bV,filter_map->kH,find?_cons->da,find?_eq_none->fH,find?_some->db,flatMap_append->dF,flatMap_cons->bA,flatMap_nil->dz,getElem?_cons_succ->aF,getElem?_cons_zero->bE,getElem?_eq_getElem->af,getElem?_eq_none->bo,getElem?_eq_some_iff->ak,getElem?_map->aO,getElem?_range->jF,getElem?_set->dG,getElem?_take_of_lt->fM,getElem_inj->dK,getElem_map->b_,getElem_mem->ay,getElem_of_mem->aT,getLast?_eq_some_getLast->ie,getLast_cons_cons->gi,head?->jD,head?_drop->iw,head?_eq_getElem?->jd,length->eP,length_append->aS,length_cons->aC,length_filter_le->bn,length_map->aI,length_nil->dy,length_pos_iff->cH,length_pos_of_mem->ja,length_range->dO,length_reverse->jG,length_take->cC,map->cm,map_append->ez,map_congr_left->bY,map_cons->au,map_flatMap->ku,map_map->bZ,map_nil->dj,mem_append->aY,mem_append_left->dq,mem_append_right->gG,mem_cons->aD,mem_cons_of_mem->bf,mem_cons_self->aJ,mem_filter->aU,mem_flatMap->dg,mem_flatten->bG,mem_map->aM,mem_map_of_mem->aK,mem_of_find?_eq_some->aX,mem_of_getElem?->aH,mem_of_mem_drop->ao,mem_of_mem_take->js,mem_range->gw,mem_reverse->fg,mem_singleton->bL,mergeSort_perm->cP,nil_append->cG,nodup_append->dI,nodup_cons->cS,pairwise_append->jt,pairwise_cons->aR,pairwise_flatten->dS,pairwise_iff_getElem->bM,pairwise_map->cX,range'->dX,range->aN,range_succ->dH,range_succ_eq_map->gh,reverse_cons->gU,set_append_right->eX,tail->kp,tail_drop->iL,take_add_one->bQ,take_append_drop->dE,take_length->cd,take_of_length_le->jb
open List.Nodup renaming length_le_of_subset->dx
open List.Perm renaming refl->jH
open List.cons renaming injEq->cN
open Nat renaming add_mod_right->fU,add_sub_cancel->kf,lt_of_lt_of_le->dL,lt_or_ge->cR,min_eq_left->dp,mod_eq_of_lt->cQ,mod_lt->d_,mod_self->jv,mul_le_mul->gm,succ->kb,zero_add->a_
open Option renaming getD_some->cA,map_map->du,map_some->ai,toList_some->ju,some->Q1,none->Ld
open Option.some renaming inj->aQ,injEq->ah
open Or renaming inl->br,inr->bk
open Prod renaming ext->eJ,fst->jV
open Prod.mk renaming injEq->gF
open UInt8 renaming toNat_inj->kx
namespace Go.Ab
open Go Go.Pg
namespace Mj
variable {ι:Type} {N:Net ι} (hP:N.wx)
include hP
theorem U8{g h:Net.ml ι}(k:g.1∈N.E)(l:h.1∈N.E){v:bs}(g1:N.src g=v)(h1:N.src h=v)(r:g≠h):N.nh v.2 g h\/N.nh v.2 h g:=by
 rcases Nat.lt_trichotomy (N.cls g) (N.cls h)with c|c|c
 exact br (br c);have f:g.1=h.1->False:=by intro e;obtain⟨a,s⟩:=g;obtain⟨d,t⟩:=h;simp only at e;subst e;unfold Net.cls at c;by_cases hu:N.up a<;>cases s<;>cases t<;>simp[hu]at c<;>exact r rfl
 have key:∀b:Bool,g.2=b->h.2=b->N.up g.1->N.up h.1->(b=No->N.X g.1 (v.2+1)≠N.X h.1 (v.2+1))/\(b=N2->N.X g.1 (v.2-1)≠N.X h.1 (v.2-1)):=by
  intro b w z B C;have o:(N.b7 g.1).2<(N.a7 g.1).2:=B;have p:(N.b7 h.1).2<(N.a7 h.1).2:=C;constructor;intro e u;subst e;have s1:N.b7 g.1=v:=by unfold Net.src at g1;rw[w]at g1;exact g1
  have s2:N.b7 h.1=v:=by unfold Net.src at h1;rw[z]at h1;exact h1
  refine f (hP.apart g.1 k h.1 l v.2 ⟨by rw[s1];exact cz _,by rw[<-s1];exact o⟩ ⟨by rw[s2];exact cz _,by rw[<-s2];exact p⟩ ?_ u);have q:=N.vG g.1;have a2:=N.vG h.1;rw[s1]at q;rw[s2]at a2;rw[q,a2];intro e u;subst e;have s1:N.a7 g.1=v:=by unfold Net.src at g1;rw[w]at g1;exact g1
  have s2:N.a7 h.1=v:=by unfold Net.src at h1;rw[z]at h1;exact h1
  rw[s1]at o;rw[s2]at p;refine f (hP.apart g.1 k h.1 l (v.2-1) ⟨by omega,by rw[s1];omega⟩ ⟨by omega,by rw[s2];omega⟩ u ?_);have q:=N.yo k B;have a2:=N.yo l C;rw[s1]at q;rw[s2]at a2;rw[show v.2-1+1=v.2 by omega,q,a2]
 obtain⟨a,s⟩:=g;obtain⟨d,t⟩:=h;by_cases i:N.up a<;>by_cases j:N.up d<;>cases s<;>cases t<;>simp[Net.cls,i,j]at c;have:=(key N2 rfl rfl i j).2 rfl;have c1:N.cls (a,N2)=3:=by simp[Net.cls,i]
 have c2:N.cls (d,N2)=3:=by simp[Net.cls,j]
 rcases ka this with x|x
 exact br (bk (bk ⟨c1,c2,x⟩));exact bk (bk (bk ⟨c2,c1,x⟩));have:=(key No rfl rfl i j).1 rfl;have c1:N.cls (a,No)=1:=by simp[Net.cls,i]
 have c2:N.cls (d,No)=1:=by simp[Net.cls,j]
 rcases ka this with x|x
 exact bk (bk (br ⟨c2,c1,x⟩));exact br (bk (br ⟨c1,c2,x⟩));exfalso;have s1:N.a7 a=v:=g1;have s2:N.a7 d=v:=h1;have o1:=N.ord a k;have o2:=N.ord d l;have m:¬(N.b7 a).2<(N.a7 a).2:=i;have n:¬(N.b7 d).2<(N.a7 d).2:=j;rw[s1]at o1 m;rw[s2]at o2 n;exact f (hP.sv a k d l i j (by omega) (by rw[s2];omega) (by rw[s1];omega));exfalso;have s1:N.b7 a=v:=g1;have s2:N.b7 d=v:=h1;have o1:=N.ord a k;have o2:=N.ord d l;have m:¬(N.b7 a).2<(N.a7 a).2:=i;have n:¬(N.b7 d).2<(N.a7 d).2:=j;rw[s1]at o1 m;rw[s2]at o2 n;exact f (hP.sv a k d l i j (by rw[s1,s2]) (by rw[s1];omega) (by rw[s2];omega));exact bk (br c)
end Mj
def nA(s:fy):Net.ml fy:=(s,(m8 []).fwd s)
def nz(s:fy):Net.ml fy:=(s,!(m8 []).fwd s)
section
variable {r:List fy} (dC:(m8 r).Ok)
theorem Ad(s:fy):((m8 r).e7 dC).src (nA s)=hi s:=by show(bif (m8 []).fwd s then(m8 r).b7 s else(m8 r).a7 s)=_;unfold q6.b7 q6.a7;show(bif (m8 r).fwd s then _ else _)=_;cases(m8 r).fwd s<;>rfl
def Gx(s:fy):((m8 r).e7 dC).dst (nA s)=gl s:=by show(bif (m8 []).fwd s then(m8 r).a7 s else(m8 r).b7 s)=_;unfold q6.b7 q6.a7;show(bif (m8 r).fwd s then _ else _)=_;cases(m8 r).fwd s<;>rfl
theorem Al(s:fy):((m8 r).e7 dC).src (nz s)=gl s:=by show(bif !(m8 []).fwd s then(m8 r).b7 s else(m8 r).a7 s)=_;unfold q6.b7 q6.a7;show(bif !(m8 r).fwd s then _ else _)=_;cases(m8 r).fwd s<;>rfl
def GG(s:fy):((m8 r).e7 dC).dst (nz s)=hi s:=by show(bif !(m8 []).fwd s then(m8 r).a7 s else(m8 r).b7 s)=_;unfold q6.b7 q6.a7;show(bif !(m8 r).fwd s then _ else _)=_;cases(m8 r).fwd s<;>rfl
theorem xG(h:Net.ml fy):h=nA h.1\/h=nz h.1:=by obtain⟨s,b⟩:=h;unfold nA nz;cases b<;>cases(m8 []).fwd s<;>simp
theorem QR(s:fy):Net.rev (nA s)=nz s:=rfl
theorem Ll(s:fy):Net.rev (nz s)=nA s:=by unfold Net.rev nz nA;simp
end
def vM{a:ct}{l:List bs}{i:Nat}(a7:i+1<l.length):(mF a l,(i:Int))∈pf a l:=by unfold pf;exact aM.2 ⟨i,gw.2 (by omega),rfl⟩
def u5{al:List b9}{ag:List ct}:∀ {l:List ct} {r:List fy},my al ag l=Q1 r->∀a∈l,∀p,pathOf al ag a.1=Q1 p->∀s∈pf a p,s∈r
 | [],r,h,a,ha=>by simp at ha
 |b::l,r,h,a,ha=>by
  intro p hp s hs;unfold my at h;split at h;cases h;rename_i q d;cases hc:((Eo (b.2.1=b.2.2.1)&&Eo (q.length<4))||!(qt q))with
  |true=>rw[hc]at h;cases h
  |false=>
   rw[hc]at h;simp only[bu]at h;split at h;rename_i e c;cases h;rcases aD.1 ha with rfl|ha
   rw[hp]at d;cases d;exact dq _ hs;exact gG _ (u5 c a ha p hp s hs);cases h
def mE(al:List b9)(ag:List ct)(d:Int):Net.ml fy:=match px ag (la d),pathOf al ag (la d)with
 |some a,Q1 p=>if 0<d then nA (mF a p,((0:Nat):Int))else nz (mF a p,((p.length-2:Nat):Int))
 |_,_=>default
theorem QU{a b x:bs}(ha:d' a=No)(d:d' b=No)(c:x=a\/x=b):mc a b x=No:=by
 have hc:fr a b x=0:=by
  rcases c with rfl|rfl
  exact Q9 _ _;exact aB5 _ _
 have e:d' x=No:=by rcases c with rfl|rfl<;>assumption
 unfold mc sU;simp only[ha,d,e,hc,bw,cZ,l6,ab,kA];rcases c with rfl|rfl<;>omega
theorem PI{s t:fy}(e:nA s=nA t):s=t:=lU jV e
theorem PH{s t:fy}(e:nz s=nz t):s=t:=lU jV e
theorem BL{s t:fy}:nA s≠nz t:=by intro e;have h1:s=t:=lU jV e;subst h1;have h2:(m8 []).fwd s=!(m8 []).fwd s:=lU Prod.snd e;cases h:(m8 []).fwd s<;>rw[h]at h2<;>cases h2
namespace fp
variable {al:List b9} {ag:List ct} {fs:List Int} (h:fp al ag fs)
include h
theorem um{a:ct}(ha:a∈ag):0<a.1:=by have:=aj.1 h.Gk a.1 (aK ha);unfold qL at this;simp only[ab,kA]at this;omega
theorem BM{a:ct}(ha:a∈ag){q:List bs}(b:pathOf al ag a.1=Q1 q):mE al ag a.1=nA (mF a q,((0:Nat):Int)):=by
 have hp:=h.um ha;have e:la a.1=a.1:=by unfold la;omega
 unfold mE;rw[e,h.zD ha,b];simp only[hp,me]
theorem Dv{a:ct}(ha:a∈ag){q:List bs}(b:pathOf al ag a.1=Q1 q):mE al ag (-a.1)=nz (mF a q,((q.length-2:Nat):Int)):=by
 have hp:=h.um ha;have e:la (-a.1)=a.1:=by unfold la;omega
 unfold mE;rw[e,h.zD ha,b];simp only;rw[cc (by omega)]
theorem Ce{a:ct}(ha:a∈ag){q:List bs}(c:pathOf al ag a.1=Q1 q):2<=q.length:=by obtain⟨f,t,_,_,b,_⟩:=h.path ha;rw[c]at b;cases b;simp
variable {r:List fy} (hr:my al ag ag=Q1 r)
include hr
theorem free{s:fy}(hs:s∈r):∀n∈al,p6 s n=No:=by
 have hp:=h.lV;unfold u_ at hp;rw[hr]at hp;simp only at hp;have d:=Da (vA r);have c:(oy p2 r).Pairwise (λa b=>qu a<=qu b):=d.imp λ{a b} x=>by unfold p2 at x;rw[uk]at x;omega
 exact(FN c hp).2 s ((tG (vA r)).mem_iff.2 hs)
theorem tO{n:b9}(c:n∈al){d:Int}(hd:d∈ki al ag n):(mE al ag d).1∈r/\((m8 r).e7 (h.j8 hr)).src (mE al ag d)=n.2 /\
  ((m8 r).e7 (h.j8 hr)).dst (mE al ag d)=nv (rv [] (np al ag n.1 ag)) d/\∃a∈ag,∃q,pathOf al ag a.1=Q1 q/\((d=a.1/\mE al ag d=nA (mF a q,((0:Nat):Int)))\/(d=-a.1/\mE al ag d=nz (mF a q,((q.length-2:Nat):Int)))):=by
 rw[(h.wG c).mem_iff]at hd;obtain⟨p,hp,rfl⟩:=aM.1 hd;have f:nv (rv [] (np al ag n.1 ag)) p.1=p.2:=by unfold nv;rw[E5 _ [] (h.Ci n.1 (λ_ ha=>ha) (pq h.rX)) p hp];rfl
 rw[f];obtain⟨a,ha,q,b,hc⟩:=h.GF (λ_ ha=>ha) hp;have hl:=h.Ce ha b;rcases hc with⟨e,rfl⟩|⟨e,rfl⟩
 have hm:(mF a q,((0:Nat):Int))∈r:=u5 hr a ha q b _ (vM (by omega));have o:nJ al ag (mF a q,((0:Nat):Int)) a q 0:=⟨ha,b,by omega,rfl⟩;have g:=h.BM ha b;simp only[g];refine⟨hm,?_,?_,a,ha,q,b,br ⟨rfl,rfl⟩⟩;rw[Ad];exact h.Cn o rfl c e;rw[Gx];rfl;have hm:(mF a q,((q.length-2:Nat):Int))∈r:=u5 hr a ha q b _ (vM (by omega));have o:nJ al ag (mF a q,((q.length-2:Nat):Int)) a q (q.length-2):=⟨ha,b,by omega,rfl⟩;have g:=h.Dv ha b;simp only[g];refine⟨hm,?_,?_,a,ha,q,b,bk ⟨rfl,rfl⟩⟩;rw[Al];exact h.D6 o (by omega) c e;rw[GG];rfl
theorem Mp{n:b9}(g:n∈al):Net.CF ((m8 r).e7 (h.j8 hr)) n.2 ((ki al ag n).map (mE al ag)):=by
 have l:(ki al ag n).Nodup:=(h.wG g).nodup_iff.2 (h.Ci n.1 (λ_ ha=>ha) (pq h.rX));have inj:∀d∈ki al ag n,∀e∈ki al ag n,mE al ag d=mE al ag e->d=e:=by
  intro d hd e he f;obtain⟨_,_,_,a,ha,q,D,c⟩:=h.tO hr g hd;obtain⟨_,_,_,b,E,G,z,B⟩:=h.tO hr g he;rcases c with⟨rfl,f1⟩|⟨rfl,f1⟩<;>rcases B with⟨rfl,f2⟩|⟨rfl,f2⟩<;>rw[f1,f2]at f
  have:=lU (λs:fy=>s.1.1) (PI f);exact this;exact b8 f BL;exact b8 f.symm BL;have:a.1=b.1:=lU (λs:fy=>s.1.1) (PH f);rw[this]
 constructor;intro hf;constructor;intro hm;obtain⟨d,hd,rfl⟩:=aM.1 hm;have:=h.tO hr g hd;exact⟨this.1,this.2.1⟩;rintro ⟨h1,h2⟩;have k:hf.1∈r:=h1;obtain⟨a,p,i,o⟩:=h.q_ hr k;have j:=h.vp o;have mk:∀d,d∈(ph al ag n.1 a).map (·.1)->d∈ki al ag n:=λd m=>by rw[(h.wG g).mem_iff];obtain⟨x,C,e⟩:=aM.1 m;exact e▸aK (dg.2 ⟨a,o.nM,C⟩)
 rcases xG hf with e|e
 rw[e,Ad]at h2;rcases h.E9 o g (h.free hr k n g) (QU j.1 j.2 (br h2.symm))with⟨i0,t,_⟩|⟨_,_,u⟩
 refine aM.2 ⟨a.1,mk _ ?_,?_⟩;unfold ph;rw[o.path];simp[t];rw[h.BM o.nM o.path,e,o.eq,i0];exact b8 (h2.trans u.symm) (h.sD o);rw[e,Al]at h2;rcases h.E9 o g (h.free hr k n g) (QU j.1 j.2 (bk h2.symm))with⟨_,_,u⟩|⟨i0,t,_⟩
 exact b8 (u.trans h2.symm) (h.sD o);refine aM.2 ⟨-a.1,mk _ ?_,?_⟩;unfold ph;rw[o.path];simp[t];rw[h.Dv o.nM o.path,e,o.eq,<-i0];rfl;exact cX.2 (l.imp_of_mem λ{d e} hd he v f=>v (inj d hd e he f));have hs:=Da (h.MB (h.vm g) g);refine cX.2 ((hs.and l).imp_of_mem λ{d e} hd he f=>?_);obtain⟨m1,s1,t1,_⟩:=h.tO hr g hd;obtain⟨m2,s2,t2,_⟩:=h.tO hr g he;rcases Mj.U8 ((m8 r).w8 (h.j8 hr)) m1 m2 s1 s2 (λx=>f.2 (inj d hd e he x))with b|b
 exact b;exfalso;refine f.1 ?_;have w:∀ {hf:Net.ml fy},hf.1∈r->d' (((m8 r).e7 (h.j8 hr)).dst hf)=No:=λ{hf} hm=>by
  obtain⟨a,p,i,o⟩:=h.q_ hr hm;have:=h.vp o;rcases xG hf with e|e
  rw[e,Gx];exact this.2;rw[e,GG];exact this.1
 have:=(at2 ((m8 r).e7 (h.j8 hr)) m2 m1 s2 t2 s1 t1 (rS (h.tt g)) (t2▸w m2) (t1▸w m1)).2 b;unfold A0;rw[cr this];omega
end fp
section
variable {ι:Type} {N:Net ι} (hP:N.wx)
include hP
theorem ax6{v:bs}{g h:Net.ml ι}(a:g≠h)(mem:∀k:Net.ml ι,(k.1∈N.E/\N.src k=v)↔(k=g\/k=h)){d:ι->Int}(hd:N.rR d):N.L d h=N.L d (Net.rev g):=by
 have c:=(mem g).2 (br rfl);have e:=(mem h).2 (bk rfl);rcases Mj.U8 hP c.1 e.1 c.2 e.2 a with b|b
 have ha:Net.CF N v [g,h]:=by refine⟨λk=>?_,?_,?_⟩;rw[mem];simp;simp[a];simp[b]
 exact Net.Mf hP hd ha (i:=0) (by simp);have ha:Net.CF N v [h,g]:=by refine⟨λk=>?_,?_,?_⟩;rw[mem];simp[or_comm];simp[Ne.symm a];simp[b]
 have:=Net.Mf hP hd ha (i:=1) (by simp);simpa using this
end
namespace fp
variable {al:List b9} {ag:List ct} {fs:List Int} (h:fp al ag fs)
variable {r:List fy} (hr:my al ag ag=Q1 r)
include h hr
theorem be2{a:ct}{p:List bs}{i:Nat}{s t:fy}(o:nJ al ag s a p i)(o':nJ al ag t a p (i+1))(k:Net.ml fy) :
  (k.1∈r/\((m8 r).e7 (h.j8 hr)).src k=gl s)↔(k=nz s\/k=nA t):=by
 have hs:s∈r:=by rw[o.eq];exact u5 hr a o.nM p o.path _ (vM o.at')
 have v:t∈r:=by rw[o'.eq];exact u5 hr a o'.nM p o'.path _ (vM o'.at')
 have mH:gl s=hi t:=aQ (o.se.symm.trans o'.rO);constructor;rintro ⟨l,d⟩;by_cases f:k.1=s;rcases xG k with e|e
 rw[e,Ad,f]at d;exact b8 d (h.sD o);rw[f]at e;exact br e;by_cases g:k.1=t;rcases xG k with e|e
 rw[g]at e;exact bk e;rw[e,Al,g,mH]at d;exact b8 d.symm (h.sD o');exfalso;obtain⟨b,q,j,u⟩:=h.q_ hr l;have w:gl s=hi k.1\/gl s=gl k.1:=by
  rcases xG k with e|e
  rw[e,Ad]at d;exact br d.symm;rw[e,Al]at d;exact bk d.symm
 rcases(h.share hr hs l (λe=>f e.symm) o u (bk rfl) w).or with⟨rfl,c,_⟩|⟨_,_,c,_⟩|⟨n,_,c,c1,_⟩
 have m:=u.path;rw[o.path]at m;cases m;exact g (by rw[u.eq,o'.eq,c]);exact h.sD o c.symm;rcases c1 with⟨_,_,c1⟩|⟨c1,_⟩
 exact h.sD o (c1.trans c.symm);have:=o'.at';omega;rintro (rfl|rfl);exact⟨hs,Al _ _⟩;exact⟨v,(Ad _ _).trans mH.symm⟩
theorem Wo{a:ct}{p:List bs}{i:Nat}{s t:fy}(o:nJ al ag s a p i)(o':nJ al ag t a p (i+1)){d:fy->Int}(hd:((m8 r).e7 (h.j8 hr)).rR d) :
  ((m8 r).e7 (h.j8 hr)).L d (nA t)=((m8 r).e7 (h.j8 hr)).L d (nA s)/\((m8 r).e7 (h.j8 hr)).L d (nz s)=((m8 r).e7 (h.j8 hr)).L d (nz t):=by
 have c:=(m8 r).w8 (h.j8 hr);have m:=h.be2 hr o o';have b:nz s≠nA t:=λe=>BL e.symm;constructor;have:=ax6 c b m hd;rw[Ll]at this;exact this;have:=ax6 c b.symm (λk=>(m k).trans Or.comm) hd;rw[QR]at this;exact this
end fp
def Gt{l:List Int}(a:l.Nodup){i:Nat}(a7:i<l.length):qn l l[i]=l[(i+l.length-1)%l.length]'(d_ _ (by omega)):=by
 have hm:l[i]∈l:=ay a7;have e:l.idxOf l[i]=i:=by have h1:l.idxOf l[i]<l.length:=List.idxOf_lt_length_iff.2 hm;have h2:l[l.idxOf l[i]]=l[i]:=List.getElem_idxOf h1;exact(dK a).1 h2
 unfold qn;rw[cr hm,e,af (d_ _ (by omega))];rfl
def M'(l:List Int):∀(x:List Int) (m:List (Int×Int)) (d:Int),fh gd (-d) (x.foldl (λm d=>mI (λ(a b:Int)=>Eo (a=b)) (-d) (qn l d) m) m)=if d∈x then Q1 (qn l d)else fh gd (-d) m
 | [],m,d=>by simp
 |y::x,m,d=>by have c:=M' l x (mI gd (-y) (qn l y) m) d;show fh gd (-d) (x.foldl _ (mI gd (-y) (qn l y) m))=_;rw[c,rV];by_cases h1:d∈x;rw[cr h1,cr (bf _ h1)];rw[cc h1];by_cases h2:d=y;subst h2;rw[cr rfl,cr (aJ ..)];rw[cc (by omega),cc (by simp[h1,h2])]
def Wk{d:Int}{l:List Int}(hd:d∈l):∀(L:List (List Int)) (m:List (Int×Int)),l∈L->(∀k∈L,d∈k->k=l)->fh gd (-d) (uo L m)=Q1 (qn l d)
 | [],m,hl,_=>by simp at hl
 |k::L,m,hl,hu=>by
  show fh gd (-d) (uo L (BS k m))=_;by_cases g:l∈L;exact Wk hd L _ g (λa hk=>hu a (by simp[hk]));have hk:k=l:=by
   rcases aD.1 hl with e|e
   exact e.symm;exact(g e).elim
  subst hk;have no:∀a∈L,d∉a:=λa hk h=>g (by have:=hu a (by simp[hk]) h;exact this▸hk);have rest:∀(b:List (List Int)) (c:List (Int×Int)),(∀a∈b,d∉a)->fh gd (-d) (uo b c)=fh gd (-d) c:=by
   intro b
   induction b with
   |nil=>intro c _;rfl
   |cons a b j =>intro c f;show fh gd (-d) (uo b (BS a c))=_;rw[j _ (λi hk=>f i (by simp[hk]))];unfold BS;rw[M',cc (f a (by simp))]
  rw[rest L _ no];unfold BS;rw[M',cr hd]
def xe(k:Net.ml fy):Bool:=k.2==(m8 []).fwd k.1
theorem xJ(s:fy):xe (nA s)=No:=by unfold xe nA;simp
theorem wN(s:fy):xe (nz s)=N2:=by unfold xe nz;cases(m8 []).fwd s<;>rfl
def mo(k:Net.ml fy):Int:=if xe k=No then k.1.1.1 else-k.1.1.1
def pa(al:List b9)(ag:List ct)(k:Net.ml fy):Net.ml fy :=
 if xe k=No then
  (if k.1.2.toNat+2<k.1.1.path.length then nA (k.1.1,((k.1.2.toNat+1:Nat):Int))else mE al ag (fp.k3 al ag k.1.1.1))else(if 0<k.1.2.toNat then nz (k.1.1,((k.1.2.toNat-1:Nat):Int))else mE al ag (fp.k3 al ag (- k.1.1.1)))
namespace fp
variable {al:List b9} {ag:List ct} {fs:List Int} (h:fp al ag fs)
include h
theorem zF{n:b9}(d:n∈al){e:Int}:e∈ki al ag n↔∃a∈ag,(a.2.1=n.1/\e=a.1)\/(a.2.2.1=n.1/\e=-a.1):=by
 rw[(h.wG d).mem_iff];constructor;intro he;obtain⟨p,hp,rfl⟩:=aM.1 he;obtain⟨a,ha,q,j,hc⟩:=h.GF (λ_ ha=>ha) hp;rcases hc with⟨e,rfl⟩|⟨e,rfl⟩
 exact⟨a,ha,br ⟨e,rfl⟩⟩;exact⟨a,ha,bk ⟨e,rfl⟩⟩;rintro ⟨a,ha,hc⟩;obtain⟨f,t,h1,h2,g,_⟩:=h.path ha;have mk:e∈(ph al ag n.1 a).map (·.1)->e∈(np al ag n.1 ag).map (·.1):=λb=>by obtain⟨x,i,e⟩:=aM.1 b;exact e▸aK (dg.2 ⟨a,ha,i⟩)
 apply mk;unfold ph;rw[g];rcases hc with⟨c,rfl⟩|⟨c,rfl⟩<;>simp[c]
theorem Bg{a b:ct}(ha:a∈ag)(c:b∈ag)(e:a.1=b.1):a=b:=by have h1:=h.zD ha;rw[e,h.zD c]at h1;exact(aQ h1).symm
theorem Xb{a b:b9}(ha:a∈al)(c:b∈al)(e:a.1=b.1):a=b:=by have h1:=h.vm ha;rw[e,h.vm c]at h1;exact(aQ h1).symm
theorem Mq{n m:b9}(f:n∈al)(hm:m∈al){e:Int}(h1:e∈ki al ag n)(h2:e∈ki al ag m):n=m:=by
 obtain⟨a,ha,c⟩:=(h.zF f).1 h1;obtain⟨b,g,d⟩:=(h.zF hm).1 h2;have mJ:=h.um ha;have nj:=h.um g;rcases c with⟨c,rfl⟩|⟨c,rfl⟩<;>rcases d with⟨d,e⟩|⟨d,e⟩
 have:=h.Bg ha g e;subst this;exact h.Xb f hm (c.symm.trans d);omega;omega;have:=h.Bg ha g (by omega);subst this;exact h.Xb f hm (c.symm.trans d)
theorem Ap{n:b9}(b:n∈al){e:Int}(he:e∈ki al ag n):k3 al ag (-e)=qn (ki al ag n) e:=by
 unfold k3 DP;rw[Wk he (wF al ag) [] (aK b) (λk hk a=>by
  obtain⟨m,hm,rfl⟩:=aM.1 hk;rw[h.Mq b hm he a])]
 rfl
theorem E7{n:b9}(a:n∈al):(ki al ag n).Nodup:=(h.wG a).nodup_iff.2 (h.Ci n.1 (λ_ ha=>ha) (pq h.rX))
variable {r:List fy} (hr:my al ag ag=Q1 r)
include hr
theorem Wp{n:b9}(a:n∈al){e:Int}(he:e∈ki al ag n){d:fy->Int}(hd:((m8 r).e7 (h.j8 hr)).rR d) :
  ((m8 r).e7 (h.j8 hr)).L d (mE al ag (k3 al ag (-e)))=((m8 r).e7 (h.j8 hr)).L d (Net.rev (mE al ag e)):=by
 obtain⟨i,a7,rfl⟩:=aT he;have ha:=h.Mp hr a;have b:=Net.Mf ((m8 r).w8 (h.j8 hr)) hd ha (i:=i) (by simpa using a7);simp only[b_,aI]at b;rw[h.Ap a he,Gt (h.E7 a) a7];exact b
theorem Gh{k:Net.ml fy}(hk:k.1∈r):(pa al ag k).1∈r/\((m8 r).e7 (h.j8 hr)).src (pa al ag k)=((m8 r).e7 (h.j8 hr)).dst k /\
  (∀d,((m8 r).e7 (h.j8 hr)).rR d->((m8 r).e7 (h.j8 hr)).L d (pa al ag k)=((m8 r).e7 (h.j8 hr)).L d k) /\
  ((mo (pa al ag k)=mo k)\/(pa al ag k=mE al ag (k3 al ag (mo k)))):=by
 obtain⟨a,p,i,o⟩:=h.q_ hr hk;have t:=o.at';have n:k.1.2.toNat=i:=by rw[o.eq];simp
 have l:k.1.1=mF a p:=by rw[o.eq]
 have u:k.1.1.path=p:=by rw[l];rfl
 have g:k.1.1.1=a.1:=by rw[l];rfl
 obtain⟨⟨q,m1,fa⟩,s,m2,gb⟩:=h.DQ o.nM;have hl:=h.Ce o.nM o.path;rcases xG k with e|e
 have u9:xe k=No:=by rw[e];exact xJ _
 unfold pa;rw[cr u9,n,u,g];by_cases a7:i+2<p.length;rw[cr a7,l];have o':nJ al ag (mF a p,((i+1:Nat):Int)) a p (i+1):=⟨o.nM,o.path,by omega,rfl⟩;refine⟨u5 hr a o.nM p o.path _ (vM (by omega)),?_,λd hd=>?_,br ?_⟩;rw[Ad,e,Gx];exact aQ (o'.rO.symm.trans o.se);have:=(h.Wo hr o o' hd).1;rw[this,<-e];unfold mo;rw[xJ,u9,cr rfl,cr rfl];exact g.symm;rw[cc a7];have b:-a.1∈ki al ag s:=(h.zF m2).2 ⟨a,o.nM,bk ⟨gb.symm,rfl⟩⟩;have c:=h.Ap m2 b;rw[iE]at c;have f:k3 al ag a.1∈ki al ag s:=by rw[c];exact Dk b
 have j:=h.tO hr m2 f;have hf:=h.Dv o.nM o.path;have es:k.1=(mF a p,((p.length-2:Nat):Int)):=by rw[o.eq,show i=p.length-2 by omega]
 refine⟨j.1,?_,λd hd=>?_,bk ?_⟩;rw[j.2.1,e,Gx];exact(h.D6 o (by omega) m2 gb.symm).symm;have:=h.Wp hr m2 b hd;rw[iE,hf,Ll,<-es,<-e]at this;exact this;unfold mo;rw[u9,cr rfl,g];have u9:xe k=N2:=by rw[e];exact wN _
 have m:¬xe k=No:=by rw[u9];simp
 unfold pa;rw[cc m,n,g];by_cases a7:0<i;rw[cr a7,l];have o':nJ al ag (mF a p,((i-1:Nat):Int)) a p (i-1):=⟨o.nM,o.path,by omega,rfl⟩;have o2:nJ al ag k.1 a p (i-1+1):=⟨o.nM,o.path,by omega,by rw[show i-1+1=i by omega];exact o.eq⟩;refine⟨u5 hr a o.nM p o.path _ (vM (by omega)),?_,λd hd=>?_,br ?_⟩;rw[Al,e,GG];exact aQ (o'.se.symm.trans o2.rO);have:=(h.Wo hr o' o2 hd).2;rw[this,<-e];unfold mo;rw[wN,u9,cc (by simp),cc (by simp),g];rfl;rw[cc a7];have b:a.1∈ki al ag q:=(h.zF m1).2 ⟨a,o.nM,br ⟨fa.symm,rfl⟩⟩;have c:=h.Ap m1 b;have f:k3 al ag (-a.1)∈ki al ag q:=by rw[c];exact Dk b
 have j:=h.tO hr m1 f;have hf:=h.BM o.nM o.path;have es:k.1=(mF a p,((0:Nat):Int)):=by rw[o.eq,show i=0 by omega]
 refine⟨j.1,?_,λd hd=>?_,bk ?_⟩;rw[j.2.1,e,GG];exact(h.Cn o (by omega) m1 fa.symm).symm;have:=h.Wp hr m1 b hd;rw[hf,QR,<-es,<-e]at this;exact this;unfold mo;rw[u9,cc (by simp),g]
end fp
def PF{α:Type}[DecidableEq α]:∀ {l m:List α},l.Nodup->(∀x∈l,x∈m)->m.length<=l.length->∀x∈m,x∈l
 | [],m,_,_,h,x,b=>by grind[ja]
 |a::l,m,d,hs,h,x,b=>by
  rw[cS]at d;by_cases e:x=a
  grind
  have c:a∈m:=hs a (aJ ..);have h1:(m.erase a).length=m.length-1:=List.length_erase_of_mem c;have h2:0<m.length:=ja b;rw[aC]at h;refine bf _ (PF (m:=m.erase a) d.2 (λy f=>?_) (by omega) x ((List.mem_erase_of_ne e).2 b))
  grind[bf]
def cd6{l:List Int}(a:l.Nodup){x y:Int}(b:x∈l)(c:y∈l)(e:qn l x=qn l y):x=y:=by
 obtain⟨i,a7,rfl⟩:=aT b;obtain⟨j,hj,rfl⟩:=aT c;rw[Gt a a7,Gt a hj]at e;have d:=(dK a).1 e;have md:∀n,n<l.length->(n+l.length-1)%l.length=if n=0 then l.length-1 else n-1:=by intro n a;split;rw[cQ (by omega)];omega;rw[show n+l.length-1=(n-1)+l.length by omega,fU,cQ (by omega)]
 grind
namespace fp
variable {al:List b9} {ag:List ct} {fs:List Int} (h:fp al ag fs)
include h
theorem FI{d:Int}(hd:d∈k7 al ag):∃a∈ag,∃p,pathOf al ag a.1=Q1 p/\((d=a.1/\mE al ag d=nA (mF a p,((0:Nat):Int)))\/(d=-a.1/\mE al ag d=nz (mF a p,((p.length-2:Nat):Int)))):=by
 obtain⟨a,ha,c⟩:=h.uP.1 hd;obtain⟨f,t,_,_,b,_⟩:=h.path ha;rcases c with rfl|rfl
 exact⟨a,ha,_,b,br ⟨rfl,h.BM ha b⟩⟩;exact⟨a,ha,_,b,bk ⟨rfl,h.Dv ha b⟩⟩
theorem BD{d:Int}(hd:d∈k7 al ag):mo (mE al ag d)=d:=by obtain⟨a,ha,p,hp,⟨rfl,e⟩|⟨rfl,e⟩⟩:=h.FI hd<;>rw[e]<;>unfold mo;rw[xJ,cr rfl];rfl;rw[wN,cc (by simp)];rfl
theorem Ov{d e:Int}(hd:d∈k7 al ag)(he:e∈k7 al ag)(a:k3 al ag d=k3 al ag e):d=e:=by
 have find:∀x,x∈k7 al ag->∃n∈al,-x∈ki al ag n:=λx i=>by have:=h.JN i;obtain⟨l,hl,c⟩:=bG.1 this;obtain⟨n,b,rfl⟩:=aM.1 hl;exact⟨n,b,c⟩
 obtain⟨n,b,h1⟩:=find d hd;obtain⟨m,hm,h2⟩:=find e he;have f:=h.Ap b h1;have g:=h.Ap hm h2;rw[iE]at f g;have fa:=Dk h1;have gb:=Dk h2;rw[<-f,a,g]at fa;have:=h.Mq b hm fa gb;subst this;rw[f,g]at a;have:=cd6 (h.E7 b) h1 h2 a;omega
variable {r:List fy} (hr:my al ag ag=Q1 r)
include hr
theorem yV{k:Net.ml fy}(hk:k.1∈r):mo k∈k7 al ag/\∃a∈ag,∃p,pathOf al ag a.1=Q1 p/\∃i:Nat,i+1<p.length /\
  ((k=nA (mF a p,(i:Int))/\mo k=a.1/\((i+2<p.length/\pa al ag k=nA (mF a p,((i+1:Nat):Int)))\/(i+2=p.length/\pa al ag k=mE al ag (k3 al ag a.1)))) \/
   (k=nz (mF a p,(i:Int))/\mo k=-a.1/\((0<i/\pa al ag k=nz (mF a p,((i-1:Nat):Int)))\/(i=0/\pa al ag k=mE al ag (k3 al ag (-a.1)))))):=by
 obtain⟨a,p,i,o⟩:=h.q_ hr hk;have d:=o.at';have f:k.1.2.toNat=i:=by rw[o.eq];simp
 have b:k.1.1=mF a p:=by rw[o.eq]
 have g:k.1.1.path=p:=by rw[b];rfl
 have c:k.1.1.1=a.1:=by rw[b];rfl
 rcases xG k with e|e
 have u9:xe k=No:=by rw[e];exact xJ _
 have hd:mo k=a.1:=by unfold mo;rw[cr u9,c]
 refine⟨h.uP.2 ⟨a,o.nM,br hd⟩,a,o.nM,p,o.path,i,o.at',br ⟨by rw[<-o.eq];exact e,hd,?_⟩⟩
 grind[pa]
 have u9:¬xe k=No:=by rw[e,wN];simp
 have hd:mo k=-a.1:=by unfold mo;rw[cc u9,c]
 refine⟨h.uP.2 ⟨a,o.nM,bk hd⟩,a,o.nM,p,o.path,i,o.at',bk ⟨by rw[<-o.eq];exact e,hd,?_⟩⟩
 grind[pa]
theorem mk_inj{a b:ct}(ha:a∈ag)(c:b∈ag){p q:List bs}{i j:Nat}(e:((mF a p,(i:Int)):fy)=(mF b q,(j:Int))):a=b/\p=q/\i=j:=by have d:a.1=b.1:=lU (λs:fy=>s.1.1) e;have f:p=q:=lU (λs:fy=>s.1.path) e;have g:(i:Int)=(j:Int):=lU (λs:fy=>s.2) e;exact⟨h.Bg ha c d,f,by omega⟩
theorem bq0{k f:Net.ml fy}(hk:k.1∈r)(o:f.1∈r)(e:pa al ag k=pa al ag f):k=f:=by
 obtain⟨d1,a,ha,p,hp,i,a7,c⟩:=h.yV hr hk;obtain⟨d2,b,g,q,l,j,hj,z⟩:=h.yV hr o;have fin:mo k=mo f->mE al ag (k3 al ag (mo k))=mE al ag (k3 al ag (mo f)):=λe=>by rw[e]
 have t:mE al ag (k3 al ag (mo k))=mE al ag (k3 al ag (mo f))->mo k=mo f:=λe=>by have B:=h.qK d1;have C:=h.qK d2;have:=lU mo e;rw[h.BD B,h.BD C]at this;exact h.Ov d1 d2 this
 have G:=h.um ha;have H:=h.um g;have d:∀x∈k7 al ag,(∀(u:ct) (w:List bs) (m:Nat),u∈ag->pathOf al ag u.1=Q1 w->0<m->mE al ag x≠nA (mF u w,(m:Int)))/\∀(u:ct) (w:List bs) (m:Nat),u∈ag->pathOf al ag u.1=Q1 w->m+2<w.length->mE al ag x≠nz (mF u w,(m:Int)):=by
  intro x D;obtain⟨v,hv,w',E,⟨_,yD⟩|⟨_,yD⟩⟩:=h.FI D<;>rw[yD]
  grind[BL,PI]
  refine⟨λu w m hu hw hm e=>BL e.symm,λu w m hu hw hm e=>?_⟩;obtain⟨_,rfl,I⟩:=h.mk_inj hr hv hu (PH e);omega
 rcases c with⟨c1,c2,⟨s,n⟩|⟨s,n⟩⟩|⟨c1,c2,⟨s,n⟩|⟨s,n⟩⟩<;>rcases z with⟨g1,g2,⟨g3,g4⟩|⟨g3,g4⟩⟩|⟨g1,g2,⟨g3,g4⟩|⟨g3,g4⟩⟩<;>rw[n,g4]at e
 grind[PI]
 exact b8 e.symm ((d _ (h.qK (g2▸d2))).1 a p (i+1) ha hp (by omega));exact b8 e BL;exact b8 e.symm ((d _ (h.qK (g2▸d2))).1 a p (i+1) ha hp (by omega));exact b8 e ((d _ (h.qK (c2▸d1))).1 b q (j+1) g l (by omega));rw[<-c2,<-g2]at e;have:=t e;obtain rfl:=h.Bg ha g (by omega)
 grind
 exact b8 e ((d _ (h.qK (c2▸d1))).2 b q (j-1) g l (by omega))
 grind
 exact b8 e.symm BL;exact b8 e.symm ((d _ (h.qK (g2▸d2))).2 a p (i-1) ha hp (by omega))
 grind[PH]
 exact b8 e.symm ((d _ (h.qK (g2▸d2))).2 a p (i-1) ha hp (by omega));exact b8 e ((d _ (h.qK (c2▸d1))).1 b q (j+1) g l (by omega))
 grind
 exact b8 e ((d _ (h.qK (c2▸d1))).2 b q (j-1) g l (by omega));rw[<-c2,<-g2]at e;have:=t e;obtain rfl:=h.Bg ha g (by omega)
 grind
end fp
open Classical
namespace fp
variable {al:List b9} {ag:List ct} {fs:List Int} (h:fp al ag fs)
variable {r:List fy} (hr:my al ag ag=Q1 r)
include h hr
theorem bq1:(((m8 r).e7 (h.j8 hr)).og.map (pa al ag)).Perm ((m8 r).e7 (h.j8 hr)).og:=by
 have g:=(m8 r).w8 (h.j8 hr);have f:=Net.VG g;have mem:∀k,k∈((m8 r).e7 (h.j8 hr)).og↔k.1∈r:=λk=>Net.Gf;have b:(((m8 r).e7 (h.j8 hr)).og.map (pa al ag)).Nodup:=cX.2 (f.imp_of_mem λ{k c} hk a d e=>d (h.bq0 hr ((mem k).1 hk) ((mem c).1 a) e));have sub:∀k∈((m8 r).e7 (h.j8 hr)).og.map (pa al ag),k∈((m8 r).e7 (h.j8 hr)).og:=by intro k hk;obtain⟨c,a,rfl⟩:=aM.1 hk;exact(mem _).2 (h.Gh hr ((mem c).1 a)).1
 exact(List.perm_ext_iff_of_nodup b f).2 λk=>⟨sub k,PF b sub (by rw[aI];exact Nat.le_refl _) k⟩
omit hr in
omit h in
noncomputable def bV4{al:List b9}{ag:List ct}{fs:List Int}(h:fp al ag fs){r:List fy}(hr:my al ag ag=Q1 r){κ:Type}(a:Int->κ)(hc:∀d∈k7 al ag,a (k3 al ag d)=a d):Net.nK ((m8 r).e7 (h.j8 hr)) κ where
 c:=λk=>a (mo k)
 gA:=pa al ag
 mem:=λk hk=>(h.Gh hr hk).1
 NY:=λk hk=>by
  have hd:=(h.yV hr hk).1;rcases(h.Gh hr hk).2.2.2 with e|e
  show a (mo (pa al ag k))=_;rw[e];show a (mo (pa al ag k))=_;rw[e,h.BD (h.qK hd),hc _ hd]
 left:=λk hk d hd=>(h.Gh hr hk).2.2.1 d hd
 closed:=λC A=>by
  have mem:∀k,k∈((m8 r).e7 (h.j8 hr)).og↔k.1∈r:=λk=>Net.Gf;have i:eb ((m8 r).e7 (h.j8 hr)).og (λk=>if a (mo k)=C then A (((m8 r).e7 (h.j8 hr)).src k)-A (((m8 r).e7 (h.j8 hr)).dst k)else 0)
    = eb ((m8 r).e7 (h.j8 hr)).og (λk=>if a (mo k)=C then A (((m8 r).e7 (h.j8 hr)).src k)else 0)-eb ((m8 r).e7 (h.j8 hr)).og (λk=>if a (mo k)=C then A (((m8 r).e7 (h.j8 hr)).dst k)else 0):=by
   rw[<-yI];refine ns λk _=>?_;by_cases f:a (mo k)=C;simp only[cr f];simp only[cc f];omega
  have j:eb ((m8 r).e7 (h.j8 hr)).og (λk=>if a (mo k)=C then A (((m8 r).e7 (h.j8 hr)).dst k)else 0)=eb ((m8 r).e7 (h.j8 hr)).og (λk=>if a (mo k)=C then A (((m8 r).e7 (h.j8 hr)).src k)else 0):=by
   refine Eq.symm ?_;rw[<-PK (h.bq1 hr),DY];refine ns λk hk=>?_;have b:=(mem k).1 hk;have g:=h.Gh hr b;have hd:=(h.yV hr b).1;have hl:a (mo (pa al ag k))=a (mo k):=by
    rcases g.2.2.2 with e|e
    rw[e];rw[e,h.BD (h.qK hd),hc _ hd]
   rw[hl,g.2.1]
  show eb ((m8 r).e7 (h.j8 hr)).og (λk=>if a (mo k)=C then A (((m8 r).e7 (h.j8 hr)).src k)-A (((m8 r).e7 (h.j8 hr)).dst k)else 0)=0;rw[i,j];omega
end fp
end Go.Ab
namespace Go.Ab
open Go
def ot(gA:Int->Int)(d:Int):Nat->Int
 | 0=>d
 |n+1=>gA (ot gA d n)
def lS(gA:Int->Int)(d:Int)(m:Nat):List Int:=(aN m).map (ot gA d)
def N4(gA:Int->Int)(d:Int)(m:Nat):lS gA d (m+1)=lS gA d m++[ot gA d m]:=by unfold lS;rw[dH,ez];rfl
theorem td{gA:Int->Int}{d:Int}{m:Nat}{x:Int}:x∈lS gA d m↔∃i,i<m/\ot gA d i=x:=by unfold lS;simp
def av8{gA:Int->Int}{d:Int}{m:Nat}(a:(lS gA d m).Nodup){i j:Nat}(a7:i<m)(hj:j<m)(e:ot gA d i=ot gA d j):i=j:=by
 unfold lS at a;have h1:i<((aN m).map (ot gA d)).length:=by simpa using a7
 have h2:j<((aN m).map (ot gA d)).length:=by simpa using hj
 exact(dK (h₀:=h1) (h₁:=h2) a).1 (by simpa using e)
section
variable {gA:Int->Int} {D:List Int} (hD:∀d∈D,gA d∈D) (inj:∀d∈D,∀e∈D,gA d=gA e->d=e)
def vU(hD:∀d∈D,gA d∈D){d:Int}(hd:d∈D):∀n,ot gA d n∈D
 | 0=>hd
 |n+1=>hD _ (vU hD hd n)
include hD inj
theorem Nc{d:Int}(hd:d∈D){c:List Int}(f:∀y∈c,∃x∈c,gA x=y)(s0:∀x∈c,x∈D)(tX:d∉c):∀(n m:Nat),(c++lS gA d m).Nodup->pV D (c++lS gA d m)<n ->
  ∃g,0<g/\ot gA d g=d/\rn gA n (c++lS gA d m) (ot gA d m) (lS gA d m)=(lS gA d g,c++lS gA d g)/\(c++lS gA d g).Nodup
 | 0,m,_,hu=>by omega
 |n+1,m,i,hu=>by
  unfold rn;have h:=(dI.1 i).2.2;by_cases hm:ot gA d m∈c++lS gA d m;rw[cr hm];have key:0<m/\ot gA d m=d:=by
   rcases aY.1 hm with h1|h1
   exfalso;cases m;exact tX h1;rename_i m;obtain⟨x,o,e⟩:=f _ h1;have:=inj x (s0 x o) _ (vU hD hd m) e;exact h x o x (td.2 ⟨m,by omega,this.symm⟩) rfl;obtain⟨j,hj,e⟩:=td.1 h1;refine⟨by omega,?_⟩;cases j;exact e.symm;rename_i j;exfalso;cases m;omega;rename_i m;have:=inj _ (vU hD hd j) _ (vU hD hd m) e;have:=av8 (dI.1 i).2.1 (by omega) (by omega) this;omega
  exact⟨m,key.1,key.2,rfl,i⟩;rw[cc hm];have e:c++lS gA d m++[ot gA d m]=c++lS gA d (m+1):=by rw[N4,bm]
  have k:=N' (vU hD hd m) hm;rw[e]at k⊢;rw[<-N4];refine Nc hd f s0 tX n (m+1) ?_ (by omega);rw[<-e];refine dI.2 ⟨i,by simp,?_⟩;intro a ha b p l;simp at p;exact hm (p▸l▸ha)
structure ze(gA:Int->Int)(D:List Int)(cs:List (List Int)):Prop where
 y5:∀c∈cs,∃d m,d∈D/\0<m/\ot gA d m=d/\c=lS gA d m
 nodup:cs.flatten.Nodup
theorem Rt{cs:List (List Int)}(hc:ze gA D cs):∀y∈cs.flatten,∃x∈cs.flatten,gA x=y:=by
 intro y b;obtain⟨c,a,b⟩:=bG.1 b;obtain⟨d,m,hd,hm,he,rfl⟩:=hc.y5 c a;obtain⟨i,a7,rfl⟩:=td.1 b;cases i with
 |zero=>exact⟨ot gA d (m-1),bG.2 ⟨_,a,td.2 ⟨m-1,by omega,rfl⟩⟩,by
   have:ot gA d (m-1+1)=d:=by rw[show m-1+1=m by omega];exact he
   exact this⟩
 |succ i=>exact⟨ot gA d i,bG.2 ⟨_,a,td.2 ⟨i,by omega,rfl⟩⟩,rfl⟩
theorem PL{cs:List (List Int)}(hc:ze gA D cs):∀y∈cs.flatten,y∈D:=by intro y a;obtain⟨c,b,a⟩:=bG.1 a;obtain⟨d,m,hd,hm,he,rfl⟩:=hc.y5 c b;obtain⟨i,a7,rfl⟩:=td.1 a;exact vU hD hd i
theorem Nh:∀(a:List Int) (acc:List (List Int)),(∀d∈a,d∈D)->ze gA D acc->ze gA D (qW gA D a acc.flatten acc)/\∀d,(d∈a\/d∈acc.flatten)->d∈(qW gA D a acc.flatten acc).flatten
 | [],acc,_,hc=>⟨hc,λd hd=>by
   rcases hd with hd|hd
   simp at hd;exact hd⟩
 |d::a,acc,b,hc=>by
  have hd:=b d (by simp);unfold qW;by_cases hs:d∈acc.flatten;rw[cr hs];obtain⟨i1,i2⟩:=Nh a acc (λe he=>b e (by simp[he])) hc;refine⟨i1,λe he=>i2 e ?_⟩;rcases he with he|he
  rcases aD.1 he with rfl|he
  exact bk hs;exact br he;exact bk he;rw[cc hs];have hz:acc.flatten++lS gA d 0=acc.flatten:=by simp[lS]
  obtain⟨m,hm,he,hf,j⟩:=Nc hD inj hd (Rt hD inj hc) (PL hD inj hc) hs (pV D acc.flatten+1) 0 (by rw[hz];exact hc.nodup) (by rw[hz];omega);rw[hz]at hf;have g:rn gA (pV D acc.flatten+1) acc.flatten d []=(lS gA d m,acc.flatten++lS gA d m):=hf;simp only[g];have e:acc.flatten++lS gA d m=(acc++[lS gA d m]).flatten:=by simp
  have i:ze gA D (acc++[lS gA d m]):=by
   refine⟨λc h=>?_,by rw[<-e];exact j⟩;rcases aY.1 h with h|h
   exact hc.y5 c h;simp at h;exact⟨d,m,hd,hm,he,h⟩
  rw[e];obtain⟨i1,i2⟩:=Nh a _ (λe he=>b e (by simp[he])) i;refine⟨i1,λx f=>i2 x ?_⟩;rcases f with f|f
  rcases aD.1 f with rfl|f
  exact bk (by rw[<-e];exact gG _ (td.2 ⟨0,hm,rfl⟩));exact br f;exact bk (by rw[<-e];exact dq _ f)
end
open Go.Pg
def wh(al:List b9)(ag:List ct)(d:Int):List Int:=((fp.l9 al ag).find? (λc=>Eo (d∈c))).getD []
def aK6{cs:List (List Int)}(g:cs.flatten.Nodup){c f:List Int}(h1:c∈cs)(h2:f∈cs){d:Int}(d1:d∈c)(d2:d∈f):c=f:=by
 have hp:=(dS.1 g).2;have:=Gw (R:=λc f:List Int=>c=f\/∀x∈c,∀y∈f,x≠y) (λx y h=>by
  rcases h with h|h
  exact br h.symm;exact bk λa ha b i e=>h b i a ha e.symm) (λx=>br rfl) (hp.imp λ{x y} h=>bk h) h1 h2
 rcases this with h|h
 exact h;exact(h d d1 d d2 rfl).elim
namespace fp
variable {al:List b9} {ag:List ct} {fs:List Int} (h:fp al ag fs)
include h
theorem xF:ze (k3 al ag) (k7 al ag) (l9 al ag)/\∀d∈k7 al ag,d∈(l9 al ag).flatten:=by have hp:=cP (k7 al ag) (λa b=>Eo (a<=b));obtain⟨i1,i2⟩:=Nh (gA:=k3 al ag) (D:=k7 al ag) (λd hd=>h.qK hd) (λd hd e he x=>h.Ov hd he x) ((k7 al ag).mergeSort λa b=>Eo (a<=b)) [] (λd hd=>hp.mem_iff.1 hd) ⟨λc hc=>by simp at hc,by simp⟩;exact⟨i1,λd hd=>i2 d (br (hp.mem_iff.2 hd))⟩
theorem zT{d:Int}(hd:d∈k7 al ag):wh al ag d∈l9 al ag/\d∈wh al ag d:=by
 obtain⟨c,hc,a⟩:=bG.1 (h.xF.2 d hd);unfold wh;cases hf:(l9 al ag).find? (λc=>Eo (d∈c))with
 |none=>exact b8 a (by have:=fH.1 hf c hc;simpa using this)
 |some b =>have h1:=aX hf;have h2:=db hf;exact⟨h1,by simpa using h2⟩
theorem zS{c:List Int}(hc:c∈l9 al ag){d:Int}(hd:d∈c):d∈k7 al ag:=by obtain⟨e,m,he,hm,_,rfl⟩:=h.xF.1.y5 c hc;obtain⟨i,_,rfl⟩:=td.1 hd;exact vU (λd hd=>h.qK hd) he i
theorem Iu{c:List Int}(hc:c∈l9 al ag){d:Int}(hd:d∈c):wh al ag d=c:=by have h1:=h.zT (h.zS hc hd);exact aK6 h.xF.1.nodup h1.1 hc h1.2 hd
theorem bf8{c:List Int}(hc:c∈l9 al ag){d:Int}(hd:d∈c):k3 al ag d∈c:=by
 obtain⟨e,m,he,hm,hz,rfl⟩:=h.xF.1.y5 c hc;obtain⟨i,a7,rfl⟩:=td.1 hd;by_cases hl:i+1<m;exact td.2 ⟨i+1,hl,rfl⟩;refine td.2 ⟨0,hm,?_⟩;have:ot (k3 al ag) e (i+1)=e:=by rw[show i+1=m by omega];exact hz
 exact this.symm
theorem bg3{d:Int}(hd:d∈k7 al ag):wh al ag (k3 al ag d)=wh al ag d:=by have h1:=h.zT hd;exact h.Iu h1.1 (h.bf8 h1.1 h1.2)
variable {r:List fy} (hr:my al ag ag=Q1 r)
noncomputable def mD{al:List b9}{ag:List ct}{fs:List Int}(h:fp al ag fs){r:List fy}(hr:my al ag ag=Q1 r):Net.nK ((m8 r).e7 (h.j8 hr)) (List Int):=h.bV4 hr (wh al ag) (λ_ hd=>h.bg3 hd)
theorem MY{d:Int}(hd:d∈k7 al ag)(hr:my al ag ag=Q1 r):(mE al ag d).1∈r:=by obtain⟨a,ha,p,hp,⟨_,e⟩|⟨_,e⟩⟩:=h.FI hd<;>rw[e];exact u5 hr a ha p hp _ (vM (by have:=h.Ce ha hp;omega));exact u5 hr a ha p hp _ (vM (by have:=h.Ce ha hp;omega))
theorem Fl{k:Net.ml fy}(hk:k.1∈r):(h.mD hr).mj (mE al ag (mo k)) k/\(h.mD hr).mj k (mE al ag (k3 al ag (mo k))):=by
 obtain⟨_,a,ha,p,hp,i,a7,c⟩:=h.yV hr hk;have inr:∀j:Nat,j+1<p.length->(mF a p,(j:Int))∈r:=λj hj=>u5 hr a ha p hp _ (vM hj);have b:∀k,(h.mD hr).gA k=pa al ag k:=λ_=>rfl;rcases c with⟨c1,c2,_⟩|⟨c1,c2,_⟩
 rw[c1,show mo (nA (mF a p,(i:Int)))=a.1 from c1▸c2,h.BM ha hp];have st:∀j:Nat,j+2<p.length->pa al ag (nA (mF a p,(j:Int)))=nA (mF a p,((j+1:Nat):Int)):=λj hj=>by
  unfold pa;rw[cr (xJ _)];have d:((nA (mF a p,(j:Int))).1.2).toNat=j:=by show((j:Int)).toNat=j;simp
  have e:(nA (mF a p,(j:Int))).1.1.path.length=p.length:=rfl;rw[d,e,cr hj];rfl
 have f:∀j:Nat,j+2=p.length->pa al ag (nA (mF a p,(j:Int)))=mE al ag (k3 al ag a.1):=λj hj=>by
  unfold pa;rw[cr (xJ _)];have d:((nA (mF a p,(j:Int))).1.2).toNat=j:=by show((j:Int)).toNat=j;simp
  have e:(nA (mF a p,(j:Int))).1.1.path.length=p.length:=rfl;rw[d,e,cc (by omega)];rfl
 have up:∀n j:Nat,j+n+1<p.length->(h.mD hr).mj (nA (mF a p,(j:Int))) (nA (mF a p,((j+n:Nat):Int))):=by
  intro n
  induction n with
  |zero=>intro j hj;exact Net.nK.mj.refl _
  |succ n g =>intro j hj;have h1:=g j (by omega);have h2:=Net.nK.mj.gA (w:=h.mD hr) (h:=nA (mF a p,((j+n:Nat):Int))) (inr (j+n) (by omega)) h1;rw[b,st (j+n) (by omega)]at h2;exact h2
 refine⟨by have:=up i 0 (by omega);rw[a_]at this;exact this,?_⟩;have h1:=up (p.length-2-i) i (by omega);have h2:=Net.nK.mj.gA (w:=h.mD hr) (h:=nA (mF a p,((i+(p.length-2-i):Nat):Int))) (inr _ (by omega)) h1;rw[b,f _ (by omega)]at h2;exact h2;rw[c1,show mo (nz (mF a p,(i:Int)))=-a.1 from c1▸c2,h.Dv ha hp];have st:∀j:Nat,0<j->pa al ag (nz (mF a p,(j:Int)))=nz (mF a p,((j-1:Nat):Int)):=λj hj=>by
  unfold pa;rw[cc (by rw[wN];simp)];have d:((nz (mF a p,(j:Int))).1.2).toNat=j:=by show((j:Int)).toNat=j;simp
  rw[d,cr hj];rfl
 have f:pa al ag (nz (mF a p,((0:Nat):Int)))=mE al ag (k3 al ag (-a.1)):=by unfold pa;rw[cc (by rw[wN];simp)];have d:((nz (mF a p,((0:Nat):Int))).1.2).toNat=0:=rfl;rw[d,cc (by omega)];rfl
 have ng:∀n j:Nat,j+n+1<p.length->(h.mD hr).mj (nz (mF a p,((j+n:Nat):Int))) (nz (mF a p,(j:Int))):=by
  intro n
  induction n with
  |zero=>intro j hj;exact Net.nK.mj.refl _
  |succ n g =>intro j hj;have h1:=g (j+1) (by omega);rw[show j+1+n=j+(n+1)by omega]at h1;have h2:=Net.nK.mj.gA (w:=h.mD hr) (h:=nz (mF a p,((j+1:Nat):Int))) (inr (j+1) (by omega)) h1;rw[b,st (j+1) (by omega)]at h2;exact h2
 refine⟨by have:=ng (p.length-2-i) i (by omega);rw[show i+(p.length-2-i)=p.length-2 by omega]at this;exact this,?_⟩;have h1:=ng i 0 (by omega);rw[a_]at h1;have h2:=Net.nK.mj.gA (w:=h.mD hr) (h:=nz (mF a p,((0:Nat):Int))) (inr 0 (by omega)) h1;rw[b,f]at h2;exact h2
end fp
namespace fp
variable {al:List b9} {ag:List ct} {fs:List Int} (h:fp al ag fs)
variable {r:List fy} (hr:my al ag ag=Q1 r)
include h
theorem MC{e:Int}(he:e∈k7 al ag):∀i,(h.mD hr).mj (mE al ag e) (mE al ag (ot (k3 al ag) e i))
 | 0=>Net.nK.mj.refl _
 |i+1=>by have hm:=vU (gA:=k3 al ag) (λd hd=>h.qK hd) he i;have h1:=MC he i;have h2:=(h.Fl hr (h.MY hm hr)).2;rw[h.BD hm]at h2;exact Net.nK.oc _ h1 h2
theorem VS{c:List Int}(hc:c∈l9 al ag){d:Int}(hd:d∈c):(h.mD hr).CR c (mE al ag d):=by
 intro k hk b;have a:k.1∈r:=b;have f:=(h.yV hr a).1;have g:wh al ag (mo k)=c:=hk;have h1:=(h.Fl hr a).1;have h2:mo k∈c:=by rw[<-g];exact(h.zT f).2
 obtain⟨e,m,he,hm,_,rfl⟩:=h.xF.1.y5 c hc;obtain⟨i,_,a7⟩:=td.1 h2;obtain⟨j,_,hj⟩:=td.1 hd;have l:=h.MC hr he i;have a2:=h.MC hr he j;rw[a7]at l;rw[hj]at a2;exact Net.nK.oc _ (Net.nK.xC _ a2) (Net.nK.oc _ l h1)
end fp
open Classical
def zj(p q:bs):Int:=p.1*q.2-q.1*p.2
def as8:∀(l:List bs) (p:bs),eb (aN l.length) (λi=>zj (((p::l)[i]?).getD (0,0)) (((p::l)[i+1]?).getD (0,0)))=oZ p l
 | [],p=>rfl
 |q::l,p=>by have a:=as8 l q;rw[aC,gh];simp only[eb,DY];have e:∀i:Nat,(p::q::l)[i+1]?=(q::l)[i]?:=λi=>rfl;have b:∀i:Nat,(p::q::l)[kb i+1]?=(q::l)[i+1]?:=λi=>rfl;have c:∀i:Nat,(p::q::l)[kb i]?=(q::l)[i]?:=λi=>rfl;simp only[b,c];rw[a];rfl
def bM6{al:List b9}{ag:List ct}{f:fy->Int}{a:ct}{p:List bs}(hp:pathOf al ag a.1=Q1 p):∀ {l:List ct} {r:List fy},(l.map (·.1)).Pairwise (·<·)->my al ag l=Q1 r ->
  eb r (λs=>if s.1.1=a.1 then f s else 0)=if a.1∈l.map (·.1)then eb r (λs=>if s.1.1=a.1 then f s else 0)else 0
 |l,r,hl,h=>by
  by_cases c:a.1∈l.map (·.1);rw[cr c];rw[cc c];refine uq λs hs=>?_;obtain⟨b,d,q,_,hm⟩:=Bt h s hs;obtain⟨i,_,e⟩:=xw hm;have g:s.1.1=b.1:=by rw[e];rfl
  rw[cc (λj=>c (by rw[<-j,g];exact aK d))]
def NP{al:List b9}{ag:List ct}(f:fy->Int){a:ct}{p:List bs}(hp:pathOf al ag a.1=Q1 p):∀ {l:List ct} {r:List fy},(l.map (·.1)).Pairwise (·<·)->(∀b∈l,b.1=a.1->b=a)->my al ag l=Q1 r->a∈l ->
  eb r (λs=>if s.1.1=a.1 then f s else 0)=eb (pf a p) f
 | [],r,_,_,_,ha=>by simp at ha
 |b::l,r,hl,hu,h,ha=>by
  rw[au,aR]at hl;unfold my at h;split at h;cases h;rename_i q j;cases hc:((Eo (b.2.1=b.2.2.1)&&Eo (q.length<4))||!(qt q))with
  |true=>rw[hc]at h;cases h
  |false=>
   rw[hc]at h;simp only[bu]at h;split at h;rename_i n c;cases h;rw[zQ];have hd:∀s∈pf b q,s.1.1=b.1:=λs hs=>by obtain⟨i,_,e⟩:=xw hs;rw[e];rfl
   by_cases e:b=a;subst e;rw[hp]at j;cases j;have z:=bM6 (f:=f) (a:=b) hp hl.2 c;rw[cc (λhm=>by have:=hl.1 _ hm;omega)]at z;rw[z,ns (f:=λs=>if s.1.1=b.1 then f s else 0) (g:=f) (l:=pf b p) (λs hs=>cr (hd s hs))];omega;have d:a∈l:=by
    rcases aD.1 ha with h|h
    exact(e h.symm).elim;exact h
   rw[NP f hp hl.2 (λb k=>hu b (by simp[k])) c d,uq (l:=pf b q) (λs hs=>cc (λm=>e (hu b (by simp) (by rw[<-hd s hs];exact m))))];omega;cases h
def bS4(a:ct)(p0:bs)(l:List bs):eb (pf a (p0::l)) (λs=>zj (hi s) (gl s))=oZ p0 l:=by unfold pf;rw[DY,<-as8];exact ns λi _=>rfl
def af5(al:List b9)(ag:List ct):∀c:List Int,l5 al ag c=eb c (vi al ag)
 | []=>rfl
 |d::c=>by show vi al ag d+l5 al ag c=_;rw[af5 al ag c];rfl
def Qe(x:Int)(v:Int):∀ {c:List Int},c.Nodup->eb c (λd=>if x=d then v else 0)=if x∈c then v else 0
 | [],_=>by simp[eb]
 |a::c,f=>by rw[cS]at f;have g:=Qe x v f.2;simp only[eb,g];by_cases e:x=a;subst e;rw[cr rfl,cc f.1,cr (aJ ..)];omega;rw[cc e];by_cases b:x∈c;rw[cr b,cr (bf _ b)];omega;rw[cc b,cc (by simp[e,b])];rfl
namespace fp
variable {al:List b9} {ag:List ct} {fs:List Int} (h:fp al ag fs)
variable {r:List fy} (hr:my al ag ag=Q1 r)
include h
theorem ap7(F:Net.ml fy->Int):eb ((m8 r).e7 (h.j8 hr)).og F=eb r (λs=>F (nA s)+F (nz s)):=by rw[Net.D9];refine ns λs _=>?_;unfold nA nz;cases(m8 []).fwd s;show F (s,No)+F (s,N2)=F (s,N2)+F (s,No);omega;rfl
theorem bg1{d:Int}(hd:d∈k7 al ag):eb ((m8 r).e7 (h.j8 hr)).og (λk=>if mo k=d then((m8 r).e7 (h.j8 hr)).vV k else 0)=vi al ag d:=by
 rw[h.ap7 hr];have d1:∀s,mo (nA s)=s.1.1:=λs=>by unfold mo;rw[cr (xJ s)];rfl
 have d2:∀s,mo (nz s)=- s.1.1:=λs=>by unfold mo;rw[cc (by rw[wN];simp)];rfl
 have c1:∀s,((m8 r).e7 (h.j8 hr)).vV (nA s)=zj (hi s) (gl s):=λs=>by unfold Net.vV;rw[Ad,Gx];rfl
 have c2:∀s,((m8 r).e7 (h.j8 hr)).vV (nz s)=- zj (hi s) (gl s):=λs=>by unfold Net.vV zj;rw[Al,GG];omega
 have pos:∀s∈r,0<s.1.1:=λs hs=>by obtain⟨a,p,i,o⟩:=h.q_ hr hs;have:=h.um o.nM;rw[o.eq];exact this
 obtain⟨a,ha,c⟩:=h.uP.1 hd;obtain⟨f,t,_,_,g,_⟩:=h.path ha;have hp:=h.um ha;have j:=NP (λs=>zj (hi s) (gl s)) g (pq h.rX) (λb l e=>h.Bg l ha e) hr ha;rw[bS4]at j;rcases c with rfl|rfl
 have e:eb r (λs=>(if mo (nA s)=a.1 then((m8 r).e7 (h.j8 hr)).vV (nA s)else 0)+(if mo (nz s)=a.1 then((m8 r).e7 (h.j8 hr)).vV (nz s)else 0))=eb r (λs=>if s.1.1=a.1 then zj (hi s) (gl s)else 0):=by refine ns λs hs=>?_;have:=pos s hs;rw[d1,d2,c1,cc (show ¬-s.1.1=a.1 by omega),e_]
 rw[e,j];unfold vi;rw[show la a.1=a.1 by unfold la;omega,g];simp only;rw[cc (by omega)];have e:eb r (λs=>(if mo (nA s)=-a.1 then((m8 r).e7 (h.j8 hr)).vV (nA s)else 0)+(if mo (nz s)=-a.1 then((m8 r).e7 (h.j8 hr)).vV (nz s)else 0))=- eb r (λs=>if s.1.1=a.1 then zj (hi s) (gl s)else 0):=by rw[<-GC];refine ns λs hs=>?_;have:=pos s hs;rw[d1,d2,c2,cc (show ¬s.1.1=-a.1 by omega),gv];by_cases q:s.1.1=a.1;rw[cr q,cr (by omega)];rw[cc q,cc (by omega)];rfl
 rw[e,j];unfold vi;rw[show la (-a.1)=a.1 by unfold la;omega,g];simp only;rw[cr (by omega)]
theorem QK{c:List Int}(hc:c∈l9 al ag):Net.tN (h.mD hr) c=l5 al ag c:=by
 have g:c.Nodup:=(dS.1 h.xF.1.nodup).1 c hc;have mem:∀k,k∈((m8 r).e7 (h.j8 hr)).og↔k.1∈r:=λk=>Net.Gf;rw[af5];have i:eb c (vi al ag)=eb c (λd=>eb ((m8 r).e7 (h.j8 hr)).og (λk=>if mo k=d then((m8 r).e7 (h.j8 hr)).vV k else 0)) :=ns λd hd=>(h.bg1 hr (h.zS hc hd)).symm;rw[i,J2];unfold Net.tN;refine ns λk hk=>?_;rw[Qe _ _ g];have f:=(h.yV hr ((mem k).1 hk)).1;by_cases b:mo k∈c;have a:(h.mD hr).c k=c:=h.Iu hc b;rw[cr b,cr a];have a:¬(h.mD hr).c k=c:=λe=>b (by
  have j:wh al ag (mo k)=c:=e;rw[<-j];exact(h.zT f).2)
 rw[cc b,cc a]
end fp
end Go.Ab
namespace Go.Ab
open Go Go.Pg
def oN(g:bs->bs->Int):bs->List bs->Int
 |_,[]=>0
 |p,q::r=>g p q+oN g q r
def Xo(g:bs->bs->Int):∀(l:List bs) (p:bs),eb (aN l.length) (λi=>g (((p::l)[i]?).getD (0,0)) (((p::l)[i+1]?).getD (0,0)))=oN g p l
 | [],p=>rfl
 |q::l,p=>by have a:=Xo g l q;rw[aC,gh];simp only[eb,DY];have b:∀i:Nat,(p::q::l)[kb i+1]?=(q::l)[i+1]?:=λi=>rfl;have c:∀i:Nat,(p::q::l)[kb i]?=(q::l)[i]?:=λi=>rfl;simp only[b,c];rw[a];rfl
def cd4(g:bs->bs->Int)(a:ct)(p0:bs)(l:List bs):eb (pf a (p0::l)) (λs=>g (hi s) (gl s))=oN g p0 l:=by unfold pf;rw[DY,<-Xo];exact ns λi _=>rfl
def pg(at' a b:bs):Bool:=(Eo (a.2<=at'.2)&&(Eo (at'.2<b.2)&&Eo (0<l7 a b at')))||(Eo (b.2<=at'.2)&&(Eo (at'.2<a.2)&&Eo (l7 a b at'<0)))
def nG(at' a b:bs):Int:=if pg at' a b=No then 1 else 0
def qa(at':bs):bs->List bs->Bool
 |_,[]=>N2
 |p,q::r=>mc p q at'||qa at' q r
def WV(at':bs):∀(l:List bs) (p:bs) (st:Bool×Bool),(vj at' p l st).2=(st.2||qa at' p l)/\(qa at' p l=N2->∀n:Int,st.1=Eo (n%2=1)->(vj at' p l st).1=Eo ((n+oN (nG at') p l)%2=1))
 | [],p,st=>⟨by simp[vj,qa],λ_ n a=>by simpa[vj,oN]using a⟩
 |q::l,p,st=>by
  obtain⟨i1,i2⟩:=WV at' l q (w5 at' st p q);show(vj at' q l (w5 at' st p q)).2=(st.2||(mc p q at'||qa at' q l))/\((mc p q at'||qa at' q l)=N2->∀n:Int,st.1=Eo (n%2=1)->(vj at' q l (w5 at' st p q)).1=Eo ((n+(nG at' p q+oN (nG at') q l))%2=1));cases ho:mc p q at' with
  |true=>
   have e:w5 at' st p q=(st.1,No):=by unfold w5;rw[ho];rfl
   rw[e]at i1⊢;refine⟨by rw[i1];simp,λh=>by simp at h⟩
  |false=>
   have e:w5 at' st p q=bif pg at' p q then(!st.1,st.2)else st:=by unfold w5;rw[ho];rfl
   have b:(w5 at' st p q).2=st.2:=by rw[e];cases pg at' p q<;>rfl
   refine⟨by rw[i1,b];simp,λh n a=>?_⟩;have h':qa at' q l=N2:=by simpa using h
   have d:(w5 at' st p q).1=Eo ((n+nG at' p q)%2=1):=by
    rw[e];unfold nG;cases pg at' p q with
    |false=>simpa using a
    |true=>
     show(!st.1)=Eo ((n+1)%2=1);rw[a];by_cases c:n%2=1;have:¬(n+1)%2=1:=by omega
     simp[c,this];have:(n+1)%2=1:=by omega
     simp[c,this]
   rw[i2 h' (n+nG at' p q) d];exact decide_eq_decide.2 (by rw[show n+(nG at' p q+oN (nG at') q l)=n+nG at' p q+oN (nG at') q l by omega])
def pY(at':bs):List bs->Int
 | []=>0
 |p::l=>oN (nG at') p l
def pB(at':bs):List bs->Bool
 | []=>N2
 |p::l=>qa at' p l
def bZ2(at':bs)(l:List bs)(st:Bool×Bool):(y7 at' l st).2=(st.2||pB at' l)/\(pB at' l=N2->∀n:Int,st.1=Eo (n%2=1)->(y7 at' l st).1=Eo ((n+pY at' l)%2=1)):=by cases l;exact⟨by simp[y7,pB],λ_ n a=>by simpa[y7,pY]using a⟩;rename_i p l;exact WV at' l p st
def WY(m:List (Int×List bs))(at':bs):∀(c:List Int) (st:Bool×Bool),(tn m at' c st).2=(st.2||c.any λd=>pB at' ((fh gd (la d) m).getD [])) /\
  ((∀d∈c,pB at' ((fh gd (la d) m).getD [])=N2)->∀n:Int,st.1=Eo (n%2=1)->(tn m at' c st).1=Eo ((n+eb c λd=>pY at' ((fh gd (la d) m).getD []))%2=1))
 | [],st=>⟨by simp[tn],λ_ n a=>by simpa[tn,eb]using a⟩
 |d::c,st=>by obtain⟨mJ,nj⟩:=bZ2 at' ((fh gd (la d) m).getD []) st;obtain⟨i1,i2⟩:=WY m at' c (y7 at' ((fh gd (la d) m).getD []) st);refine⟨?_,λa n h=>?_⟩;show(tn m at' c (y7 at' ((fh gd (la d) m).getD []) st)).2=_;rw[i1,mJ,gq,kX];show(tn m at' c (y7 at' ((fh gd (la d) m).getD []) st)).1=_;rw[i2 (λe he=>a e (by simp[he])) _ (nj (a d (by simp)) n h)];exact decide_eq_decide.2 (by simp only[eb];rw[gQ])
def FU(m:List (Int×List bs))(at':bs)(c:List Int):nF m c at'=No↔(∀d∈c,pB at' ((fh gd (la d) m).getD [])=N2)/\(eb c λd=>pY at' ((fh gd (la d) m).getD []))%2=1:=by
 obtain⟨h1,h2⟩:=WY m at' c (N2,N2);unfold nF;by_cases a:∀d∈c,pB at' ((fh gd (la d) m).getD [])=N2;have f:=h2 a 0 (by simp);have e:(tn m at' c (N2,N2)).2=N2:=by rw[h1,cY];exact cB.2 λd hd=>by rw[a d hd];simp
 rw[f,e,gv];constructor;intro h;refine⟨a,?_⟩;by_cases q:(eb c λd=>pY at' ((fh gd (la d) m).getD []))%2=1;exact q;rw[ft q]at h;cases h;rintro ⟨_,h⟩;rw[hT h];rfl;have e:(tn m at' c (N2,N2)).2=No:=by rw[h1,cY,fC];have:∃d,d∈c/\¬pB at' ((fh gd (la d) m).getD [])=N2:=dW λh=>a λd hd=>dW λh'=>h ⟨d,hd,h'⟩;obtain⟨d,hd,h⟩:=this;exact⟨d,hd,by simpa using h⟩
 rw[e];constructor;intro h;exfalso;generalize(tn m at' c (N2,N2)).1=b at h;cases b<;>simp at h;rintro ⟨h,_⟩;exact(a h).elim
def ca0{a b p:bs}(ha:d' a=No)(c:d' b=No)(hp:d' p=No):(0<l7 a b p↔0<fr a b p)/\(l7 a b p<0↔fr a b p<0):=by unfold l7;rw[Ft ha c hp];constructor<;>(repeat' split)<;>omega
namespace q6
variable {ι:Type} (F:q6 ι) (dC:F.Ok)
include dC
theorem ay7(x k:Int):Net.nK.yn (F.e7 dC) k (λt=>(F.e7 dC).eS t k/\(F.e7 dC).X t k<(F.e7 dC).M*x):=by
 refine⟨λt _ h=>h.1,λt b s hs h hc a=>⟨hc,?_⟩⟩;have c:=F.w8 dC;rcases Int.lt_or_le ((F.e7 dC).X t k) ((F.e7 dC).X s k)with q|q
 have:=c.fr t b s hs k h.1 hc q;unfold Net.key at a;omega;have:=h.2;omega
theorem bk9{e:ι}(he:e∈F.E){at':bs}(c:d' at'=No):pg at' (F.src e) (F.dst e)=No↔(F.e7 dC).eS e at'.2/\(F.e7 dC).M*at'.1<(F.e7 dC).X e at'.2:=by
 have o:=y_ dC he;have b:=pO dC he;have core:(F.b7 e).2<=at'.2->at'.2<(F.a7 e).2->(0<l7 (F.b7 e) (F.a7 e) at'↔(F.e7 dC).M*at'.1<(F.e7 dC).X e at'.2):=λh1 h2=>by rw[(ca0 b.1 b.2 c).1];exact(xu (F.e7 dC).p7 (show(F.b7 e).2<(F.a7 e).2 by omega) ((F.e7 dC).AB e he (show(F.b7 e).2<(F.a7 e).2 by omega))).1
 have key:pg at' (F.src e) (F.dst e)=No↔((F.b7 e).2<=at'.2/\at'.2<(F.a7 e).2/\0<l7 (F.b7 e) (F.a7 e) at'):=by unfold pg;unfold b7 a7 at *;cases hf:F.fwd e;rw[hf]at o;simp only[bu]at o⊢;rw[Nv (F.src e) (F.dst e) at'];simp only[bC,ab,kA];constructor;rintro (h|h)<;>omega;intro h;right;omega;rw[hf]at o;simp only[b6]at o⊢;simp only[bC,ab,kA];constructor;rintro (h|h)<;>omega;intro h;left;omega
 rw[key];constructor;rintro ⟨h1,h2,a⟩;exact⟨⟨h1,h2⟩,(core h1 h2).1 a⟩;rintro ⟨⟨h1,h2⟩,a⟩;exact⟨h1,h2,(core h1 h2).2 a⟩
theorem aS9(a b p:bs):mc b a p=mc a b p:=by
 unfold mc;have c:(d' b&&d' a&&d' p)=(d' a&&d' b&&d' p):=by cases d' a<;>cases d' b<;>rfl
 have d:Eo (fr b a p=0)=Eo (fr a b p=0):=by rw[I6];exact decide_eq_decide.2 (by omega)
 have e:sU b a p=sU a b p:=by unfold sU;rw[iX b.1,iY b.1,iX b.2,iY b.2]
 rw[c,d,e]
theorem bq8{e:ι}(he:e∈F.E){at':bs}(h:d' at'=No)(ho:mc (F.src e) (F.dst e) at'=N2)(hc:(F.e7 dC).eS e at'.2):(F.e7 dC).X e at'.2≠(F.e7 dC).M*at'.1:=by
 intro d;have hu:(F.b7 e).2<(F.a7 e).2:=Int.lt_of_le_of_lt hc.1 hc.2;have h1:(F.b7 e).2<=at'.2:=hc.1;have h2:at'.2<(F.a7 e).2:=hc.2;have f:=pO dC he;have a:=F.H6 dC he hu h1 (by omega);have g:=F.Cg F.E;have b:(F.e7 dC).X e at'.2=F.prod F.E*at'.1:=d;rw[b]at a;have j:=iS a.1 g;have k:=iS a.2 g;have hs:=xu (p:=at') (F.e7 dC).p7 hu ((F.e7 dC).AB e he hu);have i:pe (F.e7 dC).M ((F.e7 dC).s e) (F.b7 e) at'.2=(F.e7 dC).M*at'.1:=d;have hz:fr (F.b7 e) (F.a7 e) at'=0:=by
  have s1:¬ 0<fr (F.b7 e) (F.a7 e) at':=λq=>by have:=hs.1.1 q;omega
  have s2:¬fr (F.b7 e) (F.a7 e) at'<0:=λq=>by have:=hs.2.1 q;omega
  omega
 have on:mc (F.b7 e) (F.a7 e) at'=No:=by unfold mc sU;simp only[f.1,f.2,h,hz,bw,cZ,l6,ab,kA];omega
 have c:mc (F.b7 e) (F.a7 e) at'=mc (F.src e) (F.dst e) at':=by unfold b7 a7;cases F.fwd e;exact aS9 F dC _ _ _;rfl
 rw[c,ho]at on;cases on
end q6
open Classical
def ah1(at':bs):∀(l:List bs) (p:bs),qa at' p l=N2->∀(i:Nat) (x y:bs),(p::l)[i]?=Q1 x->(p::l)[i+1]?=Q1 y->mc x y at'=N2
 | [],p,_,i,x,y,_,h2=>by simp at h2
 |q::l,p,h,i,x,y,h1,h2=>by
  have h':(mc p q at'||qa at' q l)=N2:=h;rw[cE]at h';cases i;have a:p=x:=by simpa using h1
  have b:q=y:=by simpa using h2
  rw[<-a,<-b];exact h'.1;rename_i i;exact ah1 at' l q h'.2 i x y h1 h2
namespace fp
variable {al:List b9} {ag:List ct} {fs:List Int} (h:fp al ag fs)
variable {r:List fy} (hr:my al ag ag=Q1 r)
include h
theorem bg2(at':bs){d:Int}(hd:d∈k7 al ag){p:List bs}(hp:pathOf al ag (la d)=Q1 p):eb ((m8 r).e7 (h.j8 hr)).og (λk=>if mo k=d then nG at' (hi k.1) (gl k.1)else 0)=pY at' p:=by
 rw[h.ap7 hr];have d1:∀s,mo (nA s)=s.1.1:=λs=>by unfold mo;rw[cr (xJ s)];rfl
 have d2:∀s,mo (nz s)=- s.1.1:=λs=>by unfold mo;rw[cc (by rw[wN];simp)];rfl
 have pos:∀s∈r,0<s.1.1:=λs hs=>by obtain⟨a,p,i,o⟩:=h.q_ hr hs;have:=h.um o.nM;rw[o.eq];exact this
 obtain⟨a,ha,c⟩:=h.uP.1 hd;obtain⟨f,t,_,_,g,_⟩:=h.path ha;have n:=h.um ha;have j:=NP (λs=>nG at' (hi s) (gl s)) g (pq h.rX) (λb l e=>h.Bg l ha e) hr ha;rw[cd4]at j;have m:la d=a.1:=by unfold la;omega
 rw[m,g]at hp;cases hp;show _=oN (nG at') _ _;rw[<-j];refine ns λs hs=>?_;have:=pos s hs;rw[d1,d2];show(if s.1.1=d then nG at' (hi s) (gl s)else 0)+(if-s.1.1=d then nG at' (hi s) (gl s)else 0)=_;rcases c with rfl|rfl
 rw[cc (show ¬-s.1.1=a.1 by omega),e_];rw[cc (show ¬s.1.1=-a.1 by omega),gv];by_cases q:s.1.1=a.1;rw[cr q,cr (by omega)];rw[cc q,cc (by omega)]
theorem bf7(at':bs){m:List (Int×List bs)}(hm:∀a∈ag,fh gd a.1 m=pathOf al ag a.1){c:List Int}(hc:c∈l9 al ag) :
  (eb c λd=>pY at' ((fh gd (la d) m).getD []))=eb ((m8 r).e7 (h.j8 hr)).og (λk=>if(h.mD hr).c k=c then nG at' (hi k.1) (gl k.1)else 0):=by
 have o:c.Nodup:=(dS.1 h.xF.1.nodup).1 c hc;have mem:∀k,k∈((m8 r).e7 (h.j8 hr)).og↔k.1∈r:=λk=>Net.Gf;have p:(eb c λd=>pY at' ((fh gd (la d) m).getD []))=eb c (λd=>eb ((m8 r).e7 (h.j8 hr)).og (λk=>if mo k=d then nG at' (hi k.1) (gl k.1)else 0)):=by
  refine ns λd hd=>?_;have g:=h.zS hc hd;obtain⟨a,ha,e⟩:=h.uP.1 g;have s:=h.um ha;have l:la d=a.1:=by unfold la;omega
  obtain⟨f,t,_,_,n,_⟩:=h.path ha;rw[l,hm a ha,n];exact(h.bg2 hr at' g (by rw[l];exact n)).symm
 rw[p,J2];refine ns λk hk=>?_;rw[Qe _ _ o];have j:=(h.yV hr ((mem k).1 hk)).1;by_cases i:mo k∈c;have b:(h.mD hr).c k=c:=h.Iu hc i;rw[cr i,cr b];have b:¬(h.mD hr).c k=c:=λe=>i (by
  have q:wh al ag (mo k)=c:=e;rw[<-q];exact(h.zT j).2)
 rw[cc i,cc b]
theorem Ve(at':bs){m:List (Int×List bs)}(hm:∀a∈ag,fh gd a.1 m=pathOf al ag a.1){c:List Int}(hc:c∈l9 al ag)(hoff:∀d∈c,pB at' ((fh gd (la d) m).getD [])=N2){k:Net.ml fy}(hk:k.1∈r)(b:(h.mD hr).c k=c):mc (hi k.1) (gl k.1) at'=N2:=by
 have e:=(h.yV hr hk).1;have f:wh al ag (mo k)=c:=b;have g:mo k∈c:=by rw[<-f];exact(h.zT e).2
 obtain⟨a,p,i,o⟩:=h.q_ hr hk;have s:=h.um o.nM;have j:k.1.1.1=a.1:=by rw[o.eq];rfl
 have n:la (mo k)=a.1:=by unfold la mo;rw[j];split<;>omega
 have h1:=hoff _ g;rw[n,hm a o.nM,o.path]at h1;have h2:=o.rO;have q:=o.se;cases p;simp at h2;rename_i p0 l;exact ah1 at' l p0 h1 i _ _ h2 q
end fp
namespace fp
variable {al:List b9} {ag:List ct} {fs:List Int} (h:fp al ag fs)
variable {r:List fy} (hr:my al ag ag=Q1 r)
include h
theorem MU{at':bs}(n:d' at'=No){m:List (Int×List bs)}(hm:∀a∈ag,fh gd a.1 m=pathOf al ag a.1){c:List Int}(hc:c∈l9 al ag)(hoff:∀d∈c,pB at' ((fh gd (la d) m).getD [])=N2) :
  nF m c at'=No↔(h.mD hr).qg c (λt=>((m8 r).e7 (h.j8 hr)).eS t at'.2/\((m8 r).e7 (h.j8 hr)).X t at'.2<((m8 r).e7 (h.j8 hr)).M*at'.1)%2=1:=by
 have dC:=h.j8 hr;rw[FU,h.bf7 hr at' hm hc];have l:=Net.aq1 (N:=(m8 r).e7 (h.j8 hr)) ((h.mD hr).ux c) at'.2;have g:eb r (λe=>if((m8 r).e7 (h.j8 hr)).eS e at'.2 then(h.mD hr).mv c e else 0)=eb r (λe=>if((m8 r).e7 (h.j8 hr)).eS e at'.2/\((m8 r).e7 (h.j8 hr)).X e at'.2<((m8 r).e7 (h.j8 hr)).M*at'.1 then(h.mD hr).mv c e else 0)+eb r (λe=>nG at' (hi e) (gl e)*(h.mD hr).mv c e):=by
  rw[<-ss];refine ns λe he=>?_;have o:=(m8 r).bk9 dC he n;have f:pg at' (hi e) (gl e)=No↔_:=o;unfold nG;by_cases eS:((m8 r).e7 (h.j8 hr)).eS e at'.2;rw[cr eS];rcases Int.lt_trichotomy (((m8 r).e7 (h.j8 hr)).X e at'.2) (((m8 r).e7 (h.j8 hr)).M*at'.1)with x|x|x
  rw[cr ⟨eS,x⟩,cc (λq=>by have:=(f.1 q).2;omega)];omega;have z:(h.mD hr).mv c e=0:=by refine(h.mD hr).Bw λb p=>?_;have ho:=h.Ve hr at' hm hc hoff (k:=(e,b)) he p;exact(m8 r).bq8 dC he n ho eS x
  rw[z];simp;rw[cc (λq=>by have:=q.2;omega),cr (f.2 ⟨eS,x⟩)];omega;rw[cc eS,cc (λq=>eS q.1),cc (λq=>eS (f.1 q).1)];omega
 have i:eb ((m8 r).e7 (h.j8 hr)).og (λk=>if(h.mD hr).c k=c then nG at' (hi k.1) (gl k.1)else 0)=eb r (λe=>nG at' (hi e) (gl e)*(h.mD hr).mv c e)+2*eb r (λe=>if(h.mD hr).c (e,No)=c then nG at' (hi e) (gl e)else 0):=by rw[Net.D9,<-JQ,<-ss];refine ns λe he=>?_;show(if(h.mD hr).c (e,No)=c then nG at' (hi e) (gl e)else 0)+(if(h.mD hr).c (e,N2)=c then nG at' (hi e) (gl e)else 0)=_;unfold Net.nK.mv ind;generalize nG at' (hi e) (gl e)=v;by_cases fa:(h.mD hr).c (e,No)=c<;>by_cases gb:(h.mD hr).c (e,N2)=c;simp only[cr fa,cr gb];omega;simp only[cr fa,cc gb];omega;simp only[cc fa,cr gb];omega;simp only[cc fa,cc gb];omega
 have j:eb r (λe=>if((m8 r).e7 (h.j8 hr)).eS e at'.2 then(h.mD hr).mv c e else 0)=0:=by refine lC (ns λe he=>?_) l;by_cases q:((m8 r).e7 (h.j8 hr)).eS e at'.2;simp only[cr q];simp only[cc q]
 have hs:(h.mD hr).qg c (λt=>((m8 r).e7 (h.j8 hr)).eS t at'.2/\((m8 r).e7 (h.j8 hr)).X t at'.2<((m8 r).e7 (h.j8 hr)).M*at'.1)=eb r (λe=>if((m8 r).e7 (h.j8 hr)).eS e at'.2/\((m8 r).e7 (h.j8 hr)).X e at'.2<((m8 r).e7 (h.j8 hr)).M*at'.1 then(h.mD hr).mv c e else 0):=by unfold Net.nK.qg;refine ns λe he=>?_;by_cases q:((m8 r).e7 (h.j8 hr)).eS e at'.2/\((m8 r).e7 (h.j8 hr)).X e at'.2<((m8 r).e7 (h.j8 hr)).M*at'.1;simp only[cr q];simp only[cc q]
 rw[hs,i];rw[j]at g;constructor;rintro ⟨_,q⟩;omega;intro q;exact⟨hoff,by omega⟩
end fp
namespace fp
variable {al:List b9} {ag:List ct} {fs:List Int} (h:fp al ag fs)
variable {r:List fy} (hr:my al ag ag=Q1 r)
include h
theorem Dg{c:List Int}(hc:c∈l9 al ag):∃d,d∈c:=by obtain⟨e,m,he,hm,_,rfl⟩:=h.xF.1.y5 c hc;exact⟨_,td.2 ⟨0,hm,rfl⟩⟩
theorem outer{c:List Int}(hc:c∈l9 al ag)(ha:0<l5 al ag c){d:Int}(hd:d∈c):(h.mD hr).Bb c (mE al ag d):=by refine(h.mD hr).bE2 ((m8 r).w8 (h.j8 hr)) ?_ (h.VS hr hc hd) ?_;exact h.MY (h.zS hc hd) hr;rw[h.QK hr hc];exact ha
theorem MT{at':bs}(b:d' at'=No){m:List (Int×List bs)}(hm:∀a∈ag,fh gd a.1 m=pathOf al ag a.1){c:List Int}(hc:c∈l9 al ag)(ha:0<l5 al ag c)(he:nF m c at'=No) :
  (h.mD hr).qg c (λt=>((m8 r).e7 (h.j8 hr)).eS t at'.2/\((m8 r).e7 (h.j8 hr)).X t at'.2<((m8 r).e7 (h.j8 hr)).M*at'.1)=1:=by
 obtain⟨d,hd⟩:=h.Dg hc;have ho:=h.outer hr hc ha hd;have e:=(m8 r).ay7 (h.j8 hr) at'.1 at'.2;have h1:=(h.MU hr b hm hc ((FU m at' c).1 he).1).1 he;rcases(h.mD hr).OW ((m8 r).w8 (h.j8 hr)) ho e with q|q
 omega;exact q
theorem bh6{at':bs}(k:d' at'=No){m:List (Int×List bs)}(hm:∀a∈ag,fh gd a.1 m=pathOf al ag a.1){c e:List Int}(hc:c∈l9 al ag)(b:e∈l9 al ag)(g:c≠e)(ha:0<l5 al ag c)(f:0<l5 al ag e)
  (he:nF m c at'=No) (i:nF m e at'=No):l5 al ag c≠l5 al ag e:=by
 obtain⟨d,hd⟩:=h.Dg hc;obtain⟨l,j⟩:=h.Dg b;obtain⟨r,hr⟩:=h.j7;have h1:=h.MT hr k hm hc ha he;have h2:=h.MT hr k hm b f i;have:=(h.mD hr).bd9 ((m8 r).w8 (h.j8 hr)) (h.outer hr hc ha hd) (h.outer hr b f j) g ((m8 r).ay7 (h.j8 hr) at'.1 at'.2) h1 h2;rw[h.QK hr hc,h.QK hr b]at this;exact this
end fp
namespace fp
variable {al:List b9} {ag:List ct} {fs:List Int} (h:fp al ag fs)
variable {r:List fy} (hr:my al ag ag=Q1 r)
include h
theorem bg0:(l9 al ag).Nodup:=by have hp:=(dS.1 h.xF.1.nodup).2;refine hp.imp_of_mem λ{c f} hc b hd e=>?_;obtain⟨d,a⟩:=h.Dg hc;exact hd d a d (e▸a) rfl
end fp
namespace fp
variable {al:List b9} {ag:List ct} {fs:List Int} (h:fp al ag fs)
variable {r:List fy} (hr:my al ag ag=Q1 r)
include h
omit h in
theorem aM5(k:Net.ml fy):mo (Net.rev k)=- mo k:=by grind[mo,nA,xJ,nz,wN,xG,QR,Ll]
theorem bf2{n:b9}(a:n∈al){e d:Int}(he:e∈ki al ag n)(b:d∈ki al ag n):(h.mD hr).mj (mE al ag e) (mE al ag d):=by
 have prec:∀x∈ki al ag n,(h.mD hr).mj (mE al ag x) (mE al ag (qn (ki al ag n) x)):=λx c=>by have hm:=(h.tO hr a c).1;have hd:x∈k7 al ag:=bG.2 ⟨_,aK a,c⟩;have h2:=(h.Fl hr (k:=Net.rev (mE al ag x)) hm).2;rw[aM5,h.BD hd,h.Ap a c]at h2;exact Net.nK.oc _ (.rev (.refl _)) h2
 have all:∀(i:Nat) (a7:i<(ki al ag n).length),(h.mD hr).mj (mE al ag (ki al ag n)[i]) (mE al ag ((ki al ag n)[0]'(by omega))):=by
  intro i
  induction i with
  |zero=>intro a7;exact .refl _
  |succ i f=>
   intro a7;have h1:=prec _ (ay a7);have g:(i+1+(ki al ag n).length-1)%(ki al ag n).length=i:=by grind[ki,fU,cQ]
   rw[Gt (h.E7 a) a7]at h1;simp only[g]at h1;exact Net.nK.oc _ h1 (f (by omega))
 obtain⟨i,a7,rfl⟩:=aT he;obtain⟨j,hj,rfl⟩:=aT b;exact Net.nK.oc _ (all i a7) (Net.nK.xC _ (all j hj))
theorem Ox{n:b9}(d:n∈al){e:Int}(he:e∈ki al ag n){c:List Int}(z:∀k:Net.ml fy,k.1∈r->((m8 r).e7 (h.j8 hr)).src k=n.2->(h.mD hr).mv c k.1=0) :
  ((m8 r).e7 (h.j8 hr)).L ((h.mD hr).mv c) (mE al ag e)=(h.mD hr).qg c (λt=>((m8 r).e7 (h.j8 hr)).eS t n.2.2/\((m8 r).e7 (h.j8 hr)).X t n.2.2<((m8 r).e7 (h.j8 hr)).M*n.2.1):=by
 have f:=(m8 r).w8 (h.j8 hr);have hd:=(h.mD hr).ux c;have ha:=h.Mp hr d;obtain⟨i,a7,rfl⟩:=aT he;have hl:=Net.ED f hd ha (i:=i) (by simpa using a7);rw[b_]at hl;have g:eb (((ki al ag n).map (mE al ag)).take (i+1)) (Net.dl ((h.mD hr).mv c))=0:=uq λk hk=>by have:=(ha.mem k).1 (js hk);have:=z k this.1 this.2;unfold Net.dl;rw[this];cases k.2<;>rfl
 have j:((m8 r).e7 (h.j8 hr)).C' ((h.mD hr).mv c) n.2=0:=uq λt b=>by split;rename_i q;exact z (t,N2) b q.2;rfl
 have l:((m8 r).e7 (h.j8 hr)).Bi ((h.mD hr).mv c) n.2=0:=uq λt b=>by split;rename_i q;exact z (t,N2) b q.2;rfl
 have a:((m8 r).e7 (h.j8 hr)).L2 n.2:=by
  have:=h.tO hr d (ay a7);refine⟨_,this.1,?_⟩;have s:=this.2.1;unfold Net.src at s
  grind[mE,ki]
 have li:=Net.line _ hd n.2.2 (((m8 r).e7 (h.j8 hr)).M*n.2.1);have ho:=Net.Np f ((h.mD hr).mv c) a;have m:((m8 r).e7 (h.j8 hr)).uG ((h.mD hr).mv c) n.2.2 (((m8 r).e7 (h.j8 hr)).M*n.2.1)=0:=by rw[<-l];exact ho
 rw[hl,g,j];have o:((m8 r).e7 (h.j8 hr)).vK ((h.mD hr).mv c) n.2.2 (((m8 r).e7 (h.j8 hr)).M*n.2.1)=(h.mD hr).qg c (λt=>((m8 r).e7 (h.j8 hr)).eS t n.2.2/\((m8 r).e7 (h.j8 hr)).X t n.2.2<((m8 r).e7 (h.j8 hr)).M*n.2.1):=by
  unfold Net.vK Net.nK.qg
  grind[m8]
 grind[m8]
theorem OJ{n:b9}{m:List (Int×List bs)}(hm:∀a∈ag,fh gd a.1 m=pathOf al ag a.1){c:List Int}(hc:c∈l9 al ag)(hoff:∀d∈c,pB n.2 ((fh gd (la d) m).getD [])=N2) :
  ∀k:Net.ml fy,k.1∈r->((m8 r).e7 (h.j8 hr)).src k=n.2->∀b,(h.mD hr).c (k.1,b)≠c:=by
 intro k hk hs b f;have h1:=h.Ve hr n.2 hm hc hoff (k:=(k.1,b)) hk f;obtain⟨a,p,i,o⟩:=h.q_ hr hk;obtain⟨g,rI⟩:=h.vp o;have e:n.2=hi k.1\/n.2=gl k.1:=by rw[<-hs];rcases xG k with q|q<;>grind[xG,left,Ad,Al]
 grind[QU]
omit h in
theorem OU(at':bs):∀(l:List bs) (p:bs),(∀(i:Nat) (x y:bs),(p::l)[i]?=Q1 x->(p::l)[i+1]?=Q1 y->mc x y at'=N2)->qa at' p l=N2
 | [],p,_=>rfl
 |q::l,p,a=>by unfold qa;rw[a 0 p q rfl rfl,OU at' l q λi x y b c=>a (i+1) x y (by simpa using b) (by simpa using c)];rfl
theorem Xl{n:b9}(b:n∈al){e:Int}(he:e∈ki al ag n){m:List (Int×List bs)}(hm:∀a∈ag,fh gd a.1 m=pathOf al ag a.1){c:List Int}(hc:c∈l9 al ag)(j:∀d∈c,¬(h.mD hr).mj (mE al ag d) (mE al ag e)) :
  ∀d∈c,pB n.2 ((fh gd (la d) m).getD [])=N2:=by
 intro d hd;obtain⟨a,ha,p,hp,s⟩:=h.FI (h.zS hc hd);have v:=h.um ha;have z:la d=a.1:=by grind[la]
 rw[z,hm a ha,hp];cases p;rfl;rename_i p0 l;refine OU _ l p0 λi x y B C=>?_;cases ho:mc x y n.2 with
 |false=>rfl
 |true=>
  exfalso;have a7:i+1<(p0::l).length:=by grind[cR,bo]
  have hs:(mF a (p0::l),(i:Int))∈r:=u5 hr a ha _ hp _ (vM a7);have o:nJ al ag (mF a (p0::l),(i:Int)) a (p0::l) i:=⟨ha,hp,a7,rfl⟩;have D:hi (mF a (p0::l),(i:Int))=x:=aQ (o.rO.symm.trans B);have ey:gl (mF a (p0::l),(i:Int))=y:=aQ (o.se.symm.trans C);have at':=h.E9 o b (h.free hr hs n b) (by rw[D,ey];exact ho);have fin:∃g∈ki al ag n,(mE al ag g).1=(mF a (p0::l),(i:Int)):=by
   rcases at' with⟨q,f,_⟩|⟨q,f,_⟩
   refine⟨a.1,(h.zF b).2 ⟨a,ha,br ⟨f,rfl⟩⟩,?_⟩;rw[h.BM ha hp,q];rfl;refine⟨-a.1,(h.zF b).2 ⟨a,ha,bk ⟨f,rfl⟩⟩,?_⟩;rw[h.Dv ha hp,show(p0::l).length-2=i by omega];rfl
  obtain⟨g,t,hf⟩:=fin;have c1:=h.bf2 hr b t he;have c2:∃k:Net.ml fy,k.1=(mF a (p0::l),(i:Int))/\mo k=d:=by
   rcases s with⟨q,_⟩|⟨q,_⟩
   exact⟨nA (mF a (p0::l),(i:Int)),rfl,by unfold mo;rw[xJ,cr rfl];exact q.symm⟩;exact⟨nz (mF a (p0::l),(i:Int)),rfl,by unfold mo;rw[wN,cc (by simp)];exact q.symm⟩
  obtain⟨k,hk,u⟩:=c2;have w:=(h.Fl hr (k:=k) (by rw[hk];exact hs)).1;rw[u]at w;have E:(h.mD hr).mj k (mE al ag g):=by
   have:=(h.mD hr).rB k.1 k.2 (mE al ag g).2
   grind[mE]
  exact j d hd (Net.nK.oc _ w (Net.nK.oc _ E c1))
end fp
namespace fp
variable {al:List b9} {ag:List ct} {fs:List Int} (h:fp al ag fs)
variable {r:List fy} (hr:my al ag ag=Q1 r)
include h
theorem bi4{m:List (Int×List bs)}(hm:∀a∈ag,fh gd a.1 m=pathOf al ag a.1){D:List Int}(s:D∈l9 al ag):∃d∈D,∃n∈al,∃e∈ki al ag n,rq m D=n.2/\d' (rq m D)=No/\(h.mD hr).mj (mE al ag e) (mE al ag d):=by
 obtain⟨d1,yG⟩:=h.Dg s;have hd:D.headD 0∈D:=by cases D;simp at yG;rename_i x l;simp
 have i:=h.zS s hd;obtain⟨a,ha,p,hp,b⟩:=h.FI i;have t:=h.um ha;have w:la (D.headD 0)=a.1:=by unfold la;rcases b with⟨q,_⟩|⟨q,_⟩<;>omega
 obtain⟨⟨n,j,g⟩,_⟩:=h.DQ ha;have hl:=h.Ce ha hp;have o:nJ al ag (mF a p,((0:Nat):Int)) a p 0:=⟨ha,hp,by omega,rfl⟩;have hs:(mF a p,((0:Nat):Int))∈r:=u5 hr a ha p hp _ (vM (by omega));have u:=h.Cn o rfl j g.symm;have v:rq m D=n.2:=by unfold rq;rw[w,hm a ha,hp];have:=o.rO;rw[u]at this;simp only[cA,this]
 refine⟨_,hd,n,j,a.1,(h.zF j).2 ⟨a,ha,br ⟨g.symm,rfl⟩⟩,v,by rw[v,<-u];exact(h.vp o).1,?_⟩;rw[h.BM ha hp];rcases b with⟨q,f⟩|⟨q,f⟩
 rw[f];exact .refl _;have c:=(h.Fl hr (k:=nz (mF a p,((0:Nat):Int))) hs).1;have z:mo (nz (mF a p,((0:Nat):Int)))=D.headD 0:=by unfold mo;rw[wN,cc (by simp)];exact q.symm
 rw[z]at c;exact Net.nK.oc _ ((h.mD hr).rB _ _ _) (Net.nK.xC _ c)
end fp
def ve(x:kI):Int×List Int:=(x.1,x.2.1)
theorem Wb{m:List (Int×List bs)}{at':bs}{L c:List kI}(d:L.map ve=c.map ve):∀(r a:List kI) (i b:Nat),r.map ve=a.map ve->rz m at' L r i b=rz m at' c a i b
 | [],[],_,_,_=>rfl
 | [],_::_,_,_,h=>by simp at h
 |_::_,[],_,_,h=>by simp at h
 |x::r,y::a,i,b,h=>by
  simp only[au,cN,ve,gF]at h;have e:xd L b=xd c b:=by
   have:=lU (λl=>(l[b]?).map jV) d
   grind[du,ve,xd]
  simp only[rz];rw[h.1.1,h.1.2,e];exact Wb d r a _ _ (by simpa[ve]using h.2)
def bK5{m:List (Int×List bs)}{L a:List kI}(b:L.map ve=a.map ve)(at':bs):oI m L at'=oI m a at':=by grind[oI,Wb,List.map_tail]
def aS5(L:List kI)(k:Nat)(c:List Int):(oY L k c).map ve=L.map ve:=by
 unfold oY;cases a:L[k]? with
 |none=>rfl
 |some x=>
  simp only[List.map_set];refine eH λi=>?_;rw[dG];by_cases e:k=i;subst e;have hk:k<L.length:=by grind[cR,bo]
  rw[cr rfl,cr (by simpa using hk),aO,a];rfl;rw[cc e]
def Pd(L:List kI)(k:Nat)(c:List Int)(i:Nat):(oY L k c)[i]?=(L[i]?).map (λx=>(x.1,x.2.1,x.2.2.1++(if k=i then [c]else []),x.2.2.2)):=by grind[oY,cR,bo]
def aD0{m:List (Int×List bs)}{pL:List kI}:∀(R:List (List Int)) (L:List kI),L.map ve=pL.map ve->∀(k:Nat),(sw m R L)[k]?=(L[k]?).map (λx=>(x.1,x.2.1,x.2.2.1++R.filter (λc=>Eo (oI m pL (rq m c)=k)),x.2.2.2))
 | [],L,_,k=>by simp[sw]
 |c::R,L,a,k=>by
  have e:=bK5 (m:=m) a (rq m c);simp only[sw];rw[aD0 R _ ((aS5 L _ c).trans a) k,Pd,du,e]
  grind[bm,oI,rq]
theorem aO2(L:List kI)(k:Nat)(c:Int)(i:Nat):((p_ L k c)[i]?).map (λx=>(x.1,x.2.1,x.2.2.1))=(L[i]?).map (λx=>(x.1,x.2.1,x.2.2.1)):=by grind[p_,cR,bo]
def at3{al:List b9}{ag:List ct}{m:List (Int×List bs)}:∀(R:List b9) (L:List kI) (i:Nat),((ru al ag m R L)[i]?).map (λx=>(x.1,x.2.1,x.2.2.1))=(L[i]?).map (λx=>(x.1,x.2.1,x.2.2.1))
 | [],_,_=>rfl
 |n::R,L,i=>by
  simp only[ru];rw[at3 R]
  grind[na,aO2]
def SF(m:List (Int×List bs))(at':bs)(L pre:List kI)(b:Nat):Prop :=(b=0/\∀x∈pre,nF m x.2.1 at'=N2)\/∃y,L[b]?=Q1 y/\1<=b/\nF m y.2.1 at'=No/\∀x∈pre,nF m x.2.1 at'=No->y.1<=x.1
def NF{m:List (Int×List bs)}{at':bs}{L:List kI}:∀(r:List kI) (pre:List kI) (b:Nat),L.tail=pre++r->SF m at' L pre b->SF m at' L (pre++r) (rz m at' L r (pre.length+1) b)
 | [],pre,b,_,h=>by rw[bD];exact h
 |x::r,pre,b,hp,h=>by
  have d:L[pre.length+1]?=Q1 x:=by rw[<-List.getElem?_tail,hp];simp
  simp only[rz];have e:pre++x::r=(pre++[x])++r:=by simp
  have el:pre.length+1+1=(pre++[x]).length+1:=by simp
  rw[e,el];refine NF r (pre++[x]) _ (hp.trans e) ?_;cases he:nF m x.2.1 at' with
  |false=>
   rw[fI,bu];rcases h with⟨h1,h2⟩|⟨y,h1,h2,c,f⟩
   refine br ⟨h1,λz hz=>?_⟩
   grind[bL]
   refine bk ⟨y,h1,h2,c,λz hz a=>?_⟩
   grind[bL]
  |true=>
   rw[dN];rcases h with⟨h1,h2⟩|⟨y,h1,h2,c,f⟩
   rw[h1,hT (rfl:(0:Nat)=0),hY,b6];refine bk ⟨x,d,by omega,he,λz hz a=>?_⟩
   grind[bL]
   have g:xd L b=y.1:=by unfold xd;rw[h1];rfl
   rw[g,ft (show ¬b=0 by omega),cY];by_cases q:x.1<y.1;rw[hT q,b6];refine bk ⟨x,d,by omega,he,λz hz a=>?_⟩
   grind[bL]
   rw[ft q,bu];refine bk ⟨y,h1,h2,c,λz hz a=>?_⟩
   grind[bL]
def bR7{m:List (Int×List bs)}{at':bs}{L:List kI}{k:Nat}(hk:oI m L at'=k+1):∃y,L[k+1]?=Q1 y/\nF m y.2.1 at'=No/\∀x∈L.tail,nF m x.2.1 at'=No->y.1<=x.1:=by
 have:=NF (m:=m) (at':=at') (L:=L) L.tail [] 0 rfl (br ⟨rfl,by simp⟩);rw[cG,show rz m at' L L.tail (([]:List kI).length+1) 0=k+1 from hk]at this;rcases this with⟨h,_⟩|⟨y,h1,_,h2,a⟩
 omega;exact⟨y,h1,h2,a⟩
end Go.Ab
namespace Go.Ab
open Go Go.Sort Go.Proofs Go.Shelf
set_option maxRecDepth 10000
namespace Dp
def qB(a b c d:bs):Int:=(b.1-a.1)*(d.2-c.2)-(b.2-a.2)*(d.1-c.1)
def Iy(a b c d:bs):Int:=(b.1-a.1)*(d.1-c.1)+(b.2-a.2)*(d.2-c.2)
def BY{a b:bs}(ha:d' a=No)(c:d' b=No):(-4194304<=b.1-a.1/\b.1-a.1<=4194304)/\-4194304<=b.2-a.2/\b.2-a.2<=4194304:=by rw[wH]at ha c;omega
theorem yK{a b c d:bs}(ha:d' a=No)(g:d' b=No)(hc:d' c=No)(hd:d' d=No):we (a,b,c,d)=Q1 (qB a b c d)/\-35184372088832<=qB a b c d/\qB a b c d<=35184372088832:=by
 obtain⟨⟨h,i⟩,j,k⟩:=BY ha g;obtain⟨⟨l,m⟩,e,f⟩:=BY hc hd;have m1:=vR h i e f;have m2:=vR j k l m
 grind[we,qB,fx]
theorem bg8{a b c d:bs}(ha:d' a=No)(g:d' b=No)(hc:d' c=No)(hd:d' d=No):Ic (a,b,c,d)=Q1 (Iy a b c d):=by
 obtain⟨⟨h,i⟩,j,k⟩:=BY ha g;obtain⟨⟨l,m⟩,e,f⟩:=BY hc hd;have m1:=vR h i l m;have m2:=vR j k e f
 grind[Ic,Iy,fx]
theorem LL(l:List bs)(hl:l.length<2^62):CV l=Q1 (l.all d'):=by
 unfold CV;refine mP (A:=Unit) l (λi _=>(i:Int)) (λ_ rest=>Q1 (rest.all d')) (by omega) ?_ ?_ ()
 grind
 intro rec i _ x rest a7 hd a;have:=a ();simp only[fB a7,b6,h0 hd,bT,f' a7 hl,this,bU]
 grind[d',wH]
def bO0(x:Int):0<=x*x:=by
 rcases(by omega:0<=x\/x<0)with h|h
 exact aL h h;exact Int.le_of_lt (cO h h)
def Rh{a b p:Int}:(p-a)*(p-b)<=0↔min a b<=p/\p<=max a b:=by
 constructor;intro h;rcases(by omega:p<min a b\/min a b<=p)with h1|h1
 have:=cO (a:=p-a) (b:=p-b) (by omega) (by omega);omega;rcases(by omega:max a b<p\/p<=max a b)with h2|h2
 have:=cw (a:=p-a) (b:=p-b) (by omega) (by omega);omega;exact⟨h1,h2⟩;rintro ⟨h1,h2⟩;rcases Int.le_total a b with h|h
 have:=aL (a:=p-a) (b:=b-p) (by omega) (by omega)
 grind
 have:=aL (a:=p-b) (b:=a-p) (by omega) (by omega)
 grind
theorem bE0{a b p:bs}(h:fr a b p=0):Iy a p b p<=0↔sU a b p=No:=by
 have e:Iy a p b p=(p.1-a.1)*(p.1-b.1)+(p.2-a.2)*(p.2-b.2):=rfl;have f:((p.1-a.1)*(p.1-b.1))*((p.2-a.2)*(p.2-b.2))=((p.1-b.1)*(p.2-a.2))*((p.1-b.1)*(p.2-a.2)):=by grind[fr]
 have hs:=bO0 ((p.1-b.1)*(p.2-a.2));rw[<-f]at hs;have g:sU a b p=No↔(p.1-a.1)*(p.1-b.1)<=0/\(p.2-a.2)*(p.2-b.2)<=0:=by rw[Rh,Rh];simp[sU,and_assoc]
 rw[g,e];generalize(p.1-a.1)*(p.1-b.1)=X at *;generalize(p.2-a.2)*(p.2-b.2)=Y at *;constructor;intro hd;refine⟨?_,?_⟩;rcases(by omega:0<X\/X<=0)with c|c
 have d:Y<0:=by omega
 have:=Int.mul_neg_of_pos_of_neg c d;omega;exact c;rcases(by omega:0<Y\/Y<=0)with d|d
 have c:X<0:=by omega
 have:=Int.mul_neg_of_neg_of_pos c d;omega;exact d;intro⟨h1,h2⟩;omega
theorem Mg(a b p:bs):yk (a,b,p)=Q1 (mc a b p):=by grind[yk,mc,bT,LL,d',yK,bg8,qB,fr,decide_true,ah,bE0,decide_eq_false]
end Dp
namespace Dp
def bi3(a b:bs):o9 (a,b)=Q1 (hU a b):=by grind[o9,hU]
def bb5(a b c d:bs):HH (a,b,c,d)=Q1 (p8 a b c d):=by
 unfold HH p8;have e:∀p q:bs,(Eo (p.1=q.1)&&Eo (p.2=q.2))=mh p q:=λ_ _=>rfl;have f:∀p q:bs,o9 (p,q)=Q1 (hU p q):=λp q=>bi3 p q
 grind[bT,hU,aG,mh]
theorem OD{a b c d:bs}(e:a≠b)(h1:fr a b c=0)(h2:fr a b d=0):fr c d a=0:=by
 unfold fr at *;have f:(b.1-a.1)*((d.1-c.1)*(a.2-c.2)-(d.2-c.2)*(a.1-c.1))=0:=by grind
 grind[Int.mul_eq_zero,absurd,eJ]
theorem te{a b c:bs}(ha:d' a=No)(d:d' b=No)(hc:d' c=No):(0<fr a b c/\l7 a b c=1)\/(fr a b c<0/\l7 a b c=-1)\/(fr a b c=0/\l7 a b c=0):=by grind[l7,sP,bw]
def Uf{a b c d:bs}(g:a≠b)(j:c≠d):AP (a,b,c,d)=Q1 (oK a b c d):=by
 unfold AP oK;have e:∀p q:bs,(Eo (p.1=q.1)&&Eo (p.2=q.2))=mh p q:=λ_ _=>rfl;have h1:mh a b=N2:=by grind[pt]
 have h2:mh c d=N2:=by grind[pt]
 simp only[bT,LL _ (show [a,b,c,d].length<2^62 by simp),bU,gp,dN,e,h1,h2,bu,aG,l4];have k:(d' a&&(d' b&&(d' c&&d' d)))=(d' a&&d' b&&d' c&&d' d):=by simp[gT]
 rw[k];cases i:(d' a&&d' b&&d' c&&d' d)with
 |false=>simp
 |true=>
  simp only[ab]at i;obtain⟨⟨⟨ha,f⟩,hc⟩,hd⟩:=i;simp only[aw,bu,me];obtain⟨fa,gb,lb⟩:=yK ha f hc hd;obtain⟨l,r,s⟩:=yK ha hc hc hd;obtain⟨s1,s2,t⟩:=yK ha hc ha f;rw[fa,(yK ha f ha hc).1,(yK ha f ha hd).1,(yK hc hd hc ha).1,(yK hc hd hc f).1,l,s1,bb5];simp only[bT];have u:qB a b c d=fr a b d-fr a b c:=by unfold qB fr;grind
  have v:qB a b c d=fr c d a-fr c d b:=by unfold qB fr;grind
  have m:qB a c c d=fr c d a:=by unfold qB fr;grind
  have o:qB a c a b=- fr a b c:=by unfold qB fr;grind
  have n5:qB a b a c=fr a b c:=rfl;have n6:qB a b a d=fr a b d:=rfl;have n7:qB c d c a=fr c d a:=rfl;have n8:qB c d c b=fr c d b:=rfl;have hz:=OD (c:=c) (d:=d) g;rw[n5,n6,n7,n8];rw[fx (n:=0-qB a c c d) (by omega) (by omega),fx (n:=0-qB a c a b) (by omega) (by omega),fx (n:=0-qB a b c d) (by omega) (by omega)];have pI:=te ha f hc;have pC:=te ha f hd;have w:=te hc hd ha;have x:=te hc hd f;rw[m,o];generalize fr a b c=A at *;generalize fr a b d=B at *;generalize fr c d a=C at *;generalize fr c d b=D at *;generalize l7 a b c=z at *;generalize l7 a b d=E at *;generalize l7 c d a=G at *;generalize l7 c d b=H at *;generalize qB a b c d=n at *;by_cases h:n=0
  grind[decide_eq_true,decide_true,aw,decide_eq_false,bB]
  rw[ft h,bu,cc (by omega)]
  grind[decide_eq_true,absurd,decide_eq_false]
end Dp
namespace Dp
def w9(x y:Int):Int:=if 0<x/\0<=y then 0 else if x<=0/\0<y then 1 else if x<0 then 2 else 3
def as9{o a:bs}(ho:d' o=No)(ha:d' a=No):EB (o,a)=Q1 (w9 (a.1-o.1) (a.2-o.2)):=by obtain⟨⟨c,d⟩,e,f⟩:=BY ho ha;unfold EB w9;simp only[bT];rw[fx (n:=a.1-o.1) (by omega) (by omega),fx (n:=a.2-o.2) (by omega) (by omega)];generalize a.1-o.1=x at *;generalize a.2-o.2=y at *;by_cases h1:0<x;rw[hT h1,b6];by_cases h2:0<=y;rw[hT h2,b6,cr ⟨h1,h2⟩];rw[ft h2,bu,ft (by omega:¬x<=0),bu,ft (by omega:¬x<0),bu,cc (by omega),cc (by omega),cc (by omega)];rw[ft h1,bu,hT (by omega:x<=0),b6,cc (by omega)];by_cases h2:0<y;rw[hT h2,b6,cr ⟨by omega,h2⟩];rw[ft h2,bu,cc (by omega)];by_cases b:x<0;rw[hT b,b6,cr b];rw[ft b,bu,cc b]
def I'{x y:Int}(h:¬(x=0/\y=0)):(w9 x y=0/\0<x/\0<=y)\/(w9 x y=1/\x<=0/\0<y)\/(w9 x y=2/\x<0/\y<=0)\/(w9 x y=3/\0<=x/\y<0):=by unfold w9;split;exact .inl ⟨rfl,by assumption⟩;split;exact .inr (.inl ⟨rfl,by assumption⟩);split;exact .inr (.inr (.inl ⟨rfl,by omega⟩));exact .inr (.inr (.inr ⟨rfl,by omega⟩))
def bc4(o a b:bs):ET (o,a,b)=Q1 (oo o a b):=by
 unfold ET oo;have e:∀p q:bs,(Eo (p.1=q.1)&&Eo (p.2=q.2))=mh p q:=λ_ _=>rfl;simp only[bT,LL _ (show [o,a,b].length<2^62 by simp),bU,gp,dN,e];have s:(d' o&&(d' a&&d' b))=(d' o&&d' a&&d' b):=by simp[gT]
 rw[s];cases n:(d' o&&d' a&&d' b)with
 |false=>simp
 |true=>
  simp only[ab]at n;obtain⟨⟨ho,ha⟩,r⟩:=n;simp only[aw,bu,cZ];cases h1:mh a o with
  |true=>simp
  |false=>
   cases h2:mh b o with
   |true=>simp
   |false=>
    simp only[bu,bB,cZ];rw[as9 ho ha,as9 ho r];simp only[bT];rw[(yK ho ha ho r).1];simp only[bT];have t:qB o a o b=fr o a b:=rfl;rw[t];have g1:¬(a.1-o.1=0/\a.2-o.2=0):=λ⟨p,q⟩=>by have:a=o:=eJ (by omega) (by omega);rw[(pt a o).2 this]at h1;cases h1
    have g2:¬(b.1-o.1=0/\b.2-o.2=0):=λ⟨p,q⟩=>by have:b=o:=eJ (by omega) (by omega);rw[(pt b o).2 this]at h2;cases h2
    have l2:oQ o a=Eo (2<=w9 (a.1-o.1) (a.2-o.2)):=by rw[dm,decide_eq_true_iff];simp only[oQ,bC,ab,kA];rcases I' g1 with h|h|h|h<;>omega
    have mi:oQ o b=Eo (2<=w9 (b.1-o.1) (b.2-o.2)):=by rw[dm,decide_eq_true_iff];simp only[oQ,bC,ab,kA];rcases I' g2 with h|h|h|h<;>omega
    rw[l2,mi];have hc:fr o a b=(a.1-o.1)*(b.2-o.2)-(a.2-o.2)*(b.1-o.1):=rfl;have c1:=I' g1;have c2:=I' g2;generalize w9 (a.1-o.1) (a.2-o.2)=p at *;generalize w9 (b.1-o.1) (b.2-o.2)=q at *;generalize a.1-o.1=x at *;generalize a.2-o.2=y at *;generalize b.1-o.1=u at *;generalize b.2-o.2=v at *;have c:p=0->q=1->0<fr o a b:=λk l=>by
     have h1:0<x/\0<=y:=by omega
     have h2:u<=0/\0<v:=by omega
     have m:=cw h1.1 h2.2;have d:=aL h1.2 (by omega:0<=-u);rw[cK]at d;omega
    have f:p=1->q=0->fr o a b<0:=λk l=>by
     have h1:x<=0/\0<y:=by omega
     have h2:0<u/\0<=v:=by omega
     have m:=cw h1.2 h2.1;have d:=aL (by omega:0<=-x) h2.2;rw[im]at d;omega
    have g:p=2->q=3->0<fr o a b:=λk l=>by
     have h1:x<0/\y<=0:=by omega
     have h2:0<=u/\v<0:=by omega
     have m:=cO h1.1 h2.2;have d:=aL (by omega:0<=-y) h2.1;rw[im]at d;omega
    have Ee:p=3->q=2->fr o a b<0:=λk l=>by
     have h1:0<=x/\y<0:=by omega
     have h2:u<0/\v<=0:=by omega
     have m:=cO h1.2 h2.1;have d:=aL h1.1 (by omega:0<=-v);rw[cK]at d;omega
    by_cases i:p<q;rw[hT i,b6];by_cases j:(2<=p↔2<=q);rw[cr (by rw[dm,decide_eq_true_iff,decide_eq_true_iff];exact j),hT];by_cases hp:p=0;exact c hp (by omega);exact g (by omega) (by omega);rw[cc (by rw[dm,decide_eq_true_iff,decide_eq_true_iff];exact j),hT (by omega)];rw[ft i,bu];by_cases he:p=q;rw[hT he,b6,he,cr rfl];rw[ft he,bu];by_cases j:(2<=p↔2<=q);rw[cr (by rw[dm,decide_eq_true_iff,decide_eq_true_iff];exact j),ft];by_cases hp:p=1;have:=f hp (by omega);omega;have:=Ee (by omega) (by omega);omega;rw[cc (by rw[dm,decide_eq_true_iff,decide_eq_true_iff];exact j),ft (by omega)]
end Dp
namespace Dp
theorem KP(al:List b9)(ag:List ct)(fs:List Int)(id:Int)(hl:al.length<2^62):AR ((al,ag,fs),id)=Q1 (match nQ al id with|some n=>(n,No)|none=>((0,0,0),N2)):=by
 unfold AR;refine mP (A:=Unit) al (λi _=>(i:Int)) (λ_ rest=>Q1 (match nQ rest id with|some n=>(n,No)|none=>((0,0,0),N2))) (by omega) ?_ ?_ ()
 grind[nQ]
 intro rec i a x rest a7 hd b;have:=b ();simp only[fB a7,b6,h0 hd,bT,f' a7 hl,this,nQ,da]
 grind[decide_eq_true,decide_eq_false]
def Hc(al:List b9)(ag:List ct)(fs:List Int)(b:Bool)(q:al.length<=1000000)(ha:ag.length<=1000000):zm ((al,ag,fs),b)=Q1 (bif b then ag.map (·.1)else al.map (·.1)):=by
 unfold zm;have key:∀acc:List Int,acc.length<=1000000->rounds (α:=Bool×List Int×Int) (β:=List Int) (λp d=>
   bif (Eo (d.2.2<(ag.length:Int)))then(
   bif d.1 then(
    a8 (nth ag d.2.2) λe=>
    a8 (j6 8 d.2.1 [e.1]) λf=>
    p (No,f,(aa.wrap (d.2.2+(1:Int)))))else(
    Q1 d.2.1))else(
   Q1 d.2.1)) (b,acc,(0:Int))=Q1 (bif b then acc++ag.map (·.1)else acc):=by
  intro acc g;cases b;refine Dh λrec=>?_
  grind
  rw[b6];refine mw (A:=List Int) ag (λi a=>(No,a,(i:Int))) (λa rest=>Q1 (a++rest.map (·.1))) (λi a=>a.length=acc.length+i) (by omega) ?_ ?_ acc (by simp)
  grind
  intro rec i a x rest a7 m hd n;simp only[fB a7,b6,h0 hd,bT,f' a7 (by omega:ag.length<2^62)]
  grind[m9,bT]
 cases b;simp only[bB,b6,bu];refine mw (A:=List Int) al (λi a=>(a,(i:Int))) (λa rest=>Q1 (a++rest.map (·.1))) (λi a=>a.length=i) (by omega) ?_ ?_ [] rfl
 grind
 intro rec i a x rest a7 m hd n;simp only[fB a7,b6,h0 hd,bT,f' a7 (by omega:al.length<2^62)]
 grind[m9,bT]
 have h:=key [] (by simp);have o:∀acc:List Int,acc.length<=1000000->rounds (α:=Bool×List Int×Int×Bool) (β:=List Int) (λl c=>
  bif (Eo (c.2.2.1<(ag.length:Int)))then(
   bif c.1 then(
   a8 (nth ag c.2.2.1) λj=>
   a8 (j6 8 c.2.1 [j.1]) λk=>
   l (No,k,(aa.wrap (c.2.2.1+(1:Int))),c.2.2.2))else(
   Q1 c.2.1))else(
   Q1 c.2.1)) (No,acc,(0:Int),No)=Q1 (acc++ag.map (·.1)):=by
  intro acc g;refine mw (A:=List Int) ag (λi a=>(No,a,(i:Int),No)) (λa rest=>Q1 (a++rest.map (·.1))) (λi a=>a.length=acc.length+i) (by omega) ?_ ?_ acc (by simp)
  grind
  intro rec i a x rest a7 m hd n;simp only[fB a7,b6,h0 hd,bT,f' a7 (by omega:ag.length<2^62)]
  grind[m9,bT]
 refine Dh λrec=>?_
 grind[aw]
def LD{l:List Int}(hl:l.length<=1000000)(h:qM l=No):CI l=Q1 No:=by
 unfold CI;have hp:=pq h;cases l;exact Dh λrec=>rfl;rename_i a xs;have e:((a::xs).length:Int)=(xs.length:Int)+1:=by simp
 rw[e];refine mP (A:=Unit) xs (λi _=>(i:Int)+1) (λ_ _=>Q1 No) (by simp at hl;omega) ?_ ?_ ()
 grind[decide_eq_false]
 intro rec i _ x rest a7 hd c;have d:xs[i]?=Q1 x:=by grind[jD,iw]
 have h1:(a::xs)[i+1]?=Q1 x:=by simpa using d
 have b:i<(a::xs).length:=by simp;omega
 have cu:(a::xs)[i]?=Q1 (a::xs)[i]:=af b;have f:(a::xs)[i]<x:=by grind[bM,af]
 simp only[aC]at hl;rw[hT (by omega),b6,show aa.wrap ((i:Int)+1-1)=(i:Int)by grind[fx],lQ,cu,bT,show((i:Int)+1)=((i+1:Nat):Int)by omega,lQ,h1,bT,
  ft (by omega),bu,fx (by omega) (by omega)]
 exact c ()
def aL5(al:List b9)(ag:List ct)(fs:List Int)(e:al.length<=1000)(ha:ag.length<=1000)(hv:∀a∈ag,a.2.2.2.1.length<=1000):HK (al,ag,fs)=Q1 (al.map (λn=>n.2)++(ag.map (λa=>a.2.2.2.1)).flatten):=by
 unfold HK;refine mw (A:=List bs) al (λi a=>(a,(i:Int))) (λa rest=>Q1 ((a++rest.map (λn=>n.2))++(ag.map (λa=>a.2.2.2.1)).flatten)) (λi a=>a.length=i) (by omega) ?_ ?_ [] rfl;intro rec a b;simp only[kj,bu,dj,bD];refine mw (A:=List bs) ag (λi a=>(a,(i:Int))) (λa rest=>Q1 (a++(rest.map (λa=>a.2.2.2.1)).flatten)) (λi a=>a.length<=1000+1000*i) (by omega) ?_ ?_ a (by omega)
 grind[List.flatten_nil]
 intro rec i a x rest a7 b hd c;have d:x∈ag:=ao (hd▸aJ ..);have:=hv x d;simp only[fB a7,b6,h0 hd,bT,f' a7 (by omega:ag.length<2^62)]
 grind[m9,bT]
 intro rec i a x rest a7 b hd c;simp only[fB a7,b6,h0 hd,bT,f' a7 (by omega:al.length<2^62)]
 grind[m9,bT]
def bc2(p:bs):HO p=Q1 (lR p):=by grind[HO,lR]
def aP7{al:List b9}{ag:List ct}{fs:List Int}(h:fp al ag fs):HM (al,ag,fs)=Q1 N2:=by
 unfold HM;have h1:=h.qF;have h2:=h.pA;have c:=h.wX;refine mP (A:=Unit) ag (λi _=>(i:Int)) (λ_ _=>Q1 N2) (by omega) ?_ ?_ ()
 grind[decide_eq_false]
 intro rec i _ x rest a7 hd a;have b:x∈ag:=ao (hd▸aJ ..);have:=h.q4 b;simp only[fB a7,b6,h0 hd,bT,f' a7 (by omega:ag.length<2^62)];rw[ft (by omega),bu];exact a ()
def aS1(al:List b9)(ag:List ct)(fs:List Int)(n:Int)(hl:fs.length<2^62):ER ((al,ag,fs),n)=Q1 (Eo (n∈fs)||Eo (n=0)):=by
 unfold ER;refine mP (A:=Unit) fs (λi _=>(i:Int)) (λ_ rest=>Q1 (Eo (n∈rest)||Eo (n=0))) (by omega) ?_ ?_ ()
 grind[decide_false]
 intro rec i _ x rest a7 hd a;have:=a ();simp only[fB a7,b6,h0 hd,bT,f' a7 hl,this]
 grind[decide_eq_true,decide_eq_false]
theorem DX{al:List b9}{ag:List ct}{fs:List Int}(h:fp al ag fs){a:ct}(ha:a∈ag):∃p,pathOf al ag a.1=Q1 p/\ya ((al,ag,fs),a)=Q1 (p,No):=by
 obtain⟨f,t,h1,h2,b,_⟩:=h.path ha;have hv:=h.q4 ha;have c:=h.qF;refine⟨_,b,?_⟩;unfold ya
 grind[KP,bT,m9]
end Dp
open Go.Pg
namespace Dp
theorem xR{p q:bs}:hU p q=No↔p.1<q.1\/(p.1=q.1/\p.2<q.2):=by simp[hU]
theorem aA0(p q:bs):hU p q=No\/hU q p=No\/p=q:=by grind[xR,eJ]
theorem JF{p q:bs}(h:hU p q=No):hU q p=N2:=by grind[xR]
theorem bW6(a b c d:bs):p8 a b c d=p8 c d a b:=by grind[p8,hU,aA0,JF]
def aI0{a b c d:bs}(g:a≠b)(h:c≠d):oK a b c d=oK c d a b:=by
 have h1:mh a b=N2:=by grind[pt]
 have h2:mh c d=N2:=by grind[pt]
 have i:(d' a&&d' b&&d' c&&d' d)=(d' c&&d' d&&d' a&&d' b):=by grind[d']
 unfold oK;rw[h1,h2,i];cases f:(d' c&&d' d&&d' a&&d' b)with
 |false=>rfl
 |true =>simp only[ab]at f;obtain⟨⟨⟨hc,hd⟩,ha⟩,e⟩:=f;simp only[me,aG,l4];have pI:=te ha e hc;have pC:=te ha e hd;have j:=te hc hd ha;have k:=te hc hd e;by_cases hz:l7 a b c=0/\l7 a b d=0<;>grind[l7,fr,OD,bW6]
abbrev Mh:=Int×Int×Int×List bs×Int×Int×Int×Int×Int×Int×Int×Int
def pr(s:fy):Mh:=(s.1.1,s.1.2.1,s.1.2.2.1,s.1.2.2.2.1,s.1.2.2.2.2.1,s.1.2.2.2.2.2.1,s.2,(s.1.path.length:Int)-1,(hi s).1,(hi s).2,(gl s).1,(gl s).2)
theorem Du(a:ct)(p:List bs):(pf a p).length=p.length-1:=by simp[pf]
def aO7{a:ct}{p:List bs}{i:Nat}{x:fy}{rest:List fy}(h:(pf a p).drop i=x::rest):x=(mF a p,(i:Int))/\i+1<p.length:=by grind[jD,iw,List.head?_cons,pf,bo,af,ah]
def W5{al:List b9}{ag:List ct}{fs:List Int}(h:fp al ag fs){r:List fy}(E:my al ag ag=Q1 r):EA (al,ag,fs)=Q1 (r.map pr):=by
 unfold EA;have hl:=h.pA;have main:∀(l:List ct) (e:List fy),(∀a∈l,a∈ag)->my al ag l=Q1 e->e.length<=65*l.length:=by
  intro l
  induction l with
  |nil=>intro e _ c;cases c;simp
  |cons a l G=>
   intro e hm c;unfold my at c;obtain⟨p,hp,_⟩:=DX h (hm a (by simp));rw[hp]at c;simp only at c;cases hc:((Eo (a.2.1=a.2.2.1)&&Eo (p.length<4))||!(qt p))with
   |true=>rw[hc]at c;cases c
   |false =>rw[hc]at c;simp only[bu]at c;split at c;rename_i H u;cases c;have:=G H (λx m=>hm x (by simp[m])) u;obtain⟨f,t,_,_,o,_⟩:=h.path (hm a (by simp));rw[hp]at o;cases o;have hv:=h.q4 (hm a (by simp));simp[Du];omega;cases c
 refine(mw (A:=List Mh) ag (λi acc=>(acc,(i:Int))) (λacc rest=>match my al ag rest with|some e=>Q1 (acc++e.map pr)|none=>Ld) (λi acc=>acc.length<=65*i) (by omega) ?_ ?_ [] (by simp)).trans (by rw[E];simp)
 grind[my]
 intro rec i acc x rest a7 O hd C;have m:x∈ag:=ao (hd▸aJ ..);obtain⟨p,hp,g⟩:=DX h m;obtain⟨P,v⟩:=h.j7;obtain⟨Q,q,I,w⟩:=I5 v x m;rw[hp]at q;cases q;obtain⟨f,t,_,_,o,_⟩:=h.path m;rw[hp]at o;have hv:=h.q4 m;have J:p.length=x.2.2.2.1.length+2:=by cases o;simp
 have K:my al ag (x::rest)=match my al ag rest with|some r=>Q1 (pf x p++r)|none=>Ld:=by
  show(match pathOf al ag x.1 with|none=>Ld|some l=>_)=_
  grind[qt,decide_eq_false]
 rw[K];simp only[fB a7,b6,h0 hd,bT,f' a7 (by omega:ag.length<2^62)];have d:ya ((al,ag,fs),x.1,x.2.1,x.2.2.1,x.2.2.2.1,x.2.2.2.2.1,x.2.2.2.2.2)=Q1 (p,No):=g;rw[d];simp only[bT];refine(mw (A:=List Mh) (pf x p) (λi acc=>(acc,(i:Int))) (λb s=>match my al ag rest with|some e=>Q1 ((b++s.map pr)++e.map pr)|none=>Ld) (λj b=>b.length<=65*i+j) (by rw[Du];omega) ?_ ?_ acc (by omega)).trans ?_
 grind[Du,fx,decide_eq_false]
 intro D j b y s hj M z k;obtain⟨B,N⟩:=aO7 z;have g1:p[j]?=Q1 (hi y):=by rw[B];show p[j]?=Q1 ((p[j]?).getD (0,0));rw[af (by omega)];rfl
 have g2:p[j+1]?=Q1 (gl y):=by rw[B];show p[j+1]?=Q1 ((p[j+1]?).getD (0,0));rw[af (by omega)];rfl
 rw[show aa.wrap ((j:Int)+1)=((j+1:Nat):Int)from f' (n:=p.length) (by omega) (by omega),hT (by omega),b6];simp only[lQ,g1,g2,bT];rw[fx (n:=(p.length:Int)-1) (by omega) (by omega),m9 (by decide) (by simp;omega),bT,k _ (by simp;omega)];have R:pr y=(x.1,x.2.1,x.2.2.1,x.2.2.2.1,x.2.2.2.2.1,x.2.2.2.2.2,(j:Int),(p.length:Int)-1,(hi y).1,(hi y).2,(gl y).1,(gl y).2):=by rw[B];rfl
 grind[my]
 grind[my]
end Dp
namespace Dp
def Rx{a b c d:bs}{A B C D:Int}(f:A=fr a b c)(g:B=fr a b d)(i:C=fr c d a)(j:D=fr c d b)(h1:A<=0)(h2:0<=B)(o:D<=0)(k:0<=C)(p:A<B):¬uV a b c d:=by
 have e:c.1*B-d.1*A=b.1*C-a.1*D:=by subst f g i j;unfold fr;grind
 have l:B-A=C-D:=by subst f g i j;unfold fr;grind
 have q:(min c.1 d.1)*(B-A)<=c.1*B-d.1*A:=by have fa:=bh (by omega:min c.1 d.1<=c.1) h2;have gb:=bh (by omega:min c.1 d.1<=d.1) (by omega:0<=-A);rw[cK,cK]at gb;rw[cW];omega
 have r:c.1*B-d.1*A<=(max c.1 d.1)*(B-A):=by have fa:=bh (by omega:c.1<=max c.1 d.1) h2;have gb:=bh (by omega:d.1<=max c.1 d.1) (by omega:0<=-A);rw[cK,cK]at gb;rw[cW];omega
 have m:(min a.1 b.1)*(C-D)<=b.1*C-a.1*D:=by have fa:=bh (by omega:min a.1 b.1<=b.1) k;have gb:=bh (by omega:min a.1 b.1<=a.1) (by omega:0<=-D);rw[cK,cK]at gb;rw[cW];omega
 have n:b.1*C-a.1*D<=(max a.1 b.1)*(C-D):=by have fa:=bh (by omega:b.1<=max a.1 b.1) k;have gb:=bh (by omega:a.1<=max a.1 b.1) (by omega:0<=-D);rw[cK,cK]at gb;rw[cW];omega
 rw[<-l]at m n;rintro (h|h);have:=fS h (by omega:0<B-A);omega;have:=fS h (by omega:0<B-A);omega
def aI5{a b c d:bs}(ha:d' a=No)(r:d' b=No)(hc:d' c=No)(hd:d' d=No)(s:a≠b)(t:c≠d)(hf:uV a b c d):oK a b c d=0:=by
 have h1:mh a b=N2:=by rw[ee];exact λh=>s ((pt a b).1 h)
 have h2:mh c d=N2:=by rw[ee];exact λh=>t ((pt c d).1 h)
 unfold oK;rw[h1,h2,ha,r,hc,hd];simp only[bw,me,aG,l4];have pI:=te ha r hc;have pC:=te ha r hd;have z:=te hc hd ha;have B:=te hc hd r;by_cases hz:l7 a b c=0/\l7 a b d=0;rw[cr hz];unfold p8;simp only;have C:∀x y:bs,((if hU y x=No then y else x).1=min x.1 y.1)/\(if hU y x=No then x else y).1=max x.1 y.1:=λx y=>by by_cases h:hU y x=No;rw[cr h,cr h];rw[xR]at h;omega;rw[cc h,cc h];rw[xR]at h;omega
 obtain⟨mJ,nj⟩:=C a b;obtain⟨rM,s_⟩:=C c d;generalize(if hU b a=No then b else a)=j at *;generalize(if hU b a=No then a else b)=k at *;generalize(if hU d c=No then d else c)=m at *;generalize(if hU d c=No then c else d)=n at *;have fa:(if hU j m=No then m else j).1=max j.1 m.1:=by by_cases h:hU j m=No;rw[cr h];rw[xR]at h;omega;rw[cc h];rw[xR]at h;omega
 have gb:(if hU n k=No then n else k).1=min n.1 k.1:=by by_cases h:hU n k=No;rw[cr h];rw[xR]at h;omega;rw[cc h];rw[xR]at h;omega
 generalize(if hU j m=No then m else j)=f at *;generalize(if hU n k=No then n else k)=l at *;have u:l.1<f.1:=by unfold uV at hf;omega
 rw[cc (by rw[pt];intro e;rw[e]at u;omega),cc (by rw[xR];omega)];rw[cc hz,cc];rintro ⟨g1,g2⟩;have E:fr a b d-fr a b c=fr c d a-fr c d b:=by unfold fr;grind
 have D:fr a b c≠fr a b d:=λe=>by
  rcases pI with⟨p,q⟩|⟨p,q⟩|⟨p,q⟩
  rcases pC with⟨i,g⟩|⟨i,g⟩|⟨i,g⟩
  rw[q,g]at g1;omega;omega;omega;rcases pC with⟨i,g⟩|⟨i,g⟩|⟨i,g⟩
  omega;rw[q,g]at g1;omega;omega;exact hz ⟨q,by omega⟩
 rcases(by omega:fr a b c<fr a b d\/fr a b d<fr a b c)with v|v
 have o:fr a b c<=0/\0<=fr a b d:=by rcases pI with⟨p,q⟩|⟨p,q⟩|⟨p,q⟩<;>rcases pC with⟨i,g⟩|⟨i,g⟩|⟨i,g⟩<;>rw[q,g]at g1<;>omega
 have w:fr c d b<=0/\0<=fr c d a:=by rcases z with⟨p,q⟩|⟨p,q⟩|⟨p,q⟩<;>rcases B with⟨i,g⟩|⟨i,g⟩|⟨i,g⟩<;>rw[q,g]at g2<;>omega
 exact Rx rfl rfl rfl rfl o.1 o.2 w.1 w.2 v hf;have o:fr a b d<=0/\0<=fr a b c:=by rcases pI with⟨p,q⟩|⟨p,q⟩|⟨p,q⟩<;>rcases pC with⟨i,g⟩|⟨i,g⟩|⟨i,g⟩<;>rw[q,g]at g1<;>omega
 have w:fr c d a<=0/\0<=fr c d b:=by rcases z with⟨p,q⟩|⟨p,q⟩|⟨p,q⟩<;>rcases B with⟨i,g⟩|⟨i,g⟩|⟨i,g⟩<;>rw[q,g]at g2<;>omega
 have m1:fr d c a=- fr c d a:=by unfold fr;grind
 have m2:fr d c b=- fr c d b:=by unfold fr;grind
 exact Rx (a:=a) (b:=b) (c:=d) (d:=c) rfl rfl rfl rfl o.1 o.2 (by omega) (by omega) v (by unfold uV at *;omega)
theorem ba9{al:List b9}{ag:List ct}{fs:List Int}(h:fp al ag fs){s:fy}{a:ct}{p:List bs}{i:Nat}(o:nJ al ag s a p i)(hf:∀n∈al,p6 s n=No):EM ((al,ag,fs),pr s)=Q1 No:=by
 have C:=h.qF;have m:=h.q4 o.nM;obtain⟨f,t,_,_,l,_⟩:=h.path o.nM;have q:p.length=a.2.2.2.1.length+2:=by have:=o.path;rw[this]at l;cases l;simp
 have r:=o.at';have D:s.2=(i:Int):=by rw[o.eq]
 have e:s.1.path.length=p.length:=by rw[o.eq];rfl
 have u:s.1.2.1=a.2.1:=by rw[o.eq];rfl
 have v:s.1.2.2.1=a.2.2.1:=by rw[o.eq];rfl
 unfold pr;unfold EM;refine mP (A:=Unit) al (λi _=>(i:Int)) (λ_ _=>Q1 No) (by omega) ?_ ?_ ();intro rec _;simp only[kj,bu];have g:=h.sD o;have:(Eo ((hi s).1=(gl s).1)&&Eo ((hi s).2=(gl s).2))=N2:=by rw[ee];intro hc;simp only[ab,kA]at hc;exact g (eJ hc.1 hc.2)
 rw[this,bB,b6,u,v,e];by_cases hl:a.2.1=a.2.2.1;obtain⟨E,k⟩:=h.j7;obtain⟨G,d,_,c⟩:=I5 k a o.nM;rw[o.path]at d;cases d;have:=c hl;rw[hT hl,aw,bu,hT (by omega)];rw[ft hl,bB,b6];intro rec j _ x rest hj hd w;have z:x∈al:=ao (hd▸aJ ..);have b:=hf x z;simp only[fB hj,b6,h0 hd,bT,f' hj (by omega:al.length<2^62)];have on:yk (((hi s).1,(hi s).2),((gl s).1,(gl s).2),x.2.1,x.2.2)=Q1 (mc (hi s) (gl s) x.2):=Mg _ _ _;rw[on,w ()];unfold p6 tP th at b;rw[e]at b;have B:aa.wrap ((s.1.path.length:Int)-1-1)=(p.length:Int)-2:=by rw[e,fx (by omega) (by omega)];omega
 simp only[bT,B];cases nq:Eo (s.2=0)<;>cases z2:Eo (s.1.2.1=x.1)<;>cases z3:Eo (s.2=(p.length:Int)-2)<;>cases z4:Eo (s.1.2.2.1=x.1)<;>cases z5:mc (hi s) (gl s) x.2<;>first|rfl| (rw[nq,z2,z3,z4,z5]at b;cases b)
end Dp
namespace Dp
def xf(s t:fy):Bool:=Eo (s.2+1=t.2)||(Eo (s.1.2.1=s.1.2.2.1)&&(tP s&&th t))
def uQ(s t:fy):Int:=oK (hi s) (gl s) (hi t) (gl t)
def ud(s:fy)(n:b9):Bool:=Eo (s.1.2.1=n.1)||Eo (s.1.2.2.1=n.1)
def V(al:List b9)(s t:fy):Prop :=
 (s.1.1=t.1.1->s.2<t.2->uQ s t=bif xf s t then 1 else 0)/\(s.1.1=t.1.1->t.2<s.2->uQ s t=bif xf t s then 1 else 0) /\
 (s.1.1≠t.1.1->uQ s t=0\/(uQ s t=1/\∃n∈al,ud s n=No/\ud t n=No/\mc (hi s) (gl s) n.2=No/\mc (hi t) (gl t) n.2=No))
section
variable {al:List b9} {ag:List ct} {fs:List Int} (h:fp al ag fs)
include h
theorem aL9{s t:fy}{a b:ct}{p q:List bs}{i j:Nat}(o:nJ al ag s a p i)(o':nJ al ag t b q j)(hc:qx s t (mkMap al [])=No):V al s t:=by
 unfold qx at hc;simp only at hc;refine⟨λe d=>?_,λe d=>?_,λe=>?_⟩
 grind[decide_eq_true,decide_eq_false,uQ,xf]
 grind[decide_eq_true,xf,uQ]
 rw[ft e,bu]at hc;by_cases c:oK (hi s) (gl s) (hi t) (gl t)=1;rw[hT c,b6]at hc;refine bk ⟨c,?_⟩;have f:∀n∈al,nv (mkMap al []) n.1=n.2:=λn g=>by unfold nv;rw[Jr [] (pq h.vL) g];rfl
 have k:s.1.2.1=a.2.1/\s.1.2.2.1=a.2.2.1:=by rw[o.eq];exact⟨rfl,rfl⟩
 obtain⟨⟨l,m1,fa⟩,m,m2,gb⟩:=h.DQ o.nM
 grind[ud]
 rw[ft c,bu,kA]at hc;exact br hc
theorem am7{s t:fy}{a b:ct}{p q:List bs}{i j:Nat}(o:nJ al ag s a p i)(o':nJ al ag t b q j)(e:s.1.1=t.1.1)(c:xf s t=No):gl s=hi t\/hi s=gl t:=by
 obtain⟨rfl,rfl⟩:=h.PT o o' e;unfold xf at c;rw[o.first,o'.last]at c;have g:s.2=(i:Int):=by rw[o.eq]
 have k:t.2=(j:Int):=by rw[o'.eq]
 have d:s.1.2.1=a.2.1/\s.1.2.2.1=a.2.2.1:=by rw[o.eq];exact⟨rfl,rfl⟩
 rw[g,k,d.1,d.2]at c;simp only[bC,ab,kA]at c;rcases c with c|⟨l2,mi,pG⟩
 have:i+1=j:=by omega
 subst this;have f:=o'.rO;rw[o.se]at f;exact .inl (aQ f);subst mi;exact .inr (h.N5 o'.nM o'.path l2 pG o.rO o'.se)
theorem bd1{s t:fy}{a b:ct}{p q:List bs}{i j:Nat}(o:nJ al ag s a p i)(o':nJ al ag t b q j)(hf:uV (hi s) (gl s) (hi t) (gl t)):V al s t:=by
 have cu:uQ s t=0:=aI5 (h.vp o).1 (h.vp o).2 (h.vp o').1 (h.vp o').2 (h.sD o) (h.sD o') hf;have no:∀x:Bool,(x=No->gl s=hi t\/hi s=gl t)->x=N2:=λx d=>by grind[uV]
 refine⟨λe _=>?_,λe _=>?_,λ_=>.inl cu⟩;have c:=no (xf s t) (am7 h o o' e);rw[c,cu];rfl;have c:=no (xf t s) (λx=>by grind[am7]);rw[c,cu];rfl
theorem bd2{s t:fy}{a b:ct}{p q:List bs}{i j:Nat}(o:nJ al ag s a p i)(o':nJ al ag t b q j)(hv:V al s t):V al t s:=by
 have e:uQ t s=uQ s t:=aI0 (h.sD o') (h.sD o);obtain⟨d,f,k⟩:=hv;refine⟨λc g=>e.trans (f c.symm g),λc g=>e.trans (d c.symm g),λc=>?_⟩
 grind
theorem bd0{r:List fy}(d:my al ag ag=Q1 r):(∀s∈r,∀t∈r,s≠t->V al s t)/\∀s∈r,∀n∈al,p6 s n=No:=by
 have hp:=h.lV;unfold u_ at hp;rw[d]at hp;simp only at hp;have k:=Da (vA r);have c:=tG (vA r);have e:(oy p2 r).Pairwise (λa b=>qu a<=qu b):=k.imp λ{a b} x=>by unfold p2 at x;rw[uk]at x;omega
 obtain⟨g1,g2⟩:=FN e hp;have g3:(oy p2 r).Pairwise (λs t=>s∈r->t∈r->s≠t->V al s t):=by
  refine g1.imp_of_mem λ{x y} l m f _ _ g=>?_;obtain⟨a,p,i,o⟩:=h.q_ d (c.mem_iff.1 l);obtain⟨b,q,j,o'⟩:=h.q_ d (c.mem_iff.1 m);rcases f with hc|hf
  exact aL9 h o o' hc;exact bd1 h o o' (br hf)
 refine⟨λs hs t v u=>?_,λs hs n g=>g2 s (c.mem_iff.2 hs) n g⟩;exact Gw (R:=λs t=>s∈r->t∈r->s≠t->V al s t) (λx y f m l g=>by
  obtain⟨a,p,i,o⟩:=h.q_ d l;obtain⟨b,q,j,o'⟩:=h.q_ d m
  grind[bd2]) (λx _ _ g=>(g rfl).elim) g3 (c.mem_iff.2 hs) (c.mem_iff.2 v) hs v u
theorem WR:∀ {l:List ct} {r:List fy},(∀a∈l,a∈ag)->(l.map (·.1)).Pairwise (·<·)->my al ag l=Q1 r->r.Pairwise (λs t=>s.1.1=t.1.1->s.2<t.2)
 | [],r,_,_,c=>by cases c;exact .nil
 |a::l,r,hm,hp,c=>by
  unfold my at c;obtain⟨p,f,_⟩:=DX h (hm a (by simp));rw[f]at c;simp only at c;cases hc:((Eo (a.2.1=a.2.2.1)&&Eo (p.length<4))||!(qt p))with
  |true=>rw[hc]at c;cases c
  |false =>rw[hc]at c;simp only[bu]at c;split at c;rename_i u d;cases c;rw[au,aR]at hp;rw[jt];refine⟨?_,WR (λx g=>hm x (by simp[g])) hp.2 d,λs hs t k e=>?_⟩;unfold pf;rw[cX];refine List.pairwise_lt_range.imp λ{x y} m _=>?_;show(x:Int)<(y:Int);omega;obtain⟨i,_,rfl⟩:=xw hs;obtain⟨b,n,q,_,o⟩:=Bt d t k;obtain⟨j,_,rfl⟩:=xw o;have:=hp.1 b.1 (aK n);have v:a.1=b.1:=e;omega;cases c
theorem aU9{s t:fy}{a b:ct}{p q:List bs}{i j:Nat}(o:nJ al ag s a p i)(o':nJ al ag t b q j)(e:s.1.1=t.1.1)(c:s.2<t.2)(hv:V al s t):CS (pr s,pr t)=Q1 No:=by
 have hm:AP (hi s,gl s,hi t,gl t)=Q1 (uQ s t):=Uf (h.sD o) (h.sD o');have g:=h.q4 o'.nM;obtain⟨f,sF,_,_,d,_⟩:=h.path o'.nM;have k:q.length=b.2.2.2.1.length+2:=by have:=o'.path;rw[this]at d;cases d;simp
 have l:s.2=(i:Int):=by rw[o.eq]
 have m:t.2=(j:Int):=by rw[o'.eq]
 have n:t.1.path.length=q.length:=by rw[o'.eq];rfl
 have hj:=o'.at';have hv:=hv.1 e c
 grind[pr,CS,bT,fx,xf,tP,th]
theorem Tt(x:ct)(id:Int):AQ (x,id)=Q1 (Eo (x.2.1=id)||Eo (x.2.2.1=id)):=by grind[AQ]
theorem aP8{s t:fy}{a b:ct}{p q:List bs}{i j:Nat}(o:nJ al ag s a p i)(o':nJ al ag t b q j)(e:s.1.1≠t.1.1)(hv:V al s t):CO ((al,ag,fs),pr s,pr t)=Q1 No:=by
 have hm:AP (hi s,gl s,hi t,gl t)=Q1 (uQ s t):=Uf (h.sD o) (h.sD o');have f:=h.qF;have hv:=hv.2.2 e;unfold pr;unfold CO;rw[hm];simp only[bT];rcases hv with hv|⟨hv,n,c,g,k,l,m⟩
 rw[hv];rfl;rw[hv,hT (rfl:(1:Int)=1),aw,bu];refine(mP (A:=Unit) al (λi _=>(i:Int)) (λ_ rest=>Q1 (rest.any λn=>ud s n&&ud t n&&mc (hi s) (gl s) n.2&&mc (hi t) (gl t) n.2)) (by omega) ?_ ?_ ()).trans ?_
 grind
 intro rec j _ x rest hj hd d;simp only[fB hj,b6,h0 hd,bT,f' hj (by omega:al.length<2^62),d ()];have fa:AQ ((s.1.1,s.1.2.1,s.1.2.2.1,s.1.2.2.2.1,s.1.2.2.2.2.1,s.1.2.2.2.2.2.1),x.1)=Q1 (ud s x):=Tt h _ _;have gb:AQ ((t.1.1,t.1.2.1,t.1.2.2.1,t.1.2.2.2.1,t.1.2.2.2.2.1,t.1.2.2.2.2.2.1),x.1)=Q1 (ud t x):=Tt h _ _
 grind[yk,hi,gl,mc,Mg,bT,ud]
 grind[fC]
end
end Dp
namespace Dp
theorem oU{α:Type}{xs:List α}{i:Nat}{x:α}{rest:List α}(h:xs.drop i=x::rest):xs[i]?=Q1 x:=by grind[jD,iw]
section
variable {al:List b9} {ag:List ct} {fs:List Int} (h:fp al ag fs)
include h
theorem aP9:HG (al,ag,fs)=Q1 No:=by
 obtain⟨r,s⟩:=h.j7;obtain⟨P,dC⟩:=bd0 h s;have hO:=WR h (λ_ x=>x) (pq h.rX) s;have E:=M7 (pq h.rX) s;have hlen:r.length<=100000:=by
  have h1:=W5 h s;have hl:=h.pA;have:∀(l:List ct) (C:List fy),(∀a∈l,a∈ag)->my al ag l=Q1 C->C.length<=65*l.length:=by
   intro l
   induction l with
   |nil=>intro C _ c;cases c;simp
   |cons a l Q=>
    intro C hm c;unfold my at c;obtain⟨p,hp,_⟩:=DX h (hm a (by simp));rw[hp]at c;simp only at c;cases hc:((Eo (a.2.1=a.2.2.1)&&Eo (p.length<4))||!(qt p))with
    |true=>rw[hc]at c;cases c
    |false =>rw[hc]at c;simp only[bu]at c;split at c;rename_i R G;cases c;have:=Q R (λx S=>hm x (by simp[S])) G;obtain⟨f,t,_,_,N,_⟩:=h.path (hm a (by simp));rw[hp]at N;cases N;have hv:=h.q4 (hm a (by simp));simp[Du];omega;cases c
  grind
 unfold HG;rw[show EA ((al,ag,fs).1,(al,ag,fs).2.1,(al,ag,fs).2.2)=_ from W5 h s];simp only[bT];refine mP (A:=Unit) (r.map pr) (λi _=>(i:Int)) (λ_ _=>Q1 No) (by simp;omega) ?_ ?_ ()
 grind
 intro rec i _ y rest a7 hd w;have D:=oU hd;rw[aO]at D;have m:i<r.length:=by simpa using a7
 rw[af m]at D;simp only[ai,ah]at D;have O:r[i]∈r:=ay m;obtain⟨b,q,j,o'⟩:=h.q_ s O;simp only[fB a7,b6,h0 hd,bT];have H:EM ((al,ag,fs),y.1,y.2.1,y.2.2.1,y.2.2.2.1,y.2.2.2.2.1,y.2.2.2.2.2.1,y.2.2.2.2.2.2.1,y.2.2.2.2.2.2.2.1,y.2.2.2.2.2.2.2.2.1,y.2.2.2.2.2.2.2.2.2.1,y.2.2.2.2.2.2.2.2.2.2.1,y.2.2.2.2.2.2.2.2.2.2.2)=Q1 No:=by grind[ba9]
 rw[H];simp only[bT,aw,bu];refine mP (A:=Unit) (r.take i) (λk _=>(k:Int)) (λ_ _=>Q1 No) (by simp;omega) ?_ ?_ ();intro d _;rw[cC,dp (by omega),kj,bu,f' a7 (by simp;omega)];exact w ();intro d k _ z I hk sX g;rw[cC,dp (by omega)]at hk;have hz:=oU sX;rw[fM hk,af (by omega)]at hz;simp only[ah]at hz;have hs:r[k]∈r:=ay (by omega);obtain⟨a,p,i',o⟩:=h.q_ s hs;have B:=bM.1 hO k i (by omega) m hk;have J:r[k]≠r[i]:=bM.1 E k i (by omega) m hk;have hv:=P _ hs _ O J;have K:nth (r.map pr) (k:Int)=Q1 (pr r[k]):=by grind[lQ,af]
 have e62:(r.map pr).length<2^62:=by simp;omega
 rw[fB hk,b6,f' (n:=i) hk (by omega)];simp only[K,h0 hd,bT,<-D];by_cases e:r[k].1.1=r[i].1.1;have M:(pr r[k]).1=(pr r[i]).1:=e;have u:CS (pr r[k],pr r[i])=Q1 No:=aU9 h o o' e (B e) hv;rw[hT M];simp only[b6,aw,bu];refine lC (b:=a8 (CS (pr r[k],pr r[i])) λv=>bif !v then Q1 N2 else d ((k+1:Nat):Int)) rfl ?_;rw[u];exact g ();have M:(pr r[k]).1≠(pr r[i]).1:=e;have u:CO ((al,ag,fs),pr r[k],pr r[i])=Q1 No:=aP8 h o o' e hv;rw[ft M];simp only[bB,b6,bu];refine lC (b:=a8 (CO ((al,ag,fs),pr r[k],pr r[i])) λv=>bif !v then Q1 N2 else d ((k+1:Nat):Int)) rfl ?_;rw[u];exact g ()
theorem aK7:HI (al,ag,fs)=Q1 No:=by
 have j:=h.qF;have ha:=h.pA;have hf:=h.wX;unfold HI;simp only;rw[Hc al ag fs N2 (by omega) (by omega),Hc al ag fs No (by omega) (by omega)];simp only[bT,b6,bu];rw[m9 (by decide) (by simp;omega),bT,m9 (by decide) (by simp;omega),bT];have c:∀x∈(al.map (·.1)++ag.map (·.1))++fs,qL x=No:=λx b=>by
  rcases aY.1 b with b|b
  rcases aY.1 b with b|b
  exact aj.1 h.Oz x b;exact aj.1 h.Gk x b;exact aj.1 h.Oy x b
 have hlen:((al.map (·.1)++ag.map (·.1))++fs).length<=1000:=by simp;omega
 generalize(al.map (·.1)++ag.map (·.1))++fs=xs at c hlen;refine mP (A:=Unit) xs (λi _=>(i:Int)) (λ_ _=>Q1 No) (by omega) ?_ ?_ ();intro rec _;simp only[kj,bu];rw[aL5 al ag fs (by omega) (by omega) (λa b=>by have:=h.q4 b;omega)];simp only[bT];have hp:∀p∈al.map (λn=>n.2)++(ag.map (λa=>a.2.2.2.1)).flatten,lR p=No:=λp hp=>by
  rcases aY.1 hp with hp|hp
  obtain⟨n,j,rfl⟩:=aM.1 hp;exact h.tt j;obtain⟨l,hl,d⟩:=bG.1 hp;obtain⟨a,ha,rfl⟩:=aM.1 hl;exact aj.1 (aj.1 h.J' a ha) p d
 have e:(al.map (λn=>n.2)++(ag.map (λa=>a.2.2.2.1)).flatten).length<=1000000:=by
  have:∀l:List ct,(∀a∈l,a∈ag)->((l.map (λa=>a.2.2.2.1)).flatten).length<=64*l.length:=by
   intro l
   induction l with
   |nil=>intro _;simp
   |cons a l o=>
    intro hm;have h1:=o (λx b=>hm x (by simp[b]));have h2:=h.q4 (hm a (by simp))
    grind[List.flatten_cons,aS,aC]
  grind[aS,aI]
 generalize al.map (λn=>n.2)++(ag.map (λa=>a.2.2.2.1)).flatten=f at hp e;refine mP (A:=Unit) f (λi _=>(i:Int)) (λ_ _=>Q1 No) (by omega) ?_ ?_ ()
 grind
 intro k i _ x rest a7 hd g;have b:x∈f:=ao (hd▸aJ ..);simp only[fB a7,b6,h0 hd,bT,f' a7 (by omega:f.length<2^62),bc2,hp x b,aw,bu];exact g ();intro rec i _ x rest a7 hd g;have b:x∈xs:=ao (hd▸aJ ..);have m:=c x b;unfold qL at m;simp only[ab,kA]at m;have q:=oU hd;have r:Eo (0<=(i:Int))=No:=hT (by omega);simp only[fB a7,b6,r,bw,bT,aW,q,ai,f' a7 (by omega:xs.length<2^62)];rw[ft (by omega),bu,ft (by omega),bu];exact g ()
theorem aY4:HS (al,ag,fs)=Q1 N2:=by
 have p:=h.qF;have l:=I_ h;unfold HS;refine mP (A:=Unit) al (λi _=>(i:Int)) (λ_ _=>Q1 N2) (by omega) ?_ ?_ ()
 grind
 intro rec i _ x rest a7 hd m;simp only[fB a7,b6,h0 hd,bT];refine mP (A:=Unit) (al.take i) (λk _=>(k:Int)) (λ_ _=>Q1 N2) (by simp;omega) ?_ ?_ ();intro a _;rw[cC,dp (by omega),kj,bu,f' a7 (by omega)];exact m ();intro a k _ z b hk sX c;rw[cC,dp (by omega)]at hk;have hz:=oU sX;rw[fM hk]at hz;have o:=oU hd;have d:nth al (k:Int)=Q1 z:=by rw[lQ];exact hz
 rw[fB hk,b6,d,f' (n:=i) hk (by omega)];simp only[bT];have f:z∈al:=aH hz;have g:x∈al:=aH o;have j:x.1≠z.1:=λe=>by grind[bM,pq,af,aQ]
 have:=R7 h x g z f j;have e:(Eo (x.2.1=z.2.1)&&Eo (x.2.2=z.2.2))=N2:=by rw[ee];intro hc;simp only[ab,kA]at hc;exact this (eJ hc.1 hc.2)
 rw[e,bu];exact c ()
theorem aB6:EP (al,ag,fs)=Q1 0:=by
 have k:=h.qF;have ha:=h.pA;have hf:=h.wX;have b:=h.conn;unfold vP at b;have d:∀a∈ag,(Eo (a.2.2.2.2.1∈fs)||Eo (a.2.2.2.2.1=0))=No/\(Eo (a.2.2.2.2.2∈fs)||Eo (a.2.2.2.2.2=0))=No:=by
  cases h1:sC [] al with
  |true=>rw[h1]at b;cases b
  |false=>
   rw[h1,bu]at b;cases h2:ag.any (λa=>!(Eo (a.2.1∈al.map (·.1))&&Eo (a.2.2.1∈al.map (·.1))))with
   |true=>rw[h2]at b;cases b
   |false =>rw[h2,bu]at b;cases l:ag.any (λa=>!((Eo (a.2.2.2.2.1=0)||Eo (a.2.2.2.2.1∈fs))&&(Eo (a.2.2.2.2.2=0)||Eo (a.2.2.2.2.2∈fs))))<;>grind[cB,absurd,ji]
 unfold EP;simp only;rw[aP7 h,Hc al ag fs N2 (by omega) (by omega),Hc al ag fs No (by omega) (by omega)];simp only[bT,b6,bu];rw[LD (by simp;omega) h.vL,LD (by simp;omega) h.rX,LD (by omega) h.E8,aK7 h,aY4 h,aP9 h];simp only[bT,aw,bu];refine mP (A:=Unit) ag (λi _=>(i:Int)) (λ_ _=>Q1 0) (by omega) ?_ ?_ ();intro rec _;simp only[kj,bu];refine mP (A:=Unit) ag (λi _=>(i:Int)) (λ_ _=>Q1 0) (by omega) ?_ ?_ ()
 grind
 intro j i _ x rest a7 hd f;have g:x∈ag:=ao (hd▸aJ ..);obtain⟨f1,f2⟩:=d x g;simp only[fB a7,b6,h0 hd,bT,f' a7 (by omega:ag.length<2^62),aS1 al ag fs _ (by omega:fs.length<2^62),f1,f2,aw,bu];exact f ();intro rec i _ x rest a7 hd f;have g:x∈ag:=ao (hd▸aJ ..);obtain⟨p,hp,e⟩:=DX h g;have c:ya ((al,ag,fs),x.1,x.2.1,x.2.2.1,x.2.2.2.1,x.2.2.2.2.1,x.2.2.2.2.2)=Q1 (p,No):=e;simp only[fB a7,b6,h0 hd,bT,f' a7 (by omega:ag.length<2^62),c,aw,bu];exact f ()
end
end Dp
open fp (ki)
set_option maxRecDepth 10000
namespace Dp
def Hd(al:List b9)(ag:List ct)(fs:List Int)(id:Int)(hl:ag.length<2^62)(hv:∀a∈ag,a.2.2.2.1.length<=1000000):AX ((al,ag,fs),id)=Q1 (match px ag id with|some a=>(a,No)|none=>((0,0,0,[],0,0),N2)):=by
 unfold AX;refine mP (A:=Unit) ag (λi _=>(i:Int)) (λ_ rest=>Q1 (match px rest id with|some a=>(a,No)|none=>((0,0,0,[],0,0),N2))) (by omega) ?_ ?_ ()
 grind[px]
 intro rec i a x rest a7 hd b;have:=b ();have c:=hv x (ao (hd▸aJ ..));simp only[fB a7,b6,h0 hd,bT,f' a7 hl,this,px,da]
 grind[m9,bT,decide_eq_true,decide_eq_false]
theorem Ka(p:List bs)(hp:p.length<=100000):rounds (α:=List (Int×Int)×Int) (β:=List (Int×Int)) (λe b=>
  bif (Eo ((0:Int)<=b.2))then(
   a8 (nth p b.2) λc=>
   a8 (j6 16 b.1 [c]) λd=>
   e (d,(aa.wrap (b.2-(1:Int)))))else(
   Q1 b.1)) (([]:List (Int×Int)),(aa.wrap ((p.length:Int)-(1:Int))))=Q1 p.reverse:=by
 rw[fx (by omega) (by omega)];have:=mw (A:=List bs) (β:=List bs) (S:=List bs×Int) p.reverse (F:=λe b=>
  bif (Eo ((0:Int)<=b.2))then(
   a8 (nth p b.2) λc=>
   a8 (j6 16 b.1 [c]) λd=>
   e (d,(aa.wrap (b.2-(1:Int)))))else(
   Q1 b.1)) (λi a=>(a,(p.length:Int)-1-(i:Int))) (λa rest=>Q1 (a++rest)) (λi a=>a.length=i) (by simp;omega) ?_ ?_ [] rfl
 simpa using this
 grind[decide_eq_false]
 intro rec i a x rest a7 g hd h;have f:i<p.length:=by simpa using a7
 have j:=oU hd
 grind[decide_eq_true,lQ,bT,m9,fx]
def mS(al:List b9)(ag:List ct)(d:Int):List bs:=if 0<d then(pathOf al ag (la d)).getD []else((pathOf al ag (la d)).getD []).reverse
def aT4{β:Type}(o:bs)(b:List bs)(n:Nat)(h:b.length=n)(hl:n<=1000000)(j:Nat)(y:bs)(k:b[j]?=Q1 y)(K:Int->Option β) :
  rounds (α:=Int×Int) (β:=β) (λd c=>
      bif (Eo (c.1<(n:Int)))then(
       a8 ((bif Eo (0<=c.1)&&Eo (c.1<b.length)then Q1 ()else Ld)) λ_=>
       a8 ((b[(c.1).toNat]?).map (λx=>x)) λe=>
       a8 ((bif Eo (0<=(j:Int))&&Eo ((j:Int)<b.length)then Q1 ()else Ld)) λ_=>
       a8 ((b[((j:Nat):Int).toNat]?).map (λx=>x)) λf=>
       a8 (ET (o,e,f)) λg=>
       bif g then(
       d ((aa.wrap (c.1+(1:Int))),(aa.wrap (c.2+(1:Int)))))else(
       d ((aa.wrap (c.1+(1:Int))),c.2)))else K c.2) ((0:Int),(0:Int))=K ((b.countP (λx=>oo o x y):Nat):Int):=by
 subst h;have hj:j<b.length:=by grind[cR,bo]
 refine(mw (A:=Nat) b (λi a=>((i:Int),(a:Int))) (λa rest=>K (((a+rest.countP (λx=>oo o x y):Nat)):Int)) (λi a=>a<=i) (by omega) ?_ ?_ 0 (by omega)).trans (by simp)
 grind
 intro rec i a x rest a7 r hd l;have m:=oU hd;have p:Eo (0<=(i:Int))=No:=hT (by omega);have q:Eo (0<=(j:Int))=No:=hT (by omega);simp only[fB a7,fB hj,b6,p,q,bw,bT,aW,m,k,ai,bc4,f' a7 (by omega:b.length<2^62),f' (show a<b.length by omega) (by omega:b.length<2^62),kr];cases oo o x y with
 |true =>rw[b6,l (a+1) (by omega)];congr 2;simp;omega
 |false=>grind
section
variable {al:List b9} {ag:List ct} {fs:List Int} (h:fp al ag fs)
include h
theorem Q7(id:Int):CU ((al,ag,fs),id)=Q1 (match pathOf al ag id with|some l=>(l,0)|none=>([],7)):=by
 have hl:=h.pA;unfold CU;simp only;rw[Hd al ag fs id (by omega) (λa ha=>by have:=h.q4 ha;omega)]
 grind[px,pathOf,FG,hid,DX,bT,aw,ya]
theorem an8(d:Int):(mS al ag d).length<=66:=by
 unfold mS;cases hp:pathOf al ag (la d)with
 |none=>simp
 |some l =>obtain⟨a,ha,e⟩:=Ya hp;have:=h.q4 (FG ha);split<;>simp<;>omega
theorem Tw{d:Int}(hd:nY d):ES ((al,ag,fs),d)=Q1 (mS al ag d):=by
 have hlen:=an8 h d;unfold ES;unfold mS at hlen⊢;simp only;obtain⟨h1,h2⟩:=hd
 grind[decide_eq_true,Q7,bT,la,pathOf,decide_eq_false,fx,Ka]
theorem aQ7{node:Int}{p:Int×bs}(hp:p∈np al ag node ag):EK ((al,ag,fs),p.1)=Q1 p.2:=by
 obtain⟨a,ha,q,b,hc⟩:=h.GF (λ_ ha=>ha) hp;have c:=h.num ha;have hl:=h.Ce ha b
 grind[nY,EK,Tw,bT,mS,la,decide_eq_false,af,lQ]
theorem bL8{n:b9}(a:n∈al):(ki al ag n).Pairwise (λd e=>oo n.2 (nv (rv [] (np al ag n.1 ag)) d) (nv (rv [] (np al ag n.1 ag)) e)=No):=by
 obtain⟨r,b⟩:=h.j7;have hs:=cX.1 (h.Mp b a).sorted;refine hs.imp_of_mem λ{d e} hd he g=>?_;obtain⟨m1,s1,t1,_⟩:=h.tO b a hd;obtain⟨m2,s2,t2,_⟩:=h.tO b a he;have ho:d' n.2=No:=rS (h.tt a);have Ao:∀x∈ki al ag n,d' (nv (rv [] (np al ag n.1 ag)) x)=No:=λx f=>by
  rw[(h.wG a).mem_iff]at f;obtain⟨p,hp,rfl⟩:=aM.1 f;have c:nv (rv [] (np al ag n.1 ag)) p.1=p.2:=by unfold nv;rw[E5 _ [] (h.Ci n.1 (λ_ ha=>ha) (pq h.rX)) p hp];rfl
  rw[c];exact(h.Px (h.vm a) (λ_ ha=>ha) hp).1
 exact(at2 _ m1 m2 s1 t1 s2 t2 ho (Ao d hd) (Ao e he)).2 g
end
end Dp
open Go Go.Sort Go.Proofs Go.Shelf Go.Pg
open fp (ki)
namespace Dp
def ay6{α:Type}{lt:α->α->Bool}:∀ {L:List α},(∀x∈L,lt x x=N2)->L.Pairwise (λx y=>lt x y=No/\lt y x=N2)->∀ {j:Nat} {y:α},L[j]?=Q1 y->L.countP (λx=>lt x y)=j
 | [],_,_,j,y,b=>by simp at b
 |a::L,c,hs,j,y,b=>by
  rw[aR]at hs;rw[kr];cases j
  grind[bE,ah,List.countP_eq_zero]
  rename_i j;rw[aF]at b;rw[ay6 (λx d=>c x (by simp[d])) hs.2 b,(hs.1 y (aH b)).1];rfl
section
variable {al:List b9} {ag:List ct} {fs:List Int} (h:fp al ag fs)
include h
theorem av6(id:Int):CP ((al,ag,fs),id)=Q1 (match nQ al id with|some n=>ki al ag n|none=>[]):=by
 have hN:=h.qF;have hA:=h.pA;unfold CP;simp only;rw[KP al ag fs id (by omega)];cases P:nQ al id with
 |none=>simp
 |some n=>
  have w:n.1=id:=by have:=db P;simpa using this
  subst w;have u:n∈al:=aX P;have hraw:=h.Ci n.1 (λ_ ha=>ha) (pq h.rX);obtain⟨f,hf⟩:∃f,f=nv (rv [] (np al ag n.1 ag)):=⟨_,rfl⟩;have Q:∀p∈np al ag n.1 ag,f p.1=p.2:=λp hp=>by
   rw[hf];unfold nv
   grind[E5]
  have g:=h.wG u;have m:=bL8 h u;rw[<-hf]at m;have hlen:=fp.Kz (al:=al) (ag:=ag) n.1 ag;obtain⟨R,z⟩:∃R,R=(np al ag n.1 ag).map (·.1):=⟨_,rfl⟩;have hRl:R.length<=512:=by rw[z];simp;omega
  have sec:∀d∈R,EK ((al,ag,fs),d)=Q1 (f d):=λd hd=>by rw[z]at hd;obtain⟨p,hp,rfl⟩:=aM.1 hd;grind[aQ7]
  have o:∀d∈R,uR n.2 (f d):=λd hd=>by rw[z]at hd;obtain⟨p,hp,rfl⟩:=aM.1 hd;rw[Q p hp];exact h.Px P (λ_ ha=>ha) hp
  have ho:d' n.2=No:=rS (h.tt u);rw[<-z]at g;simp only[bT,aw,bu];generalize hL:ki al ag n=L at g m⊢;have l:∀d,d∈L↔d∈R:=λd=>g.mem_iff;have B:∀ {j:Nat} {d:Int},L[j]?=Q1 d->(R.map f).countP (λx=>oo n.2 x (f d))=j:=λ{j d} hj=>by have hs:L.Pairwise (λx y=>oo n.2 (f x) (f y)=No/\oo n.2 (f y) (f x)=N2):=m.imp_of_mem λ{x y} v hy C=>⟨C,bT7 ho (o x ((l x).1 v)) (o y ((l y).1 hy)) C⟩;rw[List.countP_map,<-g.countP_eq];exact ay6 (lt:=λx y=>oo n.2 (f x) (f y)) (λx v=>Nl ho (o x ((l x).1 v))) hs hj
  refine mw (A:=List Int) ag (λi a=>((i:Int),a)) (λ_ _=>Q1 L) (λi a=>a=(np al ag n.1 (ag.take i)).map (·.1)/\a.length<=2*i) (by omega) ?_ ?_ [] ⟨rfl,by simp⟩;intro rec a ⟨M,_⟩;rw[cd,<-z]at M;subst M;simp only[kj,bu];refine mw (A:=List bs) a (λi b=>(b,(i:Int))) (λ_ _=>Q1 L) (λi b=>b=(a.take i).map f) (by omega) ?_ ?_ [] rfl;intro D b N;rw[cd]at N;simp only[kj,bu];refine Fq (λx=>∃j,j<=L.length/\x=L.take j) (λx=>L.length-x.length) (λ_=>Q1 L) ?_ ⟨0,by omega,by simp⟩ (by have:=g.length_eq;simp;omega);rintro E x ⟨j,hj,rfl⟩ ih;have hll:=g.length_eq;have S:b.length=a.length:=by rw[N];simp
  rw[cC,dp hj];by_cases hjl:j=L.length
  grind[jb]
  have s:j<L.length:=by omega
  have hLj:L[j]?=Q1 L[j]:=af s;rw[fB (by omega),b6];obtain⟨k0,hk0,hk1⟩:=aT ((l L[j]).1 (ay s));refine mw (A:=Unit) a (λi _=>(i:Int)) (λ_ _=>Q1 L) (λi _=>∃k,i<=k/\a[k]?=Q1 L[j]) (by omega) ?_ ?_ () ⟨k0,by omega,by grind⟩
  grind[bo]
  rintro G i _ d rest a7 ⟨k,hk,e⟩ hd hr;have r:=oU hd;have H:d∈a:=aH r;obtain⟨O,hj',hdj⟩:=aT ((l d).2 H);have q:=B (j:=O) (d:=d) (by grind);rw[<-N]at q;have hbi:b[i]?=Q1 (f d):=by grind
  rw[fB a7,b6];refine(aT4 n.2 b a.length S (by omega) i (f d) hbi (λc=>bif Eo (c=(j:Int))then a8 (bif Eo (0<=(i:Int))&&No then Q1 ()else Ld) λ_=>a8 (Option.map (λx=>x) a[((i:Nat):Int).toNat]?) λI=>a8 (j6 8 (L.take j) [I]) λJ=>E J else bif Eo ((i:Int)=aa.wrap ((a.length:Int)-1))then Q1 []else G (aa.wrap ((i:Int)+1)))).trans ?_;rw[q];by_cases ej:O=j;subst ej;have e0:Eo (0<=(i:Int))=No:=hT (by omega);have:=ih (L.take (O+1)) ⟨O+1,by omega,rfl⟩ (by simp;omega);simp only[l6,b6,e0,fB a7,bw,bT,aW,r,ai]
  grind[m9,bT,bQ]
  rw[ft (by omega),bu];have hne:k≠i:=λx=>by grind[aQ,dK]
  have hka:k<a.length:=by grind[cR,bo]
  rw[fx (by omega) (by omega),ft (by omega),bu,f' a7 (by omega)];exact hr () ⟨k,by omega,e⟩;intro D i b d rest a7 N hd hr;have r:=oU hd;have H:d∈a:=aH r
  grind[decide_eq_true,fB,bw,bT,aW,f',m9,bQ]
  intro rec i a x rest a7 ⟨M,hIl⟩ hd hr;have v:x∈ag:=ao (hd▸aJ ..);have hxi:=oU hd;have K:=h.num v;obtain⟨q3,t,h1,h2,h3,h4,h5⟩:=h.path v;have er:(np al ag n.1 (ag.take (i+1))).map (·.1)=a++((if x.2.1=n.1 then [x.1]else [])++(if x.2.2.1=n.1 then [-x.1]else [])):=by
   rw[bQ,hxi];unfold np;rw[dF,ez,M];congr 1
   grind[ju,ph]
  simp only[fB a7,b6,h0 hd,bT,f' a7 (by omega:ag.length<2^62),LX K]
  grind[decide_eq_true,m9,bT,decide_eq_false]
end
end Dp
open fp (ki k7 k3 l9)
namespace Dp
def sS(L:List Int):List Int:=(aN L.length).map λi=>-((L[(i+1)%L.length]?).getD 0)
def aW5(L:List Int):(sS L).length=L.length:=by simp[sS]
theorem QW:∀ {l c:List Int},l.Pairwise (·<·)->c.Pairwise (·<·)->(∀x,x∈l↔x∈c)->l=c
 | [],[],_,_,_=>rfl
 | [],b::c,_,_,h=>by have:=(h b).2 (by simp);simp at this
 |a::l,[],_,_,h=>by have:=(h a).1 (by simp);simp at this
 |a::l,b::c,h1,h2,h=>by
  rw[aR]at h1 h2;have d:a=b:=by
   have ha:=(h a).1 (by simp);have e:=(h b).2 (by simp)
   grind
  subst d;rw[QW h1.2 h2.2 λx=>?_]
  grind
def aQ4{l:List Int}(h:l.Nodup):(l.mergeSort λa b=>Eo (a<=b)).Pairwise (·<·):=by have h1:=(cP l (λa b=>Eo (a<=b))).nodup_iff.2 h;have h2:=List.pairwise_mergeSort (le:=λa b:Int=>Eo (a<=b)) (by simp;omega) (by simp;omega) l;exact(h2.and h1).imp λ{a b} h=>by grind
def He{l:List Int}(x:Int)(hl:l.length<2^62):Ib (l,x)=Q1 (Eo (x∈l)):=by
 unfold Ib;refine mP (A:=Unit) l (λi _=>(i:Int)) (λ_ rest=>Q1 (Eo (x∈rest))) (by omega) ?_ ?_ ()
 grind[decide_false]
 intro rec i _ y rest a7 hd a;have:=a ();simp only[fB a7,b6,h0 hd,bT,f' a7 hl,this]
 grind[decide_eq_true,decide_eq_false]
section
variable {al:List b9} {ag:List ct} {fs:List Int} (h:fp al ag fs)
include h
theorem Ww:(k7 al ag).Nodup:=by unfold fp.k7 fp.wF;rw[List.nodup_iff_pairwise_ne];refine dS.2 ⟨λl hl=>?_,cX.2 ?_⟩;obtain⟨n,c,rfl⟩:=aM.1 hl;exact h.E7 c;refine(cX.1 (pq h.vL)).imp_of_mem λ{a b} ha d f=>λx g y i e=>?_;subst e;have:=h.Mq ha d g i;subst this;omega
theorem aw5{d:Int}(hd:d∈k7 al ag):1<=d/\d<=1073741824\/-1073741824<=d/\d<=-1:=by rw[h.uP]at hd;obtain⟨a,ha,e|e⟩:=hd<;>have:=h.num ha<;>omega
theorem aJ8{n:b9}(b:n∈al):(sS (ki al ag n)).map (k3 al ag)=ki al ag n:=by
 have a:=h.E7 b;have key:=λe he=>h.Ap (n:=n) b (e:=e) he;generalize ki al ag n=L at *;refine List.ext_getElem (by simp[sS]) λi h1 h2=>?_;have hm:(i+1)%L.length<L.length:=d_ _ (by omega);simp only[sS,b_,List.getElem_range];rw[af hm,cA,key _ (ay hm),Go.Ab.Gt a hm];have e:((i+1)%L.length+L.length-1)%L.length=i:=by
  by_cases c:i+1=L.length
  grind[jv,cQ]
  rw[cQ (show i+1<L.length by omega),show i+1+L.length-1=i+L.length by omega,fU,cQ (by omega)]
 simp only[e]
theorem aX3{n:b9}(a:n∈al){e:Int}(he:e∈ki al ag n):-e∈sS (ki al ag n):=by
 obtain⟨i,a7,rfl⟩:=aT he;generalize ki al ag n=L at *;refine aM.2 ⟨(i+L.length-1)%L.length,gw.2 (d_ _ (by omega)),?_⟩;have e:((i+L.length-1)%L.length+1)%L.length=i:=by by_cases c:i=0;subst c;rw[cQ (show 0+L.length-1<L.length by omega),show 0+L.length-1+1=L.length by omega,jv];rw[show i+L.length-1=i-1+L.length by omega,fU,cQ (show i-1<L.length by omega),show i-1+1=i by omega,cQ a7]
 grind
theorem bM8:Hv (al,ag,fs)=Q1 (al.flatMap (λn=>sS (ki al ag n)),k7 al ag):=by
 have v:=h.qF;unfold Hv;have f:k7 al ag=al.flatMap (ki al ag):=by grind[fp.k7,fp.wF]
 rw[f];refine mw (A:=List Int×List Int) al (λi a=>(a.1,a.2,(i:Int))) (λa rest=>Q1 (a.1++rest.flatMap (λn=>sS (ki al ag n)),a.2++rest.flatMap (ki al ag))) (λi a=>a.1.length<=512*i/\a.2.length<=512*i) (by omega) ?_ ?_ ([],[]) ⟨by simp,by simp⟩
 grind
 intro rec i a x rest a7 ⟨p,q⟩ hd w;have g:x∈al:=ao (hd▸aJ ..);have r:=h.Mo g;simp only[fB a7,b6,h0 hd,bT,av6 h,h.vm g,f' a7 (by omega:al.length<2^62),bA];have k:∀y∈ki al ag x,y∈k7 al ag:=λy o=>bG.2 ⟨_,aK g,o⟩;have s:=aW5 (ki al ag x);generalize z:ki al ag x=L at *;refine mw (A:=List Int×List Int) L (λi b=>(b.1,b.2,(i:Int))) (λ_ _=>Q1 (a.1++(sS L++rest.flatMap (λn=>sS (ki al ag n))),a.2++(L++rest.flatMap (ki al ag)))) (λi b=>b.1=a.1++(sS L).take i/\b.2=a.2++L.take i) (by omega) ?_ ?_ a ⟨by simp,by simp⟩;rintro d b ⟨g1,g2⟩
 grind[cd,jb,aS,bm]
 rintro d j b y B hj ⟨g1,g2⟩ e l;have m:=oU e;have o:=aH m;have c:(j+1)%L.length<L.length:=d_ _ (by omega);have hz:L[(j+1)%L.length]?=Q1 L[(j+1)%L.length]:=af c;have t:=aw5 h (k _ (ay c));have C:b.1.length<=512*i+j:=by grind
 have D:b.2.length<=512*i+j:=by grind
 have u:512*i<=512*256:=by omega
 simp only[fB hj,b6,f' hj (by omega:L.length<2^62),h0 e,bT];rw[ft (by omega),bu,bT,show Int.tmod ((j+1:Nat):Int) (L.length:Int)=(((j+1)%L.length:Nat):Int)from rfl,lQ,hz,bT,fx (by omega) (by omega),m9 (by decide) (by simp;omega),bT,m9 (by decide) (by simp;omega),bT];refine l (b.1++[0-L[(j+1)%L.length]],b.2++[y]) ⟨?_,?_⟩
 grind[bQ,bm,sS,jF,ju]
 grind[bQ,bm]
theorem aZ0{F T:List Int}(cb:F.map (k3 al ag)=T)(dC:∀d∈k7 al ag,d∈F)(hl:F.length<=1000000){d:Int}(hd:d∈k7 al ag){m:Nat}(hm:0<m)(he:ot (k3 al ag) d m=d)(q:(lS (k3 al ag) d m).Nodup) :
  HW (F,T,d)=Q1 (lS (k3 al ag) d m):=by
 have f:∀k,ot (k3 al ag) d k∈k7 al ag:=vU (λd hd=>h.qK hd) hd;have t:m<=F.length:=by
  have:(lS (k3 al ag) d m).length<=F.length:=by
   refine(dx q ?_)
   grind[td]
  simpa[lS]using this
 have u:T.length=F.length:=by rw[<-cb];simp
 unfold HW;refine Fq (λx=>x.1=N2/\∃k,0<k/\k<=m/\x.2=lS (k3 al ag) d k) (λx=>m-x.2.length) (λ_=>Q1 (lS (k3 al ag) d m)) ?_ ⟨rfl,1,by omega,by omega,rfl⟩ (by simp;omega);rintro rec ⟨E,G⟩ ⟨l,k,v,w,r⟩ z;simp only at l r;subst l r;have hlen:(lS (k3 al ag) d k).length=k:=by simp[lS]
 simp only[hlen];rw[hT (by omega),b6];have b:(lS (k3 al ag) d k)[k-1]?=Q1 (ot (k3 al ag) d (k-1)):=by grind[lS,jF]
 refine mw (A:=Int) F (λi a=>((i:Int),a)) (λ_ _=>Q1 (lS (k3 al ag) d m)) (λi a=>ot (k3 al ag) d (k-1)∈F.take i->a=ot (k3 al ag) d k) (by omega) ?_ ?_ 0 (by simp);intro g a n;rw[cd]at n;have ha:=n (dC _ (f _));subst ha;simp only[kj,bu];by_cases c:ot (k3 al ag) d k=d;rw[hT c,b6];by_cases o:k=m;rw[o];exact b8 (av8 q (i:=k) (j:=0) (by omega) hm c) (by omega);have s:k≠m:=λe=>c (e▸he);rw[ft c,bu,m9 (by decide) (by simp[hlen];omega),bT,<-N4];exact z _ ⟨rfl,k+1,by omega,by omega,rfl⟩ (by simp[lS];omega);intro g i a x rest a7 n sX H;have B:=oU sX;have p:nth T (i:Int)=Q1 (k3 al ag x):=by grind[lQ]
 have C:Eo (0<=((k-1:Nat):Int))=No:=hT (by omega);have l:Eo (((k-1:Nat):Int)<(k:Int))=No:=hT (by omega);have D:aa.wrap ((k:Int)-1)=((k-1:Nat):Int):=by grind[fx]
 have I:ot (k3 al ag) d k=k3 al ag (ot (k3 al ag) d (k-1)):=by
  have:k=k-1+1:=by omega
  rw[this];rfl
 simp only[fB a7,b6,h0 sX,bT,D,C,l,bw,aW,b,ai,p,f' a7 (by omega:F.length<2^62)]
 grind[ot,k3,decide_eq_true,decide_eq_false,bQ,absurd]
end
end Dp
namespace Dp
def W0(x:bs):∀(l:List bs) (p:bs),oZ p (l++[x])=oZ p l+uA ((p::l).getLast (by simp)) x
 | [],p=>by simp[oZ]
 |q::l,p=>by simp only[cL,oZ,W0 x l q,gi];omega
def Hm:List bs->Int
 | []=>0
 |p::l=>oZ p l
def af6:∀l:List bs,Hm l.reverse=- Hm l
 | []=>rfl
 | [p]=>by simp[Hm,oZ]
 |p::q::r=>by
  have d:=af6 (q::r);rw[gU];have c:(q::r).reverse≠[]:=by simp
  have b:(q::r).reverse.getLast c=q:=by simp
  generalize(q::r).reverse=L at *;cases L;exact b8 rfl c;rename_i a L;rw[cL];show oZ a (L++[p])=_;rw[W0,b];show _=-(uA p q+oZ q r);have:oZ a L=-(oZ q r):=d;rw[this];simp only[uA];omega
def bU1{β:Type}(p0:bs)(l:List bs)(hl:l.length<=1000)(cu:ub p0)(hc:∀q∈l,ub q)(acc:Int)(ha:-(2^60)<=acc/\acc<=2^60)(K:Int->Option β) :
  rounds (α:=Int×Int) (β:=β) (λj b=>
    bif (Eo (b.2<((p0::l).length:Int)))then(
    a8 (nth (p0::l) (aa.wrap (b.2-(1:Int)))) λc=>
    a8 (nth (p0::l) b.2) λd=>
    a8 (nth (p0::l) b.2) λe=>
    a8 (nth (p0::l) (aa.wrap (b.2-(1:Int)))) λf=>
    j ((aa.wrap ((aa.wrap (b.1+(aa.wrap (c.1*d.2))))-(aa.wrap (e.1*f.2)))),(aa.wrap (b.2+(1:Int)))))else(
    K b.1)) (acc,(1:Int))=K (acc+oZ p0 l):=by
 refine(mw (A:=bs×Int) l (λi a=>(a.2,((i+1:Nat):Int))) (λa rest=>K (a.2+oZ a.1 rest)) (λi a=>(p0::l)[i]?=Q1 a.1/\ub a.1/\-(2^60)-(8796093022208*(i:Int))<=a.2/\a.2<=2^60+8796093022208*(i:Int)) (by omega) ?_ ?_ (p0,acc) ⟨rfl,cu,by simp;omega,by simp;omega⟩);intro rec a h;simp only[aC,kj,bu,oZ,e_];intro rec i a x rest a7 h hd o;obtain⟨h,hp,g1,g2⟩:=h;have m:(p0::l)[i+1]?=Q1 x:=by rw[aF];exact oU hd
 have k:x∈l:=ao (hd▸aJ ..);have g:=hc x k;have p:aa.wrap (((i+1:Nat):Int)-1)=(i:Int):=by rw[fx (by omega) (by omega)];omega
 have r:aa.wrap (((i+1:Nat):Int)+1)=((i+1+1:Nat):Int):=f' (n:=2000000) (by omega) (by omega);simp only[aC,fB (show i+1<l.length+1 by omega),b6,p,r,lQ,h,m,bT];obtain⟨u,a2⟩:=vI (A:=2097152) hp.1 hp.2.1 g.2.2.1 g.2.2.2;obtain⟨v,w⟩:=vI (A:=2097152) g.1 g.2.1 hp.2.2.1 hp.2.2.2;rw[fx (n:=a.1.1*x.2) (by omega) (by omega),fx (n:=x.1*a.1.2) (by omega) (by omega),fx (n:=a.2+a.1.1*x.2) (by omega) (by omega),fx (by omega) (by omega)];have s:a.2+a.1.1*x.2-x.1*a.1.2=a.2+uA a.1 x:=by unfold uA;omega
 rw[s];have t:uA a.1 x=a.1.1*x.2-x.1*a.1.2:=rfl;have:=o (x,a.2+uA a.1 x) ⟨m,g,by simp only;omega,by simp only;omega⟩;refine this.trans ?_;simp only[oZ];congr 1;omega
section
variable {al:List b9} {ag:List ct} {fs:List Int} (h:fp al ag fs)
include h
theorem aT9:HQ (al,ag,fs)=Q1 ((k7 al ag).mergeSort λa b=>Eo (a<=b)):=by
 have u:=h.pA;have he:(k7 al ag).mergeSort (λa b=>Eo (a<=b))=ag.reverse.map (λa=>-a.1)++ag.map (λa=>a.1):=by
  refine QW (aQ4 (Ww h)) ?_ λx=>?_;refine jt.2 ⟨?_,pq h.rX,?_⟩;rw[cX,List.pairwise_reverse];exact(cX.1 (pq h.rX)).imp λ{a b} x=>by omega
  intro x k y r;obtain⟨a,ha,rfl⟩:=aM.1 k;obtain⟨b,l,rfl⟩:=aM.1 r;have:=h.num (fg.1 ha);have:=h.num l;omega;rw[(cP _ _).mem_iff,h.uP,aY,aM,aM];constructor;rintro ⟨a,ha,rfl|rfl⟩;exact .inr ⟨a,ha,rfl⟩;exact .inl ⟨a,fg.2 ha,rfl⟩;rintro (⟨a,ha,rfl⟩|⟨a,ha,rfl⟩);exact⟨a,fg.1 ha,.inr rfl⟩;exact⟨a,ha,.inl rfl⟩
 rw[he];unfold HQ;simp only;rw[fx (by omega) (by omega)];have hk:=mw (A:=List Int) (β:=List Int) (S:=List Int×Int) ag.reverse (F:=λs c=>
  bif (Eo ((0:Int)<=c.2))then(
  a8 (nth ag c.2) λm=>
  a8 (j6 8 c.1 [(aa.wrap (0-m.1))]) λd=>
  s (d,(aa.wrap (c.2-(1:Int)))))else(
  rounds (α:=List (Int)×Int) (β:=List (Int)) (λt e=>
   bif (Eo (e.2<((ag).length:Int)))then(
   a8 (nth ag e.2) λf=>
   a8 (j6 8 e.1 [f.1]) λg=>
   t (g,(aa.wrap (e.2+(1:Int)))))else(
   Q1 e.1)) (c.1,(0:Int)))) (λi a=>(a,(ag.length:Int)-1-(i:Int))) (λa rest=>Q1 (a++(rest.map (λa=>-a.1)++ag.map (λa=>a.1)))) (λi a=>a.length=i) (by simp;omega) ?_ ?_ [] rfl
 simpa using hk;intro rec a q;simp only[jG]at q⊢;rw[ft (by omega),bu,dj,cG];refine mw (A:=List Int) ag (λi b=>(b,(i:Int))) (λb rest=>Q1 (b++rest.map (λa=>a.1))) (λi b=>b.length=a.length+i) (by omega) ?_ ?_ a (by simp);intro j b l;simp only[kj,bu,dj,bD];intro j i b x rest a7 l hd n;simp only[fB a7,b6,h0 hd,bT,f' a7 (by omega:ag.length<2^62)];rw[m9 (by decide) (by simp;omega),bT,n _ (by simp;omega)];simp;intro rec i a x rest a7 q hd n;have o:i<ag.length:=by simpa using a7
 have k:=oU hd;have p:x∈ag:=fg.1 (ao (hd▸aJ ..));rw[List.getElem?_reverse o]at k;simp only;rw[hT (by omega),b6,show(ag.length:Int)-1-(i:Int)=((ag.length-1-i:Nat):Int)by omega,lQ,k,bT,LX (h.num p),m9 (by decide) (by simp;omega),bT,fx (by omega) (by omega)];have:=n (a++[-x.1]) (by simp;omega);rw[show((ag.length-1-i:Nat):Int)-1=(ag.length:Int)-1-((i+1:Nat):Int)by omega];refine this.trans ?_;simp
theorem aq4:EI (al,ag,fs)=Q1 (l9 al ag,0):=by
 have H:=h.MJ;have w:=Ww h;have j:∀d∈k7 al ag,k3 al ag d∈k7 al ag:=λd hd=>h.qK hd;have inj:∀d∈k7 al ag,∀e∈k7 al ag,k3 al ag d=k3 al ag e->d=e:=λd hd e he x=>h.Ov hd he x;unfold EI;rw[aB6 h,bM8 h,aT9 h];simp only[bT,l6,aw,bu];have cb:(al.flatMap (λn=>sS (ki al ag n))).map (k3 al ag)=k7 al ag:=by
  have:k7 al ag=al.flatMap (ki al ag):=by unfold fp.k7 fp.wF;rw[List.flatMap_def]
  rw[this,ku];have key:∀l:List b9,(∀n∈l,n∈al)->l.flatMap (λa=>cm (k3 al ag) (sS (ki al ag a)))=l.flatMap (ki al ag):=by
   intro l
   induction l with
   |nil=>intro _;rfl
   |cons n l z =>intro hl;rw[bA,bA,z (λm hm=>hl m (by simp[hm])),aJ8 h (hl n (by simp))]
  exact key al λ_ x=>x
 have dC:∀d∈k7 al ag,d∈al.flatMap (λn=>sS (ki al ag n)):=λd hd=>by have h2:=h.JN hd;obtain⟨l,hl,q⟩:=bG.1 h2;obtain⟨n,k,rfl⟩:=aM.1 hl;refine dg.2 ⟨n,k,?_⟩;have:=aX3 h k q;rwa [iE]at this
 have r:(al.flatMap (λn=>sS (ki al ag n))).length=(k7 al ag).length:=by rw[<-cb];simp
 generalize al.flatMap (λn=>sS (ki al ag n))=F at cb dC r;have f:=cP (k7 al ag) (λa b=>Eo (a<=b));unfold fp.l9;generalize I:(k7 al ag).mergeSort (λa b=>Eo (a<=b))=L at f⊢;have B:L.length=(k7 al ag).length:=f.length_eq;refine mw (A:=List (List Int)) L (λi b=>(b,b.flatten,(i:Int))) (λb rest=>Q1 (qW (k3 al ag) (k7 al ag) rest b.flatten b,0)) (λi b=>b.length<=i/\ze (k3 al ag) (k7 al ag) b) (by omega) ?_ ?_ [] ⟨by simp,by simp,by simp⟩;intro rec b _;simp only[kj,bu,qW];intro rec i b x rest a7 ⟨C,g⟩ hd v;have p:x∈k7 al ag:=f.mem_iff.1 (ao (hd▸aJ ..));have D:b.flatten.length<=512:=by have:=dx g.nodup (λy s=>PL j inj g y s);omega
 simp only[fB a7,b6,h0 hd,bT,He x (by omega:b.flatten.length<2^62),f' a7 (by omega:L.length<2^62)];by_cases hs:x∈b.flatten;rw[hT hs,b6,v b ⟨by omega,g⟩]
 conv=>rhs;unfold qW
 rw[cr hs];rw[ft hs,bu];have hz:b.flatten++lS (k3 al ag) x 0=b.flatten:=by simp[lS]
 obtain⟨m,hm,he,hf,k⟩:=Nc j inj p (Rt j inj g) (PL j inj g) hs (pV (k7 al ag) b.flatten+1) 0 (by rw[hz];exact g.nodup) (by rw[hz];omega);rw[hz]at hf;have t:rn (k3 al ag) (pV (k7 al ag) b.flatten+1) b.flatten x []=(lS (k3 al ag) x m,b.flatten++lS (k3 al ag) x m):=hf;have o:=(dI.1 k).2.1;have E:m<=512:=by
  have:=dx o (λy s=>by
   obtain⟨i,_,rfl⟩:=td.1 s;exact vU j p i:∀y∈lS (k3 al ag) x m,y∈k7 al ag)
  simp[lS]at this;omega
 rw[aZ0 h cb dC (by omega) p hm he o];have G:(lS (k3 al ag) x m).length=m:=by simp[lS]
 rw[bT,m9 (by decide) (by omega),bT,m9 (by decide) (by simp;omega),bT];have e:b.flatten++lS (k3 al ag) x m=(b++[lS (k3 al ag) x m]).flatten:=by simp
 have u:ze (k3 al ag) (k7 al ag) (b++[lS (k3 al ag) x m]):=by
  refine⟨λc hc=>?_,by rw[<-e];exact k⟩;rcases aY.1 hc with hc|hc
  exact g.y5 c hc;simp at hc;exact⟨x,m,p,hm,he,hc⟩
 have:=v (b++[lS (k3 al ag) x m]) ⟨by simp;omega,u⟩;rw[e];refine this.trans ?_
 conv=>rhs;unfold qW
 rw[cc hs];simp only[t];rw[e]
theorem K0{d:Int}(hd:nY d):AT ((al,ag,fs),d)=Q1 (lT ag d):=by
 have e:=h.pA;obtain⟨d1,d2⟩:=hd;unfold AT lT;simp only;rw[fx (by omega) (by omega),Hd al ag fs d (by omega) (λa ha=>by have:=h.q4 ha;omega),Hd al ag fs (0-d) (by omega) (λa ha=>by have:=h.q4 ha;omega)];by_cases c:0<d;rw[hT c,b6,cc (by omega),show la d=d by unfold la;omega];cases px ag d with
 |none=>rfl
 |some a=>simp[c]
 rw[ft c,bu];by_cases b:d=0;subst b;rfl;rw[cc b,hT (by omega),b6,show la d=0-d by unfold la;omega];cases px ag (0-d)with
 |none=>rfl
 |some a=>simp[c]
theorem aU0{d:Int}(hd:nY d)(cu:d≠0)(ha:∃a∈ag,a.1=la d):HR ((al,ag,fs),d)=Q1 No:=by
 have j:=h.pA;obtain⟨d1,d2⟩:=hd;unfold HR;have key:H' ((al,ag,fs),d)=Q1 (match ag.find? (λb=>Eo (b.1=d)||Eo (b.1=-d))with|some b=>(b,!decide (b.1=d),No)|none=>((0,0,0,[],0,0),N2,N2)):=by
  unfold H';refine mP (A:=Unit) ag (λi _=>(i:Int)) (λ_ rest=>Q1 (match rest.find? (λb=>Eo (b.1=d)||Eo (b.1=-d))with|some b=>(b,!decide (b.1=d),No)|none=>((0,0,0,[],0,0),N2,N2))) (by omega) ?_ ?_ ();intro rec _;simp only[kj,bu,List.find?_nil];intro rec i _ x rest a7 c f;have:=f ();have g:aa.wrap (0-d)=-d:=by rw[fx (by omega) (by omega)];omega
  simp only[fB a7,b6,h0 c,bT,f' a7 (by omega:ag.length<2^62),this,g,da];by_cases c1:x.1=d;rw[hT c1];simp only[b6,hY];rw[hT c1];rfl;rw[ft c1,bu];by_cases c2:x.1=-d;rw[hT c2];simp only[b6,lp];rw[ft c1];rfl;rw[ft c2,bu];simp
 simp only[key,bT];obtain⟨a,ha,e⟩:=ha;cases hf:ag.find? (λb=>Eo (b.1=d)||Eo (b.1=-d))with
 |none =>have:=fH.1 hf a ha;unfold la at e;simp at this;omega
 |some b=>simp[cu]
theorem QJ{od:List Int}(hc:od.length<=512)(hm:∀d∈od,nY d/\d≠0/\∃a∈ag,a.1=la d):xh ((al,ag,fs),od)=Q1 (l5 al ag od):=by
 unfold xh;simp only;rw[ft (by omega),bu];refine(mw (A:=Int) od (λi a=>(a,(i:Int))) (λa rest=>Q1 (a+l5 al ag rest)) (λi a=>-(571746046443520*(i:Int))<=a/\a<=571746046443520*(i:Int)) (by omega) ?_ ?_ 0 ⟨by simp,by simp⟩).trans (by simp);intro rec a _;simp only[kj,bu,l5,e_];intro rec i a d rest a7 ⟨g1,g2⟩ hd p;have g:d∈od:=ao (hd▸aJ ..);obtain⟨k,cu,ha⟩:=hm d g;obtain⟨p0,l,hp,hl,r,cl⟩:=h.It ha;simp only[fB a7,b6,h0 hd,bT,aU0 h k cu ha,aw,bu,Tw h k,f' a7 (by omega:od.length<2^62)];obtain⟨qN,m,e,s,n,o⟩:∃qN m,mS al ag d=qN::m/\m.length<=65/\ub qN/\∀q∈m,ub q:=by
  have b:∀q∈mS al ag d,ub q:=λq e=>by
   unfold mS at e;rw[hp]at e;have:q∈p0::l:=by split at e;exact e;exact fg.1 e
   rcases aD.1 this with rfl|x
   exact r;exact cl q x
  have hlen:(mS al ag d).length=l.length+1:=by unfold mS;rw[hp];split<;>simp
  cases f:mS al ag d with
  |nil=>rw[f]at hlen;simp at hlen
  |cons qN m =>rw[f]at hlen b;exact⟨qN,m,rfl,by simp at hlen;omega,b qN (by simp),λq e=>b q (by simp[e])⟩
 have j:vi al ag d=oZ qN m:=by
  have t:oZ qN m=Hm (mS al ag d):=by rw[e];rfl
  rw[t];unfold vi mS;rw[hp];simp only[cA];by_cases c:0<d;rw[cc (by omega),cr c];rfl;rw[cr (by omega),cc c,af6];rfl
 rw[e];refine(bU1 qN m (by omega) n o a (by omega) (λA=>rec (A,((i+1:Nat):Int)))).trans ?_;obtain⟨u,v⟩:=Nd m qN n o;rw[p (a+oZ qN m) (by omega),l5,j];congr 1;omega
end
end Dp
namespace Dp
theorem Q8{d:Int}(hd:nY d):zi d=Q1 (la d):=by
 obtain⟨h1,h2⟩:=hd
 grind[zi,fx,yP,la]
def QN{a b p:bs}(ha:d' a=No)(c:d' b=No)(hp:d' p=No):zh (a,b,p)=Q1 (l7 a b p):=by
 obtain⟨⟨g,h⟩,i,j⟩:=BY ha c;obtain⟨⟨k,l⟩,d,f⟩:=BY ha hp;have c1:=vR (a:=b.1-a.1) (b:=p.2-a.2) (m:=4194304) (n:=4194304) (by omega) (by omega) (by omega) (by omega);have c2:=vR (a:=p.1-a.1) (b:=b.2-a.2) (m:=4194304) (n:=4194304) (by omega) (by omega) (by omega) (by omega);unfold zh;simp only[bT];rw[fx (n:=b.1-a.1) (by omega) (by omega),fx (n:=p.2-a.2) (by omega) (by omega),fx (n:=p.1-a.1) (by omega) (by omega),fx (n:=b.2-a.2) (by omega) (by omega),fx (n:=(b.1-a.1)*(p.2-a.2)) (by omega) (by omega),fx (n:=(p.1-a.1)*(b.2-a.2)) (by omega) (by omega),fx (by omega) (by omega)];have e:(b.1-a.1)*(p.2-a.2)-(p.1-a.1)*(b.2-a.2)=fr a b p:=by grind[fr,Int.mul_comm]
 rw[e]
 grind[te,decide_eq_true,decide_eq_false]
def bc6{a b p:bs}(ha:d' a=No)(d:d' b=No)(hp:d' p=No):EZ (a,b,p)=Q1 (mc a b p):=by
 unfold EZ;simp only[QN ha d hp,bT,KS,yP,mc,ha,d,hp,cZ,sU];have e:Eo (l7 a b p=0)=Eo (fr a b p=0):=by apply decide_eq_decide.2;rcases te ha d hp with⟨c,s⟩|⟨c,s⟩|⟨c,s⟩<;>omega
 grind[fr]
theorem ah7{a b p:bs}(ha:d' a=No)(d:d' b=No)(hp:d' p=No):l7 b a p=- l7 a b p:=by
 have e:fr b a p=- fr a b p:=by unfold fr;grind
 rcases te ha d hp with⟨c,s⟩|⟨c,s⟩|⟨c,s⟩<;>rcases te d ha hp with⟨f,s'⟩|⟨f,s'⟩|⟨f,s'⟩<;>omega
theorem aq9{q a b:bs}(c:d' q=No)(ha:d' a=No)(d:d' b=No):Go.Ab.pg q a b=yZ q a b:=by grind[ah7,Go.Ab.pg,yZ,decide_eq_true,l7,decide_eq_false]
theorem aL4{q a b:bs}(c:d' q=No)(ha:d' a=No)(d:d' b=No):Go.Ab.pg q b a=Go.Ab.pg q a b:=by grind[ah7,Go.Ab.pg,ji]
def bE1(a b p:bs):mc b a p=mc a b p:=by grind[mc,d',fr,sU,iX,iY]
def VX(g:bs->bs->Int)(x:bs):∀(l:List bs) (p:bs),oN g p (l++[x])=oN g p l+g ((p::l).getLast (by simp)) x
 | [],p=>by simp[oN]
 |q::l,p=>by simp only[cL,oN,VX g x l q,gi];omega
def W2(q x:bs):∀(l:List bs) (p:bs),qa q p (l++[x])=(qa q p l||mc ((p::l).getLast (by simp)) x q)
 | [],p=>by simp[qa]
 |y::l,p=>by simp only[cL,qa,W2 q x l y,gi,kX]
theorem Oc{q:bs}(d:d' q=No):∀ {l:List bs},(∀p∈l,d' p=No)->pY q l.reverse=pY q l
 | [],_=>rfl
 | [p],_=>rfl
 |p::y::r,hl=>by
  have e:=Oc d (l:=y::r) (λx f=>hl x (by simp[f]));rw[gU];have c:(y::r).reverse≠[]:=by simp
  have b:(y::r).reverse.getLast c=y:=by simp
  generalize(y::r).reverse=L at *;cases L;exact b8 rfl c;rename_i a L;rw[cL];show oN (nG q) a (L++[p])=nG q p y+oN (nG q) y r;rw[VX,b];have:oN (nG q) a L=oN (nG q) y r:=e
  grind[nG,aL4]
theorem aD6{q:bs}:∀ {l:List bs},pB q l.reverse=pB q l
 | []=>rfl
 | [p]=>rfl
 |p::y::r=>by
  have d:=aD6 (q:=q) (l:=y::r);rw[gU];have c:(y::r).reverse≠[]:=by simp
  have b:(y::r).reverse.getLast c=y:=by simp
  generalize(y::r).reverse=L at *;cases L;exact b8 rfl c;rename_i a L;rw[cL];show qa q a (L++[p])=(mc p y q||qa q y r);rw[W2,b];have:qa q a L=qa q y r:=d;rw[this,bE1,ji]
def bT6{q p0:bs}{l:List bs}(hl:l.length<=100000)(j:d' q=No)(cu:d' p0=No)(o:∀p∈l,d' p=No)(n:Int)(K:Bool->Option Bool) :
  rounds (α:=Int×Bool) (β:=Bool) (λe b=>
   bif (Eo (b.1<((p0::l).length:Int)))then(
   a8 (nth (p0::l) (aa.wrap (b.1-(1:Int)))) λc=>
   a8 (nth (p0::l) b.1) λd=>
   a8 (EZ (c,d,q)) λh=>
   bif h then(
    Q1 N2)else(
    bif (Eo (d.2<c.2))then(
    bif (Eo (d.2<=q.2))then(
     bif (Eo (q.2<c.2))then(
     a8 (zh (d,c,q)) λf=>
     bif (Eo ((0:Int)<f))then(
      e ((aa.wrap (b.1+(1:Int))),(!(b.2))))else(
      e ((aa.wrap (b.1+(1:Int))),b.2)))else(
     e ((aa.wrap (b.1+(1:Int))),b.2)))else(
     e ((aa.wrap (b.1+(1:Int))),b.2)))else(
    bif (Eo (c.2<=q.2))then(
     bif (Eo (q.2<d.2))then(
     a8 (zh (c,d,q)) λf=>
     bif (Eo ((0:Int)<f))then(
      e ((aa.wrap (b.1+(1:Int))),(!(b.2))))else(
      e ((aa.wrap (b.1+(1:Int))),b.2)))else(
     e ((aa.wrap (b.1+(1:Int))),b.2)))else(
     e ((aa.wrap (b.1+(1:Int))),b.2)))))else(
   K b.2)) ((1:Int),Eo (n%2=1))=bif pB q (p0::l)then Q1 N2 else K (Eo ((n+pY q (p0::l))%2=1)):=by
 refine mw (A:=bs×Int) l (λi a=>(((i+1:Nat):Int),Eo (a.2%2=1))) (λa rest=>bif qa q a.1 rest then Q1 N2 else K (Eo ((a.2+oN (nG q) a.1 rest)%2=1))) (λi a=>(p0::l)[i]?=Q1 a.1/\d' a.1=No) (by omega) ?_ ?_ (p0,n) ⟨rfl,cu⟩;intro rec a _;simp only[aC,kj,bu,qa,oN,e_];intro rec i a x rest a7 ⟨r,hp⟩ hd m;have k:(p0::l)[i+1]?=Q1 x:=by rw[aF];exact oU hd
 have g:=o x (ao (hd▸aJ ..));have s:aa.wrap (((i+1:Nat):Int)-1)=(i:Int):=by grind[fx]
 have t:aa.wrap (((i+1:Nat):Int)+1)=((i+1+1:Nat):Int):=f' (n:=2000000) (by omega) (by omega);simp only[aC,fB (show i+1<l.length+1 by omega),b6,s,t,lQ,r,k,bT,bc6 hp g j,QN hp g j,QN g hp j,qa,oN];cases mc a.1 x q with
 |true=>simp only[b6,hY]
 |false=>
  simp only[bu,cY];have u:=m (x,a.2) ⟨k,g⟩;have v:=m (x,a.2+1) ⟨k,g⟩
  grind[cT,decide_eq_false_iff_not,aq9,nG,yZ,qa,oN,l7,gQ]
section
variable {al:List b9} {ag:List ct} {fs:List Int} (h:fp al ag fs)
include h
theorem S4{d:Int}(hd:nY d):CW ((al,ag,fs),d)=Q1 (mS al ag d):=by grind[an8,CW,Q8,bT,Q7,mS,pathOf,la,decide_eq_false,Ka]
theorem Qb{d:Int}(ha:∃a∈ag,a.1=la d):∃p0 l,mS al ag d=p0::l/\l.length<=65/\d' p0=No/\(∀p∈l,d' p=No)/\∃mJ b,pathOf al ag (la d)=Q1 (mJ::b)/\(mS al ag d=mJ::b\/mS al ag d=(mJ::b).reverse):=by
 obtain⟨mJ,b,hp,hl,f,cl⟩:=h.It ha;have g:∀p,ub p->d' p=No:=λp hp=>(wH p).2 hp;have hc:mS al ag d=mJ::b\/mS al ag d=(mJ::b).reverse:=by grind[mS]
 have c:∀q∈mS al ag d,d' q=No:=λq i=>by grind
 have hlen:(mS al ag d).length=b.length+1:=by grind
 cases e:mS al ag d<;>grind[mS]
theorem aJ6{m:List (Int×List bs)}(hm:∀a∈ag,fh gd a.1 m=pathOf al ag a.1){c:List Int}(hc:c.length<=1000000)(hd:∀d∈c,nY d/\∃a∈ag,a.1=la d){q:bs}(k:d' q=No) :
  CN ((al,ag,fs),c,q)=Q1 (nF m c q):=by
 have v:=h.pA;have key:CN ((al,ag,fs),c,q)=Q1 (Eo ((∀d∈c,pB q (mS al ag d)=N2)/\((0:Int)+eb c λd=>pY q (mS al ag d))%2=1)):=by
  unfold CN;refine mw (A:=Int) c (λi n=>(Eo (n%2=1),(i:Int))) (λn rest=>Q1 (Eo ((∀d∈rest,pB q (mS al ag d)=N2)/\(n+eb rest λd=>pY q (mS al ag d))%2=1))) (λ_ _=>True) (by omega) ?_ ?_ 0 trivial;intro rec n _;simp only[kj,bu,eb,e_];congr 1
  grind
  intro rec i n d rest a7 _ g o;obtain⟨j,ha⟩:=hd d (ao (g▸aJ ..));obtain⟨p0,l,hp,hl,n0,nl,_⟩:=Qb h ha;simp only[fB a7,b6,h0 g,bT,S4 h j,hp,f' a7 (by omega:c.length<2^62)];refine(bT6 (by omega) k n0 nl n (λb=>rec (b,((i+1:Nat):Int)))).trans ?_;rw[o _ trivial];cases ho:pB q (p0::l)with
  |true=>grind[decide_eq_false_iff_not]
  |false =>rw[bu];congr 1;apply decide_eq_decide.2;simp only[aD,forall_eq_or_imp,hp,ho,qj,eb,gQ]
 rw[key];congr 1;rw[dm,decide_eq_true_iff,FU,gv];have same:∀d∈c,pB q (mS al ag d)=pB q ((fh gd (la d) m).getD [])/\pY q (mS al ag d)=pY q ((fh gd (la d) m).getD []):=λd f=>by
  obtain⟨j,a,ha,e⟩:=hd d f;obtain⟨p0,l,hp,hl,n0,nl,mJ,w,p,r⟩:=Qb h ⟨a,ha,e⟩
  grind[fh,la,aD6,Oc,mS]
 have s:(∀d∈c,pB q (mS al ag d)=N2)↔(∀d∈c,pB q ((fh gd (la d) m).getD [])=N2) :=⟨λt d f=>by grind,λt d f=>by grind⟩;have u:(eb c λd=>pY q (mS al ag d))=eb c λd=>pY q ((fh gd (la d) m).getD []):=ns λd f=>(same d f).2;rw[s,u]
end
end Dp
open Classical
namespace Dp
section
variable {al:List b9} {ag:List ct} {fs:List Int} (h:fp al ag fs)
include h
theorem X8{r:List fy}(b:my al ag ag=Q1 r){m:List (Int×List bs)}(hm:∀a∈ag,fh gd a.1 m=pathOf al ag a.1){n:b9}(i:n∈al){e:Int}(he:e∈ki al ag n){C:List Int}(j:C∈l9 al ag)(hc:0<l5 al ag C){d:Int}(hd:d∈C)(l:(h.mD b).mj (mE al ag d) (mE al ag e)):nF m C n.2=N2:=by
 cases o:nF m C n.2 with
 |false=>rfl
 |true=>
  exfalso;have f:d' n.2=No:=rS (h.tt i);have hO:=h.outer b j hc hd;have u:=(h.tO b i he).1;have p:=(h.tO b i he).2.1;have t:=h.OJ b hm j ((FU m _ C).1 o).1;have g:((m8 r).e7 (h.j8 b)).L ((h.mD b).mv C) (mE al ag e)=1:=by rw[h.Ox b i he λk hk hs=>(h.mD b).Bw (t k hk hs)];exact h.MT b f hm j hc o
  have:=hO.own _ l;rw[g]at this;have s:(h.mD b).c (mE al ag e)=C:=by by_cases q:(h.mD b).c (mE al ag e)=C;exact q;rw[tk q]at this;cases this
  grind[mE]
theorem aF1{r:List fy}(b:my al ag ag=Q1 r){m:List (Int×List bs)}(hm:∀a∈ag,fh gd a.1 m=pathOf al ag a.1){n q:b9}(p:n∈al)(f:q∈al){e s:Int}(he:e∈ki al ag n)(g:s∈ki al ag q)(j:(h.mD b).mj (mE al ag e) (mE al ag s)){C:List Int}(i:C∈l9 al ag)(hc:0<l5 al ag C) :
  nF m C n.2=nF m C q.2:=by
 by_cases o:∃d∈C,(h.mD b).mj (mE al ag d) (mE al ag e);obtain⟨d,hd,o⟩:=o;rw[X8 h b hm p he i hc hd o,X8 h b hm f g i hc hd (Net.nK.oc _ o j)];have no:∀d∈C,¬(h.mD b).mj (mE al ag d) (mE al ag e):=λd hd l=>o ⟨d,hd,l⟩;have t:∀d∈C,¬(h.mD b).mj (mE al ag d) (mE al ag s):=λd hd l=>o ⟨d,hd,Net.nK.oc _ l (Net.nK.xC _ j)⟩;have o1:=h.Xl b p he hm i no;have o2:=h.Xl b f g hm i t;have nq:=h.OJ b hm i o1;have z2:=h.OJ b hm i o2;have u:=h.MU b (at':=n.2) (rS (h.tt p)) hm i o1;have w:=h.MU b (at':=q.2) (rS (h.tt f)) hm i o2;have l2:=h.Ox b p he (c:=C) λk hk hs=>(h.mD b).Bw (nq k hk hs);have mi:=h.Ox b f g (c:=C) λk hk hs=>(h.mD b).Bw (z2 k hk hs);have g1:=h.tO b p he;have g2:=h.tO b f g;have v:=(h.mD b).Bd ((m8 r).w8 (h.j8 b)) C j g1.1
 grind[mE]
theorem NW{n:b9}(b:n∈al){e:Int}(he:e∈ki al ag n):(mS al ag e)[0]?=Q1 n.2:=by
 obtain⟨a,ha,hc⟩:=(h.zF b).1 he;obtain⟨f,t,h1,h2,d,_⟩:=h.path ha;have g:=h.num ha;unfold mS;rcases hc with⟨c,rfl⟩|⟨c,rfl⟩
 rw[show la a.1=a.1 by unfold la;omega,d,cr (by omega)];rw[c,h.vm b]at h1;cases h1;rfl;rw[show la (-a.1)=a.1 by unfold la;omega,d,cc (by omega)];rw[c,h.vm b]at h2;cases h2;simp
theorem Og{m:List (Int×List bs)}(hm:∀a∈ag,fh gd a.1 m=pathOf al ag a.1){D:List Int}(g:D∈l9 al ag):∃q,(mS al ag (D.headD 0))[0]?=Q1 q/\d' q=No/\d' (rq m D)=No/\∀C∈l9 al ag,0<l5 al ag C->nF m C q=nF m C (rq m D):=by
 obtain⟨r,j⟩:=h.j7;obtain⟨d1,yG⟩:=h.Dg g;have hd:D.headD 0∈D:=by cases D;simp at yG;rename_i x l;simp
 have b:=h.zS g hd;obtain⟨l,hl,i⟩:=bG.1 b;obtain⟨t,c,rfl⟩:=aM.1 hl;obtain⟨d,k,n,p,e,he,hp,f,o⟩:=h.bi4 j hm g;refine⟨_,NW h c i,rS (h.tt c),f,λC s hc=>?_⟩;rw[hp];refine(aF1 h j hm p c he i ?_ s hc).symm;refine Net.nK.oc _ o (h.VS j g k _ ?_ (h.MY b j));show wh al ag (mo (mE al ag (D.headD 0)))=D;rw[h.BD b];exact h.Iu g hd
end
def af0{m:List (Int×List bs)}{p q:bs}{L:List kI}:∀(r:List kI) (i b:Nat),(∀x∈r,nF m x.2.1 p=nF m x.2.1 q)->rz m p L r i b=rz m q L r i b
 | [],_,_,_=>rfl
 |x::r,i,b,a=>by unfold rz;rw[a x (by simp)];exact af0 r _ _ λy c=>a y (by simp[c])
def aI6{m:List (Int×List bs)}{p q:bs}{L:List kI}(a:∀x∈L.tail,nF m x.2.1 p=nF m x.2.1 q):oI m L p=oI m L q:=af0 _ _ _ a
def bX4{m:List (Int×List bs)}{q:bs}{L:List kI}(hk:oI m L q=0):∀x∈L.tail,nF m x.2.1 q=N2:=by
 have:=NF (m:=m) (at':=q) (L:=L) L.tail [] 0 rfl (br ⟨rfl,by simp⟩);rw[cG,show rz m q L L.tail (([]:List kI).length+1) 0=0 from hk]at this;rcases this with⟨_,h2⟩|⟨y,_,h2,_⟩
 exact h2;omega
def m_(al:List b9)(ag:List ct):List (List Int):=(l9 al ag).filter λc=>Eo (0<l5 al ag c)
def xn(al:List b9)(ag:List ct):List (List Int):=(l9 al ag).filter λc=>!decide (0<l5 al ag c)
def q8(al:List b9)(ag:List ct)(q:bs):List Int:=((m_ al ag).find? λc=>nF (l8 al ag) c q&&(m_ al ag).all λa=>!nF (l8 al ag) a q||Eo (l5 al ag c<=l5 al ag a)).getD []
def pL(al:List b9)(ag:List ct)(outs:List (List Int)):List kI:=(0,[],[],[])::outs.map λc=>(l5 al ag c,c,[],[])
section
variable {al:List b9} {ag:List ct} {fs:List Int} (h:fp al ag fs)
include h
theorem SC{c:List Int}{q:bs}(g:d' q=No)(hc:c∈m_ al ag)(he:nF (l8 al ag) c q=No)(hl:∀b∈m_ al ag,nF (l8 al ag) b q=No->l5 al ag c<=l5 al ag b):q8 al ag q=c:=by
 have hm:∀a∈ag,fh gd a.1 (l8 al ag)=pathOf al ag a.1:=λa ha=>h.D1 ha;unfold q8;have xO:∀x:List Int,(nF (l8 al ag) x q&&(m_ al ag).all λb=>!nF (l8 al ag) b q||Eo (l5 al ag x<=l5 al ag b))=No↔nF (l8 al ag) x q=No/\∀b∈m_ al ag,nF (l8 al ag) b q=No->l5 al ag x<=l5 al ag b:=λx=>by grind[aj,nF,l8]
 cases hf:(m_ al ag).find? λc=>nF (l8 al ag) c q&&(m_ al ag).all λb=>!nF (l8 al ag) b q||Eo (l5 al ag c<=l5 al ag b)with
 |none=>grind[fH,absurd]
 |some x=>
  have i:=aX hf;have d:=db hf;obtain⟨j,k⟩:=(xO x).1 d;rw[cA];refine dW λe=>?_;have f:=aU.1 i;have a2:=aU.1 hc;have:=h.bh6 g hm f.1 a2.1 e (pK f.2) (pK a2.2) j he
  grind
theorem aC5{q:bs}(hl:∀c∈m_ al ag,nF (l8 al ag) c q=N2):q8 al ag q=[]:=by grind[q8,fH]
theorem aH9{outs:List (List Int)}(hp:∀c,c∈outs↔c∈m_ al ag){q:bs}(f:d' q=No):([]::outs)[oI (l8 al ag) (pL al ag outs) q]?=Q1 (q8 al ag q):=by
 cases hk:oI (l8 al ag) (pL al ag outs) q with
 |zero =>have:=bX4 hk;rw[aC5 h λc hc=>this (l5 al ag c,c,[],[]) (aK ((hp c).2 hc))];rfl
 |succ k=>
  obtain⟨y,a,he,hl⟩:=bR7 hk;unfold pL at a;rw[aF,aO]at a;cases hc:outs[k]? with
  |none=>rw[hc]at a;cases a
  |some c =>rw[hc]at a;cases a;rw[aF,hc,SC h f ((hp c).1 (aH hc)) he λb d e=>hl (l5 al ag b,b,[],[]) (aK ((hp b).2 d)) e]
end
end Dp
namespace Dp
def V5{α β:Type}{F:(α->Option β)->α->Option β}(I:α->Prop)(a:α->Nat)(P:Option β->Prop)(h:∀rec x,I x->(∀y,I y->a y<a x->P (rec y))->P (F rec x)){x:α}(b:I x)(hm:a x<2^100):P (rounds F x):=by
 have key:∀(n:Nat) (x:α),I x->a x<n->P (iter F n x):=by
  intro n
  induction n with
  |zero=>intro x _ h;omega
  |succ n c =>intro x a7 hm;exact h _ x a7 λy d e=>c y d (by omega)
 exact key many x b (dL hm zV)
def vB{S β α A:Type}(xs:List α){F:(S->Option β)->S->Option β}(st:Nat->A->S)(P:Option β->Prop)(I:Nat->A->Prop)(hl:xs.length<2^100)
  (c:∀rec a,I xs.length a->P (F rec (st xs.length a))) (b:∀rec i a x rest,i<xs.length->I i a->xs.drop i=x::rest->(∀e,I (i+1) e->P (rec (st (i+1) e)))->P (F rec (st i a))) (a:A) (ha:I 0 a):P (rounds F (st 0 a)):=by
 have key:∀(k i n:Nat) (a:A),i<=xs.length->k=xs.length-i->k<n->I i a->P (iter F n (st i a)):=by
  intro k
  induction k with
  |zero=>
   intro i n a a7 hk h f;have:i=xs.length:=by omega
   subst this;cases n;omega;rename_i n;exact c _ a f
  |succ k j=>
   intro i n a a7 hk h f;cases n;omega;rename_i n;have d:i<xs.length:=by omega
   exact b _ i a xs[i] _ d f (bq d) λe g=>j (i+1) n e (by omega) (by omega) (by omega) g
 exact key xs.length 0 many a (Nat.zero_le _) (by omega) (dL hl zV) ha
theorem as3{a b:Int}(ha:nY a)(c:nY b):∃r,EF (a,b)=Q1 r:=by unfold EF;simp only[Q8 ha,Q8 c,bT];exact sn ⟨_,rfl⟩ (sn ⟨_,rfl⟩ ⟨_,rfl⟩)
theorem bm8{c:List Int}(hl:c.length<=1000000)(hc:c≠[])(hd:∀d∈c,nY d):∃k,C0 c=Q1 k/\nY k:=by
 cases c;exact b8 rfl hc;rename_i d r;unfold C0;have e:nth (d::r) (0:Int)=Q1 d:=by rw[show(0:Int)=((0:Nat):Int)by rfl,lQ];rfl
 rw[e,bT];refine vB (A:=Int) (d::r) (λi a=>((i:Int),a)) (λo=>∃k,o=Q1 k/\nY k) (λ_ a=>nY a) (by omega) ?_ ?_ d (hd d (by simp))
 grind
 intro rec i a x rest a7 ha b f;have g:=hd x (ao (b▸aJ ..))
 grind[as3,fB,h0,bT,f']
def swap_perm{α:Type}{l:List α}{j:Nat}{c:α}(hj:0<j)(hl:j<l.length):((l.set j (l[j-1]'(by omega))).set (j-1) c).Perm (l.set j c):=by
 obtain⟨A,x,y,B,e,a⟩:∃A x y B,l=A++x::y::B/\A.length=j-1:=by
  refine⟨l.take (j-1),l[j-1],l[j],l.drop (j+1),?_,by simp;omega⟩
  grind[dE,bq]
 subst e;have ex:(A++x::y::B)[j-1]'(by omega)=x:=by simp[List.getElem_append,a]
 rw[ex];have s1:∀z:α,(A++x::y::B).set j z=A++x::z::B:=λz=>by rw[eX j z (by omega),show j-A.length=1 by omega];rfl
 rw[s1,s1,eX _ _ (by omega),show j-1-A.length=0 by omega,List.set_cons_zero];exact(List.Perm.swap ..).append_left A
section
variable {al:List b9} {ag:List ct} {fs:List Int} (h:fp al ag fs)
include h
theorem w7{c:List Int}(hc:c∈l9 al ag):c≠[]/\c.length<=512/\∀d∈c,nY d/\d≠0/\∃a∈ag,a.1=la d:=h.wK.od c hc
theorem aO6:∃outs,EJ (al,ag,fs)=Q1 outs/\outs.Perm (m_ al ag):=by
 have E:=h.wK.len;unfold EJ;rw[aq4 h];simp only[bT];have n:∀c∈l9 al ag,∃k,C0 c=Q1 k/\nY k:=λc hc=>by
  obtain⟨c1,c2,Q⟩:=w7 h hc
  grind[bm8]
 have f:∀c∈l9 al ag,xh ((al,ag,fs),c)=Q1 (l5 al ag c):=λc hc=>by grind[w7,QJ]
 unfold m_;generalize l9 al ag=cs at *;refine vB (A:=List (List Int)) cs (λi a=>(a,(i:Int))) (λo=>∃outs:List (List Int),o=Q1 outs/\outs.Perm (cs.filter λc=>Eo (0<l5 al ag c))) (λi a=>a.Perm ((cs.take i).filter λc=>Eo (0<l5 al ag c))) (by omega) ?_ ?_ [] (by simp)
 grind[cd]
 intro rec i a c rest a7 z hd G;have q:=oU hd;have hc:c∈cs:=aH q;have H:a.length<=i:=by
  have h1:=z.length_eq
  grind[bn,l5,List.length_take_le]
 have B:∀x∈a,x∈cs:=λx I=>js (aU.1 (z.mem_iff.1 I)).1;have J:(cs.take (i+1)).filter (λc=>Eo (0<l5 al ag c))=(cs.take i).filter (λc=>Eo (0<l5 al ag c))++(if 0<l5 al ag c then [c]else []):=by grind[bQ,l5]
 simp only[fB a7,b6,h0 hd,bT,f c hc,f' a7 (by omega:cs.length<2^62)];by_cases R:0<l5 al ag c;rw[ft (by omega),bu,m9 (by decide) (by simp;omega),bT];obtain⟨S,r,s⟩:=n c hc;simp only[r,bT];refine V5 (λx=>∃j:Nat,x.2=(j:Int)/\j<=a.length/\x.1.length=a.length+1/\(∀y∈x.1,y∈cs)/\(x.1.set j c).Perm (a++[c])) (λx=>x.2.toNat) (λo=>∃outs:List (List Int),o=Q1 outs/\outs.Perm (cs.filter λc=>Eo (0<l5 al ag c))) ?_ ⟨a.length,rfl,by omega,by simp,?_,?_⟩ (by simp;omega);rintro C ⟨l,jj⟩ ⟨j,e,hj,t,p,hp⟩ K;simp only at e t p hp;subst e;have fin:∀o,o=rec (l.set j c,((i+1:Nat):Int))->∃outs,o=Q1 outs/\outs.Perm (cs.filter λc=>Eo (0<l5 al ag c)):=λo ho=>by
  rw[ho];refine G (l.set j c) ?_
  grind
 have M:Eo (0<=(j:Int))=No:=hT (by omega);have d:j<l.length:=by omega
 have D:qI l j (λx y=>y) c=Q1 (l.set j c):=by unfold qI;rw[af d]
 by_cases u:0<j;have g:j-1<l.length:=by omega
 obtain⟨k2,v,w⟩:=n _ (p _ (ay g));obtain⟨b,N⟩:=as3 s w;have O:aa.wrap ((j:Int)-1)=((j-1:Nat):Int):=by grind[fx]
 have P:Eo (0<=((j-1:Nat):Int))=No:=hT (by omega);simp only[hT (by omega:(0:Int)<(j:Int)),b6,O,M,P,fB g,fB d,bw,bT,aW,af g,ai,v,N];cases b
 grind[bT]
 simp only[b6];have m:qI l j (λx y=>y) l[j-1]=Q1 (l.set j l[j-1]):=by unfold qI;rw[af d]
 rw[m,bT];refine K _ ⟨j-1,rfl,by omega,by simp;omega,λy hy=>?_,(swap_perm u d).trans hp⟩ (by simp;omega)
 grind[List.mem_or_eq_of_mem_set,ay]
 grind[decide_eq_false,fB,bw,bT,aW]
 grind
 grind[eX,jH]
 grind[decide_eq_true]
theorem BT{c:List Int}(hc:c∈m_ al ag):c∈l9 al ag/\0<l5 al ag c:=by
 have:=aU.1 hc
 grind
theorem ax5{outs:List (List Int)}(ho:∀c∈outs,c∈m_ al ag)(hl:outs.length<=512){q:bs}(p:d' q=No):AM ((al,ag,fs),outs,q)=Q1 ((oI (l8 al ag) (pL al ag outs) q:Int)-1):=by
 have hm:∀a∈ag,fh gd a.1 (l8 al ag)=pathOf al ag a.1:=λa ha=>h.D1 ha;have d:∀c∈outs,CN ((al,ag,fs),c,q)=Q1 (nF (l8 al ag) c q):=λc hc=>by grind[w7,BT,aJ6]
 have k:∀c∈outs,xh ((al,ag,fs),c)=Q1 (l5 al ag c):=λc hc=>by grind[w7,BT,QJ]
 unfold AM;unfold oI;refine(mw (A:=Nat) outs (λi b=>((i:Int),(b:Int)-1)) (λb rest=>Q1 (((rz (l8 al ag) q (pL al ag outs) (rest.map λc=>(l5 al ag c,c,[],[])) (outs.length-rest.length+1) b:Nat):Int)-1)) (λi b=>b<=i) (by omega) ?_ ?_ 0 (by omega)).trans ?_
 grind[rz]
 intro rec i b c rest a7 r hd f;have e:=oU hd;have hc:c∈outs:=aH e;have l:=(rl hd).2.1;have m:nth outs (i:Int)=Q1 c:=h0 hd;simp only[fB a7,b6,m,bT,d c hc,f' a7 (by omega:outs.length<2^62),au,rz];rw[show outs.length-(c::rest).length+1=i+1 by grind[aC]];have g:=f (i+1) (by omega);have j:=f b (by omega);rw[show outs.length-rest.length+1=i+1+1 by omega]at g j;rw[show((i+1:Nat):Int)-1=(i:Int)by omega]at g;cases he:nF (l8 al ag) c q with
 |false=>rw[bu,fI,bu];exact j
 |true=>
  rw[b6,dN];by_cases cu:b=0
  grind[decide_eq_true]
  rw[ft (by omega),bu,ft cu,cY];have n:b-1<outs.length:=by omega
  have o:nth outs ((b:Int)-1)=Q1 outs[b-1]:=by grind[lQ,af]
  have s:xd (pL al ag outs) b=l5 al ag outs[b-1]:=by
   unfold xd pL
   grind[aF,af]
  grind[bT,ay,l5]
 rw[Nat.sub_self];rfl
end
end Dp
namespace Dp
def aL3(al:List b9)(ag:List ct)(fs:List Int)(id:Int)(ha:ag.length<=1000000):HL ((al,ag,fs),id)=Q1 ((na ag id:Nat):Int):=by
 unfold HL;refine(mw (A:=Nat) ag (λi a=>((i:Int),(a:Int))) (λa rest=>Q1 (((a+na rest id:Nat)):Int)) (λi a=>a<=2*i) (by omega) ?_ ?_ 0 (by omega)).trans (by simp);intro rec a d;simp[na];intro rec i a x rest a7 d hd c;have e:aa.wrap ((a:Int)+1)=((a+1:Nat):Int):=f' (n:=2000000000) (by omega) (by omega);have f:aa.wrap (((a+1:Nat):Int)+1)=((a+1+1:Nat):Int):=f' (n:=2000000000) (by omega) (by omega);have b:na (x::rest) id=((if x.2.1=id then 1 else 0)+(if x.2.2.1=id then 1 else 0))+na rest id:=rfl;simp only[fB a7,b6,h0 hd,bT,f' a7 (by omega:ag.length<2^62),e,f];by_cases c1:x.2.1=id<;>by_cases c2:x.2.2.1=id;simp only[hT c1,hT c2,b6];rw[c (a+1+1) (by omega),b,cr c1,cr c2];congr 2;omega;simp only[hT c1,ft c2,b6,bu];rw[c (a+1) (by omega),b,cr c1,cc c2];congr 2;omega;simp only[ft c1,hT c2,b6,bu];rw[c (a+1) (by omega),b,cc c1,cr c2];congr 2;omega
 grind[decide_eq_false]
def yO(k:List Int->Nat):List (List Int)->List kI->List kI
 | [],L=>L
 |c::r,L=>yO k r (oY L (k c) c)
def xm(k:b9->Nat):List b9->List kI->List kI
 | [],L=>L
 |n::r,L=>xm k r (p_ L (k n) n.1)
def an1(L:List kI)(k:Nat)(c:Int)(i:Nat):(p_ L k c)[i]?=(L[i]?).map (λx=>(x.1,x.2.1,x.2.2.1,x.2.2.2++(if k=i then [c]else []))):=by grind[p_,cR,bo]
theorem at4(L:List kI)(k:Nat)(c:List Int):(oY L k c).length=L.length:=by grind[oY]
theorem as0(L:List kI)(k:Nat)(c:Int):(p_ L k c).length=L.length:=by grind[p_]
def az7(k:List Int->Nat):∀(R:List (List Int)) (L:List kI) (i:Nat),(yO k R L)[i]?=(L[i]?).map (λx=>(x.1,x.2.1,x.2.2.1++R.filter (λc=>Eo (k c=i)),x.2.2.2))
 | [],L,i=>by simp[yO]
 |c::R,L,i=>by
  unfold yO;rw[az7 k R,Pd,du]
  grind
def ay0(k:b9->Nat):∀(R:List b9) (L:List kI) (i:Nat),(xm k R L)[i]?=(L[i]?).map (λx=>(x.1,x.2.1,x.2.2.1,x.2.2.2++(R.filter (λn=>Eo (k n=i))).map (λn=>n.1)))
 | [],L,i=>by simp[xm]
 |n::R,L,i=>by
  unfold xm;rw[ay0 k R,an1,du]
  grind
def rm(al:List b9)(ag:List ct)(c:List Int):List (List Int):=(xn al ag).filter λd=>Eo (q8 al ag (rq (l8 al ag) d)=c)
def r7(ag:List ct)(n:b9):Bool:=Eo (na ag n.1=0)
def wP(al:List b9)(ag:List ct)(c:List Int):List Int:=((al.filter (r7 ag)).filter λn=>Eo (q8 al ag n.2=c)).map λn=>n.1
abbrev uC(al:List b9)(ag:List ct)(c:List Int):kI:=(0,c,rm al ag c,wP al ag c)
section
variable {al:List b9} {ag:List ct} {fs:List Int} (h:fp al ag fs)
include h
theorem bX0:(m_ al ag).Nodup:=h.bg0.filter _
theorem Pc{outs:List (List Int)}(hp:outs.Perm (m_ al ag)){q:bs}(a:d' q=No){i:Nat}{c:List Int}(a7:([]::outs)[i]?=Q1 c):(oI (l8 al ag) (pL al ag outs) q=i)↔q8 al ag q=c:=by
 have hf:=aH9 h (outs:=outs) (λc=>hp.mem_iff) a;have b:([]::outs).Nodup:=cS.2 ⟨λhm=>by
  have:=(w7 h (BT h (hp.mem_iff.1 hm)).1).1;exact this rfl,hp.nodup_iff.2 (bX0 h)⟩
 grind[aQ,ak,dK]
theorem aE9:∃outs:List (List Int),outs.Perm (m_ al ag)/\EJ (al,ag,fs)=Q1 outs/\CL (al,ag,fs)=Q1 (([]::outs).map (uC al ag)):=by
 obtain⟨outs,ho,hp⟩:=aO6 h;refine⟨outs,hp,ho,?_⟩;have hN:=h.qF;have hA:=h.pA;have R:=h.wK.len;have hm:∀a∈ag,fh gd a.1 (l8 al ag)=pathOf al ag a.1:=λa ha=>h.D1 ha;have o:outs.length<=512:=by
  have h1:=hp.length_eq
  grind[bn,l5,l9,m_]
 have p:∀c∈outs,c∈m_ al ag:=λc hc=>hp.mem_iff.1 hc;have j:∀c∈l9 al ag,xh ((al,ag,fs),c)=Q1 (l5 al ag c):=λc hc=>by grind[w7,QJ]
 have s:∀q,oI (l8 al ag) (pL al ag outs) q<outs.length+1:=λq=>N9 _ _ _ _ _ _ _ (by simp[pL];omega) (by omega);have S:∀D∈l9 al ag,∃d r,D=d::r/\CW ((al,ag,fs),d)=Q1 (mS al ag d)/\∃q,nth (mS al ag d) (0:Int)=Q1 q/\AM ((al,ag,fs),outs,q)=Q1 ((oI (l8 al ag) (pL al ag outs) (rq (l8 al ag) D):Int)-1):=λD z=>by
  obtain⟨c1,c2,c3⟩:=w7 h z;obtain⟨q,B,C,_,E⟩:=Og h hm z;cases D with
  |nil=>exact b8 rfl c1
  |cons d r=>
   refine⟨d,r,rfl,S4 h (c3 d (by simp)).1,q,by rw[show(0:Int)=((0:Nat):Int)by rfl,lQ];exact B,?_⟩;rw[show q=q from rfl,ax5 h p o C,aI6];intro x hx;obtain⟨c,hc,rfl⟩:=aM.1 (show x∈outs.map λc=>(l5 al ag c,c,[],[])from hx)
   grind[BT]
 have kN:∀n∈al,AM ((al,ag,fs),outs,n.2)=Q1 ((oI (l8 al ag) (pL al ag outs) n.2:Int)-1):=λn t=>ax5 h p o (rS (h.tt t));obtain⟨e,u⟩:∃e:List Int->Nat,e=λD=>oI (l8 al ag) (pL al ag outs) (rq (l8 al ag) D):=⟨_,rfl⟩;obtain⟨b,k⟩:∃b:b9->Nat,b=λn=>oI (l8 al ag) (pL al ag outs) n.2:=⟨_,rfl⟩;have run:CL (al,ag,fs)=Q1 (xm b (al.filter (r7 ag)) (yO e (xn al ag) (([]::outs).map λc=>(0,c,[],[])))):=by
  unfold CL;simp only;rw[ho];simp only[bT];refine mw (A:=List Ct) outs (λi L=>(N2,(i:Int),L)) (λ_ _=>Q1 (xm b (al.filter (r7 ag)) (yO e (xn al ag) (([]::outs).map λc=>(0,c,[],[]))))) (λi L=>L=([]::outs.take i).map (λc=>((0,c,(),()):Ct))) (by omega) ?_ ?_ _ rfl
  .intro rec L O
   rw[cd]at O;simp only[kj,bu];rw[aq4 h];simp only[bT];have v:zs (λx:Ct=>((x.1,x.2.1,([]:List (List Int)),([]:List Int)):kI)) L=Q1 (([]::outs).map λc=>(0,c,[],[])):=by
    unfold zs;have:Eo (16*L.length<=mB)=No:=by grind[aI,aC]
    rw[this,O,bZ];rfl
   rw[v,bT];generalize G:l9 al ag=cs at *;unfold xn;rw[G];refine mw (A:=List kI) cs (λi L=>((i:Int),L)) (λL rest=>Q1 (xm b (al.filter (r7 ag)) (yO e (rest.filter λc=>!decide (0<l5 al ag c)) L))) (λi L=>L.length=outs.length+1/\∀a∈L,a.2.2.1.length<=i/\a.2.2.2.length=0) (by omega) ?_ ?_ _ ⟨by simp,by simp⟩
   .rintro w L ⟨l2,mi⟩
    simp only[kj,bu,List.filter_nil,yO];refine mw (A:=List kI) al (λi L=>((i:Int),L)) (λL rest=>Q1 (xm b (rest.filter (r7 ag)) L)) (λi L=>L.length=outs.length+1/\∀a∈L,a.2.2.2.length<=i) (by omega) ?_ ?_ L ⟨l2,λa ha=>by have:=(mi a ha).2;omega⟩
    .grind[xm]
    rintro P i L n rest a7 ⟨l2,mi⟩ hd H;have t:n∈al:=ao (hd▸aJ ..);have E:Eo (((na ag n.1:Nat):Int)=0)=r7 ag n:=by grind[r7,na]
    simp only[fB a7,b6,h0 hd,bT,aL3 al ag fs n.1 (by omega),E,f' a7 (by omega:al.length<2^62),bV,kN n t];cases hz:r7 ag n with
    |false=>grind
    |true=>
     rw[b6,cr rfl,xm];have hk:b n<L.length:=by rw[k,l2];exact s _
     have l:oI (l8 al ag) (pL al ag outs) n.2=b n:=by rw[k]
     rw[l];have m:L[b n]?=Q1 L[b n]:=af hk;have I:=mi _ (ay hk);have r:=H (p_ L (b n) n.1) ⟨by rw[as0];exact l2,λa ha=>by
      obtain⟨J,K,rfl⟩:=aT ha;have g:=an1 L (b n) n.1 J
      grind[af,as0,aQ,ay,aS]⟩
     have M:aa.wrap ((1:Int)+((b n:Int)-1))=(b n:Int):=by grind[fx]
     have N:(Eo (0<=(b n:Int))&&Eo ((b n:Int)<((L.length:Nat):Int)))=No:=by grind
     generalize L[b n]=y at *;have f:j6 8 y.2.2.2 [n.1]=Q1 (y.2.2.2++[n.1]):=m9 (by omega) (by simp;omega);simp only[M,aW,m,ai,bT,N,b6,uM,f,qI]
     grind[p_]
   rintro w i L c rest a7 ⟨l2,mi⟩ hd H;have hc:c∈cs:=ao (hd▸aJ ..);simp only[fB a7,b6,h0 hd,bT,j c hc,f' a7 (by omega:cs.length<2^62),bV];by_cases ht:0<l5 al ag c
   .grind[decide_eq_false,decide_eq_true]
   obtain⟨d,r0,ec,ep,q,eq,Q⟩:=S c hc;have l:oI (l8 al ag) (pL al ag outs) (rq (l8 al ag) c)=e c:=by rw[u]
   rw[l]at Q;have n0:nth c (0:Int)=Q1 d:=by grind[lQ]
   rw[hT (by omega),b6,ft ht,cr (by decide),yO];have hk:e c<L.length:=by rw[u,l2];exact s _
   have m:L[e c]?=Q1 L[e c]:=af hk;have I:=mi _ (ay hk);have r:=H (oY L (e c) c) ⟨by rw[at4];exact l2,λa ha=>by
    obtain⟨J,K,rfl⟩:=aT ha;have g:=Pd L (e c) c J
    grind[af,at4,aQ,ay,aS]⟩
   have M:aa.wrap ((1:Int)+((e c:Int)-1))=(e c:Int):=by grind[fx]
   have N:(Eo (0<=(e c:Int))&&Eo ((e c:Int)<((L.length:Nat):Int)))=No:=by grind
   generalize L[e c]=y at *;have f:j6 24 y.2.2.1 [c]=Q1 (y.2.2.1++[c]):=m9 (by omega) (by simp;omega);simp only[n0,ep,eq,Q,bT,M,aW,m,ai,N,b6,uM,f,qI]
   grind[oY]
  grind[fB,h0,bT,f',m9,bQ,oU]
 rw[run];congr 1;apply eH;intro i;rw[ay0,az7,aO,aO,du,du];cases a7:([]::outs)[i]? with
 |none=>rfl
 |some c=>
  simp only[ai,ke,cG];unfold uC rm wP;have B:(xn al ag).filter (λc=>Eo (e c=i))=(xn al ag).filter (λd=>Eo (q8 al ag (rq (l8 al ag) d)=c)):=gV λD z=>by
   obtain⟨_,_,_,E,_⟩:=Og h hm (aU.1 z).1
   grind[Pc]
  have C:(al.filter (r7 ag)).filter (λn=>Eo (b n=i))=(al.filter (r7 ag)).filter (λn=>Eo (q8 al ag n.2=c)):=gV λn t=>by rw[k];exact decide_eq_decide.2 (Pc h hp (rS (h.tt (aU.1 t).1)) a7)
  rw[B,C]
end
end Dp
namespace Dp
def T9{l:List Int}(x:Int)(hl:l.length<2^62):Ia (l,x)=Q1 (Eo (x∈l)):=He x hl
def bd7{l:List Int}(x:Int)(hl:l.length<=1000000)(hs:l.Pairwise (·<·)):∃s,H4 (l,x)=Q1 s/\s.Pairwise (·<·)/\(∀y,y∈s↔y=x\/y∈l)/\s.length<=l.length+1:=by
 unfold H4;simp only[T9 x (by omega:l.length<2^62),bT];by_cases m:x∈l
 grind[decide_eq_true]
 rw[ft m,bu];have put:∀i:Nat,i<=l.length->(∀y∈l.take i,y<x)->(∀y∈l.drop i,x<y)->∃s,(a8 (tx l Ld (Q1 (i:Int))) λg=>a8 (j6 8 ([]:List Int) g) λa=>a8 (j6 8 a [x]) λb=>a8 (tx l (Q1 (i:Int)) Ld) λc=>a8 (j6 8 b c) λd=>Q1 d)=Q1 s/\s.Pairwise (·<·)/\(∀y,y∈s↔y=x\/y∈l)/\s.length<=l.length+1:=λi a7 h1 h2=>by
  rw[N0 a7,bT,m9 (by decide) (by simp;omega),bT,m9 (by decide) (by simp;omega),bT,af1 (by omega) (by omega),bT,m9 (by decide) (by simp;omega),bT];refine⟨_,rfl,?_,?_,?_⟩;rw[aW,cG]
  grind
  grind[dE,aW,bL]
  simp;omega
 refine vB (A:=Unit) l (λi _=>(i:Int)) (λo=>∃s:List Int,o=Q1 s/\s.Pairwise (·<·)/\(∀y,y∈s↔y=x\/y∈l)/\s.length<=l.length+1) (λi _=>∀y∈l.take i,y<x) (by omega) ?_ ?_ () (by simp);intro rec _ h;simp only[kj,bu];exact put l.length (by omega) h (by simp);intro rec i _ y rest a7 h hd n;simp only[fB a7,b6,h0 hd,bT,f' a7 (by omega:l.length<2^62)];have j:=oU hd;have k:=aH j;by_cases f:y<x;rw[hT f,b6];refine n () λz hz=>?_
 grind[bQ]
 rw[ft f,bu];have p:y≠x:=λe=>m (e▸k);have hp:=hs.sublist (List.drop_sublist i l);rw[hd,aR]at hp;refine put i (by omega) h λz hz=>?_
 grind
def aH2{l:List Int}(hl:l.length<=1000){fs:List Int}(hf:fs.Pairwise (·<·))(hm:∀y,y∈l↔y∈fs):EG l=Q1 fs:=by
 unfold EG;refine vB (A:=List Int) l (λi a=>(a,(i:Int))) (λo=>o=Q1 fs) (λi a=>a.Pairwise (·<·)/\a.length<=i/\∀y,y∈a↔y∈l.take i) (by omega) ?_ ?_ [] ⟨by simp,by simp,by simp⟩
 grind[cd,QW]
 rintro rec i a x rest a7 ⟨h1,h2,b⟩ hd c;obtain⟨s,e,g1,g2,g3⟩:=bd7 x (l:=a) (by omega) h1;simp only[fB a7,b6,h0 hd,bT,e,f' a7 (by omega:l.length<2^62)]
 grind[bQ,oU]
theorem RT{l:List Int}(hl:l.length<=1000):HZ (l,l)=Q1 No:=by
 unfold HZ;simp only[l6,aw,bu];refine mP (A:=Unit) l (λi _=>(i:Int)) (λ_ _=>Q1 No) (by omega) ?_ ?_ ()
 grind
 intro rec i _ x rest a7 hd a;simp only[fB a7,b6,h0 hd,bT,l6,aw,bu,f' a7 (by omega:l.length<2^62)];exact a ()
def nx(ag:List ct)(c:List Int):Int:=lT ag (c.headD 0)
def Wr{ag:List ct}{k:Nat}:∀ {l:List kI} {seen out:List Int},(oH ag k N2 l seen out).2=No->(∀a∈l,∀c∈qD a,∀d∈c,lT ag d=nx ag a.2.1)/\(∀a∈l,nx ag a.2.1≠0)/\(seen.Nodup->(seen++l.map λa=>nx ag a.2.1).Nodup)/\seen.length+l.length=k/\(oH ag k N2 l seen out).1=out++l.map λa=>nx ag a.2.1
 | [],seen,out,h=>by grind[oH]
 |x::l,seen,out,h=>by
  simp only[oH]at h⊢;cases h1:Eo (lT ag (x.2.1.headD 0)=0)||Eo (lT ag (x.2.1.headD 0)∈seen)with
  |true=>rw[h1,b6]at h;cases h
  |false=>
   rw[h1,bu]at h;cases h2:(qD x).all (λc=>c.all λd=>Eo (lT ag d=lT ag (x.2.1.headD 0)))with
   |false=>rw[h2,bu]at h;cases h
   |true=>
    rw[h2,b6]at h;obtain⟨f,a2,a3,a4,a5⟩:=Wr h;simp only[cE,sG]at h1;simp only[aj,kA]at h2;refine⟨λa ha=>?_,λa ha=>?_,λhs=>?_,?_,?_⟩;rcases aD.1 ha with rfl|ha
    exact h2;exact f a ha;rcases aD.1 ha with rfl|ha
    exact h1.1;exact a2 a ha;have:=a3 (dI.2 ⟨hs,by simp,λa ha b g e=>by grind[bL]⟩);rw[bm]at this;exact this
    grind[aS,dy,aC]
    rw[bu,b6,a5,bm];rfl
structure CM(al:List b9)(ag:List ct)(fs:List Int):Prop where
 zero:∀D∈rm al ag [],∀d∈D,lT ag d=0
 all:∀c∈m_ al ag,∀D∈c::rm al ag c,∀d∈D,lT ag d=nx ag c
 ne:∀c∈m_ al ag,nx ag c≠0
 j0:((m_ al ag).map (nx ag)).Nodup
 len:(m_ al ag).length=fs.length
section
variable {al:List b9} {ag:List ct} {fs:List Int} (h:fp al ag fs)
include h
theorem au5:(nP al ag).map sE=([]::m_ al ag).map λc=>(l5 al ag c,c,rm al ag c):=by
 have hm:∀a∈ag,fh gd a.1 (l8 al ag)=pathOf al ag a.1:=λa ha=>h.D1 ha;apply eH;intro i;have b:AW al ag (l9 al ag)=pL al ag (m_ al ag):=rfl;unfold nP sL;rw[aO,aO];have g1:=at3 (al:=al) (ag:=ag) (m:=l8 al ag) al (sw (l8 al ag) (xn al ag) (pL al ag (m_ al ag))) i;rw[aD0 (xn al ag) (pL al ag (m_ al ag)) rfl i,du]at g1;have d:(sE:kI->_)=λx=>(x.1,x.2.1,x.2.2.1):=rfl;rw[d,b];refine g1.trans ?_;have e:(pL al ag (m_ al ag))[i]?=(([]::m_ al ag)[i]?).map λc=>(l5 al ag c,c,[],[]):=by cases i;rfl;rename_i i;unfold pL;rw[aF,aF,aO]
 rw[e,du];cases a7:([]::m_ al ag)[i]? with
 |none=>rfl
 |some c=>
  simp only[ai,ke,cG];unfold rm;congr 3;refine gV λD f=>?_;obtain⟨_,_,_,g,_⟩:=Og h hm (aU.1 f).1
  grind[Pc,jH]
theorem Dt(hf:(oH ag fs.length No (nP al ag) [] []).2=No):CM al ag fs/\tT al ag fs=0::(m_ al ag).map (nx ag):=by
 have e:=au5 h;unfold tT;cases i:nP al ag with
 |nil=>rw[i]at e;cases e
 |cons a l=>
  rw[i]at hf e;simp only[au,cN]at e;obtain⟨j,f⟩:=e;simp only[oH]at hf⊢;cases h1:(qD a).all (λc=>c.all λd=>Eo (lT ag d=0))with
  |false=>rw[h1,bu]at hf;cases hf
  |true=>
   rw[h1,b6]at hf;rw[b6];obtain⟨n,o,p,q,k⟩:=Wr hf;simp only[aj,kA]at h1;have g:l.map (λa=>a.2.1)=m_ al ag:=by have:=lU (cm λx:Int×List Int×List (List Int)=>x.2.1) f;rw[bZ,bZ]at this;simpa[eK,sE]using this
   have emap:l.map (λa=>nx ag a.2.1)=(m_ al ag).map (nx ag):=by rw[<-g,bZ];rfl
   have get:∀c∈m_ al ag,∃b∈l,b.2.1=c/\b.2.2.1=rm al ag c:=λc hc=>by grind[l5,rm,sE,aK,gF]
   have r:a.2.1=[]/\a.2.2.1=rm al ag []:=by grind[sE,gF]
   refine⟨⟨λD m d hd=>h1 D (by grind[qD,bf]) d hd,λc hc D m d hd=>?_,λc hc=>?_,?_,?_⟩,?_⟩;obtain⟨b,s,t,u⟩:=get c hc
   grind[qD]
   grind
   grind
   grind[aI]
   rw[k,emap];rfl
theorem J0{c:List Int}(hl:c.length<=1000000)(hd:∀d∈c,nY d)(f:Int)(hs:∀d∈c,lT ag d=f):zf ((al,ag,fs),c,f)=Q1 No:=by
 unfold zf;refine mP (A:=Unit) c (λi _=>(i:Int)) (λ_ _=>Q1 No) (by omega) ?_ ?_ ()
 grind
 intro rec i _ x rest a7 a e;have b:x∈c:=ao (a▸aJ ..);simp only[fB a7,b6,h0 a,bT,K0 h (hd x b),hs x b,l6,aw,bu,f' a7 (by omega:c.length<2^62)];exact e ()
theorem aM4{a:ct}(ha:a∈ag):(a.2.2.2.2.1=0\/a.2.2.2.2.1∈fs)/\(a.2.2.2.2.2=0\/a.2.2.2.2.2∈fs):=by
 have b:=h.conn
 grind[vP,sC,cB]
theorem aL2(d:Int):lT ag d=0\/lT ag d∈fs:=by
 unfold lT;split;exact .inl rfl;cases ha:px ag (la d)with
 |none=>exact .inl rfl
 |some a=>
  have:=aM4 h (FG ha)
  grind
theorem bi0(F:CM al ag fs)(f:Int):f∈(m_ al ag).map (nx ag)↔f∈fs:=by
 have a:fs.Nodup:=(pq h.E8).imp λh=>by omega
 have sub:∀x∈(m_ al ag).map (nx ag),x∈fs:=λx b=>by
  obtain⟨c,hc,rfl⟩:=aM.1 b;rcases aL2 h (c.headD 0)with e|e
  exact b8 e (F.ne c hc);exact e
 refine⟨sub f,λhf=>?_⟩;exact PF F.j0 sub (by rw[aI,F.len];omega) f hf
end
end Dp
namespace Dp
abbrev ov(al:List b9)(ag:List ct)(c:List Int):kI:=(nx ag c,c,rm al ag c,wP al ag c)
def va(al:List b9)(ag:List ct)(fs:List Int):List kI:=ov al ag []::fs.flatMap λf=>((m_ al ag).filter λc=>Eo (nx ag c=f)).map (ov al ag)
def Ss(ag:List ct):nx ag []=0:=rfl
def aM1{α:Type}{l m:List α}(h:l.Perm m)(h1:l.length<=1):l=m:=by
 match l,h1 with
 | [],_=>exact h.nil_eq
 | [a],_=>exact(List.singleton_perm.1 h).symm▸rfl
section
variable {al:List b9} {ag:List ct} {fs:List Int} (h:fp al ag fs)
include h
theorem ar7{c D:List Int}(a:D∈rm al ag c):D.length<=1000000/\∀d∈D,nY d:=by obtain⟨_,c2,b⟩:=w7 h (aU.1 (aU.1 a).1).1;grind[w7]
theorem aF3(c:List Int):(rm al ag c).length<=512:=by
 have h1:=bn (λd=>Eo (q8 al ag (rq (l8 al ag) d)=c)) (xn al ag);have h2:=bn (λc=>!decide (0<l5 al ag c)) (l9 al ag);have:=h.wK.len
 grind[rm,xn]
theorem az2(F:CM al ag fs):∃outs:List (List Int),outs.Perm (m_ al ag)/\EN (al,ag,fs)=Q1 (([]::outs).map (ov al ag),No):=by
 obtain⟨outs,hp,_,u⟩:=aE9 h;refine⟨outs,hp,?_⟩;have N:=h.wK.len;have dC:=h.wX;have O:outs.length=fs.length:=hp.length_eq.trans F.len;have q:∀c∈outs,c∈m_ al ag:=λc hc=>hp.mem_iff.1 hc;unfold EN;simp only;rw[u];simp only[bT];obtain⟨A,I⟩:∃A,A=([]:List Int)::outs:=⟨_,rfl⟩;rw[<-I];have v:A.length=outs.length+1:=by rw[I];rfl
 refine mw (A:=List kI×List Int) A (λi a=>((i:Int),a.1,a.2)) (λ_ _=>Q1 (A.map (ov al ag),No)) (λi a=>a.1=(A.take i).map (ov al ag)++(A.drop i).map (uC al ag)/\a.2=(outs.take (i-1)).map (nx ag)) (by omega) ?_ ?_ (A.map (uC al ag),[]) ⟨by simp,by simp⟩;rintro rec ⟨L,S⟩ ⟨p,m⟩;simp only at p m;rw[cd,fD,dj,bD]at p;rw[v,kf,cd]at m;subst p m;have hN:EG (outs.map (nx ag))=Q1 fs:=aH2 (by simp;omega) (pq h.E8) λy=>((hp.map (nx ag)).mem_iff).trans (bi0 h F y)
 grind[aI,bT,RT]
 rintro rec i ⟨L,S⟩ c rest a7 ⟨p,m⟩ hd J;simp only at p m;have P:L.length=A.length:=by rw[p];simp;omega
 have Q:=oU hd;have n:L[i]?=Q1 (uC al ag c):=by grind[List.getElem?_append_right,aI,cC,dp]
 have g:i<L.length:=by omega
 have K:Eo (0<=(i:Int))=No:=hT (by omega);have R:=aF3 h c;have next:L.set i (ov al ag c)=(A.take (i+1)).map (ov al ag)++(A.drop (i+1)).map (uC al ag):=by grind[eX,aI,cC,dp,bQ,bm,kp,iL]
 rw[show((L,S):List kI×List Int).1=L from rfl,show((L,S):List kI×List Int).2=S from rfl];simp only[fB g,b6,K,bw,bT,aW,n,ai];by_cases cu:i=0;subst cu;have w:c=[]:=by grind[aQ]
 subst w;rw[ft (by omega),bu];have s0:zf ((al,ag,fs),(uC al ag []).2.1,(uC al ag []).1)=Q1 No:=J0 h (by simp[uC]) (by simp[uC]) _ (by simp[uC]);rw[s0];simp only[bT,aw,bu];refine mP (A:=Unit) (rm al ag []) (λj _=>(j:Int)) (λ_ _=>Q1 (A.map (ov al ag),No)) (by omega) ?_ ?_ ();intro b _;simp only[uC,kj,bu,f' g (by omega:L.length<2^62)];refine J (L,S) ⟨?_,m⟩;rw[<-next];simp only;have:L.set 0 (ov al ag [])=L:=by apply eH;intro k;rw[dG];split;rename_i e;subst e;exact n.symm;rfl
 rw[this];intro b j _ D r2 hj f o;have r:D∈rm al ag []:=ao (f▸aJ ..);obtain⟨d1,d2⟩:=ar7 h r;simp only[uC,fB hj,b6,h0 f,bT,J0 h d1 d2 0 (F.zero D r),aw,bu,f' hj (by omega:(rm al ag []).length<2^62)];exact o ();have z:c∈outs:=by grind[aF,aH]
 have l:=q c z;obtain⟨mJ,nj⟩:=BT h l;obtain⟨c1,c2,c3⟩:=w7 h mJ;have hS:S.length<=64:=by rw[m];simp;omega
 have B:nx ag c∉S:=λhm=>by
  rw[m]at hm;obtain⟨k,hk,ek⟩:=aT hm;simp only[aI,cC]at hk;rw[b_,List.getElem_take]at ek;have C:(outs.map (nx ag)).Nodup:=(hp.map _).nodup_iff.2 F.j0;have E:outs[i-1]?=Q1 c:=by grind[aF]
  obtain⟨g1,g2⟩:=ak.1 E;have:k=i-1:=(dK (h₀:=by simp;omega) (h₁:=by simp;omega) C).1 (by grind);omega
 have nc:nth c (0:Int)=Q1 (c.headD 0):=by cases c<;>grind[absurd,lQ]
 have G:nY (c.headD 0):=by cases c<;>grind[absurd]
 have s:qI L i (λx y=>(y,x.2.1,x.2.2.1,x.2.2.2)) (lT ag (c.headD 0))=Q1 (L.set i (ov al ag c)):=by unfold qI;rw[n];rfl
 have t:(L.set i (ov al ag c))[i]?=Q1 (ov al ag c):=by grind
 have H:(L.set i (ov al ag c)).length=L.length:=by simp
 rw[hT (by omega:(0:Int)<(i:Int)),b6];simp only[uC,nc,bT,K0 h G];rw[s];have eF:(ov al ag c).1=nx ag c:=rfl;have eO:(ov al ag c).2.1=c:=rfl;have eI:(ov al ag c).2.2.1=rm al ag c:=rfl;simp only[bT,H,K,fB g,bw,b6,t,ai,eF,eO,eI,ft (F.ne c l),bu,T9 (nx ag c) (by omega:S.length<2^62),ft B];rw[m9 (by decide) (by simp;omega)];simp only[bT,J0 h (by omega) (λd hd=>(c3 d hd).1) _ (F.all c l c (by simp)),aw,bu];refine mP (A:=Unit) (rm al ag c) (λj _=>(j:Int)) (λ_ _=>Q1 (A.map (ov al ag),No)) (by omega) ?_ ?_ ();intro b _;simp only[kj,bu,f' g (by omega:L.length<2^62)];refine J (L.set i (ov al ag c),S++[nx ag c]) ⟨next,?_⟩;simp only;obtain⟨M,rfl⟩:∃M,i=M+1:=⟨i-1,by omega⟩
 grind[aF,kf,bQ]
 intro b j _ D r2 hj f o;have r:D∈rm al ag c:=ao (f▸aJ ..);obtain⟨d1,d2⟩:=ar7 h r;simp only[fB hj,b6,h0 f,bT,J0 h d1 d2 _ (F.all c l D (bf _ r)),aw,bu,f' hj (by omega:(rm al ag c).length<2^62)];exact o ()
theorem Ro(F:CM al ag fs):EO (al,ag,fs)=Q1 0:=by grind[az2,EO,aB6,bT,decide_true,aw]
theorem aF2(F:CM al ag fs):HB (al,ag,fs)=Q1 (va al ag fs,0):=by
 obtain⟨outs,hp,hf⟩:=az2 h F;have dC:=h.wX;have q:outs.length=fs.length:=hp.length_eq.trans F.len;have d:(outs.map (nx ag)).Nodup:=(hp.map _).nodup_iff.2 F.j0;have IK:∀f,(outs.filter λc=>Eo (nx ag c=f)).length<=1:=λf=>by
  have:((outs.filter λc=>Eo (nx ag c=f)).map (nx ag)).Nodup:=d.sublist ((List.filter_sublist).map _);cases m:outs.filter λc=>Eo (nx ag c=f)with
  |nil=>simp
  |cons a l=>
   cases l;simp;rename_i b l;exfalso;rw[m]at this;have ha:a∈outs.filter λc=>Eo (nx ag c=f):=by rw[m];simp
   grind[nx]
 have r:va al ag fs=ov al ag []::fs.flatMap λf=>(outs.filter λc=>Eo (nx ag c=f)).map (ov al ag):=by unfold va;congr 1;congr 1;funext f;rw[aM1 (hp.filter _) (IK f)]
 rw[r];unfold HB;simp only[Ro h F,bT,l6,aw,bu,hf];have n0:nth (([]::outs).map (ov al ag)) (0:Int)=Q1 (ov al ag []):=by rw[show(0:Int)=((0:Nat):Int)by rfl,lQ];rfl
 rw[n0];simp only[bT];refine mw (A:=List kI) fs (λi a=>(a,(i:Int))) (λa rest=>Q1 (a++rest.flatMap λf=>(outs.filter λc=>Eo (nx ag c=f)).map (ov al ag),0)) (λi a=>a.length<=1+64*i) (by omega) ?_ ?_ [ov al ag []] (by simp)
 grind
 intro rec i a f rest a7 ha hd u;have g:nth fs (i:Int)=Q1 f:=h0 hd;simp only[fB a7,b6,f' a7 (by omega:fs.length<2^62),bA,g];rw[<-bm];have e:((([]::outs).map (ov al ag)).length:Int)=((outs.length+1:Nat):Int):=by simp
 simp only[e];refine mw (A:=List kI) outs (λj b=>(((j+1:Nat):Int),b)) (λb o=>Q1 ((b++(o.filter λc=>Eo (nx ag c=f)).map (ov al ag))++rest.flatMap λf=>(outs.filter λc=>Eo (nx ag c=f)).map (ov al ag),0)) (λj b=>b.length<=1+64*i+j) (by omega) ?_ ?_ a (by omega)
 grind
 intro p j b c o hj v k s;have t:nth (([]::outs).map (ov al ag)) ((j+1:Nat):Int)=Q1 (ov al ag c):=by rw[lQ,aO,aF,oU k];rfl
 have w:aa.wrap (((j+1:Nat):Int)+1)=((j+1+1:Nat):Int):=f' (n:=2000000) (by omega) (by omega)
 grind[nx,fB,bT,decide_eq_true,m9,bm,decide_eq_false]
end
end Dp
namespace Dp
def ce0(x:Int):x<0\/(0<=x/\x<32)\/x=32\/(32<x/\x<39)\/x=39\/x=40\/x=41\/(41<x/\x<45)\/x=45\/x=46\/x=47\/(48<=x/\x<=57)\/(57<x/\x<65)\/(65<=x/\x<=90)\/(90<x/\x<97)\/(97<=x/\x<=122)\/(122<x/\x<192)\/(192<=x/\x<=214)\/x=215\/(216<=x/\x<=246)\/x=247\/(248<=x/\x<=591)\/(591<x/\x<880)\/(880<=x/\x<=1023)\/(1024<=x/\x<=1279)\/(1279<x/\x<1488)\/(1488<=x/\x<=1514)\/(1514<x/\x<19968)\/(19968<=x/\x<=40959)\/(40959<x/\x<=1114111)\/1114111<x:=by omega
def aq8(x:Int):EE x=Q1 (qU x):=by
 unfold EE Mm qU yM;simp only[Cp,Cj];rcases ce0 x with h|h|h|h|h|h|h|h|h|h|h|h|h|h|h|h|h|h|h|h|h|h|h|h|h|h|h|h|h|h|h
 all_goals simp(disch:=omega) only [hT,ft,b6,bu,bT,dN,fI,cZ,fY,lp,Bool.or_false,hY,cY,bw,Bool.or_self,aw,bB]
def ca9{x:Int}(h:0<=qU x):0<=x/\x<=40959:=by
 unfold qU at h;by_cases c:x<0\/1114111<x
 grind
 refine⟨by omega,dW λa=>?_⟩;have:(Eo (x<0)||Eo (1114111<x))=N2:=by grind[cE,decide_eq_false]
 rw[this,bu]at h;unfold yM at h;simp(disch:=omega) only [Cp,hT,ft,b6,bu,dN,fI,cZ,fY,bw]at h;omega
def fA(b:ByteArray):List Nat:=b.data.toList.map (λx=>x.toNat)
def Gy(b:ByteArray):(fA b).length=b.size:=by unfold fA;rw[aI];rfl
def be8{b:ByteArray}{i n:Nat}(h:(fA b)[i]?=Q1 n):n<256:=by
 unfold fA at h;rw[aO]at h;cases a:b.data.toList[i]? with
 |none=>rw[a]at h;cases h
 |some x=>rw[a]at h;cases h;exact x.toNat_lt
def QV{b:ByteArray}{i:Nat}(h:i<b.size):(fA b)[i]?=Q1 (b.get! i).toNat:=by
 unfold fA;obtain⟨d⟩:=b;have h':i<d.size:=h;have e:(bW d).get! i=d[i]:=by show d[i]! = d[i];rw[getElem!_pos d i h']
 grind
def Gc(b:ByteArray)(i:Nat):pE b (i:Int)=((fA b)[i]?).map (λ(n:Nat)=>(n:Int)):=by
 unfold pE fA;rw[hT (by omega:(0:Int)<=(i:Int)),b6,aW,aO,du];obtain⟨d⟩:=b;by_cases h:i<d.size;have e:(bW d)[i]?=Q1 d[i]:=getElem?_pos (bW d) i h
 grind
 have e:(bW d)[i]?=Ld:=getElem?_neg (bW d) i h
 grind
def aZ2{b:ByteArray}{i j:Nat}(h:i<=j)(hj:j<=b.size):∃s,D8 b (Q1 (i:Int)) (Q1 (j:Int))=Q1 s/\fA s=((fA b).drop i).take (j-i)/\s.size=j-i:=by
 refine⟨b.extract i j,?_,?_,?_⟩;unfold D8 yi;simp[h,hj];unfold fA
 grind[List.map_drop,List.map_take,ByteArray.data_extract,Array.toList_extract,List.extract_eq_take_drop]
 rw[ByteArray.size_extract];omega
theorem be7{a b:ByteArray}:(a.toList==b.toList)=Eo (fA a=fA b):=by
 rw[iT,iT,dm,beq_iff_eq,decide_eq_true_iff];unfold fA
 grind[List.map_inj_right,kx]
def ue:List Nat->Nat
 | [a]=>a
 | [a,b]=>a%32*64+b%64
 | [a,b,c]=>a%16*4096+b%64*64+c%64
 |_=>0
def wZ(v:Nat):List Nat:=if v<128 then [v]else if v<2048 then [192+v / 64,128+v%64]else [224+v / 4096,128+v / 64%64,128+v%64]
def ba2{s:ByteArray}(h:1<=s.size/\s.size<=3):HY s=Q1 (ue (fA s):Int):=by
 have hl:=Gy s;have lt:∀n∈fA s,n<256:=λn f=>by obtain⟨i,a7⟩:=List.mem_iff_getElem?.1 f;exact be8 a7
 have n0:=Gc s 0;have e:=Gc s 1;have g:=Gc s 2;unfold HY;generalize fA s=L at *
 match L,hl,lt with
 | [],hl,_=>simp at hl;omega
 | [a],hl,lt=>
  have ha:=lt a (by simp)
  grind[decide_eq_true,pE,bE,bT,ue,fx]
 | [a,b],hl,lt=>
  have ha:=lt a (by simp);have j:=lt b (by simp);rw[ft (by simp at hl;omega),bu,hT (by simp at hl;omega),b6,show pE s 0=_ from n0,show pE s 1=_ from e];simp only[bE,aF,ai,bT,ue]
  grind[fx,bT]
 | [a,b,c],hl,lt=>
  have ha:=lt a (by simp);have j:=lt b (by simp);have hc:=lt c (by simp);rw[ft (by simp at hl;omega),bu,ft (by simp at hl;omega),bu,show pE s 0=_ from n0,show pE s 1=_ from e,show pE s 2=_ from g];simp only[bE,aF,ai,bT,ue]
  grind[fx,bT]
 |a::b::c::d::r,hl,_=>simp at hl;omega
def QQ(l:List Nat)(h:∀n∈l,n<256):fA (zP (l.map (λ(n:Nat)=>(n:Int))))=l:=by
 unfold fA zP;simp only[bZ]
 conv=>rhs;rw[<-List.map_id l]
 grind[bY,aW,UInt8.toNat_ofNat_of_lt']
def u8{n:Nat}(h:n<256):IntKind.u8.wrap (n:Int)=(n:Int):=by show(n:Int)%256=n;omega
def bS0{v:Nat}(h:v<65536):∃u,H7 (v:Int)=Q1 u/\fA u=wZ v:=by
 unfold H7 wZ;have a:(v:Int).tdiv 64=((v / 64:Nat):Int):=rfl;have b:(v:Int).tmod 64=((v%64:Nat):Int):=rfl;have c:(v:Int).tdiv 4096=((v / 4096:Nat):Int):=rfl;have d:((v / 64:Nat):Int).tmod 64=((v / 64%64:Nat):Int):=rfl;by_cases h1:v<128;rw[hT (by omega),b6,cr h1,u8 (by omega)];exact⟨_,rfl,QQ [v] (by simp;omega)⟩;rw[ft (by omega),bu,cc h1];by_cases h2:v<2048;rw[hT (by omega),b6,cr h2,a,b,ft (by omega),bu,bu,bT,bT,fx (n:=((v / 64:Nat):Int)) (by omega) (by omega),
  show(192:Int)+((v / 64:Nat):Int)=((192+v / 64:Nat):Int)by omega,show(128:Int)+((v%64:Nat):Int)=((128+v%64:Nat):Int)by omega,fx (by omega) (by omega),fx (by omega) (by omega),u8 (by omega),u8 (by omega)]
 exact⟨_,rfl,QQ [192+v / 64,128+v%64] (by simp;omega)⟩;have d1:Eo ((64:Int)=0)=N2:=by decide
 have d2:Eo ((4096:Int)=0)=N2:=by decide
 rw[ft (by omega),bu,cc h2];simp only[d1,d2,bu,bT,a,b,c];rw[fx (n:=((v / 64:Nat):Int)) (by omega) (by omega),d,fx (n:=((v / 4096:Nat):Int)) (by omega) (by omega),
  show(224:Int)+((v / 4096:Nat):Int)=((224+v / 4096:Nat):Int)by omega,show(128:Int)+((v%64:Nat):Int)=((128+v%64:Nat):Int)by omega,show(128:Int)+((v / 64%64:Nat):Int)=((128+v / 64%64:Nat):Int)by omega,fx (by omega) (by omega),fx (by omega) (by omega),fx (by omega) (by omega),u8 (by omega),u8 (by omega),u8 (by omega)]
 exact⟨_,rfl,QQ [224+v / 4096,128+v / 64%64,128+v%64] (by simp;omega)⟩
end Dp
namespace Dp
def bI2{α β:Type}{F:(α->Option β)->α->Option β}(I:α->Prop)(a:α->Nat)(P:α->Option β->Prop)(h:∀rec x,I x->(∀y,I y->a y<a x->P y (rec y))->P x (F rec x)){x:α}(b:I x)(hm:a x<2^100):P x (rounds F x):=by
 have key:∀(n:Nat) (x:α),I x->a x<n->P x (iter F n x):=by
  intro n
  induction n with
  |zero=>intro x _ h;omega
  |succ n c =>intro x a7 hm;exact h _ x a7 λy d e=>c y d (by omega)
 exact key many x b (dL hm zV)
def Ck(L:List Nat)(i r n:Nat):Prop :=
 (r<128/\n=1/\L[i]?=Q1 r)\/(128<=r/\r<2048/\n=2/\L[i]?=Q1 (192+r / 64)/\L[i+1]?=Q1 (128+r%64)) \/
 (2048<=r/\r<65536/\n=3/\L[i]?=Q1 (224+r / 4096)/\L[i+1]?=Q1 (128+r / 64%64)/\L[i+2]?=Q1 (128+r%64))
def aH3{b:ByteArray}{i:Nat}(a7:i<b.size)(hs:0<=qU ((bI b i).1:Int)):Ck (fA b) i (bI b i).1 (bI b i).2:=by
 have hle:=(ca9 hs).2;rw[Lib.decode_at]at hle⊢;have cu:=(b.get! i).toNat_lt;have h1:=(b.get! (i+1)).toNat_lt;have h2:=(b.get! (i+2)).toNat_lt;have g0:=QV a7;have g1:i+1<b.size->_:=λh=>QV (b:=b) (i:=i+1) h;have g2:i+2<b.size->_:=λh=>QV (b:=b) (i:=i+2) h;generalize(b.get! i).toNat=a at *;generalize(b.get! (i+1)).toNat=c at *;generalize(b.get! (i+2)).toNat=d at *;generalize(b.get! (i+3)).toNat=e at *;unfold Lib.decodeN at hle⊢
 grind[Ck,left]
def Runes(L:List Nat):Nat->List Int->Prop
 |i,[]=>i=L.length
 |i,c::cs=>∃r n:Nat,c=(r:Int)/\Ck L i r n/\0<=qU c/\Runes L (i+n) cs
def ag4{L:List Nat}{i r n:Nat}(h:Ck L i r n):i+n<=L.length/\1<=n/\n<=3/\r<65536:=by
 have key:∀ {k x},L[k]?=Q1 x->k<L.length:=λ{k x} e=>by grind[cR,bo]
 rcases h with⟨h1,rfl,h2⟩|⟨h1,h2,rfl,b,a⟩|⟨h1,h2,rfl,b,a,c⟩
 have:=key h2;omega;have:=key a;omega;have:=key c;omega
def bH5{b:ByteArray}(g:b.size<=1000){rs:List Int}(h:Bj b=Q1 (rs,0)):Runes (fA b) 0 rs:=by
 have key:∀rs,Bj b=Q1 (rs,0)->∃t,rs=[]++t/\Runes (fA b) 0 t:=by
  unfold Bj;refine bI2 (λx:List Int×Int=>∃p:Nat,x.2=(p:Int)/\p<=b.size/\x.1.length<=p) (λx=>b.size-x.2.toNat) (λx o=>∀rs,o=Q1 (rs,0)->∃t,rs=x.1++t/\Runes (fA b) x.2.toNat t) ?_ (x:=([],0)) ⟨0,rfl,by omega,by simp⟩ (by omega);rintro rec ⟨acc,q⟩ ⟨p,e,hp,hl⟩ c rs ho;simp only at e hl;subst e;simp only[aW]at ho⊢;by_cases a:p<b.size;have hs:Cu b (p:Int)=Q1 ((p:Int),((bI b p).1:Int),((p+(bI b p).2:Nat):Int)):=by unfold Cu;simp[a]
  obtain⟨i,j,k⟩:=Rj b p;rw[hT a,b6,hs]at ho;simp only[bT,Ik]at ho;rw[fx (by omega) (by omega)]at ho;by_cases hz:qU ((bI b p).1:Int)<0
  grind[decide_eq_true]
  rw[ft hz,bu,m9 (by decide) (by simp;omega),bT]at ho;have st:=aH3 a (by omega);have mY:=ag4 st;rw[Gy]at mY;obtain⟨t,d,f⟩:=c (acc++[((bI b p).1:Int)],((p+(bI b p).2:Nat):Int)) ⟨p+(bI b p).2,rfl,mY.1,by simp;omega⟩ (by grind[aW]) rs ho;refine⟨((bI b p).1:Int)::t,by rw[d];simp,⟨_,_,rfl,st,by omega,?_⟩⟩;exact f;rw[ft a,bu]at ho;cases ho;exact⟨[],by simp,by show p=(fA b).length;rw[Gy];omega⟩
 grind
def DI{L:List Nat}{i a:Nat}(h:L[i]?=Q1 a):L.drop i=a::L.drop (i+1):=by grind[ak,bq]
def DW{T:List Nat}{v r n j:Nat}(hv:ue T=v)(h1:v<65536)(h2:wZ v=T↔j+1=n)(a:j+1=n->v=r):ue T<65536/\(wZ (ue T)=T↔j+1=n)/\(j+1=n->ue T=r):=by subst hv;exact⟨h1,h2,a⟩
theorem au6{v:Nat}(h:v<128):wZ v=[v]:=by unfold wZ;rw[cr h]
theorem Hh{v:Nat}(h:128<=v)(h':v<2048):wZ v=[192+v / 64,128+v%64]:=by grind[wZ]
theorem bS1{v:Nat}(h:2048<=v):wZ v=[224+v / 4096,128+v / 64%64,128+v%64]:=by grind[wZ]
def aR7{L:List Nat}{i r n j:Nat}(h:Ck L i r n)(hj:j<n):ue ((L.drop i).take (j+1))<65536/\(wZ (ue ((L.drop i).take (j+1)))=(L.drop i).take (j+1)↔j+1=n)/\(j+1=n->ue ((L.drop i).take (j+1))=r):=by
 rcases h with⟨h1,rfl,h2⟩|⟨h1,h2,rfl,a,b⟩|⟨h1,h2,rfl,a,b,c⟩
 have:j=0:=by omega
 subst this;rw[DI h2];refine DW (T:=[r]) (v:=r) rfl (by omega) ?_ λ_=>rfl;rw[au6 h1];simp;rw[DI a,DI b]
 grind[Hh,ue]
 rw[DI a,DI b,DI c];have:j=0\/j=1\/j=2:=by omega
 grind[Hh,ue,au6,bS1]
def aL0{b:ByteArray}(H:b.size<=1000){rs:List Int}(h:Runes (fA b) 0 rs)(v:rs.length<=1000):HJ b=Q1 (rs,0):=by
 unfold HJ;have k:=Gy b;refine mw (A:=List Int×Nat) rs (λ_ a=>(a.1,(a.2:Int))) (λa rest=>Q1 (a.1++rest,0)) (λi a=>a.1.length=i/\Runes (fA b) a.2 (rs.drop i)) (by omega) ?_ ?_ ([],0) ⟨rfl,h⟩;rintro rec ⟨acc,p⟩ ⟨_,hp⟩;rw[fD]at hp;have hp:p=(fA b).length:=hp
 grind
 rintro rec i ⟨acc,p⟩ c rest a7 ⟨hl,hp⟩ hd w;simp only at hl hp;rw[hd]at hp;obtain⟨r,n,rfl,st,x,l⟩:=hp;obtain⟨m1,m2,m3,m4⟩:=ag4 st;rw[k]at m1;have d:rs.drop (i+1)=rest:=by grind[kp,iL]
 have e:=w (acc++[(r:Int)],p+n) ⟨by simp;omega,by rw[d];exact l⟩;simp only at e;simp only;rw[fB (show p<b.size by omega),b6];have goal:rec (acc++[(r:Int)],((p+n:Nat):Int))=Q1 (acc++(r:Int)::rest,0):=by rw[e];simp
 have z:((1:Int),acc,(0:Int))=(((0+1:Nat):Int),(if 0=n then acc++[(r:Int)]else acc),(if 0=n then(n:Int)else 0)):=by grind
 rw[z];refine mw (A:=Unit) (aN n) (λj _=>(((j+1:Nat):Int),(if j=n then acc++[(r:Int)]else acc),(if j=n then(n:Int)else 0))) (λ_ _=>Q1 (acc++(r:Int)::rest,0)) (λ_ _=>True) (by simp;omega) ?_ ?_ () trivial
 grind[dO,decide_eq_false,fx]
 intro q j _ y I hj _ B m;rw[dO]at hj;obtain⟨t1,t2,t3⟩:=aR7 st hj;obtain⟨s,es,f,c8⟩:=aZ2 (b:=b) (i:=p) (j:=p+(j+1)) (by omega) (by omega);rw[show p+(j+1)-p=j+1 by omega]at f c8;have hv:=ba2 (s:=s) (by omega);rw[f]at hv;obtain⟨u,C,J⟩:=bS0 t1;have D:aa.wrap ((p:Int)+((j+1:Nat):Int))=((p+(j+1):Nat):Int):=by grind[fx]
 have E:aa.wrap (((j+1:Nat):Int)+1)=((j+1+1:Nat):Int):=f' (n:=100) (by omega) (by omega);have G:Eo (((j+1:Nat):Int)<=3)=No:=hT (by omega);have o:Eo (((p+(j+1):Nat):Int)<=(b.size:Int))=No:=hT (by omega);have g:(u.toList==s.toList)=Eo (j+1=n):=by grind[be7]
 have t:=m () trivial;simp only[cc (show ¬j=n by omega),G,D,o,b6,l6,es,bT,hv,aq8,C,g,E]
 grind[decide_eq_true,m9,bT,decide_eq_false,qU,ue]
def Jz{L:List Nat}:∀ {rs:List Int} {i k:Nat} {c:Int},Runes L i rs->rs[k]?=Q1 c->∃p r n,c=((r:Nat):Int)/\Ck L p r n/\Runes L (p+n) (rs.drop (k+1))
 | [],_,_,_,_,h=>by simp at h
 |x::rs,i,0,c,h,hk=>by simp only[bE,ah]at hk;subst hk;obtain⟨r,n,e,st,_,a⟩:=h;exact⟨i,r,n,e,st,a⟩
 |x::rs,i,k+1,c,h,hk=>by obtain⟨r,n,e,st,_,a⟩:=h;rw[aF]at hk;exact Jz (rs:=rs) a hk
theorem K2{L:List Nat}{p r n:Nat}(h:Ck L p r n)(e:(32:Int)=(r:Int)):n=1/\L[p]?=Q1 32:=by
 have:r=32:=by omega
 subst this;rcases h with⟨h1,rfl,h2⟩|⟨h1,h2,rfl,a,b⟩|⟨h1,h2,rfl,a,b,c⟩
 exact⟨rfl,h2⟩;omega;omega
theorem bW3{b:ByteArray}{p:Nat}(h1:(fA b)[p]?=Q1 32)(h2:(fA b)[p+1]?=Q1 32):ic b.data.toList [32,32]=No:=by
 unfold fA at h1 h2;rw[aO]at h1 h2;have g:∀k:Nat,(b.data.toList[k]?).map (λ(x:UInt8)=>x.toNat)=Q1 32->b.data.toList[k]?=Q1 32:=λk e=>by
  cases a:b.data.toList[k]? with
  |none=>rw[a]at e;cases e
  |some x =>rw[a]at e;simp only[ai,ah]at e;congr 1;exact kx.1 e
 have g1:=g p h1;have g2:=g (p+1) h2;generalize b.data.toList=l at *;unfold ic;rw[decide_eq_true_iff];rcases Lib.index_spec l [32,32]with⟨_,q⟩|⟨i,q,_⟩
 exfalso;obtain⟨c,a2⟩:=ak.1 g1;obtain⟨d,f⟩:=ak.1 g2;have:=q p (by omega)
 grind[Lib.occAt,bq]
 omega
end Dp
namespace Dp
def aK4{rs:List Int}(hl:rs.length<=1000):HE rs=Q1 (rs.all λc=>Eo (qU c=0)):=by
 unfold HE;refine mP (A:=Unit) rs (λi _=>(i:Int)) (λ_ rest=>Q1 (rest.all λc=>Eo (qU c=0))) (by omega) ?_ ?_ ()
 grind
 intro rec i _ x rest a7 hd a;have:=a ();simp only[fB a7,b6,h0 hd,bT,aq8,f' a7 (by omega:rs.length<2^62),this,bU]
 grind[qU]
def aH0{rs:List Int}(hl:rs.length<=1000)(b:rs≠[])(cu:rs[0]?≠Q1 32)(h1:rs[rs.length-1]?≠Q1 32)(h2:∀k:Nat,rs[k]?=Q1 (32:Int)->rs[k+1]?≠Q1 32):HF rs=Q1 N2:=by
 have c:0<rs.length:=cH.2 b;have n0:nth rs (0:Int)=Q1 rs[0]:=by grind[lQ,af]
 have d:rs.length-1<rs.length:=by omega
 have g:nth rs (aa.wrap ((rs.length:Int)-1))=Q1 rs[rs.length-1]:=by grind[fx,lQ,af]
 rw[af c]at cu;rw[af d]at h1;unfold HF;simp only[n0,g,bT,ft (λe=>cu (by rw[e]):¬rs[0]=32),bu,ft (λe=>h1 (by rw[e]):¬rs[rs.length-1]=32)];cases rs;exact b8 rfl b;rename_i f rs;refine mw (A:=Int) rs (λi _=>((i+1:Nat):Int)) (λ_ _=>Q1 N2) (λi a=>(f::rs)[i]?=Q1 a) (by simp at hl;omega) ?_ ?_ f rfl
 grind[aC]
 intro rec i a x rest a7 ha hd h;have j:(f::rs)[i+1]?=Q1 x:=by rw[aF];exact oU hd
 have l:aa.wrap (((i+1:Nat):Int)-1)=(i:Int):=by grind[fx]
 have m:aa.wrap (((i+1:Nat):Int)+1)=((i+1+1:Nat):Int):=f' (n:=2000000) (by simp at hl;omega) (by omega)
 grind[aC,fB,lQ,bT,decide_eq_true,decide_eq_false]
def aZ5{b:ByteArray}(h:Er b=0):HX b=Q1 0:=by
 have d:=aB8 b;rw[h]at d;unfold Bp FO at d;unfold HX;cases he:(b.toList==(bW #[]).toList)with
 |true=>rw[he,b6,bT]at d;cases d
 |false=>
  rw[he,bu]at d;rw[bu];by_cases q:(40:Int)<(b.size:Int)
  grind[decide_eq_true,bT]
  rw[ft q,bu]at d;rw[ft q,bu];obtain⟨r,I,f,l⟩:=am6 b (by omega);rw[I,bT]at d;rcases f with f|f
  obtain⟨rs,e⟩:=r;simp only at f l d;subst f;simp only[l6,aw,bu]at d;have s:=bH5 (by omega) I;have K:=aL0 (by omega) s l;simp only[K,bT,l6,aw,bu];have M:=Gc b 0;have N:=Gc b (b.size-1);have O:=Gy b;have w:pE b (0:Int)=((fA b)[0]?).map (λ(n:Nat)=>(n:Int)):=M;rw[w]at d;cases g0:(fA b)[0]? with
  |none=>rw[g0]at d;cases d
  |some z=>
   have P:0<b.size:=by grind[ak]
   rw[g0,ai,bT,fx (by omega) (by omega),show(b.size:Int)-1=((b.size-1:Nat):Int)by omega,N]at d;by_cases Q:(z:Int)=32
   grind[decide_eq_true,bT]
   rw[ft Q,bu]at d;cases g1:(fA b)[b.size-1]? with
   |none=>rw[g1]at d;cases d
   |some B=>
    rw[g1,ai,bT]at d;by_cases c1:(B:Int)=32
    grind[decide_eq_true,bT]
    rw[ft c1,bu]at d;have C:strings_Contains (b,bW #[32,32])=Q1 (ic b.data.toList [32,32]):=by grind[strings_Contains,decide_eq_true]
    rw[C,bT]at d;cases g2:ic b.data.toList [32,32]with
    |true=>rw[g2,b6,bT]at d;cases d
    |false=>
     rw[g2,bu]at d;simp only[Ik,bT]at d;have j:=mP (A:=Unit) rs (β:=List Int×Int) (F:=λD m=>
      bif Eo (m<(rs.length:Int))then a8 (nth rs m) λt=>bif !decide (qU t=0)then Q1 (rs,0)else D (aa.wrap (m+1))else Q1 ([],14)) (λi _=>(i:Int)) (λ_ rest=>Q1 (bif rest.any (λc=>!decide (qU c=0))then(rs,0)else([],14))) (by omega) (by grind) (by
       intro rec i a x rest a7 hd E;simp only[fB a7,b6,h0 hd,bT,f' a7 (show rs.length<2^62 by omega),gq,E ()]
       grind[qU]) ()
     rw[show((0:Nat):Int)=(0:Int)by rfl]at j;rw[j,bT]at d;cases g3:rs.any (λc=>!decide (qU c=0))with
     |false=>rw[g3]at d;cases d
     |true=>
      have o:rs≠[]:=λe=>by rw[e]at g3;cases g3
      have u:(rs.all λc=>Eo (qU c=0))=N2:=by grind[fC,aj]
      have J:0<rs.length:=cH.2 o;rw[ft (by omega),bu,aK4 l,u];rw[aH0 l o ?_ ?_ ?_];rfl;intro e;obtain⟨p,r,n,v,st,_⟩:=Jz (k:=0) s e;cases rs;exact o rfl;rename_i c cs;obtain⟨R,S,G,H,_,_⟩:=s
      grind[bE,ah,K2]
      intro e;obtain⟨p,r,n,v,st,g⟩:=Jz s e;obtain⟨rfl,hp⟩:=K2 st v;rw[show rs.length-1+1=rs.length by omega,fD]at g;have g:p+1=(fA b).length:=g
      grind
      intro k e e';obtain⟨p,r,n,v,st,g⟩:=Jz s e;obtain⟨rfl,hp⟩:=K2 st v;obtain⟨k1,k2⟩:=ak.1 e';rw[bq k1,k2]at g;obtain⟨R,S,G,H,_,_⟩:=g
      grind[bW3,K2]
  obtain⟨rs,e⟩:=r;simp only at f d;subst f;simp at d
end Dp
namespace Dp
theorem F_(k:Int):wj k=Q1 (om k):=BH k
def bO8(k:Int):om k=0\/om k=1\/om k=2\/om k=3:=by
 have h:=BH k
 grind[wv,ah]
def T_{l:List Int}(x:Int)(hl:l.length<2^62):EW (l,x)=Q1 (Eo (x∈l)):=He x hl
def VO:∀ {l:List Int},xo l=No->l.Pairwise (·<·)
 | [],_=>by simp
 | [a],_=>by simp
 |a::b::l,h=>by
  unfold xo at h;simp only[ab,cT,sG]at h;have c:=VO h.2
  grind[aR]
def Wn{l:List Int}(hl:l.length<=1000000)(h:l.Pairwise (·<·)):Ex l=Q1 No:=by
 unfold Ex;cases l;exact Dh λrec=>rfl;rename_i b rs;refine mw (A:=Int) rs (λi _=>((i+1:Nat):Int)) (λ_ _=>Q1 No) (λi a=>(b::rs)[i]?=Q1 a) (by simp at hl;omega) ?_ ?_ b rfl
 grind[aC]
 intro rec i a x rest a7 ha hd m;have d:(b::rs)[i+1]?=Q1 x:=by rw[aF];exact oU hd
 have e:aa.wrap (((i+1:Nat):Int)-1)=(i:Int):=by grind[fx]
 have f:aa.wrap (((i+1:Nat):Int)+1)=((i+1+1:Nat):Int):=f' (n:=2000000) (by simp at hl;omega) (by omega);obtain⟨g,a2⟩:=ak.1 ha;obtain⟨j,k⟩:=ak.1 d;have c:=bM.1 h i (i+1) g j (by omega);rw[a2,k]at c;simp only[aC,fB (show i+1<rs.length+1 by omega),b6,lQ,d,bT,e,f,ha]
 grind[decide_eq_false]
def B2{al:List b9}{ag:List ct}{fs:List Int}{l:List mf}(hl:l.length<=1000)(k:Int)(h:∀f∈l,wi ((al,ag,fs,l),f,k)=Q1 N2):xk ((al,ag,fs,l),k)=Q1 N2:=by
 unfold xk;refine mP (A:=Unit) l (λi _=>(i:Int)) (λ_ _=>Q1 N2) (by omega) ?_ ?_ ()
 grind
 intro rec i _ x rest a7 hd a;have b:x∈l:=ao (hd▸aJ ..);have hw:wi ((al,ag,fs,l),x,k)=Q1 N2:=h x b;simp only[fB a7,b6,h0 hd,bT,hw,bu,f' a7 (by omega:l.length<2^62)];exact a ()
def bU0{al:List b9}{ag:List ct}{fs:List Int}(h:fp al ag fs){f:mf}(hp:f.2.2.2.2.length<=1000)(cu:om f.2.1≠0)(hm:f.2.2.2.2.any (uO al ag fs f.2.1)=N2):Ez ((al,ag,fs),f)=Q1 No:=by
 have j:=h.qF;have k:=h.pA;have dC:=h.wX;unfold Ez;refine mP (A:=Unit) f.2.2.2.2 (λi _=>(i:Int)) (λ_ _=>Q1 No) (by omega) ?_ ?_ ()
 grind
 intro rec i _ x rest a7 hd d;have g:x∈f.2.2.2.2:=ao (hd▸aJ ..);have b:=cB.1 hm x g;have he:HA ((al,ag,fs),om f.2.1,x)=Q1 No:=by
  unfold HA;simp only;unfold uO at b;rw[KP al ag fs x (by omega),Hd al ag fs x (by omega) (λa ha=>by have:=h.q4 ha;omega),T_ x (by omega)];rcases bO8 f.2.1 with e|e|e|e
  exact b8 e cu;rw[e]at b⊢;cases c:nQ al x with
  |none=>rw[c]at b;exact b8 rfl b
  |some n=>rfl
  rw[e]at b⊢;cases c:px ag x with
  |none=>rw[c]at b;exact b8 rfl b
  |some n=>rfl
  rw[e]at b⊢;cases c:Eo (x∈fs)with
  |false=>rw[c]at b;exact b8 rfl b
  |true=>rfl
 simp only[fB a7,b6,h0 hd,bT,F_,he,aw,bu,f' a7 (by omega:f.2.2.2.2.length<2^62)];exact d ()
def aW7{f g:mf}(hf:f.2.2.2.2.length<=1000)(k:g.2.2.2.2.length<=1000)(H:om f.2.1≠2->om f.2.1=om g.2.1->(om f.2.1=3->f.2.1=g.2.1)->∀p∈f.2.2.2.2,p∉g.2.2.2.2):EL (f,g)=Q1 N2:=by
 have loop:(∀p∈f.2.2.2.2,p∉g.2.2.2.2)->rounds (α:=Int) (β:=Bool) (λd a=>
   bif (Eo (a<((f.2.2.2.2).length:Int)))then(
    a8 (nth f.2.2.2.2 a) λb=>
    a8 (EW (g.2.2.2.2,b)) λc=>
    bif c then(
    Q1 No)else(
    d (aa.wrap (a+(1:Int)))))else(
    Q1 N2)) (0:Int)=Q1 N2:=λe=>by
  refine mP (A:=Unit) f.2.2.2.2 (λi _=>(i:Int)) (λ_ _=>Q1 N2) (by omega) ?_ ?_ ()
  grind
  intro rec i _ x rest a7 hd h;have j:x∈f.2.2.2.2:=ao (hd▸aJ ..);simp only[fB a7,b6,h0 hd,bT,T_ x (by omega:g.2.2.2.2.length<2^62),ft (e x j),bu,f' a7 (by omega:f.2.2.2.2.length<2^62)];exact h ()
 grind[EL,F_,bT,om,decide_eq_true,decide_eq_false,aw,bB,absurd]
noncomputable def DM(f:mf):Int:=bif Eo (om f.2.1=3)then f.2.1 else 0
theorem Oq(S:List (sI×Bool))(k c:sI):uN (mI sd k No S) c=(Eo (c=k)||uN S c):=by
 have eq:∀a b:sI,sd a b=Eo (a=b):=λa b=>by
  unfold sd
  grind[eJ]
 unfold uN
 induction S<;>grind[fh,mI,decide_eq_true,decide_eq_false]
def Wg(k:Int):∀ {e:List Int} {S d:List (sI×Bool)},xP k e S=Q1 d->(∀p∈e,uN S (k,p)=N2)/\(∀q,uN S q=No->uN d q=No)/\∀p∈e,uN d (k,p)=No
 | [],S,d,h=>by grind[xP]
 |p::e,S,d,h=>by
  unfold xP at h;cases hs:uN S (k,p)with
  |true=>rw[hs]at h;cases h
  |false=>
   rw[hs,bu]at h;obtain⟨a,b,c⟩:=Wg k h
   grind[Oq,cE,decide_eq_true]
def Nf:∀ {l:List mf} {S:List (sI×Bool)},xN l S=N2->(∀f∈l,om f.2.1≠2->∀p∈f.2.2.2.2,uN S (DM f,p)=N2)/\l.Pairwise (λg f=>om g.2.1≠2->om f.2.1≠2->DM g=DM f->∀p∈g.2.2.2.2,p∉f.2.2.2.2)
 | [],S,_=>⟨by simp,by simp⟩
 |g::l,S,h=>by
  unfold xN at h;by_cases c:om g.2.1=2;rw[hT c,b6]at h;obtain⟨a,b⟩:=Nf h
  grind[aR,absurd]
  rw[ft c,bu]at h;split at h;rename_i d hs;have hs:xP (DM g) g.2.2.2.2 S=Q1 d:=hs;obtain⟨mJ,nj,rM⟩:=Wg _ hs;obtain⟨a,b⟩:=Nf h
  grind[aR,uN,DM]
  cases h
def bS2{al:List b9}{ag:List ct}{fs:List Int}{l:List mf}(hl:l.length<=1000)(hp:∀f∈l,f.2.2.2.2.length<=1000)(h:xN l []=N2):H8 (al,ag,fs,l)=Q1 N2:=by
 have d:=(Nf h).2;unfold H8;refine mP (A:=Unit) l (λi _=>(i:Int)) (λ_ _=>Q1 N2) (by omega) ?_ ?_ ()
 grind
 intro rec i _ f rest a7 hd q;have a:=oU hd;have hf:f∈l:=aH a;rw[fB a7,b6];have e:nth l (i:Int)=Q1 f:=h0 hd;refine mP (A:=Unit) (l.take i) (λk _=>(k:Int)) (λ_ _=>Q1 N2) (by simp;omega) ?_ ?_ ();intro b _;rw[cC,dp (by omega),kj,bu,f' a7 (by omega)];exact q ();intro b k _ g w hk sX j;rw[cC,dp (by omega)]at hk;have c:=oU sX;rw[fM hk]at c;have m:g∈l:=aH c;have n:nth l (k:Int)=Q1 g:=by rw[lQ];exact c
 obtain⟨r,a2⟩:=ak.1 c;obtain⟨s,t⟩:=ak.1 a;have o:=bM.1 d k i r s hk;rw[a2,t]at o;have hc:EL (f,g)=Q1 N2:=aW7 (hp f hf) (hp g m) λh2 he x p u v=>by grind[DM,om,decide_eq_true,decide_eq_false]
 simp only[fB hk,b6,e,n,bT,hc,bu,f' hk (by omega:i<2^62)];exact j ()
def be3{c b:Bool}(h:(bif c then No else b)=N2):c=N2/\b=N2:=by grind
def NS:∀ {l:List mf} {d:Option Int},AZ d l=N2->(∀f∈l,xo f.2.2.2.2=No)/\(l.map (·.1)).Pairwise (·<·)/\∀p,d=Q1 p->∀f∈l,p<f.1
 | [],_,_=>⟨by simp,by simp,by simp⟩
 |f::l,d,h=>by
  unfold AZ at h;obtain⟨h1,h⟩:=be3 h;obtain⟨a,b,c⟩:=NS h
  grind[cE,aR,of_decide_eq_false]
def aW9{al:List b9}{ag:List ct}{fs:List Int}{l:List mf}(cu:pD al ag fs l=0):HU (al,ag,fs,l)=Q1 0:=by
 have b:=vX cu;have h:=b.pl;have F:=(Dt h b.wR).1;have hl:=b.len;have hp:=b.parts;unfold pD at cu;have c:tH al ag fs=0:=by grind
 rw[c]at cu;simp only[l6,aw,bu]at cu;obtain⟨qN,cu⟩:=so (by decide) cu;obtain⟨fa,cu⟩:=so (by decide) cu;obtain⟨d,cu⟩:=so (by decide) cu;obtain⟨gb,cu⟩:=so (by decide) cu;obtain⟨lb,cu⟩:=so (by decide) cu;obtain⟨mN,cu⟩:=so (by decide) cu;obtain⟨oL,cu⟩:=so (by decide) cu;obtain⟨mn,cu⟩:=so (by decide) cu;obtain⟨wb,_⟩:=so (by decide) cu;obtain⟨d1,d2,_⟩:=NS d;have any:∀ {p:mf->Bool},l.any p=N2->∀f∈l,p f=N2:=λ{p} j f hf=>by grind[cB]
 unfold HU;simp only;rw[Ro h F];simp only[bT,l6,aw,bu,qN];refine mw (A:=List Int) l (λi a=>(a,(i:Int))) (λ_ _=>Q1 0) (λi a=>a=(l.take i).map (·.1)) (by omega) ?_ ?_ [] rfl;intro rec a ha;rw[cd]at ha;subst ha;simp only[kj,bu];rw[B2 (by omega) 3 λf hf=>?_,B2 (by omega) 10 λf hf=>?_,Wn (by simp;omega) d2,B2 (by omega) 2 λf hf=>?_,B2 (by omega) 9 λf hf=>?_,B2 (by omega) 14 λf hf=>?_,B2 (by omega) 1 λf hf=>?_,B2 (by omega) 7 λf hf=>?_,bS2 (by omega) (λf hf=>by have:=hp f hf;omega) wb];rfl;unfold wi;rw[show Eo (((7:Int))=3)=N2 from rfl,bu,show Eo (((7:Int))=10)=N2 from rfl,bu,show Eo (((7:Int))=2)=N2 from rfl,bu,show Eo (((7:Int))=9)=N2 from rfl,bu,show Eo (((7:Int))=14)=N2 from rfl,bu,show Eo (((7:Int))=1)=N2 from rfl,bu];have e:=bU0 h (f:=f) (by have:=hp f hf;omega) (λe=>by have:=any lb f hf;unfold rM at this;rw[e]at this;cases this) (any mn f hf);rw[show Ez ((al,ag,fs),f.1,f.2.1,f.2.2.1,f.2.2.2.1,f.2.2.2.2)=_ from e];rfl;have e:=any oL f hf;unfold xY at e
 grind[wi,F_,bT,om]
 have e:=any mN f hf;unfold s_ at e;unfold wi;rw[show Eo (((14:Int))=3)=N2 from rfl,bu,show Eo (((14:Int))=10)=N2 from rfl,bu,show Eo (((14:Int))=2)=N2 from rfl,bu,show Eo (((14:Int))=9)=N2 from rfl,bu,show Eo (((14:Int))=14)=No from rfl,b6];simp only;cases he:!(f.2.2.2.1.toList==(bW #[]).toList)with
 |false=>rfl
 |true=>
  rw[he,b6]at e;have g:Er f.2.2.2.1=0:=by simpa using e
  rw[b6,aZ5 g];rfl
 have e:=any lb f hf;unfold rM at e
 grind[wi,F_,bT]
 have e:=any gb f hf;unfold nj at e
 grind[wi]
 unfold wi;rw[show Eo (((10:Int))=3)=N2 from rfl,bu,show Eo (((10:Int))=10)=No from rfl,b6];simp only;rw[Wn (by have:=hp f hf;omega) (VO (d1 f hf))];rfl
 grind[wi]
 grind[fB,h0,bT,f',m9,bQ,oU]
end Dp
namespace Dp
def vl{l:List Int}(x:Int)(hl:l.length<=100000):m6 (l,x)=Q1 (Eo (x∈l)):=He x (by omega)
def U4{a b:List Int}(ha:a.length<=100000)(d:b.length<=100000):∃r,EV (a,b)=Q1 r:=by
 unfold EV;refine vB (A:=Unit) b (λi _=>(i:Int)) (λo=>∃r,o=Q1 r) (λ_ _=>True) (by omega) ?_ ?_ () trivial
 grind
 intro rec i _ x rest a7 _ hd c;simp only[fB a7,b6,h0 hd,bT,vl x ha,f' a7 (by omega:b.length<2^62)];exact sn ⟨_,rfl⟩ (c () trivial)
theorem OC{a b:List Int}(ha:a.length<=100000)(c:b.length<=100000):∃r,AL (a,b)=Q1 r:=by
 unfold AL;refine vB (A:=Unit) a (λi _=>(i:Int)) (λo=>∃r,o=Q1 r) (λ_ _=>True) (by omega) ?_ ?_ () trivial
 grind
 intro rec i _ x rest a7 _ hd d;simp only[fB a7,b6,h0 hd,bT,vl x c,f' a7 (by omega:a.length<2^62)];exact sn ⟨_,rfl⟩ (d () trivial)
section
variable (al:List b9) {ag:List ct} (fs:List Int) (hA:ag.length<=256)
include hA
theorem bh5{a b:List Int}(ha:a.length<=100000)(d:b.length<=100000):∃r,CJ ((al,ag,fs),a,b)=Q1 r:=by
 unfold CJ;obtain⟨c,hc⟩:=OC ha d;simp only[hc,bT];refine sn ⟨_,rfl⟩ ?_;refine vB (A:=Unit) ag (λi _=>(i:Int)) (λo=>∃r,o=Q1 r) (λ_ _=>True) (by omega) ?_ ?_ () trivial
 grind
 intro rec i _ x rest a7 _ hd e;have e:=e () trivial;simp only[fB a7,b6,h0 hd,bT,vl _ ha,vl _ d,f' a7 (by omega:ag.length<2^62)]
 grind
theorem QG{a:List Int}(ha:a.length<=100000):∃r:List Int,zg ((al,ag,fs),a)=Q1 r/\r.length<=512:=by
 unfold zg;refine vB (A:=List Int) ag (λi a=>((i:Int),a)) (λo=>∃r:List Int,o=Q1 r/\r.length<=512) (λi a=>a.length<=2*i) (by omega) ?_ ?_ [] (by simp)
 grind
 intro rec i r x rest a7 hl hd b;simp only[fB a7,b6,h0 hd,bT,vl _ ha,f' a7 (by omega:ag.length<2^62)]
 grind[m9,bT]
theorem bL2{a b:List Int}(ha:a.length<=100000)(d:b.length<=100000):∃r,CH ((al,ag,fs),a,b)=Q1 r:=by
 unfold CH;refine vB (A:=Unit) ag (λi _=>(i:Int)) (λo=>∃r,o=Q1 r) (λ_ _=>True) (by omega) ?_ ?_ () trivial
 grind
 intro rec i _ x rest a7 _ hd c;have c:=c () trivial;simp only[fB a7,b6,h0 hd,bT,vl _ ha,vl _ d,f' a7 (by omega:ag.length<2^62)]
 grind
theorem bQ9{a b:List Int}(ha:a.length<=100000)(d:b.length<=100000):∃r,CK ((al,ag,fs),a,b)=Q1 r:=by
 unfold CK;refine vB (A:=Unit) ag (λi _=>(i:Int)) (λo=>∃r,o=Q1 r) (λ_ _=>True) (by omega) ?_ ?_ () trivial
 grind
 intro rec i _ x rest a7 _ hd c;have c:=c () trivial;simp only[fB a7,b6,h0 hd,bT,vl _ ha,vl _ d,f' a7 (by omega:ag.length<2^62)]
 grind
theorem RU{f g:mf}(hf:f.2.2.2.2.length<=64)(c:g.2.2.2.2.length<=64):∃r,xl ((al,ag,fs),f,g)=Q1 r:=by
 unfold xl;obtain⟨a,d,h1⟩:=QG al fs hA (a:=f.2.2.2.2) (by omega);obtain⟨b,e,h2⟩:=QG al fs hA (a:=g.2.2.2.2) (by omega)
 grind[OC,bT]
theorem aK3{l:List mf}(hl:l.length<=128)(hp:∀f∈l,f.2.2.2.2.length<=64)(D:(l.map (·.1)).Nodup){f:mf}(hf:f∈l)(g:mf):∃r,zc ((al,ag,fs,l),f,g)=Q1 r:=by
 unfold zc;have bound:∀S:List Int,S.Nodup->(∀x∈S,x∈l.map (·.1))->S.length<=128:=λS h1 h2=>by have:=dx h1 h2;simp at this;omega
 refine V5 (λx=>x.1.Nodup/\∀y∈x.1,y∈l.map (·.1)) (λx=>2*(128-x.1.length)+(if x.2=No then 1 else 0)) (λo=>∃r,o=Q1 r) ?_ ⟨by simp,λy v=>by grind[bL,aK]⟩ (by simp);rintro rec ⟨d,b⟩ ⟨h,k⟩ E;have G:=bound d h k;cases b;simp only[bu,bT,vl _ (by omega:d.length<=100000)];exact⟨_,rfl⟩;simp only[b6];refine vB (A:=List Int×Bool) l (λi a=>(a.1,a.2,(i:Int))) (λo=>∃r,o=Q1 r) (λ_ a=>a.1.Nodup/\(∀y∈a.1,y∈l.map (·.1))/\d.length<=a.1.length/\(a.2=No->d.length<a.1.length)) (by omega) ?_ ?_ (d,N2) ⟨h,k,by simp,by simp⟩;rintro m ⟨S,b⟩ ⟨h1,h2,t,u⟩;simp only at h1 h2 t u;have:=bound S h1 h2;simp only[kj,bu];refine E (S,b) ⟨h1,h2⟩ ?_
 grind
 rintro m i a x rest a7 H hd M;have I:x∈l:=ao (hd▸aJ ..);have w:nth l (i:Int)=Q1 x:=h0 hd;simp only[fB a7,b6];refine vB (A:=List Int×Bool) l (λj a=>((j:Int),a.1,a.2)) (λo=>∃r,o=Q1 r) (λ_ a=>a.1.Nodup/\(∀y∈a.1,y∈l.map (·.1))/\d.length<=a.1.length/\(a.2=No->d.length<a.1.length)) (by omega) ?_ ?_ a H;rintro n N J
 grind[f']
 rintro n j ⟨S,b⟩ y O hj ⟨h1,h2,t,u⟩ p q;simp only at h1 h2 t u;have v:y∈l:=ao (p▸aJ ..);have K:=bound S h1 h2;obtain⟨mt,B⟩:=RU al fs hA (f:=x) (g:=y) (hp x I) (hp y v);have s:xl ((al,ag,fs),x,y)=Q1 mt:=B;have c:=q (S,b) ⟨h1,h2,t,u⟩;simp only at c;simp only[fB hj,b6,w,h0 p,bT,vl _ (by omega:S.length<=100000),s,f' hj (by omega:l.length<2^62)];refine sn (sn (sn ?_ c) c) c;by_cases C:y.1∈S
 grind[decide_eq_true,aw]
 rw[ft C,bB,b6];refine sn ?_ c;rw[m9 (by decide) (by simp;omega),bT];exact q (S++[y.1],No) ⟨dI.2 ⟨h1,by simp,λa ha b P e=>by grind[bL]⟩,λz hz=>by
  rcases aY.1 hz with hz|hz
  exact h2 z hz;rw[bL]at hz;subst hz;exact aK v,by simp;omega,λ_=>by simp;omega⟩
end
end Dp
open fp (ki k7 k3 l9)
set_option maxRecDepth 10000
namespace Dp
def vT(al:List b9)(ag:List ct)(id:Int):List Int:=match nQ al id with|some n=>ki al ag n|none=>[]
def Am(al:List b9)(ag:List ct)(fs:List Int)(id:Int):List Int :=bif Eo (0<((vT al ag id).flatMap λd=>[lT ag d,lT ag (-d)]).length)then(vT al ag id).flatMap λd=>[lT ag d,lT ag (-d)]else((va al ag fs).filter λr=>Eo (id∈r.2.2.2)).map λr=>r.1
section
variable {al:List b9} {ag:List ct} {fs:List Int} (h:fp al ag fs)
include h
theorem X0(id:Int):(vT al ag id).length<=512/\∀d∈vT al ag id,d∈k7 al ag:=by
 unfold vT;cases a:nQ al id with
 |none=>simp
 |some n =>have hm:n∈al:=aX a;exact⟨h.Mo hm,λd hd=>bG.2 ⟨_,aK hm,hd⟩⟩
theorem aG5(c:List Int):(wP al ag c).length<=256:=by unfold wP;rw[aI];have h1:=bn (λn:b9=>Eo (q8 al ag n.2=c)) (al.filter (r7 ag));have h2:=bn (r7 ag) al;have:=h.qF;omega
theorem Ji:va al ag fs=([]::fs.flatMap λf=>(m_ al ag).filter λc=>Eo (nx ag c=f)).map (ov al ag):=by grind[va,ku]
theorem au2:(va al ag fs).length<=1+64*512:=by
 rw[Ji h,aI,aC];have hp:(m_ al ag).length<=512:=by have h2:=bn (λc=>Eo (0<l5 al ag c)) (l9 al ag);have:=h.wK.len;unfold m_;omega
 have key:∀l:List Int,(l.flatMap λf=>(m_ al ag).filter λc=>Eo (nx ag c=f)).length<=l.length*512:=by
  intro l
  induction l<;>grind[bn,nx,m_,aS,aC]
 have:=key fs;have:=h.wX
 grind[Nat.mul_le_mul_right]
theorem Qi(F:CM al ag fs)(id:Int):CT ((al,ag,fs),id)=Q1 (Am al ag fs id):=by
 obtain⟨c,f⟩:=X0 h id;unfold CT Am;simp only;rw[show CP ((al,ag,fs),id)=Q1 (vT al ag id)from av6 h id,bT];generalize vT al ag id=A at *;refine mw (A:=List Int) A (λi a=>(a,(i:Int))) (λ_ _=>Q1 (bif Eo (0<(A.flatMap λd=>[lT ag d,lT ag (-d)]).length)then A.flatMap λd=>[lT ag d,lT ag (-d)]else((va al ag fs).filter λr=>Eo (id∈r.2.2.2)).map λr=>r.1)) (λi a=>a=(A.take i).flatMap (λd=>[lT ag d,lT ag (-d)])/\a.length=2*i) (by omega) ?_ ?_ [] ⟨rfl,rfl⟩;rintro rec a ⟨ha,_⟩;rw[cd]at ha;simp only[kj,bu];rw[ha];by_cases hz:0<(A.flatMap λd=>[lT ag d,lT ag (-d)]).length
 grind[decide_eq_true]
 rw[ft hz,bu,ft (by omega),bu];have he:A.flatMap (λd=>[lT ag d,lT ag (-d)])=[]:=List.eq_nil_of_length_eq_zero (by omega);rw[he,aF2 h F];simp only[bT];have l:=au2 h;have c:∀r∈va al ag fs,r.2.2.2.length<=100000:=λr g=>by grind[Ji,aG5,wP]
 generalize va al ag fs=R at *;refine mw (A:=List Int) R (λi a=>((i:Int),a)) (λa rest=>Q1 (a++(rest.filter λr=>Eo (id∈r.2.2.2)).map λr=>r.1)) (λi a=>a.length<=i) (by omega) ?_ ?_ [] (by simp)
 grind
 intro j i b x rest a7 o hd g;have m:=c x (ao (hd▸aJ ..));simp only[fB a7,b6,h0 hd,bT,vl id m,f' a7 (by omega:R.length<2^62),bV];cases Eo (id∈x.2.2.2)with
 |true=>
  rw[b6,m9 (by decide) (by simp;omega),bT,cr rfl]
  grind
 |false=>grind
 rintro rec i a d rest a7 ⟨ha,k⟩ e g;have hd:d∈A:=ao (e▸aJ ..);have p:=aw5 h (f d hd);have n:aa.wrap (0-d)=-d:=by grind[fx]
 simp only[fB a7,b6,h0 e,bT,n,K0 h (show nY d by unfold nY;omega),K0 h (show nY (-d)by unfold nY;omega),f' a7 (by omega:A.length<2^62)]
 grind[m9,bT,bQ,oU]
end
structure HP(al fin:List b9)(ag:List ct)(fs:List Int)(l:List mf):Prop where
 cu:pD al ag fs l=0
 h1:pD fin ag fs l=0
 yU:q5 ag al fin
 u9:∀c,wP fin ag c=wP al ag c
def aJ1{al fin:List b9}{ag:List ct}{fs:List Int}{l:List mf}(T:HP al fin ag fs l)(id:Int):Am fin ag fs id=Am al ag fs id:=by
 have h:=(vX T.cu).pl;have h':=(vX T.h1).pl;have d:vT fin ag id=vT al ag id:=by
  unfold vT;by_cases hd:na ag id=0;have z:∀(al:List b9) (n:b9),nQ al id=Q1 n->ki al ag n=[]:=λal n a=>by
   have:n.1=id:=by have:=db a;simpa using this
   unfold fp.ki;rw[O1 (by rw[this];exact hd)];rfl
  have b:∀al:List b9,(match nQ al id with|some n=>ki al ag n|none=>[])=[]:=λal=>by
   cases a:nQ al id with
   |none=>rfl
   |some n=>exact z al n a
  rw[b,b];rw[FX hd T.yU];cases nQ al id with
  |none=>rfl
  |some n=>exact Xc T.yU rfl λ_=>rfl
 have e:m_ fin ag=m_ al ag:=by unfold m_;rw[NT T.yU,funext (FT T.yU)]
 have f:((va fin ag fs).filter λr=>Eo (id∈r.2.2.2)).map (λr=>r.1)=((va al ag fs).filter λr=>Eo (id∈r.2.2.2)).map (λr=>r.1):=by
  rw[Ji h,Ji h',e,kH,kH,bZ,bZ];have:((λr:kI=>Eo (id∈r.2.2.2)) ∘ ov fin ag)=((λr:kI=>Eo (id∈r.2.2.2)) ∘ ov al ag):=by funext c;show Eo (id∈wP fin ag c)=Eo (id∈wP al ag c);rw[T.u9]
  have g1:((λr:kI=>r.1) ∘ ov fin ag)=nx ag:=funext λ_=>rfl;have g2:((λr:kI=>r.1) ∘ ov al ag)=nx ag:=funext λ_=>rfl;rw[this,g1,g2]
 unfold Am;rw[d,f]
end Dp
namespace Dp
abbrev vE:=Int×Int×Int
def cc4:mf:=(0,0,0,bW #[],[])
def sl(l:List mf)(i:Nat):mf:=(l[i]?).getD cc4
def yg(b:Int->mf->mf->Bool)(l:List mf)(k:Int)(i:Nat):List vE:=(aN l.length).flatMap λj=>bif !decide (i=j)&&b k (sl l i) (sl l j)then [(k,(sl l i).1,(sl l j).1)]else []
def qJ(b:Int->mf->mf->Bool)(l:List mf)(k:Int):List vE:=(aN l.length).flatMap (yg b l k)
def O7(b:Int->mf->mf->Bool)(l:List mf)(k:Int)(i:Nat):∀n:Nat,((aN n).flatMap λj=>bif !decide (i=j)&&b k (sl l i) (sl l j)then [(k,(sl l i).1,(sl l j).1)]else []).length<=n
 | 0=>by simp
 |n+1=>by have:=O7 b l k i n;rw[dH,dF,aS,bA,dz,bD];cases !decide (i=n)&&b k (sl l i) (sl l n)<;>simp only[b6,bu,dy,List.length_singleton]<;>omega
def F1(b:Int->mf->mf->Bool)(l:List mf)(k:Int):∀n:Nat,((aN n).flatMap (yg b l k)).length<=n*l.length
 | 0=>by simp
 |n+1=>by have:=F1 b l k n;have h2:(yg b l k n).length<=l.length:=O7 b l k n l.length;rw[dH,dF,aS,bA,dz,bD,Nat.add_mul];omega
section
variable {al:List b9} {ag:List ct} {fs:List Int} {l:List mf} {b:Int->mf->mf->Bool} (hb:∀k,∀f∈l,∀g∈l,tY ((al,ag,fs,l),k,f,g)=Q1 (b k f g)) (hl:l.length<=128)
include hb hl
theorem Rr{β:Type}(k:Int){i:Nat}(a7:i<l.length)(A:List vE)(s:A.length<=200000)(K:List vE->Option β) :
  Jf (al,ag,fs,l) k i A K=K (A++yg b l k i):=by
 unfold Jf;refine mw (A:=List vE) l (λj a=>((j:Int),a)) (λ_ _=>K (A++yg b l k i)) (λj a=>a=A++(aN j).flatMap (λj=>bif !decide (i=j)&&b k (sl l i) (sl l j)then [(k,(sl l i).1,(sl l j).1)]else [])) (by omega) ?_ ?_ A (by simp);intro rec a ha;simp only[kj,bu];rw[ha];rfl;intro rec j a g rest hj ha hd m;have n:g∈l:=ao (hd▸aJ ..);have hf:l[i]∈l:=ay a7;have o:sl l j=g:=by unfold sl;rw[oU hd];rfl
 have p:sl l i=l[i]:=by unfold sl;rw[af a7];rfl
 have d:nth l (i:Int)=Q1 l[i]:=by rw[lQ,af a7]
 have q:=hb k l[i] hf g n;have h:tY ((al,ag,fs,l),k,(l[i].1,l[i].2.1,l[i].2.2.1,l[i].2.2.2.1,l[i].2.2.2.2),g)=Q1 (b k l[i] g):=q;have hlen:a.length<=200000+j:=by rw[ha,aS];have:=O7 b l k i j;omega
 have r:Eo ((i:Int)=(j:Int))=Eo (i=j):=decide_eq_decide.2 (by omega);have next:∀c,c=a++(bif !decide (i=j)&&b k l[i] g then [(k,l[i].1,g.1)]else [])->rec (((j+1:Nat):Int),c)=K (A++yg b l k i):=λc e=>m c (by
  rw[e,ha,dH,dF,bA,dz,bD,p,o,bm])
 simp only[fB hj,b6,r,d,h0 hd,bT,h,f' hj (by omega:l.length<2^62)];cases hc:!decide (i=j)with
 |false =>rw[bu];exact next a (by rw[hc,fY,bu,bD])
 |true=>
  rw[b6];cases hv:b k l[i] g with
  |false =>rw[bu];exact next a (by rw[hc,hv,fI,bu,bD])
  |true =>rw[b6,m9 (by decide) (by simp;omega),bT];exact next _ (by rw[hc,hv,bw,b6])
theorem BX{β:Type}(k:Int)(A:List vE)(e:A.length<=150000)(y:Int×Int×Bool)(K:List vE×Int×Int×Int×Bool->Option β)(R:Option β)(c:∀s:List vE×Int×Int×Int×Bool,s.1=A++qJ b l k->K s=R) :
  yb (al,ag,fs,l) k K (A,(0:Int),y)=R:=by
 unfold yb;refine mw (A:=List vE×Int×Int×Bool) l (λi a=>(a.1,(i:Int),a.2.1,a.2.2.1,a.2.2.2)) (λ_ _=>R) (λi a=>a.1=A++(aN i).flatMap (yg b l k)) (by omega) ?_ ?_ (A,y) (by simp);intro rec a ha;simp only[kj,bu];exact c _ ha;intro rec i a f rest a7 ha hd d;have hlen:a.1.length<=200000:=by rw[ha,aS];have:=F1 b l k i;have:i*l.length<=128*128:=gm (by omega) hl;omega
 simp only[fB a7,b6];refine(Rr hb hl k a7 a.1 hlen (λr=>rec (r,aa.wrap ((i:Int)+1),(i:Int),(l.length:Int),No))).trans ?_;rw[f' a7 (by omega)];refine d (a.1++yg b l k i,(i:Int),(l.length:Int),No) ?_;simp only;rw[ha,dH,dF,bA,dz,bD,bm]
theorem Rn(cu:pD al ag fs l=0):A3 (al,ag,fs,l)=Q1 (qJ b l 1++qJ b l 2++qJ b l 3++qJ b l 4++qJ b l 5++qJ b l 6++qJ b l 7++qJ b l 8,0):=by
 have c:∀k,(qJ b l k).length<=16384:=λk=>by have:=F1 b l k l.length;have:l.length*l.length<=128*128:=gm hl hl;unfold qJ;omega
 have t1:=c 1;have t2:=c 2;have t3:=c 3;have t4:=c 4;have t5:=c 5;have t6:=c 6;have t7:=c 7;unfold A3;simp only[bT];rw[aW9 cu];simp only[bT,l6,aw,bu];refine mw (A:=List vE) l (λi a=>(a,(i:Int))) (λ_ _=>Q1 (qJ b l 1++qJ b l 2++qJ b l 3++qJ b l 4++qJ b l 5++qJ b l 6++qJ b l 7++qJ b l 8,0)) (λi a=>a=(aN i).flatMap (yg b l 1)) (by omega) ?_ ?_ [] (by simp);intro rec a ha;have ha:a=qJ b l 1:=ha;simp only[kj,bu];refine BX hb hl 2 a (by rw[ha];omega) _ _ _ λs2 d=>?_;refine BX hb hl 3 s2.1 (by rw[d,ha];simp;omega) _ _ _ λo e=>?_;refine BX hb hl 4 o.1 (by rw[e,d,ha];simp;omega) _ _ _ λp h=>?_;refine BX hb hl 5 p.1 (by rw[h,e,d,ha];simp;omega) _ _ _ λq j=>?_;refine BX hb hl 6 q.1 (by rw[j,h,e,d,ha];simp;omega) _ _ _ λs m=>?_;refine BX hb hl 7 s.1 (by rw[m,j,h,e,d,ha];simp;omega) _ _ _ λt n=>?_;refine BX hb hl 8 t.1 (by rw[n,m,j,h,e,d,ha];simp;omega) _ _ _ λw u=>?_;rw[u,n,m,j,h,e,d,ha];intro rec i a f rest a7 ha hd v;have hlen:a.length<=200000:=by rw[ha];have:=F1 b l 1 i;have:i*l.length<=128*128:=gm (by omega) hl;omega
 simp only[fB a7,b6];refine(Rr hb hl 1 a7 a hlen (λr=>rec (r,aa.wrap ((i:Int)+1)))).trans ?_;rw[f' a7 (by omega)];refine v _ ?_;rw[ha,dH,dF,bA,dz,bD]
end
end Dp
namespace Dp
structure az1(l:List mf):Prop where
 len:l.length<=128
 parts:∀f∈l,f.2.2.2.2.length<=64/\f.2.2.2.2≠[]
 ids:(l.map (·.1)).Nodup
def Pa{al:List b9}{ag:List ct}{fs:List Int}{l:List mf}(cu:pD al ag fs l=0):az1 l:=by
 have a:=vX cu;unfold pD at cu;have b:tH al ag fs=0:=by grind
 rw[b]at cu;simp only[l6,aw,bu]at cu;obtain⟨qN,cu⟩:=so (by decide) cu;obtain⟨fa,cu⟩:=so (by decide) cu;obtain⟨c,cu⟩:=so (by decide) cu;obtain⟨gb,cu⟩:=so (by decide) cu;obtain⟨lb,cu⟩:=so (by decide) cu;obtain⟨mN,cu⟩:=so (by decide) cu;obtain⟨oL,cu⟩:=so (by decide) cu;refine⟨a.len,λf hf=>⟨a.parts f hf,λe=>?_⟩,(NS c).2.1.imp λh=>by omega⟩;have:=cB.1 oL f hf;unfold xY at this;rw[e]at this;exact this rfl
def aW6{al:List b9}{ag:List ct}{fs:List Int}{l:List mf}(cu:pD al ag fs l=0)(k:Int){f g:mf}(hf:f∈l)(s:g∈l):∃b,tY ((al,ag,fs,l),k,f,g)=Q1 b:=by
 have q:=vX cu;have h:=q.pl;have F:=(Dt h q.wR).1;have P:=Pa cu;have e:=h.pA;obtain⟨f1,f2⟩:=P.parts f hf;obtain⟨g1,_⟩:=P.parts g s;have n0:∃p,nth f.2.2.2.2 (0:Int)=Q1 p:=by
  cases hp:f.2.2.2.2 with
  |nil=>exact b8 hp f2
  |cons p r=>exact⟨p,by rw[show(0:Int)=((0:Nat):Int)by rfl,lQ];rfl⟩
 obtain⟨p,t⟩:=n0;have c:(Am al ag fs p).length<=100000:=by
  unfold Am;have J:=(X0 h p).1;have a2:=au2 h;have a3:=bn (λr:kI=>Eo (p∈r.2.2.2)) (va al ag fs);have a4:∀A:List Int,(A.flatMap λd=>[lT ag d,lT ag (-d)]).length=2*A.length:=λA=>by induction A<;>grind[aS,aC]
  grind
 have u:=Qi h F p;obtain⟨K,v⟩:=U4 (a:=g.2.2.2.2) (b:=Am al ag fs p) (by omega) c;obtain⟨M,w⟩:=bh5 al fs e (a:=f.2.2.2.2) (b:=g.2.2.2.2) (by omega) (by omega);obtain⟨x,z,N⟩:=QG al fs e (a:=g.2.2.2.2) (by omega);have B:=vl (l:=x) p (by omega);obtain⟨O,C⟩:=OC (a:=f.2.2.2.2) (b:=g.2.2.2.2) (by omega) (by omega);obtain⟨Q,D⟩:=bL2 al fs e (a:=f.2.2.2.2) (b:=g.2.2.2.2) (by omega) (by omega);obtain⟨R,E⟩:=U4 (a:=g.2.2.2.2) (b:=f.2.2.2.2) (by omega) (by omega);obtain⟨G,H⟩:=RU al fs e (f:=f) (g:=g) f1 g1;have j:xl ((al,ag,fs),f,g)=Q1 G:=H;obtain⟨I,m⟩:=bQ9 al fs e (a:=f.2.2.2.2) (b:=g.2.2.2.2) (by omega) (by omega);obtain⟨n,o⟩:=aK3 al fs e P.len (λf hf=>(P.parts f hf).1) P.ids hf g;have i:zc ((al,ag,fs,l),f,g)=Q1 n:=o;unfold tY;simp only[F_,bT,t,u,v,w,z,B,C,D,E,j,m,i]
 grind
def aw3(al b:List b9)(ag:List ct)(fs a:List Int):zg ((b,ag,fs),a)=zg ((al,ag,fs),a):=rfl
def bb9(al c:List b9)(ag:List ct)(fs a b:List Int):CJ ((c,ag,fs),a,b)=CJ ((al,ag,fs),a,b):=rfl
def bL3(al c:List b9)(ag:List ct)(fs a b:List Int):CH ((c,ag,fs),a,b)=CH ((al,ag,fs),a,b):=rfl
def bR0(al c:List b9)(ag:List ct)(fs a b:List Int):CK ((c,ag,fs),a,b)=CK ((al,ag,fs),a,b):=rfl
def Rw(al a:List b9)(ag:List ct)(fs:List Int)(f g:mf):xl ((a,ag,fs),f,g)=xl ((al,ag,fs),f,g):=by unfold xl;simp only[aw3 al a]
def cb1(al a:List b9)(ag:List ct)(fs:List Int)(l:List mf)(f g:mf):zc ((a,ag,fs,l),f,g)=zc ((al,ag,fs,l),f,g):=by unfold zc;simp only[Rw al a]
theorem aN2{al fin:List b9}{ag:List ct}{fs:List Int}{l:List mf}(T:HP al fin ag fs l)(k:Int)(f g:mf):tY ((fin,ag,fs,l),k,f,g)=tY ((al,ag,fs,l),k,f,g):=by
 have b:=vX T.cu;have a:=vX T.h1;have c:∀id,CT ((fin,ag,fs),id)=CT ((al,ag,fs),id):=λid=>by rw[Qi b.pl (Dt b.pl b.wR).1,Qi a.pl (Dt a.pl a.wR).1,aJ1 T]
 unfold tY;simp only[c,aw3 al fin,bb9 al fin,bL3 al fin,bR0 al fin,Rw al fin,cb1 al fin]
def aT3{al fin:List b9}{ag:List ct}{fs:List Int}{l:List mf}(T:HP al fin ag fs l):∃L:List vE,L.length<=1000000/\A3 (al,ag,fs,l)=Q1 (L,0)/\A3 (fin,ag,fs,l)=Q1 (L,0):=by
 have P:=Pa T.cu;have a:∀k,∀f∈l,∀g∈l,tY ((al,ag,fs,l),k,f,g)=Q1 ((tY ((al,ag,fs,l),k,f,g)).getD N2):=λk f hf g d=>by obtain⟨b,a⟩:=aW6 T.cu k hf d;rw[a];rfl
 have c:∀k,∀f∈l,∀g∈l,tY ((fin,ag,fs,l),k,f,g)=Q1 ((tY ((al,ag,fs,l),k,f,g)).getD N2):=λk f hf g d=>by grind[aN2]
 have e:∀k,(qJ (λk f g=>(tY ((al,ag,fs,l),k,f,g)).getD N2) l k).length<=16384:=λk=>by have:=F1 (λk f g=>(tY ((al,ag,fs,l),k,f,g)).getD N2) l k l.length;have:l.length*l.length<=128*128:=gm P.len P.len;unfold qJ;omega
 have h:=Rn a P.len T.cu;have a2:=Rn c P.len T.h1
 grind[aS]
def bc7{L:List vE}(hl:L.length<=1000000):H2 (L,L)=Q1 No:=by
 unfold H2;simp only[l6,aw,bu];refine mP (A:=Unit) L (λi _=>(i:Int)) (λ_ _=>Q1 No) (by omega) ?_ ?_ ()
 grind
 intro rec i _ x rest a7 hd a;simp only[fB a7,b6,h0 hd,bT,l6,bw,aw,bu,f' a7 (by omega:L.length<2^62)];exact a ()
end Dp
open Go.Pg
open fp (ki k7 k3 l9)
set_option maxRecDepth 10000
namespace Dp
def VW(g:bs->bs->Int)(x:bs)(B:List bs):∀(A:List bs) (p:bs),oN g p (A++x::B)=oN g p (A++[x])+oN g x B
 | [],p=>by simp[oN]
 |a::A,p=>by simp only[cL,oN,VW g x B A a];omega
def Lo(P:Int->List bs)(z:bs):List Int->Prop
 | []=>True
 | [d]=>(P d).getLast?=Q1 z
 |d::e::r=>(P d).getLast?=(P e).head?/\Lo P z (e::r)
def ay3{q z:bs}{P:Int->List bs}:∀ {c:List Int},c≠[]->(∀d∈c,2<=(P d).length)->Lo P z c->pY q (c.flatMap (λd=>(P d).dropLast)++[z])=eb c λd=>pY q (P d)
 | [],h,_,_=>b8 rfl h
 | [d],_,hl,hc=>by
  have h2:=hl d (by simp);have f:P d≠[]:=λe=>by rw[e]at h2;simp at h2
  have hc:(P d).getLast?=Q1 z:=hc;rw[ie f]at hc;simp only[bA,dz,bD,eb,e_];rw[<-aQ hc,iq f]
 |d::e::r,_,hl,hc=>by
  obtain⟨h1,h2⟩:=hc;have g:=ay3 (q:=q) (by simp) (λx i=>hl x (by simp[i])) h2;have l2:=hl d (by simp);have mi:=hl e (by simp);have f:P d≠[]:=λx=>by rw[x]at l2;simp at l2
  obtain⟨x,t,j⟩:∃x t,(e::r).flatMap (λd=>(P d).dropLast)++[z]=x::t/\(P e).head?=Q1 x:=by
   cases hp:P e with
   |nil=>rw[hp]at mi;simp at mi
   |cons a s =>cases s;rw[hp]at mi;simp at mi;rename_i b s;exact⟨a,_,by rw[bA,hp];rfl,rfl⟩
  rw[j.2,ie f]at h1;have i:(P d).getLast f=x:=aQ h1;rw[bA,bm,j.1];rw[j.1]at g;have hs:pY q (x::t)=oN (nG q) x t:=rfl;rw[hs]at g;show _=pY q (P d)+eb (e::r) λd=>pY q (P d);rw[<-g];have hd:=iq f;rw[i]at hd;cases k:(P d).dropLast with
  |nil=>rw[k]at hd;rw[<-hd]at l2;simp at l2
  |cons a s =>rw[k]at hd;rw[<-hd];exact VW (nG q) x t s a
def aE0{q:bs}(f:d' q=No){P:List bs}(g:∀p∈P,d' p=No){a:bs}(ha:P.head?=Q1 a):∀(l:List bs) (x:bs) (i:Nat) (b:Bool) (n:Int),P.drop i=x::l->b=Eo (n%2=1)->rD P q (x::l) i b=Eo ((n+oN (nG q) x (l++[a]))%2=1)
 |l,x,i,b,n,hd,j=>by
  have a7:i<P.length:=(rl hd).1;have k:x∈P:=(rl hd).2.2;have h:a∈P:=List.mem_of_head? ha;have step:∀y:bs,y∈P->(bif yZ q x y then !b else b)=Eo ((n+nG q x y)%2=1):=λy d=>by grind[aq9,nG,yZ,cT,decide_eq_false_iff_not]
  unfold rD;cases l;have hl:i+1=P.length:=by have:=lU eP hd;simp at this;omega
  grind[jv,jd,step,rD,oN]
  rename_i y l;have sX:P.drop (i+1)=y::l:=by grind[kp,iL]
  have c:i+1<P.length:=(rl sX).1;have d:y∈P:=(rl sX).2.2;have e:((P[(i+1)%P.length]?).getD (0,0))=y:=by rw[cQ c,oU sX];rfl
  rw[e,step y d,aE0 f g ha l y (i+1) _ (n+nG q x y) sX rfl]
  grind[oN,gQ]
section
variable {al:List b9} {ag:List ct} {fs:List Int} (h:fp al ag fs)
include h
theorem Wy:∀(l:List ct) (m:List (Int×List bs)),(∀a∈l,a∈ag)->(l.map (·.1)).Pairwise (·<·)->∀a∈l,fh gd a.1 (pM al ag l m)=Q1 (sy al ag a)/\fh gd (-a.1) (pM al ag l m)=Q1 (sy al ag a).reverse
 | [],m,_,_,a,ha=>by simp at ha
 |b::l,m,hm,hp,a,ha=>by
  simp only[au,aR]at hp;have c:∀(l:List ct) (m:List (Int×List bs)) (k:Int),(∀a∈l,a.1≠k/\-a.1≠k)->fh gd k (pM al ag l m)=fh gd k m:=by
   intro l
   induction l with
   |nil=>intro m k _;rfl
   |cons x l e=>
    intro m k hk;obtain⟨f,g⟩:=hk x (by simp);show fh gd k (pM al ag l _)=_
    grind[rV]
  have rI:=h.num (hm b (by simp));rcases aD.1 ha with rfl|ha
  have hk:∀x∈l,(x.1≠a.1/\-x.1≠a.1)/\x.1≠-a.1/\-x.1≠-a.1:=λx d=>by grind[aK]
  constructor;show fh gd a.1 (pM al ag l _)=_
  grind[rV]
  show fh gd (-a.1) (pM al ag l _)=_
  grind[rV]
  exact Wy l _ (λx d=>hm x (by simp[d])) hp.2 a ha
theorem IH{d:Int}(hd:d∈k7 al ag):(fh gd d (pM al ag ag [])).getD []=mS al ag d/\2<=(mS al ag d).length:=by
 obtain⟨a,ha,hc⟩:=h.uP.1 hd;obtain⟨l2,mi⟩:=Wy h ag [] (λ_ x=>x) (pq h.rX) a ha;obtain⟨f,t,_,_,hp,_⟩:=h.path ha;have b:=h.num ha
 grind[sy,mS,la,jG]
theorem cb5{d:Int}(hd:d∈k7 al ag):(mS al ag d).getLast?=(mS al ag (-d)).head?:=by
 obtain⟨a,ha,hc⟩:=h.uP.1 hd;have b:=h.num ha
 grind[mS,la,List.head?_reverse,List.getLast?_reverse]
theorem ay5{d:Int}(hd:d∈k7 al ag):(mS al ag d).getLast?=(mS al ag (k3 al ag d)).head?:=by
 rw[cb5 h hd];have c:=h.JN hd;obtain⟨l,hl,a⟩:=bG.1 c;obtain⟨n,b,rfl⟩:=aM.1 hl;have h1:=NW h b a;have e:=h.Ap b a
 grind[NW,k3,Dk,jd]
theorem ag2{d:Int}(hd:d∈k7 al ag):∀(m i:Nat),Lo (mS al ag) (((mS al ag (ot (k3 al ag) d (i+m))).head?).getD (0,0)) ((dX i m).map (ot (k3 al ag) d))
 | 0,i=>trivial
 | 1,i=>by have hm:=vU (λd hd=>h.qK hd) hd i;have he:=ay5 h hm;have mi:=(IH h (h.qK hm)).2;show(mS al ag (ot (k3 al ag) d i)).getLast?=Q1 _;rw[he];show(mS al ag (k3 al ag (ot (k3 al ag) d i))).head?=Q1 (((mS al ag (k3 al ag (ot (k3 al ag) d i))).head?).getD (0,0));cases b:mS al ag (k3 al ag (ot (k3 al ag) d i))<;>grind[mS,k3,ot]
 |m+2,i=>by have a:=ag2 hd (m+1) (i+1);have hm:=vU (λd hd=>h.qK hd) hd i;rw[show i+1+(m+1)=i+(m+2)by omega]at a;exact⟨ay5 h hm,a⟩
theorem aI3{c:List Int}(hc:c∈l9 al ag){q:bs}(v:d' q=No)(hoff:∀a∈ag,pB q ((pathOf al ag a.1).getD [])=N2):rD (vn (pM al ag ag []) c) q (vn (pM al ag ag []) c) 0 N2=nF (l8 al ag) c q:=by
 have hm:∀a∈ag,fh gd a.1 (l8 al ag)=pathOf al ag a.1:=λa ha=>h.D1 ha;have j:∀d∈c,d∈k7 al ag:=λd hd=>h.zS hc hd;obtain⟨d,m,hd,w,he,rfl⟩:=h.xF.1.y5 c hc;have i:=ag2 h hd m 0;rw[a_,he]at i;have z:lS (k3 al ag) d m=(dX 0 m).map (ot (k3 al ag) d):=by unfold lS;rw[List.range_eq_range']
 rw[<-z]at i;have n:vn (pM al ag ag []) (lS (k3 al ag) d m)=(lS (k3 al ag) d m).flatMap λd=>(mS al ag d).dropLast:=by grind[vn,bY,IH]
 rw[n];have f:=ay3 (q:=q) (P:=mS al ag) (λe=>by
  have:=lU eP e;simp[lS]at this;omega) (λx g=>(IH h (j x g)).2) i
 have Ao:∀x∈k7 al ag,∀p∈mS al ag x,d' p=No:=λx g p hp=>by
  obtain⟨_,c2,B⟩:=w7 h (h.zT g).1;obtain⟨_,_,ha⟩:=B x (h.zT g).2;obtain⟨p0,l,e,_,n0,nl,_⟩:=Qb h ha
  grind
 have hz:∃a s,mS al ag d=a::s/\s≠[]:=by have mi:=(IH h hd).2;cases hp:mS al ag d<;>grind[mS]
 obtain⟨a,s,k,hs⟩:=hz;have o:∃t,(lS (k3 al ag) d m).flatMap (λd=>(mS al ag d).dropLast)=a::t:=by obtain⟨u,rfl⟩:∃u,m=u+1:=⟨m-1,by omega⟩;unfold lS;rw[gh,au,bA];show ∃t,(mS al ag d).dropLast++_=a::t;rw[k];cases s<;>grind[absurd]
 obtain⟨t,o⟩:=o;have r:∀p∈a::t,d' p=No:=λp hp=>by grind[List.dropLast_sublist]
 rw[k]at f;rw[o]at f⊢;rw[aE0 v r rfl t a 0 N2 0 rfl (by decide),gv];have f:oN (nG q) a (t++[a])=eb (lS (k3 al ag) d m) λd=>pY q (mS al ag d):=f;rw[f,dm,decide_eq_true_iff,FU];have same:∀x∈lS (k3 al ag) d m,pY q (mS al ag x)=pY q ((fh gd (la x) (l8 al ag)).getD [])/\pB q ((fh gd (la x) (l8 al ag)).getD [])=N2:=λx g=>by
  obtain⟨b,C,D⟩:=h.uP.1 (j x g);have E:=h.num C
  grind[la,mS,Oc]
 rw[ns λx g=>(same x g).1]
 grind
end
end Dp
namespace Dp
def WQ{q:bs}:∀ {l1:List oP},(∀o∈l1,rD o.2.2 q o.2.2 0 N2=N2)->qo q l1=0
 | [],_=>rfl
 |o::r,h=>by unfold qo;rw[h o (by simp),bu];exact WQ λx a=>h x (by simp[a])
def Wz{q:bs}:∀ {l1:List oP},(∃o∈l1,rD o.2.2 q o.2.2 0 N2=No)->∃pre o post,l1=pre++o::post/\rD o.2.2 q o.2.2 0 N2=No/\(∀x∈pre,rD x.2.2 q x.2.2 0 N2=N2)/\qo q l1=o.1
 | [],h=>by grind
 |o::r,h=>by
  unfold qo;cases ho:rD o.2.2 q o.2.2 0 N2 with
  |true=>exact⟨[],o,r,rfl,ho,by simp,rfl⟩
  |false=>
   obtain⟨x,b,a7⟩:=h;have a:x∈r:=by grind
   obtain⟨pre,o',post,e,h1,h2,c⟩:=Wz ⟨x,a,a7⟩
   grind
section
variable {al:List b9} {ag:List ct} {fs:List Int} (h:fp al ag fs) (hf:(oH ag fs.length No (nP al ag) [] []).2=No)
include h hf
theorem aY2(o:oP):o∈qd al ag fs↔∃c∈m_ al ag,o=(nx ag c,l5 al ag c,vn (pM al ag ag []) c):=by
 have hp:(qd al ag fs).Perm (vw al ag (xW al ag fs)):=tG (Iz _);have f:(xW al ag fs).Perm (uY (tT al ag fs) (nP al ag)):=tG (IA _);have b:=(Dt h hf).2;have g:=au5 h;have i:∀c∈m_ al ag,c≠[]:=λc hc=>(w7 h (BT h hc).1).1;have j:(nP al ag).map (λa=>a.2.1)=[]::m_ al ag:=by have:=lU (cm λx:Int×List Int×List (List Int)=>x.2.1) g;rw[bZ,bZ]at this;simpa[eK,sE]using this
 have d:tT al ag fs=(nP al ag).map (λa=>nx ag a.2.1):=by
  have:(nP al ag).map (λa=>nx ag a.2.1)=((nP al ag).map (λa=>a.2.1)).map (nx ag):=by rw[bZ];rfl
  rw[this,j,b];rfl
 have hz:uY (tT al ag fs) (nP al ag)=(nP al ag).map λx=>(nx ag x.2.1,x.2.1,x.2.2.1,x.2.2.2):=by
  rw[d];unfold uY;generalize nP al ag=L
  induction L with
  |nil=>rfl
  |cons x L k=>rw[au,List.zipWith_cons_cons,k,au]
 rw[hp.mem_iff];unfold vw;constructor
 grind[m_,aK]
 rintro ⟨c,hc,rfl⟩;have:c∈(nP al ag).map (λa=>a.2.1):=by grind[bf]
 obtain⟨x,l,e⟩:=aM.1 this
 grind[nx]
theorem ao3{q:bs}(i:d' q=No)(hoff:∀a∈ag,pB q ((pathOf al ag a.1).getD [])=N2):qo q (qd al ag fs)=nx ag (q8 al ag q):=by
 have hm:=aY2 h hf;have d:∀c∈m_ al ag,rD (vn (pM al ag ag []) c) q (vn (pM al ag ag []) c) 0 N2=nF (l8 al ag) c q:=λc hc=>aI3 h (BT h hc).1 i hoff;have hs:(qd al ag fs).Pairwise (λa b=>a.2.1<=b.2.1):=(Da (Iz _)).imp λ{a b} x=>by unfold zr at x;rw[uk]at x;omega
 by_cases hex:∃o∈qd al ag fs,rD o.2.2 q o.2.2 0 N2=No;obtain⟨pre,o,post,e,h1,h2,k⟩:=Wz hex;rw[k];obtain⟨c,hc,rfl⟩:=(hm o).1 (by rw[e];simp);simp only at h1⊢;rw[d c hc]at h1;rw[SC h i hc h1];intro l g m;have j:=(hm _).2 ⟨l,g,rfl⟩
 grind[aR]
 have f:∀o∈qd al ag fs,rD o.2.2 q o.2.2 0 N2=N2:=λo ho=>by grind[rD,absurd]
 rw[WQ f,aC5 h λc hc=>?_];rfl;rw[<-d c hc];exact f _ ((hm _).2 ⟨c,hc,rfl⟩)
theorem Rz(q:bs):q8 al ag q=[]\/q8 al ag q∈m_ al ag:=by unfold q8;cases b:(m_ al ag).find? λc=>nF (l8 al ag) c q&&(m_ al ag).all λa=>!nF (l8 al ag) a q||Eo (l5 al ag c<=l5 al ag a)<;>grind[m_,nF,l8,l5,aX]
theorem aM8{p q:bs}(hp:d' p=No)(c:d' q=No)(op:∀a∈ag,pB p ((pathOf al ag a.1).getD [])=N2)(d:∀a∈ag,pB q ((pathOf al ag a.1).getD [])=N2)(e:qo p (qd al ag fs)=qo q (qd al ag fs)):q8 al ag p=q8 al ag q:=by
 rw[ao3 h hf hp op,ao3 h hf c d]at e;have F:=(Dt h hf).1;rcases Rz h hf p with a|a<;>rcases Rz h hf q with b|b
 rw[a,b];rw[a,Ss]at e;exact b8 e.symm (F.ne _ b);rw[b,Ss]at e;exact b8 e (F.ne _ a);obtain⟨i,a7,f⟩:=aT a;obtain⟨j,hj,g⟩:=aT b;have:=(dK (h₀:=by simpa using a7) (h₁:=by simpa using hj) F.j0).1 (by grind);subst this;rw[<-f,<-g]
end
def aw8{al:List b9}{ag:List ct}{fs:List Int}(h:fp al ag fs){r:List fy}(c:my al ag ag=Q1 r){q:bs}(ho:∀s∈r,mc (hi s) (gl s) q=N2):∀a∈ag,pB q ((pathOf al ag a.1).getD [])=N2:=by intro a ha;obtain⟨f,t,_,_,hp,_⟩:=h.path ha;rw[hp];refine fp.OU q _ _ λi x y d b=>?_;have a7:i+1<(f.2::(a.2.2.2.1++[t.2])).length:=(ak.1 b).1;have hs:(mF a (f.2::(a.2.2.2.1++[t.2])),(i:Int))∈r:=u5 c a ha _ hp _ (vM a7);have o:nJ al ag (mF a (f.2::(a.2.2.2.1++[t.2])),(i:Int)) a _ i:=⟨ha,hp,a7,rfl⟩;have e:=aQ (o.rO.symm.trans d);have ey:=aQ (o.se.symm.trans b);rw[<-e,<-ey];exact ho _ hs
end Dp
namespace Dp
def bZ5(al:List b9)(ag:List ct)(fs:List Int):∃b,HV (al,ag,fs)=Q1 b:=by
 unfold HV;refine sn ⟨_,rfl⟩ ?_;by_cases h:(40:Int)<(ag.length:Int);simp only[hT h,b6];exact⟨_,rfl⟩;simp only[ft h,bu];refine sn ⟨_,rfl⟩ ?_;let g:Int->List ct->Bool:=λa rest=>rest.foldr (λx (k:Int->Bool) a=>bif Eo ((300:Int)<(x.2.2.2.1.length:Int))then N2 else k (aa.wrap (a+(x.2.2.2.1.length:Int)))) (λa=>Eo (a<=300)) a;refine⟨g 0 ag,mP (A:=Int) ag (λi a=>(a,(i:Int))) (λa rest=>Q1 (g a rest)) (by omega) ?_ ?_ 0⟩
 grind
 intro rec i a x rest a7 hd c;simp only[fB a7,b6,h0 hd,bT,f' a7 (show ag.length<2^62 by omega)]
 grind
def aQ0(al:List b9)(ag:List ct)(fs:List Int)(l:List mf):∃b,HN (al,ag,fs,l)=Q1 b:=by
 unfold HN;obtain⟨b,c⟩:=bZ5 al ag fs;simp only[c,bT];refine sn ⟨_,rfl⟩ ?_;by_cases h:(20:Int)<(l.length:Int)
 grind[decide_eq_true]
 simp only[ft h,bu];refine⟨l.all (λx=>(!decide ((70:Int)<(x.2.2.2.2.length:Int)))&&!decide ((200:Int)<(x.2.2.2.1.size:Int))),mP (A:=Unit) l (λi _=>(i:Int)) (λ_ rest=>Q1 (rest.all (λx=>(!decide ((70:Int)<(x.2.2.2.2.length:Int)))&&!decide ((200:Int)<(x.2.2.2.1.size:Int))))) (by omega) ?_ ?_ ()⟩
 grind
 intro rec i a x rest a7 hd d;have:=d ();simp only[fB a7,b6,h0 hd,bT,f' a7 (show l.length<2^62 by omega),this,bU]
 grind
def Kept(l1:List oP)(gap:Int)(s cur:List b9):Prop:=∀c∈cur,∃n∈s,n.1=c.1/\qo (l3 c) l1=qo (l3 n) l1/\(-gap<=c.2.1-n.2.1/\c.2.1-n.2.1<=gap)/\-gap<=c.2.2-n.2.2/\c.2.2-n.2.2<=gap
def ar9{j7:List nE}{l1:List oP}{offs:List bs}{gap:Int}{o_:Int->Bool}{s:List b9}(a:∀o∈offs,-gap<=o.1/\o.1<=gap/\-gap<=o.2/\o.2<=gap):∀(l cur:List b9),(∀n∈l,n∈s)->Kept l1 gap s cur->Kept l1 gap s (yN j7 l1 offs gap o_ l cur)
 | [],_,_,h=>h
 |n::l,cur,hl,h=>by
  unfold yN;refine ar9 a l _ (λm hm=>hl m (by simp[hm])) ?_;cases o_ n.1 with
  |false=>exact h
  |true=>
   rw[b6];unfold Et;cases b:vh j7 l1 offs gap cur n with
   |none=>exact h
   |some p=>
    obtain⟨h1,_,o,ho,rfl⟩:=OB b;have d:=a o ho;have hf:=(O2.1 h1).2.2.2;intro c hc;rcases yF hc with⟨hc,_⟩|rfl
    exact h c hc;exact⟨n,hl n (by simp),rfl,hf,by simp only;omega,by simp only;omega⟩
def as4{ag:List ct}{P e:b9->Bool}:∀ {l b:List b9},q5 ag l b->(∀n∈l,∀a∈b,a.1=n.1->r7 ag n=No->e a=P n)->((b.filter (r7 ag)).filter e).map (λn=>n.1)=((l.filter (r7 ag)).filter P).map (λn=>n.1)
 | [],[],_,_=>rfl
 | [],_::_,h,_=>h.elim
 |_::_,[],h,_=>h.elim
 |n::l,a::b,h,hp=>by
  have c:=as4 h.2.2 λm hm f d=>hp m (by simp[hm]) f (by simp[d]);have el:r7 ag a=r7 ag n:=by unfold r7;rw[h.1]
  rw[bV,bV,el];cases hl:r7 ag n with
  |false=>rw[cc (by decide),cc (by decide)];exact c
  |true=>
   rw[cr rfl,cr rfl,bV,bV,hp n (by simp) a (by simp) h.1 hl];cases P n with
   |false=>rw[cc (by decide),cc (by decide)];exact c
   |true=>rw[cr rfl,cr rfl,au,au,c,h.1]
def bV1{al:List b9}{ag:List ct}{fs:List Int}{l:List mf}(cu:pD al ag fs l=0){gap:Int}(g0:0<=gap)(g1:gap<=64) :
  ∃fin,Ba ((al,ag,fs,l),gap)=Q1 ((fin,ag,fs,l),0)/\HP al fin ag fs l/\fin.length=al.length/\∀(i:Nat) (n c:b9),al[i]?=Q1 n->fin[i]?=Q1 c->c.1=n.1/\(-gap<=c.2.1-n.2.1/\c.2.1-n.2.1<=gap)/\-gap<=c.2.2-n.2.2/\c.2.2-n.2.2<=gap:=by
 have h:=vX cu;have I:=bO7 h cu g0 g1;have d:=I_ h.pl;have J:∀o∈qH gap.toNat,-gap<=o.1/\o.1<=gap/\-gap<=o.2/\o.2<=gap:=λo ho=>by have:=ax3 ho;omega
 have j:=as1 (j7:=pz al ag ag) (l1:=qd al ag fs) (offs:=qH gap.toNat) (gap:=gap) (o_:=vq ag l) J g0 al al;have a:=ar9 (j7:=pz al ag ag) (l1:=qd al ag fs) (offs:=qH gap.toNat) (gap:=gap) (o_:=vq ag l) (s:=al) J al al (λ_ x=>x) (λc hc=>⟨c,hc,rfl,rfl,by omega,by omega⟩);generalize yN (pz al ag ag) (qd al ag fs) (qH gap.toNat) gap (vq ag l) al al=fin at I j a;obtain⟨D,inv⟩:=Inv.run d al [] al fin (λ_ h=>h) d (λ_ _ h=>by simp at h) (Inv.start (R7 h.pl)) j;have t:q5 ag al fin:=RS (o_:=λn=>vq ag l n.1) (λn _ hm=>by grind[vq]) d (λ_ h=>h) inv.ids inv.MK;have k:∀n∈fin,lR n.2=No:=λn f=>by by_cases hm:n∈al;exact h.pl.tt hm;exact(inv.b n f hm).1
 have E:(fin.map (·.1)).Nodup:=by rw[inv.ids];exact d
 have w:sC [] fin=N2:=Q_ (s:=al) [] fin (by simpa using inv.p) (by simpa using E);have off:∀r,my al ag ag=Q1 r->∀s∈r,∀n∈fin,na ag n.1=0->mc (hi s) (gl s) n.2=N2:=λr u s hs n f hd=>by
  by_cases hm:n∈al;exact aw0 h.pl u hs hm hd;obtain⟨_,ho,_⟩:=inv.b n f hm;obtain⟨g,R,M,N⟩:=q_ h.pl u hs;have G:pg gap (l3 n) g=N2:=by grind[pg,fC]
  cases B:mc (hi s) (gl s) n.2 with
  |false=>rfl
  |true=>
   rw[<-M,<-N]at B;have f:oJ gap (l3 n) g=No:=by
    unfold mc sU at B;simp only[ab,kA,pI,pC]at B;unfold oJ l3;simp only[ab,kA]
    grind
   unfold pg at G;rw[f,show mc (pI g) (pC g) (l3 n)=No from B]at G;simp at G
 have H:pD fin ag fs l=0:=aW8 cu h.pl t k w off;have hlen:fin.length=al.length:=by have:=lU eP inv.ids;simpa using this
 refine⟨fin,I,⟨cu,H,t,λc=>?_⟩,hlen,λi n c f hc=>?_⟩;obtain⟨r,u⟩:=h.pl.j7;have K:m_ fin ag=m_ al ag:=by grind[m_,NT,FT]
 have z:q8 fin ag=q8 al ag:=by grind[q8,ah9,FT]
 unfold wP;rw[z];refine as4 t λn f C v e hl=>?_;have hd:na ag n.1=0:=pK hl;obtain⟨m,hm,em,O,_⟩:=a C v;have:m=n:=KW d hm f (em.trans e);subst this;have:=aM8 h.pl h.wR (p:=C.2) (q:=m.2) (rS (k C v)) (rS (h.pl.tt hm)) (aw8 h.pl u λs hs=>off r u s hs C v (by rw[e];exact hd)) (aw8 h.pl u λs hs=>aw0 h.pl u hs hm hd) O;rw[this];have a7:(fin.map (·.1))[i]?=(al.map (·.1))[i]?:=by rw[inv.ids]
 rw[aO,aO,f,hc]at a7;have e:c.1=n.1:=aQ a7;obtain⟨m,hm,em,_,P,Q⟩:=a c (aH hc);have:m=n:=KW d hm (aH f) (em.trans e);subst this;exact⟨e,P,Q⟩
theorem cb4{l:List Int}(hl:l.length<=1000):Mk (l,l)=Q1 No:=RT hl
theorem aF0{l:List bs}(hl:l.length<=1000):Hx (l,l)=Q1 No:=by
 unfold Hx;simp only[l6,aw,bu];refine mP (A:=Unit) l (λi _=>(i:Int)) (λ_ _=>Q1 No) (by omega) ?_ ?_ ()
 grind
 intro rec i _ x rest a7 hd a;simp only[fB a7,b6,h0 hd,bT,l6,bw,aw,bu,f' a7 (by omega:l.length<2^62)];exact a ()
def bK8{al:List b9}{ag:List ct}{fs:List Int}(h:fp al ag fs):H3 ((al,ag,fs),(al,ag,fs))=Q1 No:=by
 have h1:=h.qF;have h2:=h.pA;have b:=h.wX;unfold H3;simp only[l6,aw,bu];refine mP (A:=Unit) al (λi _=>(i:Int)) (λ_ _=>Q1 No) (by omega) ?_ ?_ ();intro rec _;simp only[kj,bu];refine mP (A:=Unit) ag (λi _=>(i:Int)) (λ_ _=>Q1 No) (by omega) ?_ ?_ ();intro rec _;simp only[kj,bu];refine mP (A:=Unit) fs (λi _=>(i:Int)) (λ_ _=>Q1 No) (by omega) ?_ ?_ ()
 grind
 intro rec i _ x rest a7 hd a;simp only[fB a7,b6,h0 hd,bT,l6,aw,bu,f' a7 (by omega:fs.length<2^62)];exact a ();intro rec i _ x rest a7 hd a;have hv:=h.q4 (ao (hd▸aJ ..):x∈ag);have ha:HD (x,x)=Q1 No:=by grind[HD,decide_true,aF0,bT]
 simp only[fB a7,b6,h0 hd,bT,ha,aw,bu,f' a7 (by omega:ag.length<2^62)];exact a ();intro rec i _ x rest a7 hd a;simp only[fB a7,b6,h0 hd,bT,l6,bw,aw,bu,f' a7 (by omega:al.length<2^62)];exact a ()
def bK9{al:List b9}{ag:List ct}{fs:List Int}{l:List mf}(h:fp al ag fs)(P:az1 l):H0 ((al,ag,fs,l),(al,ag,fs,l))=Q1 No:=by
 have hl:=P.len;unfold H0;simp only[bK8 h,bT,l6,aw,bu];refine mP (A:=Unit) l (λi _=>(i:Int)) (λ_ _=>Q1 No) (by omega) ?_ ?_ ()
 grind
 intro rec i _ x rest a7 hd a;have hp:=(P.parts x (ao (hd▸aJ ..))).1;have ha:Hr (x,x)=Q1 No:=by grind[Hr,decide_true,cb4,bT]
 simp only[fB a7,b6,h0 hd,bT,ha,aw,bu,f' a7 (by omega:l.length<2^62)];exact a ()
def aO9(f:zd ()=Q1 No)(al:List b9)(ag:List ct)(fs:List Int)(l:List mf)(gap:Int):Ev ((al,ag,fs,l),gap)=Q1 No:=by
 unfold Ev;obtain⟨b,m⟩:=aQ0 al ag fs l;simp only[m,f,bT];cases b;rfl;simp only[aw,bu];by_cases o:6<gap
 grind[decide_eq_true]
 simp only[ft o,bu];by_cases hc:pD al ag fs l=0/\0<=gap;obtain⟨cu,g0⟩:=hc;obtain⟨fin,p,T,hlen,a⟩:=bV1 cu g0 (show gap<=64 by omega);have c:=(vX cu).pl;have q:=c.qF;obtain⟨L,r,s,a2⟩:=aT3 T;have t:aa.wrap (0-gap)=-gap:=by grind[fx]
 have d:Eo ((al.length:Int)=(fin.length:Int))=No:=hT (by omega);have u:=bc7 r;have g:=bK9 (l:=l) c (Pa cu);simp only[p,bT,l6,aw,bu,s,a2,u,d,g,b6,t];refine mP (A:=Unit) al (λi _=>(i:Int)) (λ_ _=>Q1 No) (by omega) ?_ ?_ ()
 grind
 intro rec i _ x rest a7 hd v;have h:=oU hd;have j:i<fin.length:=by omega
 have e:fin[i]?=Q1 fin[i]:=af j;obtain⟨w,z,B⟩:=a i x fin[i] h e;have k:nth fin (i:Int)=Q1 fin[i]:=by rw[lQ,e]
 simp only[fB a7,b6,h0 hd,bT,k,w,l6,aw,bu,f' a7 (by omega:al.length<2^62)];rw[fx (n:=fin[i].2.1-x.2.1) (by omega) (by omega),fx (n:=fin[i].2.2-x.2.2) (by omega) (by omega),ft (by omega),bu,ft (by omega),bu,ft (by omega),bu,ft (by omega),bu];exact v ()
 grind[bH6,pD,left,bT,decide_eq_false,bB]
end Dp
set_option maxRecDepth 100000
namespace Dp
noncomputable section
def B5(a b p:bs):Int:=(b.1-a.1)*(p.1-a.1)+(b.2-a.2)*(p.2-a.2)
def pJ(a b:bs):Int:=(b.1-a.1)*(b.1-a.1)+(b.2-a.2)*(b.2-a.2)
def Au(a b p:bs):Int:=bif Eo (B5 a b p<=0)then pJ a p else bif Eo (pJ a b<=B5 a b p)then pJ b p else fr a b p*fr a b p / pJ a b
def ap6(a b p:bs):Bool:=[a,b,p].all λq=>Eo (-20<=q.1)&&(Eo (q.1<=20)&&(Eo (-20<=q.2)&&Eo (q.2<=20)))
def A4(n:Int):Bool:=Eo (0<=n)&&(Eo (n<=1000000)&&Eo (zI (n,1)=Q1 (0,n)))
def Gr(a b p:bs):Bool:=ap6 a b p&&(A4 (Au a b p)&&(Eo (B5 a b p<=0)||(Eo (pJ a b<=B5 a b p) ||
 ((Eo (pJ a b=100)||Eo (pJ a b=16))&&(Eo (FD (fr a b p,fr a b p,pJ a b)=Q1 (Au a b p,0))&&Eo (fr a b p*fr a b p=Au a b p*pJ a b))))))
theorem bk0{L:Int}(h:L=100\/L=16):DK (0,L)=Q1 L:=by
 have d:Bk (0,L)=Q1 L:=by
  rcases h with rfl|rfl
  exact FC 0 100 (by decide);exact FC 0 16 (by decide)
 have s0:rU 0=Q1 0:=by kernel_rfl
 have s1:rU L=Q1 L:=by rcases h with rfl|rfl<;>kernel_rfl
 have s2:xx (L,N2)=Q1 (L,No):=by rcases h with rfl|rfl<;>kernel_rfl
 grind[DK,bT]
theorem aH7{a b p:bs}(h:Gr a b p=No):yw (a,b,p)=Q1 (Au a b p,1):=by
 unfold Gr at h;rw[ab,ab]at h;obtain⟨h1,h2,e⟩:=h;unfold A4 at h2;simp only[ab,kA]at h2;obtain⟨m1,m2,m3⟩:=h2;unfold ap6 at h1;simp only[bU,gp,dN,ab,kA]at h1;obtain⟨ha,C,hp⟩:=h1;have c:d' a=No:=(wH a).2 (by omega);have rI:d' b=No:=(wH b).2 (by omega);have d:d' p=No:=(wH p).2 (by omega);have g:vJ [a,b,p]=Q1 No:=by rw[GS,c,rI,d];rfl
 have D:=vI (A:=40) (a:=b.1-a.1) (b:=p.1-a.1) (by omega) (by omega) (by omega) (by omega);have E:=vI (A:=40) (a:=b.2-a.2) (b:=p.2-a.2) (by omega) (by omega) (by omega) (by omega);have i:vD (a,b)=Q1 (pJ a b):=(Dl c rI).1;have j:vD (a,p)=Q1 (pJ a p):=(Dl c d).1;have k:vD (b,p)=Q1 (pJ b p):=(Dl rI d).1;have l:aa.wrap (b.1-a.1)=b.1-a.1:=fx (by omega) (by omega);have m:aa.wrap (p.1-a.1)=p.1-a.1:=fx (by omega) (by omega);have n:aa.wrap ((b.1-a.1)*(p.1-a.1))=(b.1-a.1)*(p.1-a.1):=fx (by omega) (by omega);have o:aa.wrap (b.2-a.2)=b.2-a.2:=fx (by omega) (by omega);have q:aa.wrap (p.2-a.2)=p.2-a.2:=fx (by omega) (by omega);have r:aa.wrap ((b.2-a.2)*(p.2-a.2))=(b.2-a.2)*(p.2-a.2):=fx (by omega) (by omega);have s:aa.wrap ((b.1-a.1)*(p.1-a.1)+(b.2-a.2)*(p.2-a.2))=B5 a b p:=fx (by omega) (by omega);unfold yw;simp only[g,bT,aw,bu,i,j,k,l,m,n,o,q,r,s];unfold Au at *;cases c1:Eo (B5 a b p<=0)with
 |true=>rfl
 |false=>
  rw[bu,bu];cases c2:Eo (pJ a b<=B5 a b p)with
  |true=>rfl
  |false=>
   rw[bu,bu];rw[c1,c2]at e m1 m2 m3;simp only[bu,cY,ab,bC,kA]at e m1 m2 m3;obtain⟨G,t,u⟩:=e;have H:xy (a,b,p)=Q1 (fr a b p):=Fa a b p c rI d;generalize fr a b p*fr a b p / pJ a b=w at t u m1 m2 m3⊢;have f:0<pJ a b/\pJ a b<=100:=by omega
   have hw:w*pJ a b<=1000000*100:=Int.mul_le_mul m2 f.2 (by omega) (by omega);have v:0<=w*pJ a b:=aL m1 (by omega);have I:aa.wrap (fr a b p*fr a b p)=w*pJ a b:=by grind[fx]
   have J:aa.wrap (w*pJ a b)=w*pJ a b:=fx (by omega) (by omega);have K:aa.wrap (w*pJ a b-w*pJ a b)=0:=by rw[Int.sub_self];rfl
   have M:an.wrap w=w:=by show w%18446744073709551616=w;omega
   have N:Eo (pJ a b=0)=N2:=ft (by omega);have O:aa.wrap ((pJ a b).tdiv (pJ a b))=1:=by rw[Int.tdiv_self (by omega)];rfl
   have P:aa.wrap ((0:Int).tdiv (pJ a b))=0:=by rw[Int.zero_tdiv];rfl
   have Q:an.wrap 1=1:=rfl;have R:an.wrap 0=0:=rfl;have x:zJ (w,0,0)=Q1 (w,0):=by
    unfold zJ
    grind[decide_eq_true,decide_true,bw]
   have z:Eo ((9223372036854775807:Int)<w)=N2:=ft (by omega);have B:aa.wrap w=w:=fx (by omega) (by omega)
   grind[bk0,bT]
def SQ{n:Int}(cu:0<=n)(h1:n<=1000000):BE (n,1)=Q1 No:=by
 obtain⟨a,b,c,a2,a3⟩:=tQ n;have a3:=a3 (by omega) (by omega);obtain⟨m,rfl⟩:=Int.eq_ofNat_of_zero_le cu;have d:rU 1=Q1 1:=by kernel_rfl
 grind[Bk,Nat.gcd,FC,BE,bT,Nat.gcd_one_right]
theorem aV8{n m:Int}(d:A4 n=No)(hm:A4 m=No):∃c,wM ((n,1),(m,1))=Q1 c/\(c<0↔n<m):=by
 unfold A4 at d hm;simp only[ab,kA]at d hm;obtain⟨f,g,h⟩:=d;obtain⟨m1,m2,m3⟩:=hm;obtain⟨a,i,_,_,a3⟩:=tQ n;obtain⟨b,j,_,_,e⟩:=tQ m;have a3:a=n:=by grind
 have e:b=m:=by grind
 subst a3;subst e;have k:rU 1=Q1 1:=by kernel_rfl
 have c1:Eo (a<0)=N2:=ft (by omega);have c2:Eo (b<0)=N2:=ft (by omega);unfold wM;simp only[SQ f g,SQ m1 m2,i,j,k,h,m3,c1,c2,bT,aw,bu,beq_self_eq_true,l6,b6]
 grind[decide_true,decide_eq_false,decide_eq_true]
def Nn(gap:Int)(q:bs)(g:nE):Bool:=oJ gap q g&&(mc (pI g) (pC g) q||Eo (Au (pI g) (pC g) q<gap*gap))
def Ar(gap:Int)(j7:List nE)(q:bs):Bool:=A4 (gap*gap)&&j7.all λg=>!oJ gap q g||Gr (pI g) (pC g) q
def aT6{gap:Int}{j7:List nE}{q:bs}(h:Ar gap j7 q=No):∀g∈j7,pg gap q g=Nn gap q g:=by grind[Ar,aj,pg,Nn,oJ,Gr,A4,Au,aV8,Fk,aH7,wM]
def GX(j7:List nE)(l1:List oP)(cur:List b9)(id:Int)(p0 q:bs)(gap:Int):Bool :=bif lR q then(bif cur.any (yR (gap*gap) id q)then N2 else bif j7.any (Nn gap q)then N2 else Eo (qo q l1=qo p0 l1))else N2
def any_eq{α:Type}{f g:α->Bool}:∀ {l:List α},(∀x∈l,f x=g x)->l.any f=l.any g
 | [],_=>rfl
 |x::l,h=>by grind
theorem OE{j7:List nE}{l1:List oP}{cur:List b9}{id gap:Int}{p0 q:bs}(h:Ar gap j7 q=No):qc j7 l1 cur id p0 q gap=GX j7 l1 cur id p0 q gap:=by unfold qc GX;rw[any_eq (aT6 h)]
def Ly(j7:List nE)(l1:List oP)(offs:List bs)(gap:Int)(cur:List b9)(n:b9):Option bs :=bif GX (j7.filter (oJ (2*gap) (l3 n))) l1 cur n.1 (l3 n) (l3 n) gap then Ld else(offs.find? (λo=>GX (j7.filter (oJ (2*gap) (l3 n))) l1 cur n.1 (l3 n) (n.2.1+o.1,n.2.2+o.2) gap)).map λo=>(n.2.1+o.1,n.2.2+o.2)
theorem find_eq{α:Type}{f g:α->Bool}:∀ {l:List α},(∀x∈l,f x=g x)->l.find? f=l.find? g
 | [],_=>rfl
 |x::l,h=>by rw[da,da,h x (by simp),find_eq λy a=>h y (by simp[a])]
def aQ6{j7:List nE}{l1:List oP}{offs:List bs}{gap:Int}{cur:List b9}{n:b9}(h:Ar gap (j7.filter (oJ (2*gap) (l3 n))) (l3 n)=No)
  (h2:(offs.all λo=>Ar gap (j7.filter (oJ (2*gap) (l3 n))) (n.2.1+o.1,n.2.2+o.2))=No):vh j7 l1 offs gap cur n=Ly j7 l1 offs gap cur n:=by grind[vh,Ly,OE,find_eq,aj]
end
end Dp
namespace Dp
def nB(s:Int):List ct:=[(1,1,1,[(s,0),(s,s),(0,s)],1,0)]
def j0(x y:Int):List b9:=[(1,0,0),(2,x,y)]
def q3:List mf:=[(7,1,1,bW #[],[2])]
theorem bn9:([1,-1]:List Int).mergeSort (λa b=>Eo (a<=b))=[-1,1]:=by simp[List.mergeSort,List.merge]
structure EX(x y s t:Int):Prop where
 yD:pD (j0 x y) (nB s) [1] q3=0
 ol:qd (j0 x y) (nB s) [1]=[(1,t,[(0,0),(s,0),(s,s),(0,s)])]
 ap2:pz (j0 x y) (nB s) (nB s)=[(0,0,s,0),(s,0,s,s),(s,s,0,s),(0,s,0,0)]
def LY{x y s t:Int}(h1:fp.k7 (j0 x y) (nB s)=[1,-1])(h2:qW (fp.k3 (j0 x y) (nB s)) [1,-1] [-1,1] [] []=[[-1],[1]])
  (a:sL (j0 x y) (nB s) (l8 (j0 x y) (nB s)) [[-1],[1]]=[(0,[],[[-1]],[]),(t,[1],[],[2])])
  (e:(bif Eo (tJ (j0 x y) (nB s) [1]=0)then(bif (oH (nB s) 1 No [(0,[],[[-1]],[]),(t,[1],[],[2])] [] []).2 then 0 else 12)else tJ (j0 x y) (nB s) [1])=0)
  (b:(q3.any (λf=>f.2.2.2.2.any (uO (j0 x y) (nB s) [1] f.2.1)))=N2)
  (g:oy zr (vw (j0 x y) (nB s) (oy zq (uY (oH (nB s) 1 No [(0,[],[[-1]],[]),(t,[1],[],[2])] [] []).1 [(0,[],[[-1]],[]),(t,[1],[],[2])])))=[(1,t,[(0,0),(s,0),(s,s),(0,s)])])
  (c:pz (j0 x y) (nB s) (nB s)=[(0,0,s,0),(s,0,s,s),(s,s,0,s),(0,s,0,0)]):EX x y s t:=by
 have d:fp.l9 (j0 x y) (nB s)=[[-1],[1]]:=by grind[fp.l9,bn9]
 have h:nP (j0 x y) (nB s)=[(0,[],[[-1]],[]),(t,[1],[],[2])]:=by unfold nP;rw[d];exact a
 have rg:tH (j0 x y) (nB s) [1]=0:=by
  unfold tH
  grind
 refine⟨?_,?_,c⟩;unfold pD;rw[rg,b]
 kernel_rfl
 grind[qd,xW,tT]
def bN9:EX 5 1 10 200:=LY (by kernel_rfl) (by kernel_rfl) (by kernel_rfl) (by kernel_rfl) (by kernel_rfl) (by kernel_rfl) (by kernel_rfl)
def LA:EX 3 3 10 200:=LY (by kernel_rfl) (by kernel_rfl) (by kernel_rfl) (by kernel_rfl) (by kernel_rfl) (by kernel_rfl) (by kernel_rfl)
def P5:EX 2 1 4 32:=LY (by kernel_rfl) (by kernel_rfl) (by kernel_rfl) (by kernel_rfl) (by kernel_rfl) (by kernel_rfl) (by kernel_rfl)
def aC1{x y s t:Int}(h:EX x y s t){r:Option bs}(h1:Ar 3 ((pz (j0 x y) (nB s) (nB s)).filter (oJ 6 (x,y))) (x,y)=No)
  (h2:((qH 3).all λo=>Ar 3 ((pz (j0 x y) (nB s) (nB s)).filter (oJ 6 (x,y))) (x+o.1,y+o.2))=No)
  (a:Ly (pz (j0 x y) (nB s) (nB s)) [(1,t,[(0,0),(s,0),(s,s),(0,s)])] (qH 3) 3 (j0 x y) (2,x,y)=r) (hm:vq (nB s) q3 2=No) :
  vz ((j0 x y,nB s,[1],q3),2,3)=Q1 (match r with|some p=>(([(1,0,0),(2,p.1,p.2)],nB s,[1],q3),No,0)|none=>((j0 x y,nB s,[1],q3),N2,0)):=by
 have:=ba5 (vX h.yD) h.yD (gap:=3) (by decide) (by decide) (n:=(2,x,y)) (by simp[j0]) hm;have e:vh (pz (j0 x y) (nB s) (nB s)) (qd (j0 x y) (nB s) [1]) (qH (Int.toNat 3)) 3 (j0 x y) (2,x,y)=r:=by rw[h.ol,<-a];exact aQ6 h1 h2
 rw[e]at this;rw[this];cases r<;>rfl
def bO2:vz ((j0 5 1,nB 10,[1],q3),2,3)=Q1 ((j0 3 3,nB 10,[1],q3),No,0):=aC1 bN9 (r:=Q1 (3,3)) (by kernel_rfl) (by kernel_rfl) (by kernel_rfl) (by kernel_rfl)
def bO3:vz ((j0 2 1,nB 4,[1],q3),2,3)=Q1 ((j0 2 1,nB 4,[1],q3),N2,0):=aC1 P5 (r:=Ld) (by kernel_rfl) (by kernel_rfl) (by kernel_rfl) (by kernel_rfl)
def bO4:∃s,vz ((j0 2 1,nB 4,[1],q3),1,3)=Q1 (s,N2,13):=aM6 (vX P5.yD) P5.yD (gap:=3) (by decide) (by decide) (n:=(1,0,0)) (by simp[j0]) (by kernel_rfl)
def av5(p:bs){b:Bool}(h1:Ar 3 (pz (j0 3 3) (nB 10) (nB 10)) p=No)(h2:GX (pz (j0 3 3) (nB 10) (nB 10)) [(1,200,[(0,0),(10,0),(10,10),(0,10)])] (j0 3 3) 2 (3,3) p 3=b) :
  zx ((j0 3 3,nB 10,[1],q3),2,p,3)=Q1 b:=by
 have:=aR8 (vX LA.yD) LA.yD (gap:=3) (by decide) (by decide) 2 p;have e:nQ (j0 3 3) 2=Q1 (2,3,3):=by kernel_rfl
 have a:Eo (0<na (nB 10) 2)=N2:=by kernel_rfl
 rw[e,LA.ol]at this;rw[this,<-h2,<-OE h1];simp only[a,bu];rfl
def be9:zx ((j0 3 3,nB 10,[1],q3),2,(5,5),3)=Q1 No:=av5 (5,5) (by kernel_rfl) (by kernel_rfl)
def bf0:zx ((j0 3 3,nB 10,[1],q3),2,(5,2),3)=Q1 N2:=av5 (5,2) (by kernel_rfl) (by kernel_rfl)
def bV9:zd ()=Q1 No:=by
 have s1:CQ (10,(5,1))=Q1 (j0 5 1,nB 10,[1],q3):=rfl;have s2:CQ (4,(2,1))=Q1 (j0 2 1,nB 4,[1],q3):=rfl;obtain⟨z,hz⟩:=bO4;have o1:wu 1=Q1 (qH 1,0):=IU (by decide) (by decide);have o2:wu 65=Q1 ([],2):=We (by decide);have l2:qH 1=[(-1,-1),(0,-1),(1,-1),(-1,0),(1,0),(-1,1),(0,1),(1,1)]:=by kernel_rfl
 unfold zd;simp only[s1,s2,bO2,bO3,hz,o1,o2,l2,bT,be9,bf0];rfl
end Dp
namespace Dp
def aQ8(al:List b9)(ag:List ct)(fs:List Int)(l:List mf)(gap:Int):Ev ((al,ag,fs,l),gap)=Q1 No:=aO9 bV9 al ag fs l gap
end Dp
end Go.Ab
