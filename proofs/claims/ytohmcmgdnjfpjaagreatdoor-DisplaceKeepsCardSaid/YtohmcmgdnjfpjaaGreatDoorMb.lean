/- A part of the proof; its readable source lies in wip of the prover's repo (squeezed here for the limit of bytes). -/
import Derived.Test.YtohmcmgdnjfpjaaGreatDoorMa
import Derived.IntWalk
import Derived.Carry
import Derived.ChangeSame
set_option linter.all false
open Array renaming all_eq_true_iff_forall_mem->eM,eq_empty_of_size_eq_zero->gR,getElem?_eq_getElem->bj,getElem?_eq_none->eV,getElem?_eq_some_iff->aP,getElem?_push->cJ,getElem?_setIfInBounds_ne->gP,getElem?_setIfInBounds_self_of_lt->gk,replicate->bx
open BitVec renaming ofInt->bO
open Bool renaming and_eq_true->ab,and_self->bw,and_true->dN,false_eq_true->aG,not_eq_true'->cT,or_eq_true->bC,true->No,false->N2
open Decidable renaming decide->Eo
open Function renaming comp_def->eK
open Go.Act renaming put->iO
open Go.DataW renaming Trod->lz,TrodAll->gI
open Go.Instr renaming next->iG,range->k_
open Go.Oper renaming upon->ik,wp->fX
open Go.Region renaming binds->ch,ready->bN,wanted->cU
open Go.Result renaming andThen_ok->aq
open Go.Sem renaming run_bind->aA,run_pure->bd
open Go.Utf8 renaming decode->bI
open Go.Value renaming bool->ly,okWide->gy
open Go.Value.bool renaming injEq->iW
open List renaming all_cons->bU,all_eq_true->aj,all_map->fW,all_nil->gp,any_eq_true->fC,append_assoc->bm,append_nil->bD,append_of_mem->jP,cons_append->cL,eq_nil_of_length_eq_zero->dJ,filter_cons->bV,filter_eq_self->gz,getElem?_append_left->iH,getElem?_append_right->dY,getElem?_cons_succ->aF,getElem?_eq_getElem->af,getElem?_eq_some_iff->ak,getElem?_map->aO,getElem?_set_ne->jq,getElem_map->b_,getElem_mem->ay,length->eP,length_cons->aC,length_map->aI,length_singleton->fw,map->cm,map_append->ez,map_congr_left->bY,map_cons->au,map_map->bZ,map_nil->dj,mem_append->aY,mem_append_left->dq,mem_cons->aD,mem_cons_of_mem->bf,mem_filterMap->dc,mem_map->aM,mem_of_getElem?->aH,mem_range->gw,mem_singleton->bL,nil_append->cG,nodup_cons->cS,range'->dX,range->aN
open List.cons renaming injEq->cN
open Nat renaming add_assoc->eY,add_comm->iU,add_mul->cn,add_sub_cancel_left->f_,beq->ax,beq_eq->cg,ble->dD,blt->cM,blt_eq->bP,eq_of_beq_eq_true->ae,le_add_right->aV,le_of_ble_eq_true->aZ,le_refl->aB,le_succ->jQ,le_trans->bz,mod_two_eq_zero_or_one->iF,mul_le_mul_right->bS,strongRecOn->gO,zero_add->a_
open Ne renaming symm->jL
open Option renaming getD_some->cA,map_none->dU,map_some->ai,some->Q1,none->Ld
open Option.some renaming injEq->ah
namespace Go.Ab
open Go
variable [nO]
variable {i k:Nat}{α β:Type}
mutual
def ar.ff(k:Nat):ar->Bool
 | .ey i=>cM i k
 | .c8 _ _ i=>cM i k
 | .ps _ i _=>cM i k
 | .mY c=>c.ff k
 | .rs es=>Fc k es
 | .fT cs=>rL k cs
 | .fn _ a c=>rL k a&&rL k c
 | .agg cs=>rL k cs
 | .ed cs=>rL k cs
 |_=>No
def rL(k:Nat):List ar->Bool
 | []=>No
 |c::cs=>c.ff k&&rL k cs
def Fc(k:Nat):List (List ar)->Bool
 | []=>No
 |c::cs=>rL k c&&Fc k cs
end
variable {a:Nat->ar}{b:ar}{θ:Nat->ar}
mutual
theorem k6{θ d:Nat->ar}{k:Nat}(h:∀i,i<k->d i=θ i):∀v:ar,v.ff k=No->v.sub d=v.sub θ
 | .any,_=>by simp
 | .b4 v,_=>by simp
 | .rs es,b=>by simp only[ar.sub];rw[Ny h es (by simpa[ar.ff]using b)]
 | .fT cs,b=>by simp only[ar.sub];rw[wA h cs (by simpa[ar.ff]using b)]
 | .ms ..,_=>by simp
 | .mp ..,_=>by simp
 | .mm _,_=>by simp
 | .it _,_=>by simp
 | .fn f a c,b=>by simp only[ar.ff,ab]at b;simp only[ar.sub];rw[wA h a b.1,wA h c b.2]
 | .agg cs,b=>by simp only[ar.sub];rw[wA h cs (by simpa[ar.ff]using b)]
 | .ed cs,b=>by simp only[ar.sub];rw[wA h cs (by simpa[ar.ff]using b)]
 | .ey i,b=>by simp only[ar.ff,bP]at b;simp[h i b]
 | .c8 id e i,b=>by simp only[ar.ff,bP]at b;simp[h i b]
 | .ps id i off,b=>by simp only[ar.ff,bP]at b;simp only[ar.sub,h i b]
 | .mY c,b=>by simp only[ar.sub];rw[k6 h c (by simpa[ar.ff]using b)]
theorem wA{θ a:Nat->ar}{k:Nat}(h:∀i,i<k->a i=θ i):∀l:List ar,rL k l=No->ni a l=ni θ l
 | [],_=>by simp[ni]
 |c::cs,b=>by simp only[rL,ab]at b;simp only[ni];rw[k6 h c b.1,wA h cs b.2]
theorem Ny{θ a:Nat->ar}{k:Nat}(h:∀i,i<k->a i=θ i):∀l:List (List ar),Fc k l=No->o8 a l=o8 θ l
 | [],_=>by simp[o8]
 |c::cs,b=>by simp only[Fc,ab]at b;simp only[o8];rw[wA h c b.1,Ny h cs b.2]
end
def c7.ff(k:Nat):c7->Bool
 | .row _ _ es=>Fc k es
 | .map _ es _=>es.all λe=>e.2.1.ff k
 | .fN _ _ i=>cM i k
 | .nC c=>c.ff k
 | .qh s p=>s.ff k&&p.ff k
 | .nH _ _ c _ i _ v=>c.ff k&&(i.ff k&&(match v with|some x=>x.ff k|none=>No))
 |_=>No
def c7.k6{b:Nat->ar}(h:∀i,i<k->b i=θ i)(o:c7)(a:o.ff k=No):o.sub b=o.sub θ:=by
 cases o with
 |row e z es=>simp only[c7.sub];rw[<-vQ,<-vQ,Ny h es a]
 |map agg es c =>simp only[c7.sub];congr 1;apply bY;intro e he;rw[Go.Ab.k6 h _ (aj.1 a e he)]
 |fN e z i=>simp only[c7.ff,bP]at a;simp only[c7.sub];rw[h i a]
 |nC c=> simp only[c7.sub];rw[Go.Ab.k6 h c a]
 |qh s p=>simp only[c7.ff,ab]at a;simp only[c7.sub];rw[Go.Ab.k6 h s a.1,Go.Ab.k6 h p a.2]
 |nH e z c ck i off v =>simp only[c7.ff,ab]at a;simp only[c7.sub];rw[Go.Ab.k6 h c a.1,Go.Ab.k6 h i a.2.1];cases v;rfl;rename_i x;simp only[ai];rw[Go.Ab.k6 h x a.2.2]
 |_=>rfl
def e8.all{α:Type}(p:α->Bool):e8 α->Bool
 | .leaf=>No
 | .node v l r=>(match v with|some x=>p x|none=>No)&&l.all p&&r.all p
def e8.map_congr{f g:α->β}{p:α->Bool}(h:∀x,p x=No->f x=g x):∀t:e8 α,t.all p=No->t.map f=t.map g
 | .leaf,_=>rfl
 | .node v l r,a=>by simp only[e8.all,ab]at a;simp only[e8.map];rw[e8.map_congr h l a.1.2,e8.map_congr h r a.2];cases v;rfl;rename_i x;simp[h x a.1.1]
def bl.ff(k:Nat)(s:bl):Bool:=s.mZ.all (ar.ff k)&&s.st.mZ.all (c7.ff k)
variable {s:bl}
def bl.k6(h:∀i,i<k->a i=θ i)(b:s.ff k=No):s.sub a=s.sub θ:=by simp only[bl.ff,ab]at b;simp only[bl.sub,bg.sub];rw[e8.map_congr (Go.Ab.k6 h) _ b.1,e8.map_congr (c7.k6 h) _ b.2]
def bg.k6(h:∀i,i<k->a i=θ i)(b:s.ff k=No):s.st.sub a=s.st.sub θ:=by have:=bl.k6 h b;have h2:=lU bl.st this;simpa using h2
mutual
def ar.mU(b:Nat->ar):ar->ar
 | .rs es=>.rs (Ed b es)
 | .fT cs=>.fT (xX b cs)
 | .fn f a c=>.fn f (xX b a) (xX b c)
 | .agg cs=>.agg (xX b cs)
 | .ed vs=>.ed (xX b vs)
 | .ey i=>b i
 | .c8 id d i=>match b i with
  | .ey j=>.c8 id d j
  | .rs es=>.ms id d 0 es.length
  |_=>.ms id d 0 0
 | .ps id k off=>match b k with
  | .ey j=>.ps id j off
  |v=>.mp id (nm v) off
 | .mY c=>.mY (c.mU b)
 |v=>v
def xX(a:Nat->ar):List ar->List ar
 | []=>[]
 |c::cs=>c.mU a::xX a cs
def Ed(a:Nat->ar):List (List ar)->List (List ar)
 | []=>[]
 |c::cs=>xX a c::Ed a cs
end
mutual
theorem tA(b θ:Nat->ar):∀v:ar,(v.mU b).sub θ=v.sub (λi=>(b i).sub θ)
 | .any=>by simp[ar.mU]
 | .b4 v=>by simp[ar.mU]
 | .rs es=>by simp only[ar.mU,ar.sub];rw[Od b θ es]
 | .fT cs=>by simp only[ar.mU,ar.sub];rw[BA b θ cs]
 | .ms ..=>by simp[ar.mU]
 | .mp ..=>by simp[ar.mU]
 | .mm _=>by simp[ar.mU]
 | .it _=>by simp[ar.mU]
 | .fn f a c=>by simp only[ar.mU,ar.sub];rw[BA b θ a,BA b θ c]
 | .agg cs=>by simp only[ar.mU,ar.sub];rw[BA b θ cs]
 | .ed cs=>by simp only[ar.mU,ar.sub];rw[BA b θ cs]
 | .ey i=>by simp[ar.mU]
 | .c8 id d i=>by simp only[ar.mU,rA];cases b i<;>simp[rowsOf]
 | .ps id k off=>by simp only[ar.mU,ar.sub];cases b k<;>simp[ar.sub,nm]
 | .mY c=>by simp only[ar.mU,ar.sub];rw[tA b θ c]
theorem BA(a θ:Nat->ar):∀l:List ar,ni θ (xX a l)=ni (λi=>(a i).sub θ) l
 | []=>by simp[ni,xX]
 |c::cs=>by simp only[ni,xX];rw[tA a θ c,BA a θ cs]
theorem Od(a θ:Nat->ar):∀l:List (List ar),o8 θ (Ed a l)=o8 (λi=>(a i).sub θ) l
 | []=>by simp[o8,Ed]
 |c::cs=>by simp only[o8,Ed];rw[BA a θ c,Od a θ cs]
end
def c7.mU(a:Nat->ar):c7->c7
 | .row e s es=>.row e s (Ed a es)
 | .map agg es c=>.map agg (es.map λe=>(e.1,e.2.1.mU a,e.2.2)) c
 | .fN e s i=>match a i with
  | .ey j=>.fN e s j
  | .rs es=>.row e s es
  |_=>.row e s []
 | .nC c=>.nC (c.mU a)
 | .qh s p=>.qh (s.mU a) (p.mU a)
 | .nH e z c ck k off v=>.nH e z (c.mU a) ck (k.mU a) off (v.map (ar.mU a))
 |o=>o
def c7.tA(a θ:Nat->ar)(o:c7):(o.mU a).sub θ=o.sub (λi=>(a i).sub θ):=by
 cases o with
 |row e z es=>simp only[c7.mU,c7.sub,<-vQ];rw[Od]
 |map agg es c =>simp only[c7.mU,c7.sub,bZ];congr 1;simp[Go.Ab.tA]
 |fN e z i=>simp only[c7.mU,c7.sub];cases a i<;>simp[ rowsOf]
 |nC c=>simp only[c7.mU,c7.sub];rw[Go.Ab.tA]
 |qh s p=>simp only[c7.mU,c7.sub];rw[Go.Ab.tA,Go.Ab.tA]
 |nH e z c ck k off v =>simp only[c7.mU,c7.sub];rw[Go.Ab.tA,Go.Ab.tA];cases v;rfl;simp only[ai];rw[Go.Ab.tA]
 |_=>rfl
def bl.mU(a:Nat->ar)(s:bl):bl:={ n:=s.n,mZ:=s.mZ.map (ar.mU a),st:={ next:=s.st.next,mZ:=s.st.mZ.map (c7.mU a),low:=s.st.low } }
def e8.map_map{a:Type}(f:α->β)(g:β->a):∀t:e8 α,(t.map f).map g=t.map (λx=>g (f x))
 | .leaf=>rfl
 | .node v l r=>by simp only[e8.map];rw[e8.map_map f g l,e8.map_map f g r];cases v<;>rfl
def bl.tA(a θ:Nat->ar)(s:bl):(s.mU a).sub θ=s.sub (λi=>(a i).sub θ):=by simp only[bl.mU,bl.sub,bg.sub,e8.map_map];have h1:=funext λx=>Go.Ab.tA a θ x;have h2:=funext λx=>c7.tA a θ x;rw[h1,h2]
def qp(j:Nat)(b:Bool)(i:Nat):ar:=bif ax i j then .b4 (.bool b)else .ey i
def FY{j:Nat}{b:Bool}(h:θ j=.b4 (.bool b))(s:bl):(s.mU (qp j b)).sub θ=s.sub θ:=by
 rw[bl.tA];congr 1;funext i;unfold qp;cases a:ax i j with
 |true=>have:=ae a;subst this;simp[h]
 |false=>simp
abbrev p5:=Nat->Option (Option Nat)
variable {ι:p5}
def xD(ι:p5)(i k:Nat):Bool:=match ι i with|some (Q1 j)=>ax j k|_=>N2
def JA(ι:p5)(i:Nat):Bool:=match ι i with|some Ld=>No|_=>N2
def Dd(h:xD ι i k=No):ι i=Q1 (Q1 k):=by unfold xD at h;split at h;rename_i j hj;rw[hj,ae h];cases h
def bP1(h:JA ι i=No):ι i=Q1 Ld:=by unfold JA at h;split at h;rename_i hj;exact hj;cases h
def M3:Fn->Fn->Bool
 | .func a,.func b=>ax a b
 |_,_=>N2
def bi9{a b:Fn}(h:M3 a b=No):a=b:=by unfold M3 at h;split at h;rw[ae h];cases h
def QM:Value->Value->Bool
 | .tuple a,.tuple b=>ax a.size 0&&ax b.size 0
 | .pointer Ld,.pointer Ld=>No
 |a,b=>K3 a b
def bb6{a b:Value}(h:QM a b=No):a=b:=by unfold QM at h;split at h;simp only[ab]at h;have h1:=gR (ae h.1);have h2:=gR (ae h.2);rw[h1,h2];rfl;exact aD9 h
def D4:ar->ar->Bool
 | .ey i,.ey j=>ax i j
 |_,_=>N2
def KT{a:ar}(h:D4 a b=No):∃i,a=.ey i/\b=.ey i:=by unfold D4 at h;split at h;exact⟨_,rfl,by rw[ae h]⟩;cases h
mutual
def n_(ι:p5):ar->ar->Bool
 | .any,_=>No
 | .b4 v,.b4 m=>QM v m
 | .rs es,.rs e=>AV ι es e
 | .fT cs,.fT b=>wm ι cs b
 | .ms id z o l,.ms id' g o' n=>xD ι id id'&&ax z g&&ax o o'&&ax l n
 | .ms id _ o l,.b4 (.slice Ld 0 0)=>JA ι id&&ax o 0&&ax l 0
 | .mp id i j,.mp id' d p=>xD ι id id'&&ax i d&&ax j p
 | .mm id,.mm id'=>xD ι id id'
 | .it id,.it id'=>xD ι id id'
 | .fn f a c,.fn q r h=>M3 f q&&wm ι a r&&wm ι c h
 | .agg cs,.agg b=>wm ι cs b
 | .ed cs,.ed b=>wm ι cs b
 | .ey i,.ey d=>ax i d
 | .c8 id z i,.c8 id' g d=>xD ι id id'&&ax z g&&ax i d
 | .ps id k o,.ps id' s o'=>xD ι id id'&&ax k s&&ax o o'
 | .mY c,.mY h=>D4 c h
 |_,_=>N2
def wm(ι:p5):List ar->List ar->Bool
 | [],[]=>No
 |a::az,b::fA=>n_ ι a b&&wm ι az fA
 |_,_=>N2
def AV(ι:p5):List (List ar)->List (List ar)->Bool
 | [],[]=>No
 |a::az,b::fA=>wm ι a b&&AV ι az fA
 |_,_=>N2
end
def C2(ι:p5)(az fA:List ar):Prop:=az.length=fA.length/\∀i (h:i<az.length) (h':i<fA.length),nI ι az[i] fA[i]
def C2.cons{a:ar}{az fA:List ar}(h:nI ι a b)(hs:C2 ι az fA):C2 ι (a::az) (b::fA):=by refine⟨by simp[hs.1],λi h1 h2=>?_⟩;cases i;exact h;rename_i i;exact hs.2 i (by simpa using h1) (by simpa using h2)
def EU(ι:p5)(az fA:List (List ar)):Prop:=az.length=fA.length/\∀i (h:i<az.length) (h':i<fA.length),C2 ι az[i] fA[i]
def nI.fit{v:ar}(h:nN v):nI ι v v:=λG _ a=>rr (G:=G) (G':=G.oM ι) (λ_ _ b=>b) a h.kl
def nI.rs{es b:List (List ar)}(h:EU ι es b):nI ι (.rs es) (.rs b):=by
 intro G u c;cases c with
 |q9=>have:=dJ (by simpa using h.1);subst this;exact .q9
 |rs _ a cap size val hs hc hlen himm hrep =>rw[<-h.1];have hl:=h.1;refine .rs es a cap size val hs (by omega) (λi a7=>?_) (λi j a7 hj=>himm i j (by omega) hj) (λi j a7 hj=>?_);rw[(h.2 i a7 (by omega)).1];exact hlen i (by omega);have h2:=h.2 i a7 (by omega);exact h2.2 j hj (by rw[<-h2.1];exact hj) G _ (hrep i j (by omega) (by rw[<-h2.1];exact hj))
mutual
theorem Qf{θ:Nat->ar}(e:Fit θ){ι:p5}:∀(a b:ar),n_ ι a b=No->nI ι (a.sub θ) (b.sub θ)
 | .any,b,_=>λG u _=>by rw[aV0];exact .any u
 | .b4 v,b,h=>by
  cases b with
  |b4 E=>simp only[n_]at h;rw[bb6 h];intro G u d;simp only[pN]at *;cases d;exact .b4 _
  |_=>simp[n_]at h
 | .rs es,b,h=>by
  cases b with
  |rs s=>simp only[n_]at h;simp only[ar.sub];exact nI.rs (QE e es s h)
  |_=>simp[n_]at h
 | .fT cs,b,h=>by
  cases b with
  |fT m =>
   simp only[n_]at h;have hl:=BZ e cs m h;simp only[ar.sub];intro G u d;cases d with
   |fT _ a val hs himm hrep=>exact .fT _ a val hs (λj hj=>himm j (by rw[<-hl.1];exact hj)) (λj hj=>hl.2 j hj (by rw[<-hl.1];exact hj) G _ (hrep j (by rw[<-hl.1];exact hj)))
  |_=>simp[n_]at h
 | .ms id z o l,b,h=>by
  cases b with
  |ms id' B o' H =>
   simp only[n_,ab]at h;have h1:=Dd h.1.1.1;have h2:=ae h.1.1.2;have n:=ae h.1.2;have t:=ae h.2;subst h2;subst n;subst t;intro G u d;simp only[xL]at *;cases d with
   |ms _ _ _ _ p hp hv hz a c ha ho hl hsp=>exact .ms id z o l p (by simp only[ca.oM,h1];exact hp) hv hz a c ha ho hl hsp
   |oh _ _ p hp hv=>exact .oh id z p (by simp only[ca.oM,h1];exact hp) hv
  |b4 v=>
   have hv:v=.slice Ld 0 0/\(JA ι id&&ax o 0&&ax l 0)=No:=by
    cases v with
    |slice a b c=>
     cases a with
     |none=>
      cases b with
      |zero=>cases c with
       |zero=>exact⟨rfl,by simpa only[n_]using h⟩
       |succ c=>simp[n_]at h
      |succ b=>simp[n_]at h
     |some a=>simp[n_]at h
    |_=>simp[n_]at h
   obtain⟨rfl,q⟩:=hv;rw[ab,ab]at q;have h1:=bP1 q.1.1;have n:=ae q.1.2;have t:=ae q.2;subst n;subst t;rw[xL,pN];intro G u d;cases d;exact .oh id z ⟨0,0,0,No⟩ (by simp only[ca.oM,h1]) rfl
  |_=>simp[n_]at h
 | .mp id i j,b,h=>by
  cases b with
  |mp id' w I =>
   simp only[n_,ab]at h;have h1:=Dd h.1.1;have h2:=ae h.1.2;have n:=ae h.2;subst h2;subst n;intro G u d;simp only[KH]at *;cases d with
   |mp _ _ _ p hp=>exact .mp id i j p (by simp only[ca.oM,h1];exact hp)
  |_=>simp[n_]at h
 | .mm id,b,h=>by
  cases b with
  |mm id' =>
   simp only[n_]at h;have h1:=Dd h;intro G u d;simp only[B6]at *;cases d with
   |mm _ p hp=>exact .mm id p (by simp only[ca.oM,h1];exact hp)
  |_=>simp[n_]at h
 | .it id,b,h=>by
  cases b with
  |it id' =>
   simp only[n_]at h;have h1:=Dd h;intro G u d;simp only[Lg]at *;cases d with
   |it _ p hp=>exact .it id p (by simp only[ca.oM,h1];exact hp)
  |_=>simp[n_]at h
 | .fn f a c,b,h=>by
  cases b with
  |fn J C x =>
   simp only[n_,ab]at h;have h1:=bi9 h.1.1;subst h1;have ha:=BZ e a C h.1.2;have hc:=BZ e c x h.2;simp only[ar.sub];intro G u d;cases d with
   |fn _ _ _ fv cv l2 mi r D=>exact .fn f _ _ fv cv (by rw[l2,ha.1]) (by rw[mi,hc.1]) (λi a7 g=>ha.2 i a7 (by rw[<-ha.1];exact a7) G _ (r i (by rw[<-ha.1];exact a7) g)) (λi a7 g=>hc.2 i a7 (by rw[<-hc.1];exact a7) G _ (D i (by rw[<-hc.1];exact a7) g))
  |_=>simp[n_]at h
 | .agg cs,b,h=>by
  cases b with
  |agg m =>
   simp only[n_]at h;have hl:=BZ e cs m h;simp only[ar.sub];intro G u d;cases d with
   |agg _ vs l2 r=>exact .agg _ vs (by rw[l2,hl.1]) (λi a7 g=>hl.2 i a7 (by rw[<-hl.1];exact a7) G _ (r i (by rw[<-hl.1];exact a7) g))
  |_=>simp[n_]at h
 | .ed cs,b,h=>by
  cases b with
  |ed m =>
   simp only[n_]at h;have hl:=BZ e cs m h;simp only[ar.sub];intro G u d;cases d with
   |ed _ vs l2 r=>exact .ed _ vs (by rw[l2,hl.1]) (λi a7 g=>hl.2 i a7 (by rw[<-hl.1];exact a7) G _ (r i (by rw[<-hl.1];exact a7) g))
  |_=>simp[n_]at h
 | .ey i,b,h=>by
  cases b with
  |ey w=>simp only[n_]at h;rw[<-ae h,mK];exact nI.fit (e i)
  |_=>simp[n_]at h
 | .c8 id z i,b,h=>by
  cases b with
  |c8 id' B w =>
   simp only[n_,ab]at h;have h1:=Dd h.1.1;have h2:=ae h.1.2;have n:=ae h.2;subst h2;subst n;intro G u d;simp only[rA]at *;generalize(rowsOf (θ i)).length=l at *;cases d with
   |ms _ _ _ _ p hp hv hz a c ha ho hl hsp=>exact .ms id z 0 l p (by simp only[ca.oM,h1];exact hp) hv hz a c ha ho hl hsp
   |oh _ _ p hp hv=>exact .oh id z p (by simp only[ca.oM,h1];exact hp) hv
  |_=>simp[n_]at h
 | .ps id k o,b,h=>by
  cases b with
  |ps id' K o' =>
   simp only[n_,ab]at h;have h1:=Dd h.1.1;have h2:=ae h.1.2;have n:=ae h.2;subst h2;subst n;intro G u d;simp only[ar.sub]at *;cases d with
   |mp _ _ _ p hp=>exact .mp id _ _ p (by simp only[ca.oM,h1];exact hp)
  |_=>simp[n_]at h
 | .mY c,b,h=>by
  cases b with
  |mY x =>simp only[n_]at h;obtain⟨i,rfl,rfl⟩:=KT h;simp only[B4,mK];intro G u d;exact rr (G:=G) (G':=G.oM ι) (λ_ _ q=>q) d (by simp only[ar.kl];exact(e _).kl)
  |_=>simp[n_]at h
theorem BZ{θ:Nat->ar}(c:Fit θ){ι:p5}:∀(a b:List ar),wm ι a b=No->C2 ι (ni θ a) (ni θ b)
 | [],b,h=>by
  cases b with
  |nil=>exact⟨rfl,λi a7=>by simp[ni]at a7⟩
  |cons _ _=>simp[wm]at h
 |a::az,b,h=>by cases b;simp[wm]at h;rename_i b fA;simp only[wm,ab]at h;simp only[ni];exact(Qf c a b h.1:nI ι _ _) |> λh1=>C2.cons h1 (BZ c az fA h.2)
theorem QE{θ:Nat->ar}(c:Fit θ){ι:p5}:∀(a b:List (List ar)),AV ι a b=No->EU ι (o8 θ a) (o8 θ b)
 | [],b,h=>by
  cases b with
  |nil=>exact⟨rfl,λi a7=>by simp[o8]at a7⟩
  |cons _ _=>simp[AV]at h
 |a::az,b,h=>by
  cases b with
  |nil=>simp[AV]at h
  |cons b fA=>
   simp only[AV,ab]at h;simp only[o8];have h1:=BZ c a b h.1;have h2:=QE c az fA h.2;refine⟨by simp[h2.1],λi a7 d=>?_⟩;cases i with
   |zero=>exact h1
   |succ i=>exact h2.2 i (by simpa using a7) (by simpa using d)
end
variable {K K':Act->World->Prop}{P:Program}{Q Q':Exit->Act->World->Prop}{a:Act}{c:Array Oper}{cl:FuncId->List ar->bg->Option (ar×bg)}{i:Nat}{l0:List Oper}{o:Oper}{ops:Array Oper}{s s':bl}{w:World}
def Ln(g:∀e a w,Q e a w->e=.normal)(hk:∀a w,K a w->K' a w){r:Result Next}(h:o.upon P a K Q r):o.upon P a K' Q' r:=by
 have hp:∀c a w,¬Q (.panic c) a w:=λc a w b=>by cases g _ _ _ b
 have hl:¬LetsOut Q:=λ⟨a,w,b⟩=>by cases g _ _ _ b
 cases r with
 |ok n w' =>
  cases n with
  |value v=>exact hk _ _ h
  |skip=>exact hk _ _ h
  |defer d=>exact hk _ _ h
  |enter f args=>
   refine h.mono ?_;intro e i b;cases e with
   |returned v=>exact hk _ _ b
   |panicked c=>exact b8 b (hp _ _ _)
   |outgrown=>exact b8 b hl
  |row row args =>exact h.mono λ_ _ b=>hk _ _ b
  |_=>simp only[ik]at h
 |halt x w' =>
  cases x with
  |panic v=> exact b8 h (hp _ _ _)
  |_=>simp only[ik]at h
def ce1(g:∀e a w,Q e a w->e=.normal)(a7:i<c.size)(m:∀x j b,c[i]?=Q1 x->x.guard=Q1 (j,b)->j<c.size)(hk:∀a w,K a w->K' a w)
  (h:wpOp P c Q i K a w):wpOp P (c.push o) Q' i K' a w:=by
 unfold wpOp at h⊢;have k:∀j,j<c.size->(c.push o)[j]?=c[j]?:=λj hj=>by rw[cJ,cc (by omega)]
 rw[k i a7];have l:=bj a7;rw[l]at h⊢;simp only at h⊢;have hw:cU c[i] (yielded (c.push o) a.tmps)=cU c[i] (yielded c a.tmps):=by unfold cU;split;rfl;rename_i j b f;unfold yielded;rw[k j (m _ _ _ l f)]
 rw[hw];split at h;rename_i d;rw[cr d];rcases h with h|⟨_,a2,n,h2⟩
 exact .inl (Ln g hk h);cases g _ _ _ h2;rename_i d;rw[cc d];exact hk _ _ h
def bZ7(hg:∀(i:Nat) (x:Oper) (j:Nat) (b:Bool),c[i]?=Q1 x->x.guard=Q1 (j,b)->j<c.size)(hL:∀e∈o.after,ch .any e=No->e.on<c.size)(he:∀(i:Nat) (x:Oper) (e:Edge),c[i]?=Q1 x->e∈x.after->ch .any e=No->e.on<i)
  (E:∀p:Nat->Bool,yS c p->(∀e∈o.after,ch .any e=No->p e.on=No)->∀i,i<c.size->p i=No) :
  ∀(fuel:Nat) (listed:Array Bool) (a:Act) (w:World),listed.size=c.size->yS c (λj=>listed.getD j N2)->left c.size (λj=>listed.getD j N2)=fuel ->
   wpAny P .any c (λe a w=>e=.normal/\wpOp P (c.push o) Q c.size (Q .normal) a w) fuel listed a w->wpAny P .any (c.push o) Q (fuel+1) (listed.push N2) a w:=by
 have n:∀(l:Array Bool) (j:Nat),l.size=c.size->j<c.size->∀d,(l.push N2).getD j d=l.getD j d:=λl j hl hj d=>by simp[ cJ,show j≠l.size by omega]
 have u:∀(l:Array Bool),l.size=c.size->∀d,(l.push N2).getD c.size d=N2:=λl hl d=>by simp only[Array.getD_eq_getD_getElem?,cJ,hl,me,cA]
 have e0:∀j,j<c.size->(c.push o)[j]?=c[j]?:=λj hj=>by rw[cJ,cc (by omega)]
 have eL:(c.push o)[c.size]?=Q1 o:=by rw[cJ,cr rfl]
 have B:∀(l:Array Bool),l.size=c.size->∀i,i<c.size->(i∈bN .any (c.push o) (l.push N2)↔i∈bN .any c l):=λl hl i a7=>by rw[mem_ready,mem_ready,e0 i a7,n l i hl a7];constructor;rintro ⟨h1,x,h2,G⟩;refine⟨h1,x,h2,λe g q=>?_⟩;have:=G e g q;rwa [n l e.on hl (by have:=he i x e h2 g q;omega)]at this;rintro ⟨h1,x,h2,G⟩;refine⟨h1,x,h2,λe g q=>?_⟩;rw[n l e.on hl (by have:=he i x e h2 g q;omega)];exact G e g q
 have K:∀(l:Array Bool),l.size=c.size->yS c (λj=>l.getD j N2)->c.size∈bN .any (c.push o) (l.push N2)->∀i,i<c.size->l.getD i N2=No:=λl hl r v=>by rw[mem_ready,eL]at v;obtain⟨_,x,C,G⟩:=v;cases C;refine E _ r (λe g q=>?_);have:=G e g q;by_cases hs:e.on<c.size;rwa [n l e.on hl hs]at this;by_cases M:e.on=c.size;rw[M,u l hl]at this;cases this;simp_all
 have ff:∀(l:Array Bool) i,i∈bN .any (c.push o) l->i<c.size\/i=c.size:=λl i a7=>by obtain⟨_,x,C,_⟩:=mem_ready.1 a7;have:=(aP.1 C).1;simp at this;omega
 have full:∀(l:Array Bool),l.size=c.size->(∀i,i<c.size->l.getD i N2=No)->bN .any c l=[]:=λl hl hp=>by
  cases v:bN .any c l with
  |nil=>rfl
  |cons i is=>
   have a7:i∈bN .any c l:=by rw[v];simp
   obtain⟨h1,x,C,_⟩:=mem_ready.1 a7;have f:=(aP.1 C).1;have:=hp i f;simp[hl,f]at h1 this;rw[h1]at this;cases this
 have after:∀(l:Array Bool) (a:Act) (w:World) (fuel:Nat),l.size=c.size->(∀i,i<c.size->l.getD i N2=No)->Q .normal a w->wpAny P .any (c.push o) Q fuel ((l.push N2).setIfInBounds c.size No) a w:=λl a w fuel hl hp hQ=>by
  have m:bN .any (c.push o) ((l.push N2).setIfInBounds c.size No)=[]:=by
   cases v:bN .any (c.push o) ((l.push N2).setIfInBounds c.size No)with
   |nil=>rfl
   |cons i is=>
    have a7:i∈bN .any (c.push o) ((l.push N2).setIfInBounds c.size No):=by rw[v];simp
    obtain⟨h1,_⟩:=mem_ready.1 a7;rcases ff _ _ a7 with f|rfl
    rw[getD_set_ne No (by omega),n l i hl f]at h1;have:=hp i f;simp[hl,f]at h1 this;rw[h1]at this;cases this;simp at h1
  cases fuel;exact⟨m,hQ⟩;exact⟨λ_=>hQ,λi a7=>by rw[m]at a7;cases a7⟩
 have z:∀(l:Array Bool),l.size=c.size->(∀i,i<c.size->l.getD i N2=No)->c.size∈bN .any (c.push o) (l.push N2):=λl hl hp=>by rw[mem_ready,eL,u l hl];refine⟨rfl,o,rfl,λe g q=>?_⟩;rw[n l e.on hl (hL e g q)];exact hp _ (hL e g q)
 intro fuel
 induction fuel with
 |zero=>
  intro listed a w k r s h;have hp:=NV s;refine⟨λm=>?_,λi a7=>?_⟩;have:=z listed k hp;rw[m]at this;cases this;rcases ff _ _ a7 with f|rfl
  rw[B listed k i f,full listed k hp]at a7;cases a7;refine wpOp_mono ?_ h.2.2;intro H w' N;exact after listed H w' 0 k hp N
 |succ fuel ih=>
  intro listed a w k r s h;refine⟨λm=>?_,λi a7=>?_⟩;have h1:bN .any c listed=[]:=by
   cases v:bN .any c listed with
   |nil=>rfl
   |cons i is=>
    have a7:i∈bN .any c listed:=by rw[v];simp
    obtain⟨_,x,C,_⟩:=mem_ready.1 a7;have f:=(aP.1 C).1;rw[<-B listed k i f,m]at a7;cases a7
  have hp:∀i,i<c.size->listed.getD i N2=No:=λi=>by
   induction i using gO with
   |_ i O=>
    intro f;cases hl:listed.getD i N2 with
    |true=>rfl
    |false=>
     have:i∈bN .any c listed:=mem_ready.2 ⟨by simp[k,f]at hl⊢;exact hl,_,bj f,λe g q=>by
      have:=he i _ e (bj f) g q;exact O e.on this (by omega)⟩
     rw[h1]at this;cases this
  have:=z listed k hp;rw[m]at this;cases this;rcases ff _ _ a7 with f|rfl
  rw[B listed k i f]at a7;refine ce1 (Q:=λe a w=>e=.normal/\wpOp P (c.push o) Q c.size (Q .normal) a w) (λ_ _ _ hh=>hh.1) f (λx j b h1 h2=>hg i x j b h1 h2) (λH w' hk=>?_) (h.2 i a7);have I:∀j,(listed.setIfInBounds i No).getD j N2=(j==i||listed.getD j N2):=λj=>by
   by_cases e:j=i;subst e;simp[k,f];rw[getD_set_ne N2 (jL e)];have:(j==i)=N2:=by simpa using e
   rw[this];rfl
  have t:=funext I;obtain⟨r1,x,r2,r3⟩:=mem_ready.1 a7;have R:listed.getD i N2=N2:=by simp[k,f]at r1⊢;exact r1
  have e1:(listed.push N2).setIfInBounds i No=(listed.setIfInBounds i No).push N2:=by apply Array.ext_getElem?;intro j;by_cases S:j=i;subst S;rw[gk (by simp;omega),cJ,cc (by simp;omega),gk (by omega)];rw[gP (jL S),cJ,cJ];simp only[Array.size_setIfInBounds];split;rfl;rw[gP (jL S)]
  rw[e1];refine ih _ H w' (by simp[k]) ?_ ?_ hk;rw[t];intro j oj D hpj e g q;by_cases J:j=i;subst J;rw[r2]at D;cases D;simp[r3 e g q];have:listed.getD j N2=No:=by simpa[J]using hpj
  simp[r j oj D this e g q];rw[t];have:=O3 (p:=λj=>listed.getD j N2) f R;omega;have hp:=K listed k r a7;have cu:=h.1 (full listed k hp);refine wpOp_mono ?_ cu.2;intro H w' N;exact after listed H w' _ k hp N
def ca7{T:cy}(cb:mz P T)
  (E:∀f args σ v σ',cl f args σ=Q1 (v,σ')->oO P f args σ (λI m=>I=v/\m=σ')/\qb σ σ')
    (h:BQ T cl ops s=Q1 s') {G:ca}   (b:lZ G s a w) 
  (J:∀G' D w',tb s.st.next G s.st w G' s'.st w'->lZ G' s' D w'->Q .normal D w'):wpAny P .any ops Q ops.size (bx ops.size N2) a { w with drawn:=w.drawn+1 }:=by
 unfold BQ at h;split at h
 case isFalse=>cases h
 rename_i mH;split at h
 case h_2=>cases h
 rename_i s1 fs K;split at h
 case isFalse=>cases h
 rename_i wV;cases h;obtain⟨evs,sts,l2,mi,pG,M,q,g1,g2,g3⟩:=P6 cb E ops.toList 0 _ _ fs (λj=>by simp) (by simp) (aB _) K;have r:Lex P ops s.n s.st.next fs evs sts { s with st:={ s.st with next:=s.st.next+ops.size } }:=⟨mH,wV,l2,mi,pG,λj o f ev st h1 h2 N O=>by
  have:=q j o f ev st (by simpa using h1) h2 N O;simpa using this⟩
 have i:left ops.size (λj=>(bx ops.size N2).getD j N2)=ops.size:=by
  unfold left;rw[gz.2 (λx z=>by
   have:x<ops.size:=by simpa using z
   simp[this])]
  simp
 have B:∀j,(bx ops.size N2).getD j N2=N2:=λj=>by by_cases hj:j<ops.size<;>simp[hj]
 refine Way.any r (G0:=G) (σ0:=s.st) (mu:=w) _ ?_ ops.size (bx ops.size N2) G s.get { s.st with next:=s.st.next+ops.size } a { w with drawn:=w.drawn+1 } (by simp) i ?_;intro p G' mx σ D w' hw hp;have agree:∀ {L V:Type} (us:List (L->Option V)) (f:L->V),us.length=ops.size->fold p us 0 f=fold (λ_=>No) us 0 f:=λus f hl=>funext λl=>xA l us 0 f f rfl (λj u hu C=>by
  have hj:j<ops.size:=by have:=(ak.1 hu).1;omega
  rw[a_]at C;exact b8 (hp j hj) C)
 have d:σ.next=s'.st.next:=by rw[hw.gA,agree _ _ (by simp[l2]),g3]
 have g:∀k,σ.bF k=s'.st.bF k:=λk=>by rw[hw.tu,agree _ _ (by simp[l2]),g2]
 have H:∀t,mx t=s'.get t:=λt=>by rw[hw.mx,agree _ _ (by simp[l2]),g1]
 exact J G' D w' ⟨hw.uS.le,hw.uS.keeps,by rw[<-d];exact hw.uS.next,hw.uS.bb.trans (Fr.less λk x z=>by rw[g];exact z)⟩ ⟨hw.rel.defers,by rw[hw.rel.size,M],λt=>by rw[<-H];exact hw.rel.tmps t,hw.rel.rel.less d.symm (λk x z=>by rw[g];exact z)⟩;have c:∀ {L V:Type} (us:List (L->Option V)) (f:L->V) (l:L),fold (λj=>(bx ops.size N2).getD j N2) us 0 f l=f l:=λus f l=>Bz l us 0 f _ (λj u _ hp=>by rw[B]at hp;cases hp) rfl;refine⟨⟨b.defers,b.size,b.tmps,(b.rel.next (aV _ _)).drawn _⟩,λt=>(c _ _ _).symm,λk=>(c _ _ _).symm,(c (evs.map λe=>λ_:Unit=>e.uf) (λ_=>s.st.next+ops.size) ()).symm,λj _ _=>b.rel.fresh _ (aV _ _),(λj o _ hp=>by rw[B]at hp;cases hp),aB _,?_⟩;exact⟨.refl G,.refl _ G,aV _ _,(Fr.less (σ:=s.st) (σ':={ s.st with next:=s.st.next+ops.size }) (λ_ _ h=>h)).trans (Fr.MM _ _ _ _ (aV _ _))⟩
def By(a:Array Oper)(o:Oper):Bool :=
 (aN a.size).all (λi=>(Ig (oC a.toList []) o).testBit i)&&o.after.all (λe=>!Region.binds .any e||Eo (e.on<a.size)) &&
 (aN a.size).all (λi=>match a[i]? with
  |some x=>(match x.guard with|some (j,_)=>Eo (j<a.size)|none=>No)&&x.after.all (λe=>!Region.binds .any e||Eo (e.on<i))
  |none=>No)
def bG6{a:Array Oper}(h:By a o=No):∀p:Nat->Bool,yS a p->(∀e∈o.after,ch .any e=No->p e.on=No)->∀i,i<a.size->p i=No:=by
 intro p c d i a7;unfold By at h;simp only[ab]at h;have k:=aj.1 h.1.1 i (by simpa using a7);rcases Pb _ i _ _ k with f|⟨e,he,b,f⟩
 simp at f;have g:=d e (by simpa using he) b;rcases f with rfl|f
 exact g;have j:e.on<a.size:=by have:=eM.1 h.1.2 e (by simpa using he);simpa[b]using this
 exact yq c e.on _ (bj j) (c e.on _ (bj j) g) i f
def aL8(g:∀e a w,Q e a w->e=.normal)(a7:i<c.size)(m:∀x j b,c[i]?=Q1 x->x.guard=Q1 (j,b)->j<c.size)(hk:∀a w,K a w->K' a w)
  (h:wpOp P (c.push o) Q i K a w):wpOp P c Q' i K' a w:=by
 unfold wpOp at h⊢;have k:∀j,j<c.size->(c.push o)[j]?=c[j]?:=λj hj=>by rw[cJ,cc (by omega)]
 rw[k i a7]at h;have l:=bj a7;rw[l]at h⊢;simp only at h⊢;have hw:cU c[i] (yielded (c.push o) a.tmps)=cU c[i] (yielded c a.tmps):=by unfold cU;split;rfl;rename_i j b f;unfold yielded;rw[k j (m _ _ _ l f)]
 rw[hw]at h;split at h;rename_i d;rw[cr d];rcases h with h|⟨_,a2,n,h2⟩
 exact .inl (Ln g hk h);cases g _ _ _ h2;rename_i d;rw[cc d];exact hk _ _ h
def ag6(d:∀e a w,Q e a w->e=.normal)(f:∀(i:Nat) (x:Oper) (j:Nat) (b:Bool),c[i]?=Q1 x->x.guard=Q1 (j,b)->j<c.size) :
  ∀(l:List Nat) (a:Act) (w:World),(∀i∈l,i<c.size)->wpOps P (c.push o) Q (l++[c.size]) a w->wpOps P c (λe a w=>e=.normal/\wpOp P (c.push o) Q c.size (Q .normal) a w) l a w
 | [],a,w,_,h=>by simp only[cG]at h;rw[wpOps_cons]at h;exact⟨rfl,h⟩
 |i::l,a,w,hl,h=>by rw[cL,wpOps_cons]at h;rw[wpOps_cons];exact aL8 d (hl i (by simp)) (λx j b h1 h2=>f i x j b h1 h2) (λg w' hk=>ag6 d f l g w' (λj hj=>hl j (by simp[hj])) hk) h
def Bl{md:Region.Mode}(b:∀e a w,Q e a w->e=.normal)(h:∀a w,Q .normal a w->Q' .normal a w):∀(fuel:Nat) (listed:Array Bool) (a:Act) (w:World),wpAny P md ops Q fuel listed a w->wpAny P md ops Q' fuel listed a w
 | 0,_,a,w,⟨h1,h2⟩=>⟨h1,h a w h2⟩
 |fuel+1,listed,a,w,⟨h1,h2⟩=>⟨λc=>h a w (h1 c),λi a7=>by
   have:=h2 i a7;unfold wpOp at this⊢;split at this;exact Bl b h fuel _ _ _ this;split at this;rename_i hw;rw[cr hw];rcases this with this|⟨_,a2,f,d⟩
   exact .inl (Ln b (λg w' hk=>Bl b h fuel _ _ _ hk) this);cases b _ _ _ d;rename_i hw;rw[cc hw];exact Bl b h fuel _ _ _ this⟩
def yx:List Oper->List Oper->Bool
 |_,[]=>No
 |l0,o::t=>By ⟨l0⟩ o&&yx (l0++[o]) t
def push_mk(l:List Oper)(o:Oper):(⟨l⟩:Array Oper).push o=⟨l++[o]⟩:=by  simp
def VE{a:Array Oper}(hl:By a o=No):(∀(i:Nat) (x:Oper) (j:Nat) (b:Bool),a[i]?=Q1 x->x.guard=Q1 (j,b)->j<a.size)/\(∀e∈o.after,ch .any e=No->e.on<a.size) /\
  (∀(i:Nat) (x:Oper) (e:Edge),a[i]?=Q1 x->e∈x.after->ch .any e=No->e.on<i):=by
 have c:=hl;unfold By at c;simp only[ab]at c;refine⟨λi x j b d g=>?_,λe he f=>?_,λi x e d he f=>?_⟩;have:=aj.1 c.2 i (by simpa using(aP.1 d).1);simp only[d,g,ab,kA]at this;exact this.1;have:=eM.1 c.1.2 e he;simpa[f]using this;have:=aj.1 c.2 i (by simpa using(aP.1 d).1);simp only[d,ab]at this;have:=eM.1 this.2 e he;simpa[f]using this
def Vw:∀(t l0:List Oper) (o:Oper),yx l0 (t++[o])=No->yx l0 t=No/\By ⟨l0++t⟩ o=No
 | [],l0,o,h=>by simp only[cG,yx]at h;exact⟨rfl,by simpa using h⟩
 |x::t,l0,o,h=>by simp only[cL,yx,ab]at h⊢;obtain⟨h1,h2⟩:=Vw t (l0++[x]) o h.2;exact⟨⟨h.1,h1⟩,by simpa using h2⟩
def bM4{b:Array Oper}(hl:By b o=No)(h:wpAny P .any b (λe a w=>e=.normal/\wpOp P (b.push o) Q b.size (Q .normal) a w) b.size (bx b.size N2) a w) :
  wpAny P .any (b.push o) Q (b.size+1) (bx (b.size+1) N2) a w:=by
 obtain⟨h1,h2,f⟩:=VE hl;have d:∀j,(bx b.size N2).getD j N2=N2:=λj=>by by_cases hj:j<b.size<;>simp[hj]
 have c:left b.size (λj=>(bx b.size N2).getD j N2)=b.size:=by
  unfold left;rw[gz.2 (λx g=>by
   have:x<b.size:=by simpa using g
   simp[this])]
  simp
 have i:bx (b.size+1) N2=(bx b.size N2).push N2:=by apply Array.ext;simp;simp[Array.getElem_push]
 rw[i];exact bZ7 h1 h2 f (bG6 hl) b.size _ a _ (by simp) (λj o' _ hp=>by rw[show(λj=>(bx b.size N2).getD j N2) j=N2 from d j]at hp;cases hp) c h
def W3:∀(n:Nat) (t:List Oper),t.length=n->yx l0 t=No->∀ {Q:Exit->Act->World->Prop},(∀e a w,Q e a w->e=.normal)->∀ {a:Act} {w:World},
  wpAny P .any ⟨l0⟩ (λe a w=>e=.normal/\wpOps P ⟨l0++t⟩ Q (dX l0.length t.length) a w) l0.length (bx l0.length N2) a w->wpAny P .any ⟨l0++t⟩ Q (l0++t).length (bx (l0++t).length N2) a w
 | 0,t,d,_,Q,f,a,w,h=>by
  have:t=[]:=by simpa using d
  subst this;rw[bD];refine Bl (Q:=λe a w=>e=.normal/\wpOps P ⟨l0++[]⟩ Q (dX l0.length ([]:List Oper).length) a w) (λ_ _ _ c=>c.1) ?_ _ _ _ _ h;simpa[wpOps]using h2
 |n+1,t,d,k,Q,f,a,w,h=>by
  obtain⟨b,o,rfl⟩:∃b o,t=b++[o]:=by
   rcases List.eq_nil_or_concat t with rfl|⟨b,o,rfl⟩
   simp at d;exact⟨b,o,by simp⟩
  obtain⟨h1,h2⟩:=Vw b l0 o k;have g:(⟨l0++(b++[o])⟩:Array Oper)=(⟨l0++b⟩:Array Oper).push o:=by rw[push_mk];simp
  have l:(l0++(b++[o])).length=(⟨l0++b⟩:Array Oper).size+1:=by simp;omega
  rw[g,l];refine bM4 h2 ?_;refine W3 n b (by simpa using d) h1 (λe a w c=>c.1) ?_;refine Bl (λ_ _ _ c=>c.1) ?_ _ _ _ _ h;rintro m w' ⟨_,j⟩;refine⟨rfl,?_⟩;rw[g]at j;refine ag6 f (VE h2).1 _ m w' (λi a7=>by simp at a7⊢;omega) ?_;have p:dX l0.length (b++[o]).length=dX l0.length b.length++[(⟨l0++b⟩:Array Oper).size]:=by simp[List.range'_concat]
  rw[<-p];exact j
def j5.bg9{T:cy}(cb:mz P T)(hm:P.follows .mixedOrders=No)
  (m:∀f args σ v σ',cl f args σ=Q1 (v,σ')->oO P f args σ (λB g=>B=v/\g=σ')/\qb σ σ')
  {id n:Nat} {t:List Oper} (hl:yx l0 t=No)  (h:BQ T cl ⟨l0⟩ s=Q1 s') {Q:Exit->bl->Prop}
  (b:nn P ⟨l0++t⟩ s'.st.next n (λs2=>Q .normal s2) (dX l0.length t.length) { s' with st:={ s'.st with next:=s'.st.next+(l0++t).length } }):j5 P n (.region id ⟨l0++t⟩ No) Q s:=by
 intro o G a w i;refine wp_region_any hm ?_;have key:=W3 (P:=P) (l0:=l0) t.length t rfl hl (Q:=λe k w'=>e=.normal/\∃s2 d,ou n G s.st w d s2.st w'/\lZ d s2 k w'/\Q .normal s2) (λ_ _ _ p=>p.1) (a:=a) (w:={ w with drawn:=w.drawn+1 }) ?_;refine Bl (λ_ _ _ p=>p.1) ?_ _ _ _ _ key;rintro k w' ⟨_,s2,d,c,q,r⟩;exact⟨s2,d,c,q,r⟩;refine ca7 cb m h i (λG' k w' z l=>⟨rfl,?_⟩);have u:lZ G' { s' with st:={ s'.st with next:=s'.st.next+(l0++t).length } } k w':=⟨l.defers,l.size,l.tmps,l.rel.next (aV _ _)⟩;have:=b G' k w' u (λj hj=>⟨by simp at hj⊢;omega,l.rel.fresh _ (aV _ _)⟩) (aB _) (bz o z.next);have x:=z.KI (n:=n) o o;refine sh ?_ _ _ _ this;rintro e a2 C ⟨rfl,s2,d,c,q,r⟩;exact⟨rfl,s2,d,x.trans ⟨c.mu,c.lo,c.pl,c.gA,(Fr.less (σ:=s'.st) (σ':={ s'.st with next:=s'.st.next+(l0++t).length }) (λ_ _ h=>h)).trans c.bb⟩ (aB _),q,r⟩
variable {G:ca}{P:Program}{U:List Nat}{i:Nat}{ng:List Nat}{o:Oper}{ops:Array Oper}{p:Nat->Bool}{r:List Nat}{s:bl}{w:World}
def Az:Op->Bool
 | .move _=>No
 | .load ..=>No
 | .fieldAddr ..=>No
 |_=>N2
def Tg{T:cy}(cb:mz P T){σ:bg}(h:Rel G σ w){c:Operand->ar}{ev:Operand->Value}(b:∀x,eR G (c x) (ev x)){id0:Nat}{v:ar}{σ':bg}(hp:Az o.op=No)
  (ha:fb T c σ id0 o.op=Q1 (v,σ')):∃u,(execOp ev o).run P w=.ok (.value u) w/\eR G v u:=by
 have key:∀ {s:Sem Value},y9 G w v (s.run P w)->∃u,((do pure (Next.value (<-s)):Sem Next).run P w)=.ok (.value u) w/\eR G v u:=by rintro s ⟨u,h1,h2⟩;exact⟨u,by simp[h1],h2⟩
 cases a:o.op with
 |move x =>rw[a]at ha;cases ha;simp only[execOp,a];exact⟨_,rfl,b x⟩
 |load t x =>rw[a]at ha;simp only[fb]at ha;split at ha;rename_i d hv;cases ha;simp only[execOp,a];exact key (Wv cb h (b x) hv);cases ha
 |fieldAddr t x f =>rw[a]at ha;simp only[fb]at ha;split at ha;rename_i d hv;cases ha;simp only[execOp,a];exact key (Vn cb h (b x) hv);cases ha
 |_=>simp[a,Az]at hp
def Xd{Q Q':Exit->Act->World->Prop}(l:∀e a w,Q e a w->e=.normal)(ho:ops[i]?=Q1 o)(m:o.guard=Ld)(hs:∀cs b,o.op≠.select cs b){a b:Act}
  (hl:∀t∈o.looksAt ops,a.tmps.getD t undef=b.tmps.getD t undef) {K K':Act->World->Prop} (hk:∀u w',K (b.put o.dst u) w'->K' (a.put o.dst u) w') (hd:∀d w',¬K ({ b with defers:=d::b.defers }.put o.dst undef) w')
  (h:wpOp P ops Q i K b w):wpOp P ops Q' i K' a w:=by
 have k:execOp a.eval o=execOp b.eval o:=execOp_congr o hs λx k=>by
  cases x with
  |tmp t=>exact hl t (dq _ (dc.2 ⟨.tmp t,by simpa using k,rfl⟩))
  |_=>rfl
 have hw:∀c:Act,cU o (yielded ops c.tmps)=No:=λc=>by unfold cU;rw[m]
 have hp:∀c a w,¬Q (.panic c) a w:=λc a w g=>by cases l _ _ _ g
 have j:¬LetsOut Q:=λ⟨a,w,g⟩=>by cases l _ _ _ g
 unfold wpOp at h⊢;simp only[ho,hw]at h⊢;rcases h with h|⟨_,h2⟩
 .left
  unfold fX at h⊢;rw[k];generalize(execOp b.eval o).run P w=r at h⊢;cases r with
  |ok n w' =>
   cases n with
   |value v=>exact hk _ _ h
   |skip=>exact hk _ _ h
   |defer d=>exact b8 h (hd _ _)
   |enter f args=>
    refine h.mono ?_;intro e p g;cases e with
    |returned v=>exact hk _ _ g
    |panicked c=>exact b8 g (hp _ _ _)
    |outgrown=>exact b8 g j
   |row row args =>exact h.mono λ_ _ g=>hk _ _ g
   |_=>simp only[ik]at h
  |halt x w' =>
   cases x with
   |panic v=> exact b8 h (hp _ _ _)
   |_=>simp only[ik]at h
 exact b8 h2 j
def Hg(T:cy)(ops:Array Oper)(s:bl)(u:Nat):Prop:=∃o v t id σ',ops[u]?=Q1 o/\o.dst=Q1 t/\oz s.n o.dst=No/\fb T s.eval s.st id o.op=Q1 (v,σ')/\s.get t=v
def hasB(ops:Array Oper)(j u:Nat):Bool:=((oC ops.toList []).getD j 0).testBit u
def Hy(P:Program)(ops:Array Oper)(i:Nat)(K:bl->Prop)(s:bl):Prop :=∀G a w,lZ G s a w->wpOp P ops (λe _ _=>e=.normal) i (λb w'=>∃s' G',ou s.st.next G s.st w G' s'.st w'/\lZ G' s' b w'/\K s') a w
def vy(P:Program)(T:cy)(ops:Array Oper)(U:List Nat)(Qs:bl->Prop):List Nat->List Nat->bl->Prop
 |ng,[],s=>(∀u∈U,ng.any (λj=>hasB ops j u)=N2->Hg T ops s u)/\Qs s
 |ng,i::r,s=>(∀u∈U,ng.any (λj=>hasB ops j u)=N2->Hg T ops s u)/\Hy P ops i (vy P T ops U Qs (ng++[i]) r) s
def vy.bO1{T:cy}{Qs:bl->Prop}(h:vy P T ops U Qs ng r s):∀u∈U,ng.any (λj=>hasB ops j u)=N2->Hg T ops s u:=by cases r;exact h.1;exact h.1
structure LM(ops:Array Oper)(U R:List Nat):Prop where
 PW:∀(j:Nat) (o:Oper) cs b,ops[j]?=Q1 o->o.op≠.select cs b
 I3:∀(j:Nat) (o:Oper),ops[j]?=Q1 o->o.guard=Ld
 FF:∀(j:Nat) (o:Oper),ops[j]?=Q1 o->∀e∈o.after,ch .any e=No->e.on<j
 cover:∀i,i<ops.size->i∈U\/i∈R
 bg5:∀i∈R,i∉U
 kl:∀u∈U,∀o,ops[u]?=Q1 o->Az o.op=No
 dst:∀u∈U,∀(o:Oper) (t:Tmp),ops[u]?=Q1 o->o.dst=Q1 t->∀(j:Nat) (oj:Oper),ops[j]?=Q1 oj->(j≠u->oj.dst≠Q1 t)/\(t∈oj.looksAt ops->hasB ops j u=No)
 chain:∀a b c,R=a++b::c->∀i∈a,hasB ops b i=No
 size:∀i∈R,i<ops.size
 nodup:R.Nodup
structure G7(ops:Array Oper)(U:List Nat)(p:Nat->Bool)(a b:Act):Prop where
 defers:a.defers=b.defers
 size:a.tmps.size=b.tmps.size
 tmps:∀t,a.tmps.getD t undef=b.tmps.getD t undef\/∃u∈U,p u=N2/\∃o,ops[u]?=Q1 o/\o.dst=Q1 t
def Act.Kd(a:Act)(d:Option Tmp)(v:Value)(t:Tmp):(a.put d v).tmps.getD t undef=if d=Q1 t/\t<a.tmps.size then v else a.tmps.getD t undef:=by cases d;simp[iO];rename_i d;simp only[iO];by_cases h:d=t;subst h;by_cases h2:d<a.tmps.size;simp[h2];simp[h2];simp[h]
variable {K:Act->World->Prop}{Q:Exit->Act->World->Prop}{a b:Act}
def Act.Ke(a:Act)(d:Option Tmp)(v:Value):(a.put d v).tmps.size=a.tmps.size:=by cases d<;>simp[iO]
def Act.D2(a:Act)(d:Option Tmp)(v:Value):(a.put d v).defers=a.defers:=by cases d<;>rfl
theorem G7.put{l:Nat->Bool}(h:G7 ops U p a b)(ho:ops[i]?=Q1 o)(hp:∀j,j≠i->l j=p j)(d:Option Tmp)(hd:o.dst=d)(v:Value)
  : G7 ops U l (a.put d v) (b.put d v):=by
 refine⟨by rw[Act.D2,Act.D2];exact h.defers,by rw[Act.Ke,Act.Ke];exact h.size,λt=>?_⟩;rw[Act.Kd,Act.Kd,h.size];by_cases hc:d=Q1 t/\t<b.tmps.size;rw[cr hc,cr hc];exact .inl rfl;rw[cc hc,cc hc];rcases h.tmps t with h1|⟨u,hu,f,m,h2,g⟩
 exact .inl h1;by_cases c:u=i;subst c;rw[ho]at h2;cases h2;have e:b.tmps.size<=t:=by rw[hd]at g;by_cases k:t<b.tmps.size;exact b8 ⟨g,k⟩ hc;omega
 simp[ eV e,eV (h.size▸e)];exact .inr ⟨u,hu,by rw[hp u c];exact f,m,h2,g⟩
def lZ.yu(h:lZ G s b w)(hd:a.defers=b.defers)(hs:a.tmps.size=b.tmps.size)(c:∀t,a.tmps.getD t undef=b.tmps.getD t undef):lZ G s a w :=⟨hd.trans h.defers,hs.trans h.size,λt=>by rw[c];exact h.tmps t,h.rel⟩
section
variable {P:Program} {T:cy} (cb:mz P T) {ops:Array Oper} {U R:List Nat} (hS:LM ops U R) {Qs:bl->Prop} {n:Nat} {G0:ca} {σ0:bg} {mu:World}
structure SW(P:Program)(T:cy)(ops:Array Oper)(U R:List Nat)(Qs:bl->Prop)(n:Nat)(G0:ca)(σ0:bg)(mu:World)(p:Nat->Bool)(ng r:List Nat)(s:bl)(G:ca)(a b:Act)(w:World):Prop where
 closed:yS ops p
 parts:R=ng++r
 done:∀i∈ng,p i=No
 todo:∀i∈r,p i=N2
 zR:vy P T ops U Qs ng r s
 rel:lZ G s b w
 uS:ou n G0 σ0 mu G s.st w
 yu:G7 ops U p a b
include cb hS in
theorem SW.look(h:SW P T ops U R Qs n G0 σ0 mu p ng r s G a b w){u:Nat}(hu:u∈U)(q:p u=N2)(ho:ops[u]?=Q1 o)
  (c:∀e∈o.after,ch .any e=No->p e.on=No)  
  (hk:∀H N,SW P T ops U R Qs n G0 σ0 mu (λj=>j==u||p j) ng r s G H N w->K H w):wpOp P ops Q u K a w:=by
 have g:ng.any (λj=>hasB ops j u)=N2:=by rw[Bool.eq_false_iff];intro hc;obtain⟨j,hj,m⟩:=fC.1 hc;have z:=hS.size j (h.parts▸dq _ hj);have d:ops[j]?=Q1 ops[j]:=bj z;have:=yq h.closed j _ d (h.closed j _ d (h.done j hj)) u m;rw[q]at this;cases this
 obtain⟨o',v,t,id,σ',h1,h2,h3,O,S⟩:=h.zR.bO1 u hu g;rw[ho]at h1;cases h1;have f:∀x∈o.looksAt ops,a.tmps.getD x undef=b.tmps.getD x undef:=λx k=>by
  rcases h.yu.tmps x with h6|⟨I,B,C,o',h7,h8⟩
  exact h6;have:=yq h.closed u o ho c I ((hS.dst I B o' x h7 h8 u o ho).2 k);rw[C]at this;cases this
 have k:execOp a.eval o=execOp b.eval o:=execOp_congr o (hS.PW u o · · ho) λx k=>by
  cases x with
  |tmp t=>exact f t (dq _ (dc.2 ⟨.tmp t,by simpa using k,rfl⟩))
  |_=>rfl
 obtain⟨J,r1,r2⟩:=Tg cb h.rel.rel h.rel.eval (hS.kl u hu o ho) O;have hw:cU o (yielded ops a.tmps)=No:=by unfold cU;rw[hS.I3 u o ho]
 unfold wpOp;simp only[ho,hw,me];left;unfold fX;rw[k,r1];refine hk (a.put o.dst J) (b.put o.dst J) ⟨λj oj d D e he m=>?_,h.parts,λi a7=>by simp[h.done i a7],λi a7=>?_,h.zR,?_,h.uS,h.yu.put ho (λj hj=>by simp[hj]) _ rfl _⟩;by_cases l:j=u;subst l;rw[ho]at d;cases d;simp[c e he m];have:p j=No:=by simpa[l]using D
 simp[h.closed j oj d this e he m];have E:i≠u:=λe=>by subst e;exact hS.bg5 i (h.parts▸List.mem_append_right _ a7) hu
 simpa[E]using h.todo i a7;refine⟨by rw[Act.D2];exact h.rel.defers,by rw[Act.Ke];exact h.rel.size,λM=>?_,h.rel.rel⟩;rw[Act.Kd];split;rename_i hc;rw[h2]at hc;have:t=M:=by simpa using hc.1
 rw[<-this,S];exact r2;exact h.rel.tmps M
include hS in
theorem SW.link(h:SW P T ops U R Qs n G0 σ0 mu p ng r s G a b w)(a7:i∈R)(t:p i=N2)(ho:ops[i]?=Q1 o)
  (f:∀e∈o.after,ch .any e=No->p e.on=No)  (hQ:∀e a w,Q e a w->e=.normal) 
  (hk:∀D B s' G' a' b' w',SW P T ops U R Qs n G0 σ0 mu (λj=>j==i||p j) D B s' G' a' b' w'->K a' w'):wpOp P ops Q i K a w:=by
 have g:i∈r:=by
  rw[h.parts]at a7;rcases aY.1 a7 with h1|h1
  rw[h.done i h1]at t;cases t;exact h1
 cases m:r with
 |nil=>rw[m]at g;cases g
 |cons k B =>
  have E:i=k:=by
   rw[m]at g;rcases aD.1 g with h1|h1
   exact h1;exfalso;obtain⟨c,d,e⟩:=jP h1;have C:=hS.chain (ng++k::c) i d (by rw[h.parts,m,e];simp) k (by simp);have:=yq h.closed i o ho f k C;rw[h.todo k (by rw[m];simp)]at this;cases this
  subst E;have v:=h.zR;rw[m]at v;have H:=v.2 G b w h.rel;refine Xd (λ_ _ _ hh=>hh) ho (hS.I3 i o ho) (hS.PW i o · · ho) (a:=a) (b:=b) (K':=K) (λx hx=>?_) (λu w' hu=>?_) (λd w' hu=>?_) H;rcases h.yu.tmps x with h6|⟨u',I,J,o',h7,h8⟩
  exact h6;have:=yq h.closed i o ho f u' ((hS.dst u' I o' x h7 h8 i o ho).2 hx);rw[J]at this;cases this;obtain⟨s',G',b1,M,b3⟩:=hu;have l:=hS.nodup;rw[h.parts,m]at l;have N:i∉ng/\i∉B:=by rw[List.nodup_append]at l;exact⟨λhc=>l.2.2 i hc i (by simp) rfl,(cS.1 l.2.1).1⟩
  refine hk (ng++[i]) B s' G' (a.put o.dst u) (b.put o.dst u) w' ⟨λj oj q O e he C=>?_,by rw[h.parts,m];simp,λj hj=>?_,λj hj=>?_,b3,M,h.uS.trans b1 h.uS.gA,h.yu.put ho (λj hj=>by simp[hj]) _ rfl _⟩;by_cases z:j=i;subst z;rw[ho]at q;cases q;simp[f e he C];have:p j=No:=by simpa[z]using O
  simp[h.closed j oj q this e he C];rcases aY.1 hj with h1|h1
  simp[h.done j h1];have:j=i:=by simpa using h1
  simp[this];have S:j≠i:=λe=>N.2 (e▸hj);simpa[S]using h.todo j (by rw[m];exact bf _ hj);obtain⟨s',G',b1,M,b3⟩:=hu;have:=M.defers;rw[Act.D2]at this;cases this
include cb hS in
theorem SW.any:∀(fuel:Nat) (listed:Array Bool) (ng r:List Nat) (s:bl) (G:ca) (a b:Act) (w:World),listed.size=ops.size->left ops.size (λj=>listed.getD j N2)=fuel ->
  SW P T ops U R Qs n G0 σ0 mu (λj=>listed.getD j N2) ng r s G a b w->wpAny P .any ops (λe z w'=>e=.normal/\∃s' G',ou n G0 σ0 mu G' s'.st w'/\lZ G' s' z w'/\Qs s') fuel listed a w:=by
 have nil:∀(listed:Array Bool),listed.size=ops.size->bN .any ops listed=[]->∀i,i<ops.size->listed.getD i N2=No:=by
  intro listed c m i
  induction i using gO with
  |_ i E=>
   intro a7;cases hl:listed.getD i N2 with
   |true=>rfl
   |false=>
    have ho:ops[i]?=Q1 ops[i]:=bj a7;have:i∈bN .any ops listed:=mem_ready.2 ⟨by simp[c,a7]at hl⊢;exact hl,_,ho,λe he K=>by
     have l:=hS.FF i _ ho e he K;exact E e.on l (by omega)⟩
    rw[m]at this;cases this
 have fin:∀(p:Nat->Bool) (ng r:List Nat) (s:bl) (G:ca) (a b:Act) (w:World),SW P T ops U R Qs n G0 σ0 mu p ng r s G a b w->(∀i,i<ops.size->p i=No) ->
   (∃s' G',ou n G0 σ0 mu G' s'.st w/\lZ G' s' a w/\Qs s'):=by
  intro p ng r s G a b w h d;cases B:r with
  |cons k J =>have h1:=d k (hS.size k (by rw[h.parts,B];simp));rw[h.todo k (by rw[B];simp)]at h1;cases h1
  |nil=>
   have C:=h.zR;rw[B]at C;refine⟨s,G,h.uS,h.rel.yu h.yu.defers h.yu.size (λt=>?_),C.2⟩;rcases h.yu.tmps t with h1|⟨u,hu,hp,o,ho,_⟩
   exact h1;rw[d u (aP.1 ho).1]at hp;cases hp
 intro fuel
 induction fuel with
 |zero=>
  intro listed ng r s G a b w c q hw;have d:=NV q;refine⟨?_,rfl,fin _ _ _ _ _ _ _ _ hw d⟩;cases B:bN .any ops listed with
  |nil=>rfl
  |cons i is=>
   have:i∈bN .any ops listed:=by rw[B];simp
   obtain⟨h1,o,ho,_⟩:=mem_ready.1 this;have a7:i<ops.size:=(aP.1 ho).1;have:=d i a7;simp[c,a7]at h1 this;rw[h1]at this;cases this
 |succ fuel E=>
  intro listed ng r s G a b w c q hw;refine⟨λm=>⟨rfl,fin _ _ _ _ _ _ _ _ hw (nil listed c m)⟩,λi a7=>?_⟩;obtain⟨h1,o,ho,D⟩:=mem_ready.1 a7;have l:i<ops.size:=(aP.1 ho).1;have v:listed.getD i N2=N2:=by simp[c,l]at h1⊢;exact h1
  have f:(λj=>(listed.setIfInBounds i No).getD j N2)=(λj=>j==i||listed.getD j N2):=funext λj=>by
   by_cases e:j=i;subst e;simp[c,l];rw[getD_set_ne N2 (jL e)];have:(j==i)=N2:=by simpa using e
   rw[this];rfl
  have g:left ops.size (λj=>j==i||listed.getD j N2)=fuel:=by have:=O3 (p:=λj=>listed.getD j N2) l v;omega
  rcases hS.cover i l with hu|hu
  exact SW.look cb hS hw hu v ho D λz H x=>E _ ng r s G z H w (by simp[c]) (by rw[f];exact g) (by rw[f];exact x);exact SW.link hS hw hu v ho D (λ_ _ _ M=>M.1) λI J s' G' z H w' x=>E _ I J s' G' z H w' (by simp[c]) (by rw[f];exact g) (by rw[f];exact x)
theorem vy.mono{b c:bl->Prop}(d:∀s,b s->c s):∀(r ng:List Nat) (s:bl),vy P T ops U b ng r s->vy P T ops U c ng r s
 | [],_,_,h=>⟨h.1,d _ h.2⟩
 |_::r,ng,_,h=>⟨h.1,λG a w e=>wpOp_mono (λ_ _ ⟨s',G',f,a2,a3⟩=>⟨s',G',f,a2,vy.mono d r _ s' a3⟩) (h.2 G a w e)⟩
theorem Hy.bq7(ho:ops[i]?=Q1 o)(l:o.guard=Ld)(hs:∀cs b,o.op≠.select cs b){K:bl->Prop}
  (h:nn P ops s.st.next s.st.next K [i] { s with st:={ s.st with next:=s.st.next+ops.size } }):Hy P ops i K s:=by
 intro G a w e;have a7:=(aP.1 ho).1;have f:lZ G { s with st:={ s.st with next:=s.st.next+ops.size } } a w:=⟨e.defers,e.size,e.tmps,e.rel.next (aV _ _)⟩;have:=h G a w f (λj hj=>by
  have:j=i:=by simpa using hj
  subst this;exact⟨a7,e.rel.fresh _ (aV _ _)⟩) (aB _) (aB _)
 refine Xd (λ_ _ _ m=>m.1) ho l hs (λ_ _=>rfl) (λu w' hu=>?_) (λd w' hu=>?_) this;obtain⟨_,s',G',c,g,k⟩:=hu;exact⟨s',G',⟨c.mu,c.lo,c.pl,c.gA,(Fr.less (σ:=s.st) (σ':={ s.st with next:=s.st.next+ops.size }) (λ_ _ h=>h)).trans c.bb⟩,g,k⟩;obtain⟨_,s',G',c,g,k⟩:=hu;have:=g.defers;rw[Act.D2]at this;cases this
inductive Looks (T:cy) (ops:Array Oper):List Nat->bl->bl->Prop
 |nil (s:bl):Looks T ops [] s s
 |cons {u:Nat} {us:List Nat} {s s':bl} {o:Oper} {v:ar} {id:Nat} {σ':bg} (ho:ops[u]?=Q1 o) (hp:Az o.op=No) (hd:oz s.n o.dst=No) (ha:fb T s.eval s.st id o.op=Q1 (v,σ')) (h:Looks T ops us (s.put o.dst v) s'):Looks T ops (u::us) s s'
include cb in
theorem Looks.ok:∀ {us:List Nat} {s s':bl},Looks T ops us s s'->∀ {G:ca} {b:Act} {w:World},lZ G s b w->s'.st=s.st/\∃a,lZ G s' a w/\b.defers=a.defers/\b.tmps.size=a.tmps.size/\∀t,b.tmps.getD t undef=a.tmps.getD t undef\/∃u∈us,∃o,ops[u]?=Q1 o/\o.dst=Q1 t
 |_,_,_,.nil s,G,b,w,c=>⟨rfl,b,c,rfl,rfl,λ_=>.inl rfl⟩
 |_,_,_,.cons (o:=o) (v:=v) ho hp hd ha h,G,b,w,c=>by
  obtain⟨j,k,e⟩:=Tg cb c.rel c.eval hp ha;have h1:=c.put (.refl G) c.rel e hd;obtain⟨f,a,fa,gb,lb,mN⟩:=Looks.ok h h1;refine⟨by rw[f];simp,a,fa,by rw[<-gb,Act.D2],by rw[<-lb,Act.Ke],λt=>?_⟩;rcases mN t with d|⟨u,hu,o',g,i⟩
  rw[Act.Kd]at d;split at d;rename_i hc;exact .inr ⟨_,by simp,o,ho,hc.1⟩;exact .inl d;exact .inr ⟨u,bf _ hu,o',g,i⟩
include cb hS in
theorem j5.bL4(hm:P.follows .mixedOrders=No){id m:Nat}{g:bl}(p:Looks T ops U s g){Q:Exit->bl->Prop}(k:vy P T ops U (λs2=>Q .normal s2) [] R g):j5 P m (.region id ops No) Q s:=by
 intro q G a w c;refine wp_region_any hm ?_;have d:lZ G s a { w with drawn:=w.drawn+1 }:=⟨c.defers,c.size,c.tmps,c.rel.drawn _⟩;obtain⟨l,b,fa,gb,lb,mN⟩:=Looks.ok cb p d;have e:∀j,(bx ops.size N2).getD j N2=N2:=λj=>by by_cases hj:j<ops.size<;>simp[hj]
 have f:left ops.size (λj=>(bx ops.size N2).getD j N2)=ops.size:=by
  unfold left;rw[gz.2 (λx r=>by
   have:x<ops.size:=by simpa using r
   simp[this])]
  simp
 have key:=SW.any (P:=P) cb hS (Qs:=λs2=>Q .normal s2) (n:=m) (G0:=G) (σ0:=s.st) (mu:=w) ops.size (bx ops.size N2) [] R g G a b { w with drawn:=w.drawn+1 } (by simp) f
  ⟨λj o _ hp=>(by rw[e]at hp;cases hp),rfl,λi a7=>(by simp at a7),λi _=>e i,k,fa,⟨rfl,λ_ _ h=>h,λ_ _=>rfl,by rw[l];exact q,by rw[l];exact Fr.MM _ _ _ _ (aV _ _)⟩,gb,lb,λt=>(mN t).imp (λh=>h) λ⟨u,hu,o,v,z⟩=>⟨u,hu,e u,o,v,z⟩⟩
 refine Bl (λ_ _ _ B=>B.1) ?_ _ _ _ _ key;rintro H w' ⟨_,s',G',C,D,E⟩;exact⟨s',G',C,D,E⟩
end
variable {f:FuncId}{ops:Array Oper}{σ:bg}
mutual
def ar.rJ:ar->ar
 | .b4 (.slice Ld 0 0)=>.rs []
 | .rs es=>.rs (Ax es)
 | .agg cs=>.agg (y6 cs)
 | .ed cs=>.ed (y6 cs)
 |v=>v
def y6:List ar->List ar
 | []=>[]
 |c::cs=>c.rJ::y6 cs
def Ax:List (List ar)->List (List ar)
 | []=>[]
 |c::cs=>y6 c::Ax cs
end
variable {φ:List ar->Option ar}
def BF:∀l,y6 l=l.map ar.rJ
 | []=>by simp[y6]
 |c::cs=>by simp[y6,BF cs]
def O':∀l,Ax l=l.map (cm ar.rJ)
 | []=>by simp[Ax]
 |c::cs=>by simp[Ax,BF,O' cs]
mutual
theorem BN{G:ca}{θ:Nat->ar}:∀(v:ar) (u:Value),eR G (v.sub θ) u->eR G (v.rJ.sub θ) u
 | .b4 v,u,h=>by
  by_cases hv:v=.slice Ld 0 0;subst hv;simp only[ar.sub]at h;cases h;simp only[ar.rJ,ar.sub,o8];exact .q9;have:(ar.b4 v).rJ=.b4 v:=by unfold ar.rJ;split;rename_i e;cases e;exact(hv rfl).elim;rename_i e;cases e;rename_i e;cases e;rename_i e;cases e;rfl
  rw[this];exact h
 | .rs es,u,h=>by
  have d:=ae9 (G:=G) (θ:=θ) es;simp only[ar.rJ,ar.sub,vQ,O']at h⊢;generalize g:es.map (cm (ar.sub θ))=xs at h;cases h with
  |q9=>
   have:es=[]:=by simpa using g
   subst this;exact .q9
  |rs _ a cap size val hs hc hlen himm hrep=>
   subst g;have hl:(es.map (cm (ar.sub θ))).length=((es.map (cm ar.rJ)).map (cm (ar.sub θ))).length:=by simp
   rw[hl];refine .rs _ a cap size val hs (by rw[<-hl];exact hc) (λi a7=>?_) (λi j a7 hj=>himm i j (by rw[hl];exact a7) hj) (λi j a7 hj=>?_);have:=hlen i (by rw[hl];exact a7);simpa using this;have b:i<es.length:=by simpa using a7
   have f:j<es[i].length:=by simpa using hj
   have:=hrep i j (by simpa using b) (by simpa using f);simp only[b_]at this⊢;exact d _ (ay b) _ (ay f) _ this
 | .agg cs,u,h=>by
  have d:=Je (G:=G) (θ:=θ) cs;simp only[ar.rJ,ar.sub,pT,BF]at h⊢;cases h with
  |agg _ vs h1 h2=>
   refine .agg _ vs (by simpa using h1) (λi a7 b=>?_);have c:i<cs.length:=by simpa using a7
   have:=h2 i (by simpa using c) b;simp only[b_]at this⊢;exact d _ (ay c) _ this
 | .ed cs,u,h=>by
  have d:=Je (G:=G) (θ:=θ) cs;simp only[ar.rJ,ar.sub,pT,BF]at h⊢;cases h with
  |ed _ vs h1 h2=>
   refine .ed _ vs (by simpa using h1) (λi a7 b=>?_);have c:i<cs.length:=by simpa using a7
   have:=h2 i (by simpa using c) b;simp only[b_]at this⊢;exact d _ (ay c) _ this
 | .any,u,h=>h
 | .fT _,u,h=>h
 | .ms _ _ _ _,u,h=>h
 | .mp _ _ _,u,h=>h
 | .mm _,u,h=>h
 | .it _,u,h=>h
 | .fn _ _ _,u,h=>h
 | .ey _,u,h=>h
 | .c8 _ _ _,u,h=>h
 | .ps _ _ _,u,h=>h
 | .mY _,u,h=>h
theorem Je{G:ca}{θ:Nat->ar}:∀(l:List ar) (v:ar),v∈l->∀u,eR G (v.sub θ) u->eR G (v.rJ.sub θ) u
 | [],_,hv,_,_=>by simp at hv
 |c::cs,v,hv,u,h=>by
  rcases aD.1 hv with e|hv
  rw[e]at h⊢;exact BN c u h;exact Je cs v hv u h
theorem ae9{G:ca}{θ:Nat->ar}:∀(l:List (List ar)) (r:List ar),r∈l->∀v,v∈r->∀u,eR G (v.sub θ) u->eR G (v.rJ.sub θ) u
 | [],_,a,_,_,_,_=>by simp at a
 |c::cs,r,a,v,hv,u,h=>by
  rcases aD.1 a with e|a
  rw[e]at hv;exact Je c v hv u h;exact ae9 cs r a v hv u h
end
inductive nU where
 |bin (o:BinOp) (t:TypeId) (x y:ar)
 |un (o:UnOp) (x:ar)
 |conv (s d:TypeId) (x:ar)
 |idx (t:TypeId) (x i:ar)
 |index (t:TypeId) (x i:ar)
 |Cq (t:TypeId) (x:ar) (b7 a7:Option ar)
 |len (t:TypeId) (x:ar)
 |pP (l:List ar)
 |yT (l:List ar)
 |cat (sT xT:TypeId) (x y:ar)
 |call (f:FuncId) (args:List ar) (flat:Bool)
 |rows (l:List Nat)
 |look (t:TypeId) (c ix:ar) (ok:Bool)
 |xS (t:TypeId) (x ix:ar) (ok:Bool)
 |qe (t:TypeId) (c ix v:ar)
 |B_ (t:TypeId) (c:ar)
 |Aq
 |z7 (t:TypeId) (c i:ar)
 |x4 (t e:TypeId) (z:Nat) (c i:ar) (off:Nat)
 |za (t e:TypeId) (z:Nat) (c i:ar) (off:Nat) (v:ar)
 |B0 (x:ar)
 |As (n:Nat) (x:ar)
 |CE (sT:TypeId) (x:ar)
 |BR (t:TypeId) (g:Nat)
 |AG (c i:ar) (off:Nat)
 |B1 (x:ar)
 |more (s p:ar)
 |Cm (s p:ar)
 |Cd (ck:nW) (x:ar)
abbrev lv:=FuncId->Option (List ar->Option ar)
abbrev p9:Nat:=1000000
def aJ7(P:Program)(f:FuncId)(φ:List ar->Option ar):Prop:=∀v z rest c,φ (v::.b4 (.int .i64 (z:Nat))::rest)=Q1 c->∃es a,v=.rs es/\c=.rs a/\a.length=es.length /\
 ∀σ id e restv,σ.bF id=Q1 (.row e z es)->(∀G vs w,hE G restv vs->Rel G (σ.del id) w->hE (G.frozen (σ.del id) w (λ_=>Ld)) rest vs) ->
  oO P f (.ms id z 0 es.length::restv) σ (λv σ'=>v=.ed []/\σ'=σ.set id (.row e z a))
abbrev uj:Nat:=2000000
def aU1(P:Program)(f:FuncId)(φ:List ar->Option ar):Prop:=∀args c,φ args=Q1 c->∃es,c=.rs es/\∀T fn t elem ti a,mz P T->P.funcs[f]?=Q1 fn->fn.resultTypes.toList=[t]->T t=Q1 ti->ti.j4=.slice elem->T elem=Q1 a ->
 ∀σ:bg,oO P f args σ (λv σ'=>v=.ms (σ.next+5) a.size 0 es.length/\σ'={ σ with next:=σ.next+7 }.set (σ.next+5) (.row elem a.size es))
structure Ak(P:Program)(Φ:lv):Prop where
 w4:∀f φ,f<p9->Φ f=Q1 φ->∀args c,φ args=Q1 c->oX P ⟨f,args,c⟩
 sort:∀f φ,f<p9->Φ (p9+f)=Q1 φ->aJ7 P f φ
 row:∀f φ,Φ (uj+f)=Q1 φ->aU1 P f φ
def lv.KE(Φ:lv)(f:FuncId):Option (List ar->Option ar):=match cM f p9 with
 |true=>Φ (p9+f)
 |false=>Ld
def lv.fn(Φ:lv)(f:FuncId):Option (List ar->Option ar):=match cM f p9 with
 |true=>Φ f
 |false=>Ld
def bj1(Φ:lv):ar->Bool
 | .fn (.func g) _ _=>(Φ.fn g).isSome
 | .fn _ _ _=>N2
 |_=>No
def bl7:ar->Bool
 | .c8 _ _ _=>No
 |_=>N2
def lv.at(Φ:lv)(f:FuncId)(args:List ar):Option (List ar->Option ar):=match args.all (bj1 Φ)&&!(args.any bl7&&(Φ (uj+p9+f)).isSome)with
 |true=>Φ.fn f
 |false=>Ld
def lv.be0{Φ:lv}{args:List ar}(h:Φ.at f args=Q1 φ):Φ.fn f=Q1 φ:=by grind[lv.at]
def lv.yE{Φ:lv}(h:Φ.fn f=Q1 φ):f<p9/\Φ f=Q1 φ:=by unfold lv.fn at h;split at h;rename_i a;exact⟨by simpa using a,h⟩;cases h
def Hl(T:cy)(sT xT:TypeId)(a b:ar):Option ar :=
 match T sT,T xT with
 |some { j4:=.slice elem,.. },Q1 e=>
  match T elem with
  |some d=>match a,b with
   | .rs es,.rs xs=>if e.isInt=N2/\(xs.all λc=>c.length==d.size&&c.all ar.one)=No/\(2*(es.length+xs.length)+1000)*d.bytes<=2^48/\es.length+xs.length<=2^62/\0<d.size then
     Q1 (.rs (es++xs))else Ld
   |_,_=>Ld
  |none=>Ld
 |_,_=>Ld
def tm(c:ar):bg:=bg.none.set 0 (qY c)
def KV(b:Bool)(l:List Int):List ar->Bool
 |r=>tl b l (oW 0 r).1
def tf(k v:ar)(b:Bool)(l:List Int):List (List ar)->List (List ar)
 | []=>[[k,v]]
 |r::rs=>match KV b l r with
  |true=>[k,v]::rs
  |false=>r::tf k v b l rs
def F9:c7->Option ar
 | .nC c=>Q1 c
 | .map N2 [] 0=>Q1 (.rs [])
 |_=>Ld
def WZ(i j:Nat)(r:List ar):(oW i r).1=(oW j r).1:=by unfold oW;split<;>rfl
def NK(b:Bool)(l:List Int):∀(es:List (List Int×ar×Nat)) (k:Nat),nX b l es (k+1)=(nX b l es k).map (λp=>(p.1+1,p.2))
 | [],_=>rfl
 |e::es,k=>by simp only[nX];split;rfl;exact NK b l es (k+1)
theorem ax4{ix v:ar}{b:Bool}{l:List Int}(hk:ix.key=Q1 (b,l)):∀(rs:List (List ar)) (j:Nat),nT j (tf ix v b l rs)=(qe b l v (j+rs.length) (nT j rs)).1
 | [],j=>by simp[tf,nT,oW,hk,qe,nX]
 |r::rs,j=>by
  have c:=ax4 (v:=v) hk rs (j+1);simp only[tf,KV];have a:tl b l (oW j r).1=tl b l (oW 0 r).1:=by rw[WZ j 0]
  split;rename_i hc;have d:oW j [ix,v]=(l,v,j):=by simp[oW,hk]
  have e:=NQ j r;simp only[nT,d];simp[qe,nX,a,hc,e];rename_i hc;simp only[nT,c];have f:j+1+rs.length=j+(rs.length+1):=by omega
  simp only[qe,nX,a,hc,f];rw[NK];cases nX b l (nT (j+1) rs) 0 with
  |none=>simp
  |some p=>simp
theorem aB4{ix v:ar}{b:Bool}{l:List Int}:∀(rs:List (List ar)) (j:Nat),(tf ix v b l rs).length=(qe b l v rs.length (nT j rs)).2
 | [],j=>by simp[tf,qe,nX,nT]
 |r::rs,j=>by
  have c:=aB4 (ix:=ix) (v:=v) (b:=b) (l:=l) rs (j+1);simp only[tf,KV,nT];have a:tl b l (oW j r).1=tl b l (oW 0 r).1:=by rw[WZ j 0]
  split;rename_i hc;simp[qe,nX,a,hc];rename_i hc;simp only[aC,c];simp only[qe,nX,a,hc];rw[NK];cases nX b l (nT (j+1) rs) 0 with
  |none=>simp
  |some p=>simp
def bo7{T:cy}{id:Nat}{c ix v:ar}{t:TypeId}{b:Bool}{l:List Int}(ho:σ.bF id=Q1 (qY c))(hk:ix.key=Q1 (b,l)){d:bg}(h:si T (tm c) t (.mm 0) ix v=Q1 d) :
  si T σ t (.mm id) ix v=Q1 (σ.set id (qY (.rs (tf ix v b l (rowsOf c))))):=by
 have e:(tm c).bF 0=Q1 (qY c):=by simp[tm,bg.mQ]
 unfold si at h⊢;split at h;rename_i m n _ _ _ _ o p q a;rw[hk]at a;cases a;simp only[e,qY]at h;simp only[ ho,qY];split at h;rename_i hc;have r:rowsOf c=[]:=by have:=hc.1;cases s:rowsOf c<;>grind[ nT]
 grind[rowsOf,tf,rZ,nT,oW]
 rename_i hc;rw[cc hc];split at h;rename_i f;rw[cr f];have i:∀es:List (List ar),rowsOf (.rs es)=es:=λ_=>rfl;have g:=ax4 (v:=v) hk (rowsOf c) 0;have j:=aB4 (ix:=ix) (v:=v) (b:=b) (l:=l) (rowsOf c) 0;simp only[a_]at g;simp only[i];generalize rowsOf c=rs at *;rw[g,j];have k:rZ rs=rZ (tf ix v b l rs):=by
  cases rs
  grind[rZ,tf]
  simp only[tf];split
  grind[rZ]
  unfold rZ
  grind
 rw[<-k];cases h;cases h
def tW(e:TypeId)(z:Nat)(c:ar):bg:=bg.none.set 0 (.row e z (rowsOf c))
def cf1:ar->Bool
 | .rs _=>No
 |_=>N2
def Mc(T:cy)(sT:TypeId)(x:ar):Option ar :=
 match T sT with
 |some { j4:=.slice elem,.. }=>match T elem with
  |some a=>match x with
   | .b4 (.int _ n)=>if IntKind.i64.wrap n=n/\0<n/\(2*n.toNat+1000)*a.bytes<=2^48/\n.toNat<=2^62/\0<a.size then
     Q1 (.rs (List.replicate n.toNat a.zeroCells))else Ld
   |_=>Ld
  |none=>Ld
 |_=>Ld
def iv(T:cy)(Φ:lv)(θ:Nat->ar):nU->Option ar
 | .bin o t x y=>q7 T o t (x.sub θ) (y.sub θ)
 | .un o x=>wD o (x.sub θ)
 | .conv s d x=>w0 T s d (x.sub θ)
 | .idx t x i=>sH T t (x.sub θ) (i.sub θ)
 | .index t x i=>vZ T t (x.sub θ) (i.sub θ)
 | .Cq t x b7 a7=>uB T t (x.sub θ) (b7.map (ar.sub θ)) (a7.map (ar.sub θ)) Ld
 | .len t x=>p3 T bg.none t (x.sub θ)
 | .pP l=>(zn (l.map (ar.sub θ))).map .b4
 | .yT l=>(zl (l.map (ar.sub θ))).map .b4
 | .cat sT xT x y=>Hl T sT xT (x.sub θ) (y.sub θ)
 | .call f args flat=>match Φ f with
  |some φ=>match φ (args.map (ar.sub θ))with
   |some c=>if flat=No->El c=No then Q1 c else Ld
   |none=>Ld
  |none=>Ld
 | .rows l=>match l.all (λj=>match θ j with| .rs _=>No|_=>N2)with
  |true=>Q1 (.b4 (.bool No))
  |false=>Ld
 | .look t c ix ok=>qk T (tm (c.sub θ)) t (.mm 0) (ix.sub θ) ok
 | .xS t x ix ok=>qk T bg.none t (x.sub θ) (ix.sub θ) ok
 | .qe t c ix v=>match si T (tm (c.sub θ)) t (.mm 0) (ix.sub θ) (v.sub θ)with
  |some _=>match(ix.sub θ).key with
   |some (b,l)=>Q1 (.rs (tf (ix.sub θ) (v.sub θ) b l (rowsOf (c.sub θ))))
   |none=>Ld
  |none=>Ld
 | .B_ t c=>p3 T (tm (c.sub θ)) t (.mm 0)
 | .Aq=>Q1 (.b4 (.bool No))
 | .B0 x=>match x.sub θ with
  | .fT _=>Q1 (.b4 (.bool No))
  |_=>Ld
 | .CE sT x=>Mc T sT (x.sub θ)
 | .BR t g=>GY T t g
 | .B1 x=>match x.sub θ with
  | .b4 (.string _)=>Q1 (.b4 (.bool No))
  |_=>Ld
 | .more s p=>match s.sub θ with
  | .b4 (.string b)=>match p.sub θ with
   | .b4 (.int .i64 n)=>Q1 (.b4 (.bool (Eo (n.toNat<b.size))))
   |_=>Ld
  |_=>Ld
 | .Cd ck x=>match x.sub θ with
  | .rs rows=>match A5 ck rows with
   |true=>Q1 (.rs (rows.map (rp ck 0)))
   |false=>Ld
  |_=>Ld
 | .Cm s p=>match s.sub θ with
  | .b4 (.string b)=>match p.sub θ with
   | .b4 (.int .i64 n)=>match Eo (n.toNat<b.size)with
    |true=>Q1 (.ed [.b4 (.int .i64 n.toNat),.b4 (.int .i32 (bI b n.toNat).1),.b4 (.int .i64 (n.toNat+(bI b n.toNat).2:Nat))])
    |false=>Ld
   |_=>Ld
  |_=>Ld
 | .AG c i off=>match(rowsOf (c.sub θ))[nm (i.sub θ)]? with
  |some r=>match cM off r.length with
   |true=>Q1 (.b4 (.bool No))
   |false=>Ld
  |none=>Ld
 | .As n x=>match x.sub θ with
  | .fT cs=>match ax cs.length n with
   |true=>Q1 (.fT cs)
   |false=>Ld
  |_=>Ld
 | .z7 t c i=>match sH T t (.ms 0 (match T t with|some { j4:=.slice el,.. }=>(match T el with|some a=>a.size|none=>0)|_=>0) 0 (rowsOf (c.sub θ)).length) (i.sub θ)with
  |some _=>Q1 (.b4 (.bool No))
  |none=>Ld
 | .x4 t e z c i off=>py T (tW e z (c.sub θ)) t (.mp 0 (nm (i.sub θ)) off)
 | .za t e z c i off v=>match sq T (tW e z (c.sub θ)) t (.mp 0 (nm (i.sub θ)) off) (v.sub θ)with
  |some σ=>match σ.bF 0 with
   |some (.row _ _ es)=>match ax es.length (rowsOf (c.sub θ)).length with
    |true=>Q1 (.rs es)
    |false=>Ld
   |_=>Ld
  |none=>Ld
def pZ:e8 c7->List Nat
 | .leaf=>[]
 | .node v l r=>(match v with|some (.fN _ _ j)=>[j]|some (.nC (.ey j))=>[j]|_=>[])++(pZ l++pZ r)
inductive nf where
 |stuck
 |ret (c:ar) (l:List Nat)
 |op (o:nU) (bb:Nat) (pat:ar) (r:nf)
 |test (i:Nat) (a b:nf)
 |loop (l k:Nat) (inits:List ar) (body:nf)
 |again (l:Nat) (j9:List ar)
def mV(T:cy)(Φ:lv)(Q:ar->Prop):nf->(Nat->ar)->(Nat->List ar->Prop)->Prop
 | .stuck,_,_=>False
 | .ret c l,θ,_=>(∀j∈l,∃es,θ j=.rs es)/\Q (c.sub θ)
 | .op o bb pat r,θ,A=>∃d,(∀i,i<bb->d i=θ i)/\Fit d/\iv T Φ θ o=Q1 (pat.sub d)/\mV T Φ Q r d A
 | .test i a b,θ,A=>(θ i=.b4 (.bool No)/\mV T Φ Q a θ A)\/(θ i=.b4 (.bool N2)/\mV T Φ Q b θ A)
 | .loop l k inits body,θ,A=>∃I:Nat->List ar->Prop,(∃n,I n (inits.map (ar.sub θ)))/\∀n j9,I n j9->j9.length=k->(∀v∈j9,nN v) ->
   ∀d,(∀i,i<l->d i=θ i)->(∀j (h:j<j9.length),d (l+j)=j9[j])->d (l+k)=.b4 (.bool N2)->Fit d->mV T Φ Q body d (λf=>if f=l then(λe=>∃m,m<n/\I m e)else A f)
 | .again l j9,θ,A=>A l (j9.map (ar.sub θ))
def zX(bb:Nat):Nat->List ar
 | 0=>[]
 |n+1=>.ey bb::zX (bb+1) n
def zt(T:cy)(t:TypeId)(bb:Nat):Option (ar×Nat) :=
 match T t with
 |some ti=>if ti.isAgg then Q1 (.agg (zX bb ti.size),bb+ti.size)else Q1 (.ey bb,bb+1)
 |none=>Ld
def Yd(T:cy):List TypeId->Nat->Option (List ar×Nat)
 | [],bb=>Q1 ([],bb)
 |t::ts,bb=>match zt T t bb with
  |some (p,a)=>match Yd T ts a with
   |some (c,b)=>Q1 (p::c,b)
   |none=>Ld
  |none=>Ld
def Ye(T:cy)(ts:List TypeId)(bb:Nat):Option (ar×Nat) :=
 match ts with
 | [t]=>zt T t bb
 |ts=>match Yd T ts bb with
  |some (b,a)=>Q1 (.ed b,a)
  |none=>Ld
def Lz(σ:bg)(elem:TypeId)(size:Nat):ar->Option (Option Nat×ar)
 | .b4 (.slice Ld 0 0)=>Q1 (Ld,.rs [])
 | .ms id _ 0 len=>match σ.bF id with
  |some (.row e a es)=>if len=es.length/\a=size/\e=elem then Q1 (Q1 id,.rs es)else Ld
  |_=>Ld
 | .c8 id _ i=>match σ.bF id with
  |some (.fN e a j)=>if j=i/\a=size/\e=elem then Q1 (Q1 id,.ey j)else Ld
  |_=>Ld
 |_=>Ld
def KF(σ:bg):ar->Option ar
 | .b4 (.slice Ld 0 0)=>Q1 (.rs [])
 | .ey i=>Q1 (.ey i)
 | .rs es=>Q1 (.rs es)
 | .ms id _ off len=>match σ.bF id with
  |some (.row _ _ es)=>if off+len<=es.length then Q1 (.rs ((es.drop off).take len))else Ld
  |_=>Ld
 | .c8 id _ i=>match σ.bF id with
  |some (.fN _ _ j)=>if j=i then Q1 (.ey j)else Ld
  |_=>Ld
 |_=>Ld
def bl9:ar->Bool
 | .ey _=>No
 | .rs _=>No
 |_=>N2
def Pz(T:cy)(σ:bg)(id:Nat)(sT xT:TypeId)(a c:ar)(bb:Nat):Option (nU×ar×ar×bg×Nat) :=
 match T sT with
 |some { j4:=.slice elem,.. }=>match T elem with
  |some b=>match Lz σ elem b.size a,KF σ c with
   |some (d,x),Q1 y=>Q1 (.cat sT xT x y,.ey bb,.c8 id b.size bb,(match d with|some i=>σ.del i|none=>σ).set id (.fN elem b.size bb),bb+1)
   |_,_=>Ld
  |none=>Ld
 |_=>Ld
def PS(T:cy)(σ:bg)(id:Nat)(sT:TypeId)(a c:ar)(bb:Nat):Option (nU×ar×ar×bg×Nat) :=
 match T sT with
 |some { j4:=.slice elem,.. }=>match T elem with
  |some b=>match a with
   | .b4 (.slice Ld 0 0)=>Q1 (.CE sT c,.ey bb,.c8 id b.size bb,σ.set id (.fN elem b.size bb),bb+1)
   |_=>Ld
  |none=>Ld
 |_=>Ld
def P7(σ:bg)(i:Nat)(c:ar):Option ar:=match bl9 c with
 |true=>Q1 c
 |false=>match c with
  | .ms i2 z o l=>match ax i2 i with
   |true=>Ld
   |false=>KF σ (.ms i2 z o l)
  |_=>Ld
def LV(T:cy)(σ:bg)(id:Nat)(sT xT:TypeId)(a c:ar)(bb:Nat):Option (nU×ar×ar×bg×Nat) :=
 match T sT with
 |some { j4:=.slice elem,.. }=>match T elem with
  |some b=>match a with
   | .ms i _ 0 0=>match σ.bF i with
    |some (.fN e d _)=>match ax d b.size&&ax e elem,P7 σ i c with
     |true,Q1 y=>Q1 (.cat sT xT (.rs []) y,.ey bb,.c8 id b.size bb,(σ.del i).set id (.fN elem b.size bb),bb+1)
     |_,_=>Ld
    |_=>Ld
   |_=>Ld
  |none=>Ld
 |_=>Ld
def Lr(T:cy)(σ:bg)(id:Nat)(b:Builtin)(ts:List TypeId)(args:List ar)(bb:Nat):Option (nU×ar×ar×bg×Nat) :=
 match b,ts,args with
 | .len,[t],[.ey i]=>Q1 (.len t (.ey i),.ey bb,.ey bb,σ,bb+1)
 | .len,[t],[.c8 _ _ i]=>match T t with
  |some { j4:=.slice _,.. }=>Q1 (.len t (.ey i),.ey bb,.ey bb,σ,bb+1)
  |_=>Ld
 | .max,_,l=>Q1 (.pP l,.ey bb,.ey bb,σ,bb+1)
 | .min,_,l=>Q1 (.yT l,.ey bb,.ey bb,σ,bb+1)
 | .append,[s,x],[a,c]=>match T x with
  |some { j4:=.int _,.. }=>PS T σ id s a c bb
  |_=>match LV T σ id s x a c bb with
   |some q=>Q1 q
   |none=>Pz T σ id s x a c bb
 | .len,[t],[.mm m]=>match(σ.bF m).bind F9 with
  |some c=>Q1 (.B_ t c,.ey bb,.ey bb,σ,bb+1)
  |none=>Ld
 |_,_,_=>Ld
def OF(σ:bg)(t:TypeId)(m k x:ar)(bb:Nat):Option (nU×ar×ar×bg×Nat) :=
 match m with
 | .mm id=>match(σ.bF id).bind F9 with
  |some c=>Q1 (.qe t c k x,.ey bb,.b4 undef,σ.set id (.nC (.ey bb)),bb+1)
  |none=>Ld
 |_=>Ld
def Eg:ar->Option (Nat×ar×Nat)
 | .ps id k off=>Q1 (id,.ey k,off)
 | .mp id i off=>Q1 (id,.b4 (.int .i64 i),off)
 |_=>Ld
def bl4(a:Operand->ar):Op->Bool
 | .load _ x=>(vW (a x)).isSome
 |_=>N2
def C_(T:cy)(a:Operand->ar)(σ:bg)(id:Nat)(op:Op):Option (ar×bg):=match bl4 a op with
 |true=>Ld
 |false=>fb T a σ id op
def JS{T:cy}{a:Operand->ar}{id:Nat}{op:Op}{r:ar×bg}(h:C_ T a σ id op=Q1 r):fb T a σ id op=Q1 r:=by grind[C_]
def Hb(T:cy)(l:Operand->ar)(σ:bg)(id:Nat)(op:Op)(bb:Nat):Option (nU×ar×ar×bg×Nat) :=
 match op with
 | .binOp o t x y _=>Q1 (.bin o t (l x) (l y),.ey bb,.ey bb,σ,bb+1)
 | .unOp o _ x=>Q1 (.un o (l x),.ey bb,.ey bb,σ,bb+1)
 | .convert s d x=>Q1 (.conv s d (l x),.ey bb,.ey bb,σ,bb+1)
 | .nilCheck x=>match l x with
  | .ps id k off=>Q1 (.Aq,.b4 (.bool No),.ps id k off,σ,bb)
  | .ey i=>Q1 (.B0 (.ey i),.b4 (.bool No),.ey i,σ,bb)
  |_=>Ld
 | .fieldAddr t x f=>match l x,T t with
  | .ps id k off,Q1 { j4:=.struct fields,.. }=>match fields[f]? with
   |some fd=>match T fd.type with
    |some B=>match ax B.size 0 with
     |true=>Ld
     |false=>Q1 (.Aq,.b4 (.bool No),.ps id k (off+fd.offset),σ,bb)
    |none=>Ld
   |none=>Ld
  | .ey i,Q1 ti=>match wB T t (.fT (zX bb ti.size)) f with
   |some v=>Q1 (.As ti.size (.ey i),.fT (zX bb ti.size),v,σ,bb+ti.size)
   |none=>Ld
  |_,_=>Ld
 | .load t x=>match vW (l x)with
  |some g=>(match zt T t bb with
   |some (p,h)=>Q1 (.BR t g,p,p,σ,h)
   |none=>Ld)
  |none=>match Eg (l x)with
  |some (id,i,off)=>match σ.bF id,zt T t bb with
   |some (.fN e z j),Q1 (p,h)=>Q1 (.x4 t e z (.ey j) i off,p,p,σ,h)
   |some (.nH e z c ck k r v),Q1 (p,h)=>match T t with
    |some ti=>match ti.isAgg with
     |true=>Ld
     |false=>match ax off r with
      |true=>match v,D4 i k with
       |some v0,No=>Q1 (.AG c i off,.b4 (.bool No),v0,σ,bb)
       |_,_=>Ld
      |false=>match ck.all (λq=>!Nat.beq q.1 off)with
       |true=>Q1 (.x4 t e z c i off,p,p,σ,h)
       |false=>Ld
    |none=>Ld
   |_,_=>Ld
  |none=>match l x,T t with
   | .ey i,Q1 ti=>match py T bg.none t (.fT (zX bb ti.size))with
    |some v=>Q1 (.As ti.size (.ey i),.fT (zX bb ti.size),v,σ,bb+ti.size)
    |none=>Ld
   |_,_=>Ld
 | .store t a x=>match Eg (l a),T t,l x with
  |some (id,i,off),Q1 ti,.c8 m C j=>match σ.bF id with
   |some (.nH e z c ck k r (Q1 _))=>match ax ti.size 1&&ax off r&&D4 i k with
    |true=>Q1 (.AG c i off,.b4 (.bool No),.b4 undef,σ.set id (.nH e z c ck k r (Q1 (.c8 m C j))),bb)
    |false=>Ld
   |_=>Ld
  |_,_,_=>Ld
 | .indexAddr t x i=>match T t with
  |some { j4:=.slice elem,.. }=>match T elem with
   |some u=>match l x with
    | .c8 id z j=>match ax z u.size with
     |true=>match l i with
      | .ey k=>Q1 (.z7 t (.ey j) (.ey k),.b4 (.bool No),.ps id k 0,σ,bb)
      | .b4 (.int D n)=>Q1 (.z7 t (.ey j) (.b4 (.int D n)),.b4 (.bool No),.mp id n.toNat 0,σ,bb)
      |_=>Ld
     |false=>Ld
    |_=>Q1 (.idx t (l x) (l i),.fT (zX bb u.size),.fT (zX bb u.size),σ,bb+u.size)
   |none=>Ld
  |_=>Ld
 | .index t x i=>match T t with
  |some { j4:=.array _ e,.. }=>match zt T e bb with
   |some (p,h)=>Q1 (.index t (l x) (l i),p,p,σ,h)
   |none=>Ld
  |_=>Q1 (.index t (l x) (l i),.ey bb,.ey bb,σ,bb+1)
 | .slice t x b7 a7 Ld=>match T t,l x,b7.map l,a7.map l with
  |some { j4:=.slice elem,.. },.c8 id z _,Ld,Q1 (.b4 (.int _ 0))=>match T elem with
   |some u=>match ax z u.size with
    |true=>Q1 (.Aq,.b4 (.bool No),.ms id z 0 0,σ,bb)
    |false=>Ld
   |none=>Ld
  |_,_,_,_=>Q1 (.Cq t (l x) (b7.map l) (a7.map l),.ey bb,.ey bb,σ,bb+1)
 | .call { callee:=.builtin b,args,argTypes }=>Lr T σ id b argTypes.toList (args.toList.map l) bb
 | .lookup t x i ok=>match T t,l x with
  |some { j4:=.map _ w,.. },.mm m=>match(σ.bF m).bind F9 with
   |some c=>match zt T w bb with
    |some (p,h)=>match ok with
     |true=>Q1 (.look t c (l i) No,.ed [p,.ey h],.ed [p,.ey h],σ,h+1)
     |false=>Q1 (.look t c (l i) N2,p,p,σ,h)
    |none=>Ld
   |none=>Ld
  |some { j4:=.map _ w,.. },.ey m=>match zt T w bb with
   |some (p,h)=>match ok with
    |true=>Q1 (.xS t (.ey m) (l i) No,.ed [p,.ey h],.ed [p,.ey h],σ,h+1)
    |false=>Q1 (.xS t (.ey m) (l i) N2,p,p,σ,h)
   |none=>Ld
  |some { j4:=.map _ w,.. },.mY c=>match zt T w bb with
   |some (p,h)=>match ok with
    |true=>Q1 (.xS t (.mY c) (l i) No,.ed [p,.ey h],.ed [p,.ey h],σ,h+1)
    |false=>Q1 (.xS t (.mY c) (l i) N2,p,p,σ,h)
   |none=>Ld
  |_,_=>Ld
 | .mapUpdate t m k x=>OF σ t (l m) (l k) (l x) bb
 |_=>Ld
mutual
def ar.qA:ar->Bool
 | .b4 _=>No
 | .ey _=>No
 | .rs es=>yX es
 | .fT cs=>q2 cs
 | .mY c=>c.qA
 | .fn _ a c=>q2 a&&q2 c
 | .agg cs=>q2 cs
 | .ed cs=>q2 cs
 |_=>N2
def q2:List ar->Bool
 | []=>No
 |c::cs=>c.qA&&q2 cs
def yX:List (List ar)->Bool
 | []=>No
 |c::cs=>q2 c&&yX cs
end
def pX(σ:bg):Nat->ar->Option ar
 | 0,_=>Ld
 |k+1,v=>match v.qA with
  |true=>Q1 v
  |false=>match v with
   | .agg cs=>match uZ (pX σ k) cs with
    |some l=>Q1 (.agg l)
    |none=>Ld
   | .ed cs=>match uZ (pX σ k) cs with
    |some l=>Q1 (.ed l)
    |none=>Ld
   | .ms id _ off len=>match σ.bF id with
    |some (.row _ _ es)=>if off+len<=es.length then
      match Gd (pX σ k) ((es.drop off).take len)with
      |some l=>Q1 (.rs l)
      |none=>Ld else Ld
    |_=>Ld
   | .c8 id _ i=>match σ.bF id with
    |some (.fN _ _ j)=>if j=i then Q1 (.ey j)else Ld
    |_=>Ld
   | .mp id 0 0=>match σ.bF id with
    |some (.row _ _ [cs])=>match uZ (pX σ k) cs with
     |some l=>Q1 (.fT l)
     |none=>Ld
    |_=>Ld
   | .mm id=>match σ.bF id with
    |some (.nC (.ey j))=>Q1 (.mY (.ey j))
    |some (.map N2 [] 0)=>Q1 (.mY (.rs []))
    |_=>Ld
   | .fn f a c=>match uZ (pX σ k) a,uZ (pX σ k) c with
    |some b,Q1 d=>Q1 (.fn f b d)
    |_,_=>Ld
   |_=>Ld
mutual
def ar.JO:ar->Bool
 | .b4 (.slice Ld 0 0)=>N2
 | .agg cs=>Gj cs
 | .rs es=>Xa es
 |_=>No
def Gj:List ar->Bool
 | []=>No
 |c::cs=>c.JO&&Gj cs
def Xa:List (List ar)->Bool
 | []=>No
 |c::cs=>Gj c&&Xa cs
end
def P3(σ:bg)(args:List ar):Option (List ar×Bool) :=
 match q2 args&&Gj args with
 |true=>Q1 (args,N2)
 |false=>match uZ (pX σ 50) args with
  |some l=>Q1 (y6 l,No)
  |none=>Ld
def nD(σ:bg)(id:Nat)(o:c7):bg:=({ σ with mZ:=.leaf }:bg).set id o
mutual
def ar.nS(σ1:bg):ar->ar
 | .agg cs=>.agg (sb σ1 cs)
 | .ed cs=>.ed (sb σ1 cs)
 | .fn f a c=>.fn f (sb σ1 a) (sb σ1 c)
 | .c8 a z i=>(pX σ1 3 (.c8 a z i)).getD (.c8 a z i)
 | .ms a z i j=>(pX σ1 3 (.ms a z i j)).getD (.ms a z i j)
 | .mp a i j=>(pX σ1 3 (.mp a i j)).getD (.mp a i j)
 |v=>v
def sb(σ1:bg):List ar->List ar
 | []=>[]
 |c::cs=>c.nS σ1::sb σ1 cs
end
def c7.nS(σ1:bg):c7->c7
 | .row e z es=>.row e z (es.map (sb σ1))
 |o=>o
def bl.nS(σ1:bg)(id:Nat)(s:bl):bl:={ n:=s.n,mZ:=s.mZ.map (ar.nS σ1),st:={ next:=s.st.next,mZ:=(s.st.del id).mZ.map (c7.nS σ1),low:=(s.st.del id).low } }
def y8(s:bl):ar->Option Nat
 | .c8 a z i=>match s.st.bF a with
  |some o=>match pX (nD s.st a o) 3 (.c8 a z i)with
   |some _=>Q1 a
   |none=>Ld
  |none=>Ld
 | .ms a z 0 n=>match s.st.bF a with
  |some o=>match pX (nD s.st a o) 3 (.ms a z 0 n)with
   |some _=>Q1 a
   |none=>Ld
  |none=>Ld
 | .mp a 0 0=>match s.st.bF a with
  |some o=>match pX (nD s.st a o) 3 (.mp a 0 0)with
   |some _=>Q1 a
   |none=>Ld
  |none=>Ld
 |_=>Ld
def Jx(s:bl):List ar->Option Nat
 | []=>Ld
 |v::l=>match y8 s v with
  |some a=>Q1 a
  |none=>Jx s l
def cg1(T:cy)(t:TypeId):Bool:=match T t with
 |some { j4:=.slice el,.. }=>match T el with
  |some a=>a.zeroCells.all λv=>match v with
   | .b4 (.pointer _)=>N2
   |_=>No
  |none=>N2
 |_=>N2
def Vs(T:cy)(s:bl)(op:Op):Option (Nat×c7):=match(match op with
  | .call { callee:=.builtin .append,args:=⟨[_,c]⟩,argTypes:=_ }=>match s.eval c with
   | .ms id _ _ _=>match s.st.bF id with
    |some (.row _ _ es)=>Jx s es.flatten
    |_=>Ld
   |_=>Ld
  | .mapUpdate _ _ _ x=>y8 s (s.eval x)
  | .convert _ d x=>match T d with
   |some { j4:=.string,.. }=>y8 s (s.eval x)
   |_=>Ld
  | .store _ a x=>match Eg (s.eval a)with
   |some (id,_,_)=>match s.st.bF id with
    |some (.fN ..)=>y8 s (s.eval x)
    |_=>Ld
   |none=>Ld
  | .slice _ x b7 a7 Ld=>match b7,a7.map s.eval with
   |none,Q1 (.b4 (.int _ 0))=>Ld
   |_,_=>match s.eval x with
    | .c8 a z i=>y8 s (.c8 a z i)
    |_=>Ld
  |_=>Ld)with
 |some a=>match s.st.bF a with
  |some o=>Q1 (a,o)
  |none=>Ld
 |none=>Ld
structure Hint where
 k:Nat
 wc:List ar
 bF:List (Nat×c7)
 next:Nat
def Hint.state(h:Hint):bl:=bl.enter h.wc.length h.wc { next:=h.next,mZ:=e8.ofList h.bF .leaf,low:=0 }
def qC(l:Nat)(j9:List ar)(i:Nat):ar:=match dD l i with
 |true=>(j9[i-l]?).getD (.ey i)
 |false=>.ey i
def GW:List (Nat×Option Nat)->Nat->Option (Option Nat)
 | [],_=>Ld
 | (a,b)::l,i=>match ax a i with
  |true=>Q1 b
  |false=>GW l i
def DO(n:Nat)(l:List (Nat×Option Nat)):p5:=λi=>match cM i n with
 |true=>Q1 (Q1 i)
 |false=>GW l i
structure Acc where
 j9:List (Nat×ar)
 io:List (Nat×Option Nat)
def Acc.yr(a:Acc)(j:Nat)(v:ar):Acc:=match a.j9.any (λp=>ax p.1 j)with
 |true=>a
 |false=>{ a with j9:=(j,v)::a.j9 }
def Acc.oY(a:Acc)(i:Nat)(k:Option Nat):Acc:=match a.io.any (λp=>ax p.1 i)with
 |true=>a
 |false=>{ a with io:=(i,k)::a.io }
mutual
def GO(σ:bg)(l:Nat)(acc:Acc):ar->ar->Acc
 | .ey j,b=>match dD l j with
  |true=>acc.yr j b
  |false=>acc
 | .c8 id _ j,.c8 id' _ d=>(acc.oY id (Q1 id')).yr j (.ey d)
 | .c8 id _ j,.ms id' _ _ _=>match σ.bF id' with
  |some (.row _ _ es)=>(acc.oY id (Q1 id')).yr j (.rs es)
  |_=>acc
 | .c8 id _ j,.b4 _=>(acc.oY id Ld).yr j (.rs [])
 | .mp id _ _,.mp id' _ _=>acc.oY id (Q1 id')
 | .ms id _ _ _,.ms id' _ _ _=>acc.oY id (Q1 id')
 | .mm id,.mm id'=>acc.oY id (Q1 id')
 | .ps id k _,.ps id' e _=>(acc.oY id (Q1 id')).yr k (.ey e)
 | .it id,.it id'=>acc.oY id (Q1 id')
 | .agg a,.agg b=>AF σ l acc a b
 | .ed a,.ed b=>AF σ l acc a b
 | .fT a,.fT b=>AF σ l acc a b
 | .mY a,.mY b=>GO σ l acc a b
 | .fn _ a c,.fn _ f g=>AF σ l (AF σ l acc a f) c g
 |_,_=>acc
def AF(σ:bg)(l:Nat)(acc:Acc):List ar->List ar->Acc
 |a::az,b::fA=>AF σ l (GO σ l acc a b) az fA
 |_,_=>acc
end
def au4(σ:bg)(l:Nat)(acc:Acc):List (List ar)->List (List ar)->Acc
 |a::az,b::fA=>au4 σ l (AF σ l acc a b) az fA
 |_,_=>acc
def bR8(σ:bg)(l:Nat)(acc:Acc):c7->c7->Acc
 | .row _ _ es,.row _ _ a=>au4 σ l acc es a
 | .fN _ _ j,.fN _ _ b=>acc.yr j (.ey b)
 | .fN _ _ j,.row _ _ es=>acc.yr j (.rs es)
 | .map _ es _,.map _ a _=>AF σ l acc (es.map (·.2.1)) (a.map (·.2.1))
 | .nC (.ey j),.nC c=>acc.yr j c
 | .qh s p,.qh s' d=>GO σ l (GO σ l acc s s') p d
 | .nC (.ey j),.map _ [] _=>acc.yr j (.rs [])
 |_,_=>acc
def Rp(s:bl)(l:Nat):List ar->Nat->Acc->Acc
 | [],_,acc=>acc
 |a::az,t,acc=>Rp s l az (t+1) (GO s.st l acc a (s.get t))
def GB(s:bl)(n l:Nat):List (Nat×c7)->Acc->Acc
 | [],acc=>acc
 | (i,o)::os,acc=>match DO n acc.io i with
  |some (Q1 k)=>match s.st.bF k with
   |some o'=>GB s n l os (bR8 s.st l acc o o')
   |none=>GB s n l os acc
  |_=>GB s n l os acc
def VC(s:bl)(n l:Nat)(h:Hint):Acc:=GB s n l h.bF (GB s n l h.bF (Rp s l h.wc 0 ⟨[],[]⟩))
def Ae(a:Acc)(l:Nat):Nat->List ar
 | 0=>[]
 |k+1=>((a.j9.find? (λp=>ax p.1 l)).map (·.2)).getD (.b4 (.bool N2))::Ae a (l+1) k
def MZ:ar->Bool
 | .b4 (.int _ _)=>No
 | .b4 (.bool _)=>No
 | .b4 (.string _)=>No
 | .ey _=>No
 | .rs es=>yX es
 | .fT cs=>q2 cs
 | .mY c=>c.qA
 |_=>N2
def Eb:List (Nat×TypeId×Nat)->List (Nat×TypeId×Nat)->Bool
 | [],[]=>No
 |a::az,b::fA=>ax a.1 b.1&&ax a.2.1 b.2.1&&ax a.2.2 b.2.2&&Eb az fA
 |_,_=>N2
def ID:ar->ar->Bool
 | .ey i,.ey j=>ax i j
 | .b4 (.int .i64 a),.b4 (.int .i64 b)=>Eo (a=b)
 |_,_=>N2
def rF(b7:Bool)(ι:p5):c7->c7->Bool
 | .row e z es,.row d f a=>ax e d&&ax z f&&AV ι es a
 | .fN e z i,.fN d f k=>ax e d&&ax z f&&ax i k
 | .map agg es c,.map g a h=>(agg==g)&&ax c h&&ax es.length a.length&&(es.zip a).all λp=>Eo (p.1.1=p.2.1)&&n_ ι p.1.2.1 p.2.2.1&&ax p.1.2.2 p.2.2.2
 | .nC c,.nC h=>match c,h with
  | .ey i,.ey j=>ax i j
  | .rs [],.rs []=>No
  |_,_=>N2
 | .nC (.rs []),.map N2 [] c=>ax c 0
 | .qh s p,.qh s' l=>ID s s'&&ID p l
 | .nH e z c ck _ _ Ld,.nH d f h b _ _ Ld=>b7&&ax e d&&ax z f&&D4 c h&&Eb ck b
 |_,_=>N2
def ar0:c7->Bool
 | .row _ _ []=>No
 |_=>N2
def TU(b7:Bool)(ι:p5)(s:bl)(i:Nat)(o:c7):Bool:=match ι i with
 |some (Q1 k)=>match s.st.bF k with
  |some o'=>rF b7 ι o o'
  |none=>N2
 |some Ld=>ar0 o
 |none=>N2
def Ju(ι:p5)(b:Nat->ar)(s:bl):List ar->Nat->Bool
 | [],_=>No
 |a::az,t=>n_ ι (a.mU b) (s.get t)&&Ju ι b s az (t+1)
def Jg(ι:p5):List (Nat×c7)->Bool
 | []=>No
 | (i,_)::os=>os.all (λp=>ax p.1 i||(match ι i with|some (Q1 k)=>!xD ι p.1 k|_=>No))&&Jg ι os
def DD(n l:Nat)(h:Hint)(s:bl):Option (List ar) :=
 let acc:=VC s n l h
 let j9:=Ae acc l h.k
 let a:=qC l j9
 let io:=acc.io.filter (λp=>dD n p.1)
 let ι:=DO n io
 match j9.all MZ&&ax h.wc.length s.n&&dD n h.next&&io.all (λp=>dD n p.1&&cM p.1 h.next)&&Ju ι a s h.wc 0&&h.bF.all (λp=>TU (dD mB n) ι s p.1 (p.2.mU a))&&Jg ι h.bF with
 |true=>Q1 j9
 |false=>Ld
mutual
def ar.oE(id j bb:Nat):ar->ar
 | .c8 a z i=>match ax a id&&ax i j with
  |true=>.c8 a z bb
  |false=>.c8 a z i
 | .rs es=>.rs (G1 id j bb es)
 | .fT cs=>.fT (y0 id j bb cs)
 | .fn f a c=>.fn f (y0 id j bb a) (y0 id j bb c)
 | .agg cs=>.agg (y0 id j bb cs)
 | .ed cs=>.ed (y0 id j bb cs)
 |v=>v
def y0(id j bb:Nat):List ar->List ar
 | []=>[]
 |c::cs=>c.oE id j bb::y0 id j bb cs
def G1(id j bb:Nat):List (List ar)->List (List ar)
 | []=>[]
 |c::cs=>y0 id j bb c::G1 id j bb cs
end
def c7.oE(id j bb:Nat):c7->c7
 | .row e z es=>.row e z (G1 id j bb es)
 | .map agg es c=>.map agg (es.map λe=>(e.1,e.2.1.oE id j bb,e.2.2)) c
 |o=>o
def bl.oE(id j bb:Nat)(s:bl):bl:={ n:=s.n,mZ:=s.mZ.map (ar.oE id j bb),st:={ next:=s.st.next,mZ:=s.st.mZ.map (c7.oE id j bb),low:=s.st.low } }
def Q5(s:bl)(op:Op)(bb:Nat):Option (nU×bl) :=
 match op with
 | .store t a x=>match Eg (s.eval a)with
  |some (id,i,off)=>match s.st.bF id with
   |some (.fN e z j)=>Q1 (.za t e z (.ey j) i off (s.eval x),{ s.oE id j bb with st:=(s.oE id j bb).st.set id (.fN e z bb) })
   |_=>Ld
  |none=>Ld
 |_=>Ld
def ao9(Φ:lv)(s:bl)(f:FuncId)(args:List ar)(bb:Nat):Option (List Nat×nU×bl) :=
 match Φ.KE f with
 |none=>Ld
 |some _=>match args with
  | .c8 id z j::rest=>match s.st.bF id with
   |some (.fN e b c)=>match ax z b&&ax j c,uZ (pX (s.st.del id) 50) rest with
    |true,Q1 a=>Q1 (pZ (s.st.del id).mZ,.call (p9+f) (.ey j::.b4 (.int .i64 (z:Nat))::a) N2,{ s.oE id j bb with st:=(s.oE id j bb).st.set id (.fN e z bb) })
    |_,_=>Ld
   |_=>Ld
  |_=>Ld
def JJ(ops:Array Oper)(s:bl)(o:Oper):Option (Nat×Bool) :=
 match o.guard with
 |none=>Ld
 |some (j,want)=>match(ops[j]?).bind (·.dst)with
  |some d=>match cM d s.n with
   |true=>match s.get d with
    | .ey i=>Q1 (i,want)
    |_=>Ld
   |false=>Ld
  |none=>Ld
abbrev vC:=bl->Nat->nf
abbrev zu:=qQ->bl->Nat->nf
abbrev tF:=Nat->Code->bl->Nat->zu->nf
section
variable (T:cy) (Φ:lv) (F:FuncId->Option Func)
def ao8(s:bl)(f:FuncId)(args:List ar)(bb:Nat):Option (nU×ar×bl) :=
 match Φ (uj+f)with
 |none=>Ld
 |some _=>match q2 args&&Gj args with
  |true=>match F f with
   |some fn=>match fn.resultTypes.toList with
    | [t]=>match T t with
     |some { j4:=.slice elem,.. }=>match T elem with
      |some a=>Q1 (.call (uj+f) args N2,.c8 (s.st.next+5) a.size bb,{ s with st:={ s.st with next:=s.st.next+7 }.set (s.st.next+5) (.fN elem a.size bb) })
      |none=>Ld
     |_=>Ld
    |_=>Ld
   |none=>Ld
  |false=>Ld
def ao7(ex:tF)(f:FuncId)(args:List ar)(dst:Option Tmp)(s:bl)(bb:Nat)(d:vC):nf :=
 match F f with
 |none=>.stuck
 |some fn=>match Φ.at f args with
  |some _=>match Ye T fn.resultTypes.toList bb with
   |some (pat,b)=>match s.ff bb&&dD bb b with
    |true=>match P3 s.st args with
     |some (a,No)=>.op (.rows (pZ s.st.mZ)) bb (.b4 (.bool No)) (.op (.call f a No) bb pat (d (s.put dst pat) b))
     |some (a,N2)=>.op (.call f a N2) bb pat (d (s.put dst pat) b)
     |none=>.stuck
    |false=>.stuck
   |none=>.stuck
  |none=>match fn.body with
   |some c=>match dD args.length fn.ntmps&&!(fn.name== "runtime.NumGoroutine")&&s.ff bb with
    |true=>ex s.st.next c (bl.enter fn.ntmps args s.st) bb λe s1 g=>match e with
     | .oA _=>.stuck
     |_=>match pc T fn s1 with
      |some v=>d ({ s with st:=s1.st }.put dst v) g
      |none=>.stuck
    |false=>.stuck
   |none=>.stuck
def KB(ex:tF)(id:Nat)(o:Oper)(s:bl)(bb:Nat)(a:vC):nf :=
 match o.op with
 | .call { callee:=.value c,args:=args,argTypes:=_ }=>
  match s.eval c with
  | .fn (.func f) first cap=>match ao9 Φ s f (first++args.toList.map s.eval++cap) bb with
   |some (d,ro,s')=>match s.ff bb with
    |true=>.op (.rows d) bb (.b4 (.bool No)) (.op ro bb (.ey bb) (a (s'.put o.dst (.ed [])) (bb+1)))
    |false=>.stuck
   |none=>match ao8 T Φ F s f (first++args.toList.map s.eval++cap) bb with
    |some (ro,v,s')=>match s.ff bb with
     |true=>.op ro bb (.ey bb) (a (s'.put o.dst v) (bb+1))
     |false=>.stuck
    |none=>ao7 T Φ F ex f (first++args.toList.map s.eval++cap) o.dst s bb a
  |_=>.stuck
 |op=>match C_ T s.eval s.st id op with
  |some (v,σ')=>a ({ s with st:=σ' }.put o.dst v) bb
  |none=>match Hb T s.eval s.st id op bb with
   |some (ro,pat,v,σ',b)=>match s.ff bb&&dD bb b with
    |true=>.op ro bb pat (a ({ s with st:=σ' }.put o.dst v) b)
    |false=>.stuck
   |none=>match Q5 s op bb with
    |some (ro,s')=>match s.ff bb with
     |true=>.op ro bb (.ey bb) (a (s'.put o.dst (.b4 undef)) (bb+1))
     |false=>.stuck
    |none=>.stuck
def bi5(T:cy)(t:TypeId):Bool:=match T t with
 |some ti=>ti.zeroCells.all λc=>match c with
  | .b4 (.int _ _)=>No
  | .b4 (.bool _)=>No
  | .b4 (.string _)=>No
  |_=>N2
 |none=>N2
def az6(s:bl)(op:Op):Option (Nat×c7):=match Vs T s op with
 |some p=>Q1 p
 |none=>match op with
  | .call { callee:=.value b,args:=args,argTypes:=_ }=>match s.eval b with
   | .fn (.func f) first cap=>match Φ.KE f,Φ (uj+f),Φ.fn f,F f with
    |none,Ld,Q1 _,Q1 fn=>match fn.resultTypes.toList.all (bi5 T)with
     |true=>Ld
     |false=>match Jx s (first++args.toList.map s.eval++cap)with
      |some a=>match s.st.bF a with
       |some o=>Q1 (a,o)
       |none=>Ld
      |none=>Ld
    |none,Q1 _,_,_=>match Jx s (first++args.toList.map s.eval++cap)with
     |some a=>match s.st.bF a with
      |some o=>Q1 (a,o)
      |none=>Ld
     |none=>Ld
    |_,_,_,_=>Ld
   |_=>Ld
  |_=>Ld
def GI(ex:tF)(ops:Array Oper)(id:Nat)(o:Oper)(bb:Nat)(b:vC):Nat->bl->nf
 | 0,s=>KB T Φ F ex id o s bb b
 |m+1,s=>match az6 T Φ F s o.op with
  |some (a,x)=>match s.ff bb with
   |true=>match pv ops (s.nS (nD s.st a x) a) o with
    |some No=>.op (.rows (pZ (nD s.st a x).mZ)) bb (.b4 (.bool No)) (GI ex ops id o bb b m (s.nS (nD s.st a x) a))
    |_=>.stuck
   |false=>.stuck
  |none=>KB T Φ F ex id o s bb b
def D5(ex:tF)(ops:Array Oper)(id:Nat)(o:Oper)(bb:Nat)(b:vC)(s:bl):nf :=
 match o.op with
 | .range t x=>match T t with
  |some { j4:=.string,.. }=>match s.eval x with
   | .ey i=>match s.ff bb with
    |true=>.op (.B1 (.ey i)) bb (.b4 (.bool No)) (b ({ s with st:=s.st.set id (.qh (.ey i) (.b4 (.int .i64 0))) }.put o.dst (.it id)) bb)
    |false=>.stuck
   |_=>.stuck
  |_=>GI T Φ F ex ops id o bb b 3 s
 | .next it No=>match s.eval it with
  | .it a=>match s.st.bF a with
   |some (.qh st p)=>match s.ff bb with
    |true=>.op (.more st p) bb (.ey bb) (.test bb
      (.op (.Cm st p) (bb+1) (.ed [.ey (bb+1),.ey (bb+2),.ey (bb+3)]) (b ({ s with st:=s.st.set a (.qh st (.ey (bb+3))) }.put o.dst (.ed [.b4 (.bool No),.ey (bb+1),.ey (bb+2)])) (bb+4)))
      (b (s.put o.dst (.ed [.b4 (.bool N2)])) (bb+1)))
    |false=>.stuck
   |_=>.stuck
  |_=>.stuck
 |_=>GI T Φ F ex ops id o bb b 3 s
def xa(ex:tF)(ops:Array Oper)(n0:Nat):List Oper->Nat->bl->Nat->vC->nf
 | [],_,s,bb,k=>k s bb
 |o::rest,i,s,bb,k=>
  match oz s.n o.dst with
  |false=>.stuck
  |true=>match pv ops s o with
   |some No=>D5 T Φ F ex ops (n0+i) o bb (λs' a=>xa ex ops n0 rest (i+1) s' a k) s
   |some N2=>xa ex ops n0 rest (i+1) (s.put o.dst (.b4 undef)) bb k
   |none=>match JJ ops s o with
    |some (j,want)=>
     let go:=λb:Bool=>match b==want with
      |true=>D5 T Φ F ex ops (n0+i) o bb (λs' a=>xa ex ops n0 rest (i+1) s' a k) (s.mU (qp j b))
      |false=>xa ex ops n0 rest (i+1) ((s.mU (qp j b)).put o.dst (.b4 undef)) bb k
     .test j (go No) (go N2)
    |none=>.stuck
abbrev Me:=bl->Nat->ri->nf
def F'(σ:bg)(ids:List Nat):bg:={ uE (saved σ ids) { sr (saved σ ids) σ with low:=σ.next }with low:=min σ.low σ.next }
def Tf(pW:Bool)(ids:List Nat)(f:FuncId)(args:List ar)(dst:Option Tmp)(s:bl)(bb:Nat)(b:Me):nf :=
 match F f,Φ.fn f with
 |some fn,Q1 _=>match Ye T fn.resultTypes.toList bb with
  |some (pat,a)=>match s.ff bb&&dD bb a&&q2 args with
   |true=>.op (.call f args N2) bb pat (match pW with
    |true=>b (s.put dst pat) a ⟨[],[],N2,0,No⟩
    |false=>b ({ s with st:=F' s.st ids }.put dst pat) a ⟨[],[],No,s.st.next,N2⟩)
   |false=>.stuck
  |none=>.stuck
 |_,_=>.stuck
def GP(n0 N mask i:Nat)(pW:Bool)(o:Oper)(s:bl)(bb:Nat)(b:Me):nf :=
 match o.op with
 | .call { callee:=.value c,args:=args,argTypes:=_ }=>
  match s.eval c with
  | .fn (.func f) first cap=>Tf T Φ F pW (q0 n0 N mask) f (first++args.toList.map s.eval++cap) o.dst s bb b
  |_=>.stuck
 |op=>match C_ T s.eval (small s.st (oe s.eval op)) (n0+i) op with
  |some (v,σ1)=>b ({ s with st:=(match σ1.bF (n0+i)with
     |some x=>(if qq op then sO σ1 (oe s.eval op) s.st else s.st).set (n0+i) x
     |none=>(if qq op then sO σ1 (oe s.eval op) s.st else s.st)) }.put o.dst v) bb ⟨oe s.eval op,if qq op then oe s.eval op else [],N2,0,N2⟩
  |none=>match Hb T s.eval (small s.st (oe s.eval op)) (n0+i) op bb with
   |some (ro,pat,v,σ1,a)=>match s.ff bb&&({ s with st:=small s.st (oe s.eval op) }:bl).ff bb&&dD bb a with
    |true=>.op ro bb pat (b ({ s with st:=(match σ1.bF (n0+i)with
      |some x=>(if qq op then sO σ1 (oe s.eval op) s.st else s.st).set (n0+i) x
      |none=>(if qq op then sO σ1 (oe s.eval op) s.st else s.st)) }.put o.dst v) a ⟨oe s.eval op,if qq op then oe s.eval op else [],N2,0,N2⟩)
    |false=>.stuck
   |none=>.stuck
def wW(ops:Array Oper)(n0 N:Nat)(a:List Nat):List Oper->Nat->bl->Nat->List ri->(bl->Nat->List ri->nf)->nf
 | [],_,s,bb,acc,k=>k s bb acc
 |o::rest,i,s,bb,acc,k=>
  match oz s.n o.dst with
  |false=>.stuck
  |true=>match pv ops s o with
   |some No=>GP T Φ F n0 N (a.getD i 0) i (Af o.op&&Ei ops a i) o s bb λs' c f=>wW ops n0 N a rest (i+1) s' c (acc++[f]) k
   |some N2=>wW ops n0 N a rest (i+1) (s.put o.dst (.b4 undef)) bb (acc++[⟨[],[],N2,0,N2⟩]) k
   |none=>match JJ ops s o with
    |some (j,want)=>
     let go:=λb:Bool=>match b==want with
      |true=>GP T Φ F n0 N (a.getD i 0) i (Af o.op&&Ei ops a i) o (s.mU (qp j b)) bb λs' c f=>wW ops n0 N a rest (i+1) s' c (acc++[f]) k
      |false=>wW ops n0 N a rest (i+1) ((s.mU (qp j b)).put o.dst (.b4 undef)) bb (acc++[⟨[],[],N2,0,N2⟩]) k
     .test j (go No) (go N2)
    |none=>.stuck
def zH:Nat->ar->ar->Bool
 | 0,_,_=>N2
 |k+1,a,b=>match a,b with
  | .b4 x,.b4 y=>K3 x y
  | .ey i,.ey j=>ax i j
  | .c8 a z i,.c8 b y j=>ax a b&&ax z y&&ax i j
  | .ms a z i n,.ms b y j m=>ax a b&&ax z y&&ax i j&&ax n m
  | .mp a i n,.mp b j m=>ax a b&&ax i j&&ax n m
  | .mm i,.mm j=>ax i j
  | .rs x,.rs y=>D3 (zH k) x y
  | .fT x,.fT y=>ye (zH k) x y
  | .agg x,.agg y=>ye (zH k) x y
  | .ed x,.ed y=>ye (zH k) x y
  |_,_=>N2
def GA:∀(k:Nat) (a b:ar),zH k a b=No->a=b
 | 0,a,b,h=>by simp[zH]at h
 |k+1,a,b,h=>by unfold zH at h;split at h;rw[aD9 h];rw[ae h];simp only[ab,cg]at h;grind;simp only[ab,cg]at h;grind;simp only[ab,cg]at h;grind;rw[ae h];rw[az4 (GA k) h];rw[Ga (GA k) h];rw[Ga (GA k) h];rw[Ga (GA k) h];cases h
def P_:List Oper->Nat->List Nat->List Nat->List Nat×List Nat
 | [],_,U,R=>(U.reverse,R.reverse)
 |o::l,i,U,R=>match Az o.op&&o.guard.isNone&&o.dst.isSome&&o.after.all (λe=>!Region.binds .any e||U.any (ax e.on))with
  |true=>P_ l (i+1) (i::U) R
  |false=>P_ l (i+1) U (i::R)
def F7(ops:Array Oper):List Nat×List Nat:=P_ ops.toList 0 [] []
def KO(ops:Array Oper):List Nat->List Nat->Bool
 |_,[]=>No
 |seen,b::c=>seen.all (λi=>hasB ops b i&&!Nat.beq b i)&&KO ops (b::seen) c
def QI(ops:Array Oper)(U R:List Nat):Bool :=
 Region.noSelect ops&&KO ops [] R&&R.all (λi=>cM i ops.size&&!U.any (ax i)) &&
 (aN ops.size).all (λj=>(U.any (ax j)||R.any (ax j))&&match ops[j]? with
  |some o=>o.guard.isNone&&o.after.all (λe=>!Region.binds .any e||cM e.on j)
  |none=>N2) &&
 U.all (λu=>match ops[u]? with
  |some o=>Az o.op&&match o.dst with
   |some t=>(aN ops.size).all (λj=>match ops[j]? with
    |some oj=>(ax j u||!(match oj.dst with|some d=>ax d t|none=>N2))&&(!(oj.looksAt ops).any (ax t)||hasB ops j u)
    |none=>N2)
   |none=>No
  |none=>N2)
def any_beq{l:List Nat}{i:Nat}:l.any (ax i)=No↔i∈l:=by rw[fC];exact⟨λ⟨x,a,h⟩=>ae h▸a,λh=>⟨i,h,by simp⟩⟩
def an7:∀ {R seen:List Nat},KO ops seen R=No->(∀a b c,R=a++b::c->(∀i∈a,hasB ops b i=No)/\∀i∈seen,hasB ops b i=No/\b≠i)/\R.Nodup
 | [],seen,_=>⟨λa b c h=>(by cases a<;>cases h),List.nodup_nil⟩
 |x::R,seen,h=>by
  unfold KO at h;rw[ab]at h;obtain⟨h1,h2⟩:=an7 h.2;have f:∀i∈seen,hasB ops x i=No/\x≠i:=λi a7=>by have:=aj.1 h.1 i a7;rw[ab]at this;exact⟨this.1,λe=>by subst e;simp at this⟩
  refine⟨λa b c e=>?_,cS.2 ⟨λg=>?_,h2⟩⟩;cases a;cases e;exact⟨λi a7=>(by cases a7),f⟩;rename_i y a;cases e;obtain⟨g1,g2⟩:=h1 a b c rfl;exact⟨λi a7=>by rcases aD.1 a7 with rfl|a7;exact(g2 _ (by simp)).1;exact g1 i a7,λi a7=>g2 i (bf _ a7)⟩;obtain⟨c,d,e⟩:=jP g;exact((h1 c x d e).2 x (by simp)).2 rfl
def bX2{U R:List Nat}(h:QI ops U R=No):LM ops U R:=by
 unfold QI at h;simp only[ab]at h;obtain⟨⟨⟨⟨h1,h2⟩,l⟩,m⟩,p⟩:=h;obtain⟨c1,c2⟩:=an7 h2;have lt:∀(j:Nat) (o:Oper),ops[j]?=Q1 o->j<ops.size:=λj o ho=>(aP.1 ho).1;have g:∀(j:Nat) (o:Oper),ops[j]?=Q1 o->o.guard=Ld/\∀e∈o.after,ch .any e=No->e.on<j:=λj o ho=>by have:=aj.1 m j (gw.2 (lt j o ho));rw[ho]at this;simp only[ab]at this;refine⟨by simpa using this.2.1,λe he r=>?_⟩;have:=Array.all_eq_true'.1 this.2.2 e he;simpa[r]using this
 have q:∀u∈U,∀(o:Oper),ops[u]?=Q1 o->Az o.op=No/\∀t,o.dst=Q1 t->∀(j:Nat) (oj:Oper),ops[j]?=Q1 oj->(j≠u->oj.dst≠Q1 t)/\(t∈oj.looksAt ops->hasB ops j u=No):=λu hu o ho=>by
  have:=aj.1 p u hu;rw[ho]at this;simp only[ab]at this;refine⟨this.1,λt f j oj hj=>?_⟩;have n:=this.2;rw[f]at n;have:=aj.1 n j (gw.2 (lt j oj hj));rw[hj]at this;simp only[ab,bC]at this;refine⟨λk hd=>?_,λhm=>?_⟩;rw[hd]at this;simp[k]at this;rcases this.2 with d|d
  rw[any_beq.2 hm]at d;cases d;exact d
 exact⟨λj o cs b ho=>Region.noSelect_spec h1 j o cs b ho,λj o ho=>(g j o ho).1,λj o ho=>(g j o ho).2,λi a7=>by
   have:=aj.1 m i (gw.2 a7);simp only[ab,bC,any_beq]at this;exact this.1,λi a7 hu=>by
   have:=aj.1 l i a7;simp only[ab]at this;rw[any_beq.2 hu]at this;exact b8 this.2 (by decide),λu hu o ho=>(q u hu o ho).1,λu hu o t ho f=>(q u hu o ho).2 t f,λa b c e i a7=>(c1 a b c e).1 i a7,λi a7=>by
   have:=aj.1 l i a7;simp only[ab]at this;simpa using this.1,c2⟩
def bl6:ar->Bool
 | .c8 ..=>No
 | .ms ..=>No
 |_=>N2
def aY5(ops:Array Oper)(s:bl):Bool:=ops.toList.any λo=>match o.op with
 | .call { callee:=.value (.func f),args,.. }=>((Φ (uj+f)).isSome&&(Φ f).isNone)||args.toList.any (λx=>match x with
  | .tmp d=>ops.toList.any (λo'=>match o'.dst,o'.op with
   |some a,.move (.tmp t)=>ax d a&&bl6 (s.get t)
   |_,_=>N2)
  |_=>N2)
 |_=>N2
def LK(ops:Array Oper)(U ng:List Nat)(s:bl):Bool:=U.all λu=>ng.any (λj=>hasB ops j u)||match ops[u]? with
 |some o=>match o.dst,C_ T s.eval s.st 0 o.op with
  |some t,Q1 (v,_)=>oz s.n o.dst&&zH 60 (s.get t) v
  |_,_=>N2
 |none=>N2
def KX(ops:Array Oper):List Nat->bl->Option bl
 | [],s=>Q1 s
 |u::us,s=>match ops[u]? with
  |some o=>match Az o.op&&oz s.n o.dst,C_ T s.eval s.st 0 o.op with
   |true,Q1 (v,_)=>KX ops us (s.put o.dst v)
   |_,_=>Ld
  |none=>Ld
def GJ(ex:tF)(ops:Array Oper)(U:List Nat):List Nat->List Nat->bl->Nat->vC->nf
 |ng,[],s,bb,k=>match LK T ops U ng s with
  |true=>k s bb
  |false=>.stuck
 |ng,i::r,s,bb,k=>match ops[i]? with
  |some o=>match LK T ops U ng s&&oz s.n o.dst with
   |true=>D5 T Φ F ex ops (s.st.next+i) o bb (λs' a=>GJ ex ops U (ng++[i]) r s' a k) { s with st:={ s.st with next:=s.st.next+ops.size } }
   |false=>.stuck
  |none=>.stuck
def bl8:Op->Bool
 | .store ..=>No
 |_=>N2
def F8:List Oper->List Oper->Option (List Oper×List Oper)
 |_,[]=>Ld
 |acc,o::l=>match F8 (acc++[o]) l with
  |some r=>Q1 r
  |none=>match(Af o.op||bl8 o.op)&&yx acc (o::l)with
   |true=>Q1 (acc,o::l)
   |false=>Ld
def be1(ops:Array Oper):Option (List Oper×List Oper):=F8 [] ops.toList
def X5:∀ {l acc a b:List Oper},F8 acc l=Q1 (a,b)->acc++l=a++b/\yx a b=No
 | [],_,_,_,h=>by simp[F8]at h
 |o::l,acc,a,b,h=>by unfold F8 at h;split at h;rename_i r c;cases h;have:=X5 c;exact⟨by rw[<-this.1];simp,this.2⟩;split at h;rename_i hc;cases h;rw[ab]at hc;exact⟨rfl,hc.2⟩;cases h
def Dy:Code->Nat
 | .region id _ _=>id
 | .seq a _=>Dy a
 | .block _ b=>Dy b
 | .loop b=>Dy b
 | .scope b=>Dy b
 | .cond _ a _=>Dy a
 |_=>0
def Vt(s:bl):Nat->Nat
 | 0=>0
 |t+1=>(match s.get t with
  | .fn (.func g) _ _=>(g+1)*(t+1)
  | .b4 (.int _ n)=>(n.toNat%64+7)*(t+1)
  | .b4 (.bool b)=>(bif b then 3 else 5)*(t+1)
  |_=>0)+Vt s t
def uX(bb:Nat)(b:Code)(s:bl):Nat:=(bb*4096+Dy b)*65536+Vt s s.n%65536
variable (H:Nat->Option Hint)
def PN(ex:tF)(n:Nat)(b:Code)(k:zu):Nat->bl->Nat->nf
 | 0,_,_=>.stuck
 |j+1,s,bb=>ex n b s bb λe s' a=>match e with
  | .nr=>PN ex n b k j s' a
  |e=>k e s' a
def Vv(s:bl):ar->ar->Option Nat
 | .fT _,.mp i 0 0=>y8 s (.mp i 0 0)
 | .ey _,.mp i 0 0=>y8 s (.mp i 0 0)
 | .ey _,.c8 i z j=>y8 s (.c8 i z j)
 | .ey _,.ms i z 0 n=>y8 s (.ms i z 0 n)
 |_,_=>Ld
def Vu(s:bl):List ar->List ar->Option Nat
 |a::az,c::cs=>match Vv s a c with
  |some i=>Q1 i
  |none=>Vu s az cs
 |_,_=>Ld
def Dw(s:bl):List ar->Nat->Option (Nat×c7)
 | [],_=>Ld
 |a::az,t=>match(match a,s.get t with
   | .agg xs,.agg cs=>Vu s xs cs
   |x,v=>Vv s x v)with
  |some i=>match s.st.bF i with
   |some o=>Q1 (i,o)
   |none=>Dw s az (t+1)
  |none=>Dw s az (t+1)
def KC(h:Hint)(bb:Nat)(k:bl->nf):Nat->bl->nf
 | 0,s=>k s
 |m+1,s=>match Dw s h.wc 0 with
  |some (a,x)=>match s.ff bb with
   |true=>.op (.rows (pZ (nD s.st a x).mZ)) bb (.b4 (.bool No)) (KC h bb k m (s.nS (nD s.st a x) a))
   |false=>.stuck
  |none=>k s
def exec:Nat->tF
 | 0,_,_,_,_,_=>.stuck
 |m+1,n,c,s,bb,k=>
  match c with
  | .skip=>k .nr s bb
  | .label _=>k .nr s bb
  | .region _ ops N2=>xa T Φ F (exec m) ops s.st.next ops.toList 0 { s with st:={ s.st with next:=s.st.next+ops.size } } bb λs' d=>k .nr s' d
  | .region _ ops No=>match aY5 Φ ops s&&QI ops (F7 ops).1 (F7 ops).2 with
   |true=>(match KX T ops (F7 ops).1 s with
   |some s'=>GJ T Φ F (exec m) ops (F7 ops).1 [] (F7 ops).2 s' bb λs2 f=>k .nr s2 f
   |none=>.stuck)
   |false=>match be1 ops with
   |some (l0,t)=>match Gu ⟨l0⟩ (oC l0 [])with
    |true=>wW T Φ F ⟨l0⟩ s.st.next l0.length (oC l0 []) l0 0 { s with st:={ s.st with next:=s.st.next+l0.length } } bb [] λs' d fs=>
      match(BJ ⟨l0⟩ (oC l0 [])).all (λp=>z_ s.st.next p.1 p.2 (fs.getD p.1 ⟨[],[],N2,0,N2⟩) (fs.getD p.2 ⟨[],[],N2,0,N2⟩))with
      |true=>xa T Φ F (exec m) ops s'.st.next t l0.length { s' with st:={ s'.st with next:=s'.st.next+(l0++t).length } } d λs2 f=>k .nr s2 f
      |false=>.stuck
    |false=>.stuck
   |none=>match Gu ops (oC ops.toList [])with
   |true=>wW T Φ F ops s.st.next ops.size (oC ops.toList []) ops.toList 0 { s with st:={ s.st with next:=s.st.next+ops.size } } bb [] λs' d fs=>
     match(BJ ops (oC ops.toList [])).all (λp=>z_ s.st.next p.1 p.2 (fs.getD p.1 ⟨[],[],N2,0,N2⟩) (fs.getD p.2 ⟨[],[],N2,0,N2⟩))with
     |true=>k .nr s' d
     |false=>.stuck
   |false=>.stuck
  | .seq a b=>exec m n a s bb λe s' d=>match e with
   | .nr=>exec m n b s' d k
   |e=>k e s' d
  | .cond x a b=>match s.eval x with
   | .b4 (.bool t)=>exec m n (if t then a else b) s bb k
   | .ey i=>.test i (exec m n a (s.mU (qp i No)) bb k) (exec m n b (s.mU (qp i N2)) bb k)
   |_=>.stuck
  | .block id b=>exec m n b s bb λe s' d=>match e with
   | .oA j=>k (if j=id then .nr else .oA j) s' d
   |e=>k e s' d
  | .loop b=>match H (uX bb b s)with
   |some h=>KC h bb (λs=>match DD n bb h s,h.state.ff (bb+h.k)with
    |some inits,No=>.loop bb h.k inits (exec m n b h.state (bb+h.k+1) λe s' d=>match e with
     | .nr=>match DD n bb h s' with
      |some j9=>.again bb j9
      |none=>.stuck
     |e=>k e s' d)
    |_,_=>.stuck) 4 s
   |none=>PN (exec m) n b k 1000 s bb
  | .exit id=>k (.oA id) s bb
  | .ret=>k .ret s bb
  | .scope b=>exec m n b s bb k
  |_=>.stuck
def JC(T:cy)(fn:Func)(e:qQ)(s:bl)(_:Nat):nf:=match e with
 | .oA _=>.stuck
 |_=>match pc T fn s with
  |some v=>match v.qA with
   |true=>.ret v.rJ []
   |false=>match pX s.st 50 v with
    |some c=>.ret c.rJ (pZ s.st.mZ)
    |none=>.stuck
  |none=>.stuck
end
variable {G:ca}{a c:ar}{elem:TypeId}{es:List (List ar)}{i j k off:Nat}{pat:ar}{ro:nU}{sT:TypeId}{size:Nat}{t:TypeId}{v:ar}{w:World}{x:ar}{xT:TypeId}{xs:List (List ar)}{z:Nat}{α:Type}
def xz(ck:List (Nat×TypeId×Nat))(r:Nat):∀(row:List ar) (a j:Nat),(tj ck r a row)[j]?=(row[j]?).map (wO ck r (a+j))
 | [],a,j=>by simp[tj]
 |v::vs,a,0=>by simp[tj]
 |v::vs,a,j+1=>by simp only[tj,aF];rw[xz ck r vs (a+1) j];congr 2;omega
def wy(ck:List (Nat×TypeId×Nat)):∀(rows:List (List ar)) (a i:Nat),(pd ck a rows)[i]?=(rows[i]?).map (tj ck (a+i) 0)
 | [],a,i=>by simp[pd]
 |v::vs,a,0=>by simp[pd]
 |v::vs,a,i+1=>by simp only[pd,aF];rw[wy ck vs (a+1) i];congr 2;omega
def ym(ck:List (Nat×TypeId×Nat))(r:Nat):∀(row:List ar) (a:Nat),(tj ck r a row).length=row.length
 | [],_=>rfl
 |_::vs,a=>by simp[tj,ym ck r vs]
def zw(ck:List (Nat×TypeId×Nat)):∀(rows:List (List ar)) (a:Nat),(pd ck a rows).length=rows.length
 | [],_=>rfl
 |_::vs,a=>by simp[pd,zw ck vs]
def bR1{ck:List (Nat×TypeId×Nat)}{r:Nat}(h:ck.all (λq=>!Nat.beq q.1 j)=No):wO ck r j v=v:=by
 unfold wO;have:ck.find? (λc=>ax c.1 j)=Ld:=by rw[List.find?_eq_none];intro x a;have:=aj.1 h x a;rw[cT]at this;rw[this];simp
 rw[this]
def Fu{rows:List (List ar)}{v:Option ar}{a:Nat}:(ur rows i off v)[a]?=match v with
  |none=>rows[a]?
  |some v=>if a=i then(rows[a]?).map (λcs=>cs.set off v)else rows[a]?:=by
 unfold ur;cases v;rfl;cases h:rows[i]? with
 |none =>by_cases e:a=i;subst e;simp[h];simp[e]
 |some cs =>by_cases e:a=i;subst e;obtain⟨hl,he⟩:=ak.1 h;simp[hl,he];simp only[e,l4];rw[jq (by omega)]
def bV6{cs:List ar}(h:j<cs.length):qz (cs.set j a) j [v]=cs.set j v:=by apply List.ext_getElem?;intro k;rw[Nz _ _ _ (by simp;omega)];simp only[fw];by_cases e:j=k;subst e;simp[h];rw[cc (by omega)];simp[e]
def xQ(r c:Nat):hid r c<mB:=Nat.mod_lt _ (by decide)
def e8.PY(u v:Option α):∀(f k:Nat) (t:e8 α),e8.qf v f k (e8.qf u f k t)=e8.qf v f k t
 | 0,0,.leaf=>rfl
 | 0,0,.node _ _ _=>rfl
 |_+1,0,.leaf=>rfl
 |_+1,0,.node _ _ _=>rfl
 | 0,_+1,t=>by simp[e8.qf]
 |f+1,k+1,.leaf=>by rcases iF k with e|e<;>simp[e8.qf,e,e8.PY u v f (k / 2)]
 |f+1,k+1,.node x l r=>by rcases iF k with e|e<;>simp[e8.qf,e,e8.PY u v f (k / 2)]
def bg.bg4(σ:bg)(id:Nat)(o:c7):(σ.set id o).del id=σ.del id:=by simp only[bg.set,bg.del,e8.set,e8.PY,bg.mk.injEq,qj];omega
variable {σ σ':bg}
def Xm{T:cy}(σ σ':bg){ix:ar}{ok:Bool}(h:∀id,x≠.mm id):qk T σ t x ix ok=qk T σ' t x ix ok:=by
 cases x with
 |mm id=>exact b8 rfl (h id)
 |mY c=>cases c<;>rfl
 |_=>rfl
section bnds
def e8.Ie{p:α->Bool}:∀ {t:e8 α} {k:Nat} {v:α},t.all p=No->t.get k=Q1 v->p v=No
 | .leaf,k,v,_,h=>by rw[e8.uF]at h;cases h
 | .node x l r,0,v,a,h=>by simp only[e8.get]at h;subst h;simp only[e8.all,ab]at a;exact a.1.1
 | .node x l r,k+1,v,a,h=>by simp only[e8.all,ab]at a;simp only[e8.get]at h;split at h;exact e8.Ie a.1.2 h;exact e8.Ie a.2 h
def bl.be5{s:bl}(h:s.ff k=No)(t:Nat):(s.get t).ff k=No:=by
 simp only[bl.ff,ab]at h;simp only[bl.get];cases a:s.mZ.get t with
 |none=>rfl
 |some v=>exact e8.Ie h.1 a
variable {s:bl}
def as2(k:Nat):∀l:List Value,rL k (l.map .b4)=No
 | []=>by simp[rL]
 |v::l=>by simp[rL,ar.ff,as2 k l]
def bl.sm(h:s.ff k=No)(x:Operand):(s.eval x).ff k=No:=by
 cases x with
 |tmp t=>exact s.be5 h t
 |const v=>cases v<;>simp[bl.eval,ar.ofValue,ar.ff,as2]
 |global g=>simp[bl.eval,ar.ff]
 |func f=>simp[bl.eval,ar.ff,rL]
def bl.uw(h:s.ff k=No){id:Nat}{o:c7}(ho:s.st.bF id=Q1 o):o.ff k=No:=by simp only[bl.ff,ab]at h;exact e8.Ie h.2 ho
end bnds
section
variable {T:cy} {Φ:lv} {θ θ':Nat->ar} {bb:Nat} (ha:∀i,i<bb->θ' i=θ i) {s:bl} (hb:s.ff bb=No)
include ha hb
theorem bW5(x:Operand):(s.eval x).sub θ'=(s.eval x).sub θ:=k6 ha _ (s.sm hb x)
theorem aR9{c:Option Nat}(k:a.ff bb=No)(h:Lz s.st elem size a=Q1 (c,x))(b:x.sub θ=.rs es) :
  ry (s.st.sub θ') elem size (a.sub θ')=Q1 (c,es)/\oF (s.st.sub θ') (a.sub θ')=s.st.sub θ':=by
 unfold Lz at h;split at h;cases h;simp only[yQ,ar.rs.injEq]at b;subst b;exact⟨by simp[ry],by simp[oF]⟩;split at h;rename_i id z len _ e d rows ho;split at h;rename_i hc;cases h;have f:=s.uw hb ho;have h1:(s.st.sub θ').bF id=Q1 (.row e d es):=by rw[bg.mT,ho,ai,c7.k6 ha _ f];simp only[c7.sub];simp only[yQ,ar.rs.injEq]at b;rw[b]
 have hl:rows.length=es.length:=by simp only[yQ,ar.rs.injEq]at b;rw[<-b];simp
 refine⟨?_,?_⟩;simp only[xL,ry,h1];rw[cr ⟨by omega,hc.2⟩];simp only[xL,oF,h1];rw[cc (by omega)];cases h;cases h;split at h;rename_i id z i _ e d j ho;split at h;rename_i hc;cases h;obtain⟨rfl,g,he⟩:=hc;have hj:j<bb:=by have:=s.uw hb ho;simpa[c7.ff]using this
 rw[mK]at b;have h1:(s.st.sub θ').bF id=Q1 (.row e d es):=by rw[bg.mT,ho,ai];simp only[c7.sub,ha j hj,b,rowsOf]
 simp only[rA,ha j hj,b,rowsOf,ry,h1];simp[g,he];simp only[ oF,h1];rw[cc (by omega)];cases h;cases h;cases h
theorem az8{y:ar}(b:c.ff bb=No)(h:KF s.st c=Q1 y)(a:y.sub θ=.rs xs):oS (s.st.sub θ') (c.sub θ')=Q1 xs:=by
 unfold KF at h;split at h;cases h;simp only[yQ,ar.rs.injEq]at a;subst a;simp[oS];cases h;rw[k6 ha _ b,a];simp[oS];cases h;rw[k6 ha _ b,a];simp[oS];split at h;rename_i id z off len _ e f rows ho;split at h;rename_i hc;cases h;have d:=s.uw hb ho;simp only[yQ,ar.rs.injEq]at a;simp only[xL,oS,bg.mT,ho,ai];rw[c7.k6 ha _ d];simp only[c7.sub,aI];rw[cr hc,<-a];simp;cases h;cases h;split at h;rename_i id z i _ e f j ho;split at h;rename_i hc;cases h;subst hc;have hj:j<bb:=by have:=s.uw hb ho;simpa[c7.ff]using this
 rw[mK]at a;simp only[rA,ha j hj,a,rowsOf,oS,bg.mT,ho,ai,c7.sub];simp;cases h;cases h;cases h
theorem ba0{id:Nat}{e:Nat}(h1:a.ff bb=No)(h2:c.ff bb=No)(h:Pz T s.st id sT xT a c bb=Q1 (ro,pat,v,σ',e))(he:iv T Φ θ ro=Q1 (pat.sub θ')) :
  qS T (s.st.sub θ') id sT xT (a.sub θ') (c.sub θ')=Q1 (v.sub θ',σ'.sub θ'):=by
 unfold Pz at h;split at h;rename_i elem _ _ _ _ j;split at h;rename_i t d;split at h;rename_i f x y m n;cases h;simp only[iv,Hl,j]at he;split at he;rename_i el _ _ _ _ u o k;cases o;rw[d]at he;simp only at he;split at he;rename_i es xs hex g;split at he;rename_i hc;simp only[ah,mK]at he;obtain⟨p,q⟩:=aR9 ha hb h1 m hex;have r:=az8 ha hb h2 n g;have b:qS T (s.st.sub θ') id sT xT (a.sub θ') (c.sub θ')=sM T (oF (s.st.sub θ') (a.sub θ')) id sT xT (a.sub θ') (c.sub θ'):=by unfold qS;split;rename_i w l;rw[k]at l;cases l;simp[nk.isInt]at hc;rfl
 rw[b,q];simp only[sM,j,k,d,p,r];rw[cr hc];simp only[rA,bg.pQ,c7.sub,<-he,rowsOf];cases f<;>simp[bg.D_];cases he;cases he;cases he;cases h;cases h;cases h
include ha hb in
theorem aZ9{id:Nat}{d:Nat}{e:nk}{k:IntKind}(h2:c.ff bb=No)(f:T xT=Q1 e)(g:e.j4=.int k)(h:PS T s.st id sT a c bb=Q1 (ro,pat,v,σ',d))(he:iv T Φ θ ro=Q1 (pat.sub θ')) :
  qS T (s.st.sub θ') id sT xT (a.sub θ') (c.sub θ')=Q1 (v.sub θ',σ'.sub θ'):=by
 unfold PS at h;split at h;rename_i elem _ _ _ _ j;split at h;rename_i m b;split at h;cases h;obtain⟨u0,z0,nq,z2,z3⟩:=e;cases g;simp only[iv,Mc,j,b]at he;rw[k6 ha _ h2];split at he;rename_i o n l;split at he;rename_i hc;simp only[ah,mK]at he;simp only[qS,j,f,pN,xK,b,l];rw[cr hc];simp only[rA,bg.pQ,c7.sub,<-he,rowsOf,List.length_replicate];cases he;cases he;cases h;cases h;cases h
include ha hb in
theorem aY7{y:ar}(a:c.ff bb=No)(h:P7 s.st i c=Q1 y)(f:y.sub θ=.rs xs){σ0:bg}(cu:∀j,j≠i->σ0.bF j=(s.st.sub θ').bF j):oS σ0 (c.sub θ')=Q1 xs:=by
 unfold P7 at h;split at h;cases h;rw[k6 ha _ a,f];simp[oS];split at h;rename_i i2 z o l _;split at h;cases h;rename_i b;have:=az8 ha hb a h f;rw[<-this,xL];have d:i2≠i:=λe=>by rw[e,Nat.beq_refl]at b;cases b
 simp only[oS,cu i2 d];cases h
include ha hb in
theorem aR5{id:Nat}{p:Nat}(h2:c.ff bb=No)(h:LV T s.st id sT xT a c bb=Q1 (ro,pat,v,σ',p))(he:iv T Φ θ ro=Q1 (pat.sub θ')) :
  qS T (s.st.sub θ') id sT xT (a.sub θ') (c.sub θ')=Q1 (v.sub θ',σ'.sub θ'):=by
 unfold LV at h;split at h;rename_i elem _ _ _ _ t;split at h;rename_i o g;split at h;rename_i i z0;split at h;rename_i e z j ho;split at h;rename_i y k q;simp only[ab,cg]at k;obtain⟨rfl,rfl⟩:=k;cases h;simp only[iv,Hl,t]at he;split at he;rename_i el _ _ _ _ B x u;cases x;rw[g]at he;simp only[yQ,dj]at he;split at he;rename_i es xs hex r;cases hex;split at he;rename_i hc;simp only[ ah,mK]at he;have l:oS (oF (s.st.sub θ') (.ms i z0 0 0)) (c.sub θ')=Q1 xs:=aY7 ha hb h2 q r λj hj=>by simp only[oF];split;split;rw[bg.mQ,cc hj];rfl;rfl
 have b:(s.st.sub θ').bF i=Q1 (.row e o.size (rowsOf (θ' j))):=by rw[bg.mT,ho];rfl
 have m:∃o0,oF (s.st.sub θ') (.ms i z0 0 0)=(s.st.sub θ').set i o0/\o0=.row e o.size []\/oF (s.st.sub θ') (.ms i z0 0 0)=s.st.sub θ'/\rowsOf (θ' j)=[]:=by simp only[oF,b];by_cases hl:0<(rowsOf (θ' j)).length;rw[cr hl];exact⟨_,.inl ⟨rfl,by simp⟩⟩;rw[cc hl];exact⟨.row e o.size [],.inr ⟨rfl,dJ (by omega)⟩⟩
 have d:qS T (s.st.sub θ') id sT xT (ar.sub θ' (.ms i z0 0 0)) (c.sub θ')=sM T (oF (s.st.sub θ') (.ms i z0 0 0)) id sT xT (.ms i z0 0 0) (c.sub θ'):=by rw[xL];unfold qS;split;rename_i C w;rw[u]at w;cases w;simp[nk.isInt]at hc;rfl
 rw[d];have f:ry (oF (s.st.sub θ') (.ms i z0 0 0)) e o.size (.ms i z0 0 0)=Q1 (Q1 i,[]):=by obtain⟨o0,⟨fa,rfl⟩|⟨fa,gb⟩⟩:=m;rw[fa];simp[ry,bg.mQ];rw[fa];simp[ry,b,gb]
 have n:(oF (s.st.sub θ') (.ms i z0 0 0)).del i=(s.st.sub θ').del i:=by obtain⟨o0,⟨fa,rfl⟩|⟨fa,gb⟩⟩:=m;rw[fa,bg.bg4];rw[fa]
 simp only[sM,t,u,g,f,l];rw[cr hc];simp only[rA,bg.pQ,bg.D_,c7.sub,<-he,rowsOf,n,List.length_nil,a_,cG];cases he;cases he;cases he;cases h;cases h;cases h;cases h;cases h
include ha hb in
theorem Nx{m:Nat}(h:(s.st.bF m).bind F9=Q1 c):(s.st.sub θ').bF m=Q1 (qY (c.sub θ))/\(s.st.sub θ').bF m=(tm (c.sub θ)).bF 0:=by
 have key:(s.st.sub θ').bF m=Q1 (qY (c.sub θ)):=by
  cases ho:s.st.bF m with
  |none=>rw[ho]at h;cases h
  |some o =>rw[ho]at h;simp only[Option.bind_some]at h;have a:=s.uw hb ho;rw[bg.mT,ho,ai];unfold F9 at h;split at h;cases h;simp only[c7.sub,k6 ha _ a];cases h;simp[c7.sub,qY,rowsOf,rZ,nT];cases h
 rw[key];simp[tm,bg.mQ]
theorem cd2(g:Fit θ){id:Nat}{b:Builtin}{ts:Array TypeId}{args:List ar}(h1:∀a∈args,a.ff bb=No)(h:Lr T s.st id b ts.toList args bb=Q1 (ro,pat,v,σ',j))
  (he:iv T Φ θ ro=Q1 (pat.sub θ')):rW T (s.st.sub θ') id b ts (args.map (ar.sub θ'))=Q1 (v.sub θ',σ'.sub θ'):=by
 have f:=bY λa hm=>k6 ha a (h1 a hm);unfold Lr at h;split at h;rename_i t i d;cases h;simp only[iv,mK]at he;rw[f];simp only[rW,d,au,dj,mK];have h2:p3 T (s.st.sub θ') t (θ i)=Q1 (θ' bb):=by
  have hf:=g i;unfold p3 at he⊢;split at he;rename_i ti o;rcases hf.cases with⟨k,n,e⟩|⟨b,e⟩|⟨x,e⟩|⟨es,e⟩|⟨cs,e⟩|⟨c,e⟩<;>rw[e]at he⊢<;>(cases hu:ti.j4<;>rw[hu]at he<;>first|exact he| (simp only at he⊢;exact he))
  cases he
 rw[h2];rename_i t id' z i d;split at h;rename_i el _ _ _ _ o;cases h;simp only[iv,mK]at he;rw[f];simp only[rW,d,au,dj,rA];have h2:p3 T (s.st.sub θ') t (.ms id' z 0 (rowsOf (θ i)).length)=Q1 (θ' bb):=by
  have hf:=g i;simp only[p3,o]at he⊢;rcases hf.cases with⟨k,n,e⟩|⟨b,e⟩|⟨x,e⟩|⟨es,e⟩|⟨cs,e⟩|⟨c,e⟩<;>rw[e]at he⊢<;>simp at he⊢
  exact he
 rw[h2];simp;cases h;cases h;simp only[iv]at he;rw[f];generalize cm (ar.sub θ) _=l at *;cases hm:zn l with
 |none=>rw[hm]at he;cases he
 |some u =>rw[hm]at he;simp only[ai,ah]at he;simp[rW,hm,he]
 cases h;simp only[iv]at he;rw[f];generalize cm (ar.sub θ) _=l at *;cases hm:zl l with
 |none=>rw[hm]at he;cases he
 |some u =>rw[hm]at he;simp only[ai,ah]at he;simp[rW,hm,he]
 rename_i sT xT a c d;simp only[rW,d];split at h;rename_i p;exact aZ9 (T:=T) (Φ:=Φ) ha hb (h1 c (by simp)) p rfl h he;split at h;rename_i q r;cases h;exact aR5 (T:=T) (Φ:=Φ) ha hb (h1 c (by simp)) r he;exact ba0 (T:=T) (Φ:=Φ) ha hb (h1 a (by simp)) (h1 c (by simp)) h he;rename_i t m d;split at h;rename_i c hc;cases h;simp only[iv]at he;obtain⟨_,w⟩:=Nx (θ:=θ) ha hb hc;have h2:p3 T (s.st.sub θ') t (.mm m)=Q1 (θ' bb):=by
  unfold p3 at he⊢;split at he;rename_i ti o;cases hu:ti.j4<;>rw[hu]at he<;>simp only[w]at he⊢<;>first|exact he| (simp only at he⊢;exact he)|cases he
  cases he
 simp only[rW,d,au,dj,B6,h2,mK];cases h;cases h
include ha hb in
theorem bR6{m k:ar}{a:Nat}(h1:k.ff bb=No)(h2:x.ff bb=No)(h:OF s.st t m k x bb=Q1 (ro,pat,v,σ',a))(he:iv T Φ θ ro=Q1 (pat.sub θ')) :
  si T (s.st.sub θ') t (m.sub θ') (k.sub θ') (x.sub θ')=Q1 (σ'.sub θ')/\v=.b4 undef:=by
 unfold OF at h;split at h;split at h;rename_i c hc;cases h;obtain⟨d,_⟩:=Nx (θ:=θ) ha hb hc;simp only[iv]at he;split at he;rename_i e hu;split at he;rename_i b l hk;simp only[ah]at he;refine⟨?_,rfl⟩;rw[k6 ha k h1,k6 ha x h2,B6,bo7 d hk hu,bg.pQ];simp only[c7.sub,<-he];cases he;cases he;cases h;cases h
omit ha hb in
theorem Sl{T:cy}{el:TypeId}{ti a:nk}{id len:Nat}{b:ar}(e:T t=Q1 ti)(hu:ti.j4=.slice el)(c:T el=Q1 a)(hz:z=a.size){q:ar}(h:sH T t (.ms 0 a.size 0 len) b=Q1 q):sH T t (.ms id z 0 len) b=Q1 (.mp id (nm b) 0):=by obtain⟨j4,size,zero,bytes,flat⟩:=ti;subst hu;subst hz;unfold sH at h⊢;rw[e]at h⊢;split at h;rename_i f n d;cases d;simp only[c]at h⊢;split at h;rename_i hc;rw[cr hc];simp[nm];cases h;rename_i d;cases d;cases h
include ha hb in
theorem PG{id:Nat}{e:TypeId}(ho:s.st.bF id=Q1 (.fN e z j)):(s.st.sub θ').bF id=Q1 (.row e z (rowsOf (θ j)))/\j<bb:=by
 have hj:j<bb:=by have:=s.uw hb ho;simpa[c7.ff]using this
 exact⟨by rw[bg.mT,ho,ai];simp only[c7.sub,ha j hj],hj⟩
include ha in
theorem K1(b:a.ff bb=No){id:Nat}{i:ar}(h:Eg a=Q1 (id,i,off)):a.sub θ'=.mp id (nm (i.sub θ)) off:=by unfold Eg at h;split at h;rename_i id k off;cases h;simp only[ar.ff,bP]at b;simp only[ar.sub,ha k b];cases h;simp[ nm];cases h
theorem ar4(P:Fit θ){id:Nat}{op:Op}{fr':Nat}(h:Hb T s.eval s.st id op bb=Q1 (ro,pat,v,σ',fr'))
  (he:iv T Φ θ ro=Q1 (pat.sub θ')):fb T (s.sub θ').eval (s.st.sub θ') id op=Q1 (v.sub θ',σ'.sub θ'):=by
 have d:∀x,(s.sub θ').eval x=(s.eval x).sub θ:=λx=>by rw[bl.sub_eval,bW5 ha hb x]
 unfold Hb at h;split at h;cases h;simp only[iv,mK]at he;simp only[fb,d,he,mK];cases h;simp only[iv,mK]at he;simp only[fb,d,he,mK];cases h;simp only[iv,mK]at he;simp only[fb,d,he,mK];split at h;rename_i id k off f;cases h;simp only[fb,bl.sub_eval,f,ar.sub];rename_i i f;cases h;simp only[iv,mK]at he;split at he;rename_i cs B;simp only[fb,d,f,mK,B];have r:=s.sm hb ‹Operand›;rw[f]at r;simp only[ar.ff,bP]at r;rw[ha i r,B];cases he;cases h;split at h;rename_i id k off fields _ _ _ _ f o;split at h;rename_i fd hfd;split at h;rename_i fi hfi;split at h;cases h;rename_i hz;cases h;have hz':¬fi.size=0:=λe=>by rw[e]at hz;simp at hz
 simp only[fb,bl.sub_eval,f,ar.sub,wB,o,hfd,hfi];rw[cc hz'];cases h;cases h;rename_i i ti f o;split at h;rename_i v1 K;cases h;simp only[iv,mK]at he;split at he;rename_i cs B;split at he;simp only[ah]at he;simp only[fb,d,f,mK,B,he,VJ (θ:=θ') K];cases he;cases he;cases h;cases h;rename_i t x;split at h;rename_i g hg;split at h;cases h;simp only[iv]at he;have f:=On hg;simp only[fb,d,f,pN,tg,vW,he];cases h;split at h;rename_i id i off hp;split at h;rename_i e z j p fr1 ho Q;cases h;simp only[iv,mK]at he;obtain⟨H,_⟩:=PG (θ:=θ) ha hb ho;have I:=K1 (θ:=θ) ha hb (s.sm hb x) hp;have R:py T (s.st.sub θ') t (.mp id (nm (i.sub θ)) off)=Q1 (pat.sub θ'):=by rw[<-he];simp[py,H,tW,bg.mQ]
 simp only[fb,bl.sub_eval,I,tg,vW,R];rename_i e z c ck k D v0 p fr1 ho Q;have I:=K1 (θ:=θ) ha hb (s.sm hb x) hp;have u:=s.uw hb ho;have H:(s.st.sub θ').bF id=Q1 (c7.sub θ (.nH e z c ck k D v0)):=by rw[bg.mT,ho,ai,c7.k6 ha _ u]
 simp only[c7.sub]at H;split at h;rename_i ti o;split at h;cases h;rename_i J;split at h;rename_i hoff;have hoff:=ae hoff;subst hoff;split at h;rename_i v1 hk;obtain⟨m,rfl,rfl⟩:=KT hk;cases h;simp only[iv]at he;split at he;rename_i row w;split at he;rename_i E;rw[bP]at E;simp only[c7.ff,ab]at u;have hv1:=k6 ha _ u.2.2;have R:py T (s.st.sub θ') t (.mp id (nm ((ar.ey m).sub θ)) off)=Q1 (v.sub θ):=by simp only[py,H,Fu,me,wy,w,o,sj,J,l4];simp[ym,E]
 simp only[fb,bl.sub_eval,I,tg,vW,R,hv1];cases he;cases he;cases h;rename_i hoff;have hoff:off≠D:=λe=>by rw[e]at hoff;simp at hoff
 split at h;rename_i M;cases h;simp only[iv]at he;have R:py T (s.st.sub θ') t (.mp id (nm (i.sub θ)) off)=Q1 (pat.sub θ'):=by
  rw[<-he];have e9:(tW e z (c.sub θ)).bF 0=Q1 (.row e z (rowsOf (c.sub θ))):=by simp[tW,bg.mQ]
  simp only[py,H,e9,Fu,wy,o,sj,J,l4];cases w:(rowsOf (c.sub θ))[nm (i.sub θ)]? with
  |none=>cases v0<;>simp
  |some row=>
   have l:(tj ck (0+nm (i.sub θ)) 0 row)[off]?=row[off]?:=by
    rw[xz];cases row[off]? with
    |none=>rfl
    |some x=>simp[bR1 M]
   cases v0;exact l;simp only[ai];by_cases e:nm (i.sub θ)=nm (k.sub θ);simp only[e,me]at l⊢;rw[jq (by omega)];exact l;simp only[e,l4];exact l
 simp only[fb,bl.sub_eval,I,tg,vW,R];cases h;cases h;cases h;split at h;rename_i i ti f o;split at h;rename_i v1 K;cases h;simp only[iv,mK]at he;split at he;rename_i cs B;split at he;simp only[ah]at he;have h3:=NN (θ:=θ') K;rw[<-he]at h3;have h4:py T (s.st.sub θ') t (.fT cs)=Q1 (v.sub θ'):=by simp only[py]at h3⊢;exact h3
 simp only[fb,d,f,mK,B,tg,vW,h4];cases he;cases he;cases h;cases h;rename_i t a x;split at h;rename_i id' i off ti m z' j hp o f;split at h;rename_i e z c ck k D v1 ho;split at h;rename_i hc;simp only[ab,cg]at hc;obtain⟨⟨hsz,rfl⟩,hk⟩:=hc;obtain⟨G,rfl,rfl⟩:=KT hk;cases h;have I:=K1 (θ:=θ) ha hb (s.sm hb a) hp;have u:=s.uw hb ho;have H:(s.st.sub θ').bF id'=Q1 (c7.sub θ (.nH e z c ck (.ey G) off (Q1 v1))):=by rw[bg.mT,ho,ai,c7.k6 ha _ u]
 simp only[c7.sub]at H;simp only[c7.ff,ab]at u;simp only[iv]at he;split at he;rename_i row w;split at he;rename_i E;rw[bP]at E;have hn1:nm (ar.sub θ' (.ey G))=nm (ar.sub θ (.ey G)):=by rw[k6 ha _ u.2.1]
 have hxv:(s.eval x).sub θ=ar.sub θ' (.c8 m z' j):=by rw[<-f];exact(k6 ha _ (s.sm hb x)).symm
 have k5:(ur (pd ck 0 (rowsOf (c.sub θ))) (nm ((ar.ey G).sub θ)) off (Q1 (v1.sub θ)))[nm ((ar.ey G).sub θ)]?=Q1 ((tj ck (nm ((ar.ey G).sub θ)) 0 row).set off (v1.sub θ)):=by rw[Fu];simp only[me,wy,w,ai,a_]
 have mH:sq T (s.st.sub θ') t (.mp id' (nm ((ar.ey G).sub θ)) off) (ar.sub θ' (.c8 m z' j))=Q1 ((s.st.sub θ').set id' (c7.sub θ' (.nH e z c ck (.ey G) off (Q1 (.c8 m z' j))))):=by
  simp only[sq,rA,ar.cells,o,H,ai,k5,hsz,fw,List.length_set,ym];rw[cr ⟨trivial,by omega,by simp[ar.one]⟩];have S:off<(tj ck (nm (ar.sub θ (.ey G))) 0 row).length:=by rw[ym];exact E
  rw[bV6 S];simp only[c7.sub,ai,rA,hn1,k6 ha _ u.1];simp only[ur,wy,w,ai,a_,List.set_set]
 simp only[fb,bl.sub_eval,I];rw[f,mH];simp only[pN,bg.pQ];cases he;cases he;cases h;cases h;cases h;rename_i t x i;split at h;rename_i el _ _ _ _ o;split at h;rename_i ei C;split at h;rename_i id z j f;have r:=s.sm hb x;rw[f]at r;simp only[ar.ff,bP]at r;have N:=s.sm hb i;split at h;rename_i hz;have hz:=ae hz;split at h;rename_i k a7;cases h;rw[a7]at N;simp only[ar.ff,bP]at N;simp only[iv,o,C,mK]at he;split at he;rename_i q hq;have:=Sl (id:=id) (z:=z) o rfl C hz hq;simp only[fb,bl.sub_eval,f,a7,rA,mK,ar.sub,ha j r,ha k N,this];cases he;rename_i kd n a7;cases h;simp only[iv,o,C,mK,pN]at he;split at he;rename_i q hq;have:=Sl (id:=id) (z:=z) o rfl C hz hq;simp only[fb,bl.sub_eval,f,a7,rA,pN,ar.sub,ha j r,this,nm];cases he;cases h;cases h;cases h;simp only[iv]at he;simp only[fb,d,he];cases h;cases h;split at h;split at h;cases h;simp only[iv]at he;simp only[fb,d,he];cases h;cases h;simp only[iv,mK]at he;simp only[fb,d,he,mK];rename_i t x b7 a7;have e:=funext d;split at h;rename_i elem _ _ _ _ id' z j kd o f hlo O;split at h;rename_i ei C;split at h;rename_i hz;cases h;rw[cg]at hz;subst hz;have hlo':b7=Ld:=by cases b7 with|none=>rfl|some _=>simp at hlo
 subst hlo';cases a7;simp at O;simp only[ai,ah]at O;simp only[fb,e,f,rA,dU,ai,O,pN,uB,o,C,bound];simp;cases h;cases h;cases h;simp only[iv,mK,Option.map_map]at he;simp only[fb,e,dU];simp only[eK]at he;rw[he];simp;rename_i b args ts;simp only[fb];have hm:args.toList.map (s.sub θ').eval=(args.toList.map s.eval).map (ar.sub θ'):=by rw[bZ];apply bY;intro x _;exact bl.sub_eval θ' s x
 rw[hm];refine cd2 (T:=T) (Φ:=Φ) ha hb P (λa hmem=>?_) h he;obtain⟨x,_,rfl⟩:=aM.1 hmem;exact s.sm hb x;rename_i t x i ok;split at h;rename_i kt et _ _ _ _ m o f;split at h;rename_i c hc;obtain⟨_,I⟩:=Nx (θ:=θ) ha hb hc;have hl:∀b,qk T (s.st.sub θ') t (.mm m) ((s.eval i).sub θ) b=qk T (tm (c.sub θ)) t (.mm 0) ((s.eval i).sub θ) b:=λb=>by simp only[qk,I]
 split at h;split at h;cases h;simp only[iv]at he;simp only[fb,d,f,B6,hl,he];cases h;simp only[iv]at he;simp only[fb,d,f,B6,hl,he];cases h;cases h;rename_i kt et _ _ _ _ m o f;have hl:∀b,qk T (s.st.sub θ') t (θ m) ((s.eval i).sub θ) b=qk T bg.none t (θ m) ((s.eval i).sub θ) b:=λb=>Xm _ _ (λid e=>by have:=P m;rw[e]at this;exact this);have hb2:θ' m=θ m:=by have:=s.sm hb x;rw[f]at this;simp only[ar.ff,bP]at this;exact ha m this
 split at h;split at h;cases h;simp only[iv,mK]at he;simp only[fb,d,f,mK,hl,he];cases h;simp only[iv,mK]at he;simp only[fb,d,f,mK,hl,he];cases h;rename_i kt et _ _ _ _ c o f;have hl:∀b,qk T (s.st.sub θ') t (.mY (c.sub θ)) ((s.eval i).sub θ) b=qk T bg.none t (.mY (c.sub θ)) ((s.eval i).sub θ) b:=λb=>Xm _ _ (λid e=>by cases e);split at h;split at h;cases h;simp only[iv,B4]at he;simp only[fb,d,f,B4,hl,he];cases h;simp only[iv,B4]at he;simp only[fb,d,f,B4,hl,he];cases h;cases h;have:=bR6 (T:=T) (Φ:=Φ) ha hb (s.sm hb _) (s.sm hb _) h he;simp only[fb,bl.sub_eval];rw[this.1,this.2];simp;cases h
end
mutual
theorem BB{θ:Nat->ar}(b:Fit θ):∀v:ar,v.qA=No->(v.sub θ).kl=No
 | .b4 v,_=>by simp[ar.kl]
 | .ey i,_=>by rw[mK];exact(b i).kl
 | .rs es,h=>by simp only[ar.qA]at h;simp only[ar.sub,ar.kl];exact Oo b es h
 | .agg cs,h=>by simp only[ar.qA]at h;simp only[ar.sub,ar.kl];exact vH b cs h
 | .ed cs,h=>by simp only[ar.qA]at h;simp only[ar.sub,ar.kl];exact vH b cs h
 | .any,h=>by simp[ar.qA]at h
 | .fT cs,h=>by simp only[ar.qA]at h;simp only[ar.sub,ar.kl];exact vH b cs h
 | .ms ..,h=>by simp[ar.qA]at h
 | .mp ..,h=>by simp[ar.qA]at h
 | .mm _,h=>by simp[ar.qA]at h
 | .it _,h=>by simp[ar.qA]at h
 | .mY c,h=>by simp only[ar.qA]at h;simp only[ar.sub,ar.kl];exact BB b c h
 | .fn _ a c,h=>by simp only[ar.qA,ab]at h;simp only[ar.sub,ar.kl,ab];exact⟨vH b a h.1,vH b c h.2⟩
 | .c8 ..,h=>by simp[ar.qA]at h
theorem vH{θ:Nat->ar}(a:Fit θ):∀l:List ar,q2 l=No->sa (ni θ l)=No
 | [],_=>by simp[ni,sa]
 |c::cs,h=>by simp only[q2,ab]at h;simp only[ni,sa,ab];exact⟨BB a c h.1,vH a cs h.2⟩
theorem Oo{θ:Nat->ar}(a:Fit θ):∀l:List (List ar),yX l=No->sB (o8 θ l)=No
 | [],_=>by simp[o8,sB]
 |c::cs,h=>by simp only[yX,ab]at h;simp only[o8,sB,ab];exact⟨vH a c h.1,Oo a cs h.2⟩
end
def Jj(h:Rel G σ w)(pl:Nat->Option nt){id len:Nat}{u:Value}(s:eR G (.ms id z off len) u)(ho:σ.bF id=Q1 (.row elem size es))
  (hle:off+len<=es.length) {l:List (List ar)} (k:l.length=len)
  (d:∀i (a7:i<l.length) (b:off+i<es.length),l[i].length=es[off+i].length/\∀j (hj:j<l[i].length) (t:j<es[off+i].length) u,eR G es[off+i][j] u->eR (G.frozen σ w pl) l[i][j] u) :
  eR (G.frozen σ w pl) (.rs l) u:=by
 cases s with
 |oh _ _ p hp hv =>have:=dJ k;subst this;exact .q9
 |ms _ _ _ _ p hp hv hz a c v hoff x hsp=>
  obtain⟨B,C,cells,D,m,q,r,e⟩:=h.real ho hp hv;have g:(G.frozen σ w pl).lo p.block=Q1 (.cells cells elem (0,0)):=by simp only[ca.frozen];rw[cr ⟨id,_,p,ho,hp,hv,rfl⟩];exact D
  rw[<-k];by_cases n:c=0;have:l=[]:=dJ (by omega);subst this;exact .rs [] a c 0 (λ_ _=>undef) (λ_=>hsp) (by simp) (λi a7=>by simp at a7) (λi j a7=>by simp at a7) (λi j a7=>by simp at a7);rw[v n];refine .rs l _ c size (λi j=>cells.getD ((off+i)*size+j) undef) (λ_=>rfl) (by omega) (λi a7=>?_) (λi j a7 hj=>?_) (λi j a7 hj=>?_);have b:off+i<es.length:=by omega
  rw[(d i a7 b).1];exact(e _ b).1;have f:(off+i)*size+j<cells.size:=by rw[q];have:(off+i+1)*size<=p.cap*size:=bS _ (by omega);rw[cn]at this;omega
  simp only[ca.cell,g,m];have E:off*size+i*size+j=(off+i)*size+j:=by rw[cn]
  rw[E];simp[f];have b:off+i<es.length:=by omega
  obtain⟨g1,g2⟩:=d i a7 b;have H:=(e _ b).1;have f:(off+i)*size+j<cells.size:=by rw[q];have:(off+i+1)*size<=p.cap*size:=bS _ (by omega);rw[cn]at this;omega
  have:=(e _ b).2 j (by omega) f;have o:cells.getD ((off+i)*size+j) undef=cells[(off+i)*size+j]:=by simp[f]
  rw[o];exact g2 j hj (by omega) _ this
def DA{θ:Nat->ar}(C:Fit θ)(h:Rel G (σ.sub θ) w)(pl:Nat->Option nt)(hx:∀id e z j,σ.bF id=Q1 (.fN e z j)->∃es,θ j=.rs es)(hy:∀id j,σ.bF id=Q1 (.nC (.ey j))->∃es,θ j=.rs es) :
  ∀(k:Nat) (v c:ar) (u:Value),pX σ k v=Q1 c->eR G (v.sub θ) u->eR (G.frozen (σ.sub θ) w pl) (c.sub θ) u
 | 0,v,c,u,hd,_=>by simp[pX]at hd
 |k+1,v,c,u,hd,t=>by
  have N:=DA C h pl hx hy k;unfold pX at hd;split at hd
  next hp=>
   cases hd;exact rr (λb o D=>tc h D) t (BB C _ hp)
  split at hd
  next cs _=>
   split at hd
   next l hl=>
    cases hd;obtain⟨I,E⟩:=yA hl;simp only[BW]at t⊢;cases t with
    |agg _ vs h1 h2=>
     refine .agg _ vs (by rw[h1];simp[I]) (λi a7 g=>?_);have x:i<cs.length:=by simp at a7;omega
     have:=N _ _ vs[i] (E i x (by simpa using a7)) (by have:=h2 i (by simpa using x) g;simpa using this);simpa using this
   cases hd
  next cs _=>
   split at hd
   next l hl=>
    cases hd;obtain⟨I,E⟩:=yA hl;simp only[Kb]at t⊢;cases t with
    |ed _ vs h1 h2=>
     refine .ed _ vs (by rw[h1];simp[I]) (λi a7 g=>?_);have x:i<cs.length:=by simp at a7;omega
     have:=N _ _ vs[i] (E i x (by simpa using a7)) (by have:=h2 i (by simpa using x) g;simpa using this);simpa using this
   cases hd
  next id z off len _=>
   split at hd
   next elem size es ho=>
    split at hd
    next hle=>
     split at hd
     next l hl=>
      cases hd;obtain⟨I,E⟩:=aw7 hl;rw[yQ];refine Jj h pl t (elem:=elem) (size:=size) (es:=es.map (cm (ar.sub θ))) (by rw[bg.mT,ho];rfl) (by simpa using hle) (by simp[I];omega) (λi a7 g=>?_);have s:i<l.length:=by simpa using a7
      have hm:=E i (by rw[<-I];exact s) s;obtain⟨f1,f2⟩:=yA hm;refine⟨by simp[f1],λj hj hj' u hu=>?_⟩;have H:j<l[i].length:=by simpa using hj
      have:=N _ _ u (f2 j (by omega) H) (by simpa using hu);simpa using this
     cases hd
    cases hd
   cases hd
  next id z i _=>
   split at hd
   next elem size j ho=>
    split at hd
    next hji=>
     cases hd;subst hji;obtain⟨es,hes⟩:=hx id elem size j ho;rw[rA,hes]at t;rw[mK,hes];refine Jj h pl t (elem:=elem) (size:=size) (es:=es) (by rw[bg.mT,ho];simp[c7.sub,hes,rowsOf]) (by simp[rowsOf]) (by simp[rowsOf]) (λi a7 g=>?_);have d:=(C j).kl;rw[hes]at d;simp only[a_];exact⟨trivial,λa ha O u hu=>rr (λb o D=>tc h D) hu (rY d i a7 a ha)⟩
    cases hd
   cases hd
  next id _=>
   split at hd
   next elem size cs ho=>
    split at hd
    next l hl=>
     cases hd;obtain⟨I,E⟩:=yA hl;rw[R3];cases t with
     |mp _ _ _ p hp=>
     have m:(σ.sub θ).bF id=Q1 (.row elem size [cs.map (ar.sub θ)]):=by rw[bg.mT,ho];rfl
     have hv:p.mX=N2:=by
      rcases h.wY m hp with⟨_,_,_,J⟩|⟨J,_⟩
      .cases J
      exact J
     obtain⟨him,hw0,cells,D,hps,hn,P,q⟩:=h.real m hp hv;have n:(G.frozen (σ.sub θ) w pl).lo p.block=Q1 (.cells cells elem (0,0)):=by simp only[ca.frozen];rw[cr ⟨id,_,p,m,hp,hv,rfl⟩];exact D
     obtain⟨r1,r2⟩:=q 0 (by simp);have hlen:cs.length=size:=by simpa using r1
     have Q:size<=cells.size:=by rw[hn];have:1*size<=p.cap*size:=bS _ (by simpa using P);omega
     refine .fT _ _ (λj=>cells.getD j undef) rfl (λj hj=>?_) (λj hj=>?_)
     .have H:j<l.length:=by simpa using hj
      have K:j<cells.size:=by omega
      simp only[ca.cell,n];simp[K]
     have H:j<l.length:=by simpa using hj
     have K:j<cells.size:=by omega
     have R:j<cs.length:=by omega
     have:=r2 j (by simpa using R) (by omega);have hv':cells.getD j undef=cells[j]:=by simp[K]
     rw[hv'];have h5:eR G ((cs[j]).sub θ) cells[j]:=by
      have e4:cells[0*size+j]'(by omega)=cells[j]:=by congr 1;omega
      simpa using this
     have:=N _ _ _ (E j R H) h5;simpa using this
    cases hd
   cases hd
  next id _=>
   have fin:∀rows:List (List ar),(σ.sub θ).bF id=Q1 (qY (.rs rows))->(ar.rs rows).kl=No->eR (G.frozen (σ.sub θ) w pl) (.mY (.rs rows)) u:=λrows m d=>by
    cases t with
    |mm _ p hp=>
    have hv:p.mX=N2:=by
     rcases h.wY m hp with⟨_,_,_,J⟩|⟨J,_⟩
     .simp[qY]at J
     exact J
    obtain⟨him,hw0,ents,D,Q,M⟩:=h.real m hp hv;have n:(G.frozen (σ.sub θ) w pl).lo p.block=Q1 (.map ents rows.length):=by simp only[ca.frozen];rw[cr ⟨id,_,p,m,hp,hv,rfl⟩];exact D
    have hl:ents.toList.length=rows.length:=by have:ents.size=(nT 0 rows).length:=Q;rw[Bc]at this;simpa using this
    have B:=λi h1 h2=>by
     have h3:i<(nT 0 rows).length:=by rw[Bc];exact h1
     have S:=M i h3 (by simpa using h2);simp only[rowsOf]at S;rw[Ff _ _ _ h3 h1,a_]at S;simpa[NQ]using S
    refine .mY rows p.block ents.toList n hl (λi h1 h2=>⟨(B i h1 h2).1,(B i h1 h2).2.2⟩) (λi h1 h2=>?_);refine rr (λb o D=>tc h D) (B i h1 h2).2.1 ?_;have q:=rY d i h1;generalize rows[i]=r at q;unfold oW;split
    .exact q 1 (by simp)
    simp[ar.kl]
   split at hd
   next j ho=>
    cases hd;obtain⟨es,hes⟩:=hy id j ho;rw[B4,mK,hes];have d:=(C j).kl;rw[hes]at d;exact fin es (by rw[bg.mT,ho];simp[c7.sub,hes]) d
   next ho=>
    cases hd;exact fin [] (by rw[bg.mT,ho];simp[c7.sub,qY,rowsOf,nT,rZ]) (by simp[ar.kl,sB])
   cases hd
  next f a c0 _=>
   split at hd
   next a' c' O hc'=>
    cases hd;obtain⟨I,E⟩:=yA O;obtain⟨g1,g2⟩:=yA hc';rw[QP]at t⊢;cases t with
    |fn _ _ _ fv cv h1 h2 h3 S=>
     refine .fn f _ _ fv cv (by simp at h1⊢;omega) (by simp at h2⊢;omega) (λi a7 g=>?_) (λi a7 g=>?_)
     .have s:i<a'.length:=by simpa using a7
      have:=N _ _ fv[i] (E i (by omega) s) (by have:=h3 i (by simp;omega) g;simpa using this);simpa using this
     have s:i<c'.length:=by simpa using a7
     have:=N _ _ cv[i] (g2 i (by omega) s) (by have:=S i (by simp;omega) g;simpa using this);simpa using this
   cases hd
  cases hd
variable {N:Nat}{P:Program}{U:List Nat}{a:Nat}{b:ByteArray}{bb:Nat}{c:Code}{ex:tF}{f:FuncId}{i j:Nat}{kk:vC}{n n0:Nat}{ops:Array Oper}{rest:List Nat}{t:TypeId}{u:Value}{v:ar}{w:World}{θ:Nat->ar}{ι:p5}{σ:bg}
def aS7(a:Fit θ)(h:MZ v=No):nN (v.sub θ):=by unfold MZ at h;split at h;simp[nN];simp[nN];simp[nN];exact a _;rename_i es;exact Oo a es h;rename_i cs;exact vH a cs h;rename_i c;exact BB a c h;cases h
def EU.map{a b:List (List ar)}(h:EU ι (o8 θ a) (o8 θ b)):EU ι (a.map (cm (ar.sub θ))) (b.map (cm (ar.sub θ))):=by rw[<-vQ,<-vQ];exact h
def Nq{c:ar}(hf:nN c):p4 ι (qY c) (qY c):=by
 refine⟨rfl,rfl,rfl,λi a7 f=>⟨rfl,?_,rfl⟩⟩;intro G u g;have a:i<(rowsOf c).length:=by rw[Bc]at a7;exact a7
 refine rr (G:=G) (G':=G.oM ι) (λ_ _ h=>h) g ?_;rw[Ff _ _ _ a7 a];rcases hf.cases with⟨k,n,e⟩|⟨j,e⟩|⟨x,e⟩|⟨es,e⟩|⟨cs,e⟩|⟨c2,e⟩
 rotate_right
 simp[e,rowsOf]at a
 rotate_right
 simp[e,rowsOf]at a;simp[e,rowsOf]at a;simp[e,rowsOf]at a;simp[e,rowsOf]at a;subst e;have hp:=hf.kl;have d:=a;have b:=rY hp i d;show(oW (0+i) es[i]).2.1.kl=No;generalize es[i]=r at b;unfold oW;split;exact b 1 (by simp);simp[ar.kl]
def ax2:∀ {a b:List (Nat×TypeId×Nat)},Eb a b=No->a=b
 | [],[],_=>rfl
 | [],_::_,h=>by simp[Eb]at h
 |_::_,[],h=>by simp[Eb]at h
 | (x,y,z)::az,(e,f,g)::fA,h=>by simp only[Eb,ab,cg]at h;obtain⟨⟨⟨h1,h2⟩,c⟩,d⟩:=h;rw[h1,h2,c,ax2 d]
def Sd{a b:ar}(h:ID a b=No):a.sub θ=b.sub θ:=by unfold ID at h;split at h;rw[ae h];rw[pK h];cases h
def aN5(f:Fit θ){b7:Bool}(K:b7=No->∀i,i<mB->ι i=Q1 (Q1 i)){o o':c7}(h:rF b7 ι o o'=No):p4 ι (o.sub θ) (o'.sub θ):=by
 cases o with
 |row e z es=>
  cases o' with
  |row Q R C =>simp only[rF,ab]at h;have h2:=(QE f es C h.2).map;exact⟨ae h.1.1,ae h.1.2,h2.1,h2.2⟩
  |_=>simp[rF]at h
 |fN e z i=>
  cases o' with
  |fN Q R i' =>
   simp only[rF,ab]at h;have H:=ae h.2;subst H;refine⟨ae h.1.1,ae h.1.2,rfl,λa ha M=>⟨rfl,λb I N=>?_⟩⟩;intro G u r;have hf:=f i;rcases hf.cases with⟨k,n,e⟩|⟨b',e⟩|⟨x,e⟩|⟨es,e⟩|⟨cs,e⟩|⟨c2,e⟩
   rotate_right
   .simp[e,rowsOf]at ha
   rotate_right
   .simp[e,rowsOf]at ha
   .simp[e,rowsOf]at ha
   .simp[e,rowsOf]at ha
   .simp[e,rowsOf]at ha
   have hp:=hf.kl;rw[e]at hp;simp only[e]at r⊢;exact rr (G:=G) (G':=G.oM ι) (λ_ _ O=>O) r (rY hp a (by simpa[e,rowsOf]using ha) b (by simpa[e,rowsOf]using I))
  |_=>simp[rF]at h
 |nC c=>
  cases o' with
  |nC S =>
   simp only[rF]at h;split at h
   next i j=>
    have H:=ae h;subst H;exact Nq (f i)
   .exact Nq (c:=.rs []) (by simp[nN,ar.kl,sB])
   cases h
  |map agg es clock=>
   by_cases hc:c=.rs []/\agg=N2/\es=[]
   .obtain⟨rfl,rfl,rfl⟩:=hc
    simp only[rF]at h;rw[cg]at h;subst h;exact Nq (c:=.rs []) (by simp[nN,ar.kl,sB])
   exfalso;unfold rF at h;split at h
   next l t=>cases l
   next l t=>cases l
   next l t=>cases l
   next l t=>cases t
   next l t=>cases l;cases t;exact hc ⟨rfl,rfl,rfl⟩
   next l t=>cases l
   next l t=>cases l
   cases h
  |_=>simp[rF]at h
 |map agg es c=>
  cases o' with
  |map agg' C S =>
   simp only[rF,ab]at h;obtain⟨⟨⟨h1,h2⟩,H⟩,h4⟩:=h;have hl:=ae H;refine⟨by simpa using h1,ae h2,by simpa using hl,λi a7 hi'=>?_⟩;have hi1:i<es.length:=by simpa using a7
   have hm:=aj.1 h4 (es[i],C[i]) (by
    rw[List.mem_iff_getElem];exact⟨i,by simp;omega,by simp⟩)
   simp only[ab,kA]at hm;simp only[b_];exact⟨hm.1.1,Qf f _ _ hm.1.2,ae hm.2⟩
  |_=>simp[rF]at h
 |nH e z c d k off v=>
  cases o' with
  |nH Q R S P k' off' v' =>
   cases v with
   |some v0=>simp[rF]at h
   |none=>
   cases v' with
   |some v0=>simp[rF]at h
   |none=>
   simp only[rF,ab]at h;obtain⟨⟨⟨⟨hl,h1⟩,h2⟩,hc⟩,D⟩:=h;have h1:=ae h1;have h2:=ae h2;subst h1;subst h2;obtain⟨i,rfl,rfl⟩:=KT hc;have:=ax2 D;subst this;have hid:=K hl;refine⟨rfl,rfl,rfl,λa ha M=>⟨rfl,λb I N=>?_⟩⟩;intro G u r;simp only[dU,ur,mK]at r ha I⊢;have g:a<(rowsOf (θ i)).length:=by rw[zw]at ha;exact ha
   obtain⟨es,hes⟩:∃es,θ i=.rs es:=by
    rcases(f i).cases with⟨_,_,e⟩|⟨_,e⟩|⟨_,e⟩|⟨es,e⟩|⟨_,e⟩|⟨_,e⟩
    .simp[e,rowsOf]at g
    .simp[e,rowsOf]at g
    .simp[e,rowsOf]at g
    .exact⟨es,e⟩
    .simp[e,rowsOf]at g
    simp[e,rowsOf]at g
   have hp:=(f i).kl;rw[hes]at hp;have w:a<es.length:=by simpa[hes,rowsOf]using g
   have B:(pd d 0 (rowsOf (θ i)))[a]=tj d a 0 es[a]:=by have:=wy d (rowsOf (θ i)) 0 a;rw[af ha]at this;simp only[hes,rowsOf,af w]at this;simpa[hes,rowsOf]using this
   have J:b<es[a].length:=by have:=I;simp only[B,ym]at this;exact this
   have E:(pd d 0 (rowsOf (θ i)))[a][b]=wO d a b es[a][b]:=by
    have:=xz d a es[a] 0 b;rw[af J,ai,a_]at this;have h2:(pd d 0 (rowsOf (θ i)))[a][b]?=Q1 (wO d a b es[a][b]):=by rw[B];exact this
    rw[af I]at h2;simpa using h2
   rw[E]at r⊢;unfold wO at r⊢;split at r
   next q hq=>
    have a7:=hid _ (xQ a b);generalize(rowsOf es[a][b]).length=ln at r⊢;cases r with
    |ms _ _ _ _ p hp hv hz ad cp hA ho hl hsp=>exact .ms _ _ 0 _ p (by simp only[ca.oM,a7];exact hp) hv hz ad cp hA ho hl hsp
    |oh _ _ p hp hv=>exact .oh _ _ p (by simp only[ca.oM,a7];exact hp) hv
   rename_i hq;exact rr (G:=G) (G':=G.oM ι) (λ_ _ O=>O) r (rY hp a w b J)
  |_=>simp[rF]at h
 |qO a b=>cases o'<;>simp[rF]at h
 |qh s p=>
  cases o' with
  |qh s' p' =>simp only[rF,ab]at h;simp only[c7.sub,Sd h.1,Sd h.2];exact⟨rfl,rfl⟩
  |_=>simp[rF]at h
 |tq m a b c=>cases o'<;>simp[rF]at h
def V7{c:Nat->ar}{s:bl}:∀ {l:List ar} {t0:Nat},Ju ι c s l t0=No->∀i (h:i<l.length),n_ ι ((l[i]).mU c) (s.get (t0+i))=No
 | [],_,_,i,h=>by simp at h
 |a::az,t0,b,i,h=>by simp only[Ju,ab]at b;cases i;exact b.1;rename_i i;have:=V7 b.2 i (by simpa using h);simpa[eY,iU 1 i]using this
def aE1:∀ {l:List (Nat×c7)},Jg ι l=No->∀p∈l,∀q∈l,∀k,ι p.1=Q1 (Q1 k)->ι q.1=Q1 (Q1 k)->p.1=q.1
 | [],_,p,hp,_,_,_,_,_=>by cases hp
 |a::l,h,p,hp,q,g,k,h1,h2=>by
  simp only[Jg,ab]at h;have key:∀r∈l,ι a.1=Q1 (Q1 k)->ι r.1=Q1 (Q1 k)->a.1=r.1:=λr i e c=>by
   have:=aj.1 h.1 r i;rw[e]at this;simp only[bC]at this;rcases this with f|f
   exact(ae f).symm;simp[xD,c]at f
  rcases aD.1 hp with e|d
  rcases aD.1 g with c|b
  rw[e,c];rw[e]at h1⊢;exact key q b h1 h2;rcases aD.1 g with c|b
  rw[c]at h2⊢;exact(key p d h2 h1).symm;exact aE1 h.2 p d q b k h1 h2
def VV(a:Acc):∀(k l:Nat),(Ae a l k).length=k
 | 0,_=>rfl
 |k+1,l=>by simp[Ae,VV a k]
def Hint.ap9(h:Hint)(t:Nat):h.state.get t=(h.wc[t]?).getD (.b4 undef):=bl.MV _ _ _ _
def IJ(c:Fit θ){l:Nat}{h:Hint}{s:bl}{j9:List ar}(hm:DD n l h s=Q1 j9) :
  j9.length=h.k/\(∀v∈j9,nN (v.sub θ))/\Fit (λi=>(qC l j9 i).sub θ)/\∃ι,Ren ι n (h.state.sub (λi=>(qC l j9 i).sub θ)) (s.sub θ):=by
 unfold DD at hm;simp only at hm;split at hm;rename_i hc;cases hm;generalize D:VC s n l h=acc at *;generalize E:acc.io.filter (λp=>dD n p.1)=io at *;simp only[ab]at hc;obtain⟨⟨⟨⟨⟨⟨c1,c2⟩,G⟩,H⟩,I⟩,J⟩,K⟩:=hc;have r:=ae c2;have u:=aZ G;have g:=λv hv=>aS7 c (aj.1 c1 v hv);refine⟨VV _ _ _,g,λi=>?_,DO n io,?_⟩;show nN ((qC l (Ae acc l h.k) i).sub θ);unfold qC;split;cases m:(Ae acc l h.k)[i-l]? with
 |none=>simpa using c i
 |some v=>exact g v (aH m)
 simpa using c i;have d:∀i o,(h.state.sub (λi=>(qC l (Ae acc l h.k) i).sub θ)).st.bF i=Q1 o->∃o0,(i,o0)∈h.bF/\o=(o0.mU (qC l (Ae acc l h.k))).sub θ:=λi o ho=>by
  rw[bl.ua,bg.mT]at ho;cases m:h.state.st.bF i with
  |none=>rw[m]at ho;cases ho
  |some o0=>
   rw[m]at ho;simp only[ai,ah]at ho;refine⟨o0,?_,by rw[c7.tA];exact ho.symm⟩;rcases e8.JU h.bF .leaf i o0 m with h1|h1
   exact h1;cases h1
 have w:=λi k hk=>by
  have aux:∀(L:List (Nat×Option Nat)),L.all (λp=>dD n p.1&&cM p.1 h.next)=No->GW L i=Q1 k->n<=i/\i<h.next:=by
   intro L
   induction L with
   |nil=>intro _ q;simp[GW]at q
   |cons a L M =>intro b q;simp only[bU,ab]at b;unfold GW at q;split at q;rename_i he;have:=ae he;subst this;exact⟨aZ b.1.1,by simpa using b.1.2⟩;exact M (by simpa using b.2) q
  exact aux io H hk
 refine⟨r,λi a7=>?_,λi k hk=>?_,u,λi j k oi oj h1 h2 N O=>?_,λt x=>?_,λt x=>?_,λi o ho=>?_⟩;have:cM i n=No:=by rw[bP];exact a7
 simp only[DO,this];show i<h.next;simp only[DO]at hk;split at hk;rename_i P;rw[bP]at P;omega;exact(w i k hk).2;obtain⟨o1,m1,_⟩:=d i oi N;obtain⟨o2,m2,_⟩:=d j oj O;exact aE1 K _ m1 _ m2 k h1 h2;have f:t<h.wc.length:=by rw[r];exact x
 have:=V7 I t f;rw[a_]at this;rw[bl.tB,bl.tB,Hint.ap9,af f,cA,<-tA];exact Qf c _ _ this;have f:h.wc.length<=t:=by rw[r];exact x
 rw[bl.tB,Hint.ap9,List.getElem?_eq_none f];simp;obtain⟨o0,m0,rfl⟩:=d i o ho;have:=aj.1 J (i,o0) m0;simp only[TU]at this;split at this;rename_i k hk;split at this;rename_i o' B;exact .inl ⟨k,o'.sub θ,hk,by rw[bl.ua,bg.mT,B];rfl,aN5 c (λC i a7=>by
  have Q:=aZ C;have:cM i n=No:=by rw[bP];omega
  simp only[DO,this]) this⟩
 cases this;rename_i hk;refine .inr ⟨hk,?_⟩;unfold ar0 at this;split at this;rename_i e z he;exact⟨e,z,by rw[he];simp[c7.sub]⟩;cases this;cases this;cases hm
def ax8(f:ar->ar):∀(l:List ar) (i:Nat) (t:e8 ar),(zk l i t).map f=zk (l.map f) i (t.map f)
 | [],i,t=>rfl
 |v::l,i,t=>by simp only[zk];rw[ax8 f l,e8.map_set];rfl
def FP(θ:Nat->ar)(n:Nat)(args:List ar)(σ:bg):(bl.enter n args σ).sub θ=bl.enter n (args.map (ar.sub θ)) (σ.sub θ):=by simp only[bl.sub,bl.enter,ax8];rfl
def cd8{T:cy}{s:bl}{r:ResultVar}(h:y3 T s r=Q1 v):y3 T (s.sub θ) r=Q1 (v.sub θ):=by
 cases r with
 |tmp t=>simp only[y3,ah]at h⊢;rw[bl.tB,h]
 |cell a t=>simp only[y3]at h⊢;rw[bl.tB];exact NN h
def Oa{T:cy}{s:bl}:∀ {rs:List ResultVar} {l:List ar},uI T s rs=Q1 l->uI T (s.sub θ) rs=Q1 (l.map (ar.sub θ))
 | [],l,h=>by simp only[uI,ah]at h;subst h;rfl
 |r::rs,l,h=>by unfold uI at h;split at h;rename_i v a h1 h2;cases h;simp only[uI,cd8 h1,Oa h2];rfl;cases h
def Db{T:cy}{fn:Func}{s:bl}(h:pc T fn s=Q1 v):pc T fn (s.sub θ)=Q1 (v.sub θ):=by unfold pc at h;split at h;rename_i u hu;cases h;simp[pc,Oa hu];rename_i l a hl;cases h;simp only[pc,Oa hl];split;rename_i u e;simp only[ah]at e;have hlen:=lU eP e;simp only[aI]at hlen;obtain⟨x,rfl⟩:=List.length_eq_one_iff.1 hlen;exact b8 rfl (a x);rename_i b _ e;simp only[ah]at e;subst e;simp;rename_i e;cases e;cases h
def Bv:∀ {t:e8 c7} {k:Nat} {e:TypeId} {z j:Nat},t.get k=Q1 (.fN e z j)->j∈pZ t
 | .leaf,k,e,z,j,h=>by rw[e8.uF]at h;cases h
 | .node v l r,0,e,z,j,h=>by simp only[e8.get]at h;subst h;simp[pZ]
 | .node v l r,k+1,e,z,j,h=>by simp only[e8.get]at h;simp only[pZ,aY];split at h;exact .inr (.inl (Bv h));exact .inr (.inr (Bv h))
def Bo:∀ {t:e8 c7} {k:Nat} {j:Nat},t.get k=Q1 (.nC (.ey j))->j∈pZ t
 | .leaf,k,j,h=>by rw[e8.uF]at h;cases h
 | .node v l r,0,j,h=>by simp only[e8.get]at h;subst h;simp[pZ]
 | .node v l r,k+1,j,h=>by simp only[e8.get]at h;simp only[pZ,aY];split at h;exact .inr (.inl (Bo h));exact .inr (.inr (Bo h))
mutual
theorem AA{θ:Nat->ar}{id j bb:Nat}(hl:(rowsOf (θ bb)).length=(rowsOf (θ j)).length):∀v:ar,(v.oE id j bb).sub θ=v.sub θ
 | .c8 a z i=>by simp only[ar.oE];split;rename_i h;simp only[ab,cg]at h;obtain⟨rfl,rfl⟩:=h;simp only[rA,hl];rfl
 | .rs es=>by simp only[ar.oE,ar.sub];rw[Ob hl es]
 | .fT cs=>by simp only[ar.oE,ar.sub];rw[Bx hl cs]
 | .fn f a c=>by simp only[ar.oE,ar.sub];rw[Bx hl a,Bx hl c]
 | .agg cs=>by simp only[ar.oE,ar.sub];rw[Bx hl cs]
 | .ed cs=>by simp only[ar.oE,ar.sub];rw[Bx hl cs]
 | .any=>rfl
 | .b4 _=>rfl
 | .ms _ _ _ _=>rfl
 | .mp _ _ _=>rfl
 | .mm _=>rfl
 | .it _=>rfl
 | .ey _=>rfl
 | .ps _ _ _=>rfl
 | .mY _=>rfl
theorem Bx{θ:Nat->ar}{id j bb:Nat}(hl:(rowsOf (θ bb)).length=(rowsOf (θ j)).length):∀l:List ar,ni θ (y0 id j bb l)=ni θ l
 | []=>rfl
 |c::cs=>by simp only[y0,ni];rw[AA hl c,Bx hl cs]
theorem Ob{θ:Nat->ar}{id j bb:Nat}(hl:(rowsOf (θ bb)).length=(rowsOf (θ j)).length):∀l:List (List ar),o8 θ (G1 id j bb l)=o8 θ l
 | []=>rfl
 |c::cs=>by simp only[G1,o8];rw[Bx hl c,Ob hl cs]
end
def c7.AA{id:Nat}(hl:(rowsOf (θ bb)).length=(rowsOf (θ j)).length)(o:c7):(o.oE id j bb).sub θ=o.sub θ:=by
 cases o with
 |row e z es=>simp only[c7.oE,c7.sub,<-vQ];rw[Ob hl]
 |map agg es c =>simp only[c7.oE,c7.sub,bZ];congr 1;simp[Go.Ab.AA hl]
 |_=>rfl
variable {o:c7}
def bl.AA{id:Nat}(hl:(rowsOf (θ bb)).length=(rowsOf (θ j)).length)(s:bl):(s.oE id j bb).sub θ=s.sub θ:=by simp only[bl.oE,bl.sub,bg.sub,e8.map_map];have h1:(λx=>ar.sub θ (ar.oE id j bb x))=ar.sub θ:=funext λx=>Go.Ab.AA hl x;have h2:(λx=>c7.sub θ (c7.oE id j bb x))=c7.sub θ:=funext λx=>c7.AA hl x;rw[h1,h2]
variable {Q':Exit->bl->Prop}{Qs:bl->Prop}{s s':bl}
def ca6{T:cy}{σ1 b:bg}{id:Nat}{e:TypeId}{z:Nat}{es:List (List ar)}(h1:σ1.bF a=Q1 (.row e z es))(h2:σ.bF id=Q1 (.row e z es))(h:sq T σ1 t (.mp a i j) v=Q1 b) :
  ∃c,b.bF a=Q1 (.row e z c)/\sq T σ t (.mp id i j) v=Q1 (σ.set id (.row e z c)):=by
 unfold sq at h⊢;split at h;rename_i id' k l vs ti d f g;cases d;simp only[h1]at h;simp only[f,g,h2];split at h;split at h;rename_i hc;cases h;rw[cr hc];exact⟨_,by simp[bg.mQ],rfl⟩;cases h;cases h;cases h
def cb2{T:cy}{Φ:lv}{b:Nat->ar}(ha:∀i,i<bb->b i=θ i)(d:s.ff bb=No){op:Op}{ro:nU}(h:Q5 s op bb=Q1 (ro,s'))(he:iv T Φ θ ro=Q1 (ar.sub b (.ey bb))) :
  ∃c,(∀id,fb T (s.sub b).eval (s.st.sub b) id op=Q1 (.b4 undef,c))/\s'.sub b={ s.sub b with st:=c }:=by
 unfold Q5 at h;split at h;rename_i t a x;split at h;rename_i id i off hp;split at h;rename_i e z j ho;cases h;obtain⟨l,hj⟩:=PG (θ:=θ) ha d ho;have m:=K1 (θ:=θ) ha d (s.sm d a) hp;simp only[iv,mK]at he;split at he;rename_i σ1 f;have n:(tW e z (θ j)).bF 0=Q1 (.row e z (rowsOf (θ j))):=by simp[tW,bg.mQ]
 obtain⟨g,g1,g2⟩:=ca6 n l f;rw[g1]at he;simp only at he;split at he;rename_i hlen;simp only[ah]at he;have hlen:=ae hlen;have hl:(rowsOf (b bb)).length=(rowsOf (b j)).length:=by rw[<-he,ha j hj];exact hlen
 refine⟨(s.st.sub b).set id (.row e z g),λid0=>?_,?_⟩;simp only[fb,bl.sub_eval,m,k6 ha _ (s.sm d x),g2];have k:=bl.AA (id:=id) (j:=j) (bb:=bb) hl s;have o:({ s.oE id j bb with st:=(s.oE id j bb).st.set id (.fN e z bb) }:bl).sub b={ (s.oE id j bb).sub b with st:=((s.oE id j bb).st.set id (.fN e z bb)).sub b }:=rfl;rw[o,bg.pQ];have p:(s.oE id j bb).st.sub b=s.st.sub b:=lU bl.st k;rw[p,k];simp only[c7.sub,<-he,rowsOf];cases he;cases he;cases h;cases h;cases h
def Ns{id:Nat}(i:Nat):(nD σ id o).bF i=if i=id then Q1 o else Ld:=by unfold nD;rw[bg.mQ];split;rfl;exact e8.uF i
def af9(θ:Nat->ar)(σ:bg)(id:Nat)(o:c7):(nD σ id o).sub θ=nD (σ.sub θ) id (o.sub θ):=by unfold nD;rw[bg.pQ];rfl
def lW{G:ca}(h:Rel G σ w){id:Nat}(ho:σ.bF id=Q1 o):Rel G (nD σ id o) w :=h.less rfl λi x a=>by rw[Ns]at a;split at a;rename_i e;subst e;cases a;exact ho;cases a
noncomputable abbrev ca.vd(G:ca)(σ:bg)(w:World)(id:Nat)(o:c7):ca:=G.frozen (nD σ id o) w G.pl
variable {G:ca}
def u6(h:Rel G σ w){id:Nat}(ho:σ.bF id=Q1 o):G.le (G.vd σ w id o) :=⟨rfl,λ_ _ a=>tc (lW h ho) a,λ_ _ hp=>hp⟩
def bT4{id:Nat}{b:Nat}(h:Live G (nD σ id o) b):∃p,G.pl id=Q1 p/\p.mX=N2/\p.block=b:=by obtain⟨i,x,p,h1,h2,a,c⟩:=h;rw[Ns]at h1;split at h1;rename_i e;subst e;exact⟨p,h2,a,c⟩;cases h1
def aJ0{a:Act}(B:lZ G s a w){id:Nat}(ho:s.st.bF id=Q1 o)(M:s'.n=s.n)(K:s'.st.next=s.st.next)
  (d:∀i x,s'.st.bF i=Q1 x->i≠id/\∃y,s.st.bF i=Q1 y/\(∀p m,oq G p y m->oq (G.vd s.st w id o) p x m)/\((∃e z,y=.row e z [])->∃e z,x=.row e z []))
  (g:∀t u,eR G (s.get t) u->eR (G.vd s.st w id o) (s'.get t) u)  (D:n<=s.st.next):lZ (G.vd s.st w id o) s' a w/\ou n G s.st w (G.vd s.st w id o) s'.st w:=by
 have c:=B.rel;have l:=lW c ho;have himm:∀b x,(G.vd s.st w id o).lo b=Q1 x->(∃p,G.pl id=Q1 p/\p.mX=N2/\p.block=b/\w.heap[b]?=Q1 x)\/G.lo b=Q1 x:=λb x f=>by simp only[ ca.frozen]at f;split at f;rename_i hl;obtain⟨p,h1,h2,k⟩:=bT4 hl;exact .inl ⟨p,h1,h2,k,f⟩;exact .inr f
 refine⟨⟨B.defers,by rw[M];exact B.size,λt=>g t _ (B.tmps t),?_⟩,?_⟩;refine⟨c.os,c.tape,c.output,c.size,λb x f=>?_,by rw[K];exact c.fresh,λi x a7=>?_,λi j oi oj pi pj h1 h2 k N v1 v2 O=>?_,λb o' v hv=>Nr l (c.qE b o' v hv)⟩;rcases himm b x f with⟨p,_,_,_,h⟩|h
 exact h;exact c.lo b x h;obtain⟨E,y,C,H,r⟩:=d i x a7;obtain⟨p,hp,hl⟩:=c.bF i y C;refine⟨p,hp,?_⟩;rcases hl with⟨hv,e,z,rfl⟩|⟨hv,l2,mi,pG⟩
 exact .inl ⟨hv,r ⟨e,z,rfl⟩⟩;refine .inr ⟨hv,?_,mi,H p _ pG⟩;cases f:(G.vd s.st w id o).lo p.block with
 |none=>rfl
 |some q=>
  rcases himm _ _ f with⟨P,h1,h2,k,_⟩|h
  exact b8 (c.sep i id y o p P C ho hp h1 hv h2 k.symm) E;rw[l2]at h;cases h
 obtain⟨_,Q,I,_⟩:=d i oi h1;obtain⟨_,R,J,_⟩:=d j oj h2;exact c.sep i j Q R pi pj I J k N v1 v2 O;refine⟨rfl,λb x f=>tc l f,λ_ _=>rfl,by rw[K];exact D,⟨aB _,λ_ _ _=>rfl,λi x p h1 h2 k _=>?_,λb x f=>?_,aB _⟩⟩;obtain⟨_,y,C,_⟩:=d i x h1;exact⟨i,y,p,C,h2,k,rfl⟩;rcases himm b x f with⟨p,h1,h2,k,_⟩|h
 exact .inr (.inr ⟨id,o,p,ho,h1,h2,k⟩);exact .inl h
section
variable {θ:Nat->ar} (hθ:Fit θ) {G:ca} {σ:bg} {w:World} {id:Nat} {o:c7} (h:Rel G (σ.sub θ) w) (ho:σ.bF id=Q1 o) (hxv:∀j,j∈pZ (nD σ id o).mZ->∃es,θ j=.rs es)
include hθ h ho hxv in
theorem Ou(v c:ar)(u:Value)(hc:pX (nD σ id o) 3 v=Q1 c)(a:eR G (v.sub θ) u):eR (G.vd (σ.sub θ) w id (o.sub θ)) (c.sub θ) u:=by
 have h1:Rel G ((nD σ id o).sub θ) w:=by rw[af9];exact lW h (by rw[bg.mT,ho];rfl)
 have:=DA hθ h1 G.pl (λi e z j a7=>hxv j (Bv a7)) (λi j a7=>hxv j (Bo a7)) 3 v c u hc a;rw[af9]at this;exact this
include hθ h ho hxv
mutual
theorem QY:∀(v:ar) (u:Value),eR G (v.sub θ) u->eR (G.vd (σ.sub θ) w id (o.sub θ)) ((v.nS (nD σ id o)).sub θ) u
 | .agg cs,u,b=>by
  simp only[ar.nS,ar.sub]at b⊢;cases b with
  |agg _ vs h1 h2 =>have:=F6 cs vs ⟨h1,h2⟩;exact .agg _ vs this.1 this.2
 | .ed cs,u,b=>by
  simp only[ar.nS,ar.sub]at b⊢;cases b with
  |ed _ vs h1 h2 =>have:=F6 cs vs ⟨h1,h2⟩;exact .ed _ vs this.1 this.2
 | .fn f a c,u,b=>by
  simp only[ar.nS,ar.sub]at b⊢;cases b with
  |fn _ _ _ fv cv h1 h2 g k =>have d:=F6 a fv ⟨h1,g⟩;have e:=F6 c cv ⟨h2,k⟩;exact .fn _ _ _ fv cv d.1 e.1 d.2 e.2
 | .c8 a z i,u,b=>by
  simp only[ar.nS];cases hc:pX (nD σ id o) 3 (.c8 a z i)with
  |some c=>simp only[cA];exact Ou hθ h ho hxv _ _ _ hc b
  |none=>exact b.mono (u6 h (by rw[bg.mT,ho];rfl))
 | .ms a z i j,u,b=>by
  simp only[ar.nS];cases hc:pX (nD σ id o) 3 (.ms a z i j)with
  |some c=>simp only[cA];exact Ou hθ h ho hxv _ _ _ hc b
  |none=>exact b.mono (u6 h (by rw[bg.mT,ho];rfl))
 | .mp a i j,u,b=>by
  simp only[ar.nS];cases hc:pX (nD σ id o) 3 (.mp a i j)with
  |some c=>simp only[cA];exact Ou hθ h ho hxv _ _ _ hc b
  |none=>exact b.mono (u6 h (by rw[bg.mT,ho];rfl))
 | .any,u,b=>by simp only[ar.nS];exact b.mono (u6 h (by rw[bg.mT,ho];rfl))
 | .b4 _,u,b=>by simp only[ar.nS];exact b.mono (u6 h (by rw[bg.mT,ho];rfl))
 | .rs _,u,b=>by simp only[ar.nS];exact b.mono (u6 h (by rw[bg.mT,ho];rfl))
 | .fT _,u,b=>by simp only[ar.nS];exact b.mono (u6 h (by rw[bg.mT,ho];rfl))
 | .mm _,u,b=>by simp only[ar.nS];exact b.mono (u6 h (by rw[bg.mT,ho];rfl))
 | .it _,u,b=>by simp only[ar.nS];exact b.mono (u6 h (by rw[bg.mT,ho];rfl))
 | .ey _,u,b=>by simp only[ar.nS];exact b.mono (u6 h (by rw[bg.mT,ho];rfl))
 | .ps _ _ _,u,b=>by simp only[ar.nS];exact b.mono (u6 h (by rw[bg.mT,ho];rfl))
 | .mY _,u,b=>by simp only[ar.nS];exact b.mono (u6 h (by rw[bg.mT,ho];rfl))
theorem F6:∀(l:List ar) (us:List Value),hE G (ni θ l) us->hE (G.vd (σ.sub θ) w id (o.sub θ)) (ni θ (sb (nD σ id o) l)) us
 | [],us,a=>by simp only[sb,ni]at a⊢;rw[a.tr];exact hE.nil _
 |c::cs,us,a=>by simp only[sb,ni]at a⊢;obtain⟨v,vs,rfl,h1,h2⟩:=a.cons_inv;exact(F6 cs vs h2).cons (QY c v h1)
end
theorem ce2(y:c7)(p:nt)(f:Option Obj)(hk:oq G p (y.sub θ) f):oq (G.vd (σ.sub θ) w id (o.sub θ)) p ((y.nS (nD σ id o)).sub θ) f:=by
 have hle:=u6 h (by rw[bg.mT,ho];rfl);cases y with
 |row e z es=>
  obtain⟨cs,h1,h2,B,C,D⟩:=hk;refine⟨cs,h1,h2,B,by simpa using C,λi a7=>?_⟩;have n:i<es.length:=by simpa using a7
  have q:i<(es.map (cm (ar.sub θ))).length:=by simpa using n
  obtain⟨g1,g2⟩:=D i q;have E:(es.map (cm (ar.sub θ)))[i]=ni θ es[i]:=by simp[pT]
  have x:((es.map (sb (nD σ id o))).map (cm (ar.sub θ)))[i]=ni θ (sb (nD σ id o) es[i]):=by simp[pT]
  have g:∀l:List ar,(sb (nD σ id o) l).length=l.length:=λl=>by
   induction l with
   |nil=>rfl
   |cons c cs r=>simp[sb,r]
  have hlen:(ni θ (sb (nD σ id o) es[i])).length=es[i].length:=by rw[pT,aI,g]
  refine⟨by rw[x,hlen];rw[E,pT,aI]at g1;exact g1,λj hj t=>?_⟩;have d:j<es[i].length:=by rw[x,hlen]at hj;exact hj
  have u:j<(es.map (cm (ar.sub θ)))[i].length:=by simpa using d
  have g3:=g2 j u t;have H:(es.map (cm (ar.sub θ)))[i][j]=(es[i][j]).sub θ:=by simp
  have v:j<(sb (nD σ id o) es[i]).length:=by rw[g];exact d
  have I:∀(l:List ar) (j:Nat) (hj:j<l.length) (k:j<(sb (nD σ id o) l).length),(sb (nD σ id o) l)[j]=(l[j]).nS (nD σ id o):=λl=>by
   induction l with
   |nil=>intro j hj;simp at hj
   |cons c cs r =>intro j hj k;cases j;rfl;rename_i j;exact r j (by simpa using hj) (by simpa[sb]using k)
  have J:((es.map (sb (nD σ id o))).map (cm (ar.sub θ)))[i][j]=((es[i][j]).nS (nD σ id o)).sub θ:=by simp[I es[i] j d v]
  rw[J];rw[H]at g3;exact QY hθ h ho hxv _ _ g3
 |map agg es c=>exact oq.mono hle hk
 |qO s pos=>exact oq.mono hle hk
 |tq m a b c=>exact oq.mono hle hk
 |fN e z i=>exact oq.mono hle hk
 |nC c=>exact oq.mono hle hk
 |nH=>exact oq.mono hle hk
 |qh s p=>exact oq.mono hle hk
end
def bl.bj5(σ1:bg)(id:Nat)(s:bl)(t:Nat):(s.nS σ1 id).get t=(s.get t).nS σ1:=by simp only[bl.get,bl.nS,e8.sY];cases s.mZ.get t<;>simp[ar.nS]
def bl.bj6(σ1:bg)(id:Nat)(s:bl)(i:Nat):(s.nS σ1 id).st.bF i=if i=id then Ld else(s.st.bF i).map (c7.nS σ1):=by
 show((s.st.del id).mZ.map (c7.nS σ1)).get i=_;rw[e8.sY];have:(s.st.del id).mZ.get i=if i=id then Ld else s.st.bF i:=bg.rK s.st id i
 rw[this];split<;>rfl
def av2(b:Fit θ){id:Nat}(ho:s.st.bF id=Q1 o)(d:∀j,j∈pZ (nD s.st id o).mZ->∃es,θ j=.rs es){a:Act}(f:lZ G (s.sub θ) a w)(g:n<=s.st.next) :
  lZ (G.vd (s.st.sub θ) w id (o.sub θ)) ((s.nS (nD s.st id o) id).sub θ) a w/\ou n G (s.sub θ).st w (G.vd (s.st.sub θ) w id (o.sub θ)) ((s.nS (nD s.st id o) id).sub θ).st w:=by
 have h:(s.sub θ).st.bF id=Q1 (o.sub θ):=by rw[bl.ua,bg.mT,ho];rfl
 exact aJ0 (s':=(s.nS (nD s.st id o) id).sub θ) f h rfl rfl (λi x a7=>by
   rw[bl.ua,bg.mT,bl.bj6]at a7;split at a7;cases a7;rename_i l;cases m:s.st.bF i with
   |none=>rw[m]at a7;cases a7
   |some y=>
    rw[m]at a7;cases a7;refine⟨l,y.sub θ,by rw[bl.ua,bg.mT,m];rfl,λp q hk=>ce2 b f.rel ho d y p q hk,?_⟩;rintro ⟨e,z,he⟩;cases y with
    |row r B es=>
     simp only[c7.sub,c7.row.injEq]at he;have:es=[]:=by simpa using he.2.2
     subst this;exact⟨r,B,by simp[c7.nS,c7.sub]⟩
    |fN r B j=>exact⟨e,z,by simp only[c7.nS];exact he⟩
    |nH r B c ck k off v=>exact⟨e,z,by simp only[c7.nS];exact he⟩
    |_=> first| (cases he;done)| (split at he<;>cases he))
  (λt u hu=>by
   rw[bl.tB]at hu⊢;rw[bl.bj5];exact QY b f.rel ho d _ _ hu) g
def j5.freeze{Q:Exit->bl->Prop}(b:Fit θ){id:Nat}(ho:s.st.bF id=Q1 o)(d:∀j,j∈pZ (nD s.st id o).mZ->∃es,θ j=.rs es)
  (h:j5 P n c Q ((s.nS (nD s.st id o) id).sub θ)):j5 P n c Q (s.sub θ):=by
 intro f G a w g;obtain⟨h1,h2⟩:=av2 b ho d g (n:=n) f;refine wp_mono (h f _ a w h1) ?_;rintro e p w' ⟨s2,i,k,l,m⟩;exact⟨s2,i,h2.trans k (aB _),l,m⟩
def nn.freeze{l:List Nat}(b:Fit θ){id:Nat}(ho:s.st.bF id=Q1 o)(c:∀j,j∈pZ (nD s.st id o).mZ->∃es,θ j=.rs es)
  (h:nn P ops n0 n Qs l ((s.nS (nD s.st id o) id).sub θ)):nn P ops n0 n Qs l (s.sub θ):=by
 intro G a w f hf g d;obtain⟨h1,h2⟩:=av2 b ho c f (n:=n) (by have:(s.sub θ).st.next=s.st.next:=rfl;omega);have:=h _ a w h1 (λj hj=>hf j hj) g d;refine sh ?_ _ _ _ this;rintro e r w' ⟨i,s2,k,m,p,q⟩;exact⟨i,s2,k,h2.trans m (aB _),p,q⟩
def W1(h:s.ff bb=No){x:c7}(e:s.st.bF a=Q1 x){f:Nat->ar}(o:∀i,i<bb->f i=θ i)
  (d:((pZ (nD s.st a x).mZ).all λj=>match θ j with| .rs _=>No|_=>N2)=No):∀j,j∈pZ (nD s.st a x).mZ->∃es,f j=.rs es:=λj hj=>by
 have g:=aj.1 d j hj;have k:j<bb:=by
  have p:=s.uw h e;have hm:∀i,(nD s.st a x).mZ.get i=if i=a then Q1 x else Ld:=λi=>Ns i
  have key:∀(t:e8 c7),(∀i y,t.get i=Q1 y->y.ff bb=No)->j∈pZ t->j<bb:=by
   intro t
   induction t with
   |leaf=>intro _ hm;simp[pZ]at hm
   |node v l r m n=>
    intro b hm;simp only[pZ,aY]at hm;rcases hm with hm|hm|hm
    have cu:=b 0;split at hm;have:=cu _ rfl;simp only[bL]at hm;subst hm;simpa[c7.ff]using this;have:=cu _ rfl;simp only[bL]at hm;subst hm;simpa[c7.ff,ar.ff]using this;simp at hm;exact m (λi y c=>b (2*i+1) y (by simp only[e8.get];rw[show 2*i%2=0 by omega,show 2*i / 2=i by omega];exact c)) hm;exact n (λi y c=>b (2*i+1+1) y (by simp only[e8.get];rw[show(2*i+1)%2=1 by omega,show(2*i+1) / 2=i by omega];exact c)) hm
  refine key _ (λi y c=>?_) hj;rw[hm]at c;split at c;cases c;exact p;cases c
 rw[o j k];split at g;rename_i es he;exact⟨es,he⟩;cases g
section
variable {P:Program} {T:cy} (cb:mz P T) {Φ:lv} (hΦ:Ak P Φ) {F:FuncId->Option Func} (dC:∀f fn,F f=Q1 fn->P.funcs[f]?=Q1 fn) {Q:ar->Prop}
def Hk(T:cy)(Φ:lv)(Q:ar->Prop)(bb:Nat)(θ:Nat->ar)(A:Nat->List ar->Prop)(k:vC)(s':bl):Prop :=∃a c b d,bb<=b/\Fit a/\(∀i,i<bb->a i=θ i)/\(∀l,l<bb->d l=A l)/\s'=bl.sub a c/\mV T Φ Q (k c b) a d
def GQ(T:cy)(Φ:lv)(Q:ar->Prop)(bb:Nat)(θ:Nat->ar)(A:Nat->List ar->Prop)(k:zu)(e:Exit)(s':bl):Prop :=∃c a d b g,e=qQ.qP c/\bb<=b/\Fit a/\(∀i,i<bb->a i=θ i)/\(∀l,l<bb->g l=A l)/\s'=bl.sub a d/\mV T Φ Q (k c d b) a g
def A8(P:Program)(T:cy)(Φ:lv)(Q:ar->Prop)(ex:tF):Prop :=∀n c s bb k θ A,Fit θ->mV T Φ Q (ex n c s bb k) θ A->j5 P n c (GQ T Φ Q bb θ A k) (bl.sub θ s)
omit cb hΦ dC in
def as6{Φ:lv}{φ:List ar->Option ar}(h:Φ.KE f=Q1 φ):f<p9/\Φ (p9+f)=Q1 φ:=by unfold lv.KE at h;split at h;rename_i a;exact⟨by simpa using a,h⟩;cases h
include cb hΦ dC in
theorem RA(hex:A8 P T Φ Q ex){o:Oper}(ho:ops[i]?=Q1 o)(a7:i∉rest){A:Nat->List ar->Prop}(hθ:Fit θ)
  (hw:pv ops (s.sub θ) o=Q1 No) (hd:oz s.n o.dst=No) 
  (hk:∀s' fr' b A',bb<=fr'->Fit b->(∀j,j<bb->b j=θ j)->(∀l,l<bb->A' l=A l)->mV T Φ Q (kk s' fr') b A'->nn P ops n0 n Qs rest (bl.sub b s'))
  (h:mV T Φ Q (KB T Φ F ex (n0+i) o s bb kk) θ A):nn P ops n0 n Qs (i::rest) (s.sub θ):=by
 have R:oz (s.sub θ).n o.dst=No:=hd;unfold KB at h;split at h
 next fo args ts hop=>
  split at h
  next f first cap hfo=>
   have S:(s.sub θ).eval fo=.fn (.func f) (first.map (ar.sub θ)) (cap.map (ar.sub θ)):=by rw[bl.sub_eval,hfo,QP]
   have p:first.map (ar.sub θ)++args.toList.map (s.sub θ).eval++cap.map (ar.sub θ)=(first++args.toList.map s.eval++cap).map (ar.sub θ):=by simp only[ez,bZ];congr 2;apply bY;intro x _;exact bl.sub_eval θ s x
   split at h
   .
    rename_i xv ro s' k;split at h
    next d=>
     obtain⟨g,a0,f0,e0,b,a1',f1,I,hl⟩:=h;have B:∀i,i<bb->b i=θ i:=λi a7=>(a1' i a7).trans (a0 i a7);unfold ao9 at k;split at k
     .cases k
     rename_i φ q;split at k
     next id z j rest hargs0=>
      split at k
      next e z' j' hobj=>
       split at k
       next crest hcc hcr=>
        simp only[ab,cg]at hcc;obtain⟨rfl,rfl⟩:=hcc;cases k;obtain⟨k1,hj⟩:=PG (θ:=θ) B d hobj;have m:s.sub b=s.sub θ:=bl.k6 B d;have J:s.st.sub b=s.st.sub θ:=lU bl.st m;have hs0:s.sub g=s.sub θ:=bl.k6 a0 d;have hst0:s.st.sub g=s.st.sub θ:=lU bl.st hs0;simp only[iv]at e0;split at e0;rotate_left
        .cases e0
        rename_i K;have hφ':Φ (p9+f)=Q1 φ:=(as6 q).2;simp only[iv,hφ',au,mK,pN]at I;split at I
        next c hc=>
         simp only[aG,false_implies,me,ah]at I;obtain⟨es,es',fa,gb,lb,mN⟩:=hΦ.sort f φ (as6 q).1 hφ' _ _ _ _ hc;have q1':θ j=.rs es:=by rw[<-a0 j hj];exact fa
         have hl':(rowsOf (b bb)).length=(rowsOf (b j)).length:=by rw[<-I,B j hj,q1',gb];exact lb
         rw[q1']at k1;have k2:(s.st.sub θ).bF id=Q1 (.row e z es):=by rw[<-J];exact k1
         have hread:∀G vs w,hE G (rest.map (ar.sub g)) vs->Rel G ((s.st.sub θ).del id) w->hE (G.frozen ((s.st.sub θ).del id) w (λ_=>Ld)) (crest.map (ar.sub g)) vs:=λG vs w h1 h2=>by
          rw[<-hst0,<-bg.D_]at h2⊢;obtain⟨g1,g2⟩:=yA hcr;refine⟨by rw[h1.1];simp[g1],λa ha H=>?_⟩;have ha1:a<crest.length:=by simpa using ha
          have ha2:a<rest.length:=by omega
          have hxv:∀j',j'∈pZ (s.st.del id).mZ->cM j' bb=No->∃es,g j'=.rs es:=λj' hm hb=>by
           have hm:=aj.1 K j' hm;rw[a0 j' (by simpa using hb)];split at hm
           next es he=>exact⟨es,he⟩
           cases hm
          have hold:∀id' o',(s.st.del id).bF id'=Q1 o'->s.st.bF id'=Q1 o':=λid' o' r=>FZ r;have:=DA (θ:=g) f0 h2 (λ_=>Ld) (λid' e' z' j' r=>?_) (λid' j' r=>?_) 50 _ _ vs[a] (g2 a ha2 ha1) (by
           have:=h1.2 a (by simpa using ha2) H;rw[b_]at this;exact this)
          .simpa using this
          .have hb:=s.uw d (hold _ _ r)
           simp only[c7.ff]at hb;exact hxv j' (Bv r) hb
          have hb:=s.uw d (hold _ _ r);simp only[c7.ff,ar.ff]at hb;exact hxv j' (Bo r) hb
         have E:=mN (s.st.sub θ) id e (rest.map (ar.sub g)) k2 hread;have hargs2:first.map (ar.sub θ)++args.toList.map (s.sub θ).eval++cap.map (ar.sub θ)=.ms id z 0 es.length::rest.map (ar.sub g):=by
          have M:=s.sm d fo;rw[hfo]at M;simp only[ar.ff,ab]at M;have fa:first.map (ar.sub g)=first.map (ar.sub θ):=by rw[<-pT,<-pT,wA a0 first M.1]
          have gb:cap.map (ar.sub g)=cap.map (ar.sub θ):=by rw[<-pT,<-pT,wA a0 cap M.2]
          have lb:(first++args.toList.map s.eval++cap).map (ar.sub θ)=(first++args.toList.map s.eval++cap).map (ar.sub g):=by simp only[ez,bZ];rw[fa,gb];congr 2;apply bY;intro x _;exact(k6 a0 _ (s.sm d x)).symm
          rw[p,lb,hargs0,au];simp only[ar.sub,a0 j hj,q1',rowsOf]
         rw[<-hargs2]at E;refine nn.turns ho hop hw R S (σ1:=(s.st.sub θ).set id (.row e z es')) (aB _) E ?_;have:=hk _ _ _ _ (jQ _) f1 B (λ_ _=>rfl) hl;have C:(({ s.oE id j bb with st:=(s.oE id j bb).st.set id (.fN e z bb) }:bl).put o.dst (.ed [])).sub b=({ s.sub θ with st:=(s.st.sub θ).set id (.row e z es') }.put o.dst (.ed [])):=by have r1:=bl.AA (id:=id) (j:=j) (bb:=bb) hl' s;have r2:(s.oE id j bb).st.sub b=s.st.sub b:=lU bl.st r1;have e4:=bl.sf b (s.oE id j bb) ((s.oE id j bb).st.set id (.fN e z bb)) o.dst (.ed []);rw[e4,r1,bg.pQ,r2,m,J];simp only[c7.sub,<-I,gb,rowsOf];rfl
         rw[C]at this;exact this
        cases I
       cases k
      cases k
     cases k
    exact h.elim
   split at h
   .
    rename_i ro v s' k;split at h
    next d=>
     obtain⟨b,B,f1,I,hl⟩:=h;unfold ao8 at k;split at k
     .cases k
     rename_i φ q;split at k
     .split at k
      next fn hfn=>
       split at k
       next t hrt=>
        split at k
        next elem nq z2 z3 z4 ht=>
         split at k
         next ei hei=>
          cases k;simp only[iv,q,mK]at I;split at I
          next c hc=>
           simp only[aG,false_implies,me,ah]at I;obtain⟨es,fa,gb⟩:=hΦ.row f φ q _ _ hc;have E:=gb T fn t elem _ ei cb (dC f fn hfn) hrt ht rfl hei (s.st.sub θ);rw[<-p]at E;refine nn.turns ho hop hw R S (c:=.ms ((s.st.sub θ).next+5) ei.size 0 es.length) (σ1:=({ s.st.sub θ with next:=(s.st.sub θ).next+7 }:bg).set ((s.st.sub θ).next+5) (.row elem ei.size es)) (aV _ 7) E ?_;have:=hk _ _ _ _ (jQ _) f1 B (λ_ _=>rfl) hl;have C:(({ s with st:=({ s.st with next:=s.st.next+7 }:bg).set (s.st.next+5) (.fN elem ei.size bb) }:bl).put o.dst (.c8 (s.st.next+5) ei.size bb)).sub b=({ s.sub θ with st:=({ s.st.sub θ with next:=(s.st.sub θ).next+7 }:bg).set ((s.st.sub θ).next+5) (.row elem ei.size es) }.put o.dst (.ms ((s.st.sub θ).next+5) ei.size 0 es.length)):=by have e4:=bl.sf b s (({ s.st with next:=s.st.next+7 }:bg).set (s.st.next+5) (.fN elem ei.size bb)) o.dst (.c8 (s.st.next+5) ei.size bb);have m:s.sub b=s.sub θ:=bl.k6 B d;have J:s.st.sub b=s.st.sub θ:=lU bl.st m;rw[e4,m,bg.pQ];have e5:({ s.st with next:=s.st.next+7 }:bg).sub b={ s.st.sub b with next:=(s.st.sub b).next+7 }:=rfl;rw[e5,J];simp only[c7.sub,ar.sub,<-I,fa,rowsOf];rfl
           rw[C]at this;exact this
          cases I
         cases k
        cases k
       cases k
      cases k
     cases k
    exact h.elim
   unfold ao7 at h;split at h
   .exact h.elim
   rename_i fn hfn;split at h
   next φ q=>
    replace q:=lv.be0 q;split at h
    next pat fr' hpat=>
     split at h
     next d=>
      rw[ab]at d;have hle:=aZ d.2;split at h
      next cargs D=>
       obtain⟨g,B,f1,I,u,a2,f2,C,hl⟩:=h;simp only[iv]at I C;split at I
       next K=>
        rw[(lv.yE q).2]at C;simp only at C;split at C
        next c hc=>
         split at C
         next hflat=>
          simp only[ah]at C;have m:s.sub g=s.sub θ:=bl.k6 B d.1;have hs2:s.sub u=s.sub θ:=by rw[bl.k6 a2 d.1,m]
          obtain⟨cargs0,N,rfl⟩:∃l,uZ (pX s.st 50) (first++args.toList.map s.eval++cap)=Q1 l/\cargs=y6 l:=by
           unfold P3 at D;split at D
           .cases D
           split at D
           next l hl2=>cases D;exact⟨_,hl2,rfl⟩
           cases D
          have O:=hΦ.w4 f φ (lv.yE q).1 (lv.yE q).2 _ _ hc;have htold:Told P f ((first++args.toList.map s.eval++cap).map (ar.sub g)) (s.st.sub g) c:=by
           refine bH7 O (hflat trivial) (λG vs w hr hrel=>?_);obtain⟨g1,g2⟩:=yA N;refine⟨by rw[hr.1,BF];simp[g1],λj hj hj'=>?_⟩;have hj1:j<cargs0.length:=by simpa[BF]using hj
           have hj2:j<(first++args.toList.map s.eval++cap).length:=by omega
           have:=DA (θ:=g) f1 hrel (λ_=>Ld) (λid e z j' r=>?_) (λid j' r=>?_) 50 _ _ vs[j] (g2 j hj2 hj1) (by
            have:=hr.2 j (by simpa using hj2) hj';rw[b_]at this;exact this)
           .have:=BN _ _ this
            simpa[BF]using this
           .have hm:=aj.1 K j' (Bv r)
            have hb:=s.uw d.1 r;simp only[c7.ff,bP]at hb;rw[B j' hb];split at hm
            next es he=>exact⟨es,he⟩
            cases hm
           have hm:=aj.1 K j' (Bo r);have hb:=s.uw d.1 r;simp only[c7.ff,ar.ff,bP]at hb;rw[B j' hb];split at hm
           next es he=>exact⟨es,he⟩
           cases hm
          have hargs1:(first++args.toList.map s.eval++cap).map (ar.sub g)=(first++args.toList.map s.eval++cap).map (ar.sub θ):=by
           rw[<-p];have e:(s.sub g).eval=(s.sub θ).eval:=by rw[m]
           have M:=s.sm d.1 fo;rw[hfo]at M;simp only[ar.ff,ab]at M;have fa:first.map (ar.sub g)=first.map (ar.sub θ):=by rw[<-pT,<-pT,wA B first M.1]
           have gb:cap.map (ar.sub g)=cap.map (ar.sub θ):=by rw[<-pT,<-pT,wA B cap M.2]
           simp only[ez,bZ];rw[fa,gb];congr 2;apply bY;intro x _;have:=congrFun e x;rw[bl.sub_eval]at this;exact this
          have J:s.st.sub g=s.st.sub θ:=bg.k6 B d.1;rw[hargs1,J,<-p]at htold;refine nn.told ho hop hw R S htold ?_;have:=hk (s.put o.dst pat) fr' u A hle f2 (λj hj=>(a2 j hj).trans (B j hj)) (λ_ _=>rfl) hl;have e3:=bl.sf u s s.st o.dst pat;have e4:({ s with st:=s.st }:bl)=s:=rfl;rw[e4]at e3;rw[e3]at this;have e5:({ s.sub u with st:=s.st.sub u }:bl)=s.sub u:=rfl;rw[e5,hs2,<-C]at this;exact this
         cases C
        cases C
       cases I
      next cargs D=>
       obtain⟨u,a2,f2,C,hl⟩:=h;simp only[iv]at C;rw[(lv.yE q).2]at C;simp only at C;split at C
       next c hc=>
        split at C
        .simp only[ah]at C
         have hs2:s.sub u=s.sub θ:=bl.k6 a2 d.1;have N:cargs=first++args.toList.map s.eval++cap:=by
          unfold P3 at D;split at D
          .cases D;rfl
          split at D<;>cases D
         rw[N]at hc;have O:=hΦ.w4 f φ (lv.yE q).1 (lv.yE q).2 _ _ hc (s.st.sub θ);rw[<-p]at O;refine nn.told ho hop hw R S O ?_;have:=hk (s.put o.dst pat) fr' u A hle f2 a2 (λ_ _=>rfl) hl;have e3:=bl.sf u s s.st o.dst pat;have e4:({ s with st:=s.st }:bl)=s:=rfl;rw[e4]at e3;rw[e3]at this;have e5:({ s.sub u with st:=s.st.sub u }:bl)=s.sub u:=rfl;rw[e5,hs2,<-C]at this;exact this
        cases C
       cases C
      exact h.elim
     exact h.elim
    exact h.elim
   split at h
   next c hb=>
    split at h
    next hcc=>
     simp only[ab,cT]at hcc;obtain⟨⟨c1,c2⟩,c3⟩:=hcc;have:=hex _ _ _ _ _ _ _ hθ h;rw[FP]at this;refine nn.inline (n:=n) cb ho hop hw R S (dC f fn hfn) c2 hb (by rw[p,aI];exact aZ c1) ?_;rw[p];refine j5.mono this ?_;rintro e s' ⟨e',g,S1,fr1,A1,rfl,hfr,f1,B,b1,rfl,hl⟩;have m:s.sub g=s.sub θ:=bl.k6 B c3;have fin:∀v,pc T fn S1=Q1 v->mV T Φ Q (kk ({ s with st:=S1.st }.put o.dst v) fr1) g A1->∃v,pc T fn (S1.sub g)=Q1 v/\nn P ops n0 n Qs rest ({ s.sub θ with st:=(S1.sub g).st }.put o.dst v):=λv hv hl=>by refine⟨v.sub g,Db hv,?_⟩;have:=hk _ _ _ _ hfr f1 B b1 hl;rw[bl.sf,m]at this;exact this
     cases e' with
     |oA j=>exact hl.elim
     |nr=>
      simp only at hl;split at hl
      next v hv=>exact⟨.inl rfl,fin v hv hl⟩
      exact hl.elim
     |ret=>
      simp only at hl;split at hl
      next v hv=>exact⟨.inr rfl,fin v hv hl⟩
      exact hl.elim
    exact h.elim
   exact h.elim
  exact h.elim
 split at h
 next v σ' ha=>
  have H:=J7 hθ (JS ha);have e:(λx=>(s.eval x).sub θ)=(s.sub θ).eval:=(bl.aq0 θ s).symm;rw[e]at H;refine nn.plain cb ho a7 hw R H ?_;have:=hk _ _ _ _ (aB _) hθ (λ_ _=>rfl) (λ_ _=>rfl) h;rw[bl.sf]at this;exact this
 split at h
 next ro pat v σ' fr' hr=>
  split at h
  next d=>
   rw[ab]at d;obtain⟨b,B,f1,I,hl⟩:=h;have H:=ar4 (T:=T) (Φ:=Φ) B d.1 hθ hr I;have m:s.sub b=s.sub θ:=bl.k6 B d.1;have mH:s.st.sub b=(s.sub θ).st:=by rw[<-m];rfl
   rw[m,mH]at H;refine nn.plain cb ho a7 hw R H ?_;have:=hk _ _ _ _ (aZ d.2) f1 B (λ_ _=>rfl) hl;rw[bl.sf,m]at this;exact this
  exact h.elim
 split at h
 next ro s' mH=>
  split at h
  next d=>
   obtain⟨b,B,f1,I,hl⟩:=h;obtain⟨σ2,H,hs'⟩:=cb2 (T:=T) (Φ:=Φ) B d mH I;have m:s.sub b=s.sub θ:=bl.k6 B d;have hst2:s.st.sub b=(s.sub θ).st:=by rw[<-m];rfl
   rw[m,hst2]at H;refine nn.plain cb ho a7 hw R (H _) ?_;have:=hk _ _ _ _ (jQ _) f1 B (λ_ _=>rfl) hl;have C:(s'.put o.dst (.b4 undef)).sub b=({ s.sub θ with st:=σ2 }.put o.dst (.b4 undef)):=by have e4:=bl.sf b s' s'.st o.dst (.b4 undef);rw[pN]at e4;have e5:({ s'.sub b with st:=s'.st.sub b }:bl)=s'.sub b:=rfl;rw[e5,hs',m]at e4;exact e4
   rw[C]at this;exact this
  exact h.elim
 exact h.elim
include cb hΦ dC in
theorem Q6(hex:A8 P T Φ Q ex){o:Oper}(ho:ops[i]?=Q1 o)(a7:i∉rest):∀(m:Nat) {s:bl} {bb:Nat} {u:vC} {θ:Nat->ar} {A:Nat->List ar->Prop} (d:Fit θ)
  (hw:pv ops (s.sub θ) o=Q1 No) (hd:oz s.n o.dst=No)
  (hk:∀s' e c v,bb<=e->Fit c->(∀j,j<bb->c j=θ j)->(∀l,l<bb->v l=A l)->mV T Φ Q (u s' e) c v->nn P ops n0 n Qs rest (bl.sub c s'))
  (h:mV T Φ Q (GI T Φ F ex ops (n0+i) o bb u m s) θ A),nn P ops n0 n Qs (i::rest) (s.sub θ)
 | 0,s,bb,u,θ,A,d,hw,hd,hk,h=>RA cb hΦ dC hex ho a7 d hw hd hk h
 |m+1,s,bb,u,θ,A,d,hw,hd,hk,h=>by
  unfold GI at h;split at h;rename_i a x b;have g:s.st.bF a=Q1 x:=by unfold az6 at b;split at b;rename_i p hp;cases b;unfold Vs at hp;split at hp;split at hp;rename_i q;cases hp;exact q;cases hp;cases hp;split at b;split at b;split at b;split at b;cases b;split at b;split at b;rename_i q;cases b;exact q;cases b;cases b;split at b;split at b;rename_i q;cases b;exact q;cases b;cases b;cases b;cases b;cases b
  split at h;rename_i r;split at h;rename_i w;obtain⟨t,z,f1,B,hl⟩:=h;simp only[iv]at B;split at B;rename_i k;have C:s.sub t=s.sub θ:=bl.k6 z r;rw[<-C];refine nn.freeze f1 g (W1 r g z k) ?_;exact Q6 hex ho a7 m f1 (Fv t w) hd (λs' e c v fa gb lb mN oL=>hk s' e c v fa gb (λj hj=>(lb j hj).trans (z j hj)) mN oL) hl;cases B;exact h.elim;exact h.elim;exact RA cb hΦ dC hex ho a7 d hw hd hk h
include cb in
theorem aF5(h:Rel G σ w){id:Nat}(hid:G.pl id=Ld)(a:id<σ.next){c:Nat}{z:Value}{d:Nat}{e:Option Nat}(g:T t=Q1 ⟨.string,c,z,d,e⟩)(i:eR G (.b4 (.string b)) u) :
  mg G σ w (σ.set id (.qO b 0)) id (.it id) ((k_ t u).run P w):=by
 cases i;simp only[k_,aA,oG cb g,aq,bd,run_newObj];let q:nt:={ block:=w.heap.size,size:=1,cap:=1 };have j:=h.push (.stringIter b 0) id hid a q rfl rfl (.qO b 0) rfl;exact mg.place (p:=q) hid (.it id q (ca.sc _ _ _)) j (Fr.push _ id hid q (λ_=>rfl) _ w.drawn)
theorem av7(h:Rel G σ w){id:Nat}{pos:Nat}(ho:σ.bF a=Q1 (.qO b pos)){ty:TypeId}(m:eR G (.it a) u) :
  (pos<b.size->mg G σ w (σ.set a (.qO b (pos+(bI b pos).2))) id (.ed [.b4 (.bool No),.b4 (.int .i64 pos),.b4 (.int .i32 (bI b pos).1)]) ((iG u No ty).run P w)) /\
  (¬pos<b.size->mg G σ w σ id (.ed [.b4 (.bool N2)]) ((iG u No ty).run P w)):=by
 cases m with
 |it _ p hp=>
 have hv:p.mX=N2:=by
  rcases h.wY ho hp with⟨_,_,_,g⟩|⟨g,_⟩
  cases g;exact g
 obtain⟨_,_,d⟩:=h.real ho hp hv;have j:w.heap[p.block]?=Q1 (.stringIter b pos):=d;have k5:(getObj p.block).run P w=.ok (.stringIter b pos) w:=by simp[getObj,Sem.run,j]
 have e:∀o,(setObj p.block o).run P w=.ok () (oR w p.block o):=λo=>WO j (by intro _ _ _ h;cases h);constructor;intro c;refine⟨G,.tuple #[.bool No,.int .i64 pos,.int .i32 (bI b pos).1],oR w p.block (.stringIter b (pos+(bI b pos).2)),.refl G,λ_ _ h=>h,?_,?_,?_,?_⟩;simp only[iG,aA,k5,aq,c,me,e];rfl;exact .ed _ _ rfl (λi a7 l=>by
  match i,a7 with
  | 0,_=>exact .b4 _
  | 1,_=>exact .b4 _
  | 2,_=>exact .b4 _)
 exact h.write ho hp hv _ _ rfl rfl rfl (zG _ _ _) (λk hk=>zz _ _ _ _ hk) (Fs _ _ _ _ j) rfl;exact Fr.write ho hp hv _ (zG _ _ _) (λk hk=>zz _ _ _ _ hk);intro c;refine⟨G,.tuple #[.bool N2],w,.refl G,λ_ _ h=>h,?_,.ed _ _ rfl (λi a7 l=>?_),h,.refl _ _ _⟩;simp only[iG,aA,k5,aq,c,l4,bd];have:i=0:=by simp at a7;omega
 subst this;exact .b4 _
theorem nn.step{o:Oper}{Q:bl->Prop}{σ':bg}(ho:ops[i]?=Q1 o)(a7:i∉rest)(hw:pv ops s o=Q1 No)(hd:oz s.n o.dst=No)(r:σ'.next=s.st.next)
  (ha:∀(G:ca) (w:World) (ev:Operand->Value),Rel G s.st w->(∀x,eR G (s.eval x) (ev x))->G.pl (n0+i)=Ld->n0+i<s.st.next->nZ G s.st w σ' (n0+i) v ((execOp ev o).run P w)) (h:nn P ops n0 n Q rest ({ s with st:=σ' }.put o.dst v)):nn P ops n0 n Q (i::rest) s:=by
 intro G a w d hf N g;have t:=(aP.1 ho).1;simp only[wpOps,ho,zK d hw];left;obtain⟨G',u,w',h1,h2,c,z,B,l⟩:=ha G w a.eval d.rel d.eval (hf i (by simp)).2 (by omega);have m:∀j∈rest,n0+j≠n0+i:=λj hj e=>a7 (by have C:=Nat.add_left_cancel e;rw[<-C];exact hj);have key:=h G' (a.put o.dst u) w' (d.put h1 B z hd) (λj hj=>⟨(hf j (by simp[hj])).1,h2 _ (m j hj) (hf j (by simp[hj])).2⟩) (by simp;omega) g;have D:ou n G s.st w G' σ' w':=⟨h1.mu,h1.lo,λk hk=>by
  cases hp:G.pl k with
  |none=>exact h2 k (by omega) hp
  |some p=>exact h1.pl k p hp,by omega,l⟩
 have b:=sh (P:=P) (ops:=ops) (Q':=λe q w'=>e=.normal/\∃s' G',ou n G s.st w G' s'.st w'/\lZ G' s' q w'/\Q s') (λe q w' ⟨E,s',H,I,J,K⟩ =>
  ⟨E,s',H,D.trans (by simpa using I) (aB _),J,K⟩) rest _ _ key
 unfold fX;rcases c with c|⟨c,M⟩
 rw[c];exact b;rw[c];subst M;exact b
include cb hΦ dC in
theorem Lp(hex:A8 P T Φ Q ex){o:Oper}(ho:ops[i]?=Q1 o)(a7:i∉rest){A:Nat->List ar->Prop}(M:Fit θ)
  (hw:pv ops (s.sub θ) o=Q1 No) (hd:oz s.n o.dst=No)
  (hk:∀s' N m A',bb<=N->Fit m->(∀j,j<bb->m j=θ j)->(∀l,l<bb->A' l=A l)->mV T Φ Q (kk s' N) m A'->nn P ops n0 n Qs rest (bl.sub m s'))
  (h:mV T Φ Q (D5 T Φ F ex ops (n0+i) o bb kk s) θ A):nn P ops n0 n Qs (i::rest) (s.sub θ):=by
 have H:oz (s.sub θ).n o.dst=No:=hd;unfold D5 at h;split at h
 next t x q=>
  split at h
  next sz z bt fl ht=>
   split at h
   next j hj=>
    split at h
    next d=>
     obtain⟨c,r,f1,e,hl⟩:=h;have u:s.sub c=s.sub θ:=bl.k6 r d;simp only[iv]at e;split at e
     next b I=>
      rw[mK]at I;have O:j<bb:=by have:=s.sm d x;rw[hj]at this;simpa[ar.ff,bP]using this
      have mH:s.st.sub c=(s.sub θ).st:=by rw[<-u];rfl
      refine nn.step (σ':=(s.sub θ).st.set (n0+i) (.qO b 0)) (v:=.it (n0+i)) ho a7 hw H rfl (λG w ev R g J K=>?_) ?_
      .have D:=g x
       rw[bl.sub_eval,hj,mK,I]at D;simp only[execOp,q];exact nZ.of (aF5 cb R J K ht D)
      have:=hk _ _ _ _ (aB _) f1 r (λ_ _=>rfl) hl;rw[bl.sf,u,bg.pQ,mH]at this;have e2:(c7.qh (.ey j) (.b4 (.int .i64 0))).sub c=.qO b 0:=by simp only[c7.sub,mK,pN,r j O,I,strOf,nm];rfl
      rw[e2]at this;exact this
     cases e
    exact h.elim
   exact h.elim
  exact Q6 cb hΦ dC hex ho a7 3 M hw hd hk h
 next it q=>
  split at h
  next a ha=>
   split at h
   next st p E=>
    split at h
    next d=>
     obtain⟨c,r,f1,e,hl⟩:=h;have u:s.sub c=s.sub θ:=bl.k6 r d;have B:=s.uw d E;simp only[c7.ff,ab]at B;simp only[iv]at e;split at e
     next b I=>
      split at e
      next n hn=>
       simp only[ah,mK]at e;have k:(s.sub θ).st.bF a=Q1 (.qO b n.toNat):=by rw[bl.ua,bg.mT,E];simp only[ai,c7.sub,I,hn,strOf,nm]
       rcases hl with⟨t1,hl⟩|⟨t1,hl⟩
       .
        rw[<-e]at t1;simp only[ar.b4.injEq,iW,kA]at t1;obtain⟨C,a2,f2,e2,hl⟩:=hl;have hb1:st.sub c=.b4 (.string b):=by rw[k6 r st B.1,I]
        have hn1:p.sub c=.b4 (.int .i64 n):=by rw[k6 r p B.2,hn]
        simp only[iv,hb1,hn1,hT t1,ah,Kb,au,dj,mK,ar.ed.injEq,cN,and_true]at e2;obtain⟨fa,gb,lb⟩:=e2;have a12:∀j,j<bb->C j=θ j:=λj hj=>(a2 j (by omega)).trans (r j hj);have S:s.sub C=s.sub θ:=bl.k6 a12 d;have mH:s.st.sub C=(s.sub θ).st:=by rw[<-S];rfl
        refine nn.step (σ':=(s.sub θ).st.set a (.qO b (n.toNat+(bI b n.toNat).2))) (v:=.ed [.b4 (.bool No),.b4 (.int .i64 n.toNat),.b4 (.int .i32 (bI b n.toNat).1)]) ho a7 hw H rfl (λG w ev R g J K=>?_) ?_
        .have D:=g it
         rw[bl.sub_eval,ha,Lg]at D;simp only[execOp,q];exact nZ.of ((av7 R k D).1 t1)
        have:=hk _ _ _ _ (show bb<=bb+4 by omega) f2 a12 (λ_ _=>rfl) hl;rw[bl.sf,S,bg.pQ,mH]at this;have e3:(c7.qh st (.ey (bb+3))).sub C=.qO b (n.toNat+(bI b n.toNat).2):=by simp only[c7.sub,mK,k6 a12 st B.1,I,strOf,<-lb,nm];rfl
        rw[e3]at this;simp only[Kb,au,dj,pN,mK,<-fa,<-gb]at this;exact this
       
       rw[<-e]at t1;simp only[ar.b4.injEq,iW,sG]at t1;refine nn.step (σ':=(s.sub θ).st) (v:=.ed [.b4 (.bool N2)]) ho a7 hw H rfl (λG w ev R g J K=>?_) ?_
       .have D:=g it
        rw[bl.sub_eval,ha,Lg]at D;simp only[execOp,q];exact nZ.of ((av7 R k D).2 t1)
       have:=hk _ _ _ _ (show bb<=bb+1 by omega) f1 r (λ_ _=>rfl) hl;have e3:=bl.sf c s s.st o.dst (.ed [.b4 (.bool N2)]);have e4:({ s with st:=s.st }:bl)=s:=rfl;rw[e4]at e3;rw[e3]at this;have e5:({ s.sub c with st:=s.st.sub c }:bl)=s.sub c:=rfl;rw[e5,u]at this;rw[Kb,au,dj,pN]at this;exact this
      cases e
     cases e
    exact h.elim
   exact h.elim
  exact h.elim
 exact Q6 cb hΦ dC hex ho a7 3 M hw hd hk h
include cb hΦ dC in
theorem P2{ex:tF}(hex:A8 P T Φ Q ex){ops:Array Oper}{n0 n:Nat}:∀(l:List Oper) (i:Nat) (s:bl) (bb:Nat) (k:vC) (θ:Nat->ar) (A:Nat->List ar->Prop),(∀j:Nat,l[j]?=ops[i+j]?)->i+l.length=ops.size->Fit θ ->
  mV T Φ Q (xa T Φ F ex ops n0 l i s bb k) θ A->nn P ops n0 n (Hk T Φ Q bb θ A k) (dX i l.length) (s.sub θ)
 | [],i,s,bb,k,θ,A,_,_,c,h=>nn.nil ⟨θ,s,bb,A,aB _,c,λ_ _=>rfl,λ_ _=>rfl,rfl,h⟩
 |o::rest,i,s,bb,k,θ,A,hl,hlen,c,h=>by
  have ho:ops[i]?=Q1 o:=by have:=hl 0;simpa using this.symm
  have E:∀j:Nat,rest[j]?=ops[i+1+j]?:=λj=>by have:=hl (j+1);simpa[eY,iU 1 j]using this
  have v:i+1+rest.length=ops.size:=by simp at hlen;omega
  have t:i∉dX (i+1) rest.length:=by simp[List.mem_range'_1];omega
  simp only[aC,List.range'_succ];have D:=λs' g m H (I:bb<=g) (J:Fit m) (ha:∀j,j<bb->m j=θ j) (hA:∀l,l<bb->H l=A l) (r:mV T Φ Q (xa T Φ F ex ops n0 rest (i+1) s' g k) m H)=>
   (show nn P ops n0 n (Hk T Φ Q bb θ A k) (dX (i+1) rest.length) (bl.sub m s')from by
    have h1:=P2 (n:=n) hex rest (i+1) s' g k m H E v J r;intro G a w g1 g2 g3 g4;refine sh ?_ _ _ _ (h1 G a w g1 g2 g3 g4);rintro e a' w' ⟨e1,s2,G2,b1,b2,K,S2,M,A2,fa,gb,lb,mN,oL,mn⟩;exact⟨e1,s2,G2,b1,b2,K,S2,M,A2,bz I fa,gb,λj hj=>(lb j (by omega)).trans (ha j hj),λl hl=>(mN l (by omega)).trans (hA l hl),oL,mn⟩)
  unfold xa at h;split at h;exact h.elim;rename_i hd;split at h;rename_i hw;exact Lp cb hΦ dC hex ho t c (Fv θ hw) hd D h;rename_i hw;refine nn.skip ho (Fv θ hw) hd ?_;have:=D _ _ _ _ (aB _) c (λ_ _=>rfl) (λ_ _=>rfl) h;have B:=bl.sf θ s s.st o.dst (.b4 undef);have N:({ s with st:=s.st }:bl)=s:=rfl;have O:({ s.sub θ with st:=s.st.sub θ }:bl)=s.sub θ:=rfl;rw[N,O,pN]at B;rw[B]at this;exact this;rename_i hw;split at h;rename_i j want q;have x:∀b,θ j=.b4 (.bool b)->pv ops (s.sub θ) o=Q1 (b==want):=λb u=>by unfold JJ at q;unfold pv;split at q;cases q;rename_i j' w' R;rw[R];simp only;split at q;rename_i d S;rw[S];simp only;split at q;rename_i C;rw[bP]at C;rw[bl.P',cr C,bl.tB];split at q;rename_i i' hi';cases q;rw[hi',mK,u];cases q;cases q;cases q
  have both:∀b:Bool,θ j=.b4 (.bool b)->mV T Φ Q (match b==want with
    |true=>D5 T Φ F ex ops (n0+i) o bb (λs' g=>xa T Φ F ex ops n0 rest (i+1) s' g k) (s.mU (qp j b))
    |false=>xa T Φ F ex ops n0 rest (i+1) ((s.mU (qp j b)).put o.dst (.b4 undef)) bb k) θ A->nn P ops n0 n (Hk T Φ Q bb θ A k) (i::dX (i+1) rest.length) (s.sub θ):=λb u r=>by
   have hin:=FY (θ:=θ) (j:=j) (b:=b) u s;have p:=x b u;rw[<-hin]at p⊢;split at r;rename_i z;rw[z]at p;exact Lp cb hΦ dC hex ho t c p hd D r;rename_i z;rw[z]at p;refine nn.skip ho p hd ?_;have:=D _ _ _ _ (aB _) c (λ_ _=>rfl) (λ_ _=>rfl) r;have B:=bl.sf θ (s.mU (qp j b)) (s.mU (qp j b)).st o.dst (.b4 undef);have N:({ s.mU (qp j b)with st:=(s.mU (qp j b)).st }:bl)=s.mU (qp j b):=rfl;have O:({ (s.mU (qp j b)).sub θ with st:=(s.mU (qp j b)).st.sub θ }:bl)=(s.mU (qp j b)).sub θ:=rfl;rw[N,O,pN]at B;rw[B]at this;exact this
  rcases h with⟨u,r⟩|⟨u,r⟩
  exact both No u r;exact both N2 u r;exact h.elim
theorem j5.Va(h:j5 P n c (λe s1=>(∃ι s2,Ren ι n s2 s1/\Q' e s2)\/Q' e s1) s):j5 P n c Q' s:=by intro i G a w j;refine wp_mono (h i G a w j) ?_;rintro e m w' ⟨s1,k,d,g,⟨ι,s2,l,b⟩|b⟩;obtain⟨h1,h2⟩:=l.rel g;exact⟨s2,_,d.trans h2 (aB _),h1,b⟩;exact⟨s1,k,d,g,b⟩
theorem Wm(θ:Nat->ar)(σ:bg):∀(is:List Nat) (t:bg),(z6 σ is t).sub θ=z6 (σ.sub θ) is (t.sub θ)
 | [],t=>rfl
 |i::is,t=>by
  simp only[z6];rw[Wm θ σ is,bg.mT];cases σ.bF i with
  |none=>rfl
  |some o=>simp only[ai];rw[bg.pQ]
theorem ao5(θ:Nat->ar)(σ:bg)(ids:List Nat):(small σ ids).sub θ=small (σ.sub θ) ids:=Wm θ σ ids _
theorem Fz(θ:Nat->ar)(σ1:bg):∀(is:List Nat) (σ:bg),(sO σ1 is σ).sub θ=sO (σ1.sub θ) is (σ.sub θ)
 | [],σ=>rfl
 |i::is,σ=>by
  simp only[sO];rw[Fz θ σ1 is,bg.mT];cases σ1.bF i with
  |none=>simp only[dU];rw[bg.D_]
  |some o=>simp only[ai];rw[bg.pQ]
theorem aJ2(θ:Nat->ar)(σ:bg)(ids:List Nat):saved (σ.sub θ) ids=(saved σ ids).map λp=>(p.1,p.2.sub θ):=by unfold saved;rw[List.map_filterMap];congr 1;funext id;rw[bg.mT];cases σ.bF id<;>rfl
theorem X6(θ:Nat->ar):∀(l:List (Nat×c7)) (σ:bg),(sr l σ).sub θ=sr (l.map λp=>(p.1,p.2.sub θ)) (σ.sub θ)
 | [],σ=>rfl
 |p::l,σ=>by simp only[sr,au];rw[X6 θ l,bg.D_]
theorem W6(θ:Nat->ar):∀(l:List (Nat×c7)) (σ:bg),(uE l σ).sub θ=uE (l.map λp=>(p.1,p.2.sub θ)) (σ.sub θ)
 | [],σ=>rfl
 |p::l,σ=>by simp only[uE,au];rw[W6 θ l,bg.pQ]
theorem bP3(θ:Nat->ar)(σ:bg)(ids:List Nat):(F' σ ids).sub θ=F' (σ.sub θ) ids:=by unfold F';rw[aJ2];have a:=W6 θ (saved σ ids) { sr (saved σ ids) σ with low:=σ.next };have b:=X6 θ (saved σ ids) σ;have c:bg.sub θ { sr (saved σ ids) σ with low:=σ.next }={ bg.sub θ (sr (saved σ ids) σ)with low:=σ.next }:=rfl;have d:∀(x:bg) (l:Nat),bg.sub θ { x with low:=l }={ bg.sub θ x with low:=l }:=λ_ _=>rfl;rw[d,a,c,b];rfl
theorem av0(a:Fit θ)(v:ar):(v.sub θ).v7=v.v7:=by
 cases v with
 |ey i=>simpa[ar.v7]using(a i).v7
 |_=>simp[ar.v7]
theorem au9(a:Fit θ)(s:bl)(op:Op):oe (s.sub θ).eval op=oe s.eval op:=by
 cases op with
 |call c =>obtain⟨callee,args,ts⟩:=c;cases callee<;>simp[oe,bl.sub_eval,av0 a]
 |_=>simp[oe,bl.sub_eval,av0 a]
def vc(Φ:lv)(f:FuncId)(args:List ar)(σ:bg):Option (ar×bg):=match Φ.fn f with
 |some φ=>match φ args with
  |some c=>Q1 (c,σ)
  |none=>Ld
 |none=>Ld
theorem aw2{mask:Nat}{pW:Bool}{o:Oper}(M:pW=No->Af o.op=No){O:Me}{A:Nat->List ar->Prop}(r:Fit θ)(hw:pv ops (s.sub θ) o=Q1 No)(hd:oz s.n o.dst=No)
  (h:mV T Φ Q (GP T Φ F n0 N mask i pW o s bb O) θ A):∃a R d f,bb<=d/\Fit a/\(∀j,j<bb->a j=θ j)/\v_ T (vc Φ) ops n0 N mask i pW (s.sub θ) o=Q1 (bl.sub a R,f)/\mV T Φ Q (O R d f) a A:=by
 have z:oz (s.sub θ).n o.dst=No:=hd;unfold GP at h;split at h;rename_i fo args ts B;split at h;rename_i f first cap H
 have u:(s.sub θ).eval fo=.fn (.func f) (first.map (ar.sub θ)) (cap.map (ar.sub θ)):=by rw[bl.sub_eval,H,QP]
 have g:first.map (ar.sub θ)++args.toList.map (s.sub θ).eval++cap.map (ar.sub θ)=(first++args.toList.map s.eval++cap).map (ar.sub θ):=by simp only[ez,bZ];congr 2;apply bY;intro x _;exact bl.sub_eval θ s x
 unfold Tf at h;split at h;rename_i fn φ hfn C;split at h;rename_i pat d S;split at h;rename_i k;simp only[ab]at k;obtain⟨⟨c1,c2⟩,c3⟩:=k;obtain⟨a,w,f1,q,hl⟩:=h;simp only[iv,(lv.yE C).2]at q;split at q;rename_i c hc;split at q;simp only[ah]at q;have t:=bl.k6 w c1;have D:=bg.k6 w c1;have E:∀σ,vc Φ f ((first++args.toList.map s.eval++cap).map (ar.sub θ)) σ=Q1 (c,σ):=λσ=>by simp only[vc,C,hc]
 cases pW;refine⟨a,_,d,_,aZ c2,f1,w,?_,hl⟩;unfold v_;rw[hw,z];simp only[B,u,aG,l4];rw[g,E];show(if _ then Q1 ({ s.sub θ with st:=F' (s.sub θ).st (q0 n0 N mask) }.put o.dst c,(⟨[],[],No,(s.sub θ).st.next,N2⟩:ri))else Ld)=_;rw[cr ⟨aB _,by rw[show ∀(x:bg) (l:Nat),({ x with low:=l }:bg).next=x.next from λ_ _=>rfl,Ng];exact aB _⟩];rw[bl.sf,<-q,bP3,D,t];rfl;refine⟨a,s.put o.dst pat,d,_,aZ c2,f1,w,?_,hl⟩;unfold v_;rw[hw,z];simp only[B,u];rw[g,E];simp only[aB,me];have e3:=bl.sf a s s.st o.dst pat;have e4:({ s with st:=s.st }:bl)=s:=rfl;have e5:({ s.sub a with st:=s.st.sub a }:bl)=s.sub a:=rfl;rw[e4,e5,t,<-q]at e3;rw[e3];cases q;cases q;exact h.elim;exact h.elim;exact h.elim;exact h.elim;have m:∀(b:Nat->ar) (v:ar) (σ1:bg),fb T (s.sub b).eval (small (s.st.sub b) (oe (s.sub b).eval o.op)) (n0+i) o.op=Q1 (v,σ1)->s.sub b=s.sub θ ->
   v_ T (vc Φ) ops n0 N mask i pW (s.sub θ) o=Q1 ({ s.sub b with st:=(match σ1.bF (n0+i)with
    |some x=>(if qq o.op then sO σ1 (oe (s.sub b).eval o.op) (s.st.sub b)else(s.st.sub b)).set (n0+i) x
    |none=>(if qq o.op then sO σ1 (oe (s.sub b).eval o.op) (s.st.sub b)else(s.st.sub b))) }.put o.dst v,⟨oe (s.sub b).eval o.op,if qq o.op then oe (s.sub b).eval o.op else [],N2,0,N2⟩):=λb v σ1 ha hs=>by
  have mH:s.st.sub b=(s.sub θ).st:=by rw[<-hs];rfl
  rw[mH,hs]at ha⊢;unfold v_;rw[hw,z];simp only;rw[ha];rfl
 split at h;rename_i v σ1 ha;have G:=J7 r (JS ha);have e:=(bl.aq0 θ s).symm;rw[e,ao5]at G;have p:=au9 r s o.op;refine⟨θ,_,bb,_,aB _,r,λ_ _=>rfl,?_,h⟩;have:=m θ (v.sub θ) (σ1.sub θ) (by rw[p];exact G) rfl;rw[this,p,bl.sf];rw[bg.mT];cases σ1.bF (n0+i)with
 |none =>simp only[dU];split;rw[Fz];rfl
 |some x =>simp only[ai];rw[bg.pQ];split;rw[Fz];rfl
 split at h;rename_i ro pat v σ1 d hr;split at h;rename_i k;simp only[ab]at k;obtain⟨⟨I,J⟩,K⟩:=k;obtain⟨a,w,f1,q,hl⟩:=h;have t:=bl.k6 w I;have cu:=ar4 (T:=T) (Φ:=Φ) (s:={ s with st:=small s.st (oe s.eval o.op) }) w J r hr q;have e0:(({ s with st:=small s.st (oe s.eval o.op) }:bl).sub a).eval=(s.sub a).eval:=by funext x;cases x<;>rfl
 have p:=au9 f1 s o.op;rw[e0,ao5]at cu;have:=m a (v.sub a) (σ1.sub a) (by rw[p];exact cu) t;refine⟨a,_,d,_,aZ K,f1,w,?_,hl⟩;rw[this,p,bl.sf];rw[bg.mT];cases σ1.bF (n0+i)with
 |none =>simp only[dU];split;rw[Fz];rfl
 |some x =>simp only[ai];rw[bg.pQ];split;rw[Fz];rfl
 exact h.elim;exact h.elim
theorem O4{a:List Nat}:∀(l:List Oper) (i:Nat) (s:bl) (bb:Nat) (acc:List ri) (k:bl->Nat->List ri->nf) (θ:Nat->ar) (A:Nat->List ar->Prop),Fit θ ->
  mV T Φ Q (wW T Φ F ops n0 N a l i s bb acc k) θ A->∃c u e fs,bb<=e/\Fit c/\(∀j,j<bb->c j=θ j)/\zp T (vc Φ) ops n0 N a l i (s.sub θ)=Q1 (bl.sub c u,fs)/\mV T Φ Q (k u e (acc++fs)) c A
 | [],i,s,bb,acc,k,θ,A,q,h=>⟨θ,s,bb,[],aB _,q,λ_ _=>rfl,rfl,by rw[bD];exact h⟩
 |o::rest,i,s,bb,acc,k,θ,A,q,h=>by
  have fin:∀(s1:bl) (g:Nat->ar) (m:Nat) (f:ri),bb<=m->Fit g->(∀j,j<bb->g j=θ j)->v_ T (vc Φ) ops n0 N (a.getD i 0) i (Af o.op&&Ei ops a i) (s.sub θ) o=Q1 (bl.sub g s1,f) ->
    mV T Φ Q (wW T Φ F ops n0 N a rest (i+1) s1 m (acc++[f]) k) g A->∃c u e fs,bb<=e/\Fit c/\(∀j,j<bb->c j=θ j)/\zp T (vc Φ) ops n0 N a (o::rest) i (s.sub θ)=Q1 (bl.sub c u,fs)/\mV T Φ Q (k u e (acc++fs)) c A:=by
   intro s1 g m f C D E mH hl;obtain⟨G,S,H,fs,g1,g2,g3,g4,g5⟩:=O4 rest (i+1) s1 m (acc++[f]) k g A D hl;refine⟨G,S,H,f::fs,bz C g1,g2,λj hj=>(g3 j (by omega)).trans (E j hj),?_,by simpa using g5⟩;simp only[zp,mH,g4]
  have skip:∀s0:bl,s0.sub θ=s.sub θ->s0.n=s.n->pv ops (s.sub θ) o=Q1 N2->oz s.n o.dst=No->v_ T (vc Φ) ops n0 N (a.getD i 0) i (Af o.op&&Ei ops a i) (s.sub θ) o=Q1 (bl.sub θ (s0.put o.dst (.b4 undef)),⟨[],[],N2,0,N2⟩):=λs0 cu _ hw hd=>by have I:oz (s.sub θ).n o.dst=No:=hd;unfold v_;rw[hw,I];have R:=bl.sf θ s0 s0.st o.dst (.b4 undef);have e4:({ s0 with st:=s0.st }:bl)=s0:=rfl;have e5:({ s0.sub θ with st:=s0.st.sub θ }:bl)=s0.sub θ:=rfl;rw[e4,e5,pN,cu]at R;rw[R]
  unfold wW at h;split at h;exact h.elim;rename_i hd;split at h;rename_i hw;obtain⟨g,J,m,f,g1,g2,g3,g4,g5⟩:=aw2 (T:=T) (Φ:=Φ) (F:=F) (ops:=ops) (λp=>by rw[ab]at p;exact p.1) q (Fv θ hw) hd h;exact fin J g m f g1 g2 g3 g4 g5
  next hw=>
   exact fin _ θ bb _ (aB _) q (λ_ _=>rfl) (skip s rfl rfl (Fv θ hw) hd) h
  rename_i hw;split at h
  next j want t=>
   have v:∀b,θ j=.b4 (.bool b)->pv ops (s.sub θ) o=Q1 (b==want):=λb p=>by unfold JJ at t;unfold pv;split at t;cases t;rename_i j' w' K;rw[K];simp only;split at t;rename_i d M;rw[M];simp only;split at t;rename_i B;rw[bP]at B;rw[bl.P',cr B,bl.tB];split at t;rename_i i' O;cases t;rw[O,mK,p];cases t;cases t;cases t
   have both:∀b:Bool,θ j=.b4 (.bool b)->mV T Φ Q (match b==want with
     |true=>GP T Φ F n0 N (a.getD i 0) i (Af o.op&&Ei ops a i) o (s.mU (qp j b)) bb λs' e f=>wW T Φ F ops n0 N a rest (i+1) s' e (acc++[f]) k
     |false=>wW T Φ F ops n0 N a rest (i+1) ((s.mU (qp j b)).put o.dst (.b4 undef)) bb (acc++[⟨[],[],N2,0,N2⟩]) k) θ A->∃c u e fs,bb<=e/\Fit c/\(∀j,j<bb->c j=θ j)/\zp T (vc Φ) ops n0 N a (o::rest) i (s.sub θ)=Q1 (bl.sub c u,fs)/\mV T Φ Q (k u e (acc++fs)) c A:=λb p w=>by
    have x:=FY (θ:=θ) (j:=j) (b:=b) p s;have r:=v b p;split at w;rename_i z;rw[z]at r;rw[<-x]at r;obtain⟨g,J,m,f,g1,g2,g3,g4,g5⟩:=aw2 (T:=T) (Φ:=Φ) (F:=F) (ops:=ops) (λp=>by rw[ab]at p;exact p.1) q r hd w;rw[x]at g4;exact fin J g m f g1 g2 g3 g4 g5;rename_i z;rw[z]at r;exact fin _ θ bb _ (aB _) q (λ_ _=>rfl) (skip _ x rfl r hd) w
   rcases h with⟨p,w⟩|⟨p,w⟩
   exact both No p w;exact both N2 p w
  exact h.elim
include hΦ in
theorem am9:∀f args σ v σ',vc Φ f args σ=Q1 (v,σ')->oO P f args σ (λd a=>d=v/\a=σ')/\qb σ σ':=by intro f args σ v σ' h;unfold vc at h;split at h;rename_i φ b;split at h;rename_i c hc;cases h;exact⟨hΦ.w4 f φ (lv.yE b).1 (lv.yE b).2 args v hc σ,.refl _⟩;cases h;cases h
variable (hm:P.follows .mixedOrders=No)
def F3(P:Program)(n:Nat)(c:Code)(Q:Exit->bl->Prop):Nat->bl->Prop
 | 0,_=>False
 |j+1,s=>j5 P n c (Cw (F3 P n c Q j) Q) s
theorem F3.wp(h:F3 P n c Q' j s):j5 P n (.loop c) Q' s:=by
 refine j5.loop (F3 P n c Q') ?_ h;intro k s1 hk;cases k;exact hk.elim;rename_i k;refine j5.mono hk ?_;intro e s2 h2;cases e with
 |normal=>exact⟨k,Nat.lt_succ_self _,h2⟩
 |_=>exact h2
theorem WT(hex:A8 P T Φ Q ex){b:Code}{k:zu}{g:Nat->ar}{q:Nat->List ar->Prop}:∀(j:Nat) (s:bl) (bb:Nat) (θ:Nat->ar) (A:Nat->List ar->Prop),a<=bb->Fit θ->(∀i,i<a->θ i=g i)->(∀l,l<a->A l=q l) ->
  mV T Φ Q (PN ex n b k j s bb) θ A->F3 P n b (GQ T Φ Q a g q k) j (s.sub θ)
 | 0,s,bb,θ,A,_,_,_,_,h=>h.elim
 |j+1,s,bb,θ,A,cu,m,h1,h2,h=>by
  refine j5.mono (hex n b s bb _ θ A m h) ?_;rintro e s' ⟨r,c,o,d,p,rfl,fa,gb,lb,mN,rfl,mn⟩;have g1:=λi a7=>(lb i (by omega)).trans (h1 i a7);have g2:=λl hl=>(mN l (by omega)).trans (h2 l hl);cases r with
  |nr=>exact WT hex j o d c p (by omega) gb g1 g2 mn
  |oA i=>exact⟨.oA i,c,o,d,p,rfl,by omega,gb,g1,g2,rfl,mn⟩
  |ret=>exact⟨.ret,c,o,d,p,rfl,by omega,gb,g1,g2,rfl,mn⟩
theorem lX{h:Hint}{k:bl->nf}{B:zu}{A:Nat->List ar->Prop}(hk:∀s θ,Fit θ->mV T Φ Q (k s) θ A->j5 P n c (GQ T Φ Q bb θ A B) (bl.sub θ s)):∀(m:Nat) (s:bl) (θ:Nat->ar),Fit θ ->
  mV T Φ Q (KC h bb k m s) θ A->j5 P n c (GQ T Φ Q bb θ A B) (bl.sub θ s)
 | 0,s,θ,d,hl=>hk s θ d hl
 |m+1,s,θ,d,hl=>by
  unfold KC at hl;split at hl;rename_i a x o;have b:s.st.bF a=Q1 x:=by
   have:∀(l:List ar) (t:Nat),Dw s l t=Q1 (a,x)->s.st.bF a=Q1 x:=by
    intro l
    induction l with
    |nil=>intro t h;simp[Dw]at h
    |cons v l C =>intro t h;unfold Dw at h;split at h;split at h;rename_i D;cases h;exact D;exact C _ h;exact C _ h
   exact this _ _ o
  split at hl;rename_i j;obtain⟨p,q,f1,r,hl⟩:=hl;simp only[iv]at r;split at r;rename_i g;have u:=bl.k6 q j;rw[<-u];refine j5.freeze f1 b (W1 j b q g) (j5.mono (lX hk m _ p f1 hl) λe s' hp=>?_);obtain⟨E,w,G,z,H,fa,gb,lb,mN,oL,mn,wb⟩:=hp;exact⟨E,w,G,z,H,fa,gb,lb,λi a7=>(mN i a7).trans (q i a7),oL,mn,wb⟩;cases r;exact hl.elim;exact hk s θ d hl
theorem aq5{ng:List Nat}(a:Fit θ)(h:LK T ops U ng s=No):∀u∈U,ng.any (λj=>hasB ops j u)=N2->Hg T ops (s.sub θ) u:=by intro u hu b;have:=aj.1 h u hu;rw[b,Bool.false_or]at this;split at this;rename_i o ho;split at this;rename_i t v σ' h1 h2;rw[ab]at this;have e:=funext λx=>bl.sub_eval θ s x;exact⟨o,v.sub θ,t,0,σ'.sub θ,ho,h1,this.1,by rw[e];exact J7 a (JS h2),by rw[bl.tB,GA _ _ _ this.2]⟩;cases this;cases this
theorem af7(a:Fit θ):∀ {us:List Nat} {s s':bl},KX T ops us s=Q1 s'->Looks T ops us (s.sub θ) (s'.sub θ)
 | [],s,s',h=>by cases h;exact .nil _
 |u::us,s,s',h=>by unfold KX at h;split at h;rename_i o ho;split at h;rename_i v σ' h1 h2;rw[ab]at h1;have e:=funext λx=>bl.sub_eval θ s x;have b:=bl.sf θ s s.st o.dst v;have c:({ s with st:=s.st }:bl)=s:=rfl;have d:({ s.sub θ with st:=s.st.sub θ }:bl)=s.sub θ:=rfl;rw[c,d]at b;have:=af7 a h;rw[b]at this;exact .cons ho h1.1 h1.2 (by rw[e];exact J7 a (JS h2)) this;cases h;cases h
include cb hΦ dC in
theorem Rg(hex:A8 P T Φ Q ex){R:List Nat}(c:LM ops U R):∀(r ng:List Nat) (s:bl) (bb:Nat) (k:vC) (θ:Nat->ar) (A:Nat->List ar->Prop),Fit θ ->
  mV T Φ Q (GJ T Φ F ex ops U ng r s bb k) θ A->vy P T ops U (Hk T Φ Q bb θ A k) ng r (s.sub θ)
 | [],ng,s,bb,k,θ,A,a,h=>by unfold GJ at h;split at h;rename_i mH;exact⟨aq5 a mH,θ,s,bb,A,aB _,a,λ_ _=>rfl,λ_ _=>rfl,rfl,h⟩;exact h.elim
 |i::r,ng,s,bb,k,θ,A,a,h=>by unfold GJ at h;split at h;rename_i o ho;split at h;rename_i mH;rw[ab]at mH;refine⟨aq5 a mH.1,Hy.bq7 ho (c.I3 i o ho) (λcs b=>c.PW i o cs b ho) ?_⟩;refine Lp (n:=s.st.next) (n0:=s.st.next) (rest:=[]) (s:={ s with st:={ s.st with next:=s.st.next+ops.size } }) cb hΦ dC hex ho (by simp) a (by unfold pv;rw[c.I3 i o ho]) mH.2 (λs' d e p g1 g2 g3 g4 g5=>nn.nil ?_) h;have h1:=Rg hex c r (ng++[i]) s' d k e p g2 g5;refine vy.mono (λs2 ⟨g,q,m,t,fa,gb,lb,mN,oL,mn⟩=>⟨g,q,m,t,bz g1 fa,gb,λj hj=>(lb j (by omega)).trans (g3 j hj),λl hl=>(mN l (by omega)).trans (g4 l hl),oL,mn⟩) _ _ _ h1;exact h.elim;exact h.elim
include cb hΦ dC hm in
theorem JR{H:Nat->Option Hint}:∀m,A8 P T Φ Q (exec T Φ F H m)
 | 0=>λn c s bb k θ A _ h=>by simp[exec,mV]at h
 |m+1=>by
  intro n c s bb k θ A o h;have J:=JR (H:=H) m;have self:∀e,mV T Φ Q (k e s bb) θ A->GQ T Φ Q bb θ A k (qQ.qP e) (s.sub θ):=λe hh=>⟨e,θ,s,bb,A,rfl,aB _,o,λ_ _=>rfl,λ_ _=>rfl,rfl,hh⟩;unfold exec at h;split at h;exact j5.y4 (nw.skip (self .nr h));exact j5.y4 (nw.label (self .nr h));rename_i id ops;refine j5.region ?_;have:=P2 cb hΦ dC J (n0:=s.st.next) (n:=n) ops.toList 0 _ bb _ θ A (λj=>by simp) (by simp) o h;simp only[Array.length_toList]at this;rw[List.range_eq_range'];intro G a w g1 g2 g3 g4;refine sh ?_ _ _ _ (this G a w g1 g2 g3 g4);rintro e a' w' ⟨e1,s2,G2,b1,b2,g,K,p,E,q⟩;exact⟨e1,s2,G2,b1,b2,.nr,g,K,p,E,rfl,q⟩;rename_i id ops;split at h;rename_i mH;rw[ab]at mH;split at h;rename_i B hlk;have hS:=bX2 mH.2;refine j5.bL4 cb hS hm (af7 o hlk) ?_;refine vy.mono (λs2 ⟨g,K,p,E,fa,gb,lb,mN,oL,mn⟩=>⟨.nr,g,K,p,E,rfl,fa,gb,lb,mN,oL,mn⟩) _ _ _ (Rg cb hΦ dC J hS _ _ _ _ _ _ _ o h);exact h.elim;split at h;rename_i l0 t hbar;obtain⟨hops0,hlw⟩:=X5 hbar;have hops:ops=⟨l0++t⟩:=by apply Array.ext';rw[<-hops0];simp
  split at h;rename_i mH;obtain⟨z,B,fr',fs,g1,g2,g3,g4,g5⟩:=O4 (T:=T) (Φ:=Φ) (F:=F) (ops:=(⟨l0⟩:Array Oper)) l0 0 _ bb [] _ θ A o h;simp only[cG]at g5;split at g5;rename_i wV;subst hops;refine j5.bg9 cb hm (cl:=vc Φ) (am9 hΦ) hlw (s':=bl.sub z B) ?_ ?_;unfold BQ;rw[cr mH];have e:({ s.sub θ with st:={ (s.sub θ).st with next:=(s.sub θ).st.next+(⟨l0⟩:Array Oper).size } }:bl)=bl.sub θ { s with st:={ s.st with next:=s.st.next+l0.length } }:=rfl;rw[e];have e2:(s.sub θ).st.next=s.st.next:=rfl;rw[e2];have e3:(⟨l0⟩:Array Oper).size=l0.length:=rfl;rw[e3,g4];simp only;rw[cr wV];have e4:({ bl.sub z B with st:={ (bl.sub z B).st with next:=(bl.sub z B).st.next+(l0++t).length } }:bl)=bl.sub z { B with st:={ B.st with next:=B.st.next+(l0++t).length } }:=rfl;rw[e4];have:=P2 cb hΦ dC J (ops:=(⟨l0++t⟩:Array Oper)) (n0:=B.st.next) (n:=n) t l0.length { B with st:={ B.st with next:=B.st.next+(l0++t).length } } fr' (λs2 p=>k .nr s2 p) z A (λj=>by rw[List.getElem?_toArray,dY (by omega),f_]) (by simp) g2 g5;intro G a w fa gb lb mN;refine sh ?_ _ _ _ (this G a w fa gb lb mN);rintro e a' w' ⟨e1,s2,G2,b1,b2,g,K,p,E,r1,r2,r3,r4,r5,r6⟩;exact⟨e1,s2,G2,b1,b2,.nr,g,K,p,E,rfl,bz g1 r1,r2,λi a7=>(r3 i (by omega)).trans (g3 i a7),λl hl=>r4 l (by omega),r5,r6⟩;exact g5.elim;exact h.elim;split at h;rename_i mH;obtain⟨z,B,fr',fs,g1,g2,g3,g4,g5⟩:=O4 (T:=T) (Φ:=Φ) (F:=F) ops.toList 0 _ bb [] _ θ A o h;simp only[cG]at g5;split at g5;rename_i wV;refine j5.y4 (nw.drawn cb hm (cl:=vc Φ) (am9 hΦ) (s':=bl.sub z B) ?_ ⟨.nr,z,B,fr',A,rfl,g1,g2,g3,λ_ _=>rfl,rfl,g5⟩);unfold BQ;rw[cr mH];have e:({ s.sub θ with st:={ (s.sub θ).st with next:=(s.sub θ).st.next+ops.size } }:bl)=bl.sub θ { s with st:={ s.st with next:=s.st.next+ops.size } }:=rfl;rw[e];have e2:(s.sub θ).st.next=s.st.next:=rfl;rw[e2,g4];simp only;rw[cr wV];exact g5.elim;exact h.elim;rename_i a b;refine j5.seq (j5.mono (J n a s bb _ θ A o h) ?_);rintro e s' ⟨S,d,M,u,N,rfl,fa,gb,lb,mN,rfl,mn⟩;cases S with
  |nr =>refine j5.mono (J n b M u k d N gb mn) ?_;rintro e2 s2 ⟨e2',g,K,p,E,rfl,r1,r2,r3,r4,r5,r6⟩;exact⟨e2',g,K,p,E,rfl,bz fa r1,r2,λi a7=>(r3 i (by omega)).trans (lb i a7),λl hl=>(r4 l (by omega)).trans (mN l hl),r5,r6⟩
  |oA j=>exact⟨.oA j,d,M,u,N,rfl,fa,gb,lb,mN,rfl,mn⟩
  |ret=>exact⟨.ret,d,M,u,N,rfl,fa,gb,lb,mN,rfl,mn⟩
  rename_i x a b;split at h;rename_i t hx;refine j5.cond (t:=t) (by rw[bl.sub_eval,hx,pN]) ?_;exact J n _ s bb k θ A o h;rename_i i hx;have hev:∀t,θ i=.b4 (.bool t)->(s.sub θ).eval x=.b4 (.bool t):=λt ht=>by rw[bl.sub_eval,hx,mK,ht]
  rcases h with⟨O,hh⟩|⟨O,hh⟩
  refine j5.cond (t:=No) (hev No O) ?_;have:=J n a _ bb k θ A o hh;rw[FY O]at this;exact this;refine j5.cond (t:=N2) (hev N2 O) ?_;have:=J n b _ bb k θ A o hh;rw[FY O]at this;exact this;exact h.elim;rename_i id b;refine j5.block (j5.mono (J n b s bb _ θ A o h) ?_);rintro e s' ⟨S,d,M,u,N,rfl,fa,gb,lb,mN,rfl,mn⟩;cases S with
  |nr=>exact⟨.nr,d,M,u,N,rfl,fa,gb,lb,mN,rfl,mn⟩
  |ret=>exact⟨.ret,d,M,u,N,rfl,fa,gb,lb,mN,rfl,mn⟩
  |oA j =>simp only[qQ.qP,JB];simp only at mn;split;rename_i e;rw[cr e]at mn;exact⟨.nr,d,M,u,N,rfl,fa,gb,lb,mN,rfl,mn⟩;rename_i e;rw[cc e]at mn;exact⟨.oA j,d,M,u,N,rfl,fa,gb,lb,mN,rfl,mn⟩
  rename_i b;split at h;rename_i hint hH;refine lX (λs θ o h=>?_) 4 s θ o h;split at h;rename_i inits hm hbd;obtain⟨I,⟨n1,hI0⟩,R⟩:=h;obtain⟨v1,v2,v3,ι,hren⟩:=IJ o hm;refine j5.conv hren ?_;have C:∀(j9:List ar) (d:Nat->ar) i,i<bb->(qC bb j9 i).sub d=d i:=λj9 d i a7=>by
   unfold qC;have:dD bb i=N2:=by
    cases O:dD bb i with
    |false=>rfl
    |true=>have:=aZ O;omega
   rw[this];simp
  have D:∀(j9:List ar) (d:Nat->ar) j (hj:j<j9.length),(qC bb j9 (bb+j)).sub d=(j9[j]).sub d:=λj9 d j hj=>by unfold qC;rw[Nat.ble_eq_true_of_le (aV bb j)];simp[hj]
  have pad:∀(j9:List ar) (d:Nat->ar),j9.length=hint.k->(∀i,i<bb->d i=θ i)->(∀j (hj:j<j9.length),d (bb+j)=j9[j])->Fit d->∃g,(∀i,i<bb->g i=θ i)/\(∀j (hj:j<j9.length),g (bb+j)=j9[j])/\g (bb+hint.k)=.b4 (.bool N2)/\Fit g/\hint.state.sub d=hint.state.sub g:=λj9 d mJ nj rM s_=>by refine⟨λi=>if i=bb+hint.k then .b4 (.bool N2)else d i,λi a7=>?_,λj hj=>?_,by simp,λi=>?_,?_⟩;simp only[show ¬i=bb+hint.k by omega,l4];exact nj i a7;simp only[show ¬bb+j=bb+hint.k by omega,l4];exact rM j hj;show nN (if i=bb+hint.k then .b4 (.bool N2)else d i);split;trivial;exact s_ i;refine(bl.k6 (λi a7=>?_) hbd).symm;simp only[show ¬i=bb+hint.k by omega,l4]
  refine j5.loop (λk1 s1=>∃j9 d,I k1 j9/\j9.length=hint.k/\(∀v∈j9,nN v)/\(∀i,i<bb->d i=θ i)/\(∀j (hj:j<j9.length),d (bb+j)=j9[j])/\Fit d/\s1=hint.state.sub d) ?_ (k:=n1) ?_;rintro k1 s1 ⟨j9,θ0,g1,g2,g3,g40,g50,g60,rfl⟩;obtain⟨d,g4,g5,g5',g6,g7⟩:=pad j9 θ0 g2 g40 g50 g60;rw[g7];have O:=J n b hint.state (bb+hint.k+1) _ d _ g6 (R k1 j9 g1 g2 g3 d g4 g5 g5' g6);refine j5.Va (j5.mono O ?_);rintro e s' ⟨S,g,K,p,E,rfl,fa,gb,lb,mN,rfl,mn⟩;have hA2:E bb=λr=>∃m,m<k1/\I m r:=by rw[mN bb (by omega)];simp
  have hlo:∀i,i<bb->g i=θ i:=λi a7=>(lb i (by omega)).trans (g4 i a7);have hAlo:∀l,l<bb->E l=A l:=λl hl=>by rw[mN l (by omega)];simp[Nat.ne_of_lt hl]
  cases S with
  |nr =>left;simp only at mn;split at mn;rename_i r hm';obtain⟨w1,w2,w3,ι',hren'⟩:=IJ gb hm';refine⟨ι',_,hren',?_⟩;simp only[qQ.qP,Cw];have wb:E bb (r.map (ar.sub g)):=mn;rw[hA2]at wb;obtain⟨m1,hm1,hI1⟩:=wb;refine⟨m1,hm1,r.map (ar.sub g),_,hI1,by simpa using w1,λv hv=>?_,λi a7=>by rw[C];exact hlo i a7;exact a7,λj hj=>?_,w3,rfl⟩;obtain⟨v0,hv0,rfl⟩:=aM.1 hv;exact w2 v0 hv0;simp only[aI]at hj;rw[D r g j hj];simp;exact mn.elim
  |oA j=>right;exact⟨.oA j,g,K,p,E,rfl,by omega,gb,hlo,hAlo,rfl,mn⟩
  |ret=>right;exact⟨.ret,g,K,p,E,rfl,by omega,gb,hlo,hAlo,rfl,mn⟩
  refine⟨inits.map (ar.sub θ),_,hI0,by simpa using v1,λv hv=>?_,λi a7=>C _ _ i a7,λj hj=>?_,v3,rfl⟩;obtain⟨v0,hv0,rfl⟩:=aM.1 hv;exact v2 v0 hv0;simp only[aI]at hj;rw[D inits θ j hj];simp;exact h.elim;exact(WT J 1000 s bb θ A (aB _) o (λ_ _=>rfl) (λ_ _=>rfl) h).wp;exact j5.y4 (nw.exit (self (.oA _) h));exact j5.y4 (nw.ret (self .ret h));rename_i b;refine j5.scope (j5.mono (J n b s bb _ θ A o h) ?_);rintro e s' ⟨S,d,M,u,N,rfl,q⟩;exact⟨by cases S<;>trivial,S,d,M,u,N,rfl,q⟩;exact h.elim
include cb hΦ dC hm in
theorem bj2 {H:Nat->Option Hint} {m:Nat}  {fn:Func}  (s:F f=Q1 fn) (n:(fn.name== "runtime.NumGoroutine")=N2) (t:fn.body=Q1 c) {a:List ar} (D:a.length<=fn.ntmps) (hp:q2 a=No)
   (q:Fit θ) {r:ar} (h:mV T Φ (λc=>c=r) (exec T Φ F H m 0 c (bl.enter fn.ntmps a bg.none) bb (JC T fn)) θ (λ_ _=>False)):oX P ⟨f,a.map (ar.sub θ),r⟩:=by
 refine oX.DS cb (dC f fn s) n t (by simpa using D) (by rw[<-uv,<-pT];exact vH q a hp) ?_;have:=JR cb hΦ dC hm (H:=H) m 0 c _ bb _ θ _ q h;rw[FP]at this;refine j5.mono this ?_;rintro e s' ⟨C,i,p,E,I,rfl,_,f1,_,_,rfl,hl⟩;have fin:∀g,C=g->(g=.nr\/g=.ret)->(g.qP=.normal\/g.qP=.ret)/\∃v,pc T fn (p.sub i)=Q1 v/\∀G w u pl,Rel G (p.sub i).st w->eR G v u->eR (G.frozen (p.sub i).st w pl) r u:=by
  intro g he uG;subst he;refine⟨by rcases uG with rfl|rfl<;>simp[qQ.qP],?_⟩;have d:mV T Φ (λc=>c=r) (match pc T fn p with
   |some v=>match v.qA with
    |true=>.ret v.rJ []
    |false=>match pX p.st 50 v with
     |some c=>.ret c.rJ (pZ p.st.mZ)
     |none=>.stuck
   |none=>.stuck) i I:=by rcases uG with rfl|rfl<;>exact hl
  split at d;rename_i v hv;refine⟨v.sub i,Db hv,?_⟩;intro G w u pl l hrep;split at d;rename_i x;obtain⟨_,B⟩:=d;rw[<-B];exact BN v u (rr (λb o t=>tc l t) hrep (BB f1 v x));split at d;rename_i c hc;obtain⟨k,B⟩:=d;rw[<-B];exact BN c u (DA f1 l pl (λid e z j ho=>k j (Bv ho)) (λid j ho=>k j (Bo ho)) 50 v c u hc hrep);exact d.elim;exact d.elim
 cases C with
 |oA j=>exact hl.elim
 |nr=>exact fin .nr rfl (.inl rfl)
 |ret=>exact fin .ret rfl (.inr rfl)
end
section
variable {T:cy} {Φ:lv} {Q:ar->Prop} {θ:Nat->ar} {A:Nat->List ar->Prop}
end
@[simp] theorem ce7 (k:IntKind) (n:Int):nN (.b4 (.int k n)):=trivial
@[simp] theorem ce6 (b:Bool):nN (.b4 (.bool b)):=trivial
@[simp] theorem ce8 (b:ByteArray):nN (.b4 (.string b)):=trivial
def Cs:List (Nat×Hint)->Nat->Option Hint
 | [],_=>Ld
 | (g,h)::l,f=>match ax g f with
  |true=>Q1 h
  |false=>Cs l f
def Gb(T:cy)(Φ:lv)(F:FuncId->Option Func)(H:List (Nat×Hint))(m:Nat)(f:FuncId)(a:List ar)(bb:Nat):nf :=
 match F f with
 |some fn=>match fn.body with
  |some c=>match !(fn.name== "runtime.NumGoroutine")&&dD a.length fn.ntmps&&q2 a with
   |true=>exec T Φ F (Cs H) m 0 c (bl.enter fn.ntmps a bg.none) bb (JC T fn)
   |false=>.stuck
  |none=>.stuck
 |none=>.stuck
def bU7{P:Program}{T:cy}(cb:mz P T){Φ:lv}(b:Ak P Φ){F:FuncId->Option Func}(dC:∀f fn,F f=Q1 fn->P.funcs[f]?=Q1 fn)(hm:P.follows .mixedOrders=No){H:List (Nat×Hint)}{m:Nat}{f:FuncId}{a:List ar}{bb:Nat}
  {θ:Nat->ar} (d:Fit θ) {r:ar} (h:mV T Φ (λc=>c=r) (Gb T Φ F H m f a bb) θ (λ_ _=>False)):oX P ⟨f,a.map (ar.sub θ),r⟩:=by
 unfold Gb at h;split at h;split at h;split at h
 grind[ bj2,aZ]
 exact h.elim;exact h.elim;exact h.elim
def env(l:List ar)(i:Nat):ar:=(l[i]?).getD (.b4 (.bool N2))
theorem Fit.env{l:List ar}(h:∀v∈l,nN v):Fit (env l):=λi=>by
 unfold Go.Ab.env;cases a7:l[i]? with
 |none=>trivial
 |some v=>exact h v (aH a7)
open Go Go.RowKit Go.WideShapes Go.ChangeShapes
variable {args:Array Value}
section
variable {H:Type} {enc:TypeId×Value->H} {P:Program} {N:Nat}
theorem VL(hl:laidOutB P=No){W f:World}(g:Below W.heap.size W f){sp:Nat->Bool}:∀ {ts:List TypeId} {vs:List Value} {i:List (DataW H)} {c:List MemPlace},(∀t∈ts,P.readableRec t=No/\t<P.types.size) ->
  gI enc P W 0 (λ_=>No) No ts vs i c->(∀p∈c,p.block<W.heap.size)->(∀p∈c,sp p.block=No)->gI enc P f 0 sp No ts vs i c
 | [],[],[],_,_,h,_,_=>h
 |t::ts,_::_,_::_,_,d,⟨p,q,h1,h2,e⟩,b,hs=>by refine⟨p,q,?_,?_,e⟩;exact WideElems.Trod_stays hl (d t (by simp)).1 (d t (by simp)).2 h1 (λx a=>g.same (b x (by rw[e];simp[a]))) (λx a=>hs x (by rw[e];simp[a]));exact VL hl g (λu hu=>d u (by simp[hu])) h2 (λx a=>b x (by rw[e];simp[a])) (λx a=>hs x (by rw[e];simp[a]))
def aK9(hl:laidOutB P=No){f:Func}{s:ChangeSpec}{apart fresh handsOn again:Bool}{W h:World}{d gs:List (DataW H)}{before:List MemPlace}{w:TypeId}
  (hv:s.vars=[]) (u:∀t∈f.params.toList,P.readableRec t=No/\t<P.types.size) (i:f.resultTypes=#[w]) (k:P.underlying w=Q1 .bool)
  (l:(s.fn H (d++gs)).results=[.lit (.bool No)]/\(s.fn H (d++gs)).args=d/\(s.fn H (d++gs)).vars=[])
  (z:DataW.Whole enc P f.params.toList s.vars apart W args.toList d gs before) (B:Below W.heap.size W h):s.post enc P f apart fresh handsOn again W args (.bool No) h:=by
 have m:=z;obtain⟨p,q,D,C,rfl,hz,E⟩:=z;rw[hv]at C;obtain⟨rfl,rfl⟩:=trodVars_none C;have n:=λx e=>m.lt x e;have g:∀(b:Nat) (sp:Nat->Bool) (hd:Bool),gI enc P h b sp hd f.resultTypes.toList ((ly No).resultList f.resultTypes.size) (s.fn H (d++[])).results []:=λb sp hd=>by rw[i,l.1];exact trodAll_mk1 (shut_bool k _)
 have a:∀sp:Nat->Bool,(∀x∈p++[],sp x.block=No)->gI enc P h 0 sp No f.params.toList args.toList (s.fn H (d++[])).args p:=λsp hsp=>by grind[VL]
 have c:∀sp:Nat->Bool,(∀x∈p++[],sp x.block=No)->DataW.TrodVars enc P h sp s.vars (s.fn H (d++[])).vars []:=λsp _=>by rw[hv,l.2.2];rfl
 have v:∀(j:Nat) (t:TypeId) (r:Value),f.resultTypes[j]?=Q1 t->((ly No).resultList f.resultTypes.size)[j]?=Q1 r->gy P h .any 0 t r:=ok_one i rfl (okWide_bool_mk k _);have hold:∀x∈p++[],(λb=>Eo (b<W.heap.size)) x.block=No:=λx e=>by simpa using n x e
 refine⟨d,[],p++[],[],p,[],m,g _ _ _,a _ hold,c _ hold,World.keptBut_mono (λx e=>⟨e,?_⟩) (B.frame (·∈p++[])),λ_=>?_⟩;exact Or.inr (by simpa using e);refine⟨v,_,_,([]++p)++[],⟨[]++p,[],trodAll_append (a _ (λ_ _=>rfl)) (g _ _ _),c _ (λ_ _=>rfl),rfl,?_,?_⟩,?_⟩;intro b off hp;have o:MemPlace.cell b off∈p++[]:=by simpa using hp
 rw[B.frozen (n _ o)];exact hz b off o
 grind
 intro x e _;simpa using e
theorem bU3{W:World}{base:Nat}{t:TypeId}{fs:Array Field}{v:Value}{d:DataW H}{p:List MemPlace}{k:Nat}(b:P.underlying t=Q1 (.struct fs))(hp:BU P k t=No)(hv:gy P W .any base t v)
  (h:lz enc P W 0 (λ_=>No) No t v d p) (c:∀n∈d.weights P t,n<=N):∃cs,eR (ca.tv W) (.agg cs) v/\pU P N t cs:=by
 obtain⟨fuel,hf⟩:=h;obtain⟨avs,h1,h2⟩:=O0 k t hp fuel _ _ hf c;unfold gy at hv;rw[b]at hv;obtain⟨cs,rfl,_⟩:=hv;refine⟨avs,?_,h2⟩;have a:=h1;have:=eR.agg (G:=ca.tv W) avs cs.toList a.1 a.2;simpa using this
def aF4 {f:FuncId} {fn:Func} {avs:List ar} (d:P.funcs[f]?=Q1 fn) (a:(fn.name== "runtime.NumGoroutine")=N2) (b:fn.body.isNone=N2) (hm:oX P ⟨f,avs,.b4 (.bool No)⟩)
  {W:World}  (c:hE (ca.tv W) avs args.toList) (h:QL W):Calls P f args W λe g=>e=.returned (.bool No)/\Below W.heap.size W g:=by
 have:=oX.calls d a b hm c (Rel.tv h);refine this.mono ?_;rintro e g ⟨v,G',rfl,i,_,_,j⟩;cases i;exact⟨rfl,j⟩
def aT2{W:World}{t:TypeId}{a:IntKind}{v:Value}{d:DataW H}{p:List MemPlace}(b:P.underlying t=Q1 (.int a))
  (h:lz enc P W 0 (λ_=>No) No t v d p) (hv:v.cells.toList=[v]):∃n,v=.int a n/\(Lit.int a n).wf=No:=by
 obtain⟨fuel,hf⟩:=h;grind[DataW.trod_int]
end
variable {i k:Nat}
def Mv(k:Nat):Option ar->Bool
 |none=>No
 |some x=>x.ff k
def nU.ff(k:Nat):nU->Bool
 | .bin _ _ x y=>x.ff k&&y.ff k
 | .un _ x=>x.ff k
 | .conv _ _ x=>x.ff k
 | .idx _ x i=>x.ff k&&i.ff k
 | .index _ x i=>x.ff k&&i.ff k
 | .Cq _ x b7 a7=>x.ff k&&(Mv k b7&&Mv k a7)
 | .len _ x=>x.ff k
 | .pP l=>rL k l
 | .yT l=>rL k l
 | .cat _ _ x y=>x.ff k&&y.ff k
 | .call _ args _=>rL k args
 | .rows l=>l.all λj=>cM j k
 | .look _ c ix _=>c.ff k&&ix.ff k
 | .xS _ c ix _=>c.ff k&&ix.ff k
 | .qe _ c ix v=>c.ff k&&(ix.ff k&&v.ff k)
 | .B_ _ c=>c.ff k
 | .Aq=>No
 | .B0 x=>x.ff k
 | .As _ x=>x.ff k
 | .CE _ x=>x.ff k
 | .BR _ _=>No
 | .B1 x=>x.ff k
 | .more s p=>s.ff k&&p.ff k
 | .Cm s p=>s.ff k&&p.ff k
 | .Cd _ x=>x.ff k
 | .AG c i _=>c.ff k&&i.ff k
 | .z7 _ c i=>c.ff k&&i.ff k
 | .x4 _ _ _ c i _=>c.ff k&&i.ff k
 | .za _ _ _ c i _ v=>c.ff k&&(i.ff k&&v.ff k)
def Dn{θ b:Nat->ar}(h:∀i,i<k->b i=θ i):∀l:List ar,rL k l=No->l.map (ar.sub b)=l.map (ar.sub θ)
 | [],_=>rfl
 |a::l,c=>by simp only[rL,ab]at c;simp only[au,k6 h a c.1,Dn h l c.2]
def X'{θ b:Nat->ar}(h:∀i,i<k->b i=θ i):∀l:Option ar,Mv k l=No->l.map (ar.sub b)=l.map (ar.sub θ)
 |none,_=>rfl
 |some a,c=>by simp only[ai,k6 h a c]
def bH3{T:cy}{Φ:lv}{θ q:Nat->ar}(h:∀i,i<k->q i=θ i)(o:nU)(m:o.ff k=No):iv T Φ q o=iv T Φ θ o:=by
 cases o with
 |bin o t x y=>simp only[nU.ff,ab]at m;simp only[iv,k6 h _ m.1,k6 h _ m.2]
 |un o x=> simp only[iv,k6 h _ m]
 |conv s d x=> simp only[iv,k6 h _ m]
 |idx t x i=>simp only[nU.ff,ab]at m;simp only[iv,k6 h _ m.1,k6 h _ m.2]
 |index t x i=>simp only[nU.ff,ab]at m;simp only[iv,k6 h _ m.1,k6 h _ m.2]
 |Cq t x b7 a7=>simp only[nU.ff,ab]at m;simp only[iv,k6 h _ m.1,X' h _ m.2.1,X' h _ m.2.2]
 |len t x=> simp only[iv,k6 h _ m]
 |pP l=> simp only[iv,Dn h _ m]
 |yT l=> simp only[iv,Dn h _ m]
 |cat s x a b=>simp only[nU.ff,ab]at m;simp only[iv,k6 h _ m.1,k6 h _ m.2]
 |call f args flat=> simp only[iv,Dn h _ m]
 |look t c ix ok=>simp only[nU.ff,ab]at m;simp only[iv,k6 h _ m.1,k6 h _ m.2]
 |xS t c ix ok=>simp only[nU.ff,ab]at m;simp only[iv,k6 h _ m.1,k6 h _ m.2]
 |qe t c ix v=>simp only[nU.ff,ab]at m;simp only[iv,k6 h _ m.1,k6 h _ m.2.1,k6 h _ m.2.2]
 |B_ t c=> simp only[iv,k6 h _ m]
 |Aq=>rfl
 |BR t g=>rfl
 |B1 x=> simp only[iv,k6 h _ m]
 |more s p=>simp only[nU.ff,ab]at m;simp only[iv,k6 h _ m.1,k6 h _ m.2]
 |Cd ck x=> simp only[iv,k6 h _ m]
 |Cm s p=>simp only[nU.ff,ab]at m;simp only[iv,k6 h _ m.1,k6 h _ m.2]
 |AG c i off=>simp only[nU.ff,ab]at m;simp only[iv,k6 h _ m.1,k6 h _ m.2]
 |B0 x=> simp only[iv,k6 h _ m]
 |As n x=> simp only[iv,k6 h _ m]
 |CE t x=> simp only[iv,k6 h _ m]
 |z7 t c i=>simp only[nU.ff,ab]at m;simp only[iv,k6 h _ m.1,k6 h _ m.2]
 |x4 t e z c i off=>simp only[nU.ff,ab]at m;simp only[iv,k6 h _ m.1,k6 h _ m.2]
 |za t e z c i off v=>simp only[nU.ff,ab]at m;simp only[iv,k6 h _ m.1,k6 h _ m.2.1,k6 h _ m.2.2]
 |rows l=>
  simp only[nU.ff,aj,bP]at m;have e:∀g:ar->Bool,l.all (λj=>g (q j))=l.all (λj=>g (θ j)):=λg=>by rw[Bool.eq_iff_iff,aj,aj];constructor;intro H j hj;rw[<-h j (m j hj)];exact H j hj;intro H j hj;rw[h j (m j hj)];exact H j hj
  exact lU (λb=>match b with|true=>Q1 (ar.b4 (.bool No))|false=>Ld) (e (λv=>match v with| .rs _=>No|_=>N2))
mutual
def ar.top:ar->Nat
 | .ey i=>i+1
 | .fT cs=>KJ cs
 | .agg cs=>KJ cs
 | .ed cs=>KJ cs
 |_=>0
def KJ:List ar->Nat
 | []=>0
 |c::cs=>max c.top (KJ cs)
end
def nf.ff:nf->Nat->Bool
 | .stuck,_=>No
 | .ret c l,m=>c.ff m&&l.all λj=>cM j m
 | .op o bb pat r,m=>ax bb m&&(o.ff m&&(pat.ff (max m pat.top)&&r.ff (max m pat.top)))
 | .test i a b,m=>cM i m&&(a.ff m&&b.ff m)
 | .loop l _ inits _,m=>ax l m&&rL m inits
 | .again _ j9,m=>rL m j9
def mV.agree{T:cy}{Φ:lv}{Q:ar->Prop}:∀(r:nf) {m:Nat} {θ d:Nat->ar} {A:Nat->List ar->Prop},r.ff m=No->Fit d->(∀i,i<m->d i=θ i)->mV T Φ Q r θ A->mV T Φ Q r d A
 | .stuck,_,_,_,_,_,_,_,h=>h.elim
 | .ret c l,m,θ,d,A,e,hf,ha,h=>by simp only[nf.ff,ab,aj,bP]at e;refine⟨λj hj=>?_,?_⟩;rw[ha j (e.2 j hj)];exact h.1 j hj;rw[k6 ha c e.1];exact h.2
 | .op o bb pat r,m,θ,d,A,e,hf,ha,⟨f,h1,h2,w,x⟩=>by
  simp only[nf.ff,ab,cg]at e;obtain⟨rfl,s,t,u⟩:=e;have p:∀i,i<max bb pat.top->(λi=>if i<bb then d i else f i) i=f i:=λi _=>by by_cases a7:i<bb;simp only[a7,me];rw[ha i a7,h1 i a7];simp only[a7,l4]
  have g:=λi=>by show nN (if i<bb then d i else f i);split;exact hf i;exact h2 i
  refine⟨λi=>if i<bb then d i else f i,λi a7=>by simp[a7],g,?_,?_⟩;rw[bH3 ha o s,w,k6 p pat t];exact mV.agree r u g p x
 | .test i a b,m,θ,d,A,e,hf,ha,h=>by
  simp only[nf.ff,ab,bP]at e;rcases h with⟨h1,h2⟩|⟨h1,h2⟩
  exact .inl ⟨by rw[ha i e.1];exact h1,mV.agree a e.2.1 hf ha h2⟩;exact .inr ⟨by rw[ha i e.1];exact h1,mV.agree b e.2.2 hf ha h2⟩
 | .loop l k inits body,m,θ,d,A,e,hf,ha,⟨I,h1,h2⟩=>by simp only[nf.ff,ab,cg]at e;obtain⟨rfl,e⟩:=e;exact⟨I,by rw[Dn ha inits e];exact h1,λn j9 a7 hl hv v q=>h2 n j9 a7 hl hv v (λi a7=>by rw[q i a7,ha i a7])⟩
 | .again l j9,m,θ,d,A,e,hf,ha,h=>by simp only[nf.ff]at e;show A l _;rw[Dn ha j9 e];exact h
def sQ(T:cy)(Φ:lv)(Q:ar->Prop)(r:nf)(L:List ar)(A:Nat->List ar->Prop):Prop:=(∀v∈L,nN v)->mV T Φ Q r (env L) A
section
variable {T:cy} {Φ:lv} {Q:ar->Prop} {L:List ar} {A:Nat->List ar->Prop}
def S3{L vs:List ar}(h:i<L.length):env (L++vs) i=env L i:=by unfold env;rw[iH h]
def sQ.OV{o:nU}{bb:Nat}{pat:ar}{r:nf}(vs:List ar)(he:iv T Φ (env L) o=Q1 (pat.sub (env (L++vs))))(c:L.length=bb)(hv:∀v∈vs,nN v)(h:sQ T Φ Q r (L++vs) A):sQ T Φ Q (.op o bb pat r) L A:=λb=>by
 have a:∀v∈L++vs,nN v:=λv hm=>by
  rcases aY.1 hm with hm|hm
  exact b v hm;exact hv v hm
 exact⟨env (L++vs),λi a7=>S3 (by omega),Fit.env a,he,h a⟩
def sQ.test{a b:nf}(t:Bool)(a7:env L i=.b4 (.bool t))(h1:t=No->sQ T Φ Q a L A)(h2:t=N2->sQ T Φ Q b L A):sQ T Φ Q (.test i a b) L A:=λc=>by cases t;exact .inr ⟨a7,h2 rfl c⟩;exact .inl ⟨a7,h1 rfl c⟩
def sQ.Py{c:ar}{l:List Nat}(hl:∀j∈l,∃es,env L j=.rs es)(h:Q (c.sub (env L))):sQ T Φ Q (.ret c l) L A:=λ_=>⟨hl,h⟩
def sQ.loop{l:Nat}{inits:List ar}{body:nf}(I:Nat->List ar->Prop)(d:L.length=l)(e:body.ff (l+k+1)=No)(n0:Nat)(cu:I n0 (inits.map (ar.sub (env L))))
  (h:∀n j9,I n j9->j9.length=k->sQ T Φ Q body (L++(j9++[.b4 (.bool N2)])) (λc=>if c=l then(λa=>∃m,m<n/\I m a)else A c)):sQ T Φ Q (.loop l k inits body) L A:=λf=>by
 refine⟨I,⟨n0,cu⟩,λn j9 a7 hl hv g h1 h2 o hf=>?_⟩;have b:∀v∈L++(j9++[.b4 (.bool N2)]),nN v:=λv hm=>by
  rcases aY.1 hm with hm|hm
  exact f v hm;rcases aY.1 hm with hm|hm
  exact hv v hm;simp only[bL]at hm;subst hm;trivial
 refine mV.agree body e hf (λi a7=>?_) (h n j9 a7 hl b);subst d;by_cases c1:i<L.length;rw[S3 c1];exact h1 i c1;obtain⟨j,rfl⟩:∃j,i=L.length+j:=⟨i-L.length,by omega⟩;by_cases c2:j<j9.length;rw[h2 j c2];unfold env;rw[dY (by omega),f_,iH c2];simp[c2];have:j=k:=by omega
 subst this;unfold env;rw[dY (by omega),f_,dY (by omega),hl,o];simp
end
variable {o:Oper}{t:Nat}{x:Operand}
def KY:Operand->Bool
 | .const (.slice Ld 0 0)=>No
 |_=>N2
theorem ag3(h:KY x=No):x=AY:=by unfold KY at h;split at h;rfl;cases h
def xH(o:Oper)(d:Nat):Bool:=match o.guard,o.dst with
 |none,Q1 e=>ax e d
 |_,_=>N2
def zL{d:Nat}{op:Op}(h:xH o d=No)(a:o.op=op):u3 o (Q1 d) op:=by unfold xH at h;split at h;rename_i h1 h2;rw[cg]at h;subst h;exact⟨h2,a,h1⟩;cases h
def K4(o:Oper):Bool:=match o.op with
 | .assign x=>KY x
 |_=>N2
def am8(h:K4 o=No):o.op=.assign AY:=by grind[K4,ag3]
def Aw(n:Nat):Operand->Bool
 | .tmp m=>ax m n
 |_=>N2
theorem F0{n:Nat}(h:Aw n x=No):x=.tmp n:=by
 unfold Aw at h
 grind[cg]
def JM(o:Oper):Bool:=match o.op with
 | .move x=>Aw 0 x
 |_=>N2
def RC(h:JM o=No):o.op=.move (.tmp 0):=by grind[JM,F0]
def Mr(o:Oper):Bool:=match o.op with
 | .assign x=>Aw 7 x
 |_=>N2
def aV6(h:Mr o=No):o.op=.assign (.tmp 7):=by grind[Mr,F0]
def L'(t:Nat)(o:Oper):Bool:=match o.op with
 | .binOp .eql a x y _=>ax a t&&Aw 3 x&&KY y
 |_=>N2
def aQ3(h:L' t o=No):∃yt,o.op=.binOp .eql t (.tmp 3) AY yt:=by grind[L',cg,F0,ag3]
def Mw(t:Nat)(o:Oper):Bool:=match o.op with
 | .buildSlice a 0 ⟨[]⟩=>ax a t
 |_=>N2
def be6(h:Mw t o=No):o.op=.buildSlice t 0 #[]:=by grind[Mw,cg]
def L9(t:Nat)(o:Oper):Bool:=match o.op with
 | .call { callee:=.builtin .append,args:=⟨[x,y]⟩,argTypes:=⟨[a,b]⟩ }=>Aw 5 x&&Aw 6 y&&ax a t&&ax b t
 |_=>N2
def aM9(h:L9 t o=No):o.op=.call { callee:=.builtin .append,args:=#[.tmp 5,.tmp 6],argTypes:=#[t,t] }:=by grind[L9,cg,F0]
def DR(fn:Func)(t:Nat):Bool:=ax fn.ntmps 8&&(match fn.results with
  |⟨[.tmp n]⟩=>ax n 2
  |_=>N2)&&match fn.body with
 |some (.seq (.region _ ⟨[o0]⟩ N2) (.seq (.seq (.region _ ⟨[o1,o2]⟩ N2) (.cond x (.seq (.region _ ⟨[o3]⟩ N2) .ret) .skip)) (.seq (.region _ ⟨[o4,o5,o6,o7]⟩ N2) .ret))) =>Aw 4 x&&xH o0 2&&K4 o0&&xH o1 3&&JM o1&&xH o2 4&&L' t o2&&xH o3 2&&K4 o3&&xH o4 5&&Mw t o4&&xH o5 6&&JM o5&&xH o6 7&&L9 t o6&&xH o7 2&&Mr o7
 |_=>N2
def aI8{fn:Func}(h:DR fn t=No):QC fn t:=by unfold DR at h;simp only[ab,cg]at h;obtain⟨⟨h1,h2⟩,a⟩:=h;split at h2;rename_i x b;split at a;rename_i i0 o0 i1 o1 o2 y i2 o3 i3 o4 o5 o6 o7 c;simp only[ab]at a;obtain⟨⟨⟨⟨⟨⟨⟨⟨⟨⟨⟨⟨⟨⟨⟨⟨d,a0⟩,e⟩,f⟩,g⟩,a2⟩,i⟩,a3⟩,j⟩,a4⟩,k⟩,a5⟩,l⟩,m⟩,n⟩,o⟩,p⟩:=a;obtain⟨yt,q⟩:=aQ3 i;refine⟨h1,by rw[b,ae h2],i0,i1,i2,i3,o0,o1,o2,o3,o4,o5,o6,o7,yt,?_,zL a0 (am8 e),zL f (RC g),zL a2 q,zL a3 (am8 j),zL a4 (be6 k),zL a5 (RC l),zL m (aM9 n),zL o (aV6 p)⟩;rw[c,F0 d];cases a;cases h2
abbrev Hq(n:Int):ar:=.b4 (.int .i64 n)
abbrev aG6(b:Bool):ar:=.b4 (.bool b)
section
variable {T:cy} {Φ:lv} {θ:Nat->ar} {x y:ar} {a b:Int} {t:TypeId}
def ba3{l:List Nat}(h:∀j∈l,∃es,θ j=.rs es):iv T Φ θ (.rows l)=Q1 (aG6 No):=by
 simp only[iv]
 grind
end
variable {G G':ca}{P:Program}{c:Code}{n:Nat}
def Rel.bj4{σ σv σv' σ':bg}{w w':World}(c:Rel G σ w)(h:∀id o,σv.bF id=Q1 o->σ.bF id=Q1 o)(d:Rel G' σv' w')(e:Fr G σv w G' σv' w')(s:G'.mu=G.mu)
  (k:∀id o,σ.bF id=Q1 o->σv.bF id=Ld->G'.pl id=G.pl id) (t:∀id o,σ.bF id=Q1 o->σv.bF id=Ld->∀p ho,oq G p o ho->oq G' p o ho)
  (n:∀id,σ'.next<=id->G'.pl id=Ld) (l:∀id o,σ'.bF id=Q1 o->σv'.bF id=Q1 o\/(σ.bF id=Q1 o/\σv.bF id=Ld)):Rel G' σ' w'/\Fr G σ w G' σ' w':=by
 have f:∀id o p,σ.bF id=Q1 o->σv.bF id=Ld->G.pl id=Q1 p->p.mX=N2->∀id0 o0 p0,σv.bF id0=Q1 o0->G.pl id0=Q1 p0->p0.mX=N2->p0.block≠p.block :=λid o p h1 h2 m q id0 o0 p0 g1 g2 g3 g4=>by have:=c.sep id0 id o0 o p0 p (h _ _ g1) h1 g2 m g3 q g4;rw[this,h2]at g1;cases g1
 refine⟨⟨d.os,d.tape,d.output,d.size,d.lo,n,λid o ho=>?_,λi j oi oj pi pj h1 h2 m q v1 v2 B=>?_,d.qE⟩,?_⟩;rcases l id o ho with h1|⟨h1,h2⟩
 exact d.bF id o h1;obtain⟨p,hp,hl⟩:=c.bF id o h1;refine⟨p,by rw[k _ _ h1 h2];exact hp,?_⟩;rcases hl with hl|⟨hv,u,v,z⟩
 exact .inl hl;refine .inr ⟨hv,?_,by rw[s];exact v,?_⟩;cases r:G'.lo p.block with
 |none=>rfl
 |some x=>
  rcases e.lo _ _ r with g|g|⟨id0,o0,p0,g1,g2,g3,g4⟩
  rw[u]at g;cases g;have:=c.r_ h1 hp hv;omega
  grind
 rw[e.same p.block (c.r_ h1 hp hv) (λid0 o0 p0 g1 g2 g3=>f id o p h1 h2 hp hv id0 o0 p0 g1 g2 g3)];exact t _ _ h1 h2 _ _ z;have fr:∀i j oi oj pi pj,σv'.bF i=Q1 oi->σ.bF j=Q1 oj->σv.bF j=Ld->G'.pl i=Q1 pi->G'.pl j=Q1 pj->pi.mX=N2->pj.mX=N2->pi.block≠pj.block:=by
  intro i j oi oj pi pj H a2 a3 a4 a5 I C N;have D:G.pl j=Q1 pj:=by rw[<-k _ _ a2 a3];exact a5
  have J:=c.r_ a2 D C;obtain⟨id0,o0,p0,g1,g2,g3,g4⟩:=e.live i oi pi H a4 I (by omega);exact f j oj pj a2 a3 D C id0 o0 p0 g1 g2 g3 (by omega)
 rcases l i oi h1 with a|⟨a,E⟩<;>rcases l j oj h2 with b|⟨b,K⟩
 exact d.sep i j oi oj pi pj a b m q v1 v2 B
 grind
 grind
 exact c.sep i j oi oj pi pj a b (by rw[<-k _ _ a E];exact m) (by rw[<-k _ _ b K];exact q) v1 v2 B;refine⟨e.size,λb r M=>e.same b r (λid o p h1 h2 m=>M id o p (h _ _ h1) h2 m),λid o p h1 h2 m q=>?_,λb o r=>?_,e.drawn⟩;rcases l id o h1 with a|⟨a,E⟩
 obtain⟨id0,o0,p0,g1,g2,g3,g4⟩:=e.live id o p a h2 m q
 grind
 grind
 rcases e.lo b o r with g|g|⟨id0,o0,p0,g1,g2,g3,g4⟩
 exact .inl g;exact .inr (.inl g)
 grind
def k5:List (Nat×c7)->Nat->Option c7
 | [],_=>Ld
 |p::l,i=>if i=p.1 then Q1 p.2 else k5 l i
def nb:List (Nat×c7)->bg->bg
 | [],σ=>σ
 |p::l,σ=>(nb l σ).set p.1 p.2
theorem sJ(σ:bg)(i:Nat):∀H:List (Nat×c7),(nb H σ).bF i=match k5 H i with|some o=>Q1 o|none=>σ.bF i
 | []=>rfl
 |p::l=>by simp only[nb,bg.mQ,k5];split;rfl;exact sJ σ i l
def zO(σ:bg):∀H:List (Nat×c7),(nb H σ).next=σ.next
 | []=>rfl
 |p::l=>by simp only[nb];exact zO σ l
def wI:∀ {H:List (Nat×c7)} {i:Nat} {o:c7},k5 H i=Q1 o->(i,o)∈H
 | [],_,_,h=>by cases h
 |p::l,i,o,h=>by unfold k5 at h;split at h;rename_i e;cases h;subst e;exact List.mem_cons_self;exact bf _ (wI h)
def bl.nb(H:List (Nat×c7))(s:bl):bl:={ s with st:=Go.Ab.nb H s.st }
variable {Q:Exit->bl->Prop}{s:bl}
@[simp] theorem bl.tM (H:List (Nat×c7)) (s:bl):(s.nb H).st=Go.Ab.nb H s.st:=rfl
@[simp] theorem bl.ce4 (H:List (Nat×c7)) (s:bl):(s.nb H).n=s.n:=rfl
def rN:c7->Bool
 | .row _ _ es=>sB es
 |_=>N2
def bU2(d:∀b o,G.lo b=Q1 o->G'.lo b=Q1 o){o:c7}(h:rN o=No){p:nt}{ho:Option Obj}(hk:oq G p o ho):oq G' p o ho:=by
 cases o with
 |row e z es =>obtain⟨cs,f,g,k,l,c⟩:=hk;refine⟨cs,f,g,k,l,λi a7=>⟨(c i a7).1,λj hj a=>?_⟩⟩;exact rr d ((c i a7).2 j hj a) (rY (es:=es) (by simp only[ar.kl];exact h) i a7 j hj)
 |_=>simp[rN]at h
def j5.frame{H:List (Nat×c7)}(m:∀p∈H,p.1<n/\rN p.2=No/\s.st.bF p.1=Ld)(h:j5 P n c Q s) :
  j5 P n c (λe t=>∃s',Q e s'/\t=s'.nb H) (s.nb H):=by
 intro r G a w k;have b:∀i o,s.st.bF i=Q1 o->(Go.Ab.nb H s.st).bF i=Q1 o:=λi o ho=>by
  rw[sJ];cases j:k5 H i with
  |none=>exact ho
  |some o'=>have:=(m _ (wI j)).2.2;rw[show((i,o'):Nat×c7).1=i from rfl,ho]at this;cases this
 have l:n<=s.st.next:=by have:(s.nb H).st.next=s.st.next:=zO _ _;omega
 have q:lZ G s a w:=⟨k.defers,k.size,k.tmps,k.rel.less (zO _ _).symm b⟩;refine wp_mono (h l G a w q) ?_;rintro e v w' ⟨s',G',f,d,u⟩;have g:∀id o,(Go.Ab.nb H s.st).bF id=Q1 o->s.st.bF id=Ld->k5 H id=Q1 o:=λid o h1 h2=>by grind[sJ]
 have key:=Rel.bj4 (σ:=Go.Ab.nb H s.st) (σv:=s.st) (σv':=s'.st) (σ':=Go.Ab.nb H s'.st) k.rel b d.rel f.bb f.mu
  (λid o h1 h2=>f.pl id (m _ (wI (g id o h1 h2))).1)
  (λid o h1 h2 p ho=>bU2 f.lo (m _ (wI (g id o h1 h2))).2.1)
  (λid hid=>d.rel.fresh id (by rw[zO]at hid;exact hid))
  (λid o ho=>by
   rw[sJ]at ho;cases j:k5 H id with
   |none=>rw[j]at ho;exact .inl ho
   |some o' =>
    rw[j]at ho;simp only[ah]at ho;subst ho;exact .inr ⟨by rw[sJ,j],(m _ (wI j)).2.2⟩)
 refine⟨s'.nb H,G',⟨f.mu,f.lo,f.pl,?_,key.2⟩,⟨d.defers,d.size,d.tmps,key.1⟩,s',u,rfl⟩;have:(s'.nb H).st.next=s'.st.next:=zO _ _;rw[this];exact f.gA
def j5.lower{m:Nat}(hm:m<=n)(f:n<=s.st.next)(h:j5 P n c Q s):j5 P m c Q s:=by intro _ G a w g;refine wp_mono (h f G a w g) ?_;rintro e k w' ⟨s',G',b,d,j⟩;exact⟨s',G',⟨b.mu,b.lo,λi a7=>b.pl i (by omega),bz hm b.gA,b.bb⟩,d,j⟩
def j5.raise{k:Nat}(hk:s.st.next<=k)(h:j5 P n c Q { s with st:={ s.st with next:=k } }):j5 P n c Q s:=by intro i G a w d;have f:lZ G { s with st:={ s.st with next:=k } } a w:=⟨d.defers,d.size,d.tmps,d.rel.next hk⟩;refine wp_mono (h (bz i hk) G a w f) ?_;rintro e l w' ⟨s',G',b,g,j⟩;exact⟨s',G',⟨b.mu,b.lo,b.pl,b.gA,(Fr.less (σ:=s.st) (σ':={ s.st with next:=k }) (λ_ _ h=>h)).trans b.bb⟩,g,j⟩
variable {p:Nat->Bool}{ι:Nat->Option (Option Nat)}
mutual
def ar.ids(p:Nat->Bool):ar->Bool
 | .ms id _ _ _=>p id
 | .mp id _ _=>p id
 | .mm id=>p id
 | .it id=>p id
 | .c8 id _ _=>p id
 | .ps id _ _=>p id
 | .rs es=>t_ p es
 | .fT cs=>sA p cs
 | .fn _ a c=>sA p a&&sA p c
 | .agg cs=>sA p cs
 | .ed cs=>sA p cs
 | .mY c=>c.ids p
 |_=>No
def sA(p:Nat->Bool):List ar->Bool
 | []=>No
 |c::cs=>c.ids p&&sA p cs
def t_(p:Nat->Bool):List (List ar)->Bool
 | []=>No
 |c::cs=>sA p c&&t_ p cs
end
variable {v:ar}
def wJ:∀ {l:List ar},sA p l=No->∀v∈l,v.ids p=No
 | [],_,v,hv=>by cases hv
 |c::cs,h,v,hv=>by
  simp only[sA,ab]at h;rcases aD.1 hv with rfl|hv
  exact h.1;exact wJ h.2 v hv
def DB:∀ {l:List (List ar)},t_ p l=No->∀r∈l,sA p r=No
 | [],_,v,hv=>by cases hv
 |c::cs,h,v,hv=>by
  simp only[t_,ab]at h;rcases aD.1 hv with rfl|hv
  exact h.1;exact DB h.2 v hv
mutual
theorem J1(p:Nat->Bool):∀v:ar,v.kl=No->v.ids p=No
 | .b4 _,_=>by simp[ar.ids]
 | .rs es,h=>by simp only[ar.kl]at h;simp only[ar.ids];exact aw6 p es h
 | .fT cs,h=>by simp only[ar.kl]at h;simp only[ar.ids];exact BI p cs h
 | .fn _ a c,h=>by simp only[ar.kl,ab]at h;simp only[ar.ids,ab];exact⟨BI p a h.1,BI p c h.2⟩
 | .agg cs,h=>by simp only[ar.kl]at h;simp only[ar.ids];exact BI p cs h
 | .ed cs,h=>by simp only[ar.kl]at h;simp only[ar.ids];exact BI p cs h
 | .mY c,h=>by simp only[ar.kl]at h;simp only[ar.ids];exact J1 p c h
 | .any,h=>by simp[ar.kl]at h
 | .ms ..,h=>by simp[ar.kl]at h
 | .mp ..,h=>by simp[ar.kl]at h
 | .mm _,h=>by simp[ar.kl]at h
 | .it _,h=>by simp[ar.kl]at h
 | .ey _,h=>by simp[ar.kl]at h
 | .c8 ..,h=>by simp[ar.kl]at h
 | .ps ..,h=>by simp[ar.kl]at h
theorem BI(p:Nat->Bool):∀l:List ar,sa l=No->sA p l=No
 | [],_=>by simp[sA]
 |c::cs,h=>by simp only[sa,ab]at h;simp only[sA,ab];exact⟨J1 p c h.1,BI p cs h.2⟩
theorem aw6(p:Nat->Bool):∀l:List (List ar),sB l=No->t_ p l=No
 | [],_=>by simp[t_]
 |c::cs,h=>by simp only[sB,ab]at h;simp only[t_,ab];exact⟨BI p c h.1,aw6 p cs h.2⟩
end
mutual
theorem DJ{θ:Nat->ar}(b:Fit θ)(p:Nat->Bool):∀v:ar,v.ids p=No->(v.sub θ).ids p=No
 | .b4 _,_=>by simp[ar.sub,ar.ids]
 | .any,_=>by simp[ar.sub,ar.ids]
 | .ey i,_=>by rw[mK];exact J1 p _ (b i).kl
 | .rs es,h=>by simp only[ar.ids]at h;simp only[ar.sub,ar.ids];exact O_ b p es h
 | .fT cs,h=>by simp only[ar.ids]at h;simp only[ar.sub,ar.ids];exact BK b p cs h
 | .fn _ a c,h=>by simp only[ar.ids,ab]at h;simp only[ar.sub,ar.ids,ab];exact⟨BK b p a h.1,BK b p c h.2⟩
 | .agg cs,h=>by simp only[ar.ids]at h;simp only[ar.sub,ar.ids];exact BK b p cs h
 | .ed cs,h=>by simp only[ar.ids]at h;simp only[ar.sub,ar.ids];exact BK b p cs h
 | .mY c,h=>by simp only[ar.ids]at h;simp only[ar.sub,ar.ids];exact DJ b p c h
 | .ms ..,h=>by simpa[ar.sub,ar.ids]using h
 | .mp ..,h=>by simpa[ar.sub,ar.ids]using h
 | .mm _,h=>by simpa[ar.sub,ar.ids]using h
 | .it _,h=>by simpa[ar.sub,ar.ids]using h
 | .c8 ..,h=>by simpa[ar.sub,ar.ids]using h
 | .ps ..,h=>by simpa[ar.sub,ar.ids]using h
theorem BK{θ:Nat->ar}(a:Fit θ)(p:Nat->Bool):∀l:List ar,sA p l=No->sA p (ni θ l)=No
 | [],_=>by simp[ni,sA]
 |c::cs,h=>by simp only[sA,ab]at h;simp only[ni,sA,ab];exact⟨DJ a p c h.1,BK a p cs h.2⟩
theorem O_{θ:Nat->ar}(a:Fit θ)(p:Nat->Bool):∀l:List (List ar),t_ p l=No->t_ p (o8 θ l)=No
 | [],_=>by simp[o8,t_]
 |c::cs,h=>by simp only[t_,ab]at h;simp only[o8,t_,ab];exact⟨BK a p c h.1,O_ a p cs h.2⟩
end
def aU8{G:ca}(hp:∀i,p i=No->ι i=Q1 (Q1 i)){u:Value}(o:eR G v u):v.ids p=No->eR (G.oM ι) v u:=by
 have e:∀i q,p i=No->G.pl i=Q1 q->(G.oM ι).pl i=Q1 q:=λi q a7 g=>by simp only[ca.oM,hp i a7];exact g
 induction o with
 |any v=>intro _;exact .any v
 |b4 v=>intro _;exact .b4 v
 |q9=>intro _;exact .q9
 |rs es a cap size val hs hc hlen himm _ k =>intro h;exact .rs es a cap size val hs hc hlen himm (λi j a7 hj=>k i j a7 hj (wJ (DB h _ (ay a7)) _ (ay hj)))
 |fT cs a val hs himm _ k =>intro h;exact .fT cs a val hs himm (λj hj=>k j hj (wJ h _ (ay hj)))
 |ms id size off len q g hv hz a c ha ho hl hsp=>intro h;exact .ms id size off len q (e _ _ h g) hv hz a c ha ho hl hsp
 |oh id size q g hv=>intro h;exact .oh id size q (e _ _ h g) hv
 |mp id i j q g=>intro h;exact .mp id i j q (e _ _ h g)
 |mm id q g=>intro h;exact .mm id q (e _ _ h g)
 |it id q g=>intro h;exact .it id q (e _ _ h g)
 |mY rows b ents himm hlen uX _ k =>intro h;refine .mY rows b ents himm hlen uX (λi a7 d=>k i a7 d ?_);have l:=DB h _ (ay a7);generalize rows[i]=r at l;unfold oW;split;exact wJ l _ (by simp);simp[ar.ids]
 |fn f first cap fv cv h1 h2 _ _ m n =>intro h;simp only[ar.ids,ab]at h;exact .fn f first cap fv cv h1 h2 (λi a7 d=>m i a7 d (wJ h.1 _ (ay a7))) (λi a7 d=>n i a7 d (wJ h.2 _ (ay a7)))
 |agg cs vs h1 _ k=>intro h;exact .agg cs vs h1 (λi a7 d=>k i a7 d (wJ h _ (ay a7)))
 |ed cs vs h1 _ k=>intro h;exact .ed cs vs h1 (λi a7 d=>k i a7 d (wJ h _ (ay a7)))
def nI.ids(hp:∀i,p i=No->ι i=Q1 (Q1 i))(h:v.ids p=No):nI ι v v:=λ_ _ a=>aU8 hp a h
def c7.ids(p:Nat->Bool):c7->Bool
 | .row _ _ es=>t_ p es
 | .map _ es _=>es.all λe=>e.2.1.ids p
 | .qO _ _=>No
 | .tq Ld _ _ _=>No
 | .tq (Q1 i) _ _ _=>p i
 | .fN _ _ _=>No
 | .nC c=>c.ids p
 | .nH ..=>N2
 | .qh _ _=>No
def p4.ids(hp:∀i,p i=No->ι i=Q1 (Q1 i)){θ:Nat->ar}(g:Fit θ){o:c7}(h:o.ids p=No):p4 ι (o.sub θ) (o.sub θ):=by
 cases o with
 |row e z es =>have h2:=O_ g p es h;rw[vQ]at h2;refine⟨rfl,rfl,rfl,λi a7 l=>⟨rfl,λj hj t=>nI.ids hp ?_⟩⟩;exact wJ (DB h2 _ (ay a7)) _ (ay hj)
 |map agg es c=>
  refine⟨rfl,rfl,rfl,λi a7 l=>⟨rfl,nI.ids hp ?_,rfl⟩⟩;have d:i<es.length:=by simpa using a7
  simp only[b_];exact DJ g p _ (aj.1 h _ (ay d))
 |qO a b=>exact⟨rfl,rfl⟩
 |tq m a b c =>cases m;exact⟨rfl,rfl,rfl⟩;rename_i i;exact⟨hp i h,rfl,rfl,rfl⟩
 |fN e z i=>
  refine⟨rfl,rfl,rfl,λa ha u=>⟨rfl,λb q v=>?_⟩⟩;rcases(g i).cases with⟨_,_,f⟩|⟨_,f⟩|⟨_,f⟩|⟨es,f⟩|⟨_,f⟩|⟨_,f⟩
  simp[f,rowsOf]at ha;simp[f,rowsOf]at ha;simp[f,rowsOf]at ha;have n:=(g i).kl;rw[f]at n;simp only[f]at ha q⊢;exact nI.ids hp (J1 p _ (rY n a ha b q));simp[f,rowsOf]at ha;simp[f,rowsOf]at ha
 |nC c=>
  have h2:=DJ g p c h;refine⟨rfl,rfl,rfl,λi a7 l=>⟨rfl,nI.ids hp ?_,rfl⟩⟩;have d:i<(rowsOf (c.sub θ)).length:=by rw[Bc]at a7;exact a7
  rw[Ff _ _ _ a7 d];generalize c.sub θ=tR at *;cases tR with
  |rs es =>simp only[rowsOf]at d⊢;have k:=DB h2 _ (ay d);generalize es[i]=r at k;unfold oW;split;exact wJ k _ (by simp);simp[ar.ids]
  |_=>simp[rowsOf]at d
 |nH=>simp[c7.ids]at h
 |qh s p=>exact⟨rfl,rfl⟩
variable {a:Nat}{ck:nW}{j k off r:Nat}{rows:List (List ar)}{v:ar}{z:Nat}{ι:Nat->Option (Option Nat)}
def vY(row:List ar)(c:Nat×TypeId×Nat):c7:=.row c.2.1 c.2.2 (rowsOf (row.getD c.1 (.rs [])))
def Ai(r:Nat)(row:List ar):nW->List (Nat×c7)
 | []=>[]
 |c::cs=>(hid r c.1,vY row c)::Ai r row cs
def ox(ck:nW):Nat->List (List ar)->List (Nat×c7)
 |_,[]=>[]
 |r,row::rows=>Ai r row ck++ox ck (r+1) rows
def Gv{c:Nat}(hc:c<16)(a:16*(r+1)<=mB):hid r c=16*r+c:=Nat.mod_eq_of_lt (by omega)
def Wx(i:Nat):∀a b:List (Nat×c7),k5 (a++b) i=match k5 a i with|some o=>Q1 o|none=>k5 b i
 | [],b=>rfl
 |p::a,b=>by simp only[cL,k5];split;rfl;exact Wx i a b
def WK(b:16*(r+1)<=mB)(row:List ar)(i:Nat):∀ {ck:nW},(∀c∈ck,c.1<16)->k5 (Ai r row ck) i=if i / 16=r then(pw ck (i%16)).map (vY row)else Ld
 | [],_=>by simp[Ai,k5,pw]
 |c::cs,hc=>by
  have h1:=hc c (by simp);have d:=WK b row i (ck:=cs) (λc hm=>hc c (by simp[hm]));simp only[Ai,k5,Gv h1 b];by_cases e:i=16*r+c.1;have f:i / 16=r:=by omega
  have a:i%16=c.1:=by omega
  rw[cr e,cr f,a];simp[pw];rw[cc e,d];split;have a:ax c.1 (i%16)=N2:=by
   cases g:ax c.1 (i%16)with
   |false=>rfl
   |true=>have:=ae g;omega
  simp[pw,a];rfl
def Jo(hc:∀c∈ck,c.1<16)(i:Nat):∀(rows:List (List ar)) (a:Nat),16*(a+rows.length)<=mB->k5 (ox ck a rows) i=if a<=i / 16 then(match rows[i / 16-a]? with|some row=>(pw ck (i%16)).map (vY row)|none=>Ld)else Ld
 | [],a,_=>by simp[ox,k5]
 |row::rows,a,b=>by
  have f:=Jo hc i rows (a+1) (by simp at b;omega);simp only[ox];rw[Wx,WK (by simp at b;omega) row i hc,f];by_cases e:i / 16=a;simp only[e,aB,Nat.sub_self];cases pw ck (i%16)with
  |some c=>rfl
  |none=>simp;omega
  simp only[e,l4];by_cases d:a<=i / 16;have g:a+1<=i / 16:=by omega
  have h:i / 16-a=(i / 16-(a+1))+1:=by omega
  rw[cr g,cr d,h,aF];rw[cc (by omega),cc d]
def xU(ck:nW)(rows:List (List ar)):Prop:=16*rows.length<=mB/\(∀c∈ck,c.1<16)/\(ar.rs rows).kl=No/\∀r∈rows,∀c∈ck,∃xs,r[c.1]?=Q1 (.rs xs)
def Jq:∀ {rows:List (List ar)} {a:Nat} {p:Nat×c7},p∈ox ck a rows->∃r row c,rows[r]?=Q1 row/\c∈ck/\p=(hid (a+r) c.1,vY row c)
 | [],_,_,h=>by simp[ox]at h
 |row::rows,a,p,h=>by
  simp only[ox,aY]at h;rcases h with h|h
  have aux:∀cs:nW,p∈Ai a row cs->∃c∈cs,p=(hid a c.1,vY row c):=by
   intro cs
   induction cs with
   |nil=>intro h;simp[Ai]at h
   |cons c cs d=>
    intro h;simp only[Ai,aD]at h;rcases h with h|h
    exact⟨c,by simp,h⟩;obtain⟨e,h1,h2⟩:=d h;exact⟨e,by simp[h1],h2⟩
  obtain⟨c,h1,h2⟩:=aux ck h;exact⟨0,row,c,by simp,h1,by simpa using h2⟩;obtain⟨r,b,c,h1,h2,f⟩:=Jq h;exact⟨r+1,b,c,by simpa using h1,h2,by rw[f];congr 2;omega⟩
def Jk(h:xU ck rows){p:Nat×c7}(hp:p∈ox ck 0 rows):p.1<mB/\rN p.2=No:=by obtain⟨r,row,c,h1,h2,rfl⟩:=Jq hp;refine⟨xQ _ _,?_⟩;obtain⟨e,rfl⟩:=ak.1 h1;obtain⟨xs,f⟩:=h.2.2.2 _ (ay e) c h2;have a:=h.2.2.1;obtain⟨b,d⟩:=ak.1 f;have:=rY a r e c.1 b;rw[d]at this;simp only[vY,List.getD_eq_getElem?_getD,f,cA,rowsOf,rN];simpa only[ar.kl]using this
def nI.kl(h:v.kl=No):nI ι v v:=λG _ a=>rr (G:=G) (G':=G.oM ι) (λ_ _ b=>b) a h
def p4.rN{o:c7}(h:rN o=No):p4 ι o o:=by
 cases o with
 |row e z es=>exact⟨rfl,rfl,rfl,λi a7 a=>⟨rfl,λj hj b=>nI.kl (rY (es:=es) (by simp only[ar.kl];exact h) i a7 j hj)⟩⟩
 |_=>simp[Go.Ab.rN]at h
def nI.ms{b o l:Nat}(h:ι a=Q1 (Q1 b)):nI ι (.ms a z o l) (.ms b z o l):=by
 intro G u d;cases d with
 |ms _ _ _ _ p hp hv hz e c f ho hl hsp=>exact .ms a z o l p (by simp only[ca.oM,h];exact hp) hv hz e c f ho hl hsp
 |oh _ _ p hp hv=>exact .oh a z p (by simp only[ca.oM,h];exact hp) hv
def nI.bo0(h:ι a=Q1 Ld):nI ι (.ms a z 0 0) (.b4 (.slice Ld 0 0)):=by intro G u b;cases b;exact .oh a z ⟨0,0,0,No⟩ (by simp only[ca.oM,h]) rfl
def IQ(ck:nW):∀(row:List ar) (a j:Nat),(rp ck a row)[j]?=(row[j]?).map (zW ck (a+j))
 | [],a,j=>by simp[rp]
 |v::vs,a,0=>by simp[rp]
 |v::vs,a,j+1=>by simp only[rp,aF];rw[IQ ck vs (a+1) j];congr 2;omega
def VF(ck:nW):∀(row:List ar) (a:Nat),(rp ck a row).length=row.length
 | [],_=>rfl
 |_::vs,a=>by simp[rp,VF ck vs]
def Bq(ck:nW)(r j:Nat)(v:ar):wO ck r j v=match pw ck j with|some c=>.ms (hid r j) c.2.2 0 (rowsOf v).length|none=>v:=rfl
def p4.cells{e:TypeId}{A B:List (List ar)}(hl:A.length=B.length)(h:∀(r:Nat) (a b:List ar),A[r]?=Q1 a->B[r]?=Q1 b->a.length=b.length/\∀(j:Nat) (x y:ar),a[j]?=Q1 x->b[j]?=Q1 y->nI ι x y):p4 ι (.row e z A) (.row e z B):=by refine⟨rfl,rfl,hl,λi a7 c=>?_⟩;obtain⟨h1,h2⟩:=h i _ _ (af a7) (af c);exact⟨h1,λj hj d=>h2 j _ _ (af hj) (af d)⟩
def IL(q:Nat)(i:Nat):∀H:List (Nat×c7),k5 (H.filter (λp=>!Nat.beq p.1 q)) i=if i=q then Ld else k5 H i
 | []=>by simp[k5]
 |p::H=>by
  have b:=IL q i H;by_cases e:p.1=q;have:ax p.1 q=No:=by rw[cg];exact e
  simp only[bV,this,Bool.not_true,aG,l4,b,k5];by_cases a:i=q;simp[a];rw[cc a,cc a,cc (by omega)];have:ax p.1 q=N2:=by
   cases c:ax p.1 q with
   |false=>rfl
   |true=>exact b8 (ae c) e
  simp only[bV,this,Bool.not_false,me,k5,b];by_cases a:i=q;subst a;rw[cr rfl,cc (by omega)];simp;simp[a]
def yp{c:Nat×TypeId×Nat}(h:pw ck j=Q1 c):c∈ck/\c.1=j:=by refine⟨List.mem_of_find?_eq_some h,?_⟩;have:=List.find?_some h;exact ae this
theorem PQ{ck:nW}{r a j b n:Nat}(e:16*n<=mB)(f:r<n)(d:a<n)(hj:j<16)(c:b<16)(h:hid r j=hid a b):r=a/\j=b:=by rw[Gv hj (by omega),Gv c (by omega)]at h;omega
def OZ(hc:∀c∈ck,c.1<16)(hl:16*rows.length<=mB){row:List ar}(a:rows[r]?=Q1 row)(hj:j<16):k5 (ox ck 0 rows) (hid r j)=(pw ck j).map (vY row):=by
 have b:=(ak.1 a).1;rw[Jo hc _ _ _ (by simpa using hl),Gv hj (by omega)];have d:(16*r+j) / 16=r:=by omega
 have e:(16*r+j)%16=j:=by omega
 simp only[d,e,Nat.zero_le,me,Nat.sub_zero,a]
def O6{i:Nat}(a7:mB<=i):k5 (ox ck 0 rows) i=Ld:=by
 cases a:k5 (ox ck 0 rows) i with
 |none=>rfl
 |some o =>obtain⟨r,row,c,_,_,lb⟩:=Jq (wI a);cases lb;have:=xQ (0+r) c.1;omega
def sK(rows:List (List ar))(k off:Nat)(v:ar):List (List ar):=match rows[k]? with
 |some row=>rows.set k (row.set off v)
 |none=>rows
def Ws{row:List ar}(a:rows[k]?=Q1 row)(r:Nat):(sK rows k off v)[r]?=if r=k then Q1 (row.set off v)else rows[r]?:=by have hk:=(ak.1 a).1;simp only[sK,a];by_cases e:k=r;subst e;simp[hk];simp[e,jL e]
def E3:(sK rows k off v).length=rows.length:=by unfold sK;split<;>simp
theorem xU.put(h:xU ck rows){xs:List (List ar)}(l:(ar.rs xs).kl=No):xU ck (sK rows k off (.rs xs)):=by
 obtain⟨h1,h2,g,j⟩:=h;cases a:rows[k]? with
 |none=>
  have:sK rows k off (.rs xs)=rows:=by simp[sK,a]
  rw[this];exact⟨h1,h2,g,j⟩
 |some row=>
  have f:=aH a;have e:∀r∈sK rows k off (.rs xs),r=row.set off (.rs xs)\/r∈rows:=λr b=>by obtain⟨i,a7⟩:=List.mem_iff_getElem?.1 b;rw[Ws a]at a7;split at a7;cases a7;exact .inl rfl;exact .inr (aH a7)
  refine⟨by rw[E3];exact h1,h2,?_,λr b c hc=>?_⟩;simp only[ar.kl,DL,aj]at g l⊢;intro r b x d;rcases e r b with rfl|b
  rcases List.mem_or_eq_of_mem_set d with d|rfl
  exact g row f x d;simp only[ar.kl,DL,aj];exact l;exact g r b x d;rcases e r b with rfl|b
  obtain⟨ys,m⟩:=j row f c hc;rw[List.getElem?_set];split;have n:=(ak.1 m).1;rw[cr (by omega)];exact⟨xs,rfl⟩;exact⟨ys,m⟩;exact j r b c hc
def vu(n:Nat)(R:List ar)(i:Nat):ar:=match cM i n with
 |true=>(R[n-1-i]?).getD (.b4 (.bool N2))
 |false=>.b4 (.bool N2)
theorem vS(R:List ar):env R.reverse=vu R.length R:=by grind[env,vu,bP]
def sN(T:cy)(Φ:lv)(Q:ar->Prop)(r:nf)(n:Nat)(R:List ar)(A:Nat->List ar->Prop):Prop:=n=R.length->sQ T Φ Q r R.reverse A
section
variable {T:cy} {Φ:lv} {Q:ar->Prop} {n:Nat} {R:List ar} {A:Nat->List ar->Prop}
def sN.OV{o:nU}{pat:ar}{r:nf}(vs:List ar)(he:iv T Φ (vu n R) o=Q1 (pat.sub (vu (n+vs.length) (vs++R))))(hv:∀v∈vs,nN v)(h:sN T Φ Q r (n+vs.length) (vs++R) A):sN T Φ Q (.op o n pat r) n R A:=λa=>by
 subst a;have e:(vs++R).reverse=R.reverse++vs.reverse:=by simp
 refine sQ.OV vs.reverse (by grind[vS]) (by simp) (λv hm=>hv v (by simpa using hm)) ?_;have:=h (by simp[iU]);rw[e]at this;exact this
def sN.test{i:Nat}{a b:nf}(t:Bool)(a7:vu n R i=.b4 (.bool t))(h1:t=No->sN T Φ Q a n R A)(h2:t=N2->sN T Φ Q b n R A):sN T Φ Q (.test i a b) n R A:=λc=>by subst c;exact sQ.test t (by rw[vS];exact a7) (λh=>h1 h rfl) (λh=>h2 h rfl)
def sN.Py{c:ar}{l:List Nat}(hl:∀j∈l,∃es,vu n R j=.rs es)(h:Q (c.sub (vu n R))):sN T Φ Q (.ret c l) n R A:=λa=>by subst a;exact sQ.Py (by rw[vS];exact hl) (by rw[vS];exact h)
def sN.loop{k:Nat}{inits:List ar}{body:nf}(I:Nat->List ar->Prop)(d:body.ff (n+k+1)=No)(n0:Nat)(cu:I n0 (inits.map (ar.sub (vu n R))))
  (h:∀m j9,I m j9->j9.length=k->sN T Φ Q body (n+k+1) (.b4 (.bool N2)::(j9.reverse++R)) (λb=>if b=n then(λa=>∃c,c<m/\I c a)else A b)):sN T Φ Q (.loop n k inits body) n R A:=λe=>by
 subst e;refine sQ.loop I (by simp) d n0 (by rw[vS];exact cu) (λm j9 a7 hl=>?_);have:=h m j9 a7 hl (by simp;omega);simpa using this
end
mutual
inductive dn where
 |int (k:IntKind)
 |bool
 |str
 |sF
 |nl
 |hF (l:dr)
 |agg (l:dr)
 |ptr (l:dr)
 |rH (l:dr)
 |ed (l:dr)
 |fn (g:Nat) (l:dr)
inductive dr where
 |nil
 |one (s:dn)
 |cons (s:dn) (l:dr)
end
variable {s:dn}{Γ:List dn}
mutual
@[reducible] def dn.T:dn->Type
 | .int _=>Int
 | .bool=>Bool
 | .str=>ByteArray
 | .sF=>Unit
 | .nl=>Unit
 | .hF l=>List l.T
 | .agg l=>l.T
 | .ptr l=>l.T
 | .rH l=>List l.T
 | .ed l=>l.T
 | .fn _ l=>l.T
@[reducible] def dr.T:dr->Type
 | .nil=>Unit
 | .one s=>s.T
 | .cons s l=>s.T×l.T
end
mutual
def enc:(s:dn)->s.T->ar
 | .int k,n=>.b4 (.int k n)
 | .bool,b=>.b4 (.bool b)
 | .str,s=>.b4 (.string s)
 | .sF,_=>.b4 (.bool No)
 | .nl,_=>.b4 (.slice Ld 0 0)
 | .hF l,xs=>.rs (xs.map (a6 l))
 | .agg l,x=>.agg (a6 l x)
 | .ptr l,x=>.fT (a6 l x)
 | .rH l,xs=>.mY (.rs (xs.map (a6 l)))
 | .ed l,x=>.ed (a6 l x)
 | .fn g l,x=>.fn (.func g) [] (a6 l x)
def a6:(l:dr)->l.T->List ar
 | .nil,_=>[]
 | .one s,x=>[enc s x]
 | .cons s l,x=>enc s x.1::a6 l x.2
end
def IntKind.nR:IntKind->IntKind->Bool
 | .i8,.i8=>No
 | .i16,.i16=>No
 | .i32,.i32=>No
 | .i64,.i64=>No
 | .u8,.u8=>No
 | .u16,.u16=>No
 | .u32,.u32=>No
 | .u64,.u64=>No
 |_,_=>N2
def IntKind.sR:∀ {a b:IntKind},IntKind.nR a b=No->a=b:=by intro a b h;cases a<;>cases b<;>first|rfl| (simp[IntKind.nR]at h)
mutual
def dn.nR:dn->dn->Bool
 | .int k,.int b=>IntKind.nR k b
 | .bool,.bool=>No
 | .str,.str=>No
 | .sF,.sF=>No
 | .nl,.nl=>No
 | .hF l,.hF a=>l.nR a
 | .agg l,.agg a=>l.nR a
 | .ptr l,.ptr a=>l.nR a
 | .rH l,.rH a=>l.nR a
 | .ed l,.ed a=>l.nR a
 | .fn g l,.fn c a=>ax g c&&l.nR a
 |_,_=>N2
def dr.nR:dr->dr->Bool
 | .nil,.nil=>No
 | .one s,.one s'=>s.nR s'
 | .cons s l,.cons s' a=>s.nR s'&&l.nR a
 |_,_=>N2
end
mutual
theorem dn.sR:∀(a b:dn),a.nR b=No->a=b
 | .int k,b,h=>by cases b<;>simp[dn.nR]at h;rw[IntKind.sR h]
 | .bool,b,h=>by cases b<;>simp[dn.nR]at h;rfl
 | .str,b,h=>by cases b<;>simp[dn.nR]at h;rfl
 | .sF,b,h=>by cases b<;>simp[dn.nR]at h;rfl
 | .nl,b,h=>by cases b<;>simp[dn.nR]at h;rfl
 | .hF l,b,h=>by cases b<;>simp[dn.nR]at h;rw[dr.sR l _ h]
 | .agg l,b,h=>by cases b<;>simp[dn.nR]at h;rw[dr.sR l _ h]
 | .ptr l,b,h=>by cases b<;>simp[dn.nR]at h;rw[dr.sR l _ h]
 | .rH l,b,h=>by cases b<;>simp[dn.nR]at h;rw[dr.sR l _ h]
 | .ed l,b,h=>by cases b<;>simp[dn.nR]at h;rw[dr.sR l _ h]
 | .fn g l,b,h=>by cases b<;>simp[dn.nR]at h;rw[h.1,dr.sR l _ h.2]
theorem dr.sR:∀(a b:dr),a.nR b=No->a=b
 | .nil,b,h=>by cases b<;>simp[dr.nR]at h;rfl
 | .one s,b,h=>by cases b<;>simp[dr.nR]at h;rw[dn.sR s _ h]
 | .cons s l,b,h=>by cases b<;>simp[dr.nR]at h;rw[dn.sR s _ h.1,dr.sR l _ h.2]
end
def Cl{a b:dn}(h:a.nR b=No)(x:a.T):b.T:=(dn.sR a b h)▸x
def Dj{a b:dn}(h:a.nR b=No)(x:a.T):enc b (Cl h x)=enc a x:=by have:=dn.sR a b h;subst this;rfl
def dr.len:dr->Nat
 | .nil=>0
 | .one _=>1
 | .cons _ l=>l.len+1
theorem ui:∀(l:dr) (x:l.T),(a6 l x).length=l.len
 | .nil,_=>rfl
 | .one _,_=>rfl
 | .cons s l,x=>by simp[a6,dr.len,ui l x.2]
mutual
theorem PD:∀(s:dn) (x:s.T),(enc s x).kl=No
 | .int _,_=>rfl
 | .bool,_=>rfl
 | .str,_=>rfl
 | .sF,_=>rfl
 | .nl,_=>rfl
 | .hF l,xs=>by simp only[enc,ar.kl,DL,fW,aj];intro x _;exact yB l x
 | .agg l,x=>by simp only[enc,ar.kl,uv];exact yB l x
 | .ptr l,x=>by simp only[enc,ar.kl,uv];exact yB l x
 | .rH l,xs=>by simp only[enc,ar.kl,DL,fW,aj];intro x _;exact yB l x
 | .ed l,x=>by simp only[enc,ar.kl,uv];exact yB l x
 | .fn g l,x=>by simp only[enc,ar.kl,uv,gp,Bool.true_and];exact yB l x
theorem yB:∀(l:dr) (x:l.T),(a6 l x).all ar.kl=No
 | .nil,_=>rfl
 | .one s,x=>by simp only[a6,bU,gp,dN];exact PD s x
 | .cons s l,x=>by simp only[a6,bU,PD s x.1,yB l x.2,bw]
end
def dn.cell:dn->Bool
 | .int _=>No
 | .bool=>No
 | .str=>No
 | .hF _=>No
 | .ptr _=>No
 | .rH _=>No
 |_=>N2
def aK8(h:s.cell=No)(x:s.T):nN (enc s x):=by have hp:=PD s x;cases s<;>simp[dn.cell]at h<;>simp only[enc]at hp⊢<;>first|trivial|exact hp
def Env:List dn->Type
 | []=>Unit
 |s::Γ=>s.T×Env Γ
def pF:(Γ:List dn)->Env Γ->List ar
 | [],_=>[]
 |s::Γ,e=>enc s e.1::pF Γ e.2
theorem sg:∀(Γ:List dn) (e:Env Γ),(pF Γ e).length=Γ.length
 | [],_=>rfl
 |s::Γ,e=>by simp[pF,sg Γ e.2]
def re(Γ:List dn)(e:Env Γ):Nat->ar:=vu Γ.length (pF Γ e)
def En:(Γ:List dn)->Nat->(s:dn)->Option (Env Γ->s.T)
 | [],_,_=>Ld
 |g::_,0,s=>match h:g.nR s with
  |true=>Q1 λe=>Cl h e.1
  |false=>Ld
 |_::Γ,j+1,s=>match En Γ j s with
  |some f=>Q1 λe=>f e.2
  |none=>Ld
def ax9:∀(Γ:List dn) (j:Nat) (s:dn) (f:Env Γ->s.T),En Γ j s=Q1 f->∀e,(pF Γ e)[j]?=Q1 (enc s (f e))
 | [],_,_,_,h,_=>by simp[En]at h
 |g::Γ,0,s,f,h,e=>by unfold En at h;split at h;rename_i b;cases h;simp[pF,Dj];cases h
 |g::Γ,j+1,s,f,h,e=>by unfold En at h;split at h;rename_i a hf;cases h;have:=ax9 Γ j s a hf e.2;simpa[pF]using this;cases h
def A9(Γ:List dn)(i:Nat)(s:dn):Option (Env Γ->s.T):=match cM i Γ.length with
 |true=>En Γ (Γ.length-1-i) s
 |false=>Ld
def PO{i:Nat}{f:Env Γ->s.T}(h:A9 Γ i s=Q1 f)(e:Env Γ):re Γ e i=enc s (f e):=by unfold A9 at h;split at h;rename_i a;have:=ax9 Γ _ s f h e;unfold re vu;rw[a];simp only[this,cA];cases h
def ap5(Γ:List dn)(i:Nat):Option dn:=match cM i Γ.length with
 |true=>Γ[Γ.length-1-i]?
 |false=>Ld
def KL:Value->(s:dn)->Option s.T
 | .int k n,.int a=>match IntKind.nR k a with
  |true=>Q1 n
  |false=>Ld
 | .bool b,.bool=>Q1 b
 | .string s,.str=>Q1 s
 | .slice Ld 0 0,.nl=>Q1 ()
 |_,_=>Ld
def R2{v:Value}{x:s.T}(h:KL v s=Q1 x):ar.b4 v=enc s x:=by unfold KL at h;split at h;split at h;rename_i a;cases h;rw[IntKind.sR a];rfl;cases h;cases h;rfl;cases h;rfl;rfl;cases h
mutual
def mq(Γ:List dn):ar->(s:dn)->Option (Env Γ->s.T)
 | .ey i,s=>A9 Γ i s
 | .b4 v,s=>match KL v s with
  |some x=>Q1 λ_=>x
  |none=>Ld
 | .agg cs,.agg l=>q1 Γ cs l
 | .ed cs,.ed l=>q1 Γ cs l
 | .fT cs,.ptr l=>q1 Γ cs l
 | .rs es,.hF l=>G4 Γ es l
 | .mY c,.rH l=>mq Γ c (.hF l)
 | .fn (.func g) [] c,.fn a l=>match ax g a with
  |true=>q1 Γ c l
  |false=>Ld
 |_,_=>Ld
def q1(Γ:List dn):List ar->(l:dr)->Option (Env Γ->l.T)
 | [],.nil=>Q1 λ_=>()
 | [a],.one s=>mq Γ a s
 |a::az,.cons s l=>match mq Γ a s with
  |some f=>match q1 Γ az l with
   |some g=>Q1 λe=>(f e,g e)
   |none=>Ld
  |none=>Ld
 |_,_=>Ld
def G4(Γ:List dn):List (List ar)->(l:dr)->Option (Env Γ->List l.T)
 | [],_=>Q1 λ_=>[]
 |r::rs,l=>match q1 Γ r l with
  |some f=>match G4 Γ rs l with
   |some g=>Q1 λe=>f e::g e
   |none=>Ld
  |none=>Ld
end
mutual
theorem mM{Γ:List dn}:∀(a:ar) (s:dn) (f:Env Γ->s.T),mq Γ a s=Q1 f->∀e,a.sub (re Γ e)=enc s (f e)
 | .ey i,s,f,h,e=>by simp only[mq]at h;simp only[ar.sub];exact PO h e
 | .b4 v,s,f,h,e=>by simp only[mq]at h;split at h;rename_i x b;cases h;simp only[ar.sub];exact R2 b;cases h
 | .agg cs,s,f,h,e=>by
  cases s<;>simp only[mq]at h<;>try (cases h;done)
  simp only[ar.sub,enc,xB cs _ _ h e]
 | .ed cs,s,f,h,e=>by
  cases s<;>simp only[mq]at h<;>try (cases h;done)
  simp only[ar.sub,enc,xB cs _ _ h e]
 | .fT cs,s,f,h,e=>by
  cases s<;>simp only[mq]at h<;>try (cases h;done)
  simp only[ar.sub,enc,xB cs _ _ h e]
 | .rs es,s,f,h,e=>by
  cases s<;>simp only[mq]at h<;>try (cases h;done)
  simp only[ar.sub,enc,aq3 es _ _ h e]
 | .mY c,s,f,h,e=>by
  cases s<;>simp only[mq]at h<;>try (cases h;done)
  simp only[ar.sub,enc,mM c _ _ h e]
 | .fn g a c,s,f,h,e=>by
  cases g<;>cases a<;>cases s<;>simp only[mq]at h<;>try (cases h;done)
  split at h;rename_i d;have:=ae d;subst this;simp only[ar.sub,enc,xB c _ _ h e,ni];cases h
 | .any,s,f,h,e=>by cases s<;>simp only[mq]at h<;>cases h
 | .ms _ _ _ _,s,f,h,e=>by cases s<;>simp only[mq]at h<;>cases h
 | .mp _ _ _,s,f,h,e=>by cases s<;>simp only[mq]at h<;>cases h
 | .mm _,s,f,h,e=>by cases s<;>simp only[mq]at h<;>cases h
 | .it _,s,f,h,e=>by cases s<;>simp only[mq]at h<;>cases h
 | .c8 _ _ _,s,f,h,e=>by cases s<;>simp only[mq]at h<;>cases h
 | .ps _ _ _,s,f,h,e=>by cases s<;>simp only[mq]at h<;>cases h
theorem xB{Γ:List dn}:∀(az:List ar) (l:dr) (f:Env Γ->l.T),q1 Γ az l=Q1 f->∀e,ni (re Γ e) az=a6 l (f e)
 | [],l,f,h,e=>by
  cases l<;>simp only[q1]at h<;>try (cases h;done)
  rfl
 | [a],l,f,h,e=>by
  cases l with
  |nil=>simp only[q1]at h;cases h
  |one s=>simp only[q1]at h;simp only[ni,a6,mM a s f h e]
  |cons s l =>simp only[q1]at h;split at h;rename_i c hf;split at h;rename_i g d;cases h;have:=xB [] l g (by simpa only[q1]using d) e;simp only[ni]at this;simp only[ni,a6,mM a s c hf e,<-this];cases h;cases h
 |a::b::az,l,f,h,e=>by
  cases l with
  |nil=>simp only[q1]at h;cases h
  |one s=>simp only[q1]at h;cases h
  |cons s l =>simp only[q1]at h;split at h;rename_i c hf;split at h;rename_i g d;cases h;have:=xB (b::az) l g d e;rw[ni,a6,mM a s c hf e,this];cases h;cases h
theorem aq3{Γ:List dn}:∀(es:List (List ar)) (l:dr) (f:Env Γ->List l.T),G4 Γ es l=Q1 f->∀e,o8 (re Γ e) es=(f e).map (a6 l)
 | [],l,f,h,e=>by simp only[G4]at h;cases h;rfl
 |r::rs,l,f,h,e=>by simp only[G4]at h;split at h;rename_i a hf;split at h;rename_i g b;cases h;simp only[o8,au,xB r l a hf e,aq3 rs l g b e];cases h;cases h
end
def dr.ofList:List dn->dr
 | []=>.nil
 | [s]=>.one s
 |s::t=>.cons s (dr.ofList t)
mutual
def oa(Γ:List dn):ar->Option dn
 | .ey i=>ap5 Γ i
 | .b4 (.int k _)=>Q1 (.int k)
 | .b4 (.bool _)=>Q1 .bool
 | .b4 (.string _)=>Q1 .str
 | .b4 (.slice Ld 0 0)=>Q1 .nl
 | .agg cs=>match KD Γ cs with
  |some l=>Q1 (.agg (dr.ofList l))
  |none=>Ld
 | .fT cs=>match KD Γ cs with
  |some l=>Q1 (.ptr (dr.ofList l))
  |none=>Ld
 | .rs (r::_)=>match KD Γ r with
  |some l=>Q1 (.hF (dr.ofList l))
  |none=>Ld
 | .mY c=>match oa Γ c with
  |some (.hF l)=>Q1 (.rH l)
  |_=>Ld
 |_=>Ld
def KD(Γ:List dn):List ar->Option (List dn)
 | []=>Q1 []
 |a::az=>match oa Γ a with
  |some s=>match KD Γ az with
   |some l=>Q1 (s::l)
   |none=>Ld
  |none=>Ld
end
structure Ext(X:Type)(Γ:List dn) where
 Γ':List dn
 push:X->Env Γ->Env Γ'
def L6:Value->(s:dn)->(Γ:List dn)->Option (Ext s.T Γ)
 | .bool b,.sF,Γ=>match b with
  |true=>Q1 ⟨Γ,λ_ e=>e⟩
  |false=>Ld
 |_,_,_=>Ld
mutual
def rG:ar->(s:dn)->(Γ:List dn)->Option (Ext s.T Γ)
 | .ey i,s,Γ=>match ax i Γ.length&&s.cell with
  |true=>Q1 ⟨s::Γ,λv e=>(v,e)⟩
  |false=>Ld
 | .b4 w,s,Γ=>L6 w s Γ
 | .agg cs,.agg l,Γ=>su cs l Γ
 | .fT cs,.ptr l,Γ=>su cs l Γ
 | .ed cs,.ed l,Γ=>su cs l Γ
 | .fn (.func g) [] cs,.fn g2 l,Γ=>match ax g g2 with
  |true=>su cs l Γ
  |false=>Ld
 |_,_,_=>Ld
def su:List ar->(l:dr)->(Γ:List dn)->Option (Ext l.T Γ)
 | [],.nil,Γ=>Q1 ⟨Γ,λ_ e=>e⟩
 | [a],.one s,Γ=>rG a s Γ
 |a::az,.cons s l,Γ=>match rG a s Γ with
  |some ⟨b,mJ⟩=>match su az l b with
   |some ⟨c,nj⟩=>Q1 ⟨c,λv e=>nj v.2 (mJ v.1 e)⟩
   |none=>Ld
  |none=>Ld
 |_,_,_=>Ld
end
def Lt{Γ:List dn}{X:Type}(x:Ext X Γ)(sub:(Nat->ar)->Prop)(v:X)(e:Env Γ):Prop :=∃vs,pF x.Γ' (x.push v e)=vs++pF Γ e/\(∀u∈vs,nN u)/\∀us,sub (vu (us++(vs++pF Γ e)).length (us++(vs++pF Γ e)))
def aV2(us:List ar)(v:ar)(R:List ar):vu (us++(v::R)).length (us++(v::R)) R.length=v:=by
 unfold vu;have h:cM R.length (us++(v::R)).length=No:=by rw[bP];simp;omega
 rw[h];have h2:(us++(v::R)).length-1-R.length=us.length:=by simp
 simp
def aH1{w:Value}{x:Ext s.T Γ}(h:L6 w s Γ=Q1 x)(v:s.T)(e:Env Γ):Lt x (λθ=>(ar.b4 w).sub θ=enc s v) v e:=by unfold L6 at h;split at h;split at h;cases h;exact⟨[],rfl,by simp,λus=>rfl⟩;cases h;cases h
mutual
theorem JK:∀(a:ar) (s:dn) (Γ:List dn) (x:Ext s.T Γ),rG a s Γ=Q1 x->∀v e,Lt x (λθ=>a.sub θ=enc s v) v e
 | .ey i,s,Γ,x,h,v,e=>by simp only[rG]at h;split at h;rename_i d;cases h;simp only[ab]at d;have a7:=ae d.1;refine⟨[enc s v],rfl,?_,λus=>?_⟩;intro u hu;simp only[bL]at hu;subst hu;exact aK8 d.2 v;simp only[ar.sub];rw[a7,<-sg Γ e];exact aV2 us _ _;cases h
 | .b4 w,s,Γ,x,h,v,e=>by simp only[rG]at h;exact aH1 h v e
 | .agg cs,s,Γ,x,h,v,e=>by
  cases s<;>simp only[rG]at h<;>try (cases h;done)
  rename_i l;obtain⟨vs,h1,h2,b⟩:=yy cs l Γ x h v e;exact⟨vs,h1,h2,λus=>by simp only[ar.sub,enc,b us]⟩
 | .fT cs,s,Γ,x,h,v,e=>by
  cases s<;>simp only[rG]at h<;>try (cases h;done)
  rename_i l;obtain⟨vs,h1,h2,b⟩:=yy cs l Γ x h v e;exact⟨vs,h1,h2,λus=>by simp only[ar.sub,enc,b us]⟩
 | .ed cs,s,Γ,x,h,v,e=>by
  cases s<;>simp only[rG]at h<;>try (cases h;done)
  rename_i l;obtain⟨vs,h1,h2,b⟩:=yy cs l Γ x h v e;exact⟨vs,h1,h2,λus=>by simp only[ar.sub,enc,b us]⟩
 | .rs _,s,Γ,x,h,v,e=>by cases s<;>simp only[rG]at h<;>cases h
 | .mY _,s,Γ,x,h,v,e=>by cases s<;>simp only[rG]at h<;>cases h
 | .fn g a c,s,Γ,x,h,v,e=>by
  cases g<;>cases a<;>cases s<;>simp only[rG]at h<;>try (cases h;done)
  split at h;rename_i d;have:=ae d;subst this;obtain⟨vs,h1,h2,b⟩:=yy c _ Γ x h v e;exact⟨vs,h1,h2,λus=>by simp only[ar.sub,enc,b us,ni]⟩;cases h
 | .any,s,Γ,x,h,v,e=>by cases s<;>simp only[rG]at h<;>cases h
 | .ms _ _ _ _,s,Γ,x,h,v,e=>by cases s<;>simp only[rG]at h<;>cases h
 | .mp _ _ _,s,Γ,x,h,v,e=>by cases s<;>simp only[rG]at h<;>cases h
 | .mm _,s,Γ,x,h,v,e=>by cases s<;>simp only[rG]at h<;>cases h
 | .it _,s,Γ,x,h,v,e=>by cases s<;>simp only[rG]at h<;>cases h
 | .c8 _ _ _,s,Γ,x,h,v,e=>by cases s<;>simp only[rG]at h<;>cases h
 | .ps _ _ _,s,Γ,x,h,v,e=>by cases s<;>simp only[rG]at h<;>cases h
theorem yy:∀(az:List ar) (l:dr) (Γ:List dn) (x:Ext l.T Γ),su az l Γ=Q1 x->∀v e,Lt x (λθ=>ni θ az=a6 l v) v e
 | [],l,Γ,x,h,v,e=>by
  cases l<;>simp only[su]at h<;>try (cases h;done)
  cases h;exact⟨[],rfl,by simp,λus=>rfl⟩
 | [a],l,Γ,x,h,v,e=>by
  cases l with
  |nil=>simp only[su]at h;cases h
  |one s =>simp only[su]at h;obtain⟨vs,h1,h2,j⟩:=JK a s Γ x h v e;exact⟨vs,h1,h2,λus=>by simp only[ni,a6,j us]⟩
  |cons s l=>
   simp only[su]at h;split at h;rename_i f mJ hf;split at h;rename_i m nj n;cases h;obtain⟨vs,h1,h2,j⟩:=JK a s Γ _ hf v.1 e;obtain⟨c,d,g,i⟩:=yy [] l f _ (by simpa only[su]using n) v.2 (mJ v.1 e);simp only at h1 d;refine⟨c++vs,by simp only[d,h1,bm],?_,λus=>?_⟩;intro u hu;rcases aY.1 hu with hu|hu
   exact g u hu;exact h2 u hu;have k:=j (us++c);have a2:=i us;rw[h1]at a2;simp only[bm]at k a2⊢;rw[ni,a6,k,<-a2];cases h;cases h
 |a::b::az,l,Γ,x,h,v,e=>by
  cases l with
  |nil=>simp only[su]at h;cases h
  |one s=>simp only[su]at h;cases h
  |cons s l=>
   simp only[su]at h;split at h;rename_i f mJ hf;split at h;rename_i m nj n;cases h;obtain⟨vs,h1,h2,j⟩:=JK a s Γ _ hf v.1 e;obtain⟨c,d,g,i⟩:=yy (b::az) l f _ n v.2 (mJ v.1 e);simp only at h1 d;refine⟨c++vs,by simp only[d,h1,bm],?_,λus=>?_⟩;intro u hu;rcases aY.1 hu with hu|hu
   exact g u hu;exact h2 u hu;have k:=j (us++c);have a2:=i us;rw[h1]at a2;simp only[bm]at k a2⊢;rw[ni,a6,k,<-a2];cases h;cases h
end
variable {a:Int}{args:List ar}{b:Int}{f:FuncId}{i:ar}{k:IntKind}{l:List ar}{o:BinOp}{t:TypeId}{x:ar}
structure c9 where
 f:FuncId
 mW:dr
 nu:dn
 fn:mW.T->Option nu.T
def c9.Ok(Φ:lv)(t:c9):Prop:=∀x r,t.fn x=Q1 r->∃φ,Φ t.f=Q1 φ/\φ (a6 t.mW x)=Q1 (enc t.nu r)
structure mR(Γ:List dn) where
 s:dn
 g:Env Γ->Option s.T
def mR.Ok(T:cy)(Φ:lv){Γ:List dn}(o:nU)(t:mR Γ):Prop:=∀e v,t.g e=Q1 v->iv T Φ (re Γ e) o=Q1 (enc t.s v)
def Mu(o:BinOp)(k:IntKind):Option ((s:dn)×(Int->Int->Option s.T)):=match o with
 | .add=>Q1 ⟨.int k,λa b=>Q1 (k.wrap (a+b))⟩
 | .sub=>Q1 ⟨.int k,λa b=>Q1 (k.wrap (a-b))⟩
 | .mul=>Q1 ⟨.int k,λa b=>Q1 (k.wrap (a*b))⟩
 | .quo=>Q1 ⟨.int k,λa b=>bif Eo (b=0)then Ld else Q1 (k.wrap (a.tdiv b))⟩
 | .rem=>Q1 ⟨.int k,λa b=>bif Eo (b=0)then Ld else Q1 (a.tmod b)⟩
 | .and=>Q1 ⟨.int k,λa b=>Q1 (k.wrap (bO k.bits a &&& bO k.bits b).toNat)⟩
 | .or=>Q1 ⟨.int k,λa b=>Q1 (k.wrap (bO k.bits a |||bO k.bits b).toNat)⟩
 | .eql=>Q1 ⟨.bool,λa b=>Q1 (Eo (a=b))⟩
 | .neq=>Q1 ⟨.bool,λa b=>Q1 (!decide (a=b))⟩
 | .lss=>Q1 ⟨.bool,λa b=>Q1 (Eo (a<b))⟩
 | .leq=>Q1 ⟨.bool,λa b=>Q1 (Eo (a<=b))⟩
 | .gtr=>Q1 ⟨.bool,λa b=>Q1 (Eo (b<a))⟩
 | .geq=>Q1 ⟨.bool,λa b=>Q1 (Eo (b<=a))⟩
 |_=>Ld
def aU2{T:cy}{q:(s:dn)×(Int->Int->Option s.T)}(h:Mu o k=Q1 q){v:q.1.T}(hv:q.2 a b=Q1 v)(t:TypeId):q7 T o t (.b4 (.int k a)) (.b4 (.int k b))=Q1 (enc q.1 v):=by
 unfold Mu at h;split at h<;>first| (cases h;done)|skip
 all_goals (cases h;simp only[ah]at hv)
 case h_4 =>by_cases c:b=0;simp[c]at hv;simp only[c,n4,bu,ah]at hv;subst hv;simp[q7,yc,enc,c]
 case h_5 =>by_cases c:b=0;simp[c]at hv;simp only[c,n4,bu,ah]at hv;subst hv;simp[q7,yc,enc,c]
 all_goals (subst hv;simp[q7,yc,enc])
 rfl;rfl
def P0(o:BinOp)(k:IntKind):Option (Int->Int->Option Int):=match o with
 | .shl=>Q1 λa b=>bif Eo (b<0)then Ld else Q1 (k.wrap (a*2^(min b.toNat k.bits)))
 | .shr=>Q1 λa b=>bif Eo (b<0)then Ld else Q1 (a.fdiv (2^(min b.toNat k.bits)))
 |_=>Ld
def bM1{T:cy}{d:IntKind}{q:Int->Int->Option Int}(h:P0 o k=Q1 q){v:Int}(hv:q a b=Q1 v)(t:TypeId):q7 T o t (.b4 (.int k a)) (.b4 (.int d b))=Q1 (.b4 (.int k v)):=by
 unfold P0 at h;split at h<;>first| (cases h;done)|skip
 all_goals
  cases h;by_cases c:b<0;simp[c]at hv;simp only[c,n4,bu,ah]at hv;subst hv;simp[q7,yc,c]
def xb:(l:dr)->Option (l.T->l.T->Bool)
 | .one (.int .i64)=>Q1 λa b=>Eo (a=b)
 | .cons (.int .i64) l=>match xb l with
  |some g=>Q1 λa b=>Eo (a.1=b.1)&&g a.2 b.2
  |none=>Ld
 |_=>Ld
def aB2:∀(l:dr) (g:l.T->l.T->Bool),xb l=Q1 g->∃ints:l.T->List Int,(∀x,ar.vf (a6 l x)=Q1 (ints x)/\(ints x).length=l.len)/\∀a b,(ints a==ints b)=g a b
 | .nil,g,h=>by simp[xb]at h
 | .one s,g,h=>by
  cases s with
  |int k=>
   cases k<;>simp only[xb]at h<;>try (cases h;done)
   cases h;refine⟨λx=>[x],λx=>⟨rfl,rfl⟩,λa b=>?_⟩;by_cases c:a=b<;>simp[c]
  |_=>simp[xb]at h
 | .cons s l,g,h=>by
  cases s with
  |int k=>
   cases k<;>simp only[xb]at h<;>try (cases h;done)
   split at h;rename_i e f;cases h;obtain⟨ints,h1,h2⟩:=aB2 l e f;refine⟨λx=>x.1::ints x.2,λx=>⟨?_,by simp[dr.len,(h1 x.2).2]⟩,λa b=>?_⟩;simp only[a6,enc,ar.vf,(h1 x.2).1];have i:∀(p q:Int) (x y:List Int),((p::x)==(q::y))=(Eo (p=q)&&(x==y)):=λp q x y=>by by_cases d:p=q<;>simp[d]
   rw[i,h2];cases h
  |_=>simp[xb]at h
def Qc(T:cy)(Γ:List dn)(o:BinOp)(t:TypeId)(x y:ar):Option (mR Γ):=match oa Γ x with
 |some (.int k)=>match mq Γ x (.int k)with
  |some b=>match P0 o k with
   |some q=>match oa Γ y with
    |some (.int c)=>match mq Γ y (.int c)with
     |some a=>Q1 ⟨.int k,λe=>q (b e) (a e)⟩
     |none=>Ld
    |_=>Ld
   |none=>match mq Γ y (.int k)with
    |some a=>match Mu o k with
     |some q=>Q1 ⟨q.1,λe=>q.2 (b e) (a e)⟩
     |none=>Ld
    |none=>Ld
  |none=>Ld
 |some .bool=>match mq Γ x .bool with
  |some b=>match mq Γ y .bool with
   |some a=>match T t with
    |some { j4:=.bool,.. }=>match o with
     | .eql=>Q1 ⟨.bool,λe=>Q1 (b e==a e)⟩
     | .neq=>Q1 ⟨.bool,λe=>Q1 (!(b e==a e))⟩
     |_=>Ld
    |_=>Ld
   |none=>Ld
  |none=>Ld
 |some .str=>match mq Γ x .str with
  |some b=>match mq Γ y .str with
   |some a=>match o with
    | .eql=>Q1 ⟨.bool,λe=>Q1 ((b e).toList==(a e).toList)⟩
    | .neq=>Q1 ⟨.bool,λe=>Q1 (!((b e).toList==(a e).toList))⟩
    |_=>Ld
   |none=>Ld
  |none=>Ld
 |some (.agg l)=>match mq Γ x (.agg l)with
  |some b=>match mq Γ y (.agg l)with
   |some a=>match xb l with
    |some q=>match T t with
     |some ti=>match ti.flat with
      |some n=>match ax n l.len with
       |true=>match o with
        | .eql=>Q1 ⟨.bool,λe=>Q1 (q (b e) (a e))⟩
        | .neq=>Q1 ⟨.bool,λe=>Q1 (!(q (b e) (a e)))⟩
        |_=>Ld
       |false=>Ld
      |none=>Ld
     |none=>Ld
    |none=>Ld
   |none=>Ld
  |none=>Ld
 |_=>Ld
def ba8{T:cy}{Φ:lv}{Γ:List dn}{y:ar}{r:mR Γ}(h:Qc T Γ o t x y=Q1 r):r.Ok T Φ (.bin o t x y):=by intro e v hv;unfold Qc at h;split at h;split at h;rename_i i b;split at h;rename_i q c;split at h;split at h;rename_i f a;cases h;simp only[iv,mM _ _ _ b e,mM _ _ _ a e];exact bM1 c hv t;cases h;cases h;split at h;rename_i f a;split at h;rename_i q c;cases h;simp only[iv,mM _ _ _ b e,mM _ _ _ a e];exact aU2 c hv t;cases h;cases h;cases h;split at h;rename_i i b;split at h;rename_i f a;split at h;rename_i d;split at h;cases h;cases hv;simp[iv,mM _ _ _ b e,mM _ _ _ a e,enc,q7,d];cases h;cases hv;simp[iv,mM _ _ _ b e,mM _ _ _ a e,enc,q7,d];cases h;cases h;cases h;cases h;split at h;rename_i i b;split at h;rename_i f a;split at h;cases h;cases hv;simp[iv,mM _ _ _ b e,mM _ _ _ a e,enc,q7,yc];cases h;cases hv;simp[iv,mM _ _ _ b e,mM _ _ _ a e,enc,q7,yc];cases h;cases h;cases h;split at h;rename_i i b;split at h;rename_i f a;split at h;rename_i q c;obtain⟨ints,h1,h2⟩:=aB2 _ _ c;split at h;rename_i ti d;split at h;rename_i n j;split at h;rename_i g;have g:=ae g;split at h;cases h;cases hv;simp only[iv,mM _ _ _ b e,mM _ _ _ a e,enc,q7,(h1 _).1,d,j,(h1 _).2,g,and_self,me,h2];cases h;cases hv;simp only[iv,mM _ _ _ b e,mM _ _ _ a e,enc,q7,(h1 _).1,d,j,(h1 _).2,g,and_self,me,h2];cases h;cases h;cases h;cases h;cases h;cases h;cases h;cases h
def Qw(Γ:List dn)(o:UnOp)(x:ar):Option (mR Γ):=match o with
 | .neg=>match oa Γ x with
  |some (.int k)=>match mq Γ x (.int k)with
   |some a=>Q1 ⟨.int k,λe=>Q1 (k.wrap (0-a e))⟩
   |none=>Ld
  |_=>Ld
 | .not=>match mq Γ x .bool with
  |some a=>Q1 ⟨.bool,λe=>Q1 (!(a e))⟩
  |none=>Ld
 |_=>Ld
def bQ0{T:cy}{Φ:lv}{Γ:List dn}{o:UnOp}{r:mR Γ}(h:Qw Γ o x=Q1 r):r.Ok T Φ (.un o x):=by intro e v hv;unfold Qw at h;split at h;split at h;split at h;rename_i b a;cases h;cases hv;simp[iv,mM _ _ _ a e,enc,wD];cases h;cases h;split at h;rename_i b a;cases h;cases hv;simp[iv,mM _ _ _ a e,enc,wD];cases h;cases h
def TE(T:cy)(Γ:List dn)(s:TypeId)(x:ar):Option (mR Γ):=match T s with
 |some { j4:=.slice el,.. }=>match T el with
  |some { j4:=.int .u8,.. }=>match mq Γ x (.hF (.one (.int .u8)))with
   |some a=>Q1 ⟨.str,λe=>Q1 (zP (a e))⟩
   |none=>Ld
  |_=>Ld
 |_=>Ld
def L0(T:cy)(Γ:List dn)(s d:TypeId)(x:ar):Option (mR Γ):=match T s with
 |some _=>match T d with
  |some { j4:=.int k,.. }=>match oa Γ x with
   |some (.int a)=>match mq Γ x (.int a)with
    |some b=>Q1 ⟨.int k,λe=>Q1 (k.wrap (b e))⟩
    |none=>Ld
   |_=>Ld
  |some { j4:=.string,.. }=>TE T Γ s x
  |_=>Ld
 |none=>Ld
def cd3(l:List Int):xV (l.map (a6 (.one (.int .u8))))=Q1 l:=by
 induction l with
 |nil=>rfl
 |cons n l a =>have e:(n::l).map (a6 (.one (.int .u8)))=[.b4 (.int .u8 n)]::l.map (a6 (.one (.int .u8))):=rfl;rw[e];unfold xV;rw[a]
def aR3{T:cy}{Φ:lv}{Γ:List dn}{s d:TypeId}{r:mR Γ}(h:L0 T Γ s d x=Q1 r):r.Ok T Φ (.conv s d x):=by
 intro e v hv;unfold L0 at h;split at h;rename_i hs;split at h;rename_i hd;split at h;split at h;rename_i b a;cases h;cases hv;simp[iv,mM _ _ _ a e,enc,w0,hs,hd];cases h;cases h;rename_i hd;unfold TE at h;split at h;rename_i c;split at h;rename_i he;split at h;rename_i b a;cases h;cases hv;have f:iv T Φ (re Γ e) (.conv s d x)=w0 T s d (enc (.hF (.one (.int .u8))) (b e)):=by simp only[iv,mM _ _ _ a e]
 rw[f];simp only[w0,c,hd,he,enc];have g:xV (cm (a6 (.one (.int .u8))) (b e))=Q1 (b e):=cd3 (b e);rw[g];cases h;cases h;cases h;cases h;cases h
def nth{α:Type}(xs:List α)(i:Int):Option α:=bif Eo (0<=i)then xs[i.toNat]? else Ld
def Qj(T:cy)(Γ:List dn)(t:TypeId)(x i:ar):Option (mR Γ):=match T t with
 |some { j4:=.slice el,.. }=>match T el with
  |some a=>match oa Γ x with
   |some (.hF l)=>match mq Γ x (.hF l)with
    |some b=>match oa Γ i with
     |some (.int k)=>match mq Γ i (.int k)with
      |some c=>match ax l.len a.size with
       |true=>Q1 ⟨.ptr l,λe=>nth (b e) (c e)⟩
       |false=>Ld
      |none=>Ld
     |_=>Ld
    |none=>Ld
   |_=>Ld
  |none=>Ld
 |_=>Ld
def aT0{T:cy}{Φ:lv}{Γ:List dn}{r:mR Γ}(h:Qj T Γ t x i=Q1 r):r.Ok T Φ (.idx t x i):=by intro e v hv;unfold Qj at h;split at h;rename_i d;split at h;rename_i g he;split at h;split at h;rename_i j a;split at h;split at h;rename_i f b;split at h;rename_i c;have c:=ae c;cases h;simp only[nth]at hv;by_cases cu:0<=f e;simp only[cu,l6,b6]at hv;simp only[iv,mM _ _ _ a e,mM _ _ _ b e,enc,sH,d,he,cu];rw[aO,hv];simp only[ai,ui,c,me];simp[cu]at hv;cases h;cases h;cases h;cases h;cases h;cases h;cases h
def DE(s:dn):(l:dr)->Option (l.T->List s.T)
 | .nil=>Q1 λ_=>[]
 | .one s'=>match h:s'.nR s with
  |true=>Q1 λx=>[Cl h x]
  |false=>Ld
 | .cons s' l=>match h:s'.nR s with
  |true=>match DE s l with
   |some g=>Q1 λx=>Cl h x.1::g x.2
   |none=>Ld
  |false=>Ld
def PJ(s:dn):∀(l:dr) (g:l.T->List s.T),DE s l=Q1 g->∀x,a6 l x=(g x).map (enc s)
 | .nil,g,h,x=>by simp only[DE]at h;cases h;rfl
 | .one s',g,h,x=>by unfold DE at h;split at h;cases h;simp only[a6,au,dj,Dj];cases h
 | .cons s' l,g,h,x=>by unfold DE at h;split at h;split at h;rename_i a b;cases h;simp only[a6,au,Dj,PJ s l a b x.2];cases h;cases h
def dr.head:dr->dn
 | .nil=>.sF
 | .one s=>s
 | .cons s _=>s
def pE(s:ByteArray)(i:Int):Option Int:=bif Eo (0<=i)then(s[i.toNat]?).map (λb=>(b.toNat:Int))else Ld
def DN(T:cy)(Γ:List dn)(t:TypeId)(x i:ar):Option (mR Γ):=match oa Γ i with
 |some (.int k)=>match mq Γ i (.int k)with
  |some b=>match T t with
   |some { j4:=.array len el,.. }=>match T el with
    |some c=>match oa Γ x with
     |some (.agg l)=>match mq Γ x (.agg l)with
      |some a=>match DE l.head l with
       |some g=>match ax l.len len&&(ax c.size 1&&!c.isAgg)with
        |true=>Q1 ⟨l.head,λe=>nth (g (a e)) (b e)⟩
        |false=>Ld
       |none=>Ld
      |none=>Ld
     |_=>Ld
    |none=>Ld
   |some { j4:=.string,.. }=>match mq Γ x .str with
    |some a=>Q1 ⟨.int .u8,λe=>pE (a e) (b e)⟩
    |none=>Ld
   |_=>Ld
  |none=>Ld
 |_=>Ld
def cb0{T:cy}{Φ:lv}{Γ:List dn}{r:mR Γ}(h:DN T Γ t x i=Q1 r):r.Ok T Φ (.index t x i):=by
 intro e v hv;unfold DN at h;split at h;split at h;rename_i d f;split at h;rename_i len el _ _ _ _ n;split at h;rename_i q he;split at h;rename_i l hl;split at h;rename_i k c;split at h;rename_i g o;split at h;rename_i m;simp only[ab,cg,cT]at m;cases h;simp only[nth]at hv;by_cases cu:0<=d e;simp only[cu,l6,b6]at hv;have hlen:(g (k e)).length=l.len:=by have:=lU eP (PJ _ _ _ o (k e));rw[ui,aI]at this;exact this.symm
 have j:=(ak.1 hv).1;have h1:d e<(len:Int):=by
  have:(d e).toNat<l.len:=by rw[hlen]at j;exact j
  rw[m.1]at this;have key:∀z:Int,0<=z->z.toNat<len->z<(len:Int):=λz a b=>by omega
  exact key _ cu this
 simp only[iv,mM _ _ _ c e,mM _ _ _ f e,enc,vZ,n,he,cu,h1,Ay,sj,m.2.2,m.2.1,Nat.mul_one];rw[PJ _ _ _ o,aO,hv];rfl;simp[cu]at hv;cases h;cases h;cases h;cases h;cases h;rename_i n;split at h;rename_i k c;cases h;simp only[pE]at hv;by_cases cu:0<=d e;simp only[cu]at hv;simp only[iv,mM _ _ _ c e,mM _ _ _ f e,enc,vZ,n,cu];cases p:(k e)[(d e).toNat]? with
 |none=>rw[p]at hv;cases hv
 |some b=>rw[p]at hv;cases hv;rfl
 simp[cu]at hv;cases h;cases h;cases h;cases h
def yi(n:Nat)(x:Option Int)(d:Nat):Option Nat:=match x with
 |none=>Q1 d
 |some i=>bif Eo (0<=i)&&Eo (i<=n)then Q1 i.toNat else Ld
def tx{α:Type}(xs:List α)(b7 a7:Option Int):Option (List α):=match yi xs.length a7 xs.length with
 |some h=>match yi h b7 0 with
  |some l=>Q1 ((xs.take h).drop l)
  |none=>Ld
 |none=>Ld
def Ec(Γ:List dn):Option ar->Option (Env Γ->Option Int)
 |none=>Q1 λ_=>Ld
 |some a=>match oa Γ a with
  |some (.int k)=>match mq Γ a (.int k)with
   |some f=>Q1 λe=>Q1 (f e)
   |none=>Ld
  |_=>Ld
def JI{Γ:List dn}{a:Option ar}{f:Env Γ->Option Int}(h:Ec Γ a=Q1 f)(e:Env Γ)(n d:Nat):bound n (a.map (ar.sub (re Γ e))) d=yi n (f e) d:=by unfold Ec at h;split at h;cases h;rfl;split at h;split at h;rename_i b hf;cases h;simp only[ai,mM _ _ _ hf e,enc,bound,yi];by_cases cu:0<=b e<;>by_cases h1:b e<=n<;>simp;cases h;cases h
def D8(s:ByteArray)(b7 a7:Option Int):Option ByteArray:=match yi s.size a7 s.size with
 |some h=>match yi h b7 0 with
  |some l=>Q1 (s.extract l h)
  |none=>Ld
 |none=>Ld
def Qu(T:cy)(Γ:List dn)(t:TypeId)(x:ar)(b7 a7:Option ar):Option (mR Γ):=match T t with
 |some { j4:=.slice el,.. }=>match T el with
  |some d=>match oa Γ x with
   |some (.hF l)=>match mq Γ x (.hF l)with
    |some a=>match Ec Γ b7 with
     |some b=>match Ec Γ a7 with
      |some c=>match ax l.len d.size with
       |true=>Q1 ⟨.hF l,λe=>tx (a e) (b e) (c e)⟩
       |false=>Ld
      |none=>Ld
     |none=>Ld
    |none=>Ld
   |_=>Ld
  |none=>Ld
 |some { j4:=.string,.. }=>match mq Γ x .str with
  |some a=>match Ec Γ b7 with
   |some b=>match Ec Γ a7 with
    |some c=>Q1 ⟨.str,λe=>D8 (a e) (b e) (c e)⟩
    |none=>Ld
   |none=>Ld
  |none=>Ld
 |_=>Ld
def aX7{T:cy}{Φ:lv}{Γ:List dn}{b7 a7:Option ar}{r:mR Γ}(h:Qu T Γ t x b7 a7=Q1 r):r.Ok T Φ (.Cq t x b7 a7):=by intro e v hv;unfold Qu at h;split at h;rename_i g;split at h;rename_i m he;split at h;split at h;rename_i j a;split at h;rename_i k b;split at h;rename_i l c;split at h;rename_i i;have i:=ae i;cases h;simp only[tx]at hv;simp only[iv,mM _ _ _ a e,enc,uB,g,he,aI,JI c e,JI b e];split at hv;rename_i h1 d;split at hv;rename_i l2 f;cases hv;simp only[d,f];rw[cr];rw[<-List.map_take,<-List.map_drop];simp[ui,i];cases hv;cases hv;cases h;cases h;cases h;cases h;cases h;cases h;rename_i g;split at h;rename_i j a;split at h;rename_i k b;split at h;rename_i l c;cases h;simp only[D8]at hv;simp only[iv,mM _ _ _ a e,enc,uB,g,JI c e,JI b e];split at hv;rename_i h1 d;split at hv;rename_i l2 f;cases hv;simp only[d,f];cases hv;cases hv;cases h;cases h;cases h;cases h
def Qo(T:cy)(Γ:List dn)(t:TypeId)(x:ar):Option (mR Γ):=match T t with
 |some { j4:=.slice _,.. }=>match oa Γ x with
  |some (.hF l)=>match mq Γ x (.hF l)with
   |some a=>Q1 ⟨.int .i64,λe=>Q1 ((a e).length:Int)⟩
   |none=>Ld
  |_=>Ld
 |some { j4:=.string,.. }=>match mq Γ x .str with
  |some a=>Q1 ⟨.int .i64,λe=>Q1 ((a e).size:Int)⟩
  |none=>Ld
 |_=>Ld
def ba4{T:cy}{Φ:lv}{Γ:List dn}{r:mR Γ}(h:Qo T Γ t x=Q1 r):r.Ok T Φ (.len t x):=by intro e v hv;unfold Qo at h;split at h;rename_i b;split at h;split at h;rename_i c a;cases h;cases hv;simp[iv,mM _ _ _ a e,enc,p3,b,goInt];cases h;cases h;rename_i b;split at h;rename_i c a;cases h;cases hv;simp[iv,mM _ _ _ a e,enc,p3,b,goInt];cases h;cases h
def qG(a b:Int):Int:=if b > a then b else a
def w6(a b:Int):Int:=if b<a then b else a
def Ek(Γ:List dn)(k:IntKind):List ar->Option (Env Γ->List Int)
 | []=>Q1 λ_=>[]
 |a::az=>match mq Γ a (.int k)with
  |some f=>match Ek Γ k az with
   |some g=>Q1 λe=>f e::g e
   |none=>Ld
  |none=>Ld
def OH{Γ:List dn}:∀(az:List ar) (f:Env Γ->List Int),Ek Γ k az=Q1 f->∀e,az.map (ar.sub (re Γ e))=(f e).map (λn=>ar.b4 (.int k n))
 | [],f,h,e=>by simp only[Ek]at h;cases h;rfl
 |a::az,f,h,e=>by simp only[Ek]at h;split at h;rename_i c hf;split at h;rename_i g b;cases h;simp only[au,mM _ _ _ hf e,enc,OH az g b e];cases h;cases h
def Wq(k:IntKind):∀(l:List Int) (a:Int),Ag k a (l.map (λn=>ar.b4 (.int k n)))=Q1 (.int k (l.foldl qG a))
 | [],_=>rfl
 |b::l,a=>by simp only[au];exact Wq k l _
def WC(k:IntKind):∀(l:List Int) (a:Int),Ah k a (l.map (λn=>ar.b4 (.int k n)))=Q1 (.int k (l.foldl w6 a))
 | [],_=>rfl
 |b::l,a=>by simp only[au];exact WC k l _
def Qr(Γ:List dn)(l:List ar):Option (mR Γ):=match l with
 |a::az=>match oa Γ a with
  |some (.int k)=>match mq Γ a (.int k)with
   |some f=>match Ek Γ k az with
    |some g=>Q1 ⟨.int k,λe=>Q1 ((g e).foldl qG (f e))⟩
    |none=>Ld
   |none=>Ld
  |_=>Ld
 | []=>Ld
def Qq(Γ:List dn)(l:List ar):Option (mR Γ):=match l with
 |a::az=>match oa Γ a with
  |some (.int k)=>match mq Γ a (.int k)with
   |some f=>match Ek Γ k az with
    |some g=>Q1 ⟨.int k,λe=>Q1 ((g e).foldl w6 (f e))⟩
    |none=>Ld
   |none=>Ld
  |_=>Ld
 | []=>Ld
def bP6{T:cy}{Φ:lv}{Γ:List dn}{r:mR Γ}(h:Qr Γ l=Q1 r):r.Ok T Φ (.pP l):=by intro e v hv;unfold Qr at h;split at h;split at h;split at h;rename_i f hf;split at h;rename_i g a;cases h;cases hv;simp only[iv,au,mM _ _ _ hf e,enc,zn,OH _ _ a e,Wq,ai];cases h;cases h;cases h;cases h
def bP5{T:cy}{Φ:lv}{Γ:List dn}{r:mR Γ}(h:Qq Γ l=Q1 r):r.Ok T Φ (.yT l):=by intro e v hv;unfold Qq at h;split at h;split at h;split at h;rename_i f hf;split at h;rename_i g a;cases h;cases hv;simp only[iv,au,mM _ _ _ hf e,enc,zl,OH _ _ a e,WC,ai];cases h;cases h;cases h;cases h
def dn.Fi:dn->Bool
 | .nl=>No
 |s=>s.cell
variable {Γ:List dn}{r:mR Γ}{s:dn}
def OG(h:s.Fi=No)(x:s.T):(enc s x).one=No:=by cases s<;>first|rfl| (simp[dn.Fi,dn.cell]at h)
def dr.cells:dr->Bool
 | .nil=>No
 | .one s=>s.Fi
 | .cons s l=>s.Fi&&l.cells
def Jc:∀ {l:dr},l.cells=No->∀x:l.T,(a6 l x).all ar.one=No
 | .nil,_,_=>rfl
 | .one s,h,x=>by simp only[a6,bU,gp,dN];exact OG h x
 | .cons s l,h,x=>by simp only[dr.cells,ab]at h;simp only[a6,bU,OG h.1,Jc h.2,bw]
def j6{α:Type}(bytes:Nat)(xs ys:List α):Option (List α):=bif Eo ((2*(xs.length+ys.length)+1000)*bytes<=2^48)&&Eo (xs.length+ys.length<=2^62)then Q1 (xs++ys)else Ld
def Qd(T:cy)(Γ:List dn)(sT xT:TypeId)(x y:ar):Option (mR Γ):=match T sT with
 |some { j4:=.slice el,.. }=>match T xT with
  |some b=>match T el with
   |some a=>match(match oa Γ x with|some s=>Q1 s|none=>oa Γ y)with
    |some (.hF l)=>match mq Γ x (.hF l)with
     |some c=>match mq Γ y (.hF l)with
      |some d=>match(!b.isInt)&&(ax l.len a.size&&(l.cells&&cM 0 a.size))with
       |true=>Q1 ⟨.hF l,λe=>j6 a.bytes (c e) (d e)⟩
       |false=>Ld
      |none=>Ld
     |none=>Ld
    |_=>Ld
   |none=>Ld
  |none=>Ld
 |_=>Ld
def bb4{T:cy}{Φ:lv}{sT xT:TypeId}{y:ar}(h:Qd T Γ sT xT x y=Q1 r):r.Ok T Φ (.cat sT xT x y):=by
 intro e v hv;unfold Qd at h;split at h;rename_i i;split at h;rename_i o a;split at h;rename_i j he;split at h;split at h;rename_i d b;split at h;rename_i f c;split at h;rename_i g;simp only[ab,cg,cT,bP]at g;obtain⟨k,l,m,n⟩:=g;cases h;simp only[j6]at hv;cases hc:(Eo ((2*((d e).length+(f e).length)+1000)*j.bytes<=2^48)&&Eo ((d e).length+(f e).length<=2^62))with
 |false=>rw[hc]at hv;cases hv
 |true =>rw[hc]at hv;simp only[ab,kA]at hc;cases hv;simp only[iv,mM _ _ _ b e,mM _ _ _ c e,enc,Hl,i,a,he,aI];rw[cr];rw[ez];refine⟨k,?_,hc.1,hc.2,n⟩;rw[fW,aj];intro y _;simp[ui,l,Jc m y]
 cases h;cases h;cases h;cases h;cases h;cases h;cases h
def dn.tU:dn->Bool
 | .int _=>No
 | .bool=>No
 | .str=>No
 | .sF=>No
 |_=>N2
def dr.tU:dr->Bool
 | .nil=>No
 | .one s=>s.tU
 | .cons s l=>s.tU&&l.tU
def dn.sv:dn->Bool
 | .agg l=>l.tU
 |s=>s.tU
def dr.sv:dr->Bool
 | .nil=>No
 | .one s=>s.sv
 | .cons s l=>s.sv&&l.sv
def dn.M0:dn->Bool
 | .ed l=>l.sv
 | .agg l=>l.tU
 |s=>s.tU
def au3(h:s.tU=No)(x:s.T):∃v,enc s x=.b4 v:=by cases s<;>simp[dn.tU]at h<;>exact⟨_,rfl⟩
def I9:∀ {l:dr},l.tU=No->∀(x:l.T),(a6 l x).all (λc=>match c with| .b4 _=>No|_=>N2)=No
 | .nil,_,_=>rfl
 | .one s,h,x=>by obtain⟨v,hv⟩:=au3 (s:=s) h x;simp[a6,hv]
 | .cons s l,h,x=>by simp only[dr.tU,ab]at h;obtain⟨v,hv⟩:=au3 h.1 x.1;simp[a6,hv,I9 h.2]
def an0:∀ {l:dr},l.sv=No->∀(x:l.T),(a6 l x).all (λc=>match c with| .b4 _=>No| .agg a=>a.all (λd=>match d with| .b4 _=>No|_=>N2)|_=>N2)=No
 | .nil,_,_=>rfl
 | .one s,h,x=>by cases s<;>simp[dr.sv,dn.sv,dn.tU]at h<;>simp[a6,enc];exact λd hd=>aj.1 (I9 h x) d hd
 | .cons s l,h,x=>by simp only[dr.sv,ab]at h;have:=an0 h.2 x.2;rw[a6,bU,this,dN];have h1:=h.1;cases s<;>simp[dn.sv,dn.tU]at h1<;>simp[enc];exact λd hd=>aj.1 (I9 h1 x.1) d hd
def aO8(h:s.M0=No)(x:s.T):El (enc s x)=No:=by cases s<;>simp[dn.M0,dn.tU]at h<;>simp only[enc,El];exact I9 h x;exact an0 h x
def Ls(Γ:List dn)(f:FuncId)(args:List ar)(a:Bool)(t:c9):Option (mR Γ):=match ax t.f f&&(!a||t.nu.M0)with
 |true=>match q1 Γ args t.mW with
  |some b=>Q1 ⟨t.nu,λe=>t.fn (b e)⟩
  |none=>Ld
 |false=>Ld
def GU(Γ:List dn)(f:FuncId)(args:List ar)(a:Bool):List c9->Option (mR Γ)
 | []=>Ld
 |t::ts=>match Ls Γ f args a t with
  |some r=>Q1 r
  |none=>GU Γ f args a ts
def DC(θ:Nat->ar):∀l,ni θ l=l.map (ar.sub θ):=λl=>pT θ l
def bY1{T:cy}{Φ:lv}{d:Bool}{t:c9}(i:t.Ok Φ)(h:Ls Γ f args d t=Q1 r):r.Ok T Φ (.call f args d):=by
 intro e v hv;unfold Ls at h;split at h;rename_i a;simp only[ab,cg,bC,cT]at a;obtain⟨rfl,a⟩:=a;split at h;rename_i j c;cases h;obtain⟨φ,h1,h2⟩:=i _ _ hv;have g:=xB _ _ _ c e;rw[DC]at g;simp only[iv,h1,g,h2];rw[cr];intro b;rcases a with a|a
 rw[a]at b;cases b;exact aO8 a v;cases h;cases h
def ax1{T:cy}{Φ:lv}{a:Bool}:∀(b:List c9) {r:mR Γ},(∀t∈b,t.Ok Φ)->GU Γ f args a b=Q1 r->r.Ok T Φ (.call f args a)
 | [],r,_,h=>by simp[GU]at h
 |t::ts,r,c,h=>by simp only[GU]at h;split at h;rename_i e d;cases h;exact bY1 (c t (by simp)) d;exact ax1 ts (λt h=>c t (by simp[h])) h
def DF(Γ:List dn)(j:Nat):Bool:=match ap5 Γ j with
 |some (.hF l)=>(A9 Γ j (.hF l)).isSome
 |_=>N2
def aB0{j:Nat}(h:DF Γ j=No)(e:Env Γ):∃es,re Γ e j=.rs es:=by
 unfold DF at h;split at h;rename_i l _;cases hv:A9 Γ j (.hF l)with
 |none=>rw[hv]at h;cases h
 |some f=>exact⟨_,PO hv e⟩
 cases h
def LS(Γ:List dn)(l:List Nat):Option (mR Γ):=match l.all (DF Γ)with
 |true=>Q1 ⟨.sF,λ_=>Q1 ()⟩
 |false=>Ld
def aR0{T:cy}{Φ:lv}{l:List Nat}(h:LS Γ l=Q1 r):r.Ok T Φ (.rows l):=by intro e v hv;unfold LS at h;split at h;rename_i a;cases h;exact ba3 λj hj=>aB0 (aj.1 a j hj) e;cases h
end Go.Ab
