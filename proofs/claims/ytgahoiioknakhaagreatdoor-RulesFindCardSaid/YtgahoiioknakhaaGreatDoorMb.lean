/- A part of the proof; its readable source lies in wip of the prover's repo (squeezed here for the limit of bytes). -/
import Derived.Test.YtgahoiioknakhaaGreatDoorMa
import Derived.IntWalk
import Derived.Carry
import Derived.ChangeSame
set_option linter.all false
open Array renaming all_eq_true_iff_forall_mem->eV,eq_empty_of_size_eq_zero->iA,getElem?_eq_getElem->bo,getElem?_eq_none->fF,getElem?_eq_some_iff->aP,getElem?_push->cJ,getElem?_setIfInBounds_ne->iu,getElem?_setIfInBounds_self_of_lt->gL,replicate->bq
open BitVec renaming ofInt->aW
open Bool renaming and_eq_true->ab,and_self->bG,and_true->fQ,false_eq_true->aF,not_eq_true'->dt,or_eq_true->bx,true->Y,false->U
open Decidable renaming decide->No
open Function renaming comp_def->f_
open Go.Act renaming put->jx
open Go.DataW renaming Trod->mg,TrodAll->ig
open Go.Instr renaming next->jl,range->lT
open Go.Oper renaming upon->iW,wp->gB
open Go.Region renaming binds->cA,ready->bO,wanted->cS
open Go.Result renaming andThen_ok->ao
open Go.Sem renaming run_bind->ax,run_pure->bd
open Go.Utf8 renaming decode->cg
open Go.Value renaming bool->mf,okWide->gZ
open Go.Value.bool renaming injEq->jE
open List renaming all_cons->bE,all_eq_true->aj,all_map->gz,all_nil->dD,any_eq_true->gW,append_assoc->cz,append_nil->ba,append_of_mem->kC,cons_append->cV,eq_nil_of_length_eq_zero->dR,filter_cons->fz,filter_eq_self->g_,getElem?_append_left->jm,getElem?_append_right->eh,getElem?_cons_succ->aK,getElem?_eq_getElem->af,getElem?_eq_some_iff->aq,getElem?_map->aS,getElem?_set_ne->jX,getElem_map->cK,getElem_mem->au,length->aa,length_cons->aA,length_map->aI,length_singleton->fU,map->cD,map_append->ez,map_congr_left->cw,map_cons->aD,map_map->de,map_nil->cM,mem_append->aV,mem_append_left->dz,mem_cons->aG,mem_cons_of_mem->bC,mem_filterMap->dh,mem_map->aN,mem_of_getElem?->aH,mem_range->gf,mem_singleton->bz,nil_append->br,nodup_cons->dq,range'->eo,range->aT
open List.cons renaming injEq->cW
open Nat renaming add_assoc->fK,add_comm->jD,add_mul->cG,add_sub_cancel_left->gE,beq->aw,beq_eq->cy,ble->dI,blt->cL,blt_eq->bP,eq_of_beq_eq_true->ae,le_add_right->aZ,le_of_ble_eq_true->a_,le_refl->ay,le_succ->kD,le_trans->bD,mod_two_eq_zero_or_one->jk,mul_le_mul_right->b_,strongRecOn->ir,zero_add->bj
open Ne renaming symm->kx
open Option renaming getD_some->bM,map_none->d_,map_some->ai,some->Z,none->W
open Option.some renaming injEq->ah
namespace Go.Ab
open Go
variable [nO]
variable {i k:Nat}{α β:Type}
mutual
def bX.ff(k:Nat):bX->Bool
 | .ey i=>cL i k
 | .c8 _ _ i=>cL i k
 | .l3 _ i _=>cL i k
 | .mY c=>c.ff k
 | .rs es=>Fc k es
 | .fT cs=>rL k cs
 | .fn _ a c=>rL k a&&rL k c
 | .agg cs=>rL k cs
 | .ed cs=>rL k cs
 |_=>Y
def rL(k:Nat):eX->Bool
 | []=>Y
 |c::cs=>c.ff k&&rL k cs
def Fc(k:Nat):cu eX->Bool
 | []=>Y
 |c::cs=>rL k c&&Fc k cs
end
variable {a:Nat->bX}{b:bX}{θ:Nat->bX}
mutual
theorem nL{θ d:Nat->bX}{k:Nat}(h:∀i,i<k->d i=θ i):∀v:bX,v.ff k=Y->v.sub d=v.sub θ
 | .any,_=>by simp
 | .b4 v,_=>by simp
 | .rs es,b=>by simp only[bX.sub];rw[Ny h es (by simpa[bX.ff]using b)]
 | .fT cs,b=>by simp only[bX.sub];rw[wA h cs (by simpa[bX.ff]using b)]
 | .ms ..,_=>by simp
 | .mp ..,_=>by simp
 | .mm _,_=>by simp
 | .it _,_=>by simp
 | .fn f a c,b=>by simp only[bX.ff,ab]at b;simp only[bX.sub];rw[wA h a b.1,wA h c b.2]
 | .agg cs,b=>by simp only[bX.sub];rw[wA h cs (by simpa[bX.ff]using b)]
 | .ed cs,b=>by simp only[bX.sub];rw[wA h cs (by simpa[bX.ff]using b)]
 | .ey i,b=>by simp only[bX.ff,bP]at b;simp[h i b]
 | .c8 id e i,b=>by simp only[bX.ff,bP]at b;simp[h i b]
 | .l3 id i off,b=>by simp only[bX.ff,bP]at b;simp only[bX.sub,h i b]
 | .mY c,b=>by simp only[bX.sub];rw[nL h c (by simpa[bX.ff]using b)]
theorem wA{θ a:Nat->bX}{k:Nat}(h:∀i,i<k->a i=θ i):∀l:eX,rL k l=Y->ni a l=ni θ l
 | [],_=>by simp[ni]
 |c::cs,b=>by simp only[rL,ab]at b;simp only[ni];rw[nL h c b.1,wA h cs b.2]
theorem Ny{θ a:Nat->bX}{k:Nat}(h:∀i,i<k->a i=θ i):∀l:cu eX,Fc k l=Y->o8 a l=o8 θ l
 | [],_=>by simp[o8]
 |c::cs,b=>by simp only[Fc,ab]at b;simp only[o8];rw[wA h c b.1,Ny h cs b.2]
end
def c7.ff(k:Nat):c7->Bool
 | .row _ _ es=>Fc k es
 | .map _ es _=>es.all λe=>e.2.1.ff k
 | .fN _ _ i=>cL i k
 | .nC c=>c.ff k
 | .qh s p=>s.ff k&&p.ff k
 | .nH _ _ c _ i _ v=>c.ff k&&(i.ff k&&(match v with|some x=>x.ff k|none=>Y))
 |_=>Y
def c7.nL{b:Nat->bX}(h:∀i,i<k->b i=θ i)(o:c7)(a:o.ff k=Y):o.sub b=o.sub θ:=by
 cases o with
 |row e z es=>simp only[c7.sub];rw[<-vQ,<-vQ,Ny h es a]
 |map agg es c =>simp only[c7.sub];congr 1;apply cw;intro e he;rw[Go.Ab.nL h _ (aj.1 a e he)]
 |fN e z i=>simp only[c7.ff,bP]at a;simp only[c7.sub];rw[h i a]
 |nC c=> simp only[c7.sub];rw[Go.Ab.nL h c a]
 |qh s p=>simp only[c7.ff,ab]at a;simp only[c7.sub];rw[Go.Ab.nL h s a.1,Go.Ab.nL h p a.2]
 |nH e z c ck i off v =>simp only[c7.ff,ab]at a;simp only[c7.sub];rw[Go.Ab.nL h c a.1,Go.Ab.nL h i a.2.1];cases v;rfl;rename_i x;simp only[ai];rw[Go.Ab.nL h x a.2.2]
 |_=>rfl
def ef.all{α:Type}(p:α->Bool):ef α->Bool
 | .leaf=>Y
 | .node v l r=>(match v with|some x=>p x|none=>Y)&&l.all p&&r.all p
def ef.map_congr{f g:α->β}{p:α->Bool}(h:∀x,p x=Y->f x=g x):∀t:ef α,t.all p=Y->t.map f=t.map g
 | .leaf,_=>rfl
 | .node v l r,a=>by simp only[ef.all,ab]at a;simp only[ef.map];rw[ef.map_congr h l a.1.2,ef.map_congr h r a.2];cases v;rfl;rename_i x;simp[h x a.1.1]
def bl.ff(k:Nat)(s:bl):Bool:=s.mZ.all (bX.ff k)&&s.st.mZ.all (c7.ff k)
variable {s:bl}
def bl.nL(h:∀i,i<k->a i=θ i)(b:s.ff k=Y):s.sub a=s.sub θ:=by simp only[bl.ff,ab]at b;simp only[bl.sub,bg.sub];rw[ef.map_congr (Go.Ab.nL h) _ b.1,ef.map_congr (c7.nL h) _ b.2]
def bg.nL(h:∀i,i<k->a i=θ i)(b:s.ff k=Y):s.st.sub a=s.st.sub θ:=by have:=bl.nL h b;have h2:=Ar bl.st this;simpa using h2
mutual
def bX.mU(b:Nat->bX):bX->bX
 | .rs es=>.rs (Ed b es)
 | .fT cs=>.fT (xX b cs)
 | .fn f a c=>.fn f (xX b a) (xX b c)
 | .agg cs=>.agg (xX b cs)
 | .ed vs=>.ed (xX b vs)
 | .ey i=>b i
 | .c8 id d i=>match b i with
  | .ey j=>.c8 id d j
  | .rs es=>.ms id d 0 (aa es)
  |_=>.ms id d 0 0
 | .l3 id k off=>match b k with
  | .ey j=>.l3 id j off
  |v=>.mp id (nm v) off
 | .mY c=>.mY (c.mU b)
 |v=>v
def xX(a:Nat->bX):eX->eX
 | []=>[]
 |c::cs=>c.mU a::xX a cs
def Ed(a:Nat->bX):cu eX->cu eX
 | []=>[]
 |c::cs=>xX a c::Ed a cs
end
mutual
theorem tA(b θ:Nat->bX):∀v:bX,(v.mU b).sub θ=v.sub (λi=>(b i).sub θ)
 | .any=>by simp[bX.mU]
 | .b4 v=>by simp[bX.mU]
 | .rs es=>by simp only[bX.mU,bX.sub];rw[Od b θ es]
 | .fT cs=>by simp only[bX.mU,bX.sub];rw[BA b θ cs]
 | .ms ..=>by simp[bX.mU]
 | .mp ..=>by simp[bX.mU]
 | .mm _=>by simp[bX.mU]
 | .it _=>by simp[bX.mU]
 | .fn f a c=>by simp only[bX.mU,bX.sub];rw[BA b θ a,BA b θ c]
 | .agg cs=>by simp only[bX.mU,bX.sub];rw[BA b θ cs]
 | .ed cs=>by simp only[bX.mU,bX.sub];rw[BA b θ cs]
 | .ey i=>by simp[bX.mU]
 | .c8 id d i=>by simp only[bX.mU,rA];cases b i<;>simp[rowsOf]
 | .l3 id k off=>by simp only[bX.mU,bX.sub];cases b k<;>simp[bX.sub,nm]
 | .mY c=>by simp only[bX.mU,bX.sub];rw[tA b θ c]
theorem BA(a θ:Nat->bX):∀l:eX,ni θ (xX a l)=ni (λi=>(a i).sub θ) l
 | []=>by simp[ni,xX]
 |c::cs=>by simp only[ni,xX];rw[tA a θ c,BA a θ cs]
theorem Od(a θ:Nat->bX):∀l:cu eX,o8 θ (Ed a l)=o8 (λi=>(a i).sub θ) l
 | []=>by simp[o8,Ed]
 |c::cs=>by simp only[o8,Ed];rw[BA a θ c,Od a θ cs]
end
def c7.mU(a:Nat->bX):c7->c7
 | .row e s es=>.row e s (Ed a es)
 | .map agg es c=>.map agg (es.map λe=>(e.1,e.2.1.mU a,e.2.2)) c
 | .fN e s i=>match a i with
  | .ey j=>.fN e s j
  | .rs es=>.row e s es
  |_=>.row e s []
 | .nC c=>.nC (c.mU a)
 | .qh s p=>.qh (s.mU a) (p.mU a)
 | .nH e z c ck k off v=>.nH e z (c.mU a) ck (k.mU a) off (v.map (bX.mU a))
 |o=>o
def c7.tA(a θ:Nat->bX)(o:c7):(o.mU a).sub θ=o.sub (λi=>(a i).sub θ):=by
 cases o with
 |row e z es=>simp only[c7.mU,c7.sub,<-vQ];rw[Od]
 |map agg es c =>simp only[c7.mU,c7.sub,de];congr 1;simp[Go.Ab.tA]
 |fN e z i=>simp only[c7.mU,c7.sub];cases a i<;>simp[ rowsOf]
 |nC c=>simp only[c7.mU,c7.sub];rw[Go.Ab.tA]
 |qh s p=>simp only[c7.mU,c7.sub];rw[Go.Ab.tA,Go.Ab.tA]
 |nH e z c ck k off v =>simp only[c7.mU,c7.sub];rw[Go.Ab.tA,Go.Ab.tA];cases v;rfl;simp only[ai];rw[Go.Ab.tA]
 |_=>rfl
def bl.mU(a:Nat->bX)(s:bl):bl:={ n:=s.n,mZ:=s.mZ.map (bX.mU a),st:={ next:=s.st.next,mZ:=s.st.mZ.map (c7.mU a),low:=s.st.low } }
def ef.map_map{a:Type}(f:α->β)(g:β->a):∀t:ef α,(t.map f).map g=t.map (λx=>g (f x))
 | .leaf=>rfl
 | .node v l r=>by simp only[ef.map];rw[ef.map_map f g l,ef.map_map f g r];cases v<;>rfl
def bl.tA(a θ:Nat->bX)(s:bl):(s.mU a).sub θ=s.sub (λi=>(a i).sub θ):=by simp only[bl.mU,bl.sub,bg.sub,ef.map_map];have h1:=funext λx=>Go.Ab.tA a θ x;have h2:=funext λx=>c7.tA a θ x;rw[h1,h2]
def qp(j:Nat)(b:Bool)(i:Nat):bX:=cond (aw i j) (.b4 (.bool b)) <| .ey i
def FY{j:Nat}{b:Bool}(h:θ j=.b4 (.bool b))(s:bl):(s.mU (qp j b)).sub θ=s.sub θ:=by
 rw[bl.tA];congr 1;funext i;unfold qp;cases a:aw i j with
 |true=>have:=ae a;subst this;simp[h]
 |false=>simp
abbrev p5:=Nat->dv (dv Nat)
variable {ι:p5}
def xD(ι:p5)(i k:Nat):Bool:=match ι i with|some (Z j)=>aw j k|_=>U
def JA(ι:p5)(i:Nat):Bool:=match ι i with|some W=>Y|_=>U
def Dd(h:xD ι i k=Y):ι i=Z (Z k):=by unfold xD at h;split at h;rename_i j hj;rw[hj,ae h];cases h
def bP1(h:JA ι i=Y):ι i=Z W:=by unfold JA at h;split at h;rename_i hj;exact hj;cases h
def M3:Fn->Fn->Bool
 | .func a,.func b=>aw a b
 |_,_=>U
def bi9{a b:Fn}(h:M3 a b=Y):a=b:=by unfold M3 at h;split at h;rw[ae h];cases h
def QM:Value->Value->Bool
 | .tuple a,.tuple b=>aw a.size 0&&aw b.size 0
 | .pointer W,.pointer W=>Y
 |a,b=>K3 a b
def bb6{a b:Value}(h:QM a b=Y):a=b:=by unfold QM at h;split at h;simp only[ab]at h;have h1:=iA (ae h.1);have h2:=iA (ae h.2);rw[h1,h2];rfl;exact aD9 h
def D4:bX->bX->Bool
 | .ey i,.ey j=>aw i j
 |_,_=>U
def KT{a:bX}(h:D4 a b=Y):∃i,a=.ey i/\b=.ey i:=by unfold D4 at h;split at h;exact⟨_,rfl,by rw[ae h]⟩;cases h
mutual
def n_(ι:p5):bX->bX->Bool
 | .any,_=>Y
 | .b4 v,.b4 m=>QM v m
 | .rs es,.rs e=>AV ι es e
 | .fT cs,.fT b=>wm ι cs b
 | .ms id z o l,.ms id' g o' n=>xD ι id id'&&aw z g&&aw o o'&&aw l n
 | .ms id _ o l,.b4 (.slice W 0 0)=>JA ι id&&aw o 0&&aw l 0
 | .mp id i j,.mp id' d p=>xD ι id id'&&aw i d&&aw j p
 | .mm id,.mm id'=>xD ι id id'
 | .it id,.it id'=>xD ι id id'
 | .fn f a c,.fn q r h=>M3 f q&&wm ι a r&&wm ι c h
 | .agg cs,.agg b=>wm ι cs b
 | .ed cs,.ed b=>wm ι cs b
 | .ey i,.ey d=>aw i d
 | .c8 id z i,.c8 id' g d=>xD ι id id'&&aw z g&&aw i d
 | .l3 id k o,.l3 id' s o'=>xD ι id id'&&aw k s&&aw o o'
 | .mY c,.mY h=>D4 c h
 |_,_=>U
def wm(ι:p5):eX->eX->Bool
 | [],[]=>Y
 |a::az,b::fA=>n_ ι a b&&wm ι az fA
 |_,_=>U
def AV(ι:p5):cu eX->cu eX->Bool
 | [],[]=>Y
 |a::az,b::fA=>wm ι a b&&AV ι az fA
 |_,_=>U
end
def C2(ι:p5)(az fA:eX):Prop:=aa az=aa fA/\∀i (h:i<aa az) (h':i<aa fA),nI ι az[i] fA[i]
def C2.cons{a:bX}{az fA:eX}(h:nI ι a b)(hs:C2 ι az fA):C2 ι (a::az) (b::fA):=by refine⟨by simp[hs.1],λi h1 h2=>?_⟩;cases i;exact h;rename_i i;exact hs.2 i (by simpa using h1) (by simpa using h2)
def EU(ι:p5)(az fA:cu eX):Prop:=aa az=aa fA/\∀i (h:i<aa az) (h':i<aa fA),C2 ι az[i] fA[i]
def nI.fit{v:bX}(h:nN v):nI ι v v:=λG _ a=>rr (G:=G) (G':=G.oM ι) (λ_ _ b=>b) a h.kl
def nI.rs{es b:cu eX}(h:EU ι es b):nI ι (.rs es) (.rs b):=by
 intro G u c;cases c with
 |q9=>have:=dR (by simpa using h.1);subst this;exact .q9
 |rs _ a cap size val hs hc hlen himm hrep =>rw[<-h.1];have hl:=h.1;refine .rs es a cap size val hs (by omega) (λi a7=>?_) (λi j a7 hj=>himm i j (by omega) hj) (λi j a7 hj=>?_);rw[(h.2 i a7 (by omega)).1];exact hlen i (by omega);have h2:=h.2 i a7 (by omega);exact h2.2 j hj (by rw[<-h2.1];exact hj) G _ (hrep i j (by omega) (by rw[<-h2.1];exact hj))
mutual
theorem Qf{θ:Nat->bX}(e:Fit θ){ι:p5}:∀(a b:bX),n_ ι a b=Y->nI ι (a.sub θ) (b.sub θ)
 | .any,b,_=>λG u _=>by rw[aV0];exact .any u
 | .b4 v,b,h=>by
  cases b with
  |b4 E=>simp only[n_]at h;rw[bb6 h];intro G u d;simp only[pN]at *;cases d;exact .b4 _
  |_=>simp[n_]at h
 | .rs es,b,h=>by
  cases b with
  |rs s=>simp only[n_]at h;simp only[bX.sub];exact nI.rs (QE e es s h)
  |_=>simp[n_]at h
 | .fT cs,b,h=>by
  cases b with
  |fT m =>
   simp only[n_]at h;have hl:=BZ e cs m h;simp only[bX.sub];intro G u d;cases d with
   |fT _ a val hs himm hrep=>exact .fT _ a val hs (λj hj=>himm j (by rw[<-hl.1];exact hj)) (λj hj=>hl.2 j hj (by rw[<-hl.1];exact hj) G _ (hrep j (by rw[<-hl.1];exact hj)))
  |_=>simp[n_]at h
 | .ms id z o l,b,h=>by
  cases b with
  |ms id' B o' H =>
   simp only[n_,ab]at h;have h1:=Dd h.1.1.1;have h2:=ae h.1.1.2;have n:=ae h.1.2;have t:=ae h.2;subst h2;subst n;subst t;intro G u d;simp only[xL]at *;cases d with
   |ms _ _ _ _ p hp hv hz a c ha ho hl hsp=>exact .ms id z o l p (by simp only[ca.oM,h1];exact hp) hv hz a c ha ho hl hsp
   |oh _ _ p hp hv=>exact .oh id z p (by simp only[ca.oM,h1];exact hp) hv
  |b4 v=>
   have hv:v=.slice W 0 0/\(JA ι id&&aw o 0&&aw l 0)=Y:=by
    cases v with
    |slice a b c=>
     cases a with
     |none=>
      cases b with
      |zero=>cases c with
       |zero=>exact⟨rfl,by simpa only[n_]using h⟩
       |succ c=>simp[n_]at h
      |succ b=>simp[n_]at h
     |some a=>simp[n_]at h
    |_=>simp[n_]at h
   obtain⟨rfl,q⟩:=hv;rw[ab,ab]at q;have h1:=bP1 q.1.1;have n:=ae q.1.2;have t:=ae q.2;subst n;subst t;rw[xL,pN];intro G u d;cases d;exact .oh id z ⟨0,0,0,Y⟩ (by simp only[ca.oM,h1]) rfl
  |_=>simp[n_]at h
 | .mp id i j,b,h=>by
  cases b with
  |mp id' w I =>
   simp only[n_,ab]at h;have h1:=Dd h.1.1;have h2:=ae h.1.2;have n:=ae h.2;subst h2;subst n;intro G u d;simp only[KH]at *;cases d with
   |mp _ _ _ p hp=>exact .mp id i j p (by simp only[ca.oM,h1];exact hp)
  |_=>simp[n_]at h
 | .mm id,b,h=>by
  cases b with
  |mm id' =>
   simp only[n_]at h;have h1:=Dd h;intro G u d;simp only[B6]at *;cases d with
   |mm _ p hp=>exact .mm id p (by simp only[ca.oM,h1];exact hp)
  |_=>simp[n_]at h
 | .it id,b,h=>by
  cases b with
  |it id' =>
   simp only[n_]at h;have h1:=Dd h;intro G u d;simp only[Lg]at *;cases d with
   |it _ p hp=>exact .it id p (by simp only[ca.oM,h1];exact hp)
  |_=>simp[n_]at h
 | .fn f a c,b,h=>by
  cases b with
  |fn J C x =>
   simp only[n_,ab]at h;have h1:=bi9 h.1.1;subst h1;have ha:=BZ e a C h.1.2;have hc:=BZ e c x h.2;simp only[bX.sub];intro G u d;cases d with
   |fn _ _ _ fv cv l2 x8 r D=>exact .fn f _ _ fv cv (by rw[l2,ha.1]) (by rw[x8,hc.1]) (λi a7 g=>ha.2 i a7 (by rw[<-ha.1];exact a7) G _ (r i (by rw[<-ha.1];exact a7) g)) (λi a7 g=>hc.2 i a7 (by rw[<-hc.1];exact a7) G _ (D i (by rw[<-hc.1];exact a7) g))
  |_=>simp[n_]at h
 | .agg cs,b,h=>by
  cases b with
  |agg m =>
   simp only[n_]at h;have hl:=BZ e cs m h;simp only[bX.sub];intro G u d;cases d with
   |agg _ vs l2 r=>exact .agg _ vs (by rw[l2,hl.1]) (λi a7 g=>hl.2 i a7 (by rw[<-hl.1];exact a7) G _ (r i (by rw[<-hl.1];exact a7) g))
  |_=>simp[n_]at h
 | .ed cs,b,h=>by
  cases b with
  |ed m =>
   simp only[n_]at h;have hl:=BZ e cs m h;simp only[bX.sub];intro G u d;cases d with
   |ed _ vs l2 r=>exact .ed _ vs (by rw[l2,hl.1]) (λi a7 g=>hl.2 i a7 (by rw[<-hl.1];exact a7) G _ (r i (by rw[<-hl.1];exact a7) g))
  |_=>simp[n_]at h
 | .ey i,b,h=>by
  cases b with
  |ey w=>simp only[n_]at h;rw[<-ae h,vl];exact nI.fit (e i)
  |_=>simp[n_]at h
 | .c8 id z i,b,h=>by
  cases b with
  |c8 id' B w =>
   simp only[n_,ab]at h;have h1:=Dd h.1.1;have h2:=ae h.1.2;have n:=ae h.2;subst h2;subst n;intro G u d;simp only[rA]at *;generalize aa (rowsOf (θ i))=l at *;cases d with
   |ms _ _ _ _ p hp hv hz a c ha ho hl hsp=>exact .ms id z 0 l p (by simp only[ca.oM,h1];exact hp) hv hz a c ha ho hl hsp
   |oh _ _ p hp hv=>exact .oh id z p (by simp only[ca.oM,h1];exact hp) hv
  |_=>simp[n_]at h
 | .l3 id k o,b,h=>by
  cases b with
  |l3 id' K o' =>
   simp only[n_,ab]at h;have h1:=Dd h.1.1;have h2:=ae h.1.2;have n:=ae h.2;subst h2;subst n;intro G u d;simp only[bX.sub]at *;cases d with
   |mp _ _ _ p hp=>exact .mp id _ _ p (by simp only[ca.oM,h1];exact hp)
  |_=>simp[n_]at h
 | .mY c,b,h=>by
  cases b with
  |mY x =>simp only[n_]at h;obtain⟨i,rfl,rfl⟩:=KT h;simp only[B4,vl];intro G u d;exact rr (G:=G) (G':=G.oM ι) (λ_ _ q=>q) d (by simp only[bX.kl];exact(e _).kl)
  |_=>simp[n_]at h
theorem BZ{θ:Nat->bX}(c:Fit θ){ι:p5}:∀(a b:eX),wm ι a b=Y->C2 ι (ni θ a) (ni θ b)
 | [],b,h=>by
  cases b with
  |nil=>exact⟨rfl,λi a7=>by simp[ni]at a7⟩
  |cons _ _=>simp[wm]at h
 |a::az,b,h=>by cases b;simp[wm]at h;rename_i b fA;simp only[wm,ab]at h;simp only[ni];exact(Qf c a b h.1:nI ι _ _) |> λh1=>C2.cons h1 (BZ c az fA h.2)
theorem QE{θ:Nat->bX}(c:Fit θ){ι:p5}:∀(a b:cu eX),AV ι a b=Y->EU ι (o8 θ a) (o8 θ b)
 | [],b,h=>by
  cases b with
  |nil=>exact⟨rfl,λi a7=>by simp[o8]at a7⟩
  |cons _ _=>simp[AV]at h
 |a::az,b,h=>by
  cases b with
  |nil=>simp[AV]at h
  |cons b fA=>
   simp only[AV,ab]at h;simp only[o8];have h1:=BZ c a b h.1;have h2:=QE c az fA h.2;refine⟨by simp[h2.1],λi a7 d=>?_⟩;cases i with
   |zero=>exact h1
   |succ i=>exact h2.2 i (by simpa using a7) (by simpa using d)
end
variable {K K':Act->World->Prop}{P:Program}{Q Q':Exit->Act->World->Prop}{a:Act}{c:Array Oper}{cl:FuncId->eX->bg->dv (bX×bg)}{i:Nat}{l0:cu Oper}{o:Oper}{ops:Array Oper}{s s':bl}{w:World}
def Ln(g:∀e a w,Q e a w->e=.normal)(hk:∀a w,K a w->K' a w){r:Result Next}(h:o.upon P a K Q r):o.upon P a K' Q' r:=by
 have hp:∀c a w,¬Q (.panic c) a w:=λc a w b=>by cases g _ _ _ b
 have hl:¬LetsOut Q:=λ⟨a,w,b⟩=>by cases g _ _ _ b
 cases r with
 |ok n w' =>
  cases n with
  |value v=>exact hk _ _ h
  |skip=>exact hk _ _ h
  |defer d=>exact hk _ _ h
  |enter f args=>
   refine h.mono ?_;intro e i b;cases e with
   |returned v=>exact hk _ _ b
   |panicked c=>exact b8 b (hp _ _ _)
   |outgrown=>exact b8 b hl
  |row row args =>exact h.mono λ_ _ b=>hk _ _ b
  |_=>simp only[iW]at h
 |halt x w' =>
  cases x with
  |panic v=> exact b8 h (hp _ _ _)
  |_=>simp only[iW]at h
def ce1(g:∀e a w,Q e a w->e=.normal)(a7:i<c.size)(m:∀x j b,c[i]?=Z x->x.guard=Z (j,b)->j<c.size)(hk:∀a w,K a w->K' a w)
  (h:wpOp P c Q i K a w):wpOp P (c.push o) Q' i K' a w:=by
 unfold wpOp at h⊢;have k:∀j,j<c.size->(c.push o)[j]?=c[j]?:=λj hj=>by rw[cJ,cc (by omega)]
 rw[k i a7];have l:=bo a7;rw[l]at h⊢;simp only at h⊢;have hw:cS c[i] (yielded (c.push o) a.tmps)=cS c[i] (yielded c a.tmps):=by unfold cS;split;rfl;rename_i j b f;unfold yielded;rw[k j (m _ _ _ l f)]
 rw[hw];split at h;rename_i d;rw[cr d];rcases h with h|⟨_,a2,n,h2⟩
 exact .inl (Ln g hk h);cases g _ _ _ h2;rename_i d;rw[cc d];exact hk _ _ h
def bZ7(hg:∀(i:Nat) (x:Oper) (j:Nat) (b:Bool),c[i]?=Z x->x.guard=Z (j,b)->j<c.size)(hL:∀e∈o.after,cA .any e=Y->e.on<c.size)(he:∀(i:Nat) (x:Oper) (e:Edge),c[i]?=Z x->e∈x.after->cA .any e=Y->e.on<i)
  (E:∀p:Nat->Bool,yS c p->(∀e∈o.after,cA .any e=Y->p e.on=Y)->∀i,i<c.size->p i=Y) :
  ∀(fuel:Nat) (listed:Array Bool) (a:Act) (w:World),listed.size=c.size->yS c (listed.getD · U)->left c.size (listed.getD · U)=fuel ->
   wpAny P .any c (·=.normal/\wpOp P (c.push o) Q c.size (Q .normal) · ·) fuel listed a w->wpAny P .any (c.push o) Q (fuel+1) (listed.push U) a w:=by
 have n:∀(l:Array Bool) (j:Nat),l.size=c.size->j<c.size->∀d,(l.push U).getD j d=l.getD j d:=λl j hl hj d=>by simp[ cJ,show j≠l.size by omega]
 have u:∀(l:Array Bool),l.size=c.size->∀d,(l.push U).getD c.size d=U:=λl hl d=>by simp only[Array.getD_eq_getD_getElem?,cJ,hl,vE,bM]
 have e0:∀j,j<c.size->(c.push o)[j]?=c[j]?:=λj hj=>by rw[cJ,cc (by omega)]
 have eL:(c.push o)[c.size]?=Z o:=by rw[cJ,cr rfl]
 have B:∀(l:Array Bool),l.size=c.size->∀i,i<c.size->(i∈bO .any (c.push o) (l.push U)↔i∈bO .any c l):=λl hl i a7=>by rw[mem_ready,mem_ready,e0 i a7,n l i hl a7];constructor;rintro ⟨h1,x,h2,G⟩;refine⟨h1,x,h2,λe g q=>?_⟩;have:=G e g q;rwa [n l e.on hl (by have:=he i x e h2 g q;omega)]at this;rintro ⟨h1,x,h2,G⟩;refine⟨h1,x,h2,λe g q=>?_⟩;rw[n l e.on hl (by have:=he i x e h2 g q;omega)];exact G e g q
 have K:∀(l:Array Bool),l.size=c.size->yS c (l.getD · U)->c.size∈bO .any (c.push o) (l.push U)->∀i,i<c.size->l.getD i U=Y:=λl hl r v=>by rw[mem_ready,eL]at v;let ⟨_,x,C,G⟩:=v;cases C;refine E _ r (λe g q=>?_);have:=G e g q;by_cases hs:e.on<c.size;rwa [n l e.on hl hs]at this;by_cases M:e.on=c.size;rw[M,u l hl]at this;cases this;simp_all
 have ff:∀(l:Array Bool) i,i∈bO .any (c.push o) l->i<c.size\/i=c.size:=λl i a7=>by let ⟨_,x,C,_⟩:=mem_ready.1 a7;have:=(aP.1 C).1;simp at this;omega
 have full:∀(l:Array Bool),l.size=c.size->(∀i,i<c.size->l.getD i U=Y)->bO .any c l=[]:=λl hl hp=>by
  cases v:bO .any c l with
  |nil=>rfl
  |cons i is=>
   have a7:i∈bO .any c l:=by rw[v];simp
   let ⟨h1,x,C,_⟩:=mem_ready.1 a7;have f:=(aP.1 C).1;have:=hp i f;simp[hl,f]at h1 this;rw[h1]at this;cases this
 have after:∀(l:Array Bool) (a:Act) (w:World) (fuel:Nat),l.size=c.size->(∀i,i<c.size->l.getD i U=Y)->Q .normal a w->wpAny P .any (c.push o) Q fuel ((l.push U).setIfInBounds c.size Y) a w:=λl a w fuel hl hp hQ=>by
  have m:bO .any (c.push o) ((l.push U).setIfInBounds c.size Y)=[]:=by
   cases v:bO .any (c.push o) ((l.push U).setIfInBounds c.size Y)with
   |nil=>rfl
   |cons i is=>
    have a7:i∈bO .any (c.push o) ((l.push U).setIfInBounds c.size Y):=by rw[v];simp
    let ⟨h1,_⟩:=mem_ready.1 a7;rcases ff _ _ a7 with f|rfl
    rw[getD_set_ne Y (by omega),n l i hl f]at h1;have:=hp i f;simp[hl,f]at h1 this;rw[h1]at this;cases this;simp at h1
  cases fuel;exact⟨m,hQ⟩;exact⟨λ_=>hQ,λi a7=>by rw[m]at a7;cases a7⟩
 have z:∀(l:Array Bool),l.size=c.size->(∀i,i<c.size->l.getD i U=Y)->c.size∈bO .any (c.push o) (l.push U):=λl hl hp=>by rw[mem_ready,eL,u l hl];refine⟨rfl,o,rfl,λe g q=>?_⟩;rw[n l e.on hl (hL e g q)];exact hp _ (hL e g q)
 intro fuel
 induction fuel with
 |zero=>
  intro listed a w k r s h;have hp:=NV s;refine⟨λm=>?_,λi a7=>?_⟩;have:=z listed k hp;rw[m]at this;cases this;rcases ff _ _ a7 with f|rfl
  rw[B listed k i f,full listed k hp]at a7;cases a7;refine wpOp_mono ?_ h.2.2;intro H w' N;exact after listed H w' 0 k hp N
 |succ fuel ih=>
  intro listed a w k r s h;refine⟨λm=>?_,λi a7=>?_⟩;have h1:bO .any c listed=[]:=by
   cases v:bO .any c listed with
   |nil=>rfl
   |cons i is=>
    have a7:i∈bO .any c listed:=by rw[v];simp
    let ⟨_,x,C,_⟩:=mem_ready.1 a7;have f:=(aP.1 C).1;rw[<-B listed k i f,m]at a7;cases a7
  have hp:∀i,i<c.size->listed.getD i U=Y:=λi=>by
   induction i using ir with
   |_ i O=>
    intro f;cases hl:listed.getD i U with
    |true=>rfl
    |false=>
     have:i∈bO .any c listed:=mem_ready.2 ⟨by simp[k,f]at hl⊢;exact hl,_,bo f,λe g q=>by
      have:=he i _ e (bo f) g q;exact O e.on this (by omega)⟩
     rw[h1]at this;cases this
  have:=z listed k hp;rw[m]at this;cases this;rcases ff _ _ a7 with f|rfl
  rw[B listed k i f]at a7;refine ce1 (Q:=λe a w=>e=.normal/\wpOp P (c.push o) Q c.size (Q .normal) a w) (λ_ _ _ hh=>hh.1) f (hg i · · · · ·) (λH w' hk=>?_) (h.2 i a7);have I:∀j,(listed.setIfInBounds i Y).getD j U=(j==i||listed.getD j U):=λj=>by
   by_cases e:j=i;subst e;simp[k,f];rw[getD_set_ne U (kx e)];have:(j==i)=U:=by simpa using e
   rw[this];rfl
  have t:=funext I;let ⟨r1,x,r2,r3⟩:=mem_ready.1 a7;have R:listed.getD i U=U:=by simp[k,f]at r1⊢;exact r1
  have e1:(listed.push U).setIfInBounds i Y=(listed.setIfInBounds i Y).push U:=by apply Array.ext_getElem?;intro j;by_cases S:j=i;subst S;rw[gL (by simp;omega),cJ,cc (by simp;omega),gL (by omega)];rw[iu (kx S),cJ,cJ];simp only[Array.size_setIfInBounds];split;rfl;rw[iu (kx S)]
  rw[e1];refine ih _ H w' (by simp[k]) ?_ ?_ hk;rw[t];intro j oj D hpj e g q;by_cases J:j=i;subst J;rw[r2]at D;cases D;simp[r3 e g q];have:listed.getD j U=Y:=by simpa[J]using hpj
  simp[r j oj D this e g q];rw[t];have:=O3 (p:=λj=>listed.getD j U) f R;omega;have hp:=K listed k r a7;have h0:=h.1 (full listed k hp);refine wpOp_mono ?_ h0.2;intro H w' N;exact after listed H w' _ k hp N
def ca7{T:bY}(cb:rk P T)
  (E:∀f args σ v σ',cl f args σ=Z (v,σ')->oO P f args σ (λI m=>I=v/\m=σ')/\qb σ σ')
    (h:BQ T cl ops s=Z s') {G:ca}   (b:zc G s a w) 
  (J:∀G' D w',tb s.st.next G s.st w G' s'.st w'->zc G' s' D w'->Q .normal D w'):wpAny P .any ops Q ops.size (bq ops.size U) a { w with drawn:=w.drawn+1 }:=by
 unfold BQ at h;split at h
 case isFalse=>cases h
 rename_i qJ;split at h
 case h_2=>cases h
 rename_i s1 fs K;split at h
 case isFalse=>cases h
 rename_i wV;cases h;let ⟨evs,sts,l2,x8,pG,M,q,g1,g2,g3⟩:=P6 cb E ops.toList 0 _ _ fs (λj=>by simp) (by simp) (ay _) K;have r:Lex P ops s.n s.st.next fs evs sts { s with st:={ s.st with next:=s.st.next+ops.size } }:=⟨qJ,wV,l2,x8,pG,λj o f ev st h1 h2 N O=>by
  have:=q j o f ev st (by simpa using h1) h2 N O;simpa using this⟩
 have i:left ops.size ((bq ops.size U).getD · U)=ops.size:=by
  unfold left;rw[g_.2 (λx z=>by
   have:x<ops.size:=by simpa using z
   simp[this])]
  simp
 have B:∀j,(bq ops.size U).getD j U=U:=λj=>by by_cases hj:j<ops.size<;>simp[hj]
 refine Way.any r (G0:=G) (σ0:=s.st) (qs:=w) _ ?_ ops.size (bq ops.size U) G s.get { s.st with next:=s.st.next+ops.size } a { w with drawn:=w.drawn+1 } (by simp) i ?_;intro p G' mx σ D w' hw hp;have agree:∀ {L V:Type} (us:cu (L->dv V)) (f:L->V),aa us=ops.size->fold p us 0 f=fold (λ_=>Y) us 0 f:=λus f hl=>funext λl=>xA l us 0 f f rfl (λj u hu C=>by
  have hj:j<ops.size:=by have:=(aq.1 hu).1;omega
  rw[bj]at C;exact b8 (hp j hj) C)
 have d:σ.next=s'.st.next:=by rw[hw.gA,agree _ _ (by simp[l2]),g3]
 have g:∀k,σ.bF k=s'.st.bF k:=λk=>by rw[hw.tu,agree _ _ (by simp[l2]),g2]
 have H:∀t,mx t=s'.get t:=λt=>by rw[hw.mx,agree _ _ (by simp[l2]),g1]
 exact J G' D w' ⟨hw.uS.le,hw.uS.keeps,by rw[<-d];exact hw.uS.next,hw.uS.bb.trans (Fr.less λk x z=>by rw[g];exact z)⟩ ⟨hw.rel.defers,by rw[hw.rel.size,M],λt=>by rw[<-H];exact hw.rel.tmps t,hw.rel.rel.less d.symm (λk x z=>by rw[g];exact z)⟩;have c:∀ {L V:Type} (us:cu (L->dv V)) (f:L->V) (l:L),fold ((bq ops.size U).getD · U) us 0 f l=f l:=λus f l=>Bz l us 0 f _ (λj u _ hp=>by rw[B]at hp;cases hp) rfl;refine⟨⟨b.defers,b.size,b.tmps,(b.rel.next (aZ _ _)).drawn _⟩,λt=>(c _ _ _).symm,λk=>(c _ _ _).symm,(c (evs.map λe=>λ_:Unit=>e.uf) (λ_=>s.st.next+ops.size) ()).symm,λj _ _=>b.rel.fresh _ (aZ _ _),(λj o _ hp=>by rw[B]at hp;cases hp),ay _,?_⟩;exact⟨.refl G,.refl _ G,aZ _ _,(Fr.less (σ:=s.st) (σ':={ s.st with next:=s.st.next+ops.size }) (λ_ _ h=>h)).trans (Fr.MM _ _ _ _ (aZ _ _))⟩
def By(a:Array Oper)(o:Oper):Bool :=
 (aT a.size).all ((Ig (oC a.toList []) o).testBit ·)&&o.after.all (λe=>!Region.binds .any e||No (e.on<a.size)) &&
 (aT a.size).all (λi=>match a[i]? with
  |some x=>(match x.guard with|some (j,_)=>No (j<a.size)|none=>Y)&&x.after.all (λe=>!Region.binds .any e||No (e.on<i))
  |none=>Y)
def bG6{a:Array Oper}(h:By a o=Y):∀p:Nat->Bool,yS a p->(∀e∈o.after,cA .any e=Y->p e.on=Y)->∀i,i<a.size->p i=Y:=by
 intro p c d i a7;unfold By at h;simp only[ab]at h;have k:=aj.1 h.1.1 i (by simpa using a7);rcases Pb _ i _ _ k with f|⟨e,he,b,f⟩
 simp at f;have g:=d e (by simpa using he) b;rcases f with rfl|f
 exact g;have j:e.on<a.size:=by have:=eV.1 h.1.2 e (by simpa using he);simpa[b]using this
 exact yq c e.on _ (bo j) (c e.on _ (bo j) g) i f
def aL8(g:∀e a w,Q e a w->e=.normal)(a7:i<c.size)(m:∀x j b,c[i]?=Z x->x.guard=Z (j,b)->j<c.size)(hk:∀a w,K a w->K' a w)
  (h:wpOp P (c.push o) Q i K a w):wpOp P c Q' i K' a w:=by
 unfold wpOp at h⊢;have k:∀j,j<c.size->(c.push o)[j]?=c[j]?:=λj hj=>by rw[cJ,cc (by omega)]
 rw[k i a7]at h;have l:=bo a7;rw[l]at h⊢;simp only at h⊢;have hw:cS c[i] (yielded (c.push o) a.tmps)=cS c[i] (yielded c a.tmps):=by unfold cS;split;rfl;rename_i j b f;unfold yielded;rw[k j (m _ _ _ l f)]
 rw[hw]at h;split at h;rename_i d;rw[cr d];rcases h with h|⟨_,a2,n,h2⟩
 exact .inl (Ln g hk h);cases g _ _ _ h2;rename_i d;rw[cc d];exact hk _ _ h
def ag6(d:∀e a w,Q e a w->e=.normal)(f:∀(i:Nat) (x:Oper) (j:Nat) (b:Bool),c[i]?=Z x->x.guard=Z (j,b)->j<c.size) :
  ∀(l:cu Nat) (a:Act) (w:World),(∀i∈l,i<c.size)->wpOps P (c.push o) Q (l++[c.size]) a w->wpOps P c (·=.normal/\wpOp P (c.push o) Q c.size (Q .normal) · ·) l a w
 | [],a,w,_,h=>by simp only[br]at h;rw[wpOps_cons]at h;exact⟨rfl,h⟩
 |i::l,a,w,hl,h=>by rw[cV,wpOps_cons]at h;rw[wpOps_cons];exact aL8 d (hl i (by simp)) (f i · · · · ·) (λg w' hk=>ag6 d f l g w' (λj hj=>hl j (by simp[hj])) hk) h
def Bl{md:Region.Mode}(b:∀e a w,Q e a w->e=.normal)(h:∀a w,Q .normal a w->Q' .normal a w):∀(fuel:Nat) (listed:Array Bool) (a:Act) (w:World),wpAny P md ops Q fuel listed a w->wpAny P md ops Q' fuel listed a w
 | 0,_,a,w,⟨h1,h2⟩=>⟨h1,h a w h2⟩
 |fuel+1,listed,a,w,⟨h1,h2⟩=>⟨λc=>h a w (h1 c),λi a7=>by
   have:=h2 i a7;unfold wpOp at this⊢;split at this;exact Bl b h fuel _ _ _ this;split at this;rename_i hw;rw[cr hw];rcases this with this|⟨_,a2,f,d⟩
   exact .inl (Ln b (λg w' hk=>Bl b h fuel _ _ _ hk) this);cases b _ _ _ d;rename_i hw;rw[cc hw];exact Bl b h fuel _ _ _ this⟩
def yx:cu Oper->cu Oper->Bool
 |_,[]=>Y
 |l0,o::t=>By ⟨l0⟩ o&&yx (l0++[o]) t
def push_mk(l:cu Oper)(o:Oper):(⟨l⟩:Array Oper).push o=⟨l++[o]⟩:=by  simp
def VE{a:Array Oper}(hl:By a o=Y):(∀(i:Nat) (x:Oper) (j:Nat) (b:Bool),a[i]?=Z x->x.guard=Z (j,b)->j<a.size)/\(∀e∈o.after,cA .any e=Y->e.on<a.size) /\
  (∀(i:Nat) (x:Oper) (e:Edge),a[i]?=Z x->e∈x.after->cA .any e=Y->e.on<i):=by
 have c:=hl;unfold By at c;simp only[ab]at c;refine⟨λi x j b d g=>?_,λe he f=>?_,λi x e d he f=>?_⟩;have:=aj.1 c.2 i (by simpa using(aP.1 d).1);simp only[d,g,ab,kA]at this;exact this.1;have:=eV.1 c.1.2 e he;simpa[f]using this;have:=aj.1 c.2 i (by simpa using(aP.1 d).1);simp only[d,ab]at this;have:=eV.1 this.2 e he;simpa[f]using this
def Vw:∀(t l0:cu Oper) (o:Oper),yx l0 (t++[o])=Y->yx l0 t=Y/\By ⟨l0++t⟩ o=Y
 | [],l0,o,h=>by simp only[br,yx]at h;exact⟨rfl,by simpa using h⟩
 |x::t,l0,o,h=>by simp only[cV,yx,ab]at h⊢;let ⟨h1,h2⟩:=Vw t (l0++[x]) o h.2;exact⟨⟨h.1,h1⟩,by simpa using h2⟩
def bM4{b:Array Oper}(hl:By b o=Y)(h:wpAny P .any b (·=.normal/\wpOp P (b.push o) Q b.size (Q .normal) · ·) b.size (bq b.size U) a w) :
  wpAny P .any (b.push o) Q (b.size+1) (bq (b.size+1) U) a w:=by
 let ⟨h1,h2,e⟩:=VE hl;have d:∀j,(bq b.size U).getD j U=U:=λj=>by by_cases hj:j<b.size<;>simp[hj]
 have c:left b.size ((bq b.size U).getD · U)=b.size:=by
  unfold left;rw[g_.2 (λx f=>by
   have:x<b.size:=by simpa using f
   simp[this])]
  simp
 have g:bq (b.size+1) U=(bq b.size U).push U:=by apply Array.ext;simp;simp[Array.getElem_push]
 rw[g];exact bZ7 h1 h2 e (bG6 hl) b.size _ a _ (by simp) (λj o' _ hp=>by rw[show((bq b.size U).getD · U) j=U from d j]at hp;cases hp) c h
def W3:∀(n:Nat) (t:cu Oper),aa t=n->yx l0 t=Y->∀ {Q:Exit->Act->World->Prop},(∀e a w,Q e a w->e=.normal)->∀ {a:Act} {w:World},
  wpAny P .any ⟨l0⟩ (·=.normal/\wpOps P ⟨l0++t⟩ Q (eo (aa l0) (aa t)) · ·) (aa l0) (bq (aa l0) U) a w->wpAny P .any ⟨l0++t⟩ Q (aa (l0++t)) (bq (aa (l0++t)) U) a w
 | 0,t,d,_,Q,f,a,w,h=>by
  have:t=[]:=by simpa using d
  subst this;rw[ba];refine Bl (Q:=λe a w=>e=.normal/\wpOps P ⟨l0++[]⟩ Q (eo (aa l0) (aa ([]:cu Oper))) a w) (λ_ _ _ c=>c.1) ?_ _ _ _ _ h;simpa[wpOps]using h2
 |n+1,t,d,k,Q,f,a,w,h=>by
  obtain⟨b,o,rfl⟩:∃b o,t=b++[o]:=by
   rcases List.eq_nil_or_concat t with rfl|⟨b,o,rfl⟩
   simp at d;exact⟨b,o,by simp⟩
  let ⟨h1,h2⟩:=Vw b l0 o k;have g:(⟨l0++(b++[o])⟩:Array Oper)=(⟨l0++b⟩:Array Oper).push o:=by rw[push_mk];simp
  have l:aa (l0++(b++[o]))=(⟨l0++b⟩:Array Oper).size+1:=by simp;omega
  rw[g,l];refine bM4 h2 ?_;refine W3 n b (by simpa using d) h1 (λe a w c=>c.1) ?_;refine Bl (λ_ _ _ c=>c.1) ?_ _ _ _ _ h;rintro m w' ⟨_,j⟩;refine⟨rfl,?_⟩;rw[g]at j;refine ag6 f (VE h2).1 _ m w' (λi a7=>by simp at a7⊢;omega) ?_;have p:eo (aa l0) (aa (b++[o]))=eo (aa l0) (aa b)++[(⟨l0++b⟩:Array Oper).size]:=by simp[List.range'_concat]
  rw[<-p];exact j
def j5.bg9{T:bY}(cb:rk P T)(hm:P.follows .mixedOrders=Y)
  (m:∀f args σ v σ',cl f args σ=Z (v,σ')->oO P f args σ (λB g=>B=v/\g=σ')/\qb σ σ')
  {id n:Nat} {t:cu Oper} (hl:yx l0 t=Y)  (h:BQ T cl ⟨l0⟩ s=Z s') {Q:Exit->bl->Prop}
  (b:nn P ⟨l0++t⟩ s'.st.next n (Q .normal ·) (eo (aa l0) (aa t)) { s' with st:={ s'.st with next:=s'.st.next+aa (l0++t) } }):j5 P n (.region id ⟨l0++t⟩ Y) Q s:=by
 intro o G a w i;refine wp_region_any hm ?_;have key:=W3 (P:=P) (l0:=l0) (aa t) t rfl hl (Q:=λe k w'=>e=.normal/\∃s2 d,ou n G s.st w d s2.st w'/\zc d s2 k w'/\Q .normal s2) (λ_ _ _ p=>p.1) (a:=a) (w:={ w with drawn:=w.drawn+1 }) ?_;refine Bl (λ_ _ _ p=>p.1) ?_ _ _ _ _ key;rintro k w' ⟨_,s2,d,c,q,r⟩;exact⟨s2,d,c,q,r⟩;refine ca7 cb m h i (λG' k w' z l=>⟨rfl,?_⟩);have u:zc G' { s' with st:={ s'.st with next:=s'.st.next+aa (l0++t) } } k w':=⟨l.defers,l.size,l.tmps,l.rel.next (aZ _ _)⟩;have:=b G' k w' u (λj hj=>⟨by simp at hj⊢;omega,l.rel.fresh _ (aZ _ _)⟩) (ay _) (bD o z.next);have x:=z.KI (n:=n) o o;refine sh ?_ _ _ _ this;rintro e a2 C ⟨rfl,s2,d,c,q,r⟩;exact⟨rfl,s2,d,x.trans ⟨c.qs,c.lo,c.pl,c.gA,(Fr.less (σ:=s'.st) (σ':={ s'.st with next:=s'.st.next+aa (l0++t) }) (λ_ _ h=>h)).trans c.bb⟩ (ay _),q,r⟩
variable {G:ca}{P:Program}{Uq:cu Nat}{i:Nat}{ng:cu Nat}{o:Oper}{ops:Array Oper}{p:Nat->Bool}{r:cu Nat}{s:bl}{w:World}
def Az:Op->Bool
 | .move _=>Y
 | .load ..=>Y
 | .fieldAddr ..=>Y
 |_=>U
def Tg{T:bY}(cb:rk P T){σ:bg}(h:Rel G σ w){c:Operand->bX}{ev:Operand->Value}(b:∀x,eR G (c x) (ev x)){id0:Nat}{v:bX}{σ':bg}(hp:Az o.op=Y)
  (ha:fb T c σ id0 o.op=Z (v,σ')):∃u,(execOp ev o).run P w=.ok (.value u) w/\eR G v u:=by
 have key:∀ {s:Sem Value},y9 G w v (s.run P w)->∃u,((do pure (Next.value (<-s)):Sem Next).run P w)=.ok (.value u) w/\eR G v u:=by rintro s ⟨u,h1,h2⟩;exact⟨u,by simp[h1],h2⟩
 cases a:o.op with
 |move x =>rw[a]at ha;cases ha;simp only[execOp,a];exact⟨_,rfl,b x⟩
 |load t x =>rw[a]at ha;simp only[fb]at ha;split at ha;rename_i d hv;cases ha;simp only[execOp,a];exact key (Wv cb h (b x) hv);cases ha
 |fieldAddr t x f =>rw[a]at ha;simp only[fb]at ha;split at ha;rename_i d hv;cases ha;simp only[execOp,a];exact key (Vn cb h (b x) hv);cases ha
 |_=>simp[a,Az]at hp
def Xd{Q Q':Exit->Act->World->Prop}(l:∀e a w,Q e a w->e=.normal)(ho:ops[i]?=Z o)(m:o.guard=W)(hs:∀cs b,o.op≠.select cs b){a b:Act}
  (hl:∀t∈o.looksAt ops,a.tmps.getD t undef=b.tmps.getD t undef) {K K':Act->World->Prop} (hk:∀u w',K (b.put o.dst u) w'->K' (a.put o.dst u) w') (hd:∀d w',¬K ({ b with defers:=d::b.defers }.put o.dst undef) w')
  (h:wpOp P ops Q i K b w):wpOp P ops Q' i K' a w:=by
 have k:execOp a.eval o=execOp b.eval o:=execOp_congr o hs λx k=>by
  cases x with
  |tmp t=>exact hl t (dz _ (dh.2 ⟨.tmp t,by simpa using k,rfl⟩))
  |_=>rfl
 have hw:∀c:Act,cS o (yielded ops c.tmps)=Y:=λc=>by unfold cS;rw[m]
 have hp:∀c a w,¬Q (.panic c) a w:=λc a w g=>by cases l _ _ _ g
 have j:¬LetsOut Q:=λ⟨a,w,g⟩=>by cases l _ _ _ g
 unfold wpOp at h⊢;simp only[ho,hw]at h⊢;rcases h with h|⟨_,h2⟩
 .left
  unfold gB at h⊢;rw[k];generalize(execOp b.eval o).run P w=r at h⊢;cases r with
  |ok n w' =>
   cases n with
   |value v=>exact hk _ _ h
   |skip=>exact hk _ _ h
   |defer d=>exact b8 h (hd _ _)
   |enter f args=>
    refine h.mono ?_;intro e p g;cases e with
    |returned v=>exact hk _ _ g
    |panicked c=>exact b8 g (hp _ _ _)
    |outgrown=>exact b8 g j
   |row row args =>exact h.mono λ_ _ g=>hk _ _ g
   |_=>simp only[iW]at h
  |halt x w' =>
   cases x with
   |panic v=> exact b8 h (hp _ _ _)
   |_=>simp only[iW]at h
 exact b8 h2 j
def Hg(T:bY)(ops:Array Oper)(s:bl)(u:Nat):Prop:=∃o v t id σ',ops[u]?=Z o/\o.dst=Z t/\oz s.n o.dst=Y/\fb T s.eval s.st id o.op=Z (v,σ')/\s.get t=v
def hasB(ops:Array Oper)(j u:Nat):Bool:=((oC ops.toList []).getD j 0).testBit u
def Hy(P:Program)(ops:Array Oper)(i:Nat)(K:bl->Prop)(s:bl):Prop :=∀G a w,zc G s a w->wpOp P ops (λe _ _=>e=.normal) i (λb w'=>∃s' G',ou s.st.next G s.st w G' s'.st w'/\zc G' s' b w'/\K s') a w
def vy(P:Program)(T:bY)(ops:Array Oper)(Uq:cu Nat)(Qs:bl->Prop):cu Nat->cu Nat->bl->Prop
 |ng,[],s=>(∀u∈Uq,ng.any (hasB ops · u)=U->Hg T ops s u)/\Qs s
 |ng,i::r,s=>(∀u∈Uq,ng.any (hasB ops · u)=U->Hg T ops s u)/\Hy P ops i (vy P T ops Uq Qs (ng++[i]) r) s
def vy.bO1{T:bY}{Qs:bl->Prop}(h:vy P T ops Uq Qs ng r s):∀u∈Uq,ng.any (hasB ops · u)=U->Hg T ops s u:=by cases r;exact h.1;exact h.1
structure LM(ops:Array Oper)(Uq R:List Nat):Prop where
 PW:∀(j:Nat) (o:Oper) cs b,ops[j]?=Z o->o.op≠.select cs b
 I3:∀(j:Nat) (o:Oper),ops[j]?=Z o->o.guard=W
 FF:∀(j:Nat) (o:Oper),ops[j]?=Z o->∀e∈o.after,cA .any e=Y->e.on<j
 cover:∀i,i<ops.size->i∈Uq\/i∈R
 bg5:∀i∈R,i∉Uq
 kl:∀u∈Uq,∀o,ops[u]?=Z o->Az o.op=Y
 dst:∀u∈Uq,∀(o:Oper) (t:Tmp),ops[u]?=Z o->o.dst=Z t->∀(j:Nat) (oj:Oper),ops[j]?=Z oj->(j≠u->oj.dst≠Z t)/\(t∈oj.looksAt ops->hasB ops j u=Y)
 chain:∀a b c,R=a++b::c->∀i∈a,hasB ops b i=Y
 size:∀i∈R,i<ops.size
 nodup:R.Nodup
structure G7(ops:Array Oper)(Uq:List Nat)(p:Nat->Bool)(a b:Act):Prop where
 defers:a.defers=b.defers
 size:a.tmps.size=b.tmps.size
 tmps:∀t,a.tmps.getD t undef=b.tmps.getD t undef\/∃u∈Uq,p u=U/\∃o,ops[u]?=Z o/\o.dst=Z t
def Act.Kd(a:Act)(d:dv Tmp)(v:Value)(t:Tmp):(a.put d v).tmps.getD t undef=if d=Z t/\t<a.tmps.size then v else a.tmps.getD t undef:=by cases d;simp[jx];rename_i d;simp only[jx];by_cases h:d=t;subst h;by_cases h2:d<a.tmps.size;simp[h2];simp[h2];simp[h]
variable {K:Act->World->Prop}{Q:Exit->Act->World->Prop}{a b:Act}
def Act.Ke(a:Act)(d:dv Tmp)(v:Value):(a.put d v).tmps.size=a.tmps.size:=by cases d<;>simp[jx]
def Act.D2(a:Act)(d:dv Tmp)(v:Value):(a.put d v).defers=a.defers:=by cases d<;>rfl
theorem G7.put{l:Nat->Bool}(h:G7 ops Uq p a b)(ho:ops[i]?=Z o)(hp:∀j,j≠i->l j=p j)(d:dv Tmp)(hd:o.dst=d)(v:Value)
  : G7 ops Uq l (a.put d v) (b.put d v):=by
 refine⟨by rw[Act.D2,Act.D2];exact h.defers,by rw[Act.Ke,Act.Ke];exact h.size,λt=>?_⟩;rw[Act.Kd,Act.Kd,h.size];by_cases hc:d=Z t/\t<b.tmps.size;rw[cr hc,cr hc];exact .inl rfl;rw[cc hc,cc hc];rcases h.tmps t with h1|⟨u,hu,f,m,h2,g⟩
 exact .inl h1;by_cases c:u=i;subst c;rw[ho]at h2;cases h2;have e:b.tmps.size<=t:=by rw[hd]at g;by_cases k:t<b.tmps.size;exact b8 ⟨g,k⟩ hc;omega
 simp[ fF e,fF (h.size▸e)];exact .inr ⟨u,hu,by rw[hp u c];exact f,m,h2,g⟩
def zc.yu(h:zc G s b w)(hd:a.defers=b.defers)(hs:a.tmps.size=b.tmps.size)(c:∀t,a.tmps.getD t undef=b.tmps.getD t undef):zc G s a w :=⟨hd.trans h.defers,hs.trans h.size,λt=>by rw[c];exact h.tmps t,h.rel⟩
section
variable {P:Program} {T:bY} (cb:rk P T) {ops:Array Oper} {Uq R:cu Nat} (hS:LM ops Uq R) {Qs:bl->Prop} {n:Nat} {G0:ca} {σ0:bg} {qs:World}
structure SW(P:Program)(T:bY)(ops:Array Oper)(Uq R:List Nat)(Qs:bl->Prop)(n:Nat)(G0:ca)(σ0:bg)(qs:World)(p:Nat->Bool)(ng r:List Nat)(s:bl)(G:ca)(a b:Act)(w:World):Prop where
 closed:yS ops p
 parts:R=ng++r
 done:∀i∈ng,p i=Y
 todo:∀i∈r,p i=U
 zR:vy P T ops Uq Qs ng r s
 rel:zc G s b w
 uS:ou n G0 σ0 qs G s.st w
 yu:G7 ops Uq p a b
include cb hS in
theorem SW.look(h:SW P T ops Uq R Qs n G0 σ0 qs p ng r s G a b w){u:Nat}(hu:u∈Uq)(q:p u=U)(ho:ops[u]?=Z o)
  (c:∀e∈o.after,cA .any e=Y->p e.on=Y)  
  (hk:∀H N,SW P T ops Uq R Qs n G0 σ0 qs (λj=>j==u||p j) ng r s G H N w->K H w):wpOp P ops Q u K a w:=by
 have g:ng.any (hasB ops · u)=U:=by rw[Bool.eq_false_iff];intro hc;let ⟨j,hj,m⟩:=gW.1 hc;have z:=hS.size j (h.parts▸dz _ hj);have d:ops[j]?=Z ops[j]:=bo z;have:=yq h.closed j _ d (h.closed j _ d (h.done j hj)) u m;rw[q]at this;cases this
 let ⟨o',v,t,id,σ',h1,h2,h3,O,S⟩:=h.zR.bO1 u hu g;rw[ho]at h1;cases h1;have f:∀x∈o.looksAt ops,a.tmps.getD x undef=b.tmps.getD x undef:=λx k=>by
  rcases h.yu.tmps x with h6|⟨I,B,C,o',h7,h8⟩
  exact h6;have:=yq h.closed u o ho c I ((hS.dst I B o' x h7 h8 u o ho).2 k);rw[C]at this;cases this
 have k:execOp a.eval o=execOp b.eval o:=execOp_congr o (hS.PW u o · · ho) λx k=>by
  cases x with
  |tmp t=>exact f t (dz _ (dh.2 ⟨.tmp t,by simpa using k,rfl⟩))
  |_=>rfl
 let ⟨J,r1,r2⟩:=Tg cb h.rel.rel h.rel.eval (hS.kl u hu o ho) O;have hw:cS o (yielded ops a.tmps)=Y:=by unfold cS;rw[hS.I3 u o ho]
 unfold wpOp;simp only[ho,hw,vE];left;unfold gB;rw[k,r1];refine hk (a.put o.dst J) (b.put o.dst J) ⟨λj oj d D e he m=>?_,h.parts,λi a7=>by simp[h.done i a7],λi a7=>?_,h.zR,?_,h.uS,h.yu.put ho (λj hj=>by simp[hj]) _ rfl _⟩;by_cases l:j=u;subst l;rw[ho]at d;cases d;simp[c e he m];have:p j=Y:=by simpa[l]using D
 simp[h.closed j oj d this e he m];have E:i≠u:=λe=>by subst e;exact hS.bg5 i (h.parts▸List.mem_append_right _ a7) hu
 simpa[E]using h.todo i a7;refine⟨by rw[Act.D2];exact h.rel.defers,by rw[Act.Ke];exact h.rel.size,λM=>?_,h.rel.rel⟩;rw[Act.Kd];split;rename_i hc;rw[h2]at hc;have:t=M:=by simpa using hc.1
 rw[<-this,S];exact r2;exact h.rel.tmps M
include hS in
theorem SW.link(h:SW P T ops Uq R Qs n G0 σ0 qs p ng r s G a b w)(a7:i∈R)(t:p i=U)(ho:ops[i]?=Z o)
  (f:∀e∈o.after,cA .any e=Y->p e.on=Y)  (hQ:∀e a w,Q e a w->e=.normal) 
  (hk:∀D B s' G' a' b' w',SW P T ops Uq R Qs n G0 σ0 qs (λj=>j==i||p j) D B s' G' a' b' w'->K a' w'):wpOp P ops Q i K a w:=by
 have g:i∈r:=by
  rw[h.parts]at a7;rcases aV.1 a7 with h1|h1
  rw[h.done i h1]at t;cases t;exact h1
 cases m:r with
 |nil=>rw[m]at g;cases g
 |cons k B =>
  have E:i=k:=by
   rw[m]at g;rcases aG.1 g with h1|h1
   exact h1;exfalso;let ⟨c,d,e⟩:=kC h1;have C:=hS.chain (ng++k::c) i d (by rw[h.parts,m,e];simp) k (by simp);have:=yq h.closed i o ho f k C;rw[h.todo k (by rw[m];simp)]at this;cases this
  subst E;have v:=h.zR;rw[m]at v;have H:=v.2 G b w h.rel;refine Xd (λ_ _ _ hh=>hh) ho (hS.I3 i o ho) (hS.PW i o · · ho) (a:=a) (b:=b) (K':=K) (λx hx=>?_) (λu w' hu=>?_) (λd w' hu=>?_) H;rcases h.yu.tmps x with h6|⟨u',I,J,o',h7,h8⟩
  exact h6;have:=yq h.closed i o ho f u' ((hS.dst u' I o' x h7 h8 i o ho).2 hx);rw[J]at this;cases this;let ⟨s',G',b1,M,b3⟩:=hu;have l:=hS.nodup;rw[h.parts,m]at l;have N:i∉ng/\i∉B:=by rw[List.nodup_append]at l;exact⟨λhc=>l.2.2 i hc i (by simp) rfl,(dq.1 l.2.1).1⟩
  refine hk (ng++[i]) B s' G' (a.put o.dst u) (b.put o.dst u) w' ⟨λj oj q O e he C=>?_,by rw[h.parts,m];simp,λj hj=>?_,λj hj=>?_,b3,M,h.uS.trans b1 h.uS.gA,h.yu.put ho (λj hj=>by simp[hj]) _ rfl _⟩;by_cases z:j=i;subst z;rw[ho]at q;cases q;simp[f e he C];have:p j=Y:=by simpa[z]using O
  simp[h.closed j oj q this e he C];rcases aV.1 hj with h1|h1
  simp[h.done j h1];have:j=i:=by simpa using h1
  simp[this];have S:j≠i:=λe=>N.2 (e▸hj);simpa[S]using h.todo j (by rw[m];exact bC _ hj);let ⟨s',G',b1,M,b3⟩:=hu;have:=M.defers;rw[Act.D2]at this;cases this
include cb hS in
theorem SW.any:∀(fuel:Nat) (listed:Array Bool) (ng r:cu Nat) (s:bl) (G:ca) (a b:Act) (w:World),listed.size=ops.size->left ops.size (listed.getD · U)=fuel ->
  SW P T ops Uq R Qs n G0 σ0 qs (listed.getD · U) ng r s G a b w->wpAny P .any ops (λe z w'=>e=.normal/\∃s' G',ou n G0 σ0 qs G' s'.st w'/\zc G' s' z w'/\Qs s') fuel listed a w:=by
 have nil:∀(listed:Array Bool),listed.size=ops.size->bO .any ops listed=[]->∀i,i<ops.size->listed.getD i U=Y:=by
  intro listed c m i
  induction i using ir with
  |_ i E=>
   intro a7;cases hl:listed.getD i U with
   |true=>rfl
   |false=>
    have ho:ops[i]?=Z ops[i]:=bo a7;have:i∈bO .any ops listed:=mem_ready.2 ⟨by simp[c,a7]at hl⊢;exact hl,_,ho,λe he K=>by
     have l:=hS.FF i _ ho e he K;exact E e.on l (by omega)⟩
    rw[m]at this;cases this
 have fin:∀(p:Nat->Bool) (ng r:cu Nat) (s:bl) (G:ca) (a b:Act) (w:World),SW P T ops Uq R Qs n G0 σ0 qs p ng r s G a b w->(∀i,i<ops.size->p i=Y) ->
   (∃s' G',ou n G0 σ0 qs G' s'.st w/\zc G' s' a w/\Qs s'):=by
  intro p ng r s G a b w h d;cases B:r with
  |cons k J =>have h1:=d k (hS.size k (by rw[h.parts,B];simp));rw[h.todo k (by rw[B];simp)]at h1;cases h1
  |nil=>
   have C:=h.zR;rw[B]at C;refine⟨s,G,h.uS,h.rel.yu h.yu.defers h.yu.size (λt=>?_),C.2⟩;rcases h.yu.tmps t with h1|⟨u,hu,hp,o,ho,_⟩
   exact h1;rw[d u (aP.1 ho).1]at hp;cases hp
 intro fuel
 induction fuel with
 |zero=>
  intro listed ng r s G a b w c q hw;have d:=NV q;refine⟨?_,rfl,fin _ _ _ _ _ _ _ _ hw d⟩;cases B:bO .any ops listed with
  |nil=>rfl
  |cons i is=>
   have:i∈bO .any ops listed:=by rw[B];simp
   let ⟨h1,o,ho,_⟩:=mem_ready.1 this;have a7:i<ops.size:=(aP.1 ho).1;have:=d i a7;simp[c,a7]at h1 this;rw[h1]at this;cases this
 |succ fuel E=>
  intro listed ng r s G a b w c q hw;refine⟨λm=>⟨rfl,fin _ _ _ _ _ _ _ _ hw (nil listed c m)⟩,λi a7=>?_⟩;let ⟨h1,o,ho,D⟩:=mem_ready.1 a7;have l:i<ops.size:=(aP.1 ho).1;have v:listed.getD i U=U:=by simp[c,l]at h1⊢;exact h1
  have f:((listed.setIfInBounds i Y).getD · U)=(λj=>j==i||listed.getD j U):=funext λj=>by
   by_cases e:j=i;subst e;simp[c,l];rw[getD_set_ne U (kx e)];have:(j==i)=U:=by simpa using e
   rw[this];rfl
  have g:left ops.size (λj=>j==i||listed.getD j U)=fuel:=by have:=O3 (p:=λj=>listed.getD j U) l v;omega
  rcases hS.cover i l with hu|hu
  exact SW.look cb hS hw hu v ho D λz H x=>E _ ng r s G z H w (by simp[c]) (by rw[f];exact g) (by rw[f];exact x);exact SW.link hS hw hu v ho D (λ_ _ _ M=>M.1) λI J s' G' z H w' x=>E _ I J s' G' z H w' (by simp[c]) (by rw[f];exact g) (by rw[f];exact x)
theorem vy.mono{b c:bl->Prop}(d:∀s,b s->c s):∀(r ng:cu Nat) (s:bl),vy P T ops Uq b ng r s->vy P T ops Uq c ng r s
 | [],_,_,h=>⟨h.1,d _ h.2⟩
 |_::r,ng,_,h=>⟨h.1,λG a w e=>wpOp_mono (λ_ _ ⟨s',G',f,a2,a3⟩=>⟨s',G',f,a2,vy.mono d r _ s' a3⟩) (h.2 G a w e)⟩
theorem Hy.bq7(ho:ops[i]?=Z o)(l:o.guard=W)(hs:∀cs b,o.op≠.select cs b){K:bl->Prop}
  (h:nn P ops s.st.next s.st.next K [i] { s with st:={ s.st with next:=s.st.next+ops.size } }):Hy P ops i K s:=by
 intro G a w e;have a7:=(aP.1 ho).1;have f:zc G { s with st:={ s.st with next:=s.st.next+ops.size } } a w:=⟨e.defers,e.size,e.tmps,e.rel.next (aZ _ _)⟩;have:=h G a w f (λj hj=>by
  have:j=i:=by simpa using hj
  subst this;exact⟨a7,e.rel.fresh _ (aZ _ _)⟩) (ay _) (ay _)
 refine Xd (λ_ _ _ m=>m.1) ho l hs (λ_ _=>rfl) (λu w' hu=>?_) (λd w' hu=>?_) this;let ⟨_,s',G',c,g,k⟩:=hu;exact⟨s',G',⟨c.qs,c.lo,c.pl,c.gA,(Fr.less (σ:=s.st) (σ':={ s.st with next:=s.st.next+ops.size }) (λ_ _ h=>h)).trans c.bb⟩,g,k⟩;let ⟨_,s',G',c,g,k⟩:=hu;have:=g.defers;rw[Act.D2]at this;cases this
inductive Looks (T:bY) (ops:Array Oper):List Nat->bl->bl->Prop
 |nil (s:bl):Looks T ops [] s s
 |cons {u:Nat} {us:List Nat} {s s':bl} {o:Oper} {v:bX} {id:Nat} {σ':bg} (ho:ops[u]?=Z o) (hp:Az o.op=Y) (hd:oz s.n o.dst=Y) (ha:fb T s.eval s.st id o.op=Z (v,σ')) (h:Looks T ops us (s.put o.dst v) s'):Looks T ops (u::us) s s'
include cb in
theorem Looks.ok:∀ {us:cu Nat} {s s':bl},Looks T ops us s s'->∀ {G:ca} {b:Act} {w:World},zc G s b w->s'.st=s.st/\∃a,zc G s' a w/\b.defers=a.defers/\b.tmps.size=a.tmps.size/\∀t,b.tmps.getD t undef=a.tmps.getD t undef\/∃u∈us,∃o,ops[u]?=Z o/\o.dst=Z t
 |_,_,_,.nil s,G,b,w,c=>⟨rfl,b,c,rfl,rfl,λ_=>.inl rfl⟩
 |_,_,_,.cons (o:=o) (v:=v) ho hp hd ha h,G,b,w,c=>by
  let ⟨j,k,e⟩:=Tg cb c.rel c.eval hp ha;have h1:=c.put (.refl G) c.rel e hd;let ⟨f,a,fa,gb,kc,yF⟩:=Looks.ok h h1;refine⟨by rw[f];simp,a,fa,by rw[<-gb,Act.D2],by rw[<-kc,Act.Ke],λt=>?_⟩;rcases yF t with d|⟨u,hu,o',g,i⟩
  rw[Act.Kd]at d;split at d;rename_i hc;exact .inr ⟨_,by simp,o,ho,hc.1⟩;exact .inl d;exact .inr ⟨u,bC _ hu,o',g,i⟩
include cb hS in
theorem j5.bL4(hm:P.follows .mixedOrders=Y){id m:Nat}{g:bl}(p:Looks T ops Uq s g){Q:Exit->bl->Prop}(k:vy P T ops Uq (Q .normal ·) [] R g):j5 P m (.region id ops Y) Q s:=by
 intro q G a w c;refine wp_region_any hm ?_;have d:zc G s a { w with drawn:=w.drawn+1 }:=⟨c.defers,c.size,c.tmps,c.rel.drawn _⟩;let ⟨l,b,fa,gb,kc,yF⟩:=Looks.ok cb p d;have e:∀j,(bq ops.size U).getD j U=U:=λj=>by by_cases hj:j<ops.size<;>simp[hj]
 have f:left ops.size ((bq ops.size U).getD · U)=ops.size:=by
  unfold left;rw[g_.2 (λx r=>by
   have:x<ops.size:=by simpa using r
   simp[this])]
  simp
 have key:=SW.any (P:=P) cb hS (Qs:=λs2=>Q .normal s2) (n:=m) (G0:=G) (σ0:=s.st) (qs:=w) ops.size (bq ops.size U) [] R g G a b { w with drawn:=w.drawn+1 } (by simp) f
  ⟨λj o _ hp=>(by rw[e]at hp;cases hp),rfl,λi a7=>(by simp at a7),λi _=>e i,k,fa,⟨rfl,λ_ _ h=>h,λ_ _=>rfl,by rw[l];exact q,by rw[l];exact Fr.MM _ _ _ _ (aZ _ _)⟩,gb,kc,λt=>(yF t).imp (λh=>h) λ⟨u,hu,o,v,z⟩=>⟨u,hu,e u,o,v,z⟩⟩
 refine Bl (λ_ _ _ B=>B.1) ?_ _ _ _ _ key;rintro H w' ⟨_,s',G',C,D,E⟩;exact⟨s',G',C,D,E⟩
end
variable {f:FuncId}{ops:Array Oper}{σ:bg}
mutual
def bX.rJ:bX->bX
 | .b4 (.slice W 0 0)=>.rs []
 | .rs es=>.rs (Ax es)
 | .agg cs=>.agg (y6 cs)
 | .ed cs=>.ed (y6 cs)
 |v=>v
def y6:eX->eX
 | []=>[]
 |c::cs=>c.rJ::y6 cs
def Ax:cu eX->cu eX
 | []=>[]
 |c::cs=>y6 c::Ax cs
end
variable {φ:eX->dv bX}
def BF:∀l,y6 l=l.map bX.rJ
 | []=>by simp[y6]
 |c::cs=>by simp[y6,BF cs]
def O':∀l,Ax l=l.map (cD bX.rJ)
 | []=>by simp[Ax]
 |c::cs=>by simp[Ax,BF,O' cs]
mutual
theorem BN{G:ca}{θ:Nat->bX}:∀(v:bX) (u:Value),eR G (v.sub θ) u->eR G (v.rJ.sub θ) u
 | .b4 v,u,h=>by
  by_cases hv:v=.slice W 0 0;subst hv;simp only[bX.sub]at h;cases h;simp only[bX.rJ,bX.sub,o8];exact .q9;have:(bX.b4 v).rJ=.b4 v:=by unfold bX.rJ;split;rename_i e;cases e;exact(hv rfl).elim;rename_i e;cases e;rename_i e;cases e;rename_i e;cases e;rfl
  rw[this];exact h
 | .rs es,u,h=>by
  have d:=ae9 (G:=G) (θ:=θ) es;simp only[bX.rJ,bX.sub,vQ,O']at h⊢;generalize g:es.map (cD (bX.sub θ))=xs at h;cases h with
  |q9=>
   have:es=[]:=by simpa using g
   subst this;exact .q9
  |rs _ a cap size val hs hc hlen himm hrep=>
   subst g;have hl:aa (es.map (cD (bX.sub θ)))=aa ((es.map (cD bX.rJ)).map (cD (bX.sub θ))):=by simp
   rw[hl];refine .rs _ a cap size val hs (by rw[<-hl];exact hc) (λi a7=>?_) (λi j a7 hj=>himm i j (by rw[hl];exact a7) hj) (λi j a7 hj=>?_);have:=hlen i (by rw[hl];exact a7);simpa using this;have b:i<aa es:=by simpa using a7
   have f:j<es[i].length:=by simpa using hj
   have:=hrep i j (by simpa using b) (by simpa using f);simp only[cK]at this⊢;exact d _ (au b) _ (au f) _ this
 | .agg cs,u,h=>by
  have d:=Je (G:=G) (θ:=θ) cs;simp only[bX.rJ,bX.sub,pT,BF]at h⊢;cases h with
  |agg _ vs h1 h2=>
   refine .agg _ vs (by simpa using h1) (λi a7 b=>?_);have c:i<aa cs:=by simpa using a7
   have:=h2 i (by simpa using c) b;simp only[cK]at this⊢;exact d _ (au c) _ this
 | .ed cs,u,h=>by
  have d:=Je (G:=G) (θ:=θ) cs;simp only[bX.rJ,bX.sub,pT,BF]at h⊢;cases h with
  |ed _ vs h1 h2=>
   refine .ed _ vs (by simpa using h1) (λi a7 b=>?_);have c:i<aa cs:=by simpa using a7
   have:=h2 i (by simpa using c) b;simp only[cK]at this⊢;exact d _ (au c) _ this
 | .any,u,h=>h
 | .fT _,u,h=>h
 | .ms _ _ _ _,u,h=>h
 | .mp _ _ _,u,h=>h
 | .mm _,u,h=>h
 | .it _,u,h=>h
 | .fn _ _ _,u,h=>h
 | .ey _,u,h=>h
 | .c8 _ _ _,u,h=>h
 | .l3 _ _ _,u,h=>h
 | .mY _,u,h=>h
theorem Je{G:ca}{θ:Nat->bX}:∀(l:eX) (v:bX),v∈l->∀u,eR G (v.sub θ) u->eR G (v.rJ.sub θ) u
 | [],_,hv,_,_=>by simp at hv
 |c::cs,v,hv,u,h=>by
  rcases aG.1 hv with e|hv
  rw[e]at h⊢;exact BN c u h;exact Je cs v hv u h
theorem ae9{G:ca}{θ:Nat->bX}:∀(l:cu eX) (r:eX),r∈l->∀v,v∈r->∀u,eR G (v.sub θ) u->eR G (v.rJ.sub θ) u
 | [],_,a,_,_,_,_=>by simp at a
 |c::cs,r,a,v,hv,u,h=>by
  rcases aG.1 a with e|a
  rw[e]at hv;exact Je c v hv u h;exact ae9 cs r a v hv u h
end
inductive nU where
 |bin (o:BinOp) (t:TypeId) (x y:bX)
 |un (o:UnOp) (x:bX)
 |conv (s d:TypeId) (x:bX)
 |idx (t:TypeId) (x i:bX)
 |index (t:TypeId) (x i:bX)
 |Cq (t:TypeId) (x:bX) (b7 a7:Option bX)
 |len (t:TypeId) (x:bX)
 |pP (l:List bX)
 |yT (l:List bX)
 |cat (sT xT:TypeId) (x y:bX)
 |call (f:FuncId) (args:List bX) (flat:Bool)
 |rows (l:List Nat)
 |look (t:TypeId) (c ix:bX) (ok:Bool)
 |xS (t:TypeId) (x ix:bX) (ok:Bool)
 |qe (t:TypeId) (c ix v:bX)
 |B_ (t:TypeId) (c:bX)
 |Aq
 |z7 (t:TypeId) (c i:bX)
 |x4 (t e:TypeId) (z:Nat) (c i:bX) (off:Nat)
 |za (t e:TypeId) (z:Nat) (c i:bX) (off:Nat) (v:bX)
 |B0 (x:bX)
 |As (n:Nat) (x:bX)
 |CE (sT:TypeId) (x:bX)
 |BR (t:TypeId) (g:Nat)
 |AG (c i:bX) (off:Nat)
 |B1 (x:bX)
 |more (s p:bX)
 |Cm (s p:bX)
 |Cd (ck:nW) (x:bX)
abbrev lv:=FuncId->dv (eX->dv bX)
abbrev p9:Nat:=1000000
def aJ7(P:Program)(f:FuncId)(φ:eX->dv bX):Prop:=∀v z rest c,φ (v::.b4 (.int .i64 (z:Nat))::rest)=Z c->∃es a,v=.rs es/\c=.rs a/\aa a=aa es /\
 ∀σ id e restv,σ.bF id=Z (.row e z es)->(∀G vs w,hE G restv vs->Rel G (σ.del id) w->hE (G.frozen (σ.del id) w (λ_=>W)) rest vs) ->
  oO P f (.ms id z 0 (aa es)::restv) σ (λv σ'=>v=.ed []/\σ'=σ.set id (.row e z a))
abbrev uj:Nat:=2000000
def aU1(P:Program)(f:FuncId)(φ:eX->dv bX):Prop:=∀args c,φ args=Z c->∃es,c=.rs es/\∀T fn t elem ti a,rk P T->P.funcs[f]?=Z fn->fn.resultTypes.toList=[t]->T t=Z ti->ti.j4=.slice elem->T elem=Z a ->
 ∀σ:bg,oO P f args σ (λv σ'=>v=.ms (σ.next+5) a.size 0 (aa es)/\σ'={ σ with next:=σ.next+7 }.set (σ.next+5) (.row elem a.size es))
structure Ak(P:Program)(Φ:lv):Prop where
 vh:∀f φ,f<p9->Φ f=Z φ->∀args c,φ args=Z c->oX P ⟨f,args,c⟩
 sort:∀f φ,f<p9->Φ (p9+f)=Z φ->aJ7 P f φ
 row:∀f φ,Φ (uj+f)=Z φ->aU1 P f φ
def lv.KE(Φ:lv)(f:FuncId):dv (eX->dv bX):=match cL f p9 with
 |true=>Φ (p9+f)
 |false=>W
def lv.fn(Φ:lv)(f:FuncId):dv (eX->dv bX):=match cL f p9 with
 |true=>Φ f
 |false=>W
def bj1(Φ:lv):bX->Bool
 | .fn (.func g) _ _=>(Φ.fn g).isSome
 | .fn _ _ _=>U
 |_=>Y
def bl7:bX->Bool
 | .c8 _ _ _=>Y
 |_=>U
def lv.at(Φ:lv)(f:FuncId)(args:eX):dv (eX->dv bX):=match args.all (bj1 Φ)&&!(args.any bl7&&(Φ (uj+p9+f)).isSome)with
 |true=>Φ.fn f
 |false=>W
def lv.be0{Φ:lv}{args:eX}(h:Φ.at f args=Z φ):Φ.fn f=Z φ:=by grind[lv.at]
def lv.yE{Φ:lv}(h:Φ.fn f=Z φ):f<p9/\Φ f=Z φ:=by unfold lv.fn at h;split at h;rename_i a;exact⟨by simpa using a,h⟩;cases h
def Hl(T:bY)(sT xT:TypeId)(a b:bX):dv bX :=
 match T sT,T xT with
 |some { j4:=.slice elem,.. },Z e=>
  match T elem with
  |some d=>match a,b with
   | .rs es,.rs xs=>ite (e.isInt=U/\(xs.all λc=>aa c==d.size&&c.all bX.one)=Y/\(2*(aa es+aa xs)+1000)*d.bytes<=2^48/\aa es+aa xs<=2^62/\0<d.size) (Z (.rs (es++xs))) <|none
   |_,_=>W
  |none=>W
 |_,_=>W
def tm(c:bX):bg:=bg.none.set 0 (qY c)
def KV(b:Bool)(l:eD):eX->Bool
 |r=>tl b l (oW 0 r).1
def tf(k v:bX)(b:Bool)(l:eD):cu eX->cu eX
 | []=>[[k,v]]
 |r::rs=>match KV b l r with
  |true=>[k,v]::rs
  |false=>r::tf k v b l rs
def F9:c7->dv bX
 | .nC c=>Z c
 | .map U [] 0=>Z (.rs [])
 |_=>W
def WZ(i j:Nat)(r:eX):(oW i r).1=(oW j r).1:=by unfold oW;split<;>rfl
def NK(b:Bool)(l:eD):∀(es:cu (eD×bX×Nat)) (k:Nat),nX b l es (k+1)=(nX b l es k).map (λp=>(p.1+1,p.2))
 | [],_=>rfl
 |e::es,k=>by simp only[nX];split;rfl;exact NK b l es (k+1)
theorem ax4{ix v:bX}{b:Bool}{l:eD}(hk:ix.key=Z (b,l)):∀(rs:cu eX) (j:Nat),nT j (tf ix v b l rs)=(qe b l v (j+aa rs) (nT j rs)).1
 | [],j=>by simp[tf,nT,oW,hk,qe,nX]
 |r::rs,j=>by
  have c:=ax4 (v:=v) hk rs (j+1);simp only[tf,KV];have a:tl b l (oW j r).1=tl b l (oW 0 r).1:=by rw[WZ j 0]
  split;rename_i hc;have d:oW j [ix,v]=(l,v,j):=by simp[oW,hk]
  have e:=NQ j r;simp only[nT,d];simp[qe,nX,a,hc,e];rename_i hc;simp only[nT,c];have f:j+1+aa rs=j+(aa rs+1):=by omega
  simp only[qe,nX,a,hc,f];rw[NK];cases nX b l (nT (j+1) rs) 0 with
  |none=>simp
  |some p=>simp
theorem aB4{ix v:bX}{b:Bool}{l:eD}:∀(rs:cu eX) (j:Nat),aa (tf ix v b l rs)=(qe b l v (aa rs) (nT j rs)).2
 | [],j=>by simp[tf,qe,nX,nT]
 |r::rs,j=>by
  have c:=aB4 (ix:=ix) (v:=v) (b:=b) (l:=l) rs (j+1);simp only[tf,KV,nT];have a:tl b l (oW j r).1=tl b l (oW 0 r).1:=by rw[WZ j 0]
  split;rename_i hc;simp[qe,nX,a,hc];rename_i hc;simp only[aA,c];simp only[qe,nX,a,hc];rw[NK];cases nX b l (nT (j+1) rs) 0 with
  |none=>simp
  |some p=>simp
def bo7{T:bY}{id:Nat}{c ix v:bX}{t:TypeId}{b:Bool}{l:eD}(ho:σ.bF id=Z (qY c))(hk:ix.key=Z (b,l)){d:bg}(h:si T (tm c) t (.mm 0) ix v=Z d) :
  si T σ t (.mm id) ix v=Z (σ.set id (qY (.rs (tf ix v b l (rowsOf c))))):=by
 have e:(tm c).bF 0=Z (qY c):=by simp[tm,bg.x9]
 unfold si at h⊢;split at h;rename_i m n _ _ _ _ o p q a;rw[hk]at a;cases a;simp only[e,qY]at h;simp only[ ho,qY];split at h;rename_i hc;have r:rowsOf c=[]:=by have:=hc.1;cases s:rowsOf c<;>grind[ nT]
 grind[rowsOf,tf,rZ,nT,oW]
 rename_i hc;rw[cc hc];split at h;rename_i f;rw[cr f];have i:∀es:cu eX,rowsOf (.rs es)=es:=λ_=>rfl;have g:=ax4 (v:=v) hk (rowsOf c) 0;have j:=aB4 (ix:=ix) (v:=v) (b:=b) (l:=l) (rowsOf c) 0;simp only[bj]at g;simp only[i];generalize rowsOf c=rs at *;rw[g,j];have k:rZ rs=rZ (tf ix v b l rs):=by
  cases rs
  grind[rZ,tf]
  simp only[tf];split
  grind[rZ]
  unfold rZ
  grind
 rw[<-k];cases h;cases h
def tW(e:TypeId)(z:Nat)(c:bX):bg:=bg.none.set 0 (.row e z (rowsOf c))
def cf1:bX->Bool
 | .rs _=>Y
 |_=>U
def Mc(T:bY)(sT:TypeId)(x:bX):dv bX :=
 match T sT with
 |some { j4:=.slice elem,.. }=>match T elem with
  |some a=>match x with
   | .b4 (.int _ n)=>ite (IntKind.wrap IntKind.i64 n=n/\0<n/\(2*n.toNat+1000)*a.bytes<=2^48/\n.toNat<=2^62/\0<a.size) (Z (.rs (List.replicate n.toNat a.zeroCells))) <|none
   |_=>W
  |none=>W
 |_=>W
def iv(T:bY)(Φ:lv)(θ:Nat->bX):nU->dv bX
 | .bin o t x y=>q7 T o t (x.sub θ) (y.sub θ)
 | .un o x=>wD o (x.sub θ)
 | .conv s d x=>w0 T s d (x.sub θ)
 | .idx t x i=>sH T t (x.sub θ) (i.sub θ)
 | .index t x i=>vZ T t (x.sub θ) (i.sub θ)
 | .Cq t x b7 a7=>uB T t (x.sub θ) (b7.map (bX.sub θ)) (a7.map (bX.sub θ)) W
 | .len t x=>p3 T bg.none t (x.sub θ)
 | .pP l=>(zn (l.map (bX.sub θ))).map .b4
 | .yT l=>(zl (l.map (bX.sub θ))).map .b4
 | .cat sT xT x y=>Hl T sT xT (x.sub θ) (y.sub θ)
 | .call f args flat=>match Φ f with
  |some φ=>match φ (args.map (bX.sub θ))with
   |some c=>ite (flat=Y->El c=Y) (Z c) <|none
   |none=>W
  |none=>W
 | .rows l=>match l.all (λj=>match θ j with| .rs _=>Y|_=>U)with
  |true=>Z (.b4 (.bool Y))
  |false=>W
 | .look t c ix ok=>qk T (tm (c.sub θ)) t (.mm 0) (ix.sub θ) ok
 | .xS t x ix ok=>qk T bg.none t (x.sub θ) (ix.sub θ) ok
 | .qe t c ix v=>match si T (tm (c.sub θ)) t (.mm 0) (ix.sub θ) (v.sub θ)with
  |some _=>match(ix.sub θ).key with
   |some (b,l)=>Z (.rs (tf (ix.sub θ) (v.sub θ) b l (rowsOf (c.sub θ))))
   |none=>W
  |none=>W
 | .B_ t c=>p3 T (tm (c.sub θ)) t (.mm 0)
 | .Aq=>Z (.b4 (.bool Y))
 | .B0 x=>match x.sub θ with
  | .fT _=>Z (.b4 (.bool Y))
  |_=>W
 | .CE sT x=>Mc T sT (x.sub θ)
 | .BR t g=>GY T t g
 | .B1 x=>match x.sub θ with
  | .b4 (.string _)=>Z (.b4 (.bool Y))
  |_=>W
 | .more s p=>match s.sub θ with
  | .b4 (.string b)=>match p.sub θ with
   | .b4 (.int .i64 n)=>Z (.b4 (.bool (No (n.toNat<b.size))))
   |_=>W
  |_=>W
 | .Cd ck x=>match x.sub θ with
  | .rs rows=>match A5 ck rows with
   |true=>Z (.rs (rows.map (rp ck 0)))
   |false=>W
  |_=>W
 | .Cm s p=>match s.sub θ with
  | .b4 (.string b)=>match p.sub θ with
   | .b4 (.int .i64 n)=>match No (n.toNat<b.size)with
    |true=>Z (.ed [.b4 (.int .i64 n.toNat),.b4 (.int .i32 (cg b n.toNat).1),.b4 (.int .i64 (n.toNat+(cg b n.toNat).2:Nat))])
    |false=>W
   |_=>W
  |_=>W
 | .AG c i off=>match(rowsOf (c.sub θ))[nm (i.sub θ)]? with
  |some r=>match cL off (aa r)with
   |true=>Z (.b4 (.bool Y))
   |false=>W
  |none=>W
 | .As n x=>match x.sub θ with
  | .fT cs=>match aw (aa cs) n with
   |true=>Z (.fT cs)
   |false=>W
  |_=>W
 | .z7 t c i=>match sH T t (.ms 0 (match T t with|some { j4:=.slice el,.. }=>(match T el with|some a=>a.size|none=>0)|_=>0) 0 (aa (rowsOf (c.sub θ)))) (i.sub θ)with
  |some _=>Z (.b4 (.bool Y))
  |none=>W
 | .x4 t e z c i off=>py T (tW e z (c.sub θ)) t (.mp 0 (nm (i.sub θ)) off)
 | .za t e z c i off v=>match sq T (tW e z (c.sub θ)) t (.mp 0 (nm (i.sub θ)) off) (v.sub θ)with
  |some σ=>match σ.bF 0 with
   |some (.row _ _ es)=>match aw (aa es) (aa (rowsOf (c.sub θ)))with
    |true=>Z (.rs es)
    |false=>W
   |_=>W
  |none=>W
def pZ:ef c7->cu Nat
 | .leaf=>[]
 | .node v l r=>(match v with|some (.fN _ _ j)=>[j]|some (.nC (.ey j))=>[j]|_=>[])++(pZ l++pZ r)
inductive nf where
 |stuck
 |ret (c:bX) (l:List Nat)
 |op (o:nU) (bb:Nat) (pat:bX) (r:nf)
 |test (i:Nat) (a b:nf)
 |loop (l k:Nat) (inits:List bX) (body:nf)
 |again (l:Nat) (j9:List bX)
def mV(T:bY)(Φ:lv)(Q:bX->Prop):nf->(Nat->bX)->(Nat->eX->Prop)->Prop
 | .stuck,_,_=>False
 | .ret c l,θ,_=>(∀j∈l,∃es,θ j=.rs es)/\Q (c.sub θ)
 | .op o bb pat r,θ,A=>∃d,(∀i,i<bb->d i=θ i)/\Fit d/\iv T Φ θ o=Z (pat.sub d)/\mV T Φ Q r d A
 | .test i a b,θ,A=>(θ i=.b4 (.bool Y)/\mV T Φ Q a θ A)\/(θ i=.b4 (.bool U)/\mV T Φ Q b θ A)
 | .loop l k inits body,θ,A=>∃I:Nat->eX->Prop,(∃n,I n (inits.map (bX.sub θ)))/\∀n j9,I n j9->aa j9=k->(∀v∈j9,nN v) ->
   ∀d,(∀i,i<l->d i=θ i)->(∀j (h:j<aa j9),d (l+j)=j9[j])->d (l+k)=.b4 (.bool U)->Fit d->mV T Φ Q body d (λf=>ite (f=l) (λe=>∃m,m<n/\I m e) <|A f)
 | .again l j9,θ,A=>A l (j9.map (bX.sub θ))
def zX(bb:Nat):Nat->eX
 | 0=>[]
 |n+1=>.ey bb::zX (bb+1) n
def zt(T:bY)(t:TypeId)(bb:Nat):dv (bX×Nat) :=
 match T t with
 |some ti=>ite ti.isAgg (Z (.agg (zX bb ti.size),bb+ti.size)) <|some (.ey bb,bb+1)
 |none=>W
def Yd(T:bY):cu TypeId->Nat->dv (eX×Nat)
 | [],bb=>Z ([],bb)
 |t::ts,bb=>match zt T t bb with
  |some (p,a)=>match Yd T ts a with
   |some (ps,b)=>Z (p::ps,b)
   |none=>W
  |none=>W
def Ye(T:bY)(ts:cu TypeId)(bb:Nat):dv (bX×Nat) :=
 match ts with
 | [t]=>zt T t bb
 |ts=>match Yd T ts bb with
  |some (ps,a)=>Z (.ed ps,a)
  |none=>W
def Lz(σ:bg)(elem:TypeId)(size:Nat):bX->dv (dv Nat×bX)
 | .b4 (.slice W 0 0)=>Z (W,.rs [])
 | .ms id _ 0 len=>match σ.bF id with
  |some (.row e a es)=>ite (len=aa es/\a=size/\e=elem) (Z (Z id,.rs es)) <|none
  |_=>W
 | .c8 id _ i=>match σ.bF id with
  |some (.fN e a j)=>ite (j=i/\a=size/\e=elem) (Z (Z id,.ey j)) <|none
  |_=>W
 |_=>W
def KF(σ:bg):bX->dv bX
 | .b4 (.slice W 0 0)=>Z (.rs [])
 | .ey i=>Z (.ey i)
 | .rs es=>Z (.rs es)
 | .ms id _ off len=>match σ.bF id with
  |some (.row _ _ es)=>ite (off+len<=aa es) (Z (.rs ((es.drop off).take len))) <|none
  |_=>W
 | .c8 id _ i=>match σ.bF id with
  |some (.fN _ _ j)=>ite (j=i) (Z (.ey j)) <|none
  |_=>W
 |_=>W
def bl9:bX->Bool
 | .ey _=>Y
 | .rs _=>Y
 |_=>U
def Pz(T:bY)(σ:bg)(id:Nat)(sT xT:TypeId)(a c:bX)(bb:Nat):dv (nU×bX×bX×bg×Nat) :=
 match T sT with
 |some { j4:=.slice elem,.. }=>match T elem with
  |some b=>match Lz σ elem b.size a,KF σ c with
   |some (d,x),Z y=>Z (.cat sT xT x y,.ey bb,.c8 id b.size bb,(match d with|some i=>σ.del i|none=>σ).set id (.fN elem b.size bb),bb+1)
   |_,_=>W
  |none=>W
 |_=>W
def PS(T:bY)(σ:bg)(id:Nat)(sT:TypeId)(a c:bX)(bb:Nat):dv (nU×bX×bX×bg×Nat) :=
 match T sT with
 |some { j4:=.slice elem,.. }=>match T elem with
  |some b=>match a with
   | .b4 (.slice W 0 0)=>Z (.CE sT c,.ey bb,.c8 id b.size bb,σ.set id (.fN elem b.size bb),bb+1)
   |_=>W
  |none=>W
 |_=>W
def P7(σ:bg)(i:Nat)(c:bX):dv bX:=match bl9 c with
 |true=>Z c
 |false=>match c with
  | .ms i2 z o l=>match aw i2 i with
   |true=>W
   |false=>KF σ (.ms i2 z o l)
  |_=>W
def LV(T:bY)(σ:bg)(id:Nat)(sT xT:TypeId)(a c:bX)(bb:Nat):dv (nU×bX×bX×bg×Nat) :=
 match T sT with
 |some { j4:=.slice elem,.. }=>match T elem with
  |some b=>match a with
   | .ms i _ 0 0=>match σ.bF i with
    |some (.fN e d _)=>match aw d b.size&&aw e elem,P7 σ i c with
     |true,Z y=>Z (.cat sT xT (.rs []) y,.ey bb,.c8 id b.size bb,(σ.del i).set id (.fN elem b.size bb),bb+1)
     |_,_=>W
    |_=>W
   |_=>W
  |none=>W
 |_=>W
def Lr(T:bY)(σ:bg)(id:Nat)(b:Builtin)(ts:cu TypeId)(args:eX)(bb:Nat):dv (nU×bX×bX×bg×Nat) :=
 match b,ts,args with
 | .len,[t],[.ey i]=>Z (.len t (.ey i),.ey bb,.ey bb,σ,bb+1)
 | .len,[t],[.c8 _ _ i]=>match T t with
  |some { j4:=.slice _,.. }=>Z (.len t (.ey i),.ey bb,.ey bb,σ,bb+1)
  |_=>W
 | .max,_,l=>Z (.pP l,.ey bb,.ey bb,σ,bb+1)
 | .min,_,l=>Z (.yT l,.ey bb,.ey bb,σ,bb+1)
 | .append,[s,x],[a,c]=>match T x with
  |some { j4:=.int _,.. }=>PS T σ id s a c bb
  |_=>match LV T σ id s x a c bb with
   |some q=>Z q
   |none=>Pz T σ id s x a c bb
 | .len,[t],[.mm m]=>match(σ.bF m).bind F9 with
  |some c=>Z (.B_ t c,.ey bb,.ey bb,σ,bb+1)
  |none=>W
 |_,_,_=>W
def OF(σ:bg)(t:TypeId)(m k x:bX)(bb:Nat):dv (nU×bX×bX×bg×Nat) :=
 match m with
 | .mm id=>match(σ.bF id).bind F9 with
  |some c=>Z (.qe t c k x,.ey bb,.b4 undef,σ.set id (.nC (.ey bb)),bb+1)
  |none=>W
 |_=>W
def Eg:bX->dv (Nat×bX×Nat)
 | .l3 id k off=>Z (id,.ey k,off)
 | .mp id i off=>Z (id,.b4 (.int .i64 i),off)
 |_=>W
def bl4(a:Operand->bX):Op->Bool
 | .load _ x=>(vW (a x)).isSome
 |_=>U
def C_(T:bY)(a:Operand->bX)(σ:bg)(id:Nat)(op:Op):dv (bX×bg):=match bl4 a op with
 |true=>W
 |false=>fb T a σ id op
def JS{T:bY}{a:Operand->bX}{id:Nat}{op:Op}{r:bX×bg}(h:C_ T a σ id op=Z r):fb T a σ id op=Z r:=by grind[C_]
def Hb(T:bY)(l:Operand->bX)(σ:bg)(id:Nat)(op:Op)(bb:Nat):dv (nU×bX×bX×bg×Nat) :=
 match op with
 | .binOp o t x y _=>Z (.bin o t (l x) (l y),.ey bb,.ey bb,σ,bb+1)
 | .unOp o _ x=>Z (.un o (l x),.ey bb,.ey bb,σ,bb+1)
 | .convert s d x=>Z (.conv s d (l x),.ey bb,.ey bb,σ,bb+1)
 | .nilCheck x=>match l x with
  | .l3 id k off=>Z (.Aq,.b4 (.bool Y),.l3 id k off,σ,bb)
  | .ey i=>Z (.B0 (.ey i),.b4 (.bool Y),.ey i,σ,bb)
  |_=>W
 | .fieldAddr t x f=>match l x,T t with
  | .l3 id k off,Z { j4:=.struct fields,.. }=>match fields[f]? with
   |some fd=>match T fd.type with
    |some w=>match aw w.size 0 with
     |true=>W
     |false=>Z (.Aq,.b4 (.bool Y),.l3 id k (off+fd.offset),σ,bb)
    |none=>W
   |none=>W
  | .ey i,Z ti=>match wB T t (.fT (zX bb ti.size)) f with
   |some v=>Z (.As ti.size (.ey i),.fT (zX bb ti.size),v,σ,bb+ti.size)
   |none=>W
  |_,_=>W
 | .load t x=>match vW (l x)with
  |some g=>(match zt T t bb with
   |some (p,h)=>Z (.BR t g,p,p,σ,h)
   |none=>W)
  |none=>match Eg (l x)with
  |some (id,i,off)=>match σ.bF id,zt T t bb with
   |some (.fN e z j),Z (p,h)=>Z (.x4 t e z (.ey j) i off,p,p,σ,h)
   |some (.nH e z c ck k q v),Z (p,h)=>match T t with
    |some ti=>match ti.isAgg with
     |true=>W
     |false=>match aw off q with
      |true=>match v,D4 i k with
       |some v0,Y=>Z (.AG c i off,.b4 (.bool Y),v0,σ,bb)
       |_,_=>W
      |false=>match ck.all (!Nat.beq ·.1 off)with
       |true=>Z (.x4 t e z c i off,p,p,σ,h)
       |false=>W
    |none=>W
   |_,_=>W
  |none=>match l x,T t with
   | .ey i,Z ti=>match py T bg.none t (.fT (zX bb ti.size))with
    |some v=>Z (.As ti.size (.ey i),.fT (zX bb ti.size),v,σ,bb+ti.size)
    |none=>W
   |_,_=>W
 | .store t a x=>match Eg (l a),T t,l x with
  |some (id,i,off),Z ti,.c8 m B j=>match σ.bF id with
   |some (.nH e z c ck k q (Z _))=>match aw ti.size 1&&aw off q&&D4 i k with
    |true=>Z (.AG c i off,.b4 (.bool Y),.b4 undef,σ.set id (.nH e z c ck k q (Z (.c8 m B j))),bb)
    |false=>W
   |_=>W
  |_,_,_=>W
 | .indexAddr t x i=>match T t with
  |some { j4:=.slice elem,.. }=>match T elem with
   |some r=>match l x with
    | .c8 id z j=>match aw z r.size with
     |true=>match l i with
      | .ey k=>Z (.z7 t (.ey j) (.ey k),.b4 (.bool Y),.l3 id k 0,σ,bb)
      | .b4 (.int C n)=>Z (.z7 t (.ey j) (.b4 (.int C n)),.b4 (.bool Y),.mp id n.toNat 0,σ,bb)
      |_=>W
     |false=>W
    |_=>Z (.idx t (l x) (l i),.fT (zX bb r.size),.fT (zX bb r.size),σ,bb+r.size)
   |none=>W
  |_=>W
 | .index t x i=>match T t with
  |some { j4:=.array _ e,.. }=>match zt T e bb with
   |some (p,h)=>Z (.index t (l x) (l i),p,p,σ,h)
   |none=>W
  |_=>Z (.index t (l x) (l i),.ey bb,.ey bb,σ,bb+1)
 | .slice t x b7 a7 W=>match T t,l x,b7.map l,a7.map l with
  |some { j4:=.slice elem,.. },.c8 id z _,W,Z (.b4 (.int _ 0))=>match T elem with
   |some r=>match aw z r.size with
    |true=>Z (.Aq,.b4 (.bool Y),.ms id z 0 0,σ,bb)
    |false=>W
   |none=>W
  |_,_,_,_=>Z (.Cq t (l x) (b7.map l) (a7.map l),.ey bb,.ey bb,σ,bb+1)
 | .call { callee:=.builtin b,args,argTypes }=>Lr T σ id b argTypes.toList (args.toList.map l) bb
 | .lookup t x i ok=>match T t,l x with
  |some { j4:=.map _ u,.. },.mm m=>match(σ.bF m).bind F9 with
   |some c=>match zt T u bb with
    |some (p,h)=>match ok with
     |true=>Z (.look t c (l i) Y,.ed [p,.ey h],.ed [p,.ey h],σ,h+1)
     |false=>Z (.look t c (l i) U,p,p,σ,h)
    |none=>W
   |none=>W
  |some { j4:=.map _ u,.. },.ey m=>match zt T u bb with
   |some (p,h)=>match ok with
    |true=>Z (.xS t (.ey m) (l i) Y,.ed [p,.ey h],.ed [p,.ey h],σ,h+1)
    |false=>Z (.xS t (.ey m) (l i) U,p,p,σ,h)
   |none=>W
  |some { j4:=.map _ u,.. },.mY c=>match zt T u bb with
   |some (p,h)=>match ok with
    |true=>Z (.xS t (.mY c) (l i) Y,.ed [p,.ey h],.ed [p,.ey h],σ,h+1)
    |false=>Z (.xS t (.mY c) (l i) U,p,p,σ,h)
   |none=>W
  |_,_=>W
 | .mapUpdate t m k x=>OF σ t (l m) (l k) (l x) bb
 |_=>W
mutual
def bX.qA:bX->Bool
 | .b4 _=>Y
 | .ey _=>Y
 | .rs es=>yX es
 | .fT cs=>q2 cs
 | .mY c=>c.qA
 | .fn _ a c=>q2 a&&q2 c
 | .agg cs=>q2 cs
 | .ed cs=>q2 cs
 |_=>U
def q2:eX->Bool
 | []=>Y
 |c::cs=>c.qA&&q2 cs
def yX:cu eX->Bool
 | []=>Y
 |c::cs=>q2 c&&yX cs
end
def pX(σ:bg):Nat->bX->dv bX
 | 0,_=>W
 |k+1,v=>match v.qA with
  |true=>Z v
  |false=>match v with
   | .agg cs=>match uZ (pX σ k) cs with
    |some l=>Z (.agg l)
    |none=>W
   | .ed cs=>match uZ (pX σ k) cs with
    |some l=>Z (.ed l)
    |none=>W
   | .ms id _ off len=>match σ.bF id with
    |some (.row _ _ es)=>ite (off+len<=aa es) (match Gd (pX σ k) ((es.drop off).take len)with
      |some l=>Z (.rs l)
      |none=>W) <|none
    |_=>W
   | .c8 id _ i=>match σ.bF id with
    |some (.fN _ _ j)=>ite (j=i) (Z (.ey j)) <|none
    |_=>W
   | .mp id 0 0=>match σ.bF id with
    |some (.row _ _ [cs])=>match uZ (pX σ k) cs with
     |some l=>Z (.fT l)
     |none=>W
    |_=>W
   | .mm id=>match σ.bF id with
    |some (.nC (.ey j))=>Z (.mY (.ey j))
    |some (.map U [] 0)=>Z (.mY (.rs []))
    |_=>W
   | .fn f a c=>match uZ (pX σ k) a,uZ (pX σ k) c with
    |some b,Z d=>Z (.fn f b d)
    |_,_=>W
   |_=>W
mutual
def bX.JO:bX->Bool
 | .b4 (.slice W 0 0)=>U
 | .agg cs=>Gj cs
 | .rs es=>Xa es
 |_=>Y
def Gj:eX->Bool
 | []=>Y
 |c::cs=>c.JO&&Gj cs
def Xa:cu eX->Bool
 | []=>Y
 |c::cs=>Gj c&&Xa cs
end
def P3(σ:bg)(args:eX):dv (eX×Bool) :=
 match q2 args&&Gj args with
 |true=>Z (args,U)
 |false=>match uZ (pX σ 50) args with
  |some l=>Z (y6 l,Y)
  |none=>W
def nD(σ:bg)(id:Nat)(o:c7):bg:=({ σ with mZ:=.leaf }:bg).set id o
mutual
def bX.nS(σ1:bg):bX->bX
 | .agg cs=>.agg (sb σ1 cs)
 | .ed cs=>.ed (sb σ1 cs)
 | .fn f a c=>.fn f (sb σ1 a) (sb σ1 c)
 | .c8 a z i=>(pX σ1 3 (.c8 a z i)).getD (.c8 a z i)
 | .ms a z i j=>(pX σ1 3 (.ms a z i j)).getD (.ms a z i j)
 | .mp a i j=>(pX σ1 3 (.mp a i j)).getD (.mp a i j)
 |v=>v
def sb(σ1:bg):eX->eX
 | []=>[]
 |c::cs=>c.nS σ1::sb σ1 cs
end
def c7.nS(σ1:bg):c7->c7
 | .row e z es=>.row e z (es.map (sb σ1))
 |o=>o
def bl.nS(σ1:bg)(id:Nat)(s:bl):bl:={ n:=s.n,mZ:=s.mZ.map (bX.nS σ1),st:={ next:=s.st.next,mZ:=(s.st.del id).mZ.map (c7.nS σ1),low:=(s.st.del id).low } }
def y8(s:bl):bX->dv Nat
 | .c8 a z i=>match s.st.bF a with
  |some o=>match pX (nD s.st a o) 3 (.c8 a z i)with
   |some _=>Z a
   |none=>W
  |none=>W
 | .ms a z 0 n=>match s.st.bF a with
  |some o=>match pX (nD s.st a o) 3 (.ms a z 0 n)with
   |some _=>Z a
   |none=>W
  |none=>W
 | .mp a 0 0=>match s.st.bF a with
  |some o=>match pX (nD s.st a o) 3 (.mp a 0 0)with
   |some _=>Z a
   |none=>W
  |none=>W
 |_=>W
def Jx(s:bl):eX->dv Nat
 | []=>W
 |v::l=>match y8 s v with
  |some a=>Z a
  |none=>Jx s l
def cg1(T:bY)(t:TypeId):Bool:=match T t with
 |some { j4:=.slice el,.. }=>match T el with
  |some a=>a.zeroCells.all λv=>match v with
   | .b4 (.pointer _)=>U
   |_=>Y
  |none=>U
 |_=>U
def Vs(T:bY)(s:bl)(op:Op):dv (Nat×c7):=match(match op with
  | .call { callee:=.builtin .append,args:=⟨[_,c]⟩,argTypes:=_ }=>match s.eval c with
   | .ms id _ _ _=>match s.st.bF id with
    |some (.row _ _ es)=>Jx s es.flatten
    |_=>W
   |_=>W
  | .mapUpdate _ _ _ x=>y8 s (s.eval x)
  | .convert _ d x=>match T d with
   |some { j4:=.string,.. }=>y8 s (s.eval x)
   |_=>W
  | .store _ a x=>match Eg (s.eval a)with
   |some (id,_,_)=>match s.st.bF id with
    |some (.fN ..)=>y8 s (s.eval x)
    |_=>W
   |none=>W
  | .slice _ x b7 a7 W=>match b7,a7.map s.eval with
   |none,Z (.b4 (.int _ 0))=>W
   |_,_=>match s.eval x with
    | .c8 a z i=>y8 s (.c8 a z i)
    |_=>W
  |_=>W)with
 |some a=>match s.st.bF a with
  |some o=>Z (a,o)
  |none=>W
 |none=>W
structure Hint where
 k:Nat
 wc:List bX
 bF:List (Nat×c7)
 next:Nat
def Hint.state(h:Hint):bl:=bl.enter (aa h.wc) h.wc { next:=h.next,mZ:=ef.ofList h.bF .leaf,low:=0 }
def qC(l:Nat)(j9:eX)(i:Nat):bX:=match dI l i with
 |true=>(j9[i-l]?).getD (.ey i)
 |false=>.ey i
def GW:cu (Nat×dv Nat)->Nat->dv (dv Nat)
 | [],_=>W
 | (a,b)::l,i=>match aw a i with
  |true=>Z b
  |false=>GW l i
def DO(n:Nat)(l:cu (Nat×dv Nat)):p5:=λi=>match cL i n with
 |true=>Z (Z i)
 |false=>GW l i
structure Acc where
 j9:List (Nat×bX)
 io:List (Nat×Option Nat)
def Acc.yr(a:Acc)(j:Nat)(v:bX):Acc:=match a.j9.any (aw ·.1 j)with
 |true=>a
 |false=>{ a with j9:=(j,v)::a.j9 }
def Acc.oY(a:Acc)(i:Nat)(k:dv Nat):Acc:=match a.io.any (aw ·.1 i)with
 |true=>a
 |false=>{ a with io:=(i,k)::a.io }
mutual
def GO(σ:bg)(l:Nat)(acc:Acc):bX->bX->Acc
 | .ey j,b=>match dI l j with
  |true=>acc.yr j b
  |false=>acc
 | .c8 id _ j,.c8 id' _ d=>(acc.oY id (Z id')).yr j (.ey d)
 | .c8 id _ j,.ms id' _ _ _=>match σ.bF id' with
  |some (.row _ _ es)=>(acc.oY id (Z id')).yr j (.rs es)
  |_=>acc
 | .c8 id _ j,.b4 _=>(acc.oY id W).yr j (.rs [])
 | .mp id _ _,.mp id' _ _=>acc.oY id (Z id')
 | .ms id _ _ _,.ms id' _ _ _=>acc.oY id (Z id')
 | .mm id,.mm id'=>acc.oY id (Z id')
 | .l3 id k _,.l3 id' e _=>(acc.oY id (Z id')).yr k (.ey e)
 | .it id,.it id'=>acc.oY id (Z id')
 | .agg a,.agg b=>AF σ l acc a b
 | .ed a,.ed b=>AF σ l acc a b
 | .fT a,.fT b=>AF σ l acc a b
 | .mY a,.mY b=>GO σ l acc a b
 | .fn _ a c,.fn _ f g=>AF σ l (AF σ l acc a f) c g
 |_,_=>acc
def AF(σ:bg)(l:Nat)(acc:Acc):eX->eX->Acc
 |a::az,b::fA=>AF σ l (GO σ l acc a b) az fA
 |_,_=>acc
end
def au4(σ:bg)(l:Nat)(acc:Acc):cu eX->cu eX->Acc
 |a::az,b::fA=>au4 σ l (AF σ l acc a b) az fA
 |_,_=>acc
def bR8(σ:bg)(l:Nat)(acc:Acc):c7->c7->Acc
 | .row _ _ es,.row _ _ a=>au4 σ l acc es a
 | .fN _ _ j,.fN _ _ b=>acc.yr j (.ey b)
 | .fN _ _ j,.row _ _ es=>acc.yr j (.rs es)
 | .map _ es _,.map _ a _=>AF σ l acc (es.map (·.2.1)) (a.map (·.2.1))
 | .nC (.ey j),.nC c=>acc.yr j c
 | .qh s p,.qh s' d=>GO σ l (GO σ l acc s s') p d
 | .nC (.ey j),.map _ [] _=>acc.yr j (.rs [])
 |_,_=>acc
def Rp(s:bl)(l:Nat):eX->Nat->Acc->Acc
 | [],_,acc=>acc
 |a::az,t,acc=>Rp s l az (t+1) (GO s.st l acc a (s.get t))
def GB(s:bl)(n l:Nat):cu (Nat×c7)->Acc->Acc
 | [],acc=>acc
 | (i,o)::os,acc=>match DO n acc.io i with
  |some (Z k)=>match s.st.bF k with
   |some o'=>GB s n l os (bR8 s.st l acc o o')
   |none=>GB s n l os acc
  |_=>GB s n l os acc
def VC(s:bl)(n l:Nat)(h:Hint):Acc:=GB s n l h.bF (GB s n l h.bF (Rp s l h.wc 0 ⟨[],[]⟩))
def Ae(a:Acc)(l:Nat):Nat->eX
 | 0=>[]
 |k+1=>((a.j9.find? (aw ·.1 l)).map (·.2)).getD (.b4 (.bool U))::Ae a (l+1) k
def MZ:bX->Bool
 | .b4 (.int _ _)=>Y
 | .b4 (.bool _)=>Y
 | .b4 (.string _)=>Y
 | .ey _=>Y
 | .rs es=>yX es
 | .fT cs=>q2 cs
 | .mY c=>c.qA
 |_=>U
def Eb:cu (Nat×TypeId×Nat)->cu (Nat×TypeId×Nat)->Bool
 | [],[]=>Y
 |a::az,b::fA=>aw a.1 b.1&&aw a.2.1 b.2.1&&aw a.2.2 b.2.2&&Eb az fA
 |_,_=>U
def ID:bX->bX->Bool
 | .ey i,.ey j=>aw i j
 | .b4 (.int .i64 a),.b4 (.int .i64 b)=>No (a=b)
 |_,_=>U
def rF(b7:Bool)(ι:p5):c7->c7->Bool
 | .row e z es,.row d f a=>aw e d&&aw z f&&AV ι es a
 | .fN e z i,.fN d f k=>aw e d&&aw z f&&aw i k
 | .map agg es c,.map g a h=>(agg==g)&&aw c h&&aw (aa es) (aa a)&&(es.zip a).all λp=>No (p.1.1=p.2.1)&&n_ ι p.1.2.1 p.2.2.1&&aw p.1.2.2 p.2.2.2
 | .nC c,.nC h=>match c,h with
  | .ey i,.ey j=>aw i j
  | .rs [],.rs []=>Y
  |_,_=>U
 | .nC (.rs []),.map U [] c=>aw c 0
 | .qh s p,.qh s' l=>ID s s'&&ID p l
 | .nH e z c ck _ _ W,.nH d f h b _ _ W=>b7&&aw e d&&aw z f&&D4 c h&&Eb ck b
 |_,_=>U
def ar0:c7->Bool
 | .row _ _ []=>Y
 |_=>U
def TU(b7:Bool)(ι:p5)(s:bl)(i:Nat)(o:c7):Bool:=match ι i with
 |some (Z k)=>match s.st.bF k with
  |some o'=>rF b7 ι o o'
  |none=>U
 |some W=>ar0 o
 |none=>U
def Ju(ι:p5)(b:Nat->bX)(s:bl):eX->Nat->Bool
 | [],_=>Y
 |a::az,t=>n_ ι (a.mU b) (s.get t)&&Ju ι b s az (t+1)
def Jg(ι:p5):cu (Nat×c7)->Bool
 | []=>Y
 | (i,_)::os=>os.all (λp=>aw p.1 i||(match ι i with|some (Z k)=>!xD ι p.1 k|_=>Y))&&Jg ι os
def DD(n l:Nat)(h:Hint)(s:bl):dv eX :=
 let acc:=VC s n l h
 let j9:=Ae acc l h.k
 let a:=qC l j9
 let io:=acc.io.filter (dI n ·.1)
 let ι:=DO n io
 match j9.all MZ&&aw (aa h.wc) s.n&&dI n h.next&&io.all (λp=>dI n p.1&&cL p.1 h.next)&&Ju ι a s h.wc 0&&h.bF.all (λp=>TU (dI tY n) ι s p.1 (p.2.mU a))&&Jg ι h.bF with
 |true=>Z j9
 |false=>W
mutual
def bX.oE(id j bb:Nat):bX->bX
 | .c8 a z i=>match aw a id&&aw i j with
  |true=>.c8 a z bb
  |false=>.c8 a z i
 | .rs es=>.rs (G1 id j bb es)
 | .fT cs=>.fT (y0 id j bb cs)
 | .fn f a c=>.fn f (y0 id j bb a) (y0 id j bb c)
 | .agg cs=>.agg (y0 id j bb cs)
 | .ed cs=>.ed (y0 id j bb cs)
 |v=>v
def y0(id j bb:Nat):eX->eX
 | []=>[]
 |c::cs=>c.oE id j bb::y0 id j bb cs
def G1(id j bb:Nat):cu eX->cu eX
 | []=>[]
 |c::cs=>y0 id j bb c::G1 id j bb cs
end
def c7.oE(id j bb:Nat):c7->c7
 | .row e z es=>.row e z (G1 id j bb es)
 | .map agg es c=>.map agg (es.map λe=>(e.1,e.2.1.oE id j bb,e.2.2)) c
 |o=>o
def bl.oE(id j bb:Nat)(s:bl):bl:={ n:=s.n,mZ:=s.mZ.map (bX.oE id j bb),st:={ next:=s.st.next,mZ:=s.st.mZ.map (c7.oE id j bb),low:=s.st.low } }
def Q5(s:bl)(op:Op)(bb:Nat):dv (nU×bl) :=
 match op with
 | .store t a x=>match Eg (s.eval a)with
  |some (id,i,off)=>match s.st.bF id with
   |some (.fN e z j)=>Z (.za t e z (.ey j) i off (s.eval x),{ s.oE id j bb with st:=(s.oE id j bb).st.set id (.fN e z bb) })
   |_=>W
  |none=>W
 |_=>W
def ao9(Φ:lv)(s:bl)(f:FuncId)(args:eX)(bb:Nat):dv (cu Nat×nU×bl) :=
 match Φ.KE f with
 |none=>W
 |some _=>match args with
  | .c8 id z j::rest=>match s.st.bF id with
   |some (.fN e b c)=>match aw z b&&aw j c,uZ (pX (s.st.del id) 50) rest with
    |true,Z a=>Z (pZ (s.st.del id).mZ,.call (p9+f) (.ey j::.b4 (.int .i64 (z:Nat))::a) U,{ s.oE id j bb with st:=(s.oE id j bb).st.set id (.fN e z bb) })
    |_,_=>W
   |_=>W
  |_=>W
def JJ(ops:Array Oper)(s:bl)(o:Oper):dv (Nat×Bool) :=
 match o.guard with
 |none=>W
 |some (j,want)=>match(ops[j]?).bind (·.dst)with
  |some d=>match cL d s.n with
   |true=>match s.get d with
    | .ey i=>Z (i,want)
    |_=>W
   |false=>W
  |none=>W
abbrev vC:=bl->Nat->nf
abbrev zu:=qQ->bl->Nat->nf
abbrev tF:=Nat->Code->bl->Nat->zu->nf
section
variable (T:bY) (Φ:lv) (F:FuncId->dv Func)
def ao8(s:bl)(f:FuncId)(args:eX)(bb:Nat):dv (nU×bX×bl) :=
 match Φ (uj+f)with
 |none=>W
 |some _=>match q2 args&&Gj args with
  |true=>match F f with
   |some fn=>match fn.resultTypes.toList with
    | [t]=>match T t with
     |some { j4:=.slice elem,.. }=>match T elem with
      |some a=>Z (.call (uj+f) args U,.c8 (s.st.next+5) a.size bb,{ s with st:={ s.st with next:=s.st.next+7 }.set (s.st.next+5) (.fN elem a.size bb) })
      |none=>W
     |_=>W
    |_=>W
   |none=>W
  |false=>W
def ao7(ex:tF)(f:FuncId)(args:eX)(dst:dv Tmp)(s:bl)(bb:Nat)(d:vC):nf :=
 match F f with
 |none=>.stuck
 |some fn=>match Φ.at f args with
  |some _=>match Ye T fn.resultTypes.toList bb with
   |some (pat,b)=>match s.ff bb&&dI bb b with
    |true=>match P3 s.st args with
     |some (a,Y)=>.op (.rows (pZ s.st.mZ)) bb (.b4 (.bool Y)) (.op (.call f a Y) bb pat (d (s.put dst pat) b))
     |some (a,U)=>.op (.call f a U) bb pat (d (s.put dst pat) b)
     |none=>.stuck
    |false=>.stuck
   |none=>.stuck
  |none=>match fn.body with
   |some c=>match dI (aa args) fn.ntmps&&!(fn.name== "runtime.NumGoroutine")&&s.ff bb with
    |true=>ex s.st.next c (bl.enter fn.ntmps args s.st) bb λe s1 g=>match e with
     | .oA _=>.stuck
     |_=>match pc T fn s1 with
      |some v=>d ({ s with st:=s1.st }.put dst v) g
      |none=>.stuck
    |false=>.stuck
   |none=>.stuck
def KB(ex:tF)(id:Nat)(o:Oper)(s:bl)(bb:Nat)(a:vC):nf :=
 match o.op with
 | .call { callee:=.value c,args:=args,argTypes:=_ }=>
  match s.eval c with
  | .fn (.func f) first cap=>match ao9 Φ s f (first++args.toList.map s.eval++cap) bb with
   |some (d,ro,s')=>match s.ff bb with
    |true=>.op (.rows d) bb (.b4 (.bool Y)) (.op ro bb (.ey bb) (a (s'.put o.dst (.ed [])) (bb+1)))
    |false=>.stuck
   |none=>match ao8 T Φ F s f (first++args.toList.map s.eval++cap) bb with
    |some (ro,v,s')=>match s.ff bb with
     |true=>.op ro bb (.ey bb) (a (s'.put o.dst v) (bb+1))
     |false=>.stuck
    |none=>ao7 T Φ F ex f (first++args.toList.map s.eval++cap) o.dst s bb a
  |_=>.stuck
 |op=>match C_ T s.eval s.st id op with
  |some (v,σ')=>a ({ s with st:=σ' }.put o.dst v) bb
  |none=>match Hb T s.eval s.st id op bb with
   |some (ro,pat,v,σ',b)=>match s.ff bb&&dI bb b with
    |true=>.op ro bb pat (a ({ s with st:=σ' }.put o.dst v) b)
    |false=>.stuck
   |none=>match Q5 s op bb with
    |some (ro,s')=>match s.ff bb with
     |true=>.op ro bb (.ey bb) (a (s'.put o.dst (.b4 undef)) (bb+1))
     |false=>.stuck
    |none=>.stuck
def bi5(T:bY)(t:TypeId):Bool:=match T t with
 |some ti=>ti.zeroCells.all λc=>match c with
  | .b4 (.int _ _)=>Y
  | .b4 (.bool _)=>Y
  | .b4 (.string _)=>Y
  |_=>U
 |none=>U
def az6(s:bl)(op:Op):dv (Nat×c7):=match Vs T s op with
 |some p=>Z p
 |none=>match op with
  | .call { callee:=.value b,args:=args,argTypes:=_ }=>match s.eval b with
   | .fn (.func f) first cap=>match Φ.KE f,Φ (uj+f),Φ.fn f,F f with
    |none,W,Z _,Z fn=>match fn.resultTypes.toList.all (bi5 T)with
     |true=>W
     |false=>match Jx s (first++args.toList.map s.eval++cap)with
      |some a=>match s.st.bF a with
       |some o=>Z (a,o)
       |none=>W
      |none=>W
    |none,Z _,_,_=>match Jx s (first++args.toList.map s.eval++cap)with
     |some a=>match s.st.bF a with
      |some o=>Z (a,o)
      |none=>W
     |none=>W
    |_,_,_,_=>W
   |_=>W
  |_=>W
def GI(ex:tF)(ops:Array Oper)(id:Nat)(o:Oper)(bb:Nat)(b:vC):Nat->bl->nf
 | 0,s=>KB T Φ F ex id o s bb b
 |m+1,s=>match az6 T Φ F s o.op with
  |some (a,x)=>match s.ff bb with
   |true=>match pv ops (s.nS (nD s.st a x) a) o with
    |some Y=>.op (.rows (pZ (nD s.st a x).mZ)) bb (.b4 (.bool Y)) (GI ex ops id o bb b m (s.nS (nD s.st a x) a))
    |_=>.stuck
   |false=>.stuck
  |none=>KB T Φ F ex id o s bb b
def D5(ex:tF)(ops:Array Oper)(id:Nat)(o:Oper)(bb:Nat)(b:vC)(s:bl):nf :=
 match o.op with
 | .range t x=>match T t with
  |some { j4:=.string,.. }=>match s.eval x with
   | .ey i=>match s.ff bb with
    |true=>.op (.B1 (.ey i)) bb (.b4 (.bool Y)) (b ({ s with st:=s.st.set id (.qh (.ey i) (.b4 (.int .i64 0))) }.put o.dst (.it id)) bb)
    |false=>.stuck
   |_=>.stuck
  |_=>GI T Φ F ex ops id o bb b 3 s
 | .next it Y=>match s.eval it with
  | .it a=>match s.st.bF a with
   |some (.qh st p)=>match s.ff bb with
    |true=>.op (.more st p) bb (.ey bb) (.test bb
      (.op (.Cm st p) (bb+1) (.ed [.ey (bb+1),.ey (bb+2),.ey (bb+3)]) (b ({ s with st:=s.st.set a (.qh st (.ey (bb+3))) }.put o.dst (.ed [.b4 (.bool Y),.ey (bb+1),.ey (bb+2)])) (bb+4)))
      (b (s.put o.dst (.ed [.b4 (.bool U)])) (bb+1)))
    |false=>.stuck
   |_=>.stuck
  |_=>.stuck
 |_=>GI T Φ F ex ops id o bb b 3 s
def xa(ex:tF)(ops:Array Oper)(n0:Nat):cu Oper->Nat->bl->Nat->vC->nf
 | [],_,s,bb,k=>k s bb
 |o::rest,i,s,bb,k=>
  match oz s.n o.dst with
  |false=>.stuck
  |true=>match pv ops s o with
   |some Y=>D5 T Φ F ex ops (n0+i) o bb (xa ex ops n0 rest (i+1) · · k) s
   |some U=>xa ex ops n0 rest (i+1) (s.put o.dst (.b4 undef)) bb k
   |none=>match JJ ops s o with
    |some (j,want)=>
     let go:=λb:Bool=>match b==want with
      |true=>D5 T Φ F ex ops (n0+i) o bb (xa ex ops n0 rest (i+1) · · k) (s.mU (qp j b))
      |false=>xa ex ops n0 rest (i+1) ((s.mU (qp j b)).put o.dst (.b4 undef)) bb k
     .test j (go Y) (go U)
    |none=>.stuck
abbrev Me:=bl->Nat->ri->nf
def F'(σ:bg)(ids:cu Nat):bg:={ uE (saved σ ids) { sr (saved σ ids) σ with low:=σ.next }with low:=min σ.low σ.next }
def Tf(pW:Bool)(ids:cu Nat)(f:FuncId)(args:eX)(dst:dv Tmp)(s:bl)(bb:Nat)(b:Me):nf :=
 match F f,Φ.fn f with
 |some fn,Z _=>match Ye T fn.resultTypes.toList bb with
  |some (pat,a)=>match s.ff bb&&dI bb a&&q2 args with
   |true=>.op (.call f args U) bb pat (match pW with
    |true=>b (s.put dst pat) a ⟨[],[],U,0,Y⟩
    |false=>b ({ s with st:=F' s.st ids }.put dst pat) a ⟨[],[],Y,s.st.next,U⟩)
   |false=>.stuck
  |none=>.stuck
 |_,_=>.stuck
def GP(n0 N mask i:Nat)(pW:Bool)(o:Oper)(s:bl)(bb:Nat)(b:Me):nf :=
 match o.op with
 | .call { callee:=.value c,args:=args,argTypes:=_ }=>
  match s.eval c with
  | .fn (.func f) first cap=>Tf T Φ F pW (q0 n0 N mask) f (first++args.toList.map s.eval++cap) o.dst s bb b
  |_=>.stuck
 |op=>match C_ T s.eval (small s.st (oe s.eval op)) (n0+i) op with
  |some (v,σ1)=>b ({ s with st:=(match σ1.bF (n0+i)with
     |some x=>(ite (qq op) (sO σ1 (oe s.eval op) s.st) s.st).set (n0+i) x
     |none=>(ite (qq op) (sO σ1 (oe s.eval op) s.st) s.st)) }.put o.dst v) bb ⟨oe s.eval op,ite (qq op) (oe s.eval op) [],U,0,U⟩
  |none=>match Hb T s.eval (small s.st (oe s.eval op)) (n0+i) op bb with
   |some (ro,pat,v,σ1,a)=>match s.ff bb&&({ s with st:=small s.st (oe s.eval op) }:bl).ff bb&&dI bb a with
    |true=>.op ro bb pat (b ({ s with st:=(match σ1.bF (n0+i)with
      |some x=>(ite (qq op) (sO σ1 (oe s.eval op) s.st) s.st).set (n0+i) x
      |none=>(ite (qq op) (sO σ1 (oe s.eval op) s.st) s.st)) }.put o.dst v) a ⟨oe s.eval op,ite (qq op) (oe s.eval op) [],U,0,U⟩)
    |false=>.stuck
   |none=>.stuck
def wW(ops:Array Oper)(n0 N:Nat)(a:cu Nat):cu Oper->Nat->bl->Nat->cu ri->(bl->Nat->cu ri->nf)->nf
 | [],_,s,bb,acc,k=>k s bb acc
 |o::rest,i,s,bb,acc,k=>
  match oz s.n o.dst with
  |false=>.stuck
  |true=>match pv ops s o with
   |some Y=>GP T Φ F n0 N (a.getD i 0) i (Af o.op&&Ei ops a i) o s bb λs' c f=>wW ops n0 N a rest (i+1) s' c (acc++[f]) k
   |some U=>wW ops n0 N a rest (i+1) (s.put o.dst (.b4 undef)) bb (acc++[⟨[],[],U,0,U⟩]) k
   |none=>match JJ ops s o with
    |some (j,want)=>
     let go:=λb:Bool=>match b==want with
      |true=>GP T Φ F n0 N (a.getD i 0) i (Af o.op&&Ei ops a i) o (s.mU (qp j b)) bb λs' c f=>wW ops n0 N a rest (i+1) s' c (acc++[f]) k
      |false=>wW ops n0 N a rest (i+1) ((s.mU (qp j b)).put o.dst (.b4 undef)) bb (acc++[⟨[],[],U,0,U⟩]) k
     .test j (go Y) (go U)
    |none=>.stuck
def zH:Nat->bX->bX->Bool
 | 0,_,_=>U
 |k+1,a,b=>match a,b with
  | .b4 x,.b4 y=>K3 x y
  | .ey i,.ey j=>aw i j
  | .c8 a z i,.c8 b y j=>aw a b&&aw z y&&aw i j
  | .ms a z i n,.ms b y j m=>aw a b&&aw z y&&aw i j&&aw n m
  | .mp a i n,.mp b j m=>aw a b&&aw i j&&aw n m
  | .mm i,.mm j=>aw i j
  | .rs x,.rs y=>D3 (zH k) x y
  | .fT x,.fT y=>ye (zH k) x y
  | .agg x,.agg y=>ye (zH k) x y
  | .ed x,.ed y=>ye (zH k) x y
  |_,_=>U
def GA:∀(k:Nat) (a b:bX),zH k a b=Y->a=b
 | 0,a,b,h=>by simp[zH]at h
 |k+1,a,b,h=>by unfold zH at h;split at h;rw[aD9 h];rw[ae h];simp only[ab,cy]at h;grind;simp only[ab,cy]at h;grind;simp only[ab,cy]at h;grind;rw[ae h];rw[az4 (GA k) h];rw[Ga (GA k) h];rw[Ga (GA k) h];rw[Ga (GA k) h];cases h
def P_:cu Oper->Nat->cu Nat->cu Nat->cu Nat×cu Nat
 | [],_,Uq,R=>(Uq.reverse,R.reverse)
 |o::l,i,Uq,R=>match Az o.op&&o.guard.isNone&&o.dst.isSome&&o.after.all (λe=>!Region.binds .any e||Uq.any (aw e.on))with
  |true=>P_ l (i+1) (i::Uq) R
  |false=>P_ l (i+1) Uq (i::R)
def F7(ops:Array Oper):cu Nat×cu Nat:=P_ ops.toList 0 [] []
def KO(ops:Array Oper):cu Nat->cu Nat->Bool
 |_,[]=>Y
 |seen,b::c=>seen.all (λi=>hasB ops b i&&!Nat.beq b i)&&KO ops (b::seen) c
def QI(ops:Array Oper)(Uq R:cu Nat):Bool :=
 Region.noSelect ops&&KO ops [] R&&R.all (λi=>cL i ops.size&&!Uq.any (aw i)) &&
 (aT ops.size).all (λj=>(Uq.any (aw j)||R.any (aw j))&&match ops[j]? with
  |some o=>o.guard.isNone&&o.after.all (λe=>!Region.binds .any e||cL e.on j)
  |none=>U) &&
 Uq.all (λu=>match ops[u]? with
  |some o=>Az o.op&&match o.dst with
   |some t=>(aT ops.size).all (λj=>match ops[j]? with
    |some oj=>(aw j u||!(match oj.dst with|some d=>aw d t|none=>U))&&(!(oj.looksAt ops).any (aw t)||hasB ops j u)
    |none=>U)
   |none=>Y
  |none=>U)
def any_beq{l:cu Nat}{i:Nat}:l.any (aw i)=Y↔i∈l:=by rw[gW];exact⟨λ⟨x,a,h⟩=>ae h▸a,λh=>⟨i,h,by simp⟩⟩
def an7:∀ {R seen:cu Nat},KO ops seen R=Y->(∀a b c,R=a++b::c->(∀i∈a,hasB ops b i=Y)/\∀i∈seen,hasB ops b i=Y/\b≠i)/\R.Nodup
 | [],seen,_=>⟨λa b c h=>(by cases a<;>cases h),List.nodup_nil⟩
 |x::R,seen,h=>by
  unfold KO at h;rw[ab]at h;let ⟨h1,h2⟩:=an7 h.2;have f:∀i∈seen,hasB ops x i=Y/\x≠i:=λi a7=>by have:=aj.1 h.1 i a7;rw[ab]at this;exact⟨this.1,λe=>by subst e;simp at this⟩
  refine⟨λa b c e=>?_,dq.2 ⟨λg=>?_,h2⟩⟩;cases a;cases e;exact⟨λi a7=>(by cases a7),f⟩;rename_i y a;cases e;let ⟨g1,g2⟩:=h1 a b c rfl;exact⟨λi a7=>by rcases aG.1 a7 with rfl|a7;exact(g2 _ (by simp)).1;exact g1 i a7,λi a7=>g2 i (bC _ a7)⟩;let ⟨c,d,e⟩:=kC g;exact((h1 c x d e).2 x (by simp)).2 rfl
def bX2{Uq R:cu Nat}(h:QI ops Uq R=Y):LM ops Uq R:=by
 unfold QI at h;simp only[ab]at h;let ⟨⟨⟨⟨h1,h2⟩,l⟩,m⟩,p⟩:=h;let ⟨c1,c2⟩:=an7 h2;have lt:∀(j:Nat) (o:Oper),ops[j]?=Z o->j<ops.size:=λj o ho=>(aP.1 ho).1;have g:∀(j:Nat) (o:Oper),ops[j]?=Z o->o.guard=W/\∀e∈o.after,cA .any e=Y->e.on<j:=λj o ho=>by have:=aj.1 m j (gf.2 (lt j o ho));rw[ho]at this;simp only[ab]at this;refine⟨by simpa using this.2.1,λe he r=>?_⟩;have:=Array.all_eq_true'.1 this.2.2 e he;simpa[r]using this
 have q:∀u∈Uq,∀(o:Oper),ops[u]?=Z o->Az o.op=Y/\∀t,o.dst=Z t->∀(j:Nat) (oj:Oper),ops[j]?=Z oj->(j≠u->oj.dst≠Z t)/\(t∈oj.looksAt ops->hasB ops j u=Y):=λu hu o ho=>by
  have:=aj.1 p u hu;rw[ho]at this;simp only[ab]at this;refine⟨this.1,λt f j oj hj=>?_⟩;have n:=this.2;rw[f]at n;have:=aj.1 n j (gf.2 (lt j oj hj));rw[hj]at this;simp only[ab,bx]at this;refine⟨λk hd=>?_,λhm=>?_⟩;rw[hd]at this;simp[k]at this;rcases this.2 with d|d
  rw[any_beq.2 hm]at d;cases d;exact d
 exact⟨λj o cs b ho=>Region.noSelect_spec h1 j o cs b ho,λj o ho=>(g j o ho).1,λj o ho=>(g j o ho).2,λi a7=>by
   have:=aj.1 m i (gf.2 a7);simp only[ab,bx,any_beq]at this;exact this.1,λi a7 hu=>by
   have:=aj.1 l i a7;simp only[ab]at this;rw[any_beq.2 hu]at this;exact b8 this.2 (by decide),λu hu o ho=>(q u hu o ho).1,λu hu o t ho f=>(q u hu o ho).2 t f,λa b c e i a7=>(c1 a b c e).1 i a7,λi a7=>by
   have:=aj.1 l i a7;simp only[ab]at this;simpa using this.1,c2⟩
def bl6:bX->Bool
 | .c8 ..=>Y
 | .ms ..=>Y
 |_=>U
def aY5(ops:Array Oper)(s:bl):Bool:=ops.toList.any λo=>match o.op with
 | .call { callee:=.value (.func f),args,.. }=>((Φ (uj+f)).isSome&&(Φ f).isNone)||args.toList.any (λx=>match x with
  | .tmp d=>ops.toList.any (λo'=>match o'.dst,o'.op with
   |some a,.move (.tmp t)=>aw d a&&bl6 (s.get t)
   |_,_=>U)
  |_=>U)
 |_=>U
def LK(ops:Array Oper)(Uq ng:cu Nat)(s:bl):Bool:=Uq.all λu=>ng.any (hasB ops · u)||match ops[u]? with
 |some o=>match o.dst,C_ T s.eval s.st 0 o.op with
  |some t,Z (v,_)=>oz s.n o.dst&&zH 60 (s.get t) v
  |_,_=>U
 |none=>U
def KX(ops:Array Oper):cu Nat->bl->dv bl
 | [],s=>Z s
 |u::us,s=>match ops[u]? with
  |some o=>match Az o.op&&oz s.n o.dst,C_ T s.eval s.st 0 o.op with
   |true,Z (v,_)=>KX ops us (s.put o.dst v)
   |_,_=>W
  |none=>W
def GJ(ex:tF)(ops:Array Oper)(Uq:cu Nat):cu Nat->cu Nat->bl->Nat->vC->nf
 |ng,[],s,bb,k=>match LK T ops Uq ng s with
  |true=>k s bb
  |false=>.stuck
 |ng,i::r,s,bb,k=>match ops[i]? with
  |some o=>match LK T ops Uq ng s&&oz s.n o.dst with
   |true=>D5 T Φ F ex ops (s.st.next+i) o bb (GJ ex ops Uq (ng++[i]) r · · k) { s with st:={ s.st with next:=s.st.next+ops.size } }
   |false=>.stuck
  |none=>.stuck
def bl8:Op->Bool
 | .store ..=>Y
 |_=>U
def F8:cu Oper->cu Oper->dv (cu Oper×cu Oper)
 |_,[]=>W
 |acc,o::l=>match F8 (acc++[o]) l with
  |some r=>Z r
  |none=>match(Af o.op||bl8 o.op)&&yx acc (o::l)with
   |true=>Z (acc,o::l)
   |false=>W
def be1(ops:Array Oper):dv (cu Oper×cu Oper):=F8 [] ops.toList
def X5:∀ {l acc a b:cu Oper},F8 acc l=Z (a,b)->acc++l=a++b/\yx a b=Y
 | [],_,_,_,h=>by simp[F8]at h
 |o::l,acc,a,b,h=>by unfold F8 at h;split at h;rename_i r c;cases h;have:=X5 c;exact⟨by rw[<-this.1];simp,this.2⟩;split at h;rename_i hc;cases h;rw[ab]at hc;exact⟨rfl,hc.2⟩;cases h
def Dy:Code->Nat
 | .region id _ _=>id
 | .seq a _=>Dy a
 | .block _ b=>Dy b
 | .loop b=>Dy b
 | .scope b=>Dy b
 | .cond _ a _=>Dy a
 |_=>0
def Vt(s:bl):Nat->Nat
 | 0=>0
 |t+1=>(match s.get t with
  | .fn (.func g) _ _=>(g+1)*(t+1)
  | .b4 (.int _ n)=>(n.toNat%64+7)*(t+1)
  | .b4 (.bool b)=>(cond b 3 5)*(t+1)
  |_=>0)+Vt s t
def uX(bb:Nat)(b:Code)(s:bl):Nat:=(bb*4096+Dy b)*65536+Vt s s.n%65536
variable (H:Nat->dv Hint)
def PN(ex:tF)(n:Nat)(b:Code)(k:zu):Nat->bl->Nat->nf
 | 0,_,_=>.stuck
 |j+1,s,bb=>ex n b s bb λe s' a=>match e with
  | .nr=>PN ex n b k j s' a
  |e=>k e s' a
def Vv(s:bl):bX->bX->dv Nat
 | .fT _,.mp i 0 0=>y8 s (.mp i 0 0)
 | .ey _,.mp i 0 0=>y8 s (.mp i 0 0)
 | .ey _,.c8 i z j=>y8 s (.c8 i z j)
 | .ey _,.ms i z 0 n=>y8 s (.ms i z 0 n)
 |_,_=>W
def Vu(s:bl):eX->eX->dv Nat
 |a::az,c::cs=>match Vv s a c with
  |some i=>Z i
  |none=>Vu s az cs
 |_,_=>W
def Dw(s:bl):eX->Nat->dv (Nat×c7)
 | [],_=>W
 |a::az,t=>match(match a,s.get t with
   | .agg xs,.agg cs=>Vu s xs cs
   |x,v=>Vv s x v)with
  |some i=>match s.st.bF i with
   |some o=>Z (i,o)
   |none=>Dw s az (t+1)
  |none=>Dw s az (t+1)
def KC(h:Hint)(bb:Nat)(k:bl->nf):Nat->bl->nf
 | 0,s=>k s
 |m+1,s=>match Dw s h.wc 0 with
  |some (a,x)=>match s.ff bb with
   |true=>.op (.rows (pZ (nD s.st a x).mZ)) bb (.b4 (.bool Y)) (KC h bb k m (s.nS (nD s.st a x) a))
   |false=>.stuck
  |none=>k s
def exec:Nat->tF
 | 0,_,_,_,_,_=>.stuck
 |m+1,n,c,s,bb,k=>
  match c with
  | .skip=>k .nr s bb
  | .label _=>k .nr s bb
  | .region _ ops U=>xa T Φ F (exec m) ops s.st.next ops.toList 0 { s with st:={ s.st with next:=s.st.next+ops.size } } bb λs' d=>k .nr s' d
  | .region _ ops Y=>match aY5 Φ ops s&&QI ops (F7 ops).1 (F7 ops).2 with
   |true=>(match KX T ops (F7 ops).1 s with
   |some s'=>GJ T Φ F (exec m) ops (F7 ops).1 [] (F7 ops).2 s' bb λs2 f=>k .nr s2 f
   |none=>.stuck)
   |false=>match be1 ops with
   |some (l0,t)=>match Gu ⟨l0⟩ (oC l0 [])with
    |true=>wW T Φ F ⟨l0⟩ s.st.next (aa l0) (oC l0 []) l0 0 { s with st:={ s.st with next:=s.st.next+aa l0 } } bb [] λs' d fs=>
      match(BJ ⟨l0⟩ (oC l0 [])).all (λp=>z_ s.st.next p.1 p.2 (fs.getD p.1 ⟨[],[],U,0,U⟩) (fs.getD p.2 ⟨[],[],U,0,U⟩))with
      |true=>xa T Φ F (exec m) ops s'.st.next t (aa l0) { s' with st:={ s'.st with next:=s'.st.next+aa (l0++t) } } d λs2 f=>k .nr s2 f
      |false=>.stuck
    |false=>.stuck
   |none=>match Gu ops (oC ops.toList [])with
   |true=>wW T Φ F ops s.st.next ops.size (oC ops.toList []) ops.toList 0 { s with st:={ s.st with next:=s.st.next+ops.size } } bb [] λs' d fs=>
     match(BJ ops (oC ops.toList [])).all (λp=>z_ s.st.next p.1 p.2 (fs.getD p.1 ⟨[],[],U,0,U⟩) (fs.getD p.2 ⟨[],[],U,0,U⟩))with
     |true=>k .nr s' d
     |false=>.stuck
   |false=>.stuck
  | .seq a b=>exec m n a s bb λe s' d=>match e with
   | .nr=>exec m n b s' d k
   |e=>k e s' d
  | .cond x a b=>match s.eval x with
   | .b4 (.bool t)=>exec m n (ite t a b) s bb k
   | .ey i=>.test i (exec m n a (s.mU (qp i Y)) bb k) (exec m n b (s.mU (qp i U)) bb k)
   |_=>.stuck
  | .block id b=>exec m n b s bb λe s' d=>match e with
   | .oA j=>k (ite (j=id) .nr <| .oA j) s' d
   |e=>k e s' d
  | .loop b=>match H (uX bb b s)with
   |some h=>KC h bb (λs=>match DD n bb h s,h.state.ff (bb+h.k)with
    |some inits,Y=>.loop bb h.k inits (exec m n b h.state (bb+h.k+1) λe s' d=>match e with
     | .nr=>match DD n bb h s' with
      |some j9=>.again bb j9
      |none=>.stuck
     |e=>k e s' d)
    |_,_=>.stuck) 4 s
   |none=>PN (exec m) n b k 1000 s bb
  | .exit id=>k (.oA id) s bb
  | .ret=>k .ret s bb
  | .scope b=>exec m n b s bb k
  |_=>.stuck
def JC(T:bY)(fn:Func)(e:qQ)(s:bl)(_:Nat):nf:=match e with
 | .oA _=>.stuck
 |_=>match pc T fn s with
  |some v=>match v.qA with
   |true=>.ret v.rJ []
   |false=>match pX s.st 50 v with
    |some c=>.ret c.rJ (pZ s.st.mZ)
    |none=>.stuck
  |none=>.stuck
end
variable {G:ca}{a c:bX}{elem:TypeId}{es:cu eX}{i j k off:Nat}{pat:bX}{ro:nU}{sT:TypeId}{size:Nat}{t:TypeId}{v:bX}{w:World}{x:bX}{xT:TypeId}{xs:cu eX}{z:Nat}{α:Type}
def xz(ck:cu (Nat×TypeId×Nat))(r:Nat):∀(row:eX) (a j:Nat),(tj ck r a row)[j]?=(row[j]?).map (wO ck r (a+j))
 | [],a,j=>by simp[tj]
 |v::vs,a,0=>by simp[tj]
 |v::vs,a,j+1=>by simp only[tj,aK];rw[xz ck r vs (a+1) j];congr 2;omega
def wy(ck:cu (Nat×TypeId×Nat)):∀(rows:cu eX) (a i:Nat),(pd ck a rows)[i]?=(rows[i]?).map (tj ck (a+i) 0)
 | [],a,i=>by simp[pd]
 |v::vs,a,0=>by simp[pd]
 |v::vs,a,i+1=>by simp only[pd,aK];rw[wy ck vs (a+1) i];congr 2;omega
def ym(ck:cu (Nat×TypeId×Nat))(r:Nat):∀(row:eX) (a:Nat),aa (tj ck r a row)=aa row
 | [],_=>rfl
 |_::vs,a=>by simp[tj,ym ck r vs]
def zw(ck:cu (Nat×TypeId×Nat)):∀(rows:cu eX) (a:Nat),aa (pd ck a rows)=aa rows
 | [],_=>rfl
 |_::vs,a=>by simp[pd,zw ck vs]
def bR1{ck:cu (Nat×TypeId×Nat)}{r:Nat}(h:ck.all (!Nat.beq ·.1 j)=Y):wO ck r j v=v:=by
 unfold wO;have:ck.find? (aw ·.1 j)=W:=by rw[List.find?_eq_none];intro x a;have:=aj.1 h x a;rw[dt]at this;rw[this];simp
 rw[this]
def Fu{rows:cu eX}{v:dv bX}{a:Nat}:(ur rows i off v)[a]?=match v with
  |none=>rows[a]?
  |some v=>ite (a=i) ((rows[a]?).map (·.set off v)) <|rows[a]?:=by
 unfold ur;cases v;rfl;cases h:rows[i]? with
 |none =>by_cases e:a=i;subst e;simp[h];simp[e]
 |some cs =>by_cases e:a=i;subst e;let ⟨hl,he⟩:=aq.1 h;simp[hl,he];simp only[e,l4];rw[jX (by omega)]
def bV6{cs:eX}(h:j<aa cs):qz (cs.set j a) j [v]=cs.set j v:=by apply List.ext_getElem?;intro k;rw[Nz _ _ _ (by simp;omega)];simp only[fU];by_cases e:j=k;subst e;simp[h];rw[cc (by omega)];simp[e]
def xQ(r c:Nat):hid r c<tY:=Nat.mod_lt _ (by decide)
def ef.PY(u v:dv α):∀(f k:Nat) (t:ef α),ef.qf v f k (ef.qf u f k t)=ef.qf v f k t
 | 0,0,.leaf=>rfl
 | 0,0,.node _ _ _=>rfl
 |_+1,0,.leaf=>rfl
 |_+1,0,.node _ _ _=>rfl
 | 0,_+1,t=>by simp[ef.qf]
 |f+1,k+1,.leaf=>by rcases jk k with e|e<;>simp[ef.qf,e,ef.PY u v f (k / 2)]
 |f+1,k+1,.node x l r=>by rcases jk k with e|e<;>simp[ef.qf,e,ef.PY u v f (k / 2)]
def bg.bg4(σ:bg)(id:Nat)(o:c7):(σ.set id o).del id=σ.del id:=by simp only[bg.set,bg.del,ef.set,ef.PY,bg.mk.injEq,qj];omega
variable {σ σ':bg}
def Xm{T:bY}(σ σ':bg){ix:bX}{ok:Bool}(h:∀id,x≠.mm id):qk T σ t x ix ok=qk T σ' t x ix ok:=by
 cases x with
 |mm id=>exact b8 rfl (h id)
 |mY c=>cases c<;>rfl
 |_=>rfl
section bnds
def ef.Ie{p:α->Bool}:∀ {t:ef α} {k:Nat} {v:α},t.all p=Y->t.get k=Z v->p v=Y
 | .leaf,k,v,_,h=>by rw[ef.uF]at h;cases h
 | .node x l r,0,v,a,h=>by simp only[ef.get]at h;subst h;simp only[ef.all,ab]at a;exact a.1.1
 | .node x l r,k+1,v,a,h=>by simp only[ef.all,ab]at a;simp only[ef.get]at h;split at h;exact ef.Ie a.1.2 h;exact ef.Ie a.2 h
def bl.be5{s:bl}(h:s.ff k=Y)(t:Nat):(s.get t).ff k=Y:=by
 simp only[bl.ff,ab]at h;simp only[bl.get];cases a:s.mZ.get t with
 |none=>rfl
 |some v=>exact ef.Ie h.1 a
variable {s:bl}
def as2(k:Nat):∀l:cu Value,rL k (l.map .b4)=Y
 | []=>by simp[rL]
 |v::l=>by simp[rL,bX.ff,as2 k l]
def bl.sm(h:s.ff k=Y)(x:Operand):(s.eval x).ff k=Y:=by
 cases x with
 |tmp t=>exact s.be5 h t
 |const v=>cases v<;>simp[bl.eval,bX.ofValue,bX.ff,as2]
 |global g=>simp[bl.eval,bX.ff]
 |func f=>simp[bl.eval,bX.ff,rL]
def bl.uw(h:s.ff k=Y){id:Nat}{o:c7}(ho:s.st.bF id=Z o):o.ff k=Y:=by simp only[bl.ff,ab]at h;exact ef.Ie h.2 ho
end bnds
section
variable {T:bY} {Φ:lv} {θ θ':Nat->bX} {bb:Nat} (ha:∀i,i<bb->θ' i=θ i) {s:bl} (hb:s.ff bb=Y)
include ha hb
theorem bW5(x:Operand):(s.eval x).sub θ'=(s.eval x).sub θ:=nL ha _ (s.sm hb x)
theorem aR9{c:dv Nat}(k:a.ff bb=Y)(h:Lz s.st elem size a=Z (c,x))(b:x.sub θ=.rs es) :
  ry (s.st.sub θ') elem size (a.sub θ')=Z (c,es)/\oF (s.st.sub θ') (a.sub θ')=s.st.sub θ':=by
 unfold Lz at h;split at h;cases h;simp only[yQ,bX.rs.injEq]at b;subst b;exact⟨by simp[ry],by simp[oF]⟩;split at h;rename_i id z len _ e d rows ho;split at h;rename_i hc;cases h;have f:=s.uw hb ho;have h1:(s.st.sub θ').bF id=Z (.row e d es):=by rw[bg.x3,ho,ai,c7.nL ha _ f];simp only[c7.sub];simp only[yQ,bX.rs.injEq]at b;rw[b]
 have hl:aa rows=aa es:=by simp only[yQ,bX.rs.injEq]at b;rw[<-b];simp
 refine⟨?_,?_⟩;simp only[xL,ry,h1];rw[cr ⟨by omega,hc.2⟩];simp only[xL,oF,h1];rw[cc (by omega)];cases h;cases h;split at h;rename_i id z i _ e d j ho;split at h;rename_i hc;cases h;obtain⟨rfl,g,he⟩:=hc;have hj:j<bb:=by have:=s.uw hb ho;simpa[c7.ff]using this
 rw[vl]at b;have h1:(s.st.sub θ').bF id=Z (.row e d es):=by rw[bg.x3,ho,ai];simp only[c7.sub,ha j hj,b,rowsOf]
 simp only[rA,ha j hj,b,rowsOf,ry,h1];simp[g,he];simp only[ oF,h1];rw[cc (by omega)];cases h;cases h;cases h
theorem az8{y:bX}(b:c.ff bb=Y)(h:KF s.st c=Z y)(a:y.sub θ=.rs xs):oS (s.st.sub θ') (c.sub θ')=Z xs:=by
 unfold KF at h;split at h;cases h;simp only[yQ,bX.rs.injEq]at a;subst a;simp[oS];cases h;rw[nL ha _ b,a];simp[oS];cases h;rw[nL ha _ b,a];simp[oS];split at h;rename_i id z off len _ e f rows ho;split at h;rename_i hc;cases h;have d:=s.uw hb ho;simp only[yQ,bX.rs.injEq]at a;simp only[xL,oS,bg.x3,ho,ai];rw[c7.nL ha _ d];simp only[c7.sub,aI];rw[cr hc,<-a];simp;cases h;cases h;split at h;rename_i id z i _ e f j ho;split at h;rename_i hc;cases h;subst hc;have hj:j<bb:=by have:=s.uw hb ho;simpa[c7.ff]using this
 rw[vl]at a;simp only[rA,ha j hj,a,rowsOf,oS,bg.x3,ho,ai,c7.sub];simp;cases h;cases h;cases h
theorem ba0{id:Nat}{e:Nat}(h1:a.ff bb=Y)(h2:c.ff bb=Y)(h:Pz T s.st id sT xT a c bb=Z (ro,pat,v,σ',e))(he:iv T Φ θ ro=Z (pat.sub θ')) :
  qS T (s.st.sub θ') id sT xT (a.sub θ') (c.sub θ')=Z (v.sub θ',σ'.sub θ'):=by
 unfold Pz at h;split at h;rename_i elem _ _ _ _ j;split at h;rename_i t d;split at h;rename_i f x y m n;cases h;simp only[iv,Hl,j]at he;split at he;rename_i el _ _ _ _ u o k;cases o;rw[d]at he;simp only at he;split at he;rename_i es xs hex g;split at he;rename_i hc;simp only[ah,vl]at he;let ⟨p,q⟩:=aR9 ha hb h1 m hex;have r:=az8 ha hb h2 n g;have b:qS T (s.st.sub θ') id sT xT (a.sub θ') (c.sub θ')=sM T (oF (s.st.sub θ') (a.sub θ')) id sT xT (a.sub θ') (c.sub θ'):=by unfold qS;split;rename_i w l;rw[k]at l;cases l;simp[nk.isInt]at hc;rfl
 rw[b,q];simp only[sM,j,k,d,p,r];rw[cr hc];simp only[rA,bg.pQ,c7.sub,<-he,rowsOf];cases f<;>simp[bg.D_];cases he;cases he;cases he;cases h;cases h;cases h
include ha hb in
theorem aZ9{id:Nat}{d:Nat}{e:nk}{k:IntKind}(h2:c.ff bb=Y)(f:T xT=Z e)(g:e.j4=.int k)(h:PS T s.st id sT a c bb=Z (ro,pat,v,σ',d))(he:iv T Φ θ ro=Z (pat.sub θ')) :
  qS T (s.st.sub θ') id sT xT (a.sub θ') (c.sub θ')=Z (v.sub θ',σ'.sub θ'):=by
 unfold PS at h;split at h;rename_i elem _ _ _ _ j;split at h;rename_i m b;split at h;cases h;let ⟨u0,z0,nq,z2,z3⟩:=e;cases g;simp only[iv,Mc,j,b]at he;rw[nL ha _ h2];split at he;rename_i o n l;split at he;rename_i hc;simp only[ah,vl]at he;simp only[qS,j,f,pN,xK,b,l];rw[cr hc];simp only[rA,bg.pQ,c7.sub,<-he,rowsOf,List.length_replicate];cases he;cases he;cases h;cases h;cases h
include ha hb in
theorem aY7{y:bX}(a:c.ff bb=Y)(h:P7 s.st i c=Z y)(f:y.sub θ=.rs xs){σ0:bg}(g:∀j,j≠i->σ0.bF j=(s.st.sub θ').bF j):oS σ0 (c.sub θ')=Z xs:=by
 unfold P7 at h;split at h;cases h;rw[nL ha _ a,f];simp[oS];split at h;rename_i i2 z o l _;split at h;cases h;rename_i b;have:=az8 ha hb a h f;rw[<-this,xL];have d:i2≠i:=λe=>by rw[e,Nat.beq_refl]at b;cases b
 simp only[oS,g i2 d];cases h
include ha hb in
theorem aR5{id:Nat}{p:Nat}(h2:c.ff bb=Y)(h:LV T s.st id sT xT a c bb=Z (ro,pat,v,σ',p))(he:iv T Φ θ ro=Z (pat.sub θ')) :
  qS T (s.st.sub θ') id sT xT (a.sub θ') (c.sub θ')=Z (v.sub θ',σ'.sub θ'):=by
 unfold LV at h;split at h;rename_i elem _ _ _ _ t;split at h;rename_i o g;split at h;rename_i i z0;split at h;rename_i e z j ho;split at h;rename_i y k q;simp only[ab,cy]at k;obtain⟨rfl,rfl⟩:=k;cases h;simp only[iv,Hl,t]at he;split at he;rename_i el _ _ _ _ B x u;cases x;rw[g]at he;simp only[yQ,cM]at he;split at he;rename_i es xs hex r;cases hex;split at he;rename_i hc;simp only[ ah,vl]at he;have l:oS (oF (s.st.sub θ') (.ms i z0 0 0)) (c.sub θ')=Z xs:=aY7 ha hb h2 q r λj hj=>by simp only[oF];split;split;rw[bg.x9,cc hj];rfl;rfl
 have b:(s.st.sub θ').bF i=Z (.row e o.size (rowsOf (θ' j))):=by rw[bg.x3,ho];rfl
 have m:∃o0,oF (s.st.sub θ') (.ms i z0 0 0)=(s.st.sub θ').set i o0/\o0=.row e o.size []\/oF (s.st.sub θ') (.ms i z0 0 0)=s.st.sub θ'/\rowsOf (θ' j)=[]:=by simp only[oF,b];by_cases hl:0<aa (rowsOf (θ' j));rw[cr hl];exact⟨_,.inl ⟨rfl,by simp⟩⟩;rw[cc hl];exact⟨.row e o.size [],.inr ⟨rfl,dR (by omega)⟩⟩
 have d:qS T (s.st.sub θ') id sT xT (bX.sub θ' (.ms i z0 0 0)) (c.sub θ')=sM T (oF (s.st.sub θ') (.ms i z0 0 0)) id sT xT (.ms i z0 0 0) (c.sub θ'):=by rw[xL];unfold qS;split;rename_i C w;rw[u]at w;cases w;simp[nk.isInt]at hc;rfl
 rw[d];have f:ry (oF (s.st.sub θ') (.ms i z0 0 0)) e o.size (.ms i z0 0 0)=Z (Z i,[]):=by obtain⟨o0,⟨fa,rfl⟩|⟨fa,gb⟩⟩:=m;rw[fa];simp[ry,bg.x9];rw[fa];simp[ry,b,gb]
 have n:(oF (s.st.sub θ') (.ms i z0 0 0)).del i=(s.st.sub θ').del i:=by obtain⟨o0,⟨fa,rfl⟩|⟨fa,gb⟩⟩:=m;rw[fa,bg.bg4];rw[fa]
 simp only[sM,t,u,g,f,l];rw[cr hc];simp only[rA,bg.pQ,bg.D_,c7.sub,<-he,rowsOf,n,List.length_nil,bj,br];cases he;cases he;cases he;cases h;cases h;cases h;cases h;cases h
include ha hb in
theorem Nx{m:Nat}(h:(s.st.bF m).bind F9=Z c):(s.st.sub θ').bF m=Z (qY (c.sub θ))/\(s.st.sub θ').bF m=(tm (c.sub θ)).bF 0:=by
 have key:(s.st.sub θ').bF m=Z (qY (c.sub θ)):=by
  cases ho:s.st.bF m with
  |none=>rw[ho]at h;cases h
  |some o =>rw[ho]at h;simp only[Option.bind_some]at h;have a:=s.uw hb ho;rw[bg.x3,ho,ai];unfold F9 at h;split at h;cases h;simp only[c7.sub,nL ha _ a];cases h;simp[c7.sub,qY,rowsOf,rZ,nT];cases h
 rw[key];simp[tm,bg.x9]
theorem cd2(g:Fit θ){id:Nat}{b:Builtin}{ts:Array TypeId}{args:eX}(h1:∀a∈args,a.ff bb=Y)(h:Lr T s.st id b ts.toList args bb=Z (ro,pat,v,σ',j))
  (he:iv T Φ θ ro=Z (pat.sub θ')):rW T (s.st.sub θ') id b ts (args.map (bX.sub θ'))=Z (v.sub θ',σ'.sub θ'):=by
 have f:=cw λa hm=>nL ha a (h1 a hm);unfold Lr at h;split at h;rename_i t i d;cases h;simp only[iv,vl]at he;rw[f];simp only[rW,d,aD,cM,vl];have h2:p3 T (s.st.sub θ') t (θ i)=Z (θ' bb):=by
  have hf:=g i;unfold p3 at he⊢;split at he;rename_i ti o;rcases hf.cases with⟨k,n,e⟩|⟨b,e⟩|⟨x,e⟩|⟨es,e⟩|⟨cs,e⟩|⟨c,e⟩<;>rw[e]at he⊢<;>(cases hu:ti.j4<;>rw[hu]at he<;>first|exact he| (simp only at he⊢;exact he))
  cases he
 rw[h2];rename_i t id' z i d;split at h;rename_i el _ _ _ _ o;cases h;simp only[iv,vl]at he;rw[f];simp only[rW,d,aD,cM,rA];have h2:p3 T (s.st.sub θ') t (.ms id' z 0 (aa (rowsOf (θ i))))=Z (θ' bb):=by
  have hf:=g i;simp only[p3,o]at he⊢;rcases hf.cases with⟨k,n,e⟩|⟨b,e⟩|⟨x,e⟩|⟨es,e⟩|⟨cs,e⟩|⟨c,e⟩<;>rw[e]at he⊢<;>simp at he⊢
  exact he
 rw[h2];simp;cases h;cases h;simp only[iv]at he;rw[f];generalize cD (bX.sub θ) _=l at *;cases hm:zn l with
 |none=>rw[hm]at he;cases he
 |some u =>rw[hm]at he;simp only[ai,ah]at he;simp[rW,hm,he]
 cases h;simp only[iv]at he;rw[f];generalize cD (bX.sub θ) _=l at *;cases hm:zl l with
 |none=>rw[hm]at he;cases he
 |some u =>rw[hm]at he;simp only[ai,ah]at he;simp[rW,hm,he]
 rename_i sT xT a c d;simp only[rW,d];split at h;rename_i p;exact aZ9 (T:=T) (Φ:=Φ) ha hb (h1 c (by simp)) p rfl h he;split at h;rename_i q r;cases h;exact aR5 (T:=T) (Φ:=Φ) ha hb (h1 c (by simp)) r he;exact ba0 (T:=T) (Φ:=Φ) ha hb (h1 a (by simp)) (h1 c (by simp)) h he;rename_i t m d;split at h;rename_i c hc;cases h;simp only[iv]at he;let ⟨_,w⟩:=Nx (θ:=θ) ha hb hc;have h2:p3 T (s.st.sub θ') t (.mm m)=Z (θ' bb):=by
  unfold p3 at he⊢;split at he;rename_i ti o;cases hu:ti.j4<;>rw[hu]at he<;>simp only[w]at he⊢<;>first|exact he| (simp only at he⊢;exact he)|cases he
  cases he
 simp only[rW,d,aD,cM,B6,h2,vl];cases h;cases h
include ha hb in
theorem bR6{m k:bX}{a:Nat}(h1:k.ff bb=Y)(h2:x.ff bb=Y)(h:OF s.st t m k x bb=Z (ro,pat,v,σ',a))(he:iv T Φ θ ro=Z (pat.sub θ')) :
  si T (s.st.sub θ') t (m.sub θ') (k.sub θ') (x.sub θ')=Z (σ'.sub θ')/\v=.b4 undef:=by
 unfold OF at h;split at h;split at h;rename_i c hc;cases h;let ⟨d,_⟩:=Nx (θ:=θ) ha hb hc;simp only[iv]at he;split at he;rename_i e hu;split at he;rename_i b l hk;simp only[ah]at he;refine⟨?_,rfl⟩;rw[nL ha k h1,nL ha x h2,B6,bo7 d hk hu,bg.pQ];simp only[c7.sub,<-he];cases he;cases he;cases h;cases h
omit ha hb in
theorem Sl{T:bY}{el:TypeId}{ti a:nk}{id len:Nat}{b:bX}(e:T t=Z ti)(hu:ti.j4=.slice el)(c:T el=Z a)(hz:z=a.size){q:bX}(h:sH T t (.ms 0 a.size 0 len) b=Z q):sH T t (.ms id z 0 len) b=Z (.mp id (nm b) 0):=by let ⟨j4,size,zero,bytes,flat⟩:=ti;subst hu;subst hz;unfold sH at h⊢;rw[e]at h⊢;split at h;rename_i f n d;cases d;simp only[c]at h⊢;split at h;rename_i hc;rw[cr hc];simp[nm];cases h;rename_i d;cases d;cases h
include ha hb in
theorem PG{id:Nat}{e:TypeId}(ho:s.st.bF id=Z (.fN e z j)):(s.st.sub θ').bF id=Z (.row e z (rowsOf (θ j)))/\j<bb:=by
 have hj:j<bb:=by have:=s.uw hb ho;simpa[c7.ff]using this
 exact⟨by rw[bg.x3,ho,ai];simp only[c7.sub,ha j hj],hj⟩
include ha in
theorem K1(b:a.ff bb=Y){id:Nat}{i:bX}(h:Eg a=Z (id,i,off)):a.sub θ'=.mp id (nm (i.sub θ)) off:=by unfold Eg at h;split at h;rename_i id k off;cases h;simp only[bX.ff,bP]at b;simp only[bX.sub,ha k b];cases h;simp[ nm];cases h
theorem ar4(P:Fit θ){id:Nat}{op:Op}{fr':Nat}(h:Hb T s.eval s.st id op bb=Z (ro,pat,v,σ',fr'))
  (he:iv T Φ θ ro=Z (pat.sub θ')):fb T (s.sub θ').eval (s.st.sub θ') id op=Z (v.sub θ',σ'.sub θ'):=by
 have d:∀x,(s.sub θ').eval x=(s.eval x).sub θ:=λx=>by rw[bl.sub_eval,bW5 ha hb x]
 unfold Hb at h;split at h;cases h;simp only[iv,vl]at he;simp only[fb,d,he,vl];cases h;simp only[iv,vl]at he;simp only[fb,d,he,vl];cases h;simp only[iv,vl]at he;simp only[fb,d,he,vl];split at h;rename_i id k off f;cases h;simp only[fb,bl.sub_eval,f,bX.sub];rename_i i f;cases h;simp only[iv,vl]at he;split at he;rename_i cs B;simp only[fb,d,f,vl,B];have r:=s.sm hb ‹Operand›;rw[f]at r;simp only[bX.ff,bP]at r;rw[ha i r,B];cases he;cases h;split at h;rename_i id k off fields _ _ _ _ f o;split at h;rename_i fd hfd;split at h;rename_i fi hfi;split at h;cases h;rename_i hz;cases h;have hz':¬fi.size=0:=λe=>by rw[e]at hz;simp at hz
 simp only[fb,bl.sub_eval,f,bX.sub,wB,o,hfd,hfi];rw[cc hz'];cases h;cases h;rename_i i ti f o;split at h;rename_i v1 K;cases h;simp only[iv,vl]at he;split at he;rename_i cs B;split at he;simp only[ah]at he;simp only[fb,d,f,vl,B,he,VJ (θ:=θ') K];cases he;cases he;cases h;cases h;rename_i t x;split at h;rename_i g hg;split at h;cases h;simp only[iv]at he;have f:=On hg;simp only[fb,d,f,pN,tg,vW,he];cases h;split at h;rename_i id i off hp;split at h;rename_i e z j p fr1 ho Q;cases h;simp only[iv,vl]at he;let ⟨H,_⟩:=PG (θ:=θ) ha hb ho;have I:=K1 (θ:=θ) ha hb (s.sm hb x) hp;have R:py T (s.st.sub θ') t (.mp id (nm (i.sub θ)) off)=Z (pat.sub θ'):=by rw[<-he];simp[py,H,tW,bg.x9]
 simp only[fb,bl.sub_eval,I,tg,vW,R];rename_i e z c ck k D v0 p fr1 ho Q;have I:=K1 (θ:=θ) ha hb (s.sm hb x) hp;have u:=s.uw hb ho;have H:(s.st.sub θ').bF id=Z (c7.sub θ (.nH e z c ck k D v0)):=by rw[bg.x3,ho,ai,c7.nL ha _ u]
 simp only[c7.sub]at H;split at h;rename_i ti o;split at h;cases h;rename_i J;split at h;rename_i hoff;have hoff:=ae hoff;subst hoff;split at h;rename_i v1 hk;obtain⟨m,rfl,rfl⟩:=KT hk;cases h;simp only[iv]at he;split at he;rename_i row w;split at he;rename_i E;rw[bP]at E;simp only[c7.ff,ab]at u;have hv1:=nL ha _ u.2.2;have R:py T (s.st.sub θ') t (.mp id (nm ((bX.ey m).sub θ)) off)=Z (v.sub θ):=by simp only[py,H,Fu,vE,wy,w,o,sj,J,l4];simp[ym,E]
 simp only[fb,bl.sub_eval,I,tg,vW,R,hv1];cases he;cases he;cases h;rename_i hoff;have hoff:off≠D:=λe=>by rw[e]at hoff;simp at hoff
 split at h;rename_i M;cases h;simp only[iv]at he;have R:py T (s.st.sub θ') t (.mp id (nm (i.sub θ)) off)=Z (pat.sub θ'):=by
  rw[<-he];have e9:(tW e z (c.sub θ)).bF 0=Z (.row e z (rowsOf (c.sub θ))):=by simp[tW,bg.x9]
  simp only[py,H,e9,Fu,wy,o,sj,J,l4];cases w:(rowsOf (c.sub θ))[nm (i.sub θ)]? with
  |none=>cases v0<;>simp
  |some row=>
   have l:(tj ck (0+nm (i.sub θ)) 0 row)[off]?=row[off]?:=by
    rw[xz];cases row[off]? with
    |none=>rfl
    |some x=>simp[bR1 M]
   cases v0;exact l;simp only[ai];by_cases e:nm (i.sub θ)=nm (k.sub θ);simp only[e,vE]at l⊢;rw[jX (by omega)];exact l;simp only[e,l4];exact l
 simp only[fb,bl.sub_eval,I,tg,vW,R];cases h;cases h;cases h;split at h;rename_i i ti f o;split at h;rename_i v1 K;cases h;simp only[iv,vl]at he;split at he;rename_i cs B;split at he;simp only[ah]at he;have h3:=NN (θ:=θ') K;rw[<-he]at h3;have h4:py T (s.st.sub θ') t (.fT cs)=Z (v.sub θ'):=by simp only[py]at h3⊢;exact h3
 simp only[fb,d,f,vl,B,tg,vW,h4];cases he;cases he;cases h;cases h;rename_i t a x;split at h;rename_i id' i off ti m z' j hp o f;split at h;rename_i e z c ck k D v1 ho;split at h;rename_i hc;simp only[ab,cy]at hc;obtain⟨⟨hsz,rfl⟩,hk⟩:=hc;obtain⟨G,rfl,rfl⟩:=KT hk;cases h;have I:=K1 (θ:=θ) ha hb (s.sm hb a) hp;have u:=s.uw hb ho;have H:(s.st.sub θ').bF id'=Z (c7.sub θ (.nH e z c ck (.ey G) off (Z v1))):=by rw[bg.x3,ho,ai,c7.nL ha _ u]
 simp only[c7.sub]at H;simp only[c7.ff,ab]at u;simp only[iv]at he;split at he;rename_i row w;split at he;rename_i E;rw[bP]at E;have hn1:nm (bX.sub θ' (.ey G))=nm (bX.sub θ (.ey G)):=by rw[nL ha _ u.2.1]
 have hxv:(s.eval x).sub θ=bX.sub θ' (.c8 m z' j):=by rw[<-f];exact(nL ha _ (s.sm hb x)).symm
 have k5:(ur (pd ck 0 (rowsOf (c.sub θ))) (nm ((bX.ey G).sub θ)) off (Z (v1.sub θ)))[nm ((bX.ey G).sub θ)]?=Z ((tj ck (nm ((bX.ey G).sub θ)) 0 row).set off (v1.sub θ)):=by rw[Fu];simp only[vE,wy,w,ai,bj]
 have qJ:sq T (s.st.sub θ') t (.mp id' (nm ((bX.ey G).sub θ)) off) (bX.sub θ' (.c8 m z' j))=Z ((s.st.sub θ').set id' (c7.sub θ' (.nH e z c ck (.ey G) off (Z (.c8 m z' j))))):=by
  simp only[sq,rA,bX.cells,o,H,ai,k5,hsz,fU,List.length_set,ym];rw[cr ⟨trivial,by omega,by simp[bX.one]⟩];have S:off<aa (tj ck (nm (bX.sub θ (.ey G))) 0 row):=by rw[ym];exact E
  rw[bV6 S];simp only[c7.sub,ai,rA,hn1,nL ha _ u.1];simp only[ur,wy,w,ai,bj,List.set_set]
 simp only[fb,bl.sub_eval,I];rw[f,qJ];simp only[pN,bg.pQ];cases he;cases he;cases h;cases h;cases h;rename_i t x i;split at h;rename_i el _ _ _ _ o;split at h;rename_i ei C;split at h;rename_i id z j f;have r:=s.sm hb x;rw[f]at r;simp only[bX.ff,bP]at r;have N:=s.sm hb i;split at h;rename_i hz;have hz:=ae hz;split at h;rename_i k a7;cases h;rw[a7]at N;simp only[bX.ff,bP]at N;simp only[iv,o,C,vl]at he;split at he;rename_i q hq;have:=Sl (id:=id) (z:=z) o rfl C hz hq;simp only[fb,bl.sub_eval,f,a7,rA,vl,bX.sub,ha j r,ha k N,this];cases he;rename_i kd n a7;cases h;simp only[iv,o,C,vl,pN]at he;split at he;rename_i q hq;have:=Sl (id:=id) (z:=z) o rfl C hz hq;simp only[fb,bl.sub_eval,f,a7,rA,pN,bX.sub,ha j r,this,nm];cases he;cases h;cases h;cases h;simp only[iv]at he;simp only[fb,d,he];cases h;cases h;split at h;split at h;cases h;simp only[iv]at he;simp only[fb,d,he];cases h;cases h;simp only[iv,vl]at he;simp only[fb,d,he,vl];rename_i t x b7 a7;have e:=funext d;split at h;rename_i elem _ _ _ _ id' z j kd o f hlo O;split at h;rename_i ei C;split at h;rename_i hz;cases h;rw[cy]at hz;subst hz;have hlo':b7=W:=by cases b7 with|none=>rfl|some _=>simp at hlo
 subst hlo';cases a7;simp at O;simp only[ai,ah]at O;simp only[fb,e,f,rA,d_,ai,O,pN,uB,o,C,bound];simp;cases h;cases h;cases h;simp only[iv,vl,Option.map_map]at he;simp only[fb,e,d_];simp only[f_]at he;rw[he];simp;rename_i b args ts;simp only[fb];have hm:args.toList.map (s.sub θ').eval=(args.toList.map s.eval).map (bX.sub θ'):=by rw[de];apply cw;intro x _;exact bl.sub_eval θ' s x
 rw[hm];refine cd2 (T:=T) (Φ:=Φ) ha hb P (λa hmem=>?_) h he;obtain⟨x,_,rfl⟩:=aN.1 hmem;exact s.sm hb x;rename_i t x i ok;split at h;rename_i kt et _ _ _ _ m o f;split at h;rename_i c hc;let ⟨_,I⟩:=Nx (θ:=θ) ha hb hc;have hl:∀b,qk T (s.st.sub θ') t (.mm m) ((s.eval i).sub θ) b=qk T (tm (c.sub θ)) t (.mm 0) ((s.eval i).sub θ) b:=λb=>by simp only[qk,I]
 split at h;split at h;cases h;simp only[iv]at he;simp only[fb,d,f,B6,hl,he];cases h;simp only[iv]at he;simp only[fb,d,f,B6,hl,he];cases h;cases h;rename_i kt et _ _ _ _ m o f;have hl:∀b,qk T (s.st.sub θ') t (θ m) ((s.eval i).sub θ) b=qk T bg.none t (θ m) ((s.eval i).sub θ) b:=λb=>Xm _ _ (λid e=>by have:=P m;rw[e]at this;exact this);have hb2:θ' m=θ m:=by have:=s.sm hb x;rw[f]at this;simp only[bX.ff,bP]at this;exact ha m this
 split at h;split at h;cases h;simp only[iv,vl]at he;simp only[fb,d,f,vl,hl,he];cases h;simp only[iv,vl]at he;simp only[fb,d,f,vl,hl,he];cases h;rename_i kt et _ _ _ _ c o f;have hl:∀b,qk T (s.st.sub θ') t (.mY (c.sub θ)) ((s.eval i).sub θ) b=qk T bg.none t (.mY (c.sub θ)) ((s.eval i).sub θ) b:=λb=>Xm _ _ (λid e=>by cases e);split at h;split at h;cases h;simp only[iv,B4]at he;simp only[fb,d,f,B4,hl,he];cases h;simp only[iv,B4]at he;simp only[fb,d,f,B4,hl,he];cases h;cases h;have:=bR6 (T:=T) (Φ:=Φ) ha hb (s.sm hb _) (s.sm hb _) h he;simp only[fb,bl.sub_eval];rw[this.1,this.2];simp;cases h
end
mutual
theorem BB{θ:Nat->bX}(b:Fit θ):∀v:bX,v.qA=Y->(v.sub θ).kl=Y
 | .b4 v,_=>by simp[bX.kl]
 | .ey i,_=>by rw[vl];exact(b i).kl
 | .rs es,h=>by simp only[bX.qA]at h;simp only[bX.sub,bX.kl];exact Oo b es h
 | .agg cs,h=>by simp only[bX.qA]at h;simp only[bX.sub,bX.kl];exact vH b cs h
 | .ed cs,h=>by simp only[bX.qA]at h;simp only[bX.sub,bX.kl];exact vH b cs h
 | .any,h=>by simp[bX.qA]at h
 | .fT cs,h=>by simp only[bX.qA]at h;simp only[bX.sub,bX.kl];exact vH b cs h
 | .ms ..,h=>by simp[bX.qA]at h
 | .mp ..,h=>by simp[bX.qA]at h
 | .mm _,h=>by simp[bX.qA]at h
 | .it _,h=>by simp[bX.qA]at h
 | .mY c,h=>by simp only[bX.qA]at h;simp only[bX.sub,bX.kl];exact BB b c h
 | .fn _ a c,h=>by simp only[bX.qA,ab]at h;simp only[bX.sub,bX.kl,ab];exact⟨vH b a h.1,vH b c h.2⟩
 | .c8 ..,h=>by simp[bX.qA]at h
theorem vH{θ:Nat->bX}(a:Fit θ):∀l:eX,q2 l=Y->sa (ni θ l)=Y
 | [],_=>by simp[ni,sa]
 |c::cs,h=>by simp only[q2,ab]at h;simp only[ni,sa,ab];exact⟨BB a c h.1,vH a cs h.2⟩
theorem Oo{θ:Nat->bX}(a:Fit θ):∀l:cu eX,yX l=Y->sB (o8 θ l)=Y
 | [],_=>by simp[o8,sB]
 |c::cs,h=>by simp only[yX,ab]at h;simp only[o8,sB,ab];exact⟨vH a c h.1,Oo a cs h.2⟩
end
def Jj(h:Rel G σ w)(pl:Nat->dv nt){id len:Nat}{u:Value}(s:eR G (.ms id z off len) u)(ho:σ.bF id=Z (.row elem size es))
  (hle:off+len<=aa es) {l:cu eX} (k:aa l=len)
  (d:∀i (a7:i<aa l) (b:off+i<aa es),l[i].length=es[off+i].length/\∀j (hj:j<l[i].length) (t:j<es[off+i].length) u,eR G es[off+i][j] u->eR (G.frozen σ w pl) l[i][j] u) :
  eR (G.frozen σ w pl) (.rs l) u:=by
 cases s with
 |oh _ _ p hp hv =>have:=dR k;subst this;exact .q9
 |ms _ _ _ _ p hp hv hz a c v hoff x hsp=>
  let ⟨B,C,cells,D,m,q,r,e⟩:=h.real ho hp hv;have g:(G.frozen σ w pl).lo p.block=Z (.cells cells elem (0,0)):=by simp only[ca.frozen];rw[cr ⟨id,_,p,ho,hp,hv,rfl⟩];exact D
  rw[<-k];by_cases n:c=0;have:l=[]:=dR (by omega);subst this;exact .rs [] a c 0 (λ_ _=>undef) (λ_=>hsp) (by simp) (λi a7=>by simp at a7) (λi j a7=>by simp at a7) (λi j a7=>by simp at a7);rw[v n];refine .rs l _ c size (λi j=>cells.getD ((off+i)*size+j) undef) (λ_=>rfl) (by omega) (λi a7=>?_) (λi j a7 hj=>?_) (λi j a7 hj=>?_);have b:off+i<aa es:=by omega
  rw[(d i a7 b).1];exact(e _ b).1;have f:(off+i)*size+j<cells.size:=by rw[q];have:(off+i+1)*size<=p.cap*size:=b_ _ (by omega);rw[cG]at this;omega
  simp only[ca.cell,g,m];have E:off*size+i*size+j=(off+i)*size+j:=by rw[cG]
  rw[E];simp[f];have b:off+i<aa es:=by omega
  let ⟨g1,g2⟩:=d i a7 b;have H:=(e _ b).1;have f:(off+i)*size+j<cells.size:=by rw[q];have:(off+i+1)*size<=p.cap*size:=b_ _ (by omega);rw[cG]at this;omega
  have:=(e _ b).2 j (by omega) f;have o:cells.getD ((off+i)*size+j) undef=cells[(off+i)*size+j]:=by simp[f]
  rw[o];exact g2 j hj (by omega) _ this
def DA{θ:Nat->bX}(C:Fit θ)(h:Rel G (σ.sub θ) w)(pl:Nat->dv nt)(hx:∀id e z j,σ.bF id=Z (.fN e z j)->∃es,θ j=.rs es)(hy:∀id j,σ.bF id=Z (.nC (.ey j))->∃es,θ j=.rs es) :
  ∀(k:Nat) (v c:bX) (u:Value),pX σ k v=Z c->eR G (v.sub θ) u->eR (G.frozen (σ.sub θ) w pl) (c.sub θ) u
 | 0,v,c,u,hd,_=>by simp[pX]at hd
 |k+1,v,c,u,hd,t=>by
  have N:=DA C h pl hx hy k;unfold pX at hd;split at hd
  next hp=>
   cases hd;exact rr (λb o D=>tc h D) t (BB C _ hp)
  split at hd
  next cs _=>
   split at hd
   next l hl=>
    cases hd;let ⟨I,E⟩:=yA hl;simp only[BW]at t⊢;cases t with
    |agg _ vs h1 h2=>
     refine .agg _ vs (by rw[h1];simp[I]) (λi a7 g=>?_);have x:i<aa cs:=by simp at a7;omega
     have:=N _ _ vs[i] (E i x (by simpa using a7)) (by have:=h2 i (by simpa using x) g;simpa using this);simpa using this
   cases hd
  next cs _=>
   split at hd
   next l hl=>
    cases hd;let ⟨I,E⟩:=yA hl;simp only[Kb]at t⊢;cases t with
    |ed _ vs h1 h2=>
     refine .ed _ vs (by rw[h1];simp[I]) (λi a7 g=>?_);have x:i<aa cs:=by simp at a7;omega
     have:=N _ _ vs[i] (E i x (by simpa using a7)) (by have:=h2 i (by simpa using x) g;simpa using this);simpa using this
   cases hd
  next id z off len _=>
   split at hd
   next elem size es ho=>
    split at hd
    next hle=>
     split at hd
     next l hl=>
      cases hd;let ⟨I,E⟩:=aw7 hl;rw[yQ];refine Jj h pl t (elem:=elem) (size:=size) (es:=es.map (cD (bX.sub θ))) (by rw[bg.x3,ho];rfl) (by simpa using hle) (by simp[I];omega) (λi a7 g=>?_);have s:i<aa l:=by simpa using a7
      have hm:=E i (by rw[<-I];exact s) s;let ⟨f1,f2⟩:=yA hm;refine⟨by simp[f1],λj hj hj' u hu=>?_⟩;have H:j<l[i].length:=by simpa using hj
      have:=N _ _ u (f2 j (by omega) H) (by simpa using hu);simpa using this
     cases hd
    cases hd
   cases hd
  next id z i _=>
   split at hd
   next elem size j ho=>
    split at hd
    next hji=>
     cases hd;subst hji;let ⟨es,hes⟩:=hx id elem size j ho;rw[rA,hes]at t;rw[vl,hes];refine Jj h pl t (elem:=elem) (size:=size) (es:=es) (by rw[bg.x3,ho];simp[c7.sub,hes,rowsOf]) (by simp[rowsOf]) (by simp[rowsOf]) (λi a7 g=>?_);have d:=(C j).kl;rw[hes]at d;simp only[bj];exact⟨trivial,λa ha O u hu=>rr (λb o D=>tc h D) hu (rY d i a7 a ha)⟩
    cases hd
   cases hd
  next id _=>
   split at hd
   next elem size cs ho=>
    split at hd
    next l hl=>
     cases hd;let ⟨I,E⟩:=yA hl;rw[R3];cases t with
     |mp _ _ _ p hp=>
     have m:(σ.sub θ).bF id=Z (.row elem size [cs.map (bX.sub θ)]):=by rw[bg.x3,ho];rfl
     have hv:p.mX=U:=by
      rcases h.wY m hp with⟨_,_,_,J⟩|⟨J,_⟩
      .cases J
      exact J
     let ⟨him,hw0,cells,D,hps,hn,P,q⟩:=h.real m hp hv
     have n:(G.frozen (σ.sub θ) w pl).lo p.block=Z (.cells cells elem (0,0)):=by simp only[ca.frozen];rw[cr ⟨id,_,p,m,hp,hv,rfl⟩];exact D
     let ⟨r1,r2⟩:=q 0 (by simp)
     have hlen:aa cs=size:=by simpa using r1
     have Q:size<=cells.size:=by rw[hn];have:1*size<=p.cap*size:=b_ _ (by simpa using P);omega
     refine .fT _ _ (cells.getD · undef) rfl (λj hj=>?_) (λj hj=>?_)
     .have H:j<aa l:=by simpa using hj
      have K:j<cells.size:=by omega
      simp only[ca.cell,n];simp[K]
     have H:j<aa l:=by simpa using hj
     have K:j<cells.size:=by omega
     have R:j<aa cs:=by omega
     have:=r2 j (by simpa using R) (by omega);have hv':cells.getD j undef=cells[j]:=by simp[K]
     rw[hv'];have h5:eR G ((cs[j]).sub θ) cells[j]:=by
      have e4:cells[0*size+j]'(by omega)=cells[j]:=by congr 1;omega
      simpa using this
     have:=N _ _ _ (E j R H) h5;simpa using this
    cases hd
   cases hd
  next id _=>
   have fin:∀rows:cu eX,(σ.sub θ).bF id=Z (qY (.rs rows))->(bX.rs rows).kl=Y->eR (G.frozen (σ.sub θ) w pl) (.mY (.rs rows)) u:=λrows m d=>by
    cases t with
    |mm _ p hp=>
    have hv:p.mX=U:=by
     rcases h.wY m hp with⟨_,_,_,J⟩|⟨J,_⟩
     .simp[qY]at J
     exact J
    let ⟨him,hw0,ents,D,Q,M⟩:=h.real m hp hv
    have n:(G.frozen (σ.sub θ) w pl).lo p.block=Z (.map ents (aa rows)):=by simp only[ca.frozen];rw[cr ⟨id,_,p,m,hp,hv,rfl⟩];exact D
    have hl:aa ents.toList=aa rows:=by have:ents.size=aa (nT 0 rows):=Q;rw[Bc]at this;simpa using this
    have B:=λi h1 h2=>by
     have h3:i<aa (nT 0 rows):=by rw[Bc];exact h1
     have S:=M i h3 (by simpa using h2);simp only[rowsOf]at S;rw[Ff _ _ _ h3 h1,bj]at S;simpa[NQ]using S
    refine .mY rows p.block ents.toList n hl (λi h1 h2=>⟨(B i h1 h2).1,(B i h1 h2).2.2⟩) (λi h1 h2=>?_);refine rr (λb o D=>tc h D) (B i h1 h2).2.1 ?_;have q:=rY d i h1;generalize rows[i]=r at q;unfold oW;split
    .exact q 1 (by simp)
    simp[bX.kl]
   split at hd
   next j ho=>
    cases hd;let ⟨es,hes⟩:=hy id j ho;rw[B4,vl,hes];have d:=(C j).kl;rw[hes]at d;exact fin es (by rw[bg.x3,ho];simp[c7.sub,hes]) d
   next ho=>
    cases hd;exact fin [] (by rw[bg.x3,ho];simp[c7.sub,qY,rowsOf,nT,rZ]) (by simp[bX.kl,sB])
   cases hd
  next f a c0 _=>
   split at hd
   next a' c' O hc'=>
    cases hd;let ⟨I,E⟩:=yA O;let ⟨g1,g2⟩:=yA hc';rw[QP]at t⊢;cases t with
    |fn _ _ _ fv cv h1 h2 h3 S=>
     refine .fn f _ _ fv cv (by simp at h1⊢;omega) (by simp at h2⊢;omega) (λi a7 g=>?_) (λi a7 g=>?_)
     .have s:i<aa a':=by simpa using a7
      have:=N _ _ fv[i] (E i (by omega) s) (by have:=h3 i (by simp;omega) g;simpa using this);simpa using this
     have s:i<aa c':=by simpa using a7
     have:=N _ _ cv[i] (g2 i (by omega) s) (by have:=S i (by simp;omega) g;simpa using this);simpa using this
   cases hd
  cases hd
variable {N:Nat}{P:Program}{Uq:cu Nat}{a:Nat}{b:ByteArray}{bb:Nat}{c:Code}{ex:tF}{f:FuncId}{i j:Nat}{kk:vC}{n n0:Nat}{ops:Array Oper}{rest:cu Nat}{t:TypeId}{u:Value}{v:bX}{w:World}{θ:Nat->bX}{ι:p5}{σ:bg}
def aS7(a:Fit θ)(h:MZ v=Y):nN (v.sub θ):=by unfold MZ at h;split at h;simp[nN];simp[nN];simp[nN];exact a _;rename_i es;exact Oo a es h;rename_i cs;exact vH a cs h;rename_i c;exact BB a c h;cases h
def EU.map{a b:cu eX}(h:EU ι (o8 θ a) (o8 θ b)):EU ι (a.map (cD (bX.sub θ))) (b.map (cD (bX.sub θ))):=by rw[<-vQ,<-vQ];exact h
def Nq{c:bX}(hf:nN c):p4 ι (qY c) (qY c):=by
 refine⟨rfl,rfl,rfl,λi a7 f=>⟨rfl,?_,rfl⟩⟩;intro G u g;have a:i<aa (rowsOf c):=by rw[Bc]at a7;exact a7
 refine rr (G:=G) (G':=G.oM ι) (λ_ _ h=>h) g ?_;rw[Ff _ _ _ a7 a];rcases hf.cases with⟨k,n,e⟩|⟨j,e⟩|⟨x,e⟩|⟨es,e⟩|⟨cs,e⟩|⟨c2,e⟩
 rotate_right
 simp[e,rowsOf]at a
 rotate_right
 simp[e,rowsOf]at a;simp[e,rowsOf]at a;simp[e,rowsOf]at a;simp[e,rowsOf]at a;subst e;have hp:=hf.kl;have d:=a;have b:=rY hp i d;show(oW (0+i) es[i]).2.1.kl=Y;generalize es[i]=r at b;unfold oW;split;exact b 1 (by simp);simp[bX.kl]
def ax2:∀ {a b:cu (Nat×TypeId×Nat)},Eb a b=Y->a=b
 | [],[],_=>rfl
 | [],_::_,h=>by simp[Eb]at h
 |_::_,[],h=>by simp[Eb]at h
 | (x,y,z)::az,(e,f,g)::fA,h=>by simp only[Eb,ab,cy]at h;let ⟨⟨⟨h1,h2⟩,c⟩,d⟩:=h;rw[h1,h2,c,ax2 d]
def Sd{a b:bX}(h:ID a b=Y):a.sub θ=b.sub θ:=by unfold ID at h;split at h;rw[ae h];rw[pK h];cases h
def aN5(f:Fit θ){b7:Bool}(K:b7=Y->∀i,i<tY->ι i=Z (Z i)){o o':c7}(h:rF b7 ι o o'=Y):p4 ι (o.sub θ) (o'.sub θ):=by
 cases o with
 |row e z es=>
  cases o' with
  |row Q R C =>simp only[rF,ab]at h;have h2:=(QE f es C h.2).map;exact⟨ae h.1.1,ae h.1.2,h2.1,h2.2⟩
  |_=>simp[rF]at h
 |fN e z i=>
  cases o' with
  |fN Q R i' =>
   simp only[rF,ab]at h;have H:=ae h.2;subst H;refine⟨ae h.1.1,ae h.1.2,rfl,λa ha M=>⟨rfl,λb I N=>?_⟩⟩;intro G u r;have hf:=f i;rcases hf.cases with⟨k,n,e⟩|⟨b',e⟩|⟨x,e⟩|⟨es,e⟩|⟨cs,e⟩|⟨c2,e⟩
   rotate_right
   .simp[e,rowsOf]at ha
   rotate_right
   .simp[e,rowsOf]at ha
   .simp[e,rowsOf]at ha
   .simp[e,rowsOf]at ha
   .simp[e,rowsOf]at ha
   have hp:=hf.kl;rw[e]at hp;simp only[e]at r⊢;exact rr (G:=G) (G':=G.oM ι) (λ_ _ O=>O) r (rY hp a (by simpa[e,rowsOf]using ha) b (by simpa[e,rowsOf]using I))
  |_=>simp[rF]at h
 |nC c=>
  cases o' with
  |nC S =>
   simp only[rF]at h;split at h
   next i j=>
    have H:=ae h;subst H;exact Nq (f i)
   .exact Nq (c:=.rs []) (by simp[nN,bX.kl,sB])
   cases h
  |map agg es clock=>
   by_cases hc:c=.rs []/\agg=U/\es=[]
   .obtain⟨rfl,rfl,rfl⟩:=hc
    simp only[rF]at h;rw[cy]at h;subst h;exact Nq (c:=.rs []) (by simp[nN,bX.kl,sB])
   exfalso;unfold rF at h;split at h
   next l t=>cases l
   next l t=>cases l
   next l t=>cases l
   next l t=>cases t
   next l t=>cases l;cases t;exact hc ⟨rfl,rfl,rfl⟩
   next l t=>cases l
   next l t=>cases l
   cases h
  |_=>simp[rF]at h
 |map agg es c=>
  cases o' with
  |map agg' C S =>
   simp only[rF,ab]at h;let ⟨⟨⟨h1,h2⟩,H⟩,h4⟩:=h;have hl:=ae H;refine⟨by simpa using h1,ae h2,by simpa using hl,λi a7 hi'=>?_⟩;have hi1:i<aa es:=by simpa using a7
   have hm:=aj.1 h4 (es[i],C[i]) (by
    rw[List.mem_iff_getElem];exact⟨i,by simp;omega,by simp⟩)
   simp only[ab,kA]at hm;simp only[cK];exact⟨hm.1.1,Qf f _ _ hm.1.2,ae hm.2⟩
  |_=>simp[rF]at h
 |nH e z c d k off v=>
  cases o' with
  |nH Q R S P k' off' v' =>
   cases v with
   |some v0=>simp[rF]at h
   |none=>
   cases v' with
   |some v0=>simp[rF]at h
   |none=>
   simp only[rF,ab]at h;let ⟨⟨⟨⟨hl,h1⟩,h2⟩,hc⟩,D⟩:=h;have h1:=ae h1;have h2:=ae h2;subst h1;subst h2;obtain⟨i,rfl,rfl⟩:=KT hc;have:=ax2 D;subst this;have hid:=K hl;refine⟨rfl,rfl,rfl,λa ha M=>⟨rfl,λb I N=>?_⟩⟩;intro G u r;simp only[d_,ur,vl]at r ha I⊢;have g:a<aa (rowsOf (θ i)):=by rw[zw]at ha;exact ha
   obtain⟨es,hes⟩:∃es,θ i=.rs es:=by
    rcases(f i).cases with⟨_,_,e⟩|⟨_,e⟩|⟨_,e⟩|⟨es,e⟩|⟨_,e⟩|⟨_,e⟩
    .simp[e,rowsOf]at g
    .simp[e,rowsOf]at g
    .simp[e,rowsOf]at g
    .exact⟨es,e⟩
    .simp[e,rowsOf]at g
    simp[e,rowsOf]at g
   have hp:=(f i).kl;rw[hes]at hp;have w:a<aa es:=by simpa[hes,rowsOf]using g
   have B:(pd d 0 (rowsOf (θ i)))[a]=tj d a 0 es[a]:=by have:=wy d (rowsOf (θ i)) 0 a;rw[af ha]at this;simp only[hes,rowsOf,af w]at this;simpa[hes,rowsOf]using this
   have J:b<es[a].length:=by have:=I;simp only[B,ym]at this;exact this
   have E:(pd d 0 (rowsOf (θ i)))[a][b]=wO d a b es[a][b]:=by
    have:=xz d a es[a] 0 b;rw[af J,ai,bj]at this;have h2:(pd d 0 (rowsOf (θ i)))[a][b]?=Z (wO d a b es[a][b]):=by rw[B];exact this
    rw[af I]at h2;simpa using h2
   rw[E]at r⊢;unfold wO at r⊢;split at r
   next q hq=>
    have a7:=hid _ (xQ a b);generalize aa (rowsOf es[a][b])=ln at r⊢;cases r with
    |ms _ _ _ _ p hp hv hz ad cp hA ho hl hsp=>exact .ms _ _ 0 _ p (by simp only[ca.oM,a7];exact hp) hv hz ad cp hA ho hl hsp
    |oh _ _ p hp hv=>exact .oh _ _ p (by simp only[ca.oM,a7];exact hp) hv
   rename_i hq;exact rr (G:=G) (G':=G.oM ι) (λ_ _ O=>O) r (rY hp a w b J)
  |_=>simp[rF]at h
 |qO a b=>cases o'<;>simp[rF]at h
 |qh s p=>
  cases o' with
  |qh s' p' =>simp only[rF,ab]at h;simp only[c7.sub,Sd h.1,Sd h.2];exact⟨rfl,rfl⟩
  |_=>simp[rF]at h
 |tq m a b c=>cases o'<;>simp[rF]at h
def V7{c:Nat->bX}{s:bl}:∀ {l:eX} {t0:Nat},Ju ι c s l t0=Y->∀i (h:i<aa l),n_ ι ((l[i]).mU c) (s.get (t0+i))=Y
 | [],_,_,i,h=>by simp at h
 |a::az,t0,b,i,h=>by simp only[Ju,ab]at b;cases i;exact b.1;rename_i i;have:=V7 b.2 i (by simpa using h);simpa[fK,jD 1 i]using this
def aE1:∀ {l:cu (Nat×c7)},Jg ι l=Y->∀p∈l,∀q∈l,∀k,ι p.1=Z (Z k)->ι q.1=Z (Z k)->p.1=q.1
 | [],_,p,hp,_,_,_,_,_=>by cases hp
 |a::l,h,p,hp,q,g,k,h1,h2=>by
  simp only[Jg,ab]at h;have key:∀r∈l,ι a.1=Z (Z k)->ι r.1=Z (Z k)->a.1=r.1:=λr i e c=>by
   have:=aj.1 h.1 r i;rw[e]at this;simp only[bx]at this;rcases this with f|f
   exact(ae f).symm;simp[xD,c]at f
  rcases aG.1 hp with e|d
  rcases aG.1 g with c|b
  rw[e,c];rw[e]at h1⊢;exact key q b h1 h2;rcases aG.1 g with c|b
  rw[c]at h2⊢;exact(key p d h2 h1).symm;exact aE1 h.2 p d q b k h1 h2
def VV(a:Acc):∀(k l:Nat),aa (Ae a l k)=k
 | 0,_=>rfl
 |k+1,l=>by simp[Ae,VV a k]
def Hint.ap9(h:Hint)(t:Nat):h.state.get t=(h.wc[t]?).getD (.b4 undef):=bl.MV _ _ _ _
def IJ(c:Fit θ){l:Nat}{h:Hint}{s:bl}{j9:eX}(hm:DD n l h s=Z j9) :
  aa j9=h.k/\(∀v∈j9,nN (v.sub θ))/\Fit (λi=>(qC l j9 i).sub θ)/\∃ι,Ren ι n (h.state.sub (λi=>(qC l j9 i).sub θ)) (s.sub θ):=by
 unfold DD at hm;simp only at hm;split at hm;rename_i hc;cases hm;generalize D:VC s n l h=acc at *;generalize E:acc.io.filter (dI n ·.1)=io at *;simp only[ab]at hc;obtain⟨⟨⟨⟨⟨⟨c1,c2⟩,G⟩,H⟩,I⟩,J⟩,K⟩:=hc;have r:=ae c2;have u:=a_ G;have g:=λv hv=>aS7 c (aj.1 c1 v hv);refine⟨VV _ _ _,g,λi=>?_,DO n io,?_⟩;show nN ((qC l (Ae acc l h.k) i).sub θ);unfold qC;split;cases m:(Ae acc l h.k)[i-l]? with
 |none=>simpa using c i
 |some v=>exact g v (aH m)
 simpa using c i;have d:∀i o,(h.state.sub (λi=>(qC l (Ae acc l h.k) i).sub θ)).st.bF i=Z o->∃o0,(i,o0)∈h.bF/\o=(o0.mU (qC l (Ae acc l h.k))).sub θ:=λi o ho=>by
  rw[bl.ua,bg.x3]at ho;cases m:h.state.st.bF i with
  |none=>rw[m]at ho;cases ho
  |some o0=>
   rw[m]at ho;simp only[ai,ah]at ho;refine⟨o0,?_,by rw[c7.tA];exact ho.symm⟩;rcases ef.JU h.bF .leaf i o0 m with h1|h1
   exact h1;cases h1
 have w:=λi k hk=>by
  have aux:∀(L:cu (Nat×dv Nat)),L.all (λp=>dI n p.1&&cL p.1 h.next)=Y->GW L i=Z k->n<=i/\i<h.next:=by
   intro L
   induction L with
   |nil=>intro _ q;simp[GW]at q
   |cons a L M =>intro b q;simp only[bE,ab]at b;unfold GW at q;split at q;rename_i he;have:=ae he;subst this;exact⟨a_ b.1.1,by simpa using b.1.2⟩;exact M (by simpa using b.2) q
  exact aux io H hk
 refine⟨r,λi a7=>?_,λi k hk=>?_,u,λi j k oi oj h1 h2 N O=>?_,λt x=>?_,λt x=>?_,λi o ho=>?_⟩;have:cL i n=Y:=by rw[bP];exact a7
 simp only[DO,this];show i<h.next;simp only[DO]at hk;split at hk;rename_i P;rw[bP]at P;omega;exact(w i k hk).2;let ⟨o1,m1,_⟩:=d i oi N;let ⟨o2,m2,_⟩:=d j oj O;exact aE1 K _ m1 _ m2 k h1 h2;have f:t<aa h.wc:=by rw[r];exact x
 have:=V7 I t f;rw[bj]at this;rw[bl.tB,bl.tB,Hint.ap9,af f,bM,<-tA];exact Qf c _ _ this;have f:aa h.wc<=t:=by rw[r];exact x
 rw[bl.tB,Hint.ap9,List.getElem?_eq_none f];simp;obtain⟨o0,m0,rfl⟩:=d i o ho;have:=aj.1 J (i,o0) m0;simp only[TU]at this;split at this;rename_i k hk;split at this;rename_i o' B;exact .inl ⟨k,o'.sub θ,hk,by rw[bl.ua,bg.x3,B];rfl,aN5 c (λC i a7=>by
  have Q:=a_ C;have:cL i n=Y:=by rw[bP];omega
  simp only[DO,this]) this⟩
 cases this;rename_i hk;refine .inr ⟨hk,?_⟩;unfold ar0 at this;split at this;rename_i e z he;exact⟨e,z,by rw[he];simp[c7.sub]⟩;cases this;cases this;cases hm
def ax8(f:bX->bX):∀(l:eX) (i:Nat) (t:ef bX),(zk l i t).map f=zk (l.map f) i (t.map f)
 | [],i,t=>rfl
 |v::l,i,t=>by simp only[zk];rw[ax8 f l,ef.map_set];rfl
def FP(θ:Nat->bX)(n:Nat)(args:eX)(σ:bg):(bl.enter n args σ).sub θ=bl.enter n (args.map (bX.sub θ)) (σ.sub θ):=by simp only[bl.sub,bl.enter,ax8];rfl
def cd8{T:bY}{s:bl}{r:ResultVar}(h:y3 T s r=Z v):y3 T (s.sub θ) r=Z (v.sub θ):=by
 cases r with
 |tmp t=>simp only[y3,ah]at h⊢;rw[bl.tB,h]
 |cell a t=>simp only[y3]at h⊢;rw[bl.tB];exact NN h
def Oa{T:bY}{s:bl}:∀ {rs:cu ResultVar} {l:eX},uI T s rs=Z l->uI T (s.sub θ) rs=Z (l.map (bX.sub θ))
 | [],l,h=>by simp only[uI,ah]at h;subst h;rfl
 |r::rs,l,h=>by unfold uI at h;split at h;rename_i v a h1 h2;cases h;simp only[uI,cd8 h1,Oa h2];rfl;cases h
def Db{T:bY}{fn:Func}{s:bl}(h:pc T fn s=Z v):pc T fn (s.sub θ)=Z (v.sub θ):=by unfold pc at h;split at h;rename_i u hu;cases h;simp[pc,Oa hu];rename_i l a hl;cases h;simp only[pc,Oa hl];split;rename_i u e;simp only[ah]at e;have hlen:=Ar aa e;simp only[aI]at hlen;obtain⟨x,rfl⟩:=List.length_eq_one_iff.1 hlen;exact b8 rfl (a x);rename_i b _ e;simp only[ah]at e;subst e;simp;rename_i e;cases e;cases h
def Bv:∀ {t:ef c7} {k:Nat} {e:TypeId} {z j:Nat},t.get k=Z (.fN e z j)->j∈pZ t
 | .leaf,k,e,z,j,h=>by rw[ef.uF]at h;cases h
 | .node v l r,0,e,z,j,h=>by simp only[ef.get]at h;subst h;simp[pZ]
 | .node v l r,k+1,e,z,j,h=>by simp only[ef.get]at h;simp only[pZ,aV];split at h;exact .inr (.inl (Bv h));exact .inr (.inr (Bv h))
def Bo:∀ {t:ef c7} {k:Nat} {j:Nat},t.get k=Z (.nC (.ey j))->j∈pZ t
 | .leaf,k,j,h=>by rw[ef.uF]at h;cases h
 | .node v l r,0,j,h=>by simp only[ef.get]at h;subst h;simp[pZ]
 | .node v l r,k+1,j,h=>by simp only[ef.get]at h;simp only[pZ,aV];split at h;exact .inr (.inl (Bo h));exact .inr (.inr (Bo h))
mutual
theorem AA{θ:Nat->bX}{id j bb:Nat}(hl:aa (rowsOf (θ bb))=aa (rowsOf (θ j))):∀v:bX,(v.oE id j bb).sub θ=v.sub θ
 | .c8 a z i=>by simp only[bX.oE];split;rename_i h;simp only[ab,cy]at h;obtain⟨rfl,rfl⟩:=h;simp only[rA,hl];rfl
 | .rs es=>by simp only[bX.oE,bX.sub];rw[Ob hl es]
 | .fT cs=>by simp only[bX.oE,bX.sub];rw[Bx hl cs]
 | .fn f a c=>by simp only[bX.oE,bX.sub];rw[Bx hl a,Bx hl c]
 | .agg cs=>by simp only[bX.oE,bX.sub];rw[Bx hl cs]
 | .ed cs=>by simp only[bX.oE,bX.sub];rw[Bx hl cs]
 | .any=>rfl
 | .b4 _=>rfl
 | .ms _ _ _ _=>rfl
 | .mp _ _ _=>rfl
 | .mm _=>rfl
 | .it _=>rfl
 | .ey _=>rfl
 | .l3 _ _ _=>rfl
 | .mY _=>rfl
theorem Bx{θ:Nat->bX}{id j bb:Nat}(hl:aa (rowsOf (θ bb))=aa (rowsOf (θ j))):∀l:eX,ni θ (y0 id j bb l)=ni θ l
 | []=>rfl
 |c::cs=>by simp only[y0,ni];rw[AA hl c,Bx hl cs]
theorem Ob{θ:Nat->bX}{id j bb:Nat}(hl:aa (rowsOf (θ bb))=aa (rowsOf (θ j))):∀l:cu eX,o8 θ (G1 id j bb l)=o8 θ l
 | []=>rfl
 |c::cs=>by simp only[G1,o8];rw[Bx hl c,Ob hl cs]
end
def c7.AA{id:Nat}(hl:aa (rowsOf (θ bb))=aa (rowsOf (θ j)))(o:c7):(o.oE id j bb).sub θ=o.sub θ:=by
 cases o with
 |row e z es=>simp only[c7.oE,c7.sub,<-vQ];rw[Ob hl]
 |map agg es c =>simp only[c7.oE,c7.sub,de];congr 1;simp[Go.Ab.AA hl]
 |_=>rfl
variable {o:c7}
def bl.AA{id:Nat}(hl:aa (rowsOf (θ bb))=aa (rowsOf (θ j)))(s:bl):(s.oE id j bb).sub θ=s.sub θ:=by simp only[bl.oE,bl.sub,bg.sub,ef.map_map];have h1:(λx=>bX.sub θ (bX.oE id j bb x))=bX.sub θ:=funext λx=>Go.Ab.AA hl x;have h2:(λx=>c7.sub θ (c7.oE id j bb x))=c7.sub θ:=funext λx=>c7.AA hl x;rw[h1,h2]
variable {Q':Exit->bl->Prop}{Qs:bl->Prop}{s s':bl}
def ca6{T:bY}{σ1 b:bg}{id:Nat}{e:TypeId}{z:Nat}{es:cu eX}(h1:σ1.bF a=Z (.row e z es))(h2:σ.bF id=Z (.row e z es))(h:sq T σ1 t (.mp a i j) v=Z b) :
  ∃c,b.bF a=Z (.row e z c)/\sq T σ t (.mp id i j) v=Z (σ.set id (.row e z c)):=by
 unfold sq at h⊢;split at h;rename_i id' k l vs ti d f g;cases d;simp only[h1]at h;simp only[f,g,h2];split at h;split at h;rename_i hc;cases h;rw[cr hc];exact⟨_,by simp[bg.x9],rfl⟩;cases h;cases h;cases h
def cb2{T:bY}{Φ:lv}{b:Nat->bX}(ha:∀i,i<bb->b i=θ i)(d:s.ff bb=Y){op:Op}{ro:nU}(h:Q5 s op bb=Z (ro,s'))(he:iv T Φ θ ro=Z (bX.sub b (.ey bb))) :
  ∃c,(∀id,fb T (s.sub b).eval (s.st.sub b) id op=Z (.b4 undef,c))/\s'.sub b={ s.sub b with st:=c }:=by
 unfold Q5 at h;split at h;rename_i t a x;split at h;rename_i id i off hp;split at h;rename_i e z j ho;cases h;let ⟨l,hj⟩:=PG (θ:=θ) ha d ho;have m:=K1 (θ:=θ) ha d (s.sm d a) hp;simp only[iv,vl]at he;split at he;rename_i σ1 f;have n:(tW e z (θ j)).bF 0=Z (.row e z (rowsOf (θ j))):=by simp[tW,bg.x9]
 let ⟨g,g1,g2⟩:=ca6 n l f;rw[g1]at he;simp only at he;split at he;rename_i hlen;simp only[ah]at he;have hlen:=ae hlen;have hl:aa (rowsOf (b bb))=aa (rowsOf (b j)):=by rw[<-he,ha j hj];exact hlen
 refine⟨(s.st.sub b).set id (.row e z g),λid0=>?_,?_⟩;simp only[fb,bl.sub_eval,m,nL ha _ (s.sm d x),g2];have k:=bl.AA (id:=id) (j:=j) (bb:=bb) hl s;have o:({ s.oE id j bb with st:=(s.oE id j bb).st.set id (.fN e z bb) }:bl).sub b={ (s.oE id j bb).sub b with st:=((s.oE id j bb).st.set id (.fN e z bb)).sub b }:=rfl;rw[o,bg.pQ];have p:(s.oE id j bb).st.sub b=s.st.sub b:=Ar bl.st k;rw[p,k];simp only[c7.sub,<-he,rowsOf];cases he;cases he;cases h;cases h;cases h
def Ns{id:Nat}(i:Nat):(nD σ id o).bF i=if i=id then Z o else W:=by unfold nD;rw[bg.x9];split;rfl;exact ef.uF i
def af9(θ:Nat->bX)(σ:bg)(id:Nat)(o:c7):(nD σ id o).sub θ=nD (σ.sub θ) id (o.sub θ):=by unfold nD;rw[bg.pQ];rfl
def Rw{G:ca}(h:Rel G σ w){id:Nat}(ho:σ.bF id=Z o):Rel G (nD σ id o) w :=h.less rfl λi x a=>by rw[Ns]at a;split at a;rename_i e;subst e;cases a;exact ho;cases a
noncomputable abbrev ca.vd(G:ca)(σ:bg)(w:World)(id:Nat)(o:c7):ca:=G.frozen (nD σ id o) w G.pl
variable {G:ca}
def u6(h:Rel G σ w){id:Nat}(ho:σ.bF id=Z o):G.le (G.vd σ w id o) :=⟨rfl,λ_ _ a=>tc (Rw h ho) a,λ_ _ hp=>hp⟩
def bT4{id:Nat}{b:Nat}(h:Live G (nD σ id o) b):∃p,G.pl id=Z p/\p.mX=U/\p.block=b:=by let ⟨i,x,p,h1,h2,a,c⟩:=h;rw[Ns]at h1;split at h1;rename_i e;subst e;exact⟨p,h2,a,c⟩;cases h1
def aJ0{a:Act}(B:zc G s a w){id:Nat}(ho:s.st.bF id=Z o)(M:s'.n=s.n)(K:s'.st.next=s.st.next)
  (d:∀i x,s'.st.bF i=Z x->i≠id/\∃y,s.st.bF i=Z y/\(∀p m,oq G p y m->oq (G.vd s.st w id o) p x m)/\((∃e z,y=.row e z [])->∃e z,x=.row e z []))
  (g:∀t u,eR G (s.get t) u->eR (G.vd s.st w id o) (s'.get t) u)  (D:n<=s.st.next):zc (G.vd s.st w id o) s' a w/\ou n G s.st w (G.vd s.st w id o) s'.st w:=by
 have c:=B.rel;have l:=Rw c ho;have himm:∀b x,(G.vd s.st w id o).lo b=Z x->(∃p,G.pl id=Z p/\p.mX=U/\p.block=b/\w.heap[b]?=Z x)\/G.lo b=Z x:=λb x f=>by simp only[ ca.frozen]at f;split at f;rename_i hl;let ⟨p,h1,h2,k⟩:=bT4 hl;exact .inl ⟨p,h1,h2,k,f⟩;exact .inr f
 refine⟨⟨B.defers,by rw[M];exact B.size,λt=>g t _ (B.tmps t),?_⟩,?_⟩;refine⟨c.os,c.tape,c.output,c.size,λb x f=>?_,by rw[K];exact c.fresh,λi x a7=>?_,λi j oi oj pi pj h1 h2 k N v1 v2 O=>?_,λb o' v hv=>Nr l (c.qE b o' v hv)⟩;rcases himm b x f with⟨p,_,_,_,h⟩|h
 exact h;exact c.lo b x h;let ⟨E,y,C,H,r⟩:=d i x a7;let ⟨p,hp,hl⟩:=c.bF i y C;refine⟨p,hp,?_⟩;rcases hl with⟨hv,e,z,rfl⟩|⟨hv,l2,x8,pG⟩
 exact .inl ⟨hv,r ⟨e,z,rfl⟩⟩;refine .inr ⟨hv,?_,x8,H p _ pG⟩;cases f:(G.vd s.st w id o).lo p.block with
 |none=>rfl
 |some q=>
  rcases himm _ _ f with⟨P,h1,h2,k,_⟩|h
  exact b8 (c.sep i id y o p P C ho hp h1 hv h2 k.symm) E;rw[l2]at h;cases h
 let ⟨_,Q,I,_⟩:=d i oi h1;let ⟨_,R,J,_⟩:=d j oj h2;exact c.sep i j Q R pi pj I J k N v1 v2 O;refine⟨rfl,λb x f=>tc l f,λ_ _=>rfl,by rw[K];exact D,⟨ay _,λ_ _ _=>rfl,λi x p h1 h2 k _=>?_,λb x f=>?_,ay _⟩⟩;let ⟨_,y,C,_⟩:=d i x h1;exact⟨i,y,p,C,h2,k,rfl⟩;rcases himm b x f with⟨p,h1,h2,k,_⟩|h
 exact .inr (.inr ⟨id,o,p,ho,h1,h2,k⟩);exact .inl h
section
variable {θ:Nat->bX} (hθ:Fit θ) {G:ca} {σ:bg} {w:World} {id:Nat} {o:c7} (h:Rel G (σ.sub θ) w) (ho:σ.bF id=Z o) (hxv:∀j,j∈pZ (nD σ id o).mZ->∃es,θ j=.rs es)
include hθ h ho hxv in
theorem Ou(v c:bX)(u:Value)(hc:pX (nD σ id o) 3 v=Z c)(a:eR G (v.sub θ) u):eR (G.vd (σ.sub θ) w id (o.sub θ)) (c.sub θ) u:=by
 have h1:Rel G ((nD σ id o).sub θ) w:=by rw[af9];exact Rw h (by rw[bg.x3,ho];rfl)
 have:=DA hθ h1 G.pl (λi e z j a7=>hxv j (Bv a7)) (λi j a7=>hxv j (Bo a7)) 3 v c u hc a;rw[af9]at this;exact this
include hθ h ho hxv
mutual
theorem QY:∀(v:bX) (u:Value),eR G (v.sub θ) u->eR (G.vd (σ.sub θ) w id (o.sub θ)) ((v.nS (nD σ id o)).sub θ) u
 | .agg cs,u,b=>by
  simp only[bX.nS,bX.sub]at b⊢;cases b with
  |agg _ vs h1 h2 =>have:=F6 cs vs ⟨h1,h2⟩;exact .agg _ vs this.1 this.2
 | .ed cs,u,b=>by
  simp only[bX.nS,bX.sub]at b⊢;cases b with
  |ed _ vs h1 h2 =>have:=F6 cs vs ⟨h1,h2⟩;exact .ed _ vs this.1 this.2
 | .fn f a c,u,b=>by
  simp only[bX.nS,bX.sub]at b⊢;cases b with
  |fn _ _ _ fv cv h1 h2 g k =>have d:=F6 a fv ⟨h1,g⟩;have e:=F6 c cv ⟨h2,k⟩;exact .fn _ _ _ fv cv d.1 e.1 d.2 e.2
 | .c8 a z i,u,b=>by
  simp only[bX.nS];cases hc:pX (nD σ id o) 3 (.c8 a z i)with
  |some c=>simp only[bM];exact Ou hθ h ho hxv _ _ _ hc b
  |none=>exact b.mono (u6 h (by rw[bg.x3,ho];rfl))
 | .ms a z i j,u,b=>by
  simp only[bX.nS];cases hc:pX (nD σ id o) 3 (.ms a z i j)with
  |some c=>simp only[bM];exact Ou hθ h ho hxv _ _ _ hc b
  |none=>exact b.mono (u6 h (by rw[bg.x3,ho];rfl))
 | .mp a i j,u,b=>by
  simp only[bX.nS];cases hc:pX (nD σ id o) 3 (.mp a i j)with
  |some c=>simp only[bM];exact Ou hθ h ho hxv _ _ _ hc b
  |none=>exact b.mono (u6 h (by rw[bg.x3,ho];rfl))
 | .any,u,b=>by simp only[bX.nS];exact b.mono (u6 h (by rw[bg.x3,ho];rfl))
 | .b4 _,u,b=>by simp only[bX.nS];exact b.mono (u6 h (by rw[bg.x3,ho];rfl))
 | .rs _,u,b=>by simp only[bX.nS];exact b.mono (u6 h (by rw[bg.x3,ho];rfl))
 | .fT _,u,b=>by simp only[bX.nS];exact b.mono (u6 h (by rw[bg.x3,ho];rfl))
 | .mm _,u,b=>by simp only[bX.nS];exact b.mono (u6 h (by rw[bg.x3,ho];rfl))
 | .it _,u,b=>by simp only[bX.nS];exact b.mono (u6 h (by rw[bg.x3,ho];rfl))
 | .ey _,u,b=>by simp only[bX.nS];exact b.mono (u6 h (by rw[bg.x3,ho];rfl))
 | .l3 _ _ _,u,b=>by simp only[bX.nS];exact b.mono (u6 h (by rw[bg.x3,ho];rfl))
 | .mY _,u,b=>by simp only[bX.nS];exact b.mono (u6 h (by rw[bg.x3,ho];rfl))
theorem F6:∀(l:eX) (us:cu Value),hE G (ni θ l) us->hE (G.vd (σ.sub θ) w id (o.sub θ)) (ni θ (sb (nD σ id o) l)) us
 | [],us,a=>by simp only[sb,ni]at a⊢;rw[a.tr];exact hE.nil _
 |c::cs,us,a=>by simp only[sb,ni]at a⊢;obtain⟨v,vs,rfl,h1,h2⟩:=a.cons_inv;exact(F6 cs vs h2).cons (QY c v h1)
end
theorem ce2(y:c7)(p:nt)(f:dv Obj)(hk:oq G p (y.sub θ) f):oq (G.vd (σ.sub θ) w id (o.sub θ)) p ((y.nS (nD σ id o)).sub θ) f:=by
 have hle:=u6 h (by rw[bg.x3,ho];rfl);cases y with
 |row e z es=>
  let ⟨cs,h1,h2,B,C,D⟩:=hk;refine⟨cs,h1,h2,B,by simpa using C,λi a7=>?_⟩;have n:i<aa es:=by simpa using a7
  have q:i<aa (es.map (cD (bX.sub θ))):=by simpa using n
  let ⟨g1,g2⟩:=D i q;have E:(es.map (cD (bX.sub θ)))[i]=ni θ es[i]:=by simp[pT]
  have x:((es.map (sb (nD σ id o))).map (cD (bX.sub θ)))[i]=ni θ (sb (nD σ id o) es[i]):=by simp[pT]
  have g:∀l:eX,aa (sb (nD σ id o) l)=aa l:=λl=>by
   induction l with
   |nil=>rfl
   |cons c cs r=>simp[sb,r]
  have hlen:aa (ni θ (sb (nD σ id o) es[i]))=es[i].length:=by rw[pT,aI,g]
  refine⟨by rw[x,hlen];rw[E,pT,aI]at g1;exact g1,λj hj t=>?_⟩;have d:j<es[i].length:=by rw[x,hlen]at hj;exact hj
  have u:j<(es.map (cD (bX.sub θ)))[i].length:=by simpa using d
  have g3:=g2 j u t;have H:(es.map (cD (bX.sub θ)))[i][j]=(es[i][j]).sub θ:=by simp
  have v:j<aa (sb (nD σ id o) es[i]):=by rw[g];exact d
  have I:∀(l:eX) (j:Nat) (hj:j<aa l) (k:j<aa (sb (nD σ id o) l)),(sb (nD σ id o) l)[j]=(l[j]).nS (nD σ id o):=λl=>by
   induction l with
   |nil=>intro j hj;simp at hj
   |cons c cs r =>intro j hj k;cases j;rfl;rename_i j;exact r j (by simpa using hj) (by simpa[sb]using k)
  have J:((es.map (sb (nD σ id o))).map (cD (bX.sub θ)))[i][j]=((es[i][j]).nS (nD σ id o)).sub θ:=by simp[I es[i] j d v]
  rw[J];rw[H]at g3;exact QY hθ h ho hxv _ _ g3
 |map agg es c=>exact oq.mono hle hk
 |qO s pos=>exact oq.mono hle hk
 |tq m a b c=>exact oq.mono hle hk
 |fN e z i=>exact oq.mono hle hk
 |nC c=>exact oq.mono hle hk
 |nH=>exact oq.mono hle hk
 |qh s p=>exact oq.mono hle hk
end
def bl.bj5(σ1:bg)(id:Nat)(s:bl)(t:Nat):(s.nS σ1 id).get t=(s.get t).nS σ1:=by simp only[bl.get,bl.nS,ef.sY];cases s.mZ.get t<;>simp[bX.nS]
def bl.bj6(σ1:bg)(id:Nat)(s:bl)(i:Nat):(s.nS σ1 id).st.bF i=if i=id then W else(s.st.bF i).map (c7.nS σ1):=by
 show((s.st.del id).mZ.map (c7.nS σ1)).get i=_;rw[ef.sY];have:(s.st.del id).mZ.get i=if i=id then W else s.st.bF i:=bg.rK s.st id i
 rw[this];split<;>rfl
def av2(b:Fit θ){id:Nat}(ho:s.st.bF id=Z o)(d:∀j,j∈pZ (nD s.st id o).mZ->∃es,θ j=.rs es){a:Act}(f:zc G (s.sub θ) a w)(g:n<=s.st.next) :
  zc (G.vd (s.st.sub θ) w id (o.sub θ)) ((s.nS (nD s.st id o) id).sub θ) a w/\ou n G (s.sub θ).st w (G.vd (s.st.sub θ) w id (o.sub θ)) ((s.nS (nD s.st id o) id).sub θ).st w:=by
 have h:(s.sub θ).st.bF id=Z (o.sub θ):=by rw[bl.ua,bg.x3,ho];rfl
 exact aJ0 (s':=(s.nS (nD s.st id o) id).sub θ) f h rfl rfl (λi x a7=>by
   rw[bl.ua,bg.x3,bl.bj6]at a7;split at a7;cases a7;rename_i l;cases m:s.st.bF i with
   |none=>rw[m]at a7;cases a7
   |some y=>
    rw[m]at a7;cases a7;refine⟨l,y.sub θ,by rw[bl.ua,bg.x3,m];rfl,λp q hk=>ce2 b f.rel ho d y p q hk,?_⟩;rintro ⟨e,z,he⟩;cases y with
    |row r B es=>
     simp only[c7.sub,c7.row.injEq]at he;have:es=[]:=by simpa using he.2.2
     subst this;exact⟨r,B,by simp[c7.nS,c7.sub]⟩
    |fN r B j=>exact⟨e,z,by simp only[c7.nS];exact he⟩
    |nH r B c ck k off v=>exact⟨e,z,by simp only[c7.nS];exact he⟩
    |_=> first| (cases he;done)| (split at he<;>cases he))
  (λt u hu=>by
   rw[bl.tB]at hu⊢;rw[bl.bj5];exact QY b f.rel ho d _ _ hu) g
def j5.freeze{Q:Exit->bl->Prop}(b:Fit θ){id:Nat}(ho:s.st.bF id=Z o)(d:∀j,j∈pZ (nD s.st id o).mZ->∃es,θ j=.rs es)
  (h:j5 P n c Q ((s.nS (nD s.st id o) id).sub θ)):j5 P n c Q (s.sub θ):=by
 intro f G a w g;let ⟨h1,h2⟩:=av2 b ho d g (n:=n) f;refine wp_mono (h f _ a w h1) ?_;rintro e p w' ⟨s2,i,k,l,m⟩;exact⟨s2,i,h2.trans k (ay _),l,m⟩
def nn.freeze{l:cu Nat}(b:Fit θ){id:Nat}(ho:s.st.bF id=Z o)(c:∀j,j∈pZ (nD s.st id o).mZ->∃es,θ j=.rs es)
  (h:nn P ops n0 n Qs l ((s.nS (nD s.st id o) id).sub θ)):nn P ops n0 n Qs l (s.sub θ):=by
 intro G a w f hf g d;let ⟨h1,h2⟩:=av2 b ho c f (n:=n) (by have:(s.sub θ).st.next=s.st.next:=rfl;omega);have:=h _ a w h1 (hf · ·) g d;refine sh ?_ _ _ _ this;rintro e r w' ⟨i,s2,k,m,p,q⟩;exact⟨i,s2,k,h2.trans m (ay _),p,q⟩
def W1(h:s.ff bb=Y){x:c7}(e:s.st.bF a=Z x){f:Nat->bX}(p:∀i,i<bb->f i=θ i)
  (d:((pZ (nD s.st a x).mZ).all λj=>match θ j with| .rs _=>Y|_=>U)=Y):∀j,j∈pZ (nD s.st a x).mZ->∃es,f j=.rs es:=λj hj=>by
 have g:=aj.1 d j hj;have k:j<bb:=by
  have q:=s.uw h e;have hm:∀i,(nD s.st a x).mZ.get i=if i=a then Z x else W:=λi=>Ns i
  have key:∀(t:ef c7),(∀i y,t.get i=Z y->y.ff bb=Y)->j∈pZ t->j<bb:=by
   intro t
   induction t with
   |leaf=>intro _ hm;simp[pZ]at hm
   |node v l r m n=>
    intro b hm;simp only[pZ,aV]at hm;rcases hm with hm|hm|hm
    have o:=b 0;split at hm;have:=o _ rfl;simp only[bz]at hm;subst hm;simpa[c7.ff]using this;have:=o _ rfl;simp only[bz]at hm;subst hm;simpa[c7.ff,bX.ff]using this;simp at hm;exact m (λi y c=>b (2*i+1) y (by simp only[ef.get];rw[show 2*i%2=0 by omega,show 2*i / 2=i by omega];exact c)) hm;exact n (λi y c=>b (2*i+1+1) y (by simp only[ef.get];rw[show(2*i+1)%2=1 by omega,show(2*i+1) / 2=i by omega];exact c)) hm
  refine key _ (λi y c=>?_) hj;rw[hm]at c;split at c;cases c;exact q;cases c
 rw[p j k];split at g;rename_i es he;exact⟨es,he⟩;cases g
section
variable {P:Program} {T:bY} (cb:rk P T) {Φ:lv} (hΦ:Ak P Φ) {F:FuncId->dv Func} (dC:∀f fn,F f=Z fn->P.funcs[f]?=Z fn) {Q:bX->Prop}
def Hk(T:bY)(Φ:lv)(Q:bX->Prop)(bb:Nat)(θ:Nat->bX)(A:Nat->eX->Prop)(k:vC)(s':bl):Prop :=∃a c b d,bb<=b/\Fit a/\(∀i,i<bb->a i=θ i)/\(∀l,l<bb->d l=A l)/\s'=bl.sub a c/\mV T Φ Q (k c b) a d
def GQ(T:bY)(Φ:lv)(Q:bX->Prop)(bb:Nat)(θ:Nat->bX)(A:Nat->eX->Prop)(k:zu)(e:Exit)(s':bl):Prop :=∃c a d b g,e=qQ.qP c/\bb<=b/\Fit a/\(∀i,i<bb->a i=θ i)/\(∀l,l<bb->g l=A l)/\s'=bl.sub a d/\mV T Φ Q (k c d b) a g
def A8(P:Program)(T:bY)(Φ:lv)(Q:bX->Prop)(ex:tF):Prop :=∀n c s bb k θ A,Fit θ->mV T Φ Q (ex n c s bb k) θ A->j5 P n c (GQ T Φ Q bb θ A k) (bl.sub θ s)
omit cb hΦ dC in
def as6{Φ:lv}{φ:eX->dv bX}(h:Φ.KE f=Z φ):f<p9/\Φ (p9+f)=Z φ:=by unfold lv.KE at h;split at h;rename_i a;exact⟨by simpa using a,h⟩;cases h
include cb hΦ dC in
theorem RA(hex:A8 P T Φ Q ex){o:Oper}(ho:ops[i]?=Z o)(a7:i∉rest){A:Nat->eX->Prop}(hθ:Fit θ)
  (hw:pv ops (s.sub θ) o=Z Y) (hd:oz s.n o.dst=Y) 
  (hk:∀s' fr' b A',bb<=fr'->Fit b->(∀j,j<bb->b j=θ j)->(∀l,l<bb->A' l=A l)->mV T Φ Q (kk s' fr') b A'->nn P ops n0 n Qs rest (bl.sub b s'))
  (h:mV T Φ Q (KB T Φ F ex (n0+i) o s bb kk) θ A):nn P ops n0 n Qs (i::rest) (s.sub θ):=by
 have R:oz (s.sub θ).n o.dst=Y:=hd;unfold KB at h;split at h
 next fo args ts hop=>
  split at h
  next f first cap hfo=>
   have S:(s.sub θ).eval fo=.fn (.func f) (first.map (bX.sub θ)) (cap.map (bX.sub θ)):=by rw[bl.sub_eval,hfo,QP]
   have p:first.map (bX.sub θ)++args.toList.map (s.sub θ).eval++cap.map (bX.sub θ)=(first++args.toList.map s.eval++cap).map (bX.sub θ):=by simp only[ez,de];congr 2;apply cw;intro x _;exact bl.sub_eval θ s x
   split at h
   .
    rename_i xv ro s' k;split at h
    next d=>
     let ⟨g,a0,f0,e0,b,a1',f1,I,hl⟩:=h
     have B:∀i,i<bb->b i=θ i:=λi a7=>(a1' i a7).trans (a0 i a7);unfold ao9 at k;split at k
     .cases k
     rename_i φ q;split at k
     next id z j rest hargs0=>
      split at k
      next e z' j' hobj=>
       split at k
       next crest hcc hcr=>
        simp only[ab,cy]at hcc;obtain⟨rfl,rfl⟩:=hcc;cases k;let ⟨k1,hj⟩:=PG (θ:=θ) B d hobj;have m:s.sub b=s.sub θ:=bl.nL B d;have J:s.st.sub b=s.st.sub θ:=Ar bl.st m;have hs0:s.sub g=s.sub θ:=bl.nL a0 d;have hst0:s.st.sub g=s.st.sub θ:=Ar bl.st hs0;simp only[iv]at e0;split at e0;rotate_left
        .cases e0
        rename_i K;have hφ':Φ (p9+f)=Z φ:=(as6 q).2;simp only[iv,hφ',aD,vl,pN]at I;split at I
        next c hc=>
         simp only[aF,false_implies,vE,ah]at I;let ⟨es,es',fa,gb,kc,yF⟩:=hΦ.sort f φ (as6 q).1 hφ' _ _ _ _ hc;have q1':θ j=.rs es:=by rw[<-a0 j hj];exact fa
         have hl':aa (rowsOf (b bb))=aa (rowsOf (b j)):=by rw[<-I,B j hj,q1',gb];exact kc
         rw[q1']at k1;have k2:(s.st.sub θ).bF id=Z (.row e z es):=by rw[<-J];exact k1
         have hread:∀G vs w,hE G (rest.map (bX.sub g)) vs->Rel G ((s.st.sub θ).del id) w->hE (G.frozen ((s.st.sub θ).del id) w (λ_=>W)) (crest.map (bX.sub g)) vs:=λG vs w h1 h2=>by
          rw[<-hst0,<-bg.D_]at h2⊢;let ⟨g1,g2⟩:=yA hcr;refine⟨by rw[h1.1];simp[g1],λa ha H=>?_⟩;have ha1:a<aa crest:=by simpa using ha
          have ha2:a<aa rest:=by omega
          have hxv:∀j',j'∈pZ (s.st.del id).mZ->cL j' bb=Y->∃es,g j'=.rs es:=λj' hm hb=>by
           have hm:=aj.1 K j' hm;rw[a0 j' (by simpa using hb)];split at hm
           next es he=>exact⟨es,he⟩
           cases hm
          have hold:∀id' o',(s.st.del id).bF id'=Z o'->s.st.bF id'=Z o':=λid' o' r=>FZ r;have:=DA (θ:=g) f0 h2 (λ_=>W) (λid' e' z' j' r=>?_) (λid' j' r=>?_) 50 _ _ vs[a] (g2 a ha2 ha1) (by
           have:=h1.2 a (by simpa using ha2) H;rw[cK]at this;exact this)
          .simpa using this
          .have hb:=s.uw d (hold _ _ r)
           simp only[c7.ff]at hb;exact hxv j' (Bv r) hb
          have hb:=s.uw d (hold _ _ r);simp only[c7.ff,bX.ff]at hb;exact hxv j' (Bo r) hb
         have E:=yF (s.st.sub θ) id e (rest.map (bX.sub g)) k2 hread;have hargs2:first.map (bX.sub θ)++args.toList.map (s.sub θ).eval++cap.map (bX.sub θ)=.ms id z 0 (aa es)::rest.map (bX.sub g):=by
          have M:=s.sm d fo;rw[hfo]at M;simp only[bX.ff,ab]at M;have fa:first.map (bX.sub g)=first.map (bX.sub θ):=by rw[<-pT,<-pT,wA a0 first M.1]
          have gb:cap.map (bX.sub g)=cap.map (bX.sub θ):=by rw[<-pT,<-pT,wA a0 cap M.2]
          have kc:(first++args.toList.map s.eval++cap).map (bX.sub θ)=(first++args.toList.map s.eval++cap).map (bX.sub g):=by simp only[ez,de];rw[fa,gb];congr 2;apply cw;intro x _;exact(nL a0 _ (s.sm d x)).symm
          rw[p,kc,hargs0,aD];simp only[bX.sub,a0 j hj,q1',rowsOf]
         rw[<-hargs2]at E;refine nn.turns ho hop hw R S (σ1:=(s.st.sub θ).set id (.row e z es')) (ay _) E ?_;have:=hk _ _ _ _ (kD _) f1 B (λ_ _=>rfl) hl;have C:(({ s.oE id j bb with st:=(s.oE id j bb).st.set id (.fN e z bb) }:bl).put o.dst (.ed [])).sub b=({ s.sub θ with st:=(s.st.sub θ).set id (.row e z es') }.put o.dst (.ed [])):=by have r1:=bl.AA (id:=id) (j:=j) (bb:=bb) hl' s;have r2:(s.oE id j bb).st.sub b=s.st.sub b:=Ar bl.st r1;have e4:=bl.sf b (s.oE id j bb) ((s.oE id j bb).st.set id (.fN e z bb)) o.dst (.ed []);rw[e4,r1,bg.pQ,r2,m,J];simp only[c7.sub,<-I,gb,rowsOf];rfl
         rw[C]at this;exact this
        cases I
       cases k
      cases k
     cases k
    exact h.elim
   split at h
   .
    rename_i ro v s' k;split at h
    next d=>
     let ⟨b,B,f1,I,hl⟩:=h
     unfold ao8 at k;split at k
     .cases k
     rename_i φ q;split at k
     .split at k
      next fn hfn=>
       split at k
       next t hrt=>
        split at k
        next elem nq z2 z3 z4 ht=>
         split at k
         next ei hei=>
          cases k;simp only[iv,q,vl]at I;split at I
          next c hc=>
           simp only[aF,false_implies,vE,ah]at I;let ⟨es,fa,gb⟩:=hΦ.row f φ q _ _ hc;have E:=gb T fn t elem _ ei cb (dC f fn hfn) hrt ht rfl hei (s.st.sub θ);rw[<-p]at E;refine nn.turns ho hop hw R S (c:=.ms ((s.st.sub θ).next+5) ei.size 0 (aa es)) (σ1:=({ s.st.sub θ with next:=(s.st.sub θ).next+7 }:bg).set ((s.st.sub θ).next+5) (.row elem ei.size es)) (aZ _ 7) E ?_;have:=hk _ _ _ _ (kD _) f1 B (λ_ _=>rfl) hl;have C:(({ s with st:=({ s.st with next:=s.st.next+7 }:bg).set (s.st.next+5) (.fN elem ei.size bb) }:bl).put o.dst (.c8 (s.st.next+5) ei.size bb)).sub b=({ s.sub θ with st:=({ s.st.sub θ with next:=(s.st.sub θ).next+7 }:bg).set ((s.st.sub θ).next+5) (.row elem ei.size es) }.put o.dst (.ms ((s.st.sub θ).next+5) ei.size 0 (aa es))):=by have e4:=bl.sf b s (({ s.st with next:=s.st.next+7 }:bg).set (s.st.next+5) (.fN elem ei.size bb)) o.dst (.c8 (s.st.next+5) ei.size bb);have m:s.sub b=s.sub θ:=bl.nL B d;have J:s.st.sub b=s.st.sub θ:=Ar bl.st m;rw[e4,m,bg.pQ];have e5:({ s.st with next:=s.st.next+7 }:bg).sub b={ s.st.sub b with next:=(s.st.sub b).next+7 }:=rfl;rw[e5,J];simp only[c7.sub,bX.sub,<-I,fa,rowsOf];rfl
           rw[C]at this;exact this
          cases I
         cases k
        cases k
       cases k
      cases k
     cases k
    exact h.elim
   unfold ao7 at h;split at h
   .exact h.elim
   rename_i fn hfn;split at h
   next φ q=>
    replace q:=lv.be0 q;split at h
    next pat fr' hpat=>
     split at h
     next d=>
      rw[ab]at d;have hle:=a_ d.2;split at h
      next cargs D=>
       let ⟨g,B,f1,I,u,a2,f2,C,hl⟩:=h
       simp only[iv]at I C;split at I
       next K=>
        rw[(lv.yE q).2]at C;simp only at C;split at C
        next c hc=>
         split at C
         next hflat=>
          simp only[ah]at C;have m:s.sub g=s.sub θ:=bl.nL B d.1;have hs2:s.sub u=s.sub θ:=by rw[bl.nL a2 d.1,m]
          obtain⟨cargs0,N,rfl⟩:∃l,uZ (pX s.st 50) (first++args.toList.map s.eval++cap)=Z l/\cargs=y6 l:=by
           unfold P3 at D;split at D
           .cases D
           split at D
           next l hl2=>cases D;exact⟨_,hl2,rfl⟩
           cases D
          have O:=hΦ.vh f φ (lv.yE q).1 (lv.yE q).2 _ _ hc;have htold:Told P f ((first++args.toList.map s.eval++cap).map (bX.sub g)) (s.st.sub g) c:=by
           refine bH7 O (hflat trivial) (λG vs w hr hrel=>?_);let ⟨g1,g2⟩:=yA N;refine⟨by rw[hr.1,BF];simp[g1],λj hj hj'=>?_⟩;have hj1:j<aa cargs0:=by simpa[BF]using hj
           have hj2:j<aa (first++args.toList.map s.eval++cap):=by omega
           have:=DA (θ:=g) f1 hrel (λ_=>W) (λid e z j' r=>?_) (λid j' r=>?_) 50 _ _ vs[j] (g2 j hj2 hj1) (by
            have:=hr.2 j (by simpa using hj2) hj';rw[cK]at this;exact this)
           .have:=BN _ _ this
            simpa[BF]using this
           .have hm:=aj.1 K j' (Bv r)
            have hb:=s.uw d.1 r;simp only[c7.ff,bP]at hb;rw[B j' hb];split at hm
            next es he=>exact⟨es,he⟩
            cases hm
           have hm:=aj.1 K j' (Bo r);have hb:=s.uw d.1 r;simp only[c7.ff,bX.ff,bP]at hb;rw[B j' hb];split at hm
           next es he=>exact⟨es,he⟩
           cases hm
          have hargs1:(first++args.toList.map s.eval++cap).map (bX.sub g)=(first++args.toList.map s.eval++cap).map (bX.sub θ):=by
           rw[<-p];have e:(s.sub g).eval=(s.sub θ).eval:=by rw[m]
           have M:=s.sm d.1 fo;rw[hfo]at M;simp only[bX.ff,ab]at M;have fa:first.map (bX.sub g)=first.map (bX.sub θ):=by rw[<-pT,<-pT,wA B first M.1]
           have gb:cap.map (bX.sub g)=cap.map (bX.sub θ):=by rw[<-pT,<-pT,wA B cap M.2]
           simp only[ez,de];rw[fa,gb];congr 2;apply cw;intro x _;have:=congrFun e x;rw[bl.sub_eval]at this;exact this
          have J:s.st.sub g=s.st.sub θ:=bg.nL B d.1;rw[hargs1,J,<-p]at htold;refine nn.told ho hop hw R S htold ?_;have:=hk (s.put o.dst pat) fr' u A hle f2 (λj hj=>(a2 j hj).trans (B j hj)) (λ_ _=>rfl) hl;have e3:=bl.sf u s s.st o.dst pat;have e4:({ s with st:=s.st }:bl)=s:=rfl;rw[e4]at e3;rw[e3]at this;have e5:({ s.sub u with st:=s.st.sub u }:bl)=s.sub u:=rfl;rw[e5,hs2,<-C]at this;exact this
         cases C
        cases C
       cases I
      next cargs D=>
       let ⟨u,a2,f2,C,hl⟩:=h
       simp only[iv]at C;rw[(lv.yE q).2]at C;simp only at C;split at C
       next c hc=>
        split at C
        .simp only[ah]at C
         have hs2:s.sub u=s.sub θ:=bl.nL a2 d.1;have N:cargs=first++args.toList.map s.eval++cap:=by
          unfold P3 at D;split at D
          .cases D;rfl
          split at D<;>cases D
         rw[N]at hc;have O:=hΦ.vh f φ (lv.yE q).1 (lv.yE q).2 _ _ hc (s.st.sub θ);rw[<-p]at O;refine nn.told ho hop hw R S O ?_;have:=hk (s.put o.dst pat) fr' u A hle f2 a2 (λ_ _=>rfl) hl;have e3:=bl.sf u s s.st o.dst pat;have e4:({ s with st:=s.st }:bl)=s:=rfl;rw[e4]at e3;rw[e3]at this;have e5:({ s.sub u with st:=s.st.sub u }:bl)=s.sub u:=rfl;rw[e5,hs2,<-C]at this;exact this
        cases C
       cases C
      exact h.elim
     exact h.elim
    exact h.elim
   split at h
   next c hb=>
    split at h
    next hcc=>
     simp only[ab,dt]at hcc;let ⟨⟨c1,c2⟩,c3⟩:=hcc;have:=hex _ _ _ _ _ _ _ hθ h;rw[FP]at this;refine nn.inline (n:=n) cb ho hop hw R S (dC f fn hfn) c2 hb (by rw[p,aI];exact a_ c1) ?_;rw[p];refine j5.mono this ?_;rintro e s' ⟨e',g,S1,fr1,A1,rfl,hfr,f1,B,b1,rfl,hl⟩;have m:s.sub g=s.sub θ:=bl.nL B c3;have fin:∀v,pc T fn S1=Z v->mV T Φ Q (kk ({ s with st:=S1.st }.put o.dst v) fr1) g A1->∃v,pc T fn (S1.sub g)=Z v/\nn P ops n0 n Qs rest ({ s.sub θ with st:=(S1.sub g).st }.put o.dst v):=λv hv hl=>by refine⟨v.sub g,Db hv,?_⟩;have:=hk _ _ _ _ hfr f1 B b1 hl;rw[bl.sf,m]at this;exact this
     cases e' with
     |oA j=>exact hl.elim
     |nr=>
      simp only at hl;split at hl
      next v hv=>exact⟨.inl rfl,fin v hv hl⟩
      exact hl.elim
     |ret=>
      simp only at hl;split at hl
      next v hv=>exact⟨.inr rfl,fin v hv hl⟩
      exact hl.elim
    exact h.elim
   exact h.elim
  exact h.elim
 split at h
 next v σ' ha=>
  have H:=J7 hθ (JS ha);have e:(λx=>(s.eval x).sub θ)=(s.sub θ).eval:=(bl.aq0 θ s).symm;rw[e]at H;refine nn.plain cb ho a7 hw R H ?_;have:=hk _ _ _ _ (ay _) hθ (λ_ _=>rfl) (λ_ _=>rfl) h;rw[bl.sf]at this;exact this
 split at h
 next ro pat v σ' fr' hr=>
  split at h
  next d=>
   rw[ab]at d;let ⟨b,B,f1,I,hl⟩:=h;have H:=ar4 (T:=T) (Φ:=Φ) B d.1 hθ hr I;have m:s.sub b=s.sub θ:=bl.nL B d.1;have qJ:s.st.sub b=(s.sub θ).st:=by rw[<-m];rfl
   rw[m,qJ]at H;refine nn.plain cb ho a7 hw R H ?_;have:=hk _ _ _ _ (a_ d.2) f1 B (λ_ _=>rfl) hl;rw[bl.sf,m]at this;exact this
  exact h.elim
 split at h
 next ro s' qJ=>
  split at h
  next d=>
   let ⟨b,B,f1,I,hl⟩:=h
   let ⟨σ2,H,hs'⟩:=cb2 (T:=T) (Φ:=Φ) B d qJ I
   have m:s.sub b=s.sub θ:=bl.nL B d;have hst2:s.st.sub b=(s.sub θ).st:=by rw[<-m];rfl
   rw[m,hst2]at H;refine nn.plain cb ho a7 hw R (H _) ?_;have:=hk _ _ _ _ (kD _) f1 B (λ_ _=>rfl) hl;have C:(s'.put o.dst (.b4 undef)).sub b=({ s.sub θ with st:=σ2 }.put o.dst (.b4 undef)):=by have e4:=bl.sf b s' s'.st o.dst (.b4 undef);rw[pN]at e4;have e5:({ s'.sub b with st:=s'.st.sub b }:bl)=s'.sub b:=rfl;rw[e5,hs',m]at e4;exact e4
   rw[C]at this;exact this
  exact h.elim
 exact h.elim
include cb hΦ dC in
theorem Q6(hex:A8 P T Φ Q ex){o:Oper}(ho:ops[i]?=Z o)(a7:i∉rest):∀(m:Nat) {s:bl} {bb:Nat} {u:vC} {θ:Nat->bX} {A:Nat->eX->Prop} (d:Fit θ)
  (hw:pv ops (s.sub θ) o=Z Y) (hd:oz s.n o.dst=Y)
  (hk:∀s' e c v,bb<=e->Fit c->(∀j,j<bb->c j=θ j)->(∀l,l<bb->v l=A l)->mV T Φ Q (u s' e) c v->nn P ops n0 n Qs rest (bl.sub c s'))
  (h:mV T Φ Q (GI T Φ F ex ops (n0+i) o bb u m s) θ A),nn P ops n0 n Qs (i::rest) (s.sub θ)
 | 0,s,bb,u,θ,A,d,hw,hd,hk,h=>RA cb hΦ dC hex ho a7 d hw hd hk h
 |m+1,s,bb,u,θ,A,d,hw,hd,hk,h=>by
  unfold GI at h;split at h;rename_i a x b;have g:s.st.bF a=Z x:=by unfold az6 at b;split at b;rename_i p hp;cases b;unfold Vs at hp;split at hp;split at hp;rename_i q;cases hp;exact q;cases hp;cases hp;split at b;split at b;split at b;split at b;cases b;split at b;split at b;rename_i q;cases b;exact q;cases b;cases b;split at b;split at b;rename_i q;cases b;exact q;cases b;cases b;cases b;cases b;cases b
  split at h;rename_i r;split at h;rename_i w;let ⟨t,z,f1,B,hl⟩:=h;simp only[iv]at B;split at B;rename_i k;have C:s.sub t=s.sub θ:=bl.nL z r;rw[<-C];refine nn.freeze f1 g (W1 r g z k) ?_;exact Q6 hex ho a7 m f1 (Fv t w) hd (λs' e c v fa gb kc yF oL=>hk s' e c v fa gb (λj hj=>(kc j hj).trans (z j hj)) yF oL) hl;cases B;exact h.elim;exact h.elim;exact RA cb hΦ dC hex ho a7 d hw hd hk h
include cb in
theorem aF5(h:Rel G σ w){id:Nat}(hid:G.pl id=W)(a:id<σ.next){c:Nat}{z:Value}{d:Nat}{e:dv Nat}(g:T t=Z ⟨.string,c,z,d,e⟩)(i:eR G (.b4 (.string b)) u) :
  o_ G σ w (σ.set id (.qO b 0)) id (.it id) ((lT t u).run P w):=by
 cases i;simp only[lT,ax,oG cb g,ao,bd,run_newObj];let q:nt:={ block:=w.heap.size,size:=1,cap:=1 };have j:=h.push (.stringIter b 0) id hid a q rfl rfl (.qO b 0) rfl;exact o_.place (p:=q) hid (.it id q (ca.sc _ _ _)) j (Fr.push _ id hid q (λ_=>rfl) _ w.drawn)
theorem av7(h:Rel G σ w){id:Nat}{pos:Nat}(ho:σ.bF a=Z (.qO b pos)){ty:TypeId}(m:eR G (.it a) u) :
  (pos<b.size->o_ G σ w (σ.set a (.qO b (pos+(cg b pos).2))) id (.ed [.b4 (.bool Y),.b4 (.int .i64 pos),.b4 (.int .i32 (cg b pos).1)]) ((jl u Y ty).run P w)) /\
  (¬pos<b.size->o_ G σ w σ id (.ed [.b4 (.bool U)]) ((jl u Y ty).run P w)):=by
 cases m with
 |it _ p hp=>
 have hv:p.mX=U:=by
  rcases h.wY ho hp with⟨_,_,_,g⟩|⟨g,_⟩
  cases g;exact g
 let ⟨_,_,d⟩:=h.real ho hp hv;have j:w.heap[p.block]?=Z (.stringIter b pos):=d;have k5:(getObj p.block).run P w=.ok (.stringIter b pos) w:=by simp[getObj,Sem.run,j]
 have e:∀o,(setObj p.block o).run P w=.ok () (oR w p.block o):=λo=>WO j (by intro _ _ _ h;cases h);constructor;intro c;refine⟨G,.tuple #[.bool Y,.int .i64 pos,.int .i32 (cg b pos).1],oR w p.block (.stringIter b (pos+(cg b pos).2)),.refl G,λ_ _ h=>h,?_,?_,?_,?_⟩;simp only[jl,ax,k5,ao,c,vE,e];rfl;exact .ed _ _ rfl (λi a7 l=>by
  match i,a7 with
  | 0,_=>exact .b4 _
  | 1,_=>exact .b4 _
  | 2,_=>exact .b4 _)
 exact h.write ho hp hv _ _ rfl rfl rfl (zG _ _ _) (λk hk=>zz _ _ _ _ hk) (Fs _ _ _ _ j) rfl;exact Fr.write ho hp hv _ (zG _ _ _) (λk hk=>zz _ _ _ _ hk);intro c;refine⟨G,.tuple #[.bool U],w,.refl G,λ_ _ h=>h,?_,.ed _ _ rfl (λi a7 l=>?_),h,.refl _ _ _⟩;simp only[jl,ax,k5,ao,c,l4,bd];have:i=0:=by simp at a7;omega
 subst this;exact .b4 _
theorem nn.step{o:Oper}{Q:bl->Prop}{σ':bg}(ho:ops[i]?=Z o)(a7:i∉rest)(hw:pv ops s o=Z Y)(hd:oz s.n o.dst=Y)(r:σ'.next=s.st.next)
  (ha:∀(G:ca) (w:World) (ev:Operand->Value),Rel G s.st w->(∀x,eR G (s.eval x) (ev x))->G.pl (n0+i)=W->n0+i<s.st.next->nZ G s.st w σ' (n0+i) v ((execOp ev o).run P w)) (h:nn P ops n0 n Q rest ({ s with st:=σ' }.put o.dst v)):nn P ops n0 n Q (i::rest) s:=by
 intro G a w d hf N g;have t:=(aP.1 ho).1;simp only[wpOps,ho,zK d hw];left;let ⟨G',u,w',h1,h2,c,z,B,l⟩:=ha G w a.eval d.rel d.eval (hf i (by simp)).2 (by omega);have m:∀j∈rest,n0+j≠n0+i:=λj hj e=>a7 (by have C:=Nat.add_left_cancel e;rw[<-C];exact hj);have key:=h G' (a.put o.dst u) w' (d.put h1 B z hd) (λj hj=>⟨(hf j (by simp[hj])).1,h2 _ (m j hj) (hf j (by simp[hj])).2⟩) (by simp;omega) g;have D:ou n G s.st w G' σ' w':=⟨h1.qs,h1.lo,λk hk=>by
  cases hp:G.pl k with
  |none=>exact h2 k (by omega) hp
  |some p=>exact h1.pl k p hp,by omega,l⟩
 have b:=sh (P:=P) (ops:=ops) (Q':=λe q w'=>e=.normal/\∃s' G',ou n G s.st w G' s'.st w'/\zc G' s' q w'/\Q s') (λe q w' ⟨E,s',H,I,J,K⟩ =>
  ⟨E,s',H,D.trans (by simpa using I) (ay _),J,K⟩) rest _ _ key
 unfold gB;rcases c with c|⟨c,M⟩
 rw[c];exact b;rw[c];subst M;exact b
include cb hΦ dC in
theorem Lp(hex:A8 P T Φ Q ex){o:Oper}(ho:ops[i]?=Z o)(a7:i∉rest){A:Nat->eX->Prop}(M:Fit θ)
  (hw:pv ops (s.sub θ) o=Z Y) (hd:oz s.n o.dst=Y)
  (hk:∀s' N m A',bb<=N->Fit m->(∀j,j<bb->m j=θ j)->(∀l,l<bb->A' l=A l)->mV T Φ Q (kk s' N) m A'->nn P ops n0 n Qs rest (bl.sub m s'))
  (h:mV T Φ Q (D5 T Φ F ex ops (n0+i) o bb kk s) θ A):nn P ops n0 n Qs (i::rest) (s.sub θ):=by
 have H:oz (s.sub θ).n o.dst=Y:=hd;unfold D5 at h;split at h
 next t x q=>
  split at h
  next sz z bt fl ht=>
   split at h
   next j hj=>
    split at h
    next d=>
     let ⟨c,r,f1,e,hl⟩:=h
     have u:s.sub c=s.sub θ:=bl.nL r d;simp only[iv]at e;split at e
     next b I=>
      rw[vl]at I;have O:j<bb:=by have:=s.sm d x;rw[hj]at this;simpa[bX.ff,bP]using this
      have qJ:s.st.sub c=(s.sub θ).st:=by rw[<-u];rfl
      refine nn.step (σ':=(s.sub θ).st.set (n0+i) (.qO b 0)) (v:=.it (n0+i)) ho a7 hw H rfl (λG w ev R g J K=>?_) ?_
      .have D:=g x
       rw[bl.sub_eval,hj,vl,I]at D;simp only[execOp,q];exact nZ.of (aF5 cb R J K ht D)
      have:=hk _ _ _ _ (ay _) f1 r (λ_ _=>rfl) hl;rw[bl.sf,u,bg.pQ,qJ]at this;have e2:(c7.qh (.ey j) (.b4 (.int .i64 0))).sub c=.qO b 0:=by simp only[c7.sub,vl,pN,r j O,I,strOf,nm];rfl
      rw[e2]at this;exact this
     cases e
    exact h.elim
   exact h.elim
  exact Q6 cb hΦ dC hex ho a7 3 M hw hd hk h
 next it q=>
  split at h
  next a ha=>
   split at h
   next st p E=>
    split at h
    next d=>
     let ⟨c,r,f1,e,hl⟩:=h
     have u:s.sub c=s.sub θ:=bl.nL r d;have B:=s.uw d E;simp only[c7.ff,ab]at B;simp only[iv]at e;split at e
     next b I=>
      split at e
      next n hn=>
       simp only[ah,vl]at e;have k:(s.sub θ).st.bF a=Z (.qO b n.toNat):=by rw[bl.ua,bg.x3,E];simp only[ai,c7.sub,I,hn,strOf,nm]
       rcases hl with⟨t1,hl⟩|⟨t1,hl⟩
       .
        rw[<-e]at t1;simp only[bX.b4.injEq,jE,kA]at t1;let ⟨C,a2,f2,e2,hl⟩:=hl;have hb1:st.sub c=.b4 (.string b):=by rw[nL r st B.1,I]
        have hn1:p.sub c=.b4 (.int .i64 n):=by rw[nL r p B.2,hn]
        simp only[iv,hb1,hn1,hT t1,ah,Kb,aD,cM,vl,bX.ed.injEq,cW,and_true]at e2;let ⟨fa,gb,kc⟩:=e2;have a12:∀j,j<bb->C j=θ j:=λj hj=>(a2 j (by omega)).trans (r j hj);have S:s.sub C=s.sub θ:=bl.nL a12 d;have qJ:s.st.sub C=(s.sub θ).st:=by rw[<-S];rfl
        refine nn.step (σ':=(s.sub θ).st.set a (.qO b (n.toNat+(cg b n.toNat).2))) (v:=.ed [.b4 (.bool Y),.b4 (.int .i64 n.toNat),.b4 (.int .i32 (cg b n.toNat).1)]) ho a7 hw H rfl (λG w ev R g J K=>?_) ?_
        .have D:=g it
         rw[bl.sub_eval,ha,Lg]at D;simp only[execOp,q];exact nZ.of ((av7 R k D).1 t1)
        have:=hk _ _ _ _ (show bb<=bb+4 by omega) f2 a12 (λ_ _=>rfl) hl;rw[bl.sf,S,bg.pQ,qJ]at this;have e3:(c7.qh st (.ey (bb+3))).sub C=.qO b (n.toNat+(cg b n.toNat).2):=by simp only[c7.sub,vl,nL a12 st B.1,I,strOf,<-kc,nm];rfl
        rw[e3]at this;simp only[Kb,aD,cM,pN,vl,<-fa,<-gb]at this;exact this
       
       rw[<-e]at t1;simp only[bX.b4.injEq,jE,sG]at t1;refine nn.step (σ':=(s.sub θ).st) (v:=.ed [.b4 (.bool U)]) ho a7 hw H rfl (λG w ev R g J K=>?_) ?_
       .have D:=g it
        rw[bl.sub_eval,ha,Lg]at D;simp only[execOp,q];exact nZ.of ((av7 R k D).2 t1)
       have:=hk _ _ _ _ (show bb<=bb+1 by omega) f1 r (λ_ _=>rfl) hl;have e3:=bl.sf c s s.st o.dst (.ed [.b4 (.bool U)]);have e4:({ s with st:=s.st }:bl)=s:=rfl;rw[e4]at e3;rw[e3]at this;have e5:({ s.sub c with st:=s.st.sub c }:bl)=s.sub c:=rfl;rw[e5,u]at this;rw[Kb,aD,cM,pN]at this;exact this
      cases e
     cases e
    exact h.elim
   exact h.elim
  exact h.elim
 exact Q6 cb hΦ dC hex ho a7 3 M hw hd hk h
include cb hΦ dC in
theorem P2{ex:tF}(hex:A8 P T Φ Q ex){ops:Array Oper}{n0 n:Nat}:∀(l:cu Oper) (i:Nat) (s:bl) (bb:Nat) (k:vC) (θ:Nat->bX) (A:Nat->eX->Prop),(∀j:Nat,l[j]?=ops[i+j]?)->i+aa l=ops.size->Fit θ ->
  mV T Φ Q (xa T Φ F ex ops n0 l i s bb k) θ A->nn P ops n0 n (Hk T Φ Q bb θ A k) (eo i (aa l)) (s.sub θ)
 | [],i,s,bb,k,θ,A,_,_,c,h=>nn.nil ⟨θ,s,bb,A,ay _,c,λ_ _=>rfl,λ_ _=>rfl,rfl,h⟩
 |o::rest,i,s,bb,k,θ,A,hl,hlen,c,h=>by
  have ho:ops[i]?=Z o:=by have:=hl 0;simpa using this.symm
  have E:∀j:Nat,rest[j]?=ops[i+1+j]?:=λj=>by have:=hl (j+1);simpa[fK,jD 1 j]using this
  have u:i+1+aa rest=ops.size:=by simp at hlen;omega
  have r:i∉eo (i+1) (aa rest):=by simp[List.mem_range'_1];omega
  simp only[aA,List.range'_succ];have D:=λs' v g H (I:bb<=v) (J:Fit g) (ha:∀j,j<bb->g j=θ j) (hA:∀l,l<bb->H l=A l) (q:mV T Φ Q (xa T Φ F ex ops n0 rest (i+1) s' v k) g H)=>
   (show nn P ops n0 n (Hk T Φ Q bb θ A k) (eo (i+1) (aa rest)) (bl.sub g s')from by
    have h1:=P2 (n:=n) hex rest (i+1) s' v k g H E u J q;intro G a w g1 g2 g3 g4;refine sh ?_ _ _ _ (h1 G a w g1 g2 g3 g4);rintro e a' w' ⟨e1,s2,G2,b1,b2,K,S2,M,A2,fa,gb,kc,yF,oL,mn⟩;exact⟨e1,s2,G2,b1,b2,K,S2,M,A2,bD I fa,gb,λj hj=>(kc j (by omega)).trans (ha j hj),λl hl=>(yF l (by omega)).trans (hA l hl),oL,mn⟩)
  unfold xa at h;split at h;exact h.elim;rename_i hd;split at h;rename_i hw;exact Lp cb hΦ dC hex ho r c (Fv θ hw) hd D h;rename_i hw;refine nn.skip ho (Fv θ hw) hd ?_;have:=D _ _ _ _ (ay _) c (λ_ _=>rfl) (λ_ _=>rfl) h;have B:=bl.sf θ s s.st o.dst (.b4 undef);have N:({ s with st:=s.st }:bl)=s:=rfl;have O:({ s.sub θ with st:=s.st.sub θ }:bl)=s.sub θ:=rfl;rw[N,O,pN]at B;rw[B]at this;exact this;rename_i hw;split at h;rename_i j want p;have x:∀b,θ j=.b4 (.bool b)->pv ops (s.sub θ) o=Z (b==want):=λb t=>by unfold JJ at p;unfold pv;split at p;cases p;rename_i j' w' R;rw[R];simp only;split at p;rename_i d S;rw[S];simp only;split at p;rename_i C;rw[bP]at C;rw[bl.P',cr C,bl.tB];split at p;rename_i i' hi';cases p;rw[hi',vl,t];cases p;cases p;cases p
  have both:∀b:Bool,θ j=.b4 (.bool b)->mV T Φ Q (match b==want with
    |true=>D5 T Φ F ex ops (n0+i) o bb (xa T Φ F ex ops n0 rest (i+1) · · k) (s.mU (qp j b))
    |false=>xa T Φ F ex ops n0 rest (i+1) ((s.mU (qp j b)).put o.dst (.b4 undef)) bb k) θ A->nn P ops n0 n (Hk T Φ Q bb θ A k) (i::eo (i+1) (aa rest)) (s.sub θ):=λb t q=>by
   have hin:=FY (θ:=θ) (j:=j) (b:=b) t s;have m:=x b t;rw[<-hin]at m⊢;split at q;rename_i z;rw[z]at m;exact Lp cb hΦ dC hex ho r c m hd D q;rename_i z;rw[z]at m;refine nn.skip ho m hd ?_;have:=D _ _ _ _ (ay _) c (λ_ _=>rfl) (λ_ _=>rfl) q;have B:=bl.sf θ (s.mU (qp j b)) (s.mU (qp j b)).st o.dst (.b4 undef);have N:({ s.mU (qp j b)with st:=(s.mU (qp j b)).st }:bl)=s.mU (qp j b):=rfl;have O:({ (s.mU (qp j b)).sub θ with st:=(s.mU (qp j b)).st.sub θ }:bl)=(s.mU (qp j b)).sub θ:=rfl;rw[N,O,pN]at B;rw[B]at this;exact this
  rcases h with⟨t,q⟩|⟨t,q⟩
  exact both Y t q;exact both U t q;exact h.elim
theorem j5.Va(h:j5 P n c (λe s1=>(∃ι s2,Ren ι n s2 s1/\Q' e s2)\/Q' e s1) s):j5 P n c Q' s:=by intro i G a w j;refine wp_mono (h i G a w j) ?_;rintro e m w' ⟨s1,k,d,g,⟨ι,s2,l,b⟩|b⟩;let ⟨h1,h2⟩:=l.rel g;exact⟨s2,_,d.trans h2 (ay _),h1,b⟩;exact⟨s1,k,d,g,b⟩
theorem Wm(θ:Nat->bX)(σ:bg):∀(is:cu Nat) (t:bg),(z6 σ is t).sub θ=z6 (σ.sub θ) is (t.sub θ)
 | [],t=>rfl
 |i::is,t=>by
  simp only[z6];rw[Wm θ σ is,bg.x3];cases σ.bF i with
  |none=>rfl
  |some o=>simp only[ai];rw[bg.pQ]
theorem ao5(θ:Nat->bX)(σ:bg)(ids:cu Nat):(small σ ids).sub θ=small (σ.sub θ) ids:=Wm θ σ ids _
theorem Fz(θ:Nat->bX)(σ1:bg):∀(is:cu Nat) (σ:bg),(sO σ1 is σ).sub θ=sO (σ1.sub θ) is (σ.sub θ)
 | [],σ=>rfl
 |i::is,σ=>by
  simp only[sO];rw[Fz θ σ1 is,bg.x3];cases σ1.bF i with
  |none=>simp only[d_];rw[bg.D_]
  |some o=>simp only[ai];rw[bg.pQ]
theorem aJ2(θ:Nat->bX)(σ:bg)(ids:cu Nat):saved (σ.sub θ) ids=(saved σ ids).map λp=>(p.1,p.2.sub θ):=by unfold saved;rw[List.map_filterMap];congr 1;funext id;rw[bg.x3];cases σ.bF id<;>rfl
theorem X6(θ:Nat->bX):∀(l:cu (Nat×c7)) (σ:bg),(sr l σ).sub θ=sr (l.map λp=>(p.1,p.2.sub θ)) (σ.sub θ)
 | [],σ=>rfl
 |p::l,σ=>by simp only[sr,aD];rw[X6 θ l,bg.D_]
theorem W6(θ:Nat->bX):∀(l:cu (Nat×c7)) (σ:bg),(uE l σ).sub θ=uE (l.map λp=>(p.1,p.2.sub θ)) (σ.sub θ)
 | [],σ=>rfl
 |p::l,σ=>by simp only[uE,aD];rw[W6 θ l,bg.pQ]
theorem bP3(θ:Nat->bX)(σ:bg)(ids:cu Nat):(F' σ ids).sub θ=F' (σ.sub θ) ids:=by unfold F';rw[aJ2];have a:=W6 θ (saved σ ids) { sr (saved σ ids) σ with low:=σ.next };have b:=X6 θ (saved σ ids) σ;have c:bg.sub θ { sr (saved σ ids) σ with low:=σ.next }={ bg.sub θ (sr (saved σ ids) σ)with low:=σ.next }:=rfl;have d:∀(x:bg) (l:Nat),bg.sub θ { x with low:=l }={ bg.sub θ x with low:=l }:=λ_ _=>rfl;rw[d,a,c,b];rfl
theorem av0(a:Fit θ)(v:bX):(v.sub θ).v7=v.v7:=by
 cases v with
 |ey i=>simpa[bX.v7]using(a i).v7
 |_=>simp[bX.v7]
theorem au9(a:Fit θ)(s:bl)(op:Op):oe (s.sub θ).eval op=oe s.eval op:=by
 cases op with
 |call c =>let ⟨callee,args,ts⟩:=c;cases callee<;>simp[oe,bl.sub_eval,av0 a]
 |_=>simp[oe,bl.sub_eval,av0 a]
def vc(Φ:lv)(f:FuncId)(args:eX)(σ:bg):dv (bX×bg):=match Φ.fn f with
 |some φ=>match φ args with
  |some c=>Z (c,σ)
  |none=>W
 |none=>W
theorem aw2{mask:Nat}{pW:Bool}{o:Oper}(M:pW=Y->Af o.op=Y){O:Me}{A:Nat->eX->Prop}(r:Fit θ)(hw:pv ops (s.sub θ) o=Z Y)(hd:oz s.n o.dst=Y)
  (h:mV T Φ Q (GP T Φ F n0 N mask i pW o s bb O) θ A):∃a R d f,bb<=d/\Fit a/\(∀j,j<bb->a j=θ j)/\v_ T (vc Φ) ops n0 N mask i pW (s.sub θ) o=Z (bl.sub a R,f)/\mV T Φ Q (O R d f) a A:=by
 have z:oz (s.sub θ).n o.dst=Y:=hd;unfold GP at h;split at h;rename_i fo args ts B;split at h;rename_i f first cap H
 have u:(s.sub θ).eval fo=.fn (.func f) (first.map (bX.sub θ)) (cap.map (bX.sub θ)):=by rw[bl.sub_eval,H,QP]
 have g:first.map (bX.sub θ)++args.toList.map (s.sub θ).eval++cap.map (bX.sub θ)=(first++args.toList.map s.eval++cap).map (bX.sub θ):=by simp only[ez,de];congr 2;apply cw;intro x _;exact bl.sub_eval θ s x
 unfold Tf at h;split at h;rename_i fn φ hfn C;split at h;rename_i pat d S;split at h;rename_i k;simp only[ab]at k;let ⟨⟨c1,c2⟩,c3⟩:=k;let ⟨a,w,f1,q,hl⟩:=h;simp only[iv,(lv.yE C).2]at q;split at q;rename_i c hc;split at q;simp only[ah]at q;have t:=bl.nL w c1;have D:=bg.nL w c1;have E:∀σ,vc Φ f ((first++args.toList.map s.eval++cap).map (bX.sub θ)) σ=Z (c,σ):=λσ=>by simp only[vc,C,hc]
 cases pW;refine⟨a,_,d,_,a_ c2,f1,w,?_,hl⟩;unfold v_;rw[hw,z];simp only[B,u,aF,l4];rw[g,E];show(ite _ (Z ({ s.sub θ with st:=F' (s.sub θ).st (q0 n0 N mask) }.put o.dst c,(⟨[],[],Y,(s.sub θ).st.next,U⟩:ri))) W)=_;rw[cr ⟨ay _,by rw[show ∀(x:bg) (l:Nat),({ x with low:=l }:bg).next=x.next from λ_ _=>rfl,Ng];exact ay _⟩];rw[bl.sf,<-q,bP3,D,t];rfl;refine⟨a,s.put o.dst pat,d,_,a_ c2,f1,w,?_,hl⟩;unfold v_;rw[hw,z];simp only[B,u];rw[g,E];simp only[ay,vE];have e3:=bl.sf a s s.st o.dst pat;have e4:({ s with st:=s.st }:bl)=s:=rfl;have e5:({ s.sub a with st:=s.st.sub a }:bl)=s.sub a:=rfl;rw[e4,e5,t,<-q]at e3;rw[e3];cases q;cases q;exact h.elim;exact h.elim;exact h.elim;exact h.elim;have m:∀(b:Nat->bX) (v:bX) (σ1:bg),fb T (s.sub b).eval (small (s.st.sub b) (oe (s.sub b).eval o.op)) (n0+i) o.op=Z (v,σ1)->s.sub b=s.sub θ ->
   v_ T (vc Φ) ops n0 N mask i pW (s.sub θ) o=Z ({ s.sub b with st:=(match σ1.bF (n0+i)with
    |some x=>(ite (qq o.op) (sO σ1 (oe (s.sub b).eval o.op) (s.st.sub b)) (s.st.sub b)).set (n0+i) x
    |none=>(ite (qq o.op) (sO σ1 (oe (s.sub b).eval o.op) (s.st.sub b)) (s.st.sub b))) }.put o.dst v,⟨oe (s.sub b).eval o.op,ite (qq o.op) (oe (s.sub b).eval o.op) [],U,0,U⟩):=λb v σ1 ha hs=>by
  have qJ:s.st.sub b=(s.sub θ).st:=by rw[<-hs];rfl
  rw[qJ,hs]at ha⊢;unfold v_;rw[hw,z];simp only;rw[ha];rfl
 split at h;rename_i v σ1 ha;have G:=J7 r (JS ha);have e:=(bl.aq0 θ s).symm;rw[e,ao5]at G;have p:=au9 r s o.op;refine⟨θ,_,bb,_,ay _,r,λ_ _=>rfl,?_,h⟩;have:=m θ (v.sub θ) (σ1.sub θ) (by rw[p];exact G) rfl;rw[this,p,bl.sf];rw[bg.x3];cases σ1.bF (n0+i)with
 |none =>simp only[d_];split;rw[Fz];rfl
 |some x =>simp only[ai];rw[bg.pQ];split;rw[Fz];rfl
 split at h;rename_i ro pat v σ1 d hr;split at h;rename_i k;simp only[ab]at k;let ⟨⟨I,J⟩,K⟩:=k;let ⟨a,w,f1,q,hl⟩:=h;have t:=bl.nL w I;have h0:=ar4 (T:=T) (Φ:=Φ) (s:={ s with st:=small s.st (oe s.eval o.op) }) w J r hr q;have e0:(({ s with st:=small s.st (oe s.eval o.op) }:bl).sub a).eval=(s.sub a).eval:=by funext x;cases x<;>rfl
 have p:=au9 f1 s o.op;rw[e0,ao5]at h0;have:=m a (v.sub a) (σ1.sub a) (by rw[p];exact h0) t;refine⟨a,_,d,_,a_ K,f1,w,?_,hl⟩;rw[this,p,bl.sf];rw[bg.x3];cases σ1.bF (n0+i)with
 |none =>simp only[d_];split;rw[Fz];rfl
 |some x =>simp only[ai];rw[bg.pQ];split;rw[Fz];rfl
 exact h.elim;exact h.elim
theorem O4{a:cu Nat}:∀(l:cu Oper) (i:Nat) (s:bl) (bb:Nat) (acc:cu ri) (k:bl->Nat->cu ri->nf) (θ:Nat->bX) (A:Nat->eX->Prop),Fit θ ->
  mV T Φ Q (wW T Φ F ops n0 N a l i s bb acc k) θ A->∃c u e fs,bb<=e/\Fit c/\(∀j,j<bb->c j=θ j)/\zp T (vc Φ) ops n0 N a l i (s.sub θ)=Z (bl.sub c u,fs)/\mV T Φ Q (k u e (acc++fs)) c A
 | [],i,s,bb,acc,k,θ,A,q,h=>⟨θ,s,bb,[],ay _,q,λ_ _=>rfl,rfl,by rw[ba];exact h⟩
 |o::rest,i,s,bb,acc,k,θ,A,q,h=>by
  have fin:∀(s1:bl) (g:Nat->bX) (m:Nat) (f:ri),bb<=m->Fit g->(∀j,j<bb->g j=θ j)->v_ T (vc Φ) ops n0 N (a.getD i 0) i (Af o.op&&Ei ops a i) (s.sub θ) o=Z (bl.sub g s1,f) ->
    mV T Φ Q (wW T Φ F ops n0 N a rest (i+1) s1 m (acc++[f]) k) g A->∃c u e fs,bb<=e/\Fit c/\(∀j,j<bb->c j=θ j)/\zp T (vc Φ) ops n0 N a (o::rest) i (s.sub θ)=Z (bl.sub c u,fs)/\mV T Φ Q (k u e (acc++fs)) c A:=by
   intro s1 g m f C D E qJ hl;let ⟨G,S,H,fs,g1,g2,g3,g4,g5⟩:=O4 rest (i+1) s1 m (acc++[f]) k g A D hl;refine⟨G,S,H,f::fs,bD C g1,g2,λj hj=>(g3 j (by omega)).trans (E j hj),?_,by simpa using g5⟩;simp only[zp,qJ,g4]
  have skip:∀s0:bl,s0.sub θ=s.sub θ->s0.n=s.n->pv ops (s.sub θ) o=Z U->oz s.n o.dst=Y->v_ T (vc Φ) ops n0 N (a.getD i 0) i (Af o.op&&Ei ops a i) (s.sub θ) o=Z (bl.sub θ (s0.put o.dst (.b4 undef)),⟨[],[],U,0,U⟩):=λs0 h0 _ hw hd=>by have I:oz (s.sub θ).n o.dst=Y:=hd;unfold v_;rw[hw,I];have R:=bl.sf θ s0 s0.st o.dst (.b4 undef);have e4:({ s0 with st:=s0.st }:bl)=s0:=rfl;have e5:({ s0.sub θ with st:=s0.st.sub θ }:bl)=s0.sub θ:=rfl;rw[e4,e5,pN,h0]at R;rw[R]
  unfold wW at h;split at h;exact h.elim;rename_i hd;split at h;rename_i hw;let ⟨g,J,m,f,g1,g2,g3,g4,g5⟩:=aw2 (T:=T) (Φ:=Φ) (F:=F) (ops:=ops) (λp=>by rw[ab]at p;exact p.1) q (Fv θ hw) hd h;exact fin J g m f g1 g2 g3 g4 g5
  next hw=>
   exact fin _ θ bb _ (ay _) q (λ_ _=>rfl) (skip s rfl rfl (Fv θ hw) hd) h
  rename_i hw;split at h
  next j want t=>
   have v:∀b,θ j=.b4 (.bool b)->pv ops (s.sub θ) o=Z (b==want):=λb p=>by unfold JJ at t;unfold pv;split at t;cases t;rename_i j' w' K;rw[K];simp only;split at t;rename_i d M;rw[M];simp only;split at t;rename_i B;rw[bP]at B;rw[bl.P',cr B,bl.tB];split at t;rename_i i' O;cases t;rw[O,vl,p];cases t;cases t;cases t
   have both:∀b:Bool,θ j=.b4 (.bool b)->mV T Φ Q (match b==want with
     |true=>GP T Φ F n0 N (a.getD i 0) i (Af o.op&&Ei ops a i) o (s.mU (qp j b)) bb λs' e f=>wW T Φ F ops n0 N a rest (i+1) s' e (acc++[f]) k
     |false=>wW T Φ F ops n0 N a rest (i+1) ((s.mU (qp j b)).put o.dst (.b4 undef)) bb (acc++[⟨[],[],U,0,U⟩]) k) θ A->∃c u e fs,bb<=e/\Fit c/\(∀j,j<bb->c j=θ j)/\zp T (vc Φ) ops n0 N a (o::rest) i (s.sub θ)=Z (bl.sub c u,fs)/\mV T Φ Q (k u e (acc++fs)) c A:=λb p w=>by
    have x:=FY (θ:=θ) (j:=j) (b:=b) p s;have r:=v b p;split at w;rename_i z;rw[z]at r;rw[<-x]at r;let ⟨g,J,m,f,g1,g2,g3,g4,g5⟩:=aw2 (T:=T) (Φ:=Φ) (F:=F) (ops:=ops) (λp=>by rw[ab]at p;exact p.1) q r hd w;rw[x]at g4;exact fin J g m f g1 g2 g3 g4 g5;rename_i z;rw[z]at r;exact fin _ θ bb _ (ay _) q (λ_ _=>rfl) (skip _ x rfl r hd) w
   rcases h with⟨p,w⟩|⟨p,w⟩
   exact both Y p w;exact both U p w
  exact h.elim
include hΦ in
theorem am9:∀f args σ v σ',vc Φ f args σ=Z (v,σ')->oO P f args σ (λd a=>d=v/\a=σ')/\qb σ σ':=by intro f args σ v σ' h;unfold vc at h;split at h;rename_i φ b;split at h;rename_i c hc;cases h;exact⟨hΦ.vh f φ (lv.yE b).1 (lv.yE b).2 args v hc σ,.refl _⟩;cases h;cases h
variable (hm:P.follows .mixedOrders=Y)
def F3(P:Program)(n:Nat)(c:Code)(Q:Exit->bl->Prop):Nat->bl->Prop
 | 0,_=>False
 |j+1,s=>j5 P n c (Cw (F3 P n c Q j) Q) s
theorem F3.wp(h:F3 P n c Q' j s):j5 P n (.loop c) Q' s:=by
 refine j5.loop (F3 P n c Q') ?_ h;intro k s1 hk;cases k;exact hk.elim;rename_i k;refine j5.mono hk ?_;intro e s2 h2;cases e with
 |normal=>exact⟨k,Nat.lt_succ_self _,h2⟩
 |_=>exact h2
theorem WT(hex:A8 P T Φ Q ex){b:Code}{k:zu}{g:Nat->bX}{q:Nat->eX->Prop}:∀(j:Nat) (s:bl) (bb:Nat) (θ:Nat->bX) (A:Nat->eX->Prop),a<=bb->Fit θ->(∀i,i<a->θ i=g i)->(∀l,l<a->A l=q l) ->
  mV T Φ Q (PN ex n b k j s bb) θ A->F3 P n b (GQ T Φ Q a g q k) j (s.sub θ)
 | 0,s,bb,θ,A,_,_,_,_,h=>h.elim
 |j+1,s,bb,θ,A,t,m,h1,h2,h=>by
  refine j5.mono (hex n b s bb _ θ A m h) ?_;rintro e s' ⟨r,c,o,d,p,rfl,fa,gb,kc,yF,rfl,mn⟩;have g1:=λi a7=>(kc i (by omega)).trans (h1 i a7);have g2:=λl hl=>(yF l (by omega)).trans (h2 l hl);cases r with
  |nr=>exact WT hex j o d c p (by omega) gb g1 g2 mn
  |oA i=>exact⟨.oA i,c,o,d,p,rfl,by omega,gb,g1,g2,rfl,mn⟩
  |ret=>exact⟨.ret,c,o,d,p,rfl,by omega,gb,g1,g2,rfl,mn⟩
theorem Rz{h:Hint}{k:bl->nf}{B:zu}{A:Nat->eX->Prop}(hk:∀s θ,Fit θ->mV T Φ Q (k s) θ A->j5 P n c (GQ T Φ Q bb θ A B) (bl.sub θ s)):∀(m:Nat) (s:bl) (θ:Nat->bX),Fit θ ->
  mV T Φ Q (KC h bb k m s) θ A->j5 P n c (GQ T Φ Q bb θ A B) (bl.sub θ s)
 | 0,s,θ,d,hl=>hk s θ d hl
 |m+1,s,θ,d,hl=>by
  unfold KC at hl;split at hl;rename_i a x o;have b:s.st.bF a=Z x:=by
   have:∀(l:eX) (t:Nat),Dw s l t=Z (a,x)->s.st.bF a=Z x:=by
    intro l
    induction l with
    |nil=>intro t h;simp[Dw]at h
    |cons v l C =>intro t h;unfold Dw at h;split at h;split at h;rename_i D;cases h;exact D;exact C _ h;exact C _ h
   exact this _ _ o
  split at hl;rename_i j;let ⟨p,q,f1,r,hl⟩:=hl;simp only[iv]at r;split at r;rename_i g;have u:=bl.nL q j;rw[<-u];refine j5.freeze f1 b (W1 j b q g) (j5.mono (Rz hk m _ p f1 hl) λe s' hp=>?_);let ⟨E,w,G,z,H,fa,gb,kc,yF,oL,mn,wb⟩:=hp;exact⟨E,w,G,z,H,fa,gb,kc,λi a7=>(yF i a7).trans (q i a7),oL,mn,wb⟩;cases r;exact hl.elim;exact hk s θ d hl
theorem aq5{ng:cu Nat}(a:Fit θ)(h:LK T ops Uq ng s=Y):∀u∈Uq,ng.any (hasB ops · u)=U->Hg T ops (s.sub θ) u:=by intro u hu b;have:=aj.1 h u hu;rw[b,Bool.false_or]at this;split at this;rename_i o ho;split at this;rename_i t v σ' h1 h2;rw[ab]at this;have e:=funext λx=>bl.sub_eval θ s x;exact⟨o,v.sub θ,t,0,σ'.sub θ,ho,h1,this.1,by rw[e];exact J7 a (JS h2),by rw[bl.tB,GA _ _ _ this.2]⟩;cases this;cases this
theorem af7(a:Fit θ):∀ {us:cu Nat} {s s':bl},KX T ops us s=Z s'->Looks T ops us (s.sub θ) (s'.sub θ)
 | [],s,s',h=>by cases h;exact .nil _
 |u::us,s,s',h=>by unfold KX at h;split at h;rename_i o ho;split at h;rename_i v σ' h1 h2;rw[ab]at h1;have e:=funext λx=>bl.sub_eval θ s x;have b:=bl.sf θ s s.st o.dst v;have c:({ s with st:=s.st }:bl)=s:=rfl;have d:({ s.sub θ with st:=s.st.sub θ }:bl)=s.sub θ:=rfl;rw[c,d]at b;have:=af7 a h;rw[b]at this;exact .cons ho h1.1 h1.2 (by rw[e];exact J7 a (JS h2)) this;cases h;cases h
include cb hΦ dC in
theorem Rg(hex:A8 P T Φ Q ex){R:cu Nat}(b:LM ops Uq R):∀(r ng:cu Nat) (s:bl) (bb:Nat) (k:vC) (θ:Nat->bX) (A:Nat->eX->Prop),Fit θ ->
  mV T Φ Q (GJ T Φ F ex ops Uq ng r s bb k) θ A->vy P T ops Uq (Hk T Φ Q bb θ A k) ng r (s.sub θ)
 | [],ng,s,bb,k,θ,A,a,h=>by unfold GJ at h;split at h;rename_i qJ;exact⟨aq5 a qJ,θ,s,bb,A,ay _,a,λ_ _=>rfl,λ_ _=>rfl,rfl,h⟩;exact h.elim
 |i::r,ng,s,bb,k,θ,A,a,h=>by unfold GJ at h;split at h;rename_i o ho;split at h;rename_i qJ;rw[ab]at qJ;refine⟨aq5 a qJ.1,Hy.bq7 ho (b.I3 i o ho) (b.PW i o · · ho) ?_⟩;refine Lp (n:=s.st.next) (n0:=s.st.next) (rest:=[]) (s:={ s with st:={ s.st with next:=s.st.next+ops.size } }) cb hΦ dC hex ho (by simp) a (by unfold pv;rw[b.I3 i o ho]) qJ.2 (λs' c d m g1 g2 g3 g4 g5=>nn.nil ?_) h;have h1:=Rg hex b r (ng++[i]) s' c k d m g2 g5;refine vy.mono (λs2 ⟨e,p,g,q,fa,gb,kc,yF,oL,mn⟩=>⟨e,p,g,q,bD g1 fa,gb,λj hj=>(kc j (by omega)).trans (g3 j hj),λl hl=>(yF l (by omega)).trans (g4 l hl),oL,mn⟩) _ _ _ h1;exact h.elim;exact h.elim
include cb hΦ dC hm in
theorem JR{H:Nat->dv Hint}:∀m,A8 P T Φ Q (exec T Φ F H m)
 | 0=>λn c s bb k θ A _ h=>by simp[exec,mV]at h
 |m+1=>by
  intro n c s bb k θ A o h;have J:=JR (H:=H) m;have self:∀e,mV T Φ Q (k e s bb) θ A->GQ T Φ Q bb θ A k (qQ.qP e) (s.sub θ):=λe hh=>⟨e,θ,s,bb,A,rfl,ay _,o,λ_ _=>rfl,λ_ _=>rfl,rfl,hh⟩;unfold exec at h;split at h;exact j5.y4 (nw.skip (self .nr h));exact j5.y4 (nw.label (self .nr h));rename_i id ops;refine j5.region ?_;have:=P2 cb hΦ dC J (n0:=s.st.next) (n:=n) ops.toList 0 _ bb _ θ A (λj=>by simp) (by simp) o h;simp only[Array.length_toList]at this;rw[List.range_eq_range'];intro G a w g1 g2 g3 g4;refine sh ?_ _ _ _ (this G a w g1 g2 g3 g4);rintro e a' w' ⟨e1,s2,G2,b1,b2,g,K,r,E,q⟩;exact⟨e1,s2,G2,b1,b2,.nr,g,K,r,E,rfl,q⟩;rename_i id ops;split at h;rename_i qJ;rw[ab]at qJ;split at h;rename_i B hlk;have hS:=bX2 qJ.2;refine j5.bL4 cb hS hm (af7 o hlk) ?_;refine vy.mono (λs2 ⟨g,K,r,E,fa,gb,kc,yF,oL,mn⟩=>⟨.nr,g,K,r,E,rfl,fa,gb,kc,yF,oL,mn⟩) _ _ _ (Rg cb hΦ dC J hS _ _ _ _ _ _ _ o h);exact h.elim;split at h;rename_i l0 t hbar;let ⟨hops0,hlw⟩:=X5 hbar;have hops:ops=⟨l0++t⟩:=by apply Array.ext';rw[<-hops0];simp
  split at h;rename_i qJ;let ⟨z,B,fr',fs,g1,g2,g3,g4,g5⟩:=O4 (T:=T) (Φ:=Φ) (F:=F) (ops:=(⟨l0⟩:Array Oper)) l0 0 _ bb [] _ θ A o h;simp only[br]at g5;split at g5;rename_i wV;subst hops;refine j5.bg9 cb hm (cl:=vc Φ) (am9 hΦ) hlw (s':=bl.sub z B) ?_ ?_;unfold BQ;rw[cr qJ];have e:({ s.sub θ with st:={ (s.sub θ).st with next:=(s.sub θ).st.next+(⟨l0⟩:Array Oper).size } }:bl)=bl.sub θ { s with st:={ s.st with next:=s.st.next+aa l0 } }:=rfl;rw[e];have e2:(s.sub θ).st.next=s.st.next:=rfl;rw[e2];have e3:(⟨l0⟩:Array Oper).size=aa l0:=rfl;rw[e3,g4];simp only;rw[cr wV];have e4:({ bl.sub z B with st:={ (bl.sub z B).st with next:=(bl.sub z B).st.next+aa (l0++t) } }:bl)=bl.sub z { B with st:={ B.st with next:=B.st.next+aa (l0++t) } }:=rfl;rw[e4];have:=P2 cb hΦ dC J (ops:=(⟨l0++t⟩:Array Oper)) (n0:=B.st.next) (n:=n) t (aa l0) { B with st:={ B.st with next:=B.st.next+aa (l0++t) } } fr' (k .nr · ·) z A (λj=>by rw[List.getElem?_toArray,eh (by omega),gE]) (by simp) g2 g5;intro G a w fa gb kc yF;refine sh ?_ _ _ _ (this G a w fa gb kc yF);rintro e a' w' ⟨e1,s2,G2,b1,b2,g,K,r,E,r1,r2,r3,r4,r5,r6⟩;exact⟨e1,s2,G2,b1,b2,.nr,g,K,r,E,rfl,bD g1 r1,r2,λi a7=>(r3 i (by omega)).trans (g3 i a7),λl hl=>r4 l (by omega),r5,r6⟩;exact g5.elim;exact h.elim;split at h;rename_i qJ;let ⟨z,B,fr',fs,g1,g2,g3,g4,g5⟩:=O4 (T:=T) (Φ:=Φ) (F:=F) ops.toList 0 _ bb [] _ θ A o h;simp only[br]at g5;split at g5;rename_i wV;refine j5.y4 (nw.drawn cb hm (cl:=vc Φ) (am9 hΦ) (s':=bl.sub z B) ?_ ⟨.nr,z,B,fr',A,rfl,g1,g2,g3,λ_ _=>rfl,rfl,g5⟩);unfold BQ;rw[cr qJ];have e:({ s.sub θ with st:={ (s.sub θ).st with next:=(s.sub θ).st.next+ops.size } }:bl)=bl.sub θ { s with st:={ s.st with next:=s.st.next+ops.size } }:=rfl;rw[e];have e2:(s.sub θ).st.next=s.st.next:=rfl;rw[e2,g4];simp only;rw[cr wV];exact g5.elim;exact h.elim;rename_i a b;refine j5.seq (j5.mono (J n a s bb _ θ A o h) ?_);rintro e s' ⟨S,d,M,u,N,rfl,fa,gb,kc,yF,rfl,mn⟩;cases S with
  |nr =>refine j5.mono (J n b M u k d N gb mn) ?_;rintro e2 s2 ⟨e2',g,K,r,E,rfl,r1,r2,r3,r4,r5,r6⟩;exact⟨e2',g,K,r,E,rfl,bD fa r1,r2,λi a7=>(r3 i (by omega)).trans (kc i a7),λl hl=>(r4 l (by omega)).trans (yF l hl),r5,r6⟩
  |oA j=>exact⟨.oA j,d,M,u,N,rfl,fa,gb,kc,yF,rfl,mn⟩
  |ret=>exact⟨.ret,d,M,u,N,rfl,fa,gb,kc,yF,rfl,mn⟩
  rename_i x a b;split at h;rename_i t hx;refine j5.cond (t:=t) (by rw[bl.sub_eval,hx,pN]) ?_;exact J n _ s bb k θ A o h;rename_i i hx;have hev:∀t,θ i=.b4 (.bool t)->(s.sub θ).eval x=.b4 (.bool t):=λt ht=>by rw[bl.sub_eval,hx,vl,ht]
  rcases h with⟨O,hh⟩|⟨O,hh⟩
  refine j5.cond (t:=Y) (hev Y O) ?_;have:=J n a _ bb k θ A o hh;rw[FY O]at this;exact this;refine j5.cond (t:=U) (hev U O) ?_;have:=J n b _ bb k θ A o hh;rw[FY O]at this;exact this;exact h.elim;rename_i id b;refine j5.block (j5.mono (J n b s bb _ θ A o h) ?_);rintro e s' ⟨S,d,M,u,N,rfl,fa,gb,kc,yF,rfl,mn⟩;cases S with
  |nr=>exact⟨.nr,d,M,u,N,rfl,fa,gb,kc,yF,rfl,mn⟩
  |ret=>exact⟨.ret,d,M,u,N,rfl,fa,gb,kc,yF,rfl,mn⟩
  |oA j =>simp only[qQ.qP,JB];simp only at mn;split;rename_i e;rw[cr e]at mn;exact⟨.nr,d,M,u,N,rfl,fa,gb,kc,yF,rfl,mn⟩;rename_i e;rw[cc e]at mn;exact⟨.oA j,d,M,u,N,rfl,fa,gb,kc,yF,rfl,mn⟩
  rename_i b;split at h;rename_i hint hH;refine Rz (λs θ o h=>?_) 4 s θ o h;split at h;rename_i inits hm hbd;let ⟨I,⟨n1,hI0⟩,R⟩:=h;let ⟨v1,v2,v3,ι,hren⟩:=IJ o hm;refine j5.conv hren ?_;have C:∀(j9:eX) (d:Nat->bX) i,i<bb->(qC bb j9 i).sub d=d i:=λj9 d i a7=>by
   unfold qC;have:dI bb i=U:=by
    cases O:dI bb i with
    |false=>rfl
    |true=>have:=a_ O;omega
   rw[this];simp
  have D:∀(j9:eX) (d:Nat->bX) j (hj:j<aa j9),(qC bb j9 (bb+j)).sub d=(j9[j]).sub d:=λj9 d j hj=>by unfold qC;rw[Nat.ble_eq_true_of_le (aZ bb j)];simp[hj]
  have pad:∀(j9:eX) (d:Nat->bX),aa j9=hint.k->(∀i,i<bb->d i=θ i)->(∀j (hj:j<aa j9),d (bb+j)=j9[j])->Fit d->∃g,(∀i,i<bb->g i=θ i)/\(∀j (hj:j<aa j9),g (bb+j)=j9[j])/\g (bb+hint.k)=.b4 (.bool U)/\Fit g/\hint.state.sub d=hint.state.sub g:=λj9 d q5 nj rM s_=>by refine⟨λi=>ite (i=bb+hint.k) (.b4 (.bool U)) <|d i,λi a7=>?_,λj hj=>?_,by simp,λi=>?_,?_⟩;simp only[show ¬i=bb+hint.k by omega,l4];exact nj i a7;simp only[show ¬bb+j=bb+hint.k by omega,l4];exact rM j hj;show nN (ite (i=bb+hint.k) (.b4 (.bool U)) <|d i);split;trivial;exact s_ i;refine(bl.nL (λi a7=>?_) hbd).symm;simp only[show ¬i=bb+hint.k by omega,l4]
  refine j5.loop (λk1 s1=>∃j9 d,I k1 j9/\aa j9=hint.k/\(∀v∈j9,nN v)/\(∀i,i<bb->d i=θ i)/\(∀j (hj:j<aa j9),d (bb+j)=j9[j])/\Fit d/\s1=hint.state.sub d) ?_ (k:=n1) ?_;rintro k1 s1 ⟨j9,θ0,g1,g2,g3,g40,g50,g60,rfl⟩;let ⟨d,g4,g5,g5',g6,g7⟩:=pad j9 θ0 g2 g40 g50 g60;rw[g7];have O:=J n b hint.state (bb+hint.k+1) _ d _ g6 (R k1 j9 g1 g2 g3 d g4 g5 g5' g6);refine j5.Va (j5.mono O ?_);rintro e s' ⟨S,g,K,r,E,rfl,fa,gb,kc,yF,rfl,mn⟩;have hA2:E bb=λp=>∃m,m<k1/\I m p:=by rw[yF bb (by omega)];simp
  have hlo:∀i,i<bb->g i=θ i:=λi a7=>(kc i (by omega)).trans (g4 i a7);have hAlo:∀l,l<bb->E l=A l:=λl hl=>by rw[yF l (by omega)];simp[Nat.ne_of_lt hl]
  cases S with
  |nr =>left;simp only at mn;split at mn;rename_i p hm';let ⟨w1,w2,w3,ι',hren'⟩:=IJ gb hm';refine⟨ι',_,hren',?_⟩;simp only[qQ.qP,Cw];have wb:E bb (p.map (bX.sub g)):=mn;rw[hA2]at wb;let ⟨m1,hm1,hI1⟩:=wb;refine⟨m1,hm1,p.map (bX.sub g),_,hI1,by simpa using w1,λv hv=>?_,λi a7=>by rw[C];exact hlo i a7;exact a7,λj hj=>?_,w3,rfl⟩;obtain⟨v0,hv0,rfl⟩:=aN.1 hv;exact w2 v0 hv0;simp only[aI]at hj;rw[D p g j hj];simp;exact mn.elim
  |oA j=>right;exact⟨.oA j,g,K,r,E,rfl,by omega,gb,hlo,hAlo,rfl,mn⟩
  |ret=>right;exact⟨.ret,g,K,r,E,rfl,by omega,gb,hlo,hAlo,rfl,mn⟩
  refine⟨inits.map (bX.sub θ),_,hI0,by simpa using v1,λv hv=>?_,λi a7=>C _ _ i a7,λj hj=>?_,v3,rfl⟩;obtain⟨v0,hv0,rfl⟩:=aN.1 hv;exact v2 v0 hv0;simp only[aI]at hj;rw[D inits θ j hj];simp;exact h.elim;exact(WT J 1000 s bb θ A (ay _) o (λ_ _=>rfl) (λ_ _=>rfl) h).wp;exact j5.y4 (nw.exit (self (.oA _) h));exact j5.y4 (nw.ret (self .ret h));rename_i b;refine j5.scope (j5.mono (J n b s bb _ θ A o h) ?_);rintro e s' ⟨S,d,M,u,N,rfl,q⟩;exact⟨by cases S<;>trivial,S,d,M,u,N,rfl,q⟩;exact h.elim
include cb hΦ dC hm in
theorem bj2 {H:Nat->dv Hint} {m:Nat}  {fn:Func}  (s:F f=Z fn) (n:(fn.name== "runtime.NumGoroutine")=U) (t:fn.body=Z c) {a:eX} (D:aa a<=fn.ntmps) (hp:q2 a=Y)
   (q:Fit θ) {r:bX} (h:mV T Φ (·=r) (exec T Φ F H m 0 c (bl.enter fn.ntmps a bg.none) bb (JC T fn)) θ (λ_ _=>False)):oX P ⟨f,a.map (bX.sub θ),r⟩:=by
 refine oX.DS cb (dC f fn s) n t (by simpa using D) (by rw[<-uv,<-pT];exact vH q a hp) ?_;have:=JR cb hΦ dC hm (H:=H) m 0 c _ bb _ θ _ q h;rw[FP]at this;refine j5.mono this ?_;rintro e s' ⟨C,i,p,E,I,rfl,_,f1,_,_,rfl,hl⟩;have fin:∀g,C=g->(g=.nr\/g=.ret)->(g.qP=.normal\/g.qP=.ret)/\∃v,pc T fn (p.sub i)=Z v/\∀G w u pl,Rel G (p.sub i).st w->eR G v u->eR (G.frozen (p.sub i).st w pl) r u:=by
  intro g he uG;subst he;refine⟨by rcases uG with rfl|rfl<;>simp[qQ.qP],?_⟩;have d:mV T Φ (·=r) (match pc T fn p with
   |some v=>match v.qA with
    |true=>.ret v.rJ []
    |false=>match pX p.st 50 v with
     |some c=>.ret c.rJ (pZ p.st.mZ)
     |none=>.stuck
   |none=>.stuck) i I:=by rcases uG with rfl|rfl<;>exact hl
  split at d;rename_i v hv;refine⟨v.sub i,Db hv,?_⟩;intro G w u pl l hrep;split at d;rename_i x;let ⟨_,B⟩:=d;rw[<-B];exact BN v u (rr (λb o t=>tc l t) hrep (BB f1 v x));split at d;rename_i c hc;let ⟨k,B⟩:=d;rw[<-B];exact BN c u (DA f1 l pl (λid e z j ho=>k j (Bv ho)) (λid j ho=>k j (Bo ho)) 50 v c u hc hrep);exact d.elim;exact d.elim
 cases C with
 |oA j=>exact hl.elim
 |nr=>exact fin .nr rfl (.inl rfl)
 |ret=>exact fin .ret rfl (.inr rfl)
end
section
variable {T:bY} {Φ:lv} {Q:bX->Prop} {θ:Nat->bX} {A:Nat->eX->Prop}
end
@[simp] theorem ce7 (k:IntKind) (n:Int):nN (.b4 (.int k n)):=trivial
@[simp] theorem ce6 (b:Bool):nN (.b4 (.bool b)):=trivial
@[simp] theorem ce8 (b:ByteArray):nN (.b4 (.string b)):=trivial
def Cs:cu (Nat×Hint)->Nat->dv Hint
 | [],_=>W
 | (g,h)::l,f=>match aw g f with
  |true=>Z h
  |false=>Cs l f
def Gb(T:bY)(Φ:lv)(F:FuncId->dv Func)(H:cu (Nat×Hint))(m:Nat)(f:FuncId)(a:eX)(bb:Nat):nf :=
 match F f with
 |some fn=>match fn.body with
  |some c=>match !(fn.name== "runtime.NumGoroutine")&&dI (aa a) fn.ntmps&&q2 a with
   |true=>exec T Φ F (Cs H) m 0 c (bl.enter fn.ntmps a bg.none) bb (JC T fn)
   |false=>.stuck
  |none=>.stuck
 |none=>.stuck
def bU7{P:Program}{T:bY}(cb:rk P T){Φ:lv}(b:Ak P Φ){F:FuncId->dv Func}(dC:∀f fn,F f=Z fn->P.funcs[f]?=Z fn)(hm:P.follows .mixedOrders=Y){H:cu (Nat×Hint)}{m:Nat}{f:FuncId}{a:eX}{bb:Nat}
  {θ:Nat->bX} (c:Fit θ) {r:bX} (h:mV T Φ (·=r) (Gb T Φ F H m f a bb) θ (λ_ _=>False)):oX P ⟨f,a.map (bX.sub θ),r⟩:=by
 unfold Gb at h;split at h;split at h;split at h
 grind[ bj2,a_]
 exact h.elim;exact h.elim;exact h.elim
def env(l:eX)(i:Nat):bX:=(l[i]?).getD (.b4 (.bool U))
theorem Fit.env{l:eX}(h:∀v∈l,nN v):Fit (env l):=λi=>by
 unfold Go.Ab.env;cases a7:l[i]? with
 |none=>trivial
 |some v=>exact h v (aH a7)
open Go Go.RowKit Go.WideShapes Go.ChangeShapes
variable {args:Array Value}
section
variable {H:Type} {enc:TypeId×Value->H} {P:Program} {N:Nat}
theorem VL(hl:laidOutB P=Y){kO d:World}(f:Below kO.heap.size kO d){sp:Nat->Bool}:∀ {ts:cu TypeId} {vs:cu Value} {g:cu (DataW H)} {ps:cu MemPlace},(∀t∈ts,P.readableRec t=Y/\t<P.types.size) ->
  ig enc P kO 0 (λ_=>Y) Y ts vs g ps->(∀p∈ps,p.block<kO.heap.size)->(∀p∈ps,sp p.block=Y)->ig enc P d 0 sp Y ts vs g ps
 | [],[],[],_,_,h,_,_=>h
 |t::ts,_::_,_::_,_,c,⟨p,q,h1,h2,e⟩,b,hs=>by refine⟨p,q,?_,?_,e⟩;exact WideElems.Trod_stays hl (c t (by simp)).1 (c t (by simp)).2 h1 (λx a=>f.same (b x (by rw[e];simp[a]))) (λx a=>hs x (by rw[e];simp[a]));exact VL hl f (λu hu=>c u (by simp[hu])) h2 (λx a=>b x (by rw[e];simp[a])) (λx a=>hs x (by rw[e];simp[a]))
def aK9(hl:laidOutB P=Y){f:Func}{s:ChangeSpec}{apart fresh handsOn again:Bool}{kO h:World}{d gs:cu (DataW H)}{before:cu MemPlace}{w:TypeId}
  (hv:s.vars=[]) (u:∀t∈f.params.toList,P.readableRec t=Y/\t<P.types.size) (i:f.resultTypes=#[w]) (k:P.underlying w=Z .bool)
  (l:(s.fn H (d++gs)).results=[.lit (.bool Y)]/\(s.fn H (d++gs)).args=d/\(s.fn H (d++gs)).vars=[])
  (z:DataW.Whole enc P f.params.toList s.vars apart kO args.toList d gs before) (B:Below kO.heap.size kO h):s.post enc P f apart fresh handsOn again kO args (.bool Y) h:=by
 have m:=z;obtain⟨p,q,D,C,rfl,hz,E⟩:=z;rw[hv]at C;obtain⟨rfl,rfl⟩:=trodVars_none C;have n:=λx e=>m.lt x e;have g:∀(b:Nat) (sp:Nat->Bool) (hd:Bool),ig enc P h b sp hd f.resultTypes.toList ((mf Y).resultList f.resultTypes.size) (s.fn H (d++[])).results []:=λb sp hd=>by rw[i,l.1];exact trodAll_mk1 (shut_bool k _)
 have a:∀sp:Nat->Bool,(∀x∈p++[],sp x.block=Y)->ig enc P h 0 sp Y f.params.toList args.toList (s.fn H (d++[])).args p:=λsp hsp=>by grind[VL]
 have c:∀sp:Nat->Bool,(∀x∈p++[],sp x.block=Y)->DataW.TrodVars enc P h sp s.vars (s.fn H (d++[])).vars []:=λsp _=>by rw[hv,l.2.2];rfl
 have v:∀(j:Nat) (t:TypeId) (r:Value),f.resultTypes[j]?=Z t->((mf Y).resultList f.resultTypes.size)[j]?=Z r->gZ P h .any 0 t r:=ok_one i rfl (okWide_bool_mk k _);have hold:∀x∈p++[],(λb=>No (b<kO.heap.size)) x.block=Y:=λx e=>by simpa using n x e
 refine⟨d,[],p++[],[],p,[],m,g _ _ _,a _ hold,c _ hold,World.keptBut_mono (λx e=>⟨e,?_⟩) (B.frame (·∈p++[])),λ_=>?_⟩;exact Or.inr (by simpa using e);refine⟨v,_,_,([]++p)++[],⟨[]++p,[],trodAll_append (a _ (λ_ _=>rfl)) (g _ _ _),c _ (λ_ _=>rfl),rfl,?_,?_⟩,?_⟩;intro b off hp;have o:MemPlace.cell b off∈p++[]:=by simpa using hp
 rw[B.frozen (n _ o)];exact hz b off o
 grind
 intro x e _;simpa using e
theorem bU3{kO:World}{base:Nat}{t:TypeId}{fs:Array Field}{v:Value}{d:DataW H}{p:cu MemPlace}{k:Nat}(b:P.underlying t=Z (.struct fs))(hp:BU P k t=Y)(hv:gZ P kO .any base t v)
  (h:mg enc P kO 0 (λ_=>Y) Y t v d p) (c:∀n∈d.weights P t,n<=N):∃cs,eR (ca.tv kO) (.agg cs) v/\pU P N t cs:=by
 let ⟨fuel,hf⟩:=h;let ⟨avs,h1,h2⟩:=O0 k t hp fuel _ _ hf c;unfold gZ at hv;rw[b]at hv;obtain⟨cs,rfl,_⟩:=hv;refine⟨avs,?_,h2⟩;have a:=h1;have:=eR.agg (G:=ca.tv kO) avs cs.toList a.1 a.2;simpa using this
def aF4 {f:FuncId} {fn:Func} {avs:eX} (d:P.funcs[f]?=Z fn) (a:(fn.name== "runtime.NumGoroutine")=U) (b:fn.body.isNone=U) (hm:oX P ⟨f,avs,.b4 (.bool Y)⟩)
  {kO:World}  (c:hE (ca.tv kO) avs args.toList) (h:QL kO):Calls P f args kO λe g=>e=.returned (.bool Y)/\Below kO.heap.size kO g:=by
 have:=oX.calls d a b hm c (Rel.tv h);refine this.mono ?_;rintro e g ⟨v,G',rfl,i,_,_,j⟩;cases i;exact⟨rfl,j⟩
def aT2{kO:World}{t:TypeId}{a:IntKind}{v:Value}{d:DataW H}{p:cu MemPlace}(b:P.underlying t=Z (.int a))
  (h:mg enc P kO 0 (λ_=>Y) Y t v d p) (hv:v.cells.toList=[v]):∃n,v=.int a n/\(Lit.int a n).wf=Y:=by
 let ⟨fuel,hf⟩:=h;grind[DataW.trod_int]
end
variable {i k:Nat}
def Mv(k:Nat):dv bX->Bool
 |none=>Y
 |some x=>x.ff k
def nU.ff(k:Nat):nU->Bool
 | .bin _ _ x y=>x.ff k&&y.ff k
 | .un _ x=>x.ff k
 | .conv _ _ x=>x.ff k
 | .idx _ x i=>x.ff k&&i.ff k
 | .index _ x i=>x.ff k&&i.ff k
 | .Cq _ x b7 a7=>x.ff k&&(Mv k b7&&Mv k a7)
 | .len _ x=>x.ff k
 | .pP l=>rL k l
 | .yT l=>rL k l
 | .cat _ _ x y=>x.ff k&&y.ff k
 | .call _ args _=>rL k args
 | .rows l=>l.all λj=>cL j k
 | .look _ c ix _=>c.ff k&&ix.ff k
 | .xS _ c ix _=>c.ff k&&ix.ff k
 | .qe _ c ix v=>c.ff k&&(ix.ff k&&v.ff k)
 | .B_ _ c=>c.ff k
 | .Aq=>Y
 | .B0 x=>x.ff k
 | .As _ x=>x.ff k
 | .CE _ x=>x.ff k
 | .BR _ _=>Y
 | .B1 x=>x.ff k
 | .more s p=>s.ff k&&p.ff k
 | .Cm s p=>s.ff k&&p.ff k
 | .Cd _ x=>x.ff k
 | .AG c i _=>c.ff k&&i.ff k
 | .z7 _ c i=>c.ff k&&i.ff k
 | .x4 _ _ _ c i _=>c.ff k&&i.ff k
 | .za _ _ _ c i _ v=>c.ff k&&(i.ff k&&v.ff k)
def Dn{θ b:Nat->bX}(h:∀i,i<k->b i=θ i):∀l:eX,rL k l=Y->l.map (bX.sub b)=l.map (bX.sub θ)
 | [],_=>rfl
 |a::l,c=>by simp only[rL,ab]at c;simp only[aD,nL h a c.1,Dn h l c.2]
def X'{θ b:Nat->bX}(h:∀i,i<k->b i=θ i):∀l:dv bX,Mv k l=Y->l.map (bX.sub b)=l.map (bX.sub θ)
 |none,_=>rfl
 |some a,c=>by simp only[ai,nL h a c]
def bH3{T:bY}{Φ:lv}{θ q:Nat->bX}(h:∀i,i<k->q i=θ i)(o:nU)(m:o.ff k=Y):iv T Φ q o=iv T Φ θ o:=by
 cases o with
 |bin o t x y=>simp only[nU.ff,ab]at m;simp only[iv,nL h _ m.1,nL h _ m.2]
 |un o x=> simp only[iv,nL h _ m]
 |conv s d x=> simp only[iv,nL h _ m]
 |idx t x i=>simp only[nU.ff,ab]at m;simp only[iv,nL h _ m.1,nL h _ m.2]
 |index t x i=>simp only[nU.ff,ab]at m;simp only[iv,nL h _ m.1,nL h _ m.2]
 |Cq t x b7 a7=>simp only[nU.ff,ab]at m;simp only[iv,nL h _ m.1,X' h _ m.2.1,X' h _ m.2.2]
 |len t x=> simp only[iv,nL h _ m]
 |pP l=> simp only[iv,Dn h _ m]
 |yT l=> simp only[iv,Dn h _ m]
 |cat s x a b=>simp only[nU.ff,ab]at m;simp only[iv,nL h _ m.1,nL h _ m.2]
 |call f args flat=> simp only[iv,Dn h _ m]
 |look t c ix ok=>simp only[nU.ff,ab]at m;simp only[iv,nL h _ m.1,nL h _ m.2]
 |xS t c ix ok=>simp only[nU.ff,ab]at m;simp only[iv,nL h _ m.1,nL h _ m.2]
 |qe t c ix v=>simp only[nU.ff,ab]at m;simp only[iv,nL h _ m.1,nL h _ m.2.1,nL h _ m.2.2]
 |B_ t c=> simp only[iv,nL h _ m]
 |Aq=>rfl
 |BR t g=>rfl
 |B1 x=> simp only[iv,nL h _ m]
 |more s p=>simp only[nU.ff,ab]at m;simp only[iv,nL h _ m.1,nL h _ m.2]
 |Cd ck x=> simp only[iv,nL h _ m]
 |Cm s p=>simp only[nU.ff,ab]at m;simp only[iv,nL h _ m.1,nL h _ m.2]
 |AG c i off=>simp only[nU.ff,ab]at m;simp only[iv,nL h _ m.1,nL h _ m.2]
 |B0 x=> simp only[iv,nL h _ m]
 |As n x=> simp only[iv,nL h _ m]
 |CE t x=> simp only[iv,nL h _ m]
 |z7 t c i=>simp only[nU.ff,ab]at m;simp only[iv,nL h _ m.1,nL h _ m.2]
 |x4 t e z c i off=>simp only[nU.ff,ab]at m;simp only[iv,nL h _ m.1,nL h _ m.2]
 |za t e z c i off v=>simp only[nU.ff,ab]at m;simp only[iv,nL h _ m.1,nL h _ m.2.1,nL h _ m.2.2]
 |rows l=>
  simp only[nU.ff,aj,bP]at m;have e:∀g:bX->Bool,l.all (λj=>g (q j))=l.all (λj=>g (θ j)):=λg=>by rw[Bool.eq_iff_iff,aj,aj];constructor;intro H j hj;rw[<-h j (m j hj)];exact H j hj;intro H j hj;rw[h j (m j hj)];exact H j hj
  exact Ar (λb=>match b with|true=>Z (bX.b4 (.bool Y))|false=>W) (e (λv=>match v with| .rs _=>Y|_=>U))
mutual
def bX.top:bX->Nat
 | .ey i=>i+1
 | .fT cs=>KJ cs
 | .agg cs=>KJ cs
 | .ed cs=>KJ cs
 |_=>0
def KJ:eX->Nat
 | []=>0
 |c::cs=>max c.top (KJ cs)
end
def nf.ff:nf->Nat->Bool
 | .stuck,_=>Y
 | .ret c l,m=>c.ff m&&l.all λj=>cL j m
 | .op o bb pat r,m=>aw bb m&&(o.ff m&&(pat.ff (max m pat.top)&&r.ff (max m pat.top)))
 | .test i a b,m=>cL i m&&(a.ff m&&b.ff m)
 | .loop l _ inits _,m=>aw l m&&rL m inits
 | .again _ j9,m=>rL m j9
def mV.agree{T:bY}{Φ:lv}{Q:bX->Prop}:∀(r:nf) {m:Nat} {θ d:Nat->bX} {A:Nat->eX->Prop},r.ff m=Y->Fit d->(∀i,i<m->d i=θ i)->mV T Φ Q r θ A->mV T Φ Q r d A
 | .stuck,_,_,_,_,_,_,_,h=>h.elim
 | .ret c l,m,θ,d,A,e,hf,ha,h=>by simp only[nf.ff,ab,aj,bP]at e;refine⟨λj hj=>?_,?_⟩;rw[ha j (e.2 j hj)];exact h.1 j hj;rw[nL ha c e.1];exact h.2
 | .op o bb pat r,m,θ,d,A,e,hf,ha,⟨f,h1,h2,w,x⟩=>by
  simp only[nf.ff,ab,cy]at e;obtain⟨rfl,s,t,u⟩:=e;have p:∀i,i<max bb pat.top->(λi=>ite (i<bb) (d i) <|f i) i=f i:=λi _=>by by_cases a7:i<bb;simp only[a7,vE];rw[ha i a7,h1 i a7];simp only[a7,l4]
  have g:=λi=>by show nN (ite (i<bb) (d i) <|f i);split;exact hf i;exact h2 i
  refine⟨λi=>ite (i<bb) (d i) <|f i,λi a7=>by simp[a7],g,?_,?_⟩;rw[bH3 ha o s,w,nL p pat t];exact mV.agree r u g p x
 | .test i a b,m,θ,d,A,e,hf,ha,h=>by
  simp only[nf.ff,ab,bP]at e;rcases h with⟨h1,h2⟩|⟨h1,h2⟩
  exact .inl ⟨by rw[ha i e.1];exact h1,mV.agree a e.2.1 hf ha h2⟩;exact .inr ⟨by rw[ha i e.1];exact h1,mV.agree b e.2.2 hf ha h2⟩
 | .loop l k inits body,m,θ,d,A,e,hf,ha,⟨I,h1,h2⟩=>by simp only[nf.ff,ab,cy]at e;obtain⟨rfl,e⟩:=e;exact⟨I,by rw[Dn ha inits e];exact h1,λn j9 a7 hl hv v q=>h2 n j9 a7 hl hv v (λi a7=>by rw[q i a7,ha i a7])⟩
 | .again l j9,m,θ,d,A,e,hf,ha,h=>by simp only[nf.ff]at e;show A l _;rw[Dn ha j9 e];exact h
def sQ(T:bY)(Φ:lv)(Q:bX->Prop)(r:nf)(L:eX)(A:Nat->eX->Prop):Prop:=(∀v∈L,nN v)->mV T Φ Q r (env L) A
section
variable {T:bY} {Φ:lv} {Q:bX->Prop} {L:eX} {A:Nat->eX->Prop}
def S3{L vs:eX}(h:i<aa L):env (L++vs) i=env L i:=by unfold env;rw[jm h]
def sQ.OV{o:nU}{bb:Nat}{pat:bX}{r:nf}(vs:eX)(he:iv T Φ (env L) o=Z (pat.sub (env (L++vs))))(c:aa L=bb)(hv:∀v∈vs,nN v)(h:sQ T Φ Q r (L++vs) A):sQ T Φ Q (.op o bb pat r) L A:=λb=>by
 have a:∀v∈L++vs,nN v:=λv hm=>by
  rcases aV.1 hm with hm|hm
  exact b v hm;exact hv v hm
 exact⟨env (L++vs),λi a7=>S3 (by omega),Fit.env a,he,h a⟩
def sQ.test{a b:nf}(t:Bool)(a7:env L i=.b4 (.bool t))(h1:t=Y->sQ T Φ Q a L A)(h2:t=U->sQ T Φ Q b L A):sQ T Φ Q (.test i a b) L A:=λc=>by cases t;exact .inr ⟨a7,h2 rfl c⟩;exact .inl ⟨a7,h1 rfl c⟩
def sQ.Py{c:bX}{l:cu Nat}(hl:∀j∈l,∃es,env L j=.rs es)(h:Q (c.sub (env L))):sQ T Φ Q (.ret c l) L A:=λ_=>⟨hl,h⟩
def sQ.loop{l:Nat}{inits:eX}{body:nf}(I:Nat->eX->Prop)(d:aa L=l)(e:body.ff (l+k+1)=Y)(n0:Nat)(f:I n0 (inits.map (bX.sub (env L))))
  (h:∀n j9,I n j9->aa j9=k->sQ T Φ Q body (L++(j9++[.b4 (.bool U)])) (λc=>ite (c=l) (λa=>∃m,m<n/\I m a) <|A c)):sQ T Φ Q (.loop l k inits body) L A:=λg=>by
 refine⟨I,⟨n0,f⟩,λn j9 a7 hl hv o h1 h2 p hf=>?_⟩;have b:∀v∈L++(j9++[.b4 (.bool U)]),nN v:=λv hm=>by
  rcases aV.1 hm with hm|hm
  exact g v hm;rcases aV.1 hm with hm|hm
  exact hv v hm;simp only[bz]at hm;subst hm;trivial
 refine mV.agree body e hf (λi a7=>?_) (h n j9 a7 hl b);subst d;by_cases c1:i<aa L;rw[S3 c1];exact h1 i c1;obtain⟨j,rfl⟩:∃j,i=aa L+j:=⟨i-aa L,by omega⟩;by_cases c2:j<aa j9;rw[h2 j c2];unfold env;rw[eh (by omega),gE,jm c2];simp[c2];have:j=k:=by omega
 subst this;unfold env;rw[eh (by omega),gE,eh (by omega),hl,p];simp
end
variable {o:Oper}{t:Nat}{x:Operand}
def KY:Operand->Bool
 | .const (.slice W 0 0)=>Y
 |_=>U
theorem ag3(h:KY x=Y):x=AY:=by unfold KY at h;split at h;rfl;cases h
def xH(o:Oper)(d:Nat):Bool:=match o.guard,o.dst with
 |none,Z e=>aw e d
 |_,_=>U
def zL{d:Nat}{op:Op}(h:xH o d=Y)(a:o.op=op):u3 o (Z d) op:=by unfold xH at h;split at h;rename_i h1 h2;rw[cy]at h;subst h;exact⟨h2,a,h1⟩;cases h
def K4(o:Oper):Bool:=match o.op with
 | .assign x=>KY x
 |_=>U
def am8(h:K4 o=Y):o.op=.assign AY:=by grind[K4,ag3]
def Aw(n:Nat):Operand->Bool
 | .tmp m=>aw m n
 |_=>U
theorem F0{n:Nat}(h:Aw n x=Y):x=.tmp n:=by
 unfold Aw at h
 grind[cy]
def JM(o:Oper):Bool:=match o.op with
 | .move x=>Aw 0 x
 |_=>U
def RC(h:JM o=Y):o.op=.move (.tmp 0):=by grind[JM,F0]
def Mr(o:Oper):Bool:=match o.op with
 | .assign x=>Aw 7 x
 |_=>U
def aV6(h:Mr o=Y):o.op=.assign (.tmp 7):=by grind[Mr,F0]
def OB(t:Nat)(o:Oper):Bool:=match o.op with
 | .binOp .eql a x y _=>aw a t&&Aw 3 x&&KY y
 |_=>U
def aQ3(h:OB t o=Y):∃yt,o.op=.binOp .eql t (.tmp 3) AY yt:=by grind[OB,cy,F0,ag3]
def Mw(t:Nat)(o:Oper):Bool:=match o.op with
 | .buildSlice a 0 ⟨[]⟩=>aw a t
 |_=>U
def be6(h:Mw t o=Y):o.op=.buildSlice t 0 #[]:=by grind[Mw,cy]
def L9(t:Nat)(o:Oper):Bool:=match o.op with
 | .call { callee:=.builtin .append,args:=⟨[x,y]⟩,argTypes:=⟨[a,b]⟩ }=>Aw 5 x&&Aw 6 y&&aw a t&&aw b t
 |_=>U
def aM9(h:L9 t o=Y):o.op=.call { callee:=.builtin .append,args:=#[.tmp 5,.tmp 6],argTypes:=#[t,t] }:=by grind[L9,cy,F0]
def DR(fn:Func)(t:Nat):Bool:=aw fn.ntmps 8&&(match fn.results with
  |⟨[.tmp n]⟩=>aw n 2
  |_=>U)&&match fn.body with
 |some (.seq (.region _ ⟨[o0]⟩ U) (.seq (.seq (.region _ ⟨[o1,o2]⟩ U) (.cond x (.seq (.region _ ⟨[o3]⟩ U) .ret) .skip)) (.seq (.region _ ⟨[o4,o5,o6,o7]⟩ U) .ret))) =>Aw 4 x&&xH o0 2&&K4 o0&&xH o1 3&&JM o1&&xH o2 4&&OB t o2&&xH o3 2&&K4 o3&&xH o4 5&&Mw t o4&&xH o5 6&&JM o5&&xH o6 7&&L9 t o6&&xH o7 2&&Mr o7
 |_=>U
def aI8{fn:Func}(h:DR fn t=Y):QC fn t:=by unfold DR at h;simp only[ab,cy]at h;let ⟨⟨h1,h2⟩,a⟩:=h;split at h2;rename_i x b;split at a;rename_i i0 o0 i1 o1 o2 y i2 o3 i3 o4 o5 o6 o7 c;simp only[ab]at a;obtain⟨⟨⟨⟨⟨⟨⟨⟨⟨⟨⟨⟨⟨⟨⟨⟨d,a0⟩,e⟩,f⟩,g⟩,a2⟩,i⟩,a3⟩,j⟩,a4⟩,k⟩,a5⟩,l⟩,m⟩,n⟩,o⟩,p⟩:=a;let ⟨yt,q⟩:=aQ3 i;refine⟨h1,by rw[b,ae h2],i0,i1,i2,i3,o0,o1,o2,o3,o4,o5,o6,o7,yt,?_,zL a0 (am8 e),zL f (RC g),zL a2 q,zL a3 (am8 j),zL a4 (be6 k),zL a5 (RC l),zL m (aM9 n),zL o (aV6 p)⟩;rw[c,F0 d];cases a;cases h2
abbrev Hq(n:Int):bX:=.b4 (.int .i64 n)
abbrev aG6(b:Bool):bX:=.b4 (.bool b)
section
variable {T:bY} {Φ:lv} {θ:Nat->bX} {x y:bX} {a b:Int} {t:TypeId}
def ba3{l:cu Nat}(h:∀j∈l,∃es,θ j=.rs es):iv T Φ θ (.rows l)=Z (aG6 Y):=by
 simp only[iv]
 grind
end
variable {G G':ca}{P:Program}{c:Code}{n:Nat}
def Rel.bj4{σ σv σv' σ':bg}{w w':World}(c:Rel G σ w)(h:∀id o,σv.bF id=Z o->σ.bF id=Z o)(d:Rel G' σv' w')(e:Fr G σv w G' σv' w')(s:G'.qs=G.qs)
  (k:∀id o,σ.bF id=Z o->σv.bF id=W->G'.pl id=G.pl id) (t:∀id o,σ.bF id=Z o->σv.bF id=W->∀p ho,oq G p o ho->oq G' p o ho)
  (n:∀id,σ'.next<=id->G'.pl id=W) (l:∀id o,σ'.bF id=Z o->σv'.bF id=Z o\/(σ.bF id=Z o/\σv.bF id=W)):Rel G' σ' w'/\Fr G σ w G' σ' w':=by
 have f:∀id o p,σ.bF id=Z o->σv.bF id=W->G.pl id=Z p->p.mX=U->∀id0 o0 p0,σv.bF id0=Z o0->G.pl id0=Z p0->p0.mX=U->p0.block≠p.block :=λid o p h1 h2 m q id0 o0 p0 g1 g2 g3 g4=>by have:=c.sep id0 id o0 o p0 p (h _ _ g1) h1 g2 m g3 q g4;rw[this,h2]at g1;cases g1
 refine⟨⟨d.os,d.tape,d.output,d.size,d.lo,n,λid o ho=>?_,λi j oi oj pi pj h1 h2 m q v1 v2 B=>?_,d.qE⟩,?_⟩;rcases l id o ho with h1|⟨h1,h2⟩
 exact d.bF id o h1;let ⟨p,hp,hl⟩:=c.bF id o h1;refine⟨p,by rw[k _ _ h1 h2];exact hp,?_⟩;rcases hl with hl|⟨hv,u,v,z⟩
 exact .inl hl;refine .inr ⟨hv,?_,by rw[s];exact v,?_⟩;cases r:G'.lo p.block with
 |none=>rfl
 |some x=>
  rcases e.lo _ _ r with g|g|⟨id0,o0,p0,g1,g2,g3,g4⟩
  rw[u]at g;cases g;have:=c.r_ h1 hp hv;omega
  grind
 rw[e.same p.block (c.r_ h1 hp hv) (f id o p h1 h2 hp hv · · · · · ·)];exact t _ _ h1 h2 _ _ z;have fr:∀i j oi oj pi pj,σv'.bF i=Z oi->σ.bF j=Z oj->σv.bF j=W->G'.pl i=Z pi->G'.pl j=Z pj->pi.mX=U->pj.mX=U->pi.block≠pj.block:=by
  intro i j oi oj pi pj H a2 a3 a4 a5 I C N;have D:G.pl j=Z pj:=by rw[<-k _ _ a2 a3];exact a5
  have J:=c.r_ a2 D C;let ⟨id0,o0,p0,g1,g2,g3,g4⟩:=e.live i oi pi H a4 I (by omega);exact f j oj pj a2 a3 D C id0 o0 p0 g1 g2 g3 (by omega)
 rcases l i oi h1 with a|⟨a,E⟩<;>rcases l j oj h2 with b|⟨b,K⟩
 exact d.sep i j oi oj pi pj a b m q v1 v2 B
 grind
 grind
 exact c.sep i j oi oj pi pj a b (by rw[<-k _ _ a E];exact m) (by rw[<-k _ _ b K];exact q) v1 v2 B;refine⟨e.size,λb r M=>e.same b r (λid o p h1 h2 m=>M id o p (h _ _ h1) h2 m),λid o p h1 h2 m q=>?_,λb o r=>?_,e.drawn⟩;rcases l id o h1 with a|⟨a,E⟩
 let ⟨id0,o0,p0,g1,g2,g3,g4⟩:=e.live id o p a h2 m q
 grind
 grind
 rcases e.lo b o r with g|g|⟨id0,o0,p0,g1,g2,g3,g4⟩
 exact .inl g;exact .inr (.inl g)
 grind
def k5:cu (Nat×c7)->Nat->dv c7
 | [],_=>W
 |p::l,i=>ite (i=p.1) (Z p.2) <|k5 l i
def nb:cu (Nat×c7)->bg->bg
 | [],σ=>σ
 |p::l,σ=>(nb l σ).set p.1 p.2
theorem sJ(σ:bg)(i:Nat):∀H:cu (Nat×c7),(nb H σ).bF i=match k5 H i with|some o=>Z o|none=>σ.bF i
 | []=>rfl
 |p::l=>by simp only[nb,bg.x9,k5];split;rfl;exact sJ σ i l
def zO(σ:bg):∀H:cu (Nat×c7),(nb H σ).next=σ.next
 | []=>rfl
 |p::l=>by simp only[nb];exact zO σ l
def wI:∀ {H:cu (Nat×c7)} {i:Nat} {o:c7},k5 H i=Z o->(i,o)∈H
 | [],_,_,h=>by cases h
 |p::l,i,o,h=>by unfold k5 at h;split at h;rename_i e;cases h;subst e;exact List.mem_cons_self;exact bC _ (wI h)
def bl.nb(H:cu (Nat×c7))(s:bl):bl:={ s with st:=Go.Ab.nb H s.st }
variable {Q:Exit->bl->Prop}{s:bl}
@[simp] theorem bl.tM (H:cu (Nat×c7)) (s:bl):(s.nb H).st=Go.Ab.nb H s.st:=rfl
@[simp] theorem bl.ce4 (H:cu (Nat×c7)) (s:bl):(s.nb H).n=s.n:=rfl
def rN:c7->Bool
 | .row _ _ es=>sB es
 |_=>U
def bU2(d:∀b o,G.lo b=Z o->G'.lo b=Z o){o:c7}(h:rN o=Y){p:nt}{ho:dv Obj}(hk:oq G p o ho):oq G' p o ho:=by
 cases o with
 |row e z es =>let ⟨cs,f,g,k,l,c⟩:=hk;refine⟨cs,f,g,k,l,λi a7=>⟨(c i a7).1,λj hj a=>?_⟩⟩;exact rr d ((c i a7).2 j hj a) (rY (es:=es) (by simp only[bX.kl];exact h) i a7 j hj)
 |_=>simp[rN]at h
def j5.frame{H:cu (Nat×c7)}(m:∀p∈H,p.1<n/\rN p.2=Y/\s.st.bF p.1=W)(h:j5 P n c Q s) :
  j5 P n c (λe t=>∃s',Q e s'/\t=s'.nb H) (s.nb H):=by
 intro r G a w k;have b:∀i o,s.st.bF i=Z o->(Go.Ab.nb H s.st).bF i=Z o:=λi o ho=>by
  rw[sJ];cases j:k5 H i with
  |none=>exact ho
  |some o'=>have:=(m _ (wI j)).2.2;rw[show((i,o'):Nat×c7).1=i from rfl,ho]at this;cases this
 have l:n<=s.st.next:=by have:(s.nb H).st.next=s.st.next:=zO _ _;omega
 have q:zc G s a w:=⟨k.defers,k.size,k.tmps,k.rel.less (zO _ _).symm b⟩;refine wp_mono (h l G a w q) ?_;rintro e v w' ⟨s',G',f,d,u⟩;have g:∀id o,(Go.Ab.nb H s.st).bF id=Z o->s.st.bF id=W->k5 H id=Z o:=λid o h1 h2=>by grind[sJ]
 have key:=Rel.bj4 (σ:=Go.Ab.nb H s.st) (σv:=s.st) (σv':=s'.st) (σ':=Go.Ab.nb H s'.st) k.rel b d.rel f.bb f.qs
  (λid o h1 h2=>f.pl id (m _ (wI (g id o h1 h2))).1)
  (λid o h1 h2 p ho=>bU2 f.lo (m _ (wI (g id o h1 h2))).2.1)
  (λid hid=>d.rel.fresh id (by rw[zO]at hid;exact hid))
  (λid o ho=>by
   rw[sJ]at ho;cases j:k5 H id with
   |none=>rw[j]at ho;exact .inl ho
   |some o' =>
    rw[j]at ho;simp only[ah]at ho;subst ho;exact .inr ⟨by rw[sJ,j],(m _ (wI j)).2.2⟩)
 refine⟨s'.nb H,G',⟨f.qs,f.lo,f.pl,?_,key.2⟩,⟨d.defers,d.size,d.tmps,key.1⟩,s',u,rfl⟩;have:(s'.nb H).st.next=s'.st.next:=zO _ _;rw[this];exact f.gA
def j5.lower{m:Nat}(hm:m<=n)(f:n<=s.st.next)(h:j5 P n c Q s):j5 P m c Q s:=by intro _ G a w g;refine wp_mono (h f G a w g) ?_;rintro e k w' ⟨s',G',b,d,j⟩;exact⟨s',G',⟨b.qs,b.lo,λi a7=>b.pl i (by omega),bD hm b.gA,b.bb⟩,d,j⟩
def j5.raise{k:Nat}(hk:s.st.next<=k)(h:j5 P n c Q { s with st:={ s.st with next:=k } }):j5 P n c Q s:=by intro i G a w d;have f:zc G { s with st:={ s.st with next:=k } } a w:=⟨d.defers,d.size,d.tmps,d.rel.next hk⟩;refine wp_mono (h (bD i hk) G a w f) ?_;rintro e l w' ⟨s',G',b,g,j⟩;exact⟨s',G',⟨b.qs,b.lo,b.pl,b.gA,(Fr.less (σ:=s.st) (σ':={ s.st with next:=k }) (λ_ _ h=>h)).trans b.bb⟩,g,j⟩
variable {p:Nat->Bool}{ι:Nat->dv (dv Nat)}
mutual
def bX.ids(p:Nat->Bool):bX->Bool
 | .ms id _ _ _=>p id
 | .mp id _ _=>p id
 | .mm id=>p id
 | .it id=>p id
 | .c8 id _ _=>p id
 | .l3 id _ _=>p id
 | .rs es=>t_ p es
 | .fT cs=>sA p cs
 | .fn _ a c=>sA p a&&sA p c
 | .agg cs=>sA p cs
 | .ed cs=>sA p cs
 | .mY c=>c.ids p
 |_=>Y
def sA(p:Nat->Bool):eX->Bool
 | []=>Y
 |c::cs=>c.ids p&&sA p cs
def t_(p:Nat->Bool):cu eX->Bool
 | []=>Y
 |c::cs=>sA p c&&t_ p cs
end
variable {v:bX}
def wJ:∀ {l:eX},sA p l=Y->∀v∈l,v.ids p=Y
 | [],_,v,hv=>by cases hv
 |c::cs,h,v,hv=>by
  simp only[sA,ab]at h;rcases aG.1 hv with rfl|hv
  exact h.1;exact wJ h.2 v hv
def DB:∀ {l:cu eX},t_ p l=Y->∀r∈l,sA p r=Y
 | [],_,v,hv=>by cases hv
 |c::cs,h,v,hv=>by
  simp only[t_,ab]at h;rcases aG.1 hv with rfl|hv
  exact h.1;exact DB h.2 v hv
mutual
theorem J1(p:Nat->Bool):∀v:bX,v.kl=Y->v.ids p=Y
 | .b4 _,_=>by simp[bX.ids]
 | .rs es,h=>by simp only[bX.kl]at h;simp only[bX.ids];exact aw6 p es h
 | .fT cs,h=>by simp only[bX.kl]at h;simp only[bX.ids];exact BI p cs h
 | .fn _ a c,h=>by simp only[bX.kl,ab]at h;simp only[bX.ids,ab];exact⟨BI p a h.1,BI p c h.2⟩
 | .agg cs,h=>by simp only[bX.kl]at h;simp only[bX.ids];exact BI p cs h
 | .ed cs,h=>by simp only[bX.kl]at h;simp only[bX.ids];exact BI p cs h
 | .mY c,h=>by simp only[bX.kl]at h;simp only[bX.ids];exact J1 p c h
 | .any,h=>by simp[bX.kl]at h
 | .ms ..,h=>by simp[bX.kl]at h
 | .mp ..,h=>by simp[bX.kl]at h
 | .mm _,h=>by simp[bX.kl]at h
 | .it _,h=>by simp[bX.kl]at h
 | .ey _,h=>by simp[bX.kl]at h
 | .c8 ..,h=>by simp[bX.kl]at h
 | .l3 ..,h=>by simp[bX.kl]at h
theorem BI(p:Nat->Bool):∀l:eX,sa l=Y->sA p l=Y
 | [],_=>by simp[sA]
 |c::cs,h=>by simp only[sa,ab]at h;simp only[sA,ab];exact⟨J1 p c h.1,BI p cs h.2⟩
theorem aw6(p:Nat->Bool):∀l:cu eX,sB l=Y->t_ p l=Y
 | [],_=>by simp[t_]
 |c::cs,h=>by simp only[sB,ab]at h;simp only[t_,ab];exact⟨BI p c h.1,aw6 p cs h.2⟩
end
mutual
theorem DJ{θ:Nat->bX}(b:Fit θ)(p:Nat->Bool):∀v:bX,v.ids p=Y->(v.sub θ).ids p=Y
 | .b4 _,_=>by simp[bX.sub,bX.ids]
 | .any,_=>by simp[bX.sub,bX.ids]
 | .ey i,_=>by rw[vl];exact J1 p _ (b i).kl
 | .rs es,h=>by simp only[bX.ids]at h;simp only[bX.sub,bX.ids];exact O_ b p es h
 | .fT cs,h=>by simp only[bX.ids]at h;simp only[bX.sub,bX.ids];exact BK b p cs h
 | .fn _ a c,h=>by simp only[bX.ids,ab]at h;simp only[bX.sub,bX.ids,ab];exact⟨BK b p a h.1,BK b p c h.2⟩
 | .agg cs,h=>by simp only[bX.ids]at h;simp only[bX.sub,bX.ids];exact BK b p cs h
 | .ed cs,h=>by simp only[bX.ids]at h;simp only[bX.sub,bX.ids];exact BK b p cs h
 | .mY c,h=>by simp only[bX.ids]at h;simp only[bX.sub,bX.ids];exact DJ b p c h
 | .ms ..,h=>by simpa[bX.sub,bX.ids]using h
 | .mp ..,h=>by simpa[bX.sub,bX.ids]using h
 | .mm _,h=>by simpa[bX.sub,bX.ids]using h
 | .it _,h=>by simpa[bX.sub,bX.ids]using h
 | .c8 ..,h=>by simpa[bX.sub,bX.ids]using h
 | .l3 ..,h=>by simpa[bX.sub,bX.ids]using h
theorem BK{θ:Nat->bX}(a:Fit θ)(p:Nat->Bool):∀l:eX,sA p l=Y->sA p (ni θ l)=Y
 | [],_=>by simp[ni,sA]
 |c::cs,h=>by simp only[sA,ab]at h;simp only[ni,sA,ab];exact⟨DJ a p c h.1,BK a p cs h.2⟩
theorem O_{θ:Nat->bX}(a:Fit θ)(p:Nat->Bool):∀l:cu eX,t_ p l=Y->t_ p (o8 θ l)=Y
 | [],_=>by simp[o8,t_]
 |c::cs,h=>by simp only[t_,ab]at h;simp only[o8,t_,ab];exact⟨BK a p c h.1,O_ a p cs h.2⟩
end
def aU8{G:ca}{ι:Nat->Option (Option Nat)}(hp:∀i,p i=Y->ι i=Z (Z i)){u:Value}(o:eR G v u):v.ids p=Y->eR (G.oM ι) v u:=by
 have e:∀i q,p i=Y->G.pl i=Z q->(G.oM ι).pl i=Z q:=λi q a7 g=>by simp only[ca.oM,hp i a7];exact g
 induction o with
 |any v=>intro _;exact .any v
 |b4 v=>intro _;exact .b4 v
 |q9=>intro _;exact .q9
 |rs es a cap size val hs hc hlen himm _ k =>intro h;exact .rs es a cap size val hs hc hlen himm (λi j a7 hj=>k i j a7 hj (wJ (DB h _ (au a7)) _ (au hj)))
 |fT cs a val hs himm _ k =>intro h;exact .fT cs a val hs himm (λj hj=>k j hj (wJ h _ (au hj)))
 |ms id size off len q g hv hz a c ha ho hl hsp=>intro h;exact .ms id size off len q (e _ _ h g) hv hz a c ha ho hl hsp
 |oh id size q g hv=>intro h;exact .oh id size q (e _ _ h g) hv
 |mp id i j q g=>intro h;exact .mp id i j q (e _ _ h g)
 |mm id q g=>intro h;exact .mm id q (e _ _ h g)
 |it id q g=>intro h;exact .it id q (e _ _ h g)
 |mY rows b ents himm hlen uX _ k =>intro h;refine .mY rows b ents himm hlen uX (λi a7 d=>k i a7 d ?_);have l:=DB h _ (au a7);generalize rows[i]=r at l;unfold oW;split;exact wJ l _ (by simp);simp[bX.ids]
 |fn f first cap fv cv h1 h2 _ _ m n =>intro h;simp only[bX.ids,ab]at h;exact .fn f first cap fv cv h1 h2 (λi a7 d=>m i a7 d (wJ h.1 _ (au a7))) (λi a7 d=>n i a7 d (wJ h.2 _ (au a7)))
 |agg cs vs h1 _ k=>intro h;exact .agg cs vs h1 (λi a7 d=>k i a7 d (wJ h _ (au a7)))
 |ed cs vs h1 _ k=>intro h;exact .ed cs vs h1 (λi a7 d=>k i a7 d (wJ h _ (au a7)))
def nI.ids(hp:∀i,p i=Y->ι i=Z (Z i))(h:v.ids p=Y):nI ι v v:=λ_ _ a=>aU8 hp a h
def c7.ids(p:Nat->Bool):c7->Bool
 | .row _ _ es=>t_ p es
 | .map _ es _=>es.all λe=>e.2.1.ids p
 | .qO _ _=>Y
 | .tq W _ _ _=>Y
 | .tq (Z i) _ _ _=>p i
 | .fN _ _ _=>Y
 | .nC c=>c.ids p
 | .nH ..=>U
 | .qh _ _=>Y
def p4.ids(hp:∀i,p i=Y->ι i=Z (Z i)){θ:Nat->bX}(g:Fit θ){o:c7}(h:o.ids p=Y):p4 ι (o.sub θ) (o.sub θ):=by
 cases o with
 |row e z es =>have h2:=O_ g p es h;rw[vQ]at h2;refine⟨rfl,rfl,rfl,λi a7 l=>⟨rfl,λj hj t=>nI.ids hp ?_⟩⟩;exact wJ (DB h2 _ (au a7)) _ (au hj)
 |map agg es c=>
  refine⟨rfl,rfl,rfl,λi a7 l=>⟨rfl,nI.ids hp ?_,rfl⟩⟩;have d:i<aa es:=by simpa using a7
  simp only[cK];exact DJ g p _ (aj.1 h _ (au d))
 |qO a b=>exact⟨rfl,rfl⟩
 |tq m a b c =>cases m;exact⟨rfl,rfl,rfl⟩;rename_i i;exact⟨hp i h,rfl,rfl,rfl⟩
 |fN e z i=>
  refine⟨rfl,rfl,rfl,λa ha u=>⟨rfl,λb q v=>?_⟩⟩;rcases(g i).cases with⟨_,_,f⟩|⟨_,f⟩|⟨_,f⟩|⟨es,f⟩|⟨_,f⟩|⟨_,f⟩
  simp[f,rowsOf]at ha;simp[f,rowsOf]at ha;simp[f,rowsOf]at ha;have n:=(g i).kl;rw[f]at n;simp only[f]at ha q⊢;exact nI.ids hp (J1 p _ (rY n a ha b q));simp[f,rowsOf]at ha;simp[f,rowsOf]at ha
 |nC c=>
  have h2:=DJ g p c h;refine⟨rfl,rfl,rfl,λi a7 l=>⟨rfl,nI.ids hp ?_,rfl⟩⟩;have d:i<aa (rowsOf (c.sub θ)):=by rw[Bc]at a7;exact a7
  rw[Ff _ _ _ a7 d];generalize c.sub θ=tR at *;cases tR with
  |rs es =>simp only[rowsOf]at d⊢;have k:=DB h2 _ (au d);generalize es[i]=r at k;unfold oW;split;exact wJ k _ (by simp);simp[bX.ids]
  |_=>simp[rowsOf]at d
 |nH=>simp[c7.ids]at h
 |qh s p=>exact⟨rfl,rfl⟩
variable {a:Nat}{ck:nW}{j k off r:Nat}{rows:cu eX}{v:bX}{z:Nat}{ι:Nat->dv (dv Nat)}
def vY(row:eX)(c:Nat×TypeId×Nat):c7:=.row c.2.1 c.2.2 (rowsOf (row.getD c.1 (.rs [])))
def Ai(r:Nat)(row:eX):nW->cu (Nat×c7)
 | []=>[]
 |c::cs=>(hid r c.1,vY row c)::Ai r row cs
def ox(ck:nW):Nat->cu eX->cu (Nat×c7)
 |_,[]=>[]
 |r,row::rows=>Ai r row ck++ox ck (r+1) rows
def Gv{c:Nat}(hc:c<16)(a:16*(r+1)<=tY):hid r c=16*r+c:=Nat.mod_eq_of_lt (by omega)
def Wx(i:Nat):∀a b:cu (Nat×c7),k5 (a++b) i=match k5 a i with|some o=>Z o|none=>k5 b i
 | [],b=>rfl
 |p::a,b=>by simp only[cV,k5];split;rfl;exact Wx i a b
def WK(b:16*(r+1)<=tY)(row:eX)(i:Nat):∀ {ck:nW},(∀c∈ck,c.1<16)->k5 (Ai r row ck) i=if i / 16=r then(pw ck (i%16)).map (vY row)else W
 | [],_=>by simp[Ai,k5,pw]
 |c::cs,hc=>by
  have h1:=hc c (by simp);have d:=WK b row i (ck:=cs) (λc hm=>hc c (by simp[hm]));simp only[Ai,k5,Gv h1 b];by_cases e:i=16*r+c.1;have f:i / 16=r:=by omega
  have a:i%16=c.1:=by omega
  rw[cr e,cr f,a];simp[pw];rw[cc e,d];split;have a:aw c.1 (i%16)=U:=by
   cases g:aw c.1 (i%16)with
   |false=>rfl
   |true=>have:=ae g;omega
  simp[pw,a];rfl
def Jo(hc:∀c∈ck,c.1<16)(i:Nat):∀(rows:cu eX) (a:Nat),16*(a+aa rows)<=tY->k5 (ox ck a rows) i=if a<=i / 16 then(match rows[i / 16-a]? with|some row=>(pw ck (i%16)).map (vY row)|none=>W)else W
 | [],a,_=>by simp[ox,k5]
 |row::rows,a,b=>by
  have f:=Jo hc i rows (a+1) (by simp at b;omega);simp only[ox];rw[Wx,WK (by simp at b;omega) row i hc,f];by_cases e:i / 16=a;simp only[e,ay,Nat.sub_self];cases pw ck (i%16)with
  |some c=>rfl
  |none=>simp;omega
  simp only[e,l4];by_cases d:a<=i / 16;have g:a+1<=i / 16:=by omega
  have h:i / 16-a=(i / 16-(a+1))+1:=by omega
  rw[cr g,cr d,h,aK];rw[cc (by omega),cc d]
def xU(ck:nW)(rows:cu eX):Prop:=16*aa rows<=tY/\(∀c∈ck,c.1<16)/\(bX.rs rows).kl=Y/\∀r∈rows,∀c∈ck,∃xs,r[c.1]?=Z (.rs xs)
def Jq:∀ {rows:cu eX} {a:Nat} {p:Nat×c7},p∈ox ck a rows->∃r row c,rows[r]?=Z row/\c∈ck/\p=(hid (a+r) c.1,vY row c)
 | [],_,_,h=>by simp[ox]at h
 |row::rows,a,p,h=>by
  simp only[ox,aV]at h;rcases h with h|h
  have aux:∀cs:nW,p∈Ai a row cs->∃c∈cs,p=(hid a c.1,vY row c):=by
   intro cs
   induction cs with
   |nil=>intro h;simp[Ai]at h
   |cons c cs d=>
    intro h;simp only[Ai,aG]at h;rcases h with h|h
    exact⟨c,by simp,h⟩;let ⟨e,h1,h2⟩:=d h;exact⟨e,by simp[h1],h2⟩
  let ⟨c,h1,h2⟩:=aux ck h;exact⟨0,row,c,by simp,h1,by simpa using h2⟩;let ⟨r,b,c,h1,h2,f⟩:=Jq h;exact⟨r+1,b,c,by simpa using h1,h2,by rw[f];congr 2;omega⟩
def Jk(h:xU ck rows){p:Nat×c7}(hp:p∈ox ck 0 rows):p.1<tY/\rN p.2=Y:=by obtain⟨r,row,c,h1,h2,rfl⟩:=Jq hp;refine⟨xQ _ _,?_⟩;obtain⟨e,rfl⟩:=aq.1 h1;let ⟨xs,f⟩:=h.2.2.2 _ (au e) c h2;have a:=h.2.2.1;let ⟨b,d⟩:=aq.1 f;have:=rY a r e c.1 b;rw[d]at this;simp only[vY,List.getD_eq_getElem?_getD,f,bM,rowsOf,rN];simpa only[bX.kl]using this
def nI.kl(h:v.kl=Y):nI ι v v:=λG _ a=>rr (G:=G) (G':=G.oM ι) (λ_ _ b=>b) a h
def p4.rN{o:c7}(h:rN o=Y):p4 ι o o:=by
 cases o with
 |row e z es=>exact⟨rfl,rfl,rfl,λi a7 a=>⟨rfl,λj hj b=>nI.kl (rY (es:=es) (by simp only[bX.kl];exact h) i a7 j hj)⟩⟩
 |_=>simp[Go.Ab.rN]at h
def nI.ms{b o l:Nat}(h:ι a=Z (Z b)):nI ι (.ms a z o l) (.ms b z o l):=by
 intro G u d;cases d with
 |ms _ _ _ _ p hp hv hz e c f ho hl hsp=>exact .ms a z o l p (by simp only[ca.oM,h];exact hp) hv hz e c f ho hl hsp
 |oh _ _ p hp hv=>exact .oh a z p (by simp only[ca.oM,h];exact hp) hv
def nI.bo0(h:ι a=Z W):nI ι (.ms a z 0 0) (.b4 (.slice W 0 0)):=by intro G u b;cases b;exact .oh a z ⟨0,0,0,Y⟩ (by simp only[ca.oM,h]) rfl
def IQ(ck:nW):∀(row:eX) (a j:Nat),(rp ck a row)[j]?=(row[j]?).map (zW ck (a+j))
 | [],a,j=>by simp[rp]
 |v::vs,a,0=>by simp[rp]
 |v::vs,a,j+1=>by simp only[rp,aK];rw[IQ ck vs (a+1) j];congr 2;omega
def VF(ck:nW):∀(row:eX) (a:Nat),aa (rp ck a row)=aa row
 | [],_=>rfl
 |_::vs,a=>by simp[rp,VF ck vs]
def Bq(ck:nW)(r j:Nat)(v:bX):wO ck r j v=match pw ck j with|some c=>.ms (hid r j) c.2.2 0 (aa (rowsOf v))|none=>v:=rfl
def p4.cells{e:TypeId}{A B:cu eX}(hl:aa A=aa B)(h:∀(r:Nat) (a b:eX),A[r]?=Z a->B[r]?=Z b->aa a=aa b/\∀(j:Nat) (x y:bX),a[j]?=Z x->b[j]?=Z y->nI ι x y):p4 ι (.row e z A) (.row e z B):=by refine⟨rfl,rfl,hl,λi a7 c=>?_⟩;let ⟨h1,h2⟩:=h i _ _ (af a7) (af c);exact⟨h1,λj hj d=>h2 j _ _ (af hj) (af d)⟩
def IL(q:Nat)(i:Nat):∀H:cu (Nat×c7),k5 (H.filter (!Nat.beq ·.1 q)) i=if i=q then W else k5 H i
 | []=>by simp[k5]
 |p::H=>by
  have b:=IL q i H;by_cases e:p.1=q;have:aw p.1 q=Y:=by rw[cy];exact e
  simp only[fz,this,Bool.not_true,aF,l4,b,k5];by_cases a:i=q;simp[a];rw[cc a,cc a,cc (by omega)];have:aw p.1 q=U:=by
   cases c:aw p.1 q with
   |false=>rfl
   |true=>exact b8 (ae c) e
  simp only[fz,this,Bool.not_false,vE,k5,b];by_cases a:i=q;subst a;rw[cr rfl,cc (by omega)];simp;simp[a]
def yp{c:Nat×TypeId×Nat}(h:pw ck j=Z c):c∈ck/\c.1=j:=by refine⟨List.mem_of_find?_eq_some h,?_⟩;have:=List.find?_some h;exact ae this
theorem PQ{ck:nW}{r a j b n:Nat}(e:16*n<=tY)(f:r<n)(d:a<n)(hj:j<16)(c:b<16)(h:hid r j=hid a b):r=a/\j=b:=by rw[Gv hj (by omega),Gv c (by omega)]at h;omega
def OZ(hc:∀c∈ck,c.1<16)(hl:16*aa rows<=tY){row:eX}(a:rows[r]?=Z row)(hj:j<16):k5 (ox ck 0 rows) (hid r j)=(pw ck j).map (vY row):=by
 have b:=(aq.1 a).1;rw[Jo hc _ _ _ (by simpa using hl),Gv hj (by omega)];have d:(16*r+j) / 16=r:=by omega
 have e:(16*r+j)%16=j:=by omega
 simp only[d,e,Nat.zero_le,vE,Nat.sub_zero,a]
def O6{i:Nat}(a7:tY<=i):k5 (ox ck 0 rows) i=W:=by
 cases a:k5 (ox ck 0 rows) i with
 |none=>rfl
 |some o =>let ⟨r,row,c,_,_,kc⟩:=Jq (wI a);cases kc;have:=xQ (0+r) c.1;omega
def sK(rows:cu eX)(k off:Nat)(v:bX):cu eX:=match rows[k]? with
 |some row=>rows.set k (row.set off v)
 |none=>rows
def Ws{row:eX}(a:rows[k]?=Z row)(r:Nat):(sK rows k off v)[r]?=if r=k then Z (row.set off v)else rows[r]?:=by have hk:=(aq.1 a).1;simp only[sK,a];by_cases e:k=r;subst e;simp[hk];simp[e,kx e]
def E3:aa (sK rows k off v)=aa rows:=by unfold sK;split<;>simp
theorem xU.put(h:xU ck rows){xs:cu eX}(l:(bX.rs xs).kl=Y):xU ck (sK rows k off (.rs xs)):=by
 let ⟨h1,h2,g,j⟩:=h;cases a:rows[k]? with
 |none=>
  have:sK rows k off (.rs xs)=rows:=by simp[sK,a]
  rw[this];exact⟨h1,h2,g,j⟩
 |some row=>
  have f:=aH a;have e:∀r∈sK rows k off (.rs xs),r=row.set off (.rs xs)\/r∈rows:=λr b=>by let ⟨i,a7⟩:=List.mem_iff_getElem?.1 b;rw[Ws a]at a7;split at a7;cases a7;exact .inl rfl;exact .inr (aH a7)
  refine⟨by rw[E3];exact h1,h2,?_,λr b c hc=>?_⟩;simp only[bX.kl,DL,aj]at g l⊢;intro r b x d;rcases e r b with rfl|b
  rcases List.mem_or_eq_of_mem_set d with d|rfl
  exact g row f x d;simp only[bX.kl,DL,aj];exact l;exact g r b x d;rcases e r b with rfl|b
  let ⟨ys,m⟩:=j row f c hc;rw[List.getElem?_set];split;have n:=(aq.1 m).1;rw[cr (by omega)];exact⟨xs,rfl⟩;exact⟨ys,m⟩;exact j r b c hc
def vu(n:Nat)(R:eX)(i:Nat):bX:=match cL i n with
 |true=>(R[n-1-i]?).getD (.b4 (.bool U))
 |false=>.b4 (.bool U)
theorem vS(R:eX):env R.reverse=vu (aa R) R:=by grind[env,vu,bP]
def sN(T:bY)(Φ:lv)(Q:bX->Prop)(r:nf)(n:Nat)(R:eX)(A:Nat->eX->Prop):Prop:=n=aa R->sQ T Φ Q r R.reverse A
section
variable {T:bY} {Φ:lv} {Q:bX->Prop} {n:Nat} {R:eX} {A:Nat->eX->Prop}
def sN.OV{o:nU}{pat:bX}{r:nf}(vs:eX)(he:iv T Φ (vu n R) o=Z (pat.sub (vu (n+aa vs) (vs++R))))(hv:∀v∈vs,nN v)(h:sN T Φ Q r (n+aa vs) (vs++R) A):sN T Φ Q (.op o n pat r) n R A:=λa=>by
 subst a;have e:(vs++R).reverse=R.reverse++vs.reverse:=by simp
 refine sQ.OV vs.reverse (by grind[vS]) (by simp) (λv hm=>hv v (by simpa using hm)) ?_;have:=h (by simp[jD]);rw[e]at this;exact this
def sN.test{i:Nat}{a b:nf}(t:Bool)(a7:vu n R i=.b4 (.bool t))(h1:t=Y->sN T Φ Q a n R A)(h2:t=U->sN T Φ Q b n R A):sN T Φ Q (.test i a b) n R A:=λc=>by subst c;exact sQ.test t (by rw[vS];exact a7) (λh=>h1 h rfl) (λh=>h2 h rfl)
def sN.Py{c:bX}{l:cu Nat}(hl:∀j∈l,∃es,vu n R j=.rs es)(h:Q (c.sub (vu n R))):sN T Φ Q (.ret c l) n R A:=λa=>by subst a;exact sQ.Py (by rw[vS];exact hl) (by rw[vS];exact h)
def sN.loop{k:Nat}{inits:eX}{body:nf}(I:Nat->eX->Prop)(d:body.ff (n+k+1)=Y)(n0:Nat)(e:I n0 (inits.map (bX.sub (vu n R))))
  (h:∀m j9,I m j9->aa j9=k->sN T Φ Q body (n+k+1) (.b4 (.bool U)::(j9.reverse++R)) (λb=>ite (b=n) (λa=>∃c,c<m/\I c a) <|A b)):sN T Φ Q (.loop n k inits body) n R A:=λf=>by
 subst f;refine sQ.loop I (by simp) d n0 (by rw[vS];exact e) (λm j9 a7 hl=>?_);have:=h m j9 a7 hl (by simp;omega);simpa using this
end
mutual
inductive dn where
 |int (k:IntKind)
 |bool
 |str
 |sF
 |nl
 |hF (l:dr)
 |agg (l:dr)
 |ptr (l:dr)
 |rH (l:dr)
 |ed (l:dr)
 |fn (g:Nat) (l:dr)
inductive dr where
 |nil
 |one (s:dn)
 |cons (s:dn) (l:dr)
end
variable {s:dn}{Γ:cu dn}
mutual
@[reducible] def dn.T:dn->Type
 | .int _=>Int
 | .bool=>Bool
 | .str=>ByteArray
 | .sF=>Unit
 | .nl=>Unit
 | .hF l=>cu l.T
 | .agg l=>l.T
 | .ptr l=>l.T
 | .rH l=>cu l.T
 | .ed l=>l.T
 | .fn _ l=>l.T
@[reducible] def dr.T:dr->Type
 | .nil=>Unit
 | .one s=>s.T
 | .cons s l=>s.T×l.T
end
mutual
def enc:(s:dn)->s.T->bX
 | .int k,n=>.b4 (.int k n)
 | .bool,b=>.b4 (.bool b)
 | .str,s=>.b4 (.string s)
 | .sF,_=>.b4 (.bool Y)
 | .nl,_=>.b4 (.slice W 0 0)
 | .hF l,xs=>.rs (xs.map (a6 l))
 | .agg l,x=>.agg (a6 l x)
 | .ptr l,x=>.fT (a6 l x)
 | .rH l,xs=>.mY (.rs (xs.map (a6 l)))
 | .ed l,x=>.ed (a6 l x)
 | .fn g l,x=>.fn (.func g) [] (a6 l x)
def a6:(l:dr)->l.T->eX
 | .nil,_=>[]
 | .one s,x=>[enc s x]
 | .cons s l,x=>enc s x.1::a6 l x.2
end
def IntKind.nR:IntKind->IntKind->Bool
 | .i8,.i8=>Y
 | .i16,.i16=>Y
 | .i32,.i32=>Y
 | .i64,.i64=>Y
 | .u8,.u8=>Y
 | .u16,.u16=>Y
 | .u32,.u32=>Y
 | .u64,.u64=>Y
 |_,_=>U
def IntKind.sR:∀ {a b:IntKind},IntKind.nR a b=Y->a=b:=by intro a b h;cases a<;>cases b<;>first|rfl| (simp[IntKind.nR]at h)
mutual
def dn.nR:dn->dn->Bool
 | .int k,.int b=>IntKind.nR k b
 | .bool,.bool=>Y
 | .str,.str=>Y
 | .sF,.sF=>Y
 | .nl,.nl=>Y
 | .hF l,.hF a=>l.nR a
 | .agg l,.agg a=>l.nR a
 | .ptr l,.ptr a=>l.nR a
 | .rH l,.rH a=>l.nR a
 | .ed l,.ed a=>l.nR a
 | .fn g l,.fn c a=>aw g c&&l.nR a
 |_,_=>U
def dr.nR:dr->dr->Bool
 | .nil,.nil=>Y
 | .one s,.one s'=>s.nR s'
 | .cons s l,.cons s' a=>s.nR s'&&l.nR a
 |_,_=>U
end
mutual
theorem dn.sR:∀(a b:dn),a.nR b=Y->a=b
 | .int k,b,h=>by cases b<;>simp[dn.nR]at h;rw[IntKind.sR h]
 | .bool,b,h=>by cases b<;>simp[dn.nR]at h;rfl
 | .str,b,h=>by cases b<;>simp[dn.nR]at h;rfl
 | .sF,b,h=>by cases b<;>simp[dn.nR]at h;rfl
 | .nl,b,h=>by cases b<;>simp[dn.nR]at h;rfl
 | .hF l,b,h=>by cases b<;>simp[dn.nR]at h;rw[dr.sR l _ h]
 | .agg l,b,h=>by cases b<;>simp[dn.nR]at h;rw[dr.sR l _ h]
 | .ptr l,b,h=>by cases b<;>simp[dn.nR]at h;rw[dr.sR l _ h]
 | .rH l,b,h=>by cases b<;>simp[dn.nR]at h;rw[dr.sR l _ h]
 | .ed l,b,h=>by cases b<;>simp[dn.nR]at h;rw[dr.sR l _ h]
 | .fn g l,b,h=>by cases b<;>simp[dn.nR]at h;rw[h.1,dr.sR l _ h.2]
theorem dr.sR:∀(a b:dr),a.nR b=Y->a=b
 | .nil,b,h=>by cases b<;>simp[dr.nR]at h;rfl
 | .one s,b,h=>by cases b<;>simp[dr.nR]at h;rw[dn.sR s _ h]
 | .cons s l,b,h=>by cases b<;>simp[dr.nR]at h;rw[dn.sR s _ h.1,dr.sR l _ h.2]
end
def Cl{a b:dn}(h:a.nR b=Y)(x:a.T):b.T:=(dn.sR a b h)▸x
def Dj{a b:dn}(h:a.nR b=Y)(x:a.T):enc b (Cl h x)=enc a x:=by have:=dn.sR a b h;subst this;rfl
def dr.len:dr->Nat
 | .nil=>0
 | .one _=>1
 | .cons _ l=>l.len+1
theorem ui:∀(l:dr) (x:l.T),aa (a6 l x)=l.len
 | .nil,_=>rfl
 | .one _,_=>rfl
 | .cons s l,x=>by simp[a6,dr.len,ui l x.2]
mutual
theorem PD:∀(s:dn) (x:s.T),(enc s x).kl=Y
 | .int _,_=>rfl
 | .bool,_=>rfl
 | .str,_=>rfl
 | .sF,_=>rfl
 | .nl,_=>rfl
 | .hF l,xs=>by simp only[enc,bX.kl,DL,gz,aj];intro x _;exact yB l x
 | .agg l,x=>by simp only[enc,bX.kl,uv];exact yB l x
 | .ptr l,x=>by simp only[enc,bX.kl,uv];exact yB l x
 | .rH l,xs=>by simp only[enc,bX.kl,DL,gz,aj];intro x _;exact yB l x
 | .ed l,x=>by simp only[enc,bX.kl,uv];exact yB l x
 | .fn g l,x=>by simp only[enc,bX.kl,uv,dD,Bool.true_and];exact yB l x
theorem yB:∀(l:dr) (x:l.T),(a6 l x).all bX.kl=Y
 | .nil,_=>rfl
 | .one s,x=>by simp only[a6,bE,dD,fQ];exact PD s x
 | .cons s l,x=>by simp only[a6,bE,PD s x.1,yB l x.2,bG]
end
def dn.cell:dn->Bool
 | .int _=>Y
 | .bool=>Y
 | .str=>Y
 | .hF _=>Y
 | .ptr _=>Y
 | .rH _=>Y
 |_=>U
def aK8(h:s.cell=Y)(x:s.T):nN (enc s x):=by have hp:=PD s x;cases s<;>simp[dn.cell]at h<;>simp only[enc]at hp⊢<;>first|trivial|exact hp
def Env:cu dn->Type
 | []=>Unit
 |s::Γ=>s.T×Env Γ
def pF:(Γ:cu dn)->Env Γ->eX
 | [],_=>[]
 |s::Γ,e=>enc s e.1::pF Γ e.2
theorem nB:∀(Γ:cu dn) (e:Env Γ),aa (pF Γ e)=Γ.length
 | [],_=>rfl
 |s::Γ,e=>by simp[pF,nB Γ e.2]
def re(Γ:cu dn)(e:Env Γ):Nat->bX:=vu Γ.length (pF Γ e)
def En:(Γ:cu dn)->Nat->(s:dn)->dv (Env Γ->s.T)
 | [],_,_=>W
 |g::_,0,s=>match h:g.nR s with
  |true=>Z λe=>Cl h e.1
  |false=>W
 |_::Γ,j+1,s=>match En Γ j s with
  |some f=>Z λe=>f e.2
  |none=>W
def ax9:∀(Γ:cu dn) (j:Nat) (s:dn) (f:Env Γ->s.T),En Γ j s=Z f->∀e,(pF Γ e)[j]?=Z (enc s (f e))
 | [],_,_,_,h,_=>by simp[En]at h
 |g::Γ,0,s,f,h,e=>by unfold En at h;split at h;rename_i b;cases h;simp[pF,Dj];cases h
 |g::Γ,j+1,s,f,h,e=>by unfold En at h;split at h;rename_i a hf;cases h;have:=ax9 Γ j s a hf e.2;simpa[pF]using this;cases h
def A9(Γ:cu dn)(i:Nat)(s:dn):dv (Env Γ->s.T):=match cL i Γ.length with
 |true=>En Γ (Γ.length-1-i) s
 |false=>W
def PO{i:Nat}{f:Env Γ->s.T}(h:A9 Γ i s=Z f)(e:Env Γ):re Γ e i=enc s (f e):=by unfold A9 at h;split at h;rename_i a;have:=ax9 Γ _ s f h e;unfold re vu;rw[a];simp only[this,bM];cases h
def ap5(Γ:cu dn)(i:Nat):dv dn:=match cL i Γ.length with
 |true=>Γ[Γ.length-1-i]?
 |false=>W
def KL:Value->(s:dn)->dv s.T
 | .int k n,.int a=>match IntKind.nR k a with
  |true=>Z n
  |false=>W
 | .bool b,.bool=>Z b
 | .string s,.str=>Z s
 | .slice W 0 0,.nl=>Z ()
 |_,_=>W
def R2{v:Value}{x:s.T}(h:KL v s=Z x):bX.b4 v=enc s x:=by unfold KL at h;split at h;split at h;rename_i a;cases h;rw[IntKind.sR a];rfl;cases h;cases h;rfl;cases h;rfl;rfl;cases h
mutual
def qy(Γ:cu dn):bX->(s:dn)->dv (Env Γ->s.T)
 | .ey i,s=>A9 Γ i s
 | .b4 v,s=>match KL v s with
  |some x=>Z λ_=>x
  |none=>W
 | .agg cs,.agg l=>q1 Γ cs l
 | .ed cs,.ed l=>q1 Γ cs l
 | .fT cs,.ptr l=>q1 Γ cs l
 | .rs es,.hF l=>G4 Γ es l
 | .mY c,.rH l=>qy Γ c (.hF l)
 | .fn (.func g) [] c,.fn a l=>match aw g a with
  |true=>q1 Γ c l
  |false=>W
 |_,_=>W
def q1(Γ:cu dn):eX->(l:dr)->dv (Env Γ->l.T)
 | [],.nil=>Z λ_=>()
 | [a],.one s=>qy Γ a s
 |a::az,.cons s l=>match qy Γ a s with
  |some f=>match q1 Γ az l with
   |some g=>Z λe=>(f e,g e)
   |none=>W
  |none=>W
 |_,_=>W
def G4(Γ:cu dn):cu eX->(l:dr)->dv (Env Γ->cu l.T)
 | [],_=>Z λ_=>[]
 |r::rs,l=>match q1 Γ r l with
  |some f=>match G4 Γ rs l with
   |some g=>Z λe=>f e::g e
   |none=>W
  |none=>W
end
mutual
theorem vT{Γ:cu dn}:∀(a:bX) (s:dn) (f:Env Γ->s.T),qy Γ a s=Z f->∀e,a.sub (re Γ e)=enc s (f e)
 | .ey i,s,f,h,e=>by simp only[qy]at h;simp only[bX.sub];exact PO h e
 | .b4 v,s,f,h,e=>by simp only[qy]at h;split at h;rename_i x b;cases h;simp only[bX.sub];exact R2 b;cases h
 | .agg cs,s,f,h,e=>by
  cases s<;>simp only[qy]at h<;>try (cases h;done)
  simp only[bX.sub,enc,xB cs _ _ h e]
 | .ed cs,s,f,h,e=>by
  cases s<;>simp only[qy]at h<;>try (cases h;done)
  simp only[bX.sub,enc,xB cs _ _ h e]
 | .fT cs,s,f,h,e=>by
  cases s<;>simp only[qy]at h<;>try (cases h;done)
  simp only[bX.sub,enc,xB cs _ _ h e]
 | .rs es,s,f,h,e=>by
  cases s<;>simp only[qy]at h<;>try (cases h;done)
  simp only[bX.sub,enc,aq3 es _ _ h e]
 | .mY c,s,f,h,e=>by
  cases s<;>simp only[qy]at h<;>try (cases h;done)
  simp only[bX.sub,enc,vT c _ _ h e]
 | .fn g a c,s,f,h,e=>by
  cases g<;>cases a<;>cases s<;>simp only[qy]at h<;>try (cases h;done)
  split at h;rename_i d;have:=ae d;subst this;simp only[bX.sub,enc,xB c _ _ h e,ni];cases h
 | .any,s,f,h,e=>by cases s<;>simp only[qy]at h<;>cases h
 | .ms _ _ _ _,s,f,h,e=>by cases s<;>simp only[qy]at h<;>cases h
 | .mp _ _ _,s,f,h,e=>by cases s<;>simp only[qy]at h<;>cases h
 | .mm _,s,f,h,e=>by cases s<;>simp only[qy]at h<;>cases h
 | .it _,s,f,h,e=>by cases s<;>simp only[qy]at h<;>cases h
 | .c8 _ _ _,s,f,h,e=>by cases s<;>simp only[qy]at h<;>cases h
 | .l3 _ _ _,s,f,h,e=>by cases s<;>simp only[qy]at h<;>cases h
theorem xB{Γ:cu dn}:∀(az:eX) (l:dr) (f:Env Γ->l.T),q1 Γ az l=Z f->∀e,ni (re Γ e) az=a6 l (f e)
 | [],l,f,h,e=>by
  cases l<;>simp only[q1]at h<;>try (cases h;done)
  rfl
 | [a],l,f,h,e=>by
  cases l with
  |nil=>simp only[q1]at h;cases h
  |one s=>simp only[q1]at h;simp only[ni,a6,vT a s f h e]
  |cons s l =>simp only[q1]at h;split at h;rename_i c hf;split at h;rename_i g d;cases h;have:=xB [] l g (by simpa only[q1]using d) e;simp only[ni]at this;simp only[ni,a6,vT a s c hf e,<-this];cases h;cases h
 |a::b::az,l,f,h,e=>by
  cases l with
  |nil=>simp only[q1]at h;cases h
  |one s=>simp only[q1]at h;cases h
  |cons s l =>simp only[q1]at h;split at h;rename_i c hf;split at h;rename_i g d;cases h;have:=xB (b::az) l g d e;rw[ni,a6,vT a s c hf e,this];cases h;cases h
theorem aq3{Γ:cu dn}:∀(es:cu eX) (l:dr) (f:Env Γ->cu l.T),G4 Γ es l=Z f->∀e,o8 (re Γ e) es=(f e).map (a6 l)
 | [],l,f,h,e=>by simp only[G4]at h;cases h;rfl
 |r::rs,l,f,h,e=>by simp only[G4]at h;split at h;rename_i a hf;split at h;rename_i g b;cases h;simp only[o8,aD,xB r l a hf e,aq3 rs l g b e];cases h;cases h
end
def dr.ofList:cu dn->dr
 | []=>.nil
 | [s]=>.one s
 |s::t=>.cons s (dr.ofList t)
mutual
def oa(Γ:cu dn):bX->dv dn
 | .ey i=>ap5 Γ i
 | .b4 (.int k _)=>Z (.int k)
 | .b4 (.bool _)=>Z .bool
 | .b4 (.string _)=>Z .str
 | .b4 (.slice W 0 0)=>Z .nl
 | .agg cs=>match KD Γ cs with
  |some l=>Z (.agg (dr.ofList l))
  |none=>W
 | .fT cs=>match KD Γ cs with
  |some l=>Z (.ptr (dr.ofList l))
  |none=>W
 | .rs (r::_)=>match KD Γ r with
  |some l=>Z (.hF (dr.ofList l))
  |none=>W
 | .mY c=>match oa Γ c with
  |some (.hF l)=>Z (.rH l)
  |_=>W
 |_=>W
def KD(Γ:cu dn):eX->dv (cu dn)
 | []=>Z []
 |a::az=>match oa Γ a with
  |some s=>match KD Γ az with
   |some l=>Z (s::l)
   |none=>W
  |none=>W
end
structure Ext(X:Type)(Γ:List dn) where
 Γ':List dn
 push:X->Env Γ->Env Γ'
def L6:Value->(s:dn)->(Γ:cu dn)->dv (Ext s.T Γ)
 | .bool b,.sF,Γ=>match b with
  |true=>Z ⟨Γ,λ_ e=>e⟩
  |false=>W
 |_,_,_=>W
mutual
def rG:bX->(s:dn)->(Γ:cu dn)->dv (Ext s.T Γ)
 | .ey i,s,Γ=>match aw i Γ.length&&s.cell with
  |true=>Z ⟨s::Γ,λv e=>(v,e)⟩
  |false=>W
 | .b4 w,s,Γ=>L6 w s Γ
 | .agg cs,.agg l,Γ=>su cs l Γ
 | .fT cs,.ptr l,Γ=>su cs l Γ
 | .ed cs,.ed l,Γ=>su cs l Γ
 | .fn (.func g) [] cs,.fn g2 l,Γ=>match aw g g2 with
  |true=>su cs l Γ
  |false=>W
 |_,_,_=>W
def su:eX->(l:dr)->(Γ:cu dn)->dv (Ext l.T Γ)
 | [],.nil,Γ=>Z ⟨Γ,λ_ e=>e⟩
 | [a],.one s,Γ=>rG a s Γ
 |a::az,.cons s l,Γ=>match rG a s Γ with
  |some ⟨b,q5⟩=>match su az l b with
   |some ⟨c,nj⟩=>Z ⟨c,λv e=>nj v.2 (q5 v.1 e)⟩
   |none=>W
  |none=>W
 |_,_,_=>W
end
def Lt{Γ:cu dn}{X:Type}(x:Ext X Γ)(sub:(Nat->bX)->Prop)(v:X)(e:Env Γ):Prop :=∃vs,pF x.Γ' (x.push v e)=vs++pF Γ e/\(∀u∈vs,nN u)/\∀us,sub (vu (aa (us++(vs++pF Γ e))) (us++(vs++pF Γ e)))
def aV2(us:eX)(v:bX)(R:eX):vu (aa (us++(v::R))) (us++(v::R)) (aa R)=v:=by
 unfold vu;have h:cL (aa R) (aa (us++(v::R)))=Y:=by rw[bP];simp;omega
 rw[h];have h2:aa (us++(v::R))-1-aa R=aa us:=by simp
 simp
def aH1{w:Value}{x:Ext s.T Γ}(h:L6 w s Γ=Z x)(v:s.T)(e:Env Γ):Lt x (λθ=>(bX.b4 w).sub θ=enc s v) v e:=by unfold L6 at h;split at h;split at h;cases h;exact⟨[],rfl,by simp,λus=>rfl⟩;cases h;cases h
mutual
theorem JK:∀(a:bX) (s:dn) (Γ:cu dn) (x:Ext s.T Γ),rG a s Γ=Z x->∀v e,Lt x (λθ=>a.sub θ=enc s v) v e
 | .ey i,s,Γ,x,h,v,e=>by simp only[rG]at h;split at h;rename_i d;cases h;simp only[ab]at d;have a7:=ae d.1;refine⟨[enc s v],rfl,?_,λus=>?_⟩;intro u hu;simp only[bz]at hu;subst hu;exact aK8 d.2 v;simp only[bX.sub];rw[a7,<-nB Γ e];exact aV2 us _ _;cases h
 | .b4 w,s,Γ,x,h,v,e=>by simp only[rG]at h;exact aH1 h v e
 | .agg cs,s,Γ,x,h,v,e=>by
  cases s<;>simp only[rG]at h<;>try (cases h;done)
  rename_i l;let ⟨vs,h1,h2,b⟩:=yy cs l Γ x h v e;exact⟨vs,h1,h2,λus=>by simp only[bX.sub,enc,b us]⟩
 | .fT cs,s,Γ,x,h,v,e=>by
  cases s<;>simp only[rG]at h<;>try (cases h;done)
  rename_i l;let ⟨vs,h1,h2,b⟩:=yy cs l Γ x h v e;exact⟨vs,h1,h2,λus=>by simp only[bX.sub,enc,b us]⟩
 | .ed cs,s,Γ,x,h,v,e=>by
  cases s<;>simp only[rG]at h<;>try (cases h;done)
  rename_i l;let ⟨vs,h1,h2,b⟩:=yy cs l Γ x h v e;exact⟨vs,h1,h2,λus=>by simp only[bX.sub,enc,b us]⟩
 | .rs _,s,Γ,x,h,v,e=>by cases s<;>simp only[rG]at h<;>cases h
 | .mY _,s,Γ,x,h,v,e=>by cases s<;>simp only[rG]at h<;>cases h
 | .fn g a c,s,Γ,x,h,v,e=>by
  cases g<;>cases a<;>cases s<;>simp only[rG]at h<;>try (cases h;done)
  split at h;rename_i d;have:=ae d;subst this;let ⟨vs,h1,h2,b⟩:=yy c _ Γ x h v e;exact⟨vs,h1,h2,λus=>by simp only[bX.sub,enc,b us,ni]⟩;cases h
 | .any,s,Γ,x,h,v,e=>by cases s<;>simp only[rG]at h<;>cases h
 | .ms _ _ _ _,s,Γ,x,h,v,e=>by cases s<;>simp only[rG]at h<;>cases h
 | .mp _ _ _,s,Γ,x,h,v,e=>by cases s<;>simp only[rG]at h<;>cases h
 | .mm _,s,Γ,x,h,v,e=>by cases s<;>simp only[rG]at h<;>cases h
 | .it _,s,Γ,x,h,v,e=>by cases s<;>simp only[rG]at h<;>cases h
 | .c8 _ _ _,s,Γ,x,h,v,e=>by cases s<;>simp only[rG]at h<;>cases h
 | .l3 _ _ _,s,Γ,x,h,v,e=>by cases s<;>simp only[rG]at h<;>cases h
theorem yy:∀(az:List bX) (l:dr) (Γ:List dn) (x:Ext l.T Γ),su az l Γ=Z x->∀v e,Lt x (λθ=>ni θ az=a6 l v) v e
 | [],l,Γ,x,h,v,e=>by
  cases l<;>simp only[su]at h<;>try (cases h;done)
  cases h;exact⟨[],rfl,by simp,λus=>rfl⟩
 | [a],l,Γ,x,h,v,e=>by
  cases l with
  |nil=>simp only[su]at h;cases h
  |one s =>simp only[su]at h;obtain⟨vs,h1,h2,j⟩:=JK a s Γ x h v e;exact⟨vs,h1,h2,λus=>by simp only[ni,a6,j us]⟩
  |cons s l=>
   simp only[su]at h;split at h;rename_i f q5 hf;split at h;rename_i m nj n;cases h;obtain⟨vs,h1,h2,j⟩:=JK a s Γ _ hf v.1 e;obtain⟨c,d,g,i⟩:=yy [] l f _ (by simpa only[su]using n) v.2 (q5 v.1 e);simp only at h1 d;refine⟨c++vs,by simp only[d,h1,cz],?_,λus=>?_⟩;intro u hu;rcases aV.1 hu with hu|hu
   exact g u hu;exact h2 u hu;have k:=j (us++c);have a2:=i us;rw[h1]at a2;simp only[cz]at k a2⊢;rw[ni,a6,k,<-a2];cases h;cases h
 |a::b::az,l,Γ,x,h,v,e=>by
  cases l with
  |nil=>simp only[su]at h;cases h
  |one s=>simp only[su]at h;cases h
  |cons s l=>
   simp only[su]at h;split at h;rename_i f q5 hf;split at h;rename_i m nj n;cases h;obtain⟨vs,h1,h2,j⟩:=JK a s Γ _ hf v.1 e;obtain⟨c,d,g,i⟩:=yy (b::az) l f _ n v.2 (q5 v.1 e);simp only at h1 d;refine⟨c++vs,by simp only[d,h1,cz],?_,λus=>?_⟩;intro u hu;rcases aV.1 hu with hu|hu
   exact g u hu;exact h2 u hu;have k:=j (us++c);have a2:=i us;rw[h1]at a2;simp only[cz]at k a2⊢;rw[ni,a6,k,<-a2];cases h;cases h
end
variable {a:Int}{args:eX}{b:Int}{f:FuncId}{i:bX}{k:IntKind}{l:eX}{o:BinOp}{t:TypeId}{x:bX}
structure c9 where
 f:FuncId
 mW:dr
 nu:dn
 fn:mW.T->Option nu.T
def c9.Ok(Φ:lv)(t:c9):Prop:=∀x r,t.fn x=Z r->∃φ,Φ t.f=Z φ/\φ (a6 t.mW x)=Z (enc t.nu r)
structure yg(Γ:List dn) where
 s:dn
 g:Env Γ->Option s.T
def yg.Ok(T:bY)(Φ:lv){Γ:cu dn}(o:nU)(t:yg Γ):Prop:=∀e v,t.g e=Z v->iv T Φ (re Γ e) o=Z (enc t.s v)
def Mu(o:BinOp)(k:IntKind):dv ((s:dn)×(Int->Int->dv s.T)):=match o with
 | .add=>Z ⟨.int k,λa b=>Z (k.wrap (a+b))⟩
 | .sub=>Z ⟨.int k,λa b=>Z (k.wrap (a-b))⟩
 | .mul=>Z ⟨.int k,λa b=>Z (k.wrap (a*b))⟩
 | .quo=>Z ⟨.int k,λa b=>cond (b=0) W <|some (k.wrap (a.tdiv b))⟩
 | .rem=>Z ⟨.int k,λa b=>cond (b=0) W <|some (a.tmod b)⟩
 | .and=>Z ⟨.int k,λa b=>Z (k.wrap (aW k.bits a &&& aW k.bits b).toNat)⟩
 | .or=>Z ⟨.int k,λa b=>Z (k.wrap (aW k.bits a |||aW k.bits b).toNat)⟩
 | .eql=>Z ⟨.bool,λa b=>Z (No (a=b))⟩
 | .neq=>Z ⟨.bool,λa b=>Z (!decide (a=b))⟩
 | .lss=>Z ⟨.bool,λa b=>Z (No (a<b))⟩
 | .leq=>Z ⟨.bool,λa b=>Z (No (a<=b))⟩
 | .gtr=>Z ⟨.bool,λa b=>Z (No (b<a))⟩
 | .geq=>Z ⟨.bool,λa b=>Z (No (b<=a))⟩
 |_=>W
def aU2{T:bY}{q:(s:dn)×(Int->Int->dv s.T)}(h:Mu o k=Z q){v:q.1.T}(hv:q.2 a b=Z v)(t:TypeId):q7 T o t (.b4 (.int k a)) (.b4 (.int k b))=Z (enc q.1 v):=by
 unfold Mu at h;split at h<;>first| (cases h;done)|skip
 all_goals (cases h;simp only[ah]at hv)
 case h_4 =>by_cases c:b=0;simp[c]at hv;simp only[c,n4,bu,ah]at hv;subst hv;simp[q7,yc,enc,c]
 case h_5 =>by_cases c:b=0;simp[c]at hv;simp only[c,n4,bu,ah]at hv;subst hv;simp[q7,yc,enc,c]
 all_goals (subst hv;simp[q7,yc,enc])
 rfl;rfl
def P0(o:BinOp)(k:IntKind):dv (Int->Int->dv Int):=match o with
 | .shl=>Z λa b=>cond (b<0) W <|some (k.wrap (a*2^(min b.toNat k.bits)))
 | .shr=>Z λa b=>cond (b<0) W <|some (a.fdiv (2^(min b.toNat k.bits)))
 |_=>W
def bM1{T:bY}{d:IntKind}{q:Int->Int->dv Int}(h:P0 o k=Z q){v:Int}(hv:q a b=Z v)(t:TypeId):q7 T o t (.b4 (.int k a)) (.b4 (.int d b))=Z (.b4 (.int k v)):=by
 unfold P0 at h;split at h<;>first| (cases h;done)|skip
 all_goals
  cases h;by_cases c:b<0;simp[c]at hv;simp only[c,n4,bu,ah]at hv;subst hv;simp[q7,yc,c]
def xb:(l:dr)->dv (l.T->l.T->Bool)
 | .one (.int .i64)=>Z λa b=>No (a=b)
 | .cons (.int .i64) l=>match xb l with
  |some g=>Z λa b=>No (a.1=b.1)&&g a.2 b.2
  |none=>W
 |_=>W
def aB2:∀(l:dr) (g:l.T->l.T->Bool),xb l=Z g->∃ints:l.T->eD,(∀x,bX.vf (a6 l x)=Z (ints x)/\aa (ints x)=l.len)/\∀a b,(ints a==ints b)=g a b
 | .nil,g,h=>by simp[xb]at h
 | .one s,g,h=>by
  cases s with
  |int k=>
   cases k<;>simp only[xb]at h<;>try (cases h;done)
   cases h;refine⟨λx=>[x],λx=>⟨rfl,rfl⟩,λa b=>?_⟩;by_cases c:a=b<;>simp[c]
  |_=>simp[xb]at h
 | .cons s l,g,h=>by
  cases s with
  |int k=>
   cases k<;>simp only[xb]at h<;>try (cases h;done)
   split at h;rename_i e f;cases h;let ⟨ints,h1,h2⟩:=aB2 l e f;refine⟨λx=>x.1::ints x.2,λx=>⟨?_,by simp[dr.len,(h1 x.2).2]⟩,λa b=>?_⟩;simp only[a6,enc,bX.vf,(h1 x.2).1];have i:∀(p q:Int) (x y:eD),((p::x)==(q::y))=(No (p=q)&&(x==y)):=λp q x y=>by by_cases d:p=q<;>simp[d]
   rw[i,h2];cases h
  |_=>simp[xb]at h
def Qc(T:bY)(Γ:cu dn)(o:BinOp)(t:TypeId)(x y:bX):dv (yg Γ):=match oa Γ x with
 |some (.int k)=>match qy Γ x (.int k)with
  |some b=>match P0 o k with
   |some q=>match oa Γ y with
    |some (.int c)=>match qy Γ y (.int c)with
     |some a=>Z ⟨.int k,λe=>q (b e) (a e)⟩
     |none=>W
    |_=>W
   |none=>match qy Γ y (.int k)with
    |some a=>match Mu o k with
     |some q=>Z ⟨q.1,λe=>q.2 (b e) (a e)⟩
     |none=>W
    |none=>W
  |none=>W
 |some .bool=>match qy Γ x .bool with
  |some b=>match qy Γ y .bool with
   |some a=>match T t with
    |some { j4:=.bool,.. }=>match o with
     | .eql=>Z ⟨.bool,λe=>Z (b e==a e)⟩
     | .neq=>Z ⟨.bool,λe=>Z (!(b e==a e))⟩
     |_=>W
    |_=>W
   |none=>W
  |none=>W
 |some .str=>match qy Γ x .str with
  |some b=>match qy Γ y .str with
   |some a=>match o with
    | .eql=>Z ⟨.bool,λe=>Z ((b e).toList==(a e).toList)⟩
    | .neq=>Z ⟨.bool,λe=>Z (!((b e).toList==(a e).toList))⟩
    |_=>W
   |none=>W
  |none=>W
 |some (.agg l)=>match qy Γ x (.agg l)with
  |some b=>match qy Γ y (.agg l)with
   |some a=>match xb l with
    |some q=>match T t with
     |some ti=>match ti.flat with
      |some n=>match aw n l.len with
       |true=>match o with
        | .eql=>Z ⟨.bool,λe=>Z (q (b e) (a e))⟩
        | .neq=>Z ⟨.bool,λe=>Z (!(q (b e) (a e)))⟩
        |_=>W
       |false=>W
      |none=>W
     |none=>W
    |none=>W
   |none=>W
  |none=>W
 |_=>W
def ba8{T:bY}{Φ:lv}{Γ:cu dn}{y:bX}{r:yg Γ}(h:Qc T Γ o t x y=Z r):r.Ok T Φ (.bin o t x y):=by intro e v hv;unfold Qc at h;split at h;split at h;rename_i i b;split at h;rename_i q c;split at h;split at h;rename_i f a;cases h;simp only[iv,vT _ _ _ b e,vT _ _ _ a e];exact bM1 c hv t;cases h;cases h;split at h;rename_i f a;split at h;rename_i q c;cases h;simp only[iv,vT _ _ _ b e,vT _ _ _ a e];exact aU2 c hv t;cases h;cases h;cases h;split at h;rename_i i b;split at h;rename_i f a;split at h;rename_i d;split at h;cases h;cases hv;simp[iv,vT _ _ _ b e,vT _ _ _ a e,enc,q7,d];cases h;cases hv;simp[iv,vT _ _ _ b e,vT _ _ _ a e,enc,q7,d];cases h;cases h;cases h;cases h;split at h;rename_i i b;split at h;rename_i f a;split at h;cases h;cases hv;simp[iv,vT _ _ _ b e,vT _ _ _ a e,enc,q7,yc];cases h;cases hv;simp[iv,vT _ _ _ b e,vT _ _ _ a e,enc,q7,yc];cases h;cases h;cases h;split at h;rename_i i b;split at h;rename_i f a;split at h;rename_i q c;let ⟨ints,h1,h2⟩:=aB2 _ _ c;split at h;rename_i ti d;split at h;rename_i n j;split at h;rename_i g;have g:=ae g;split at h;cases h;cases hv;simp only[iv,vT _ _ _ b e,vT _ _ _ a e,enc,q7,(h1 _).1,d,j,(h1 _).2,g,and_self,vE,h2];cases h;cases hv;simp only[iv,vT _ _ _ b e,vT _ _ _ a e,enc,q7,(h1 _).1,d,j,(h1 _).2,g,and_self,vE,h2];cases h;cases h;cases h;cases h;cases h;cases h;cases h;cases h
def Qw(Γ:cu dn)(o:UnOp)(x:bX):dv (yg Γ):=match o with
 | .neg=>match oa Γ x with
  |some (.int k)=>match qy Γ x (.int k)with
   |some a=>Z ⟨.int k,λe=>Z (k.wrap (0-a e))⟩
   |none=>W
  |_=>W
 | .not=>match qy Γ x .bool with
  |some a=>Z ⟨.bool,λe=>Z (!(a e))⟩
  |none=>W
 |_=>W
def bQ0{T:bY}{Φ:lv}{Γ:cu dn}{o:UnOp}{r:yg Γ}(h:Qw Γ o x=Z r):r.Ok T Φ (.un o x):=by intro e v hv;unfold Qw at h;split at h;split at h;split at h;rename_i b a;cases h;cases hv;simp[iv,vT _ _ _ a e,enc,wD];cases h;cases h;split at h;rename_i b a;cases h;cases hv;simp[iv,vT _ _ _ a e,enc,wD];cases h;cases h
def TE(T:bY)(Γ:cu dn)(s:TypeId)(x:bX):dv (yg Γ):=match T s with
 |some { j4:=.slice el,.. }=>match T el with
  |some { j4:=.int .u8,.. }=>match qy Γ x (.hF (.one (.int .u8)))with
   |some a=>Z ⟨.str,λe=>Z (zP (a e))⟩
   |none=>W
  |_=>W
 |_=>W
def L0(T:bY)(Γ:cu dn)(s d:TypeId)(x:bX):dv (yg Γ):=match T s with
 |some _=>match T d with
  |some { j4:=.int k,.. }=>match oa Γ x with
   |some (.int a)=>match qy Γ x (.int a)with
    |some b=>Z ⟨.int k,λe=>Z (k.wrap (b e))⟩
    |none=>W
   |_=>W
  |some { j4:=.string,.. }=>TE T Γ s x
  |_=>W
 |none=>W
def cd3(l:eD):xV (l.map (a6 (.one (.int .u8))))=Z l:=by
 induction l with
 |nil=>rfl
 |cons n l a =>have e:(n::l).map (a6 (.one (.int .u8)))=[.b4 (.int .u8 n)]::l.map (a6 (.one (.int .u8))):=rfl;rw[e];unfold xV;rw[a]
def aR3{T:bY}{Φ:lv}{Γ:cu dn}{s d:TypeId}{r:yg Γ}(h:L0 T Γ s d x=Z r):r.Ok T Φ (.conv s d x):=by
 intro e v hv;unfold L0 at h;split at h;rename_i hs;split at h;rename_i hd;split at h;split at h;rename_i b a;cases h;cases hv;simp[iv,vT _ _ _ a e,enc,w0,hs,hd];cases h;cases h;rename_i hd;unfold TE at h;split at h;rename_i c;split at h;rename_i he;split at h;rename_i b a;cases h;cases hv;have f:iv T Φ (re Γ e) (.conv s d x)=w0 T s d (enc (.hF (.one (.int .u8))) (b e)):=by simp only[iv,vT _ _ _ a e]
 rw[f];simp only[w0,c,hd,he,enc];have g:xV (cD (a6 (.one (.int .u8))) (b e))=Z (b e):=cd3 (b e);rw[g];cases h;cases h;cases h;cases h;cases h
def nth{α:Type}(xs:cu α)(i:Int):dv α:=cond (0<=i) (xs[i.toNat]?) W
def Qj(T:bY)(Γ:cu dn)(t:TypeId)(x i:bX):dv (yg Γ):=match T t with
 |some { j4:=.slice el,.. }=>match T el with
  |some a=>match oa Γ x with
   |some (.hF l)=>match qy Γ x (.hF l)with
    |some b=>match oa Γ i with
     |some (.int k)=>match qy Γ i (.int k)with
      |some c=>match aw l.len a.size with
       |true=>Z ⟨.ptr l,λe=>nth (b e) (c e)⟩
       |false=>W
      |none=>W
     |_=>W
    |none=>W
   |_=>W
  |none=>W
 |_=>W
def aT0{T:bY}{Φ:lv}{Γ:cu dn}{r:yg Γ}(h:Qj T Γ t x i=Z r):r.Ok T Φ (.idx t x i):=by intro e v hv;unfold Qj at h;split at h;rename_i f;split at h;rename_i j he;split at h;split at h;rename_i k a;split at h;split at h;rename_i g b;split at h;rename_i c;have c:=ae c;cases h;simp only[nth]at hv;by_cases d:0<=g e;simp only[d,l6,b6]at hv;simp only[iv,vT _ _ _ a e,vT _ _ _ b e,enc,sH,f,he,d];rw[aS,hv];simp only[ai,ui,c,vE];simp[d]at hv;cases h;cases h;cases h;cases h;cases h;cases h;cases h
def DE(s:dn):(l:dr)->dv (l.T->cu s.T)
 | .nil=>Z λ_=>[]
 | .one s'=>match h:s'.nR s with
  |true=>Z λx=>[Cl h x]
  |false=>W
 | .cons s' l=>match h:s'.nR s with
  |true=>match DE s l with
   |some g=>Z λx=>Cl h x.1::g x.2
   |none=>W
  |false=>W
def PJ(s:dn):∀(l:dr) (g:l.T->cu s.T),DE s l=Z g->∀x,a6 l x=(g x).map (enc s)
 | .nil,g,h,x=>by simp only[DE]at h;cases h;rfl
 | .one s',g,h,x=>by unfold DE at h;split at h;cases h;simp only[a6,aD,cM,Dj];cases h
 | .cons s' l,g,h,x=>by unfold DE at h;split at h;split at h;rename_i a b;cases h;simp only[a6,aD,Dj,PJ s l a b x.2];cases h;cases h
def dr.head:dr->dn
 | .nil=>.sF
 | .one s=>s
 | .cons s _=>s
def pE(s:ByteArray)(i:Int):dv Int:=cond (0<=i) ((s[i.toNat]?).map (λb=>(b.toNat:Int))) W
def DN(T:bY)(Γ:cu dn)(t:TypeId)(x i:bX):dv (yg Γ):=match oa Γ i with
 |some (.int k)=>match qy Γ i (.int k)with
  |some b=>match T t with
   |some { j4:=.array len el,.. }=>match T el with
    |some c=>match oa Γ x with
     |some (.agg l)=>match qy Γ x (.agg l)with
      |some a=>match DE l.head l with
       |some g=>match aw l.len len&&(aw c.size 1&&!c.isAgg)with
        |true=>Z ⟨l.head,λe=>nth (g (a e)) (b e)⟩
        |false=>W
       |none=>W
      |none=>W
     |_=>W
    |none=>W
   |some { j4:=.string,.. }=>match qy Γ x .str with
    |some a=>Z ⟨.int .u8,λe=>pE (a e) (b e)⟩
    |none=>W
   |_=>W
  |none=>W
 |_=>W
def cb0{T:bY}{Φ:lv}{Γ:cu dn}{r:yg Γ}(h:DN T Γ t x i=Z r):r.Ok T Φ (.index t x i):=by
 intro e v hv;unfold DN at h;split at h;split at h;rename_i f j;split at h;rename_i len el _ _ _ _ o;split at h;rename_i s he;split at h;rename_i l hl;split at h;rename_i m d;split at h;rename_i g p;split at h;rename_i n;simp only[ab,cy,dt]at n;cases h;simp only[nth]at hv;by_cases c:0<=f e;simp only[c,l6,b6]at hv;have hlen:aa (g (m e))=l.len:=by have:=Ar aa (PJ _ _ _ p (m e));rw[ui,aI]at this;exact this.symm
 have k:=(aq.1 hv).1;have h1:f e<(len:Int):=by
  have:(f e).toNat<l.len:=by rw[hlen]at k;exact k
  rw[n.1]at this;have key:∀z:Int,0<=z->z.toNat<len->z<(len:Int):=λz a b=>by omega
  exact key _ c this
 simp only[iv,vT _ _ _ d e,vT _ _ _ j e,enc,vZ,o,he,c,h1,Ay,sj,n.2.2,n.2.1,Nat.mul_one];rw[PJ _ _ _ p,aS,hv];rfl;simp[c]at hv;cases h;cases h;cases h;cases h;cases h;rename_i o;split at h;rename_i m d;cases h;simp only[pE]at hv;by_cases c:0<=f e;simp only[c]at hv;simp only[iv,vT _ _ _ d e,vT _ _ _ j e,enc,vZ,o,c];cases q:(m e)[(f e).toNat]? with
 |none=>rw[q]at hv;cases hv
 |some b=>rw[q]at hv;cases hv;rfl
 simp[c]at hv;cases h;cases h;cases h;cases h
def yi(n:Nat)(x:dv Int)(d:Nat):dv Nat:=match x with
 |none=>Z d
 |some i=>cond (0<=i&&i<=n) (Z i.toNat) W
def tx{α:Type}(xs:cu α)(b7 a7:dv Int):dv (cu α):=match yi (aa xs) a7 (aa xs)with
 |some h=>match yi h b7 0 with
  |some l=>Z ((xs.take h).drop l)
  |none=>W
 |none=>W
def Ec(Γ:cu dn):dv bX->dv (Env Γ->dv Int)
 |none=>Z λ_=>W
 |some a=>match oa Γ a with
  |some (.int k)=>match qy Γ a (.int k)with
   |some f=>Z λe=>Z (f e)
   |none=>W
  |_=>W
def JI{Γ:cu dn}{a:dv bX}{f:Env Γ->dv Int}(h:Ec Γ a=Z f)(e:Env Γ)(n d:Nat):bound n (a.map (bX.sub (re Γ e))) d=yi n (f e) d:=by unfold Ec at h;split at h;cases h;rfl;split at h;split at h;rename_i b hf;cases h;simp only[ai,vT _ _ _ hf e,enc,bound,yi];by_cases c:0<=b e<;>by_cases h1:b e<=n<;>simp;cases h;cases h
def D8(s:ByteArray)(b7 a7:dv Int):dv ByteArray:=match yi s.size a7 s.size with
 |some h=>match yi h b7 0 with
  |some l=>Z (s.extract l h)
  |none=>W
 |none=>W
def Qu(T:bY)(Γ:cu dn)(t:TypeId)(x:bX)(b7 a7:dv bX):dv (yg Γ):=match T t with
 |some { j4:=.slice el,.. }=>match T el with
  |some d=>match oa Γ x with
   |some (.hF l)=>match qy Γ x (.hF l)with
    |some a=>match Ec Γ b7 with
     |some b=>match Ec Γ a7 with
      |some c=>match aw l.len d.size with
       |true=>Z ⟨.hF l,λe=>tx (a e) (b e) (c e)⟩
       |false=>W
      |none=>W
     |none=>W
    |none=>W
   |_=>W
  |none=>W
 |some { j4:=.string,.. }=>match qy Γ x .str with
  |some a=>match Ec Γ b7 with
   |some b=>match Ec Γ a7 with
    |some c=>Z ⟨.str,λe=>D8 (a e) (b e) (c e)⟩
    |none=>W
   |none=>W
  |none=>W
 |_=>W
def aX7{T:bY}{Φ:lv}{Γ:cu dn}{b7 a7:dv bX}{r:yg Γ}(h:Qu T Γ t x b7 a7=Z r):r.Ok T Φ (.Cq t x b7 a7):=by intro e v hv;unfold Qu at h;split at h;rename_i g;split at h;rename_i m he;split at h;split at h;rename_i j a;split at h;rename_i k b;split at h;rename_i l c;split at h;rename_i i;have i:=ae i;cases h;simp only[tx]at hv;simp only[iv,vT _ _ _ a e,enc,uB,g,he,aI,JI c e,JI b e];split at hv;rename_i h1 d;split at hv;rename_i l2 f;cases hv;simp only[d,f];rw[cr];rw[<-List.map_take,<-List.map_drop];simp[ui,i];cases hv;cases hv;cases h;cases h;cases h;cases h;cases h;cases h;rename_i g;split at h;rename_i j a;split at h;rename_i k b;split at h;rename_i l c;cases h;simp only[D8]at hv;simp only[iv,vT _ _ _ a e,enc,uB,g,JI c e,JI b e];split at hv;rename_i h1 d;split at hv;rename_i l2 f;cases hv;simp only[d,f];cases hv;cases hv;cases h;cases h;cases h;cases h
def Qo(T:bY)(Γ:cu dn)(t:TypeId)(x:bX):dv (yg Γ):=match T t with
 |some { j4:=.slice _,.. }=>match oa Γ x with
  |some (.hF l)=>match qy Γ x (.hF l)with
   |some a=>Z ⟨.int .i64,λe=>Z (aa (a e):Int)⟩
   |none=>W
  |_=>W
 |some { j4:=.string,.. }=>match qy Γ x .str with
  |some a=>Z ⟨.int .i64,λe=>Z ((a e).size:Int)⟩
  |none=>W
 |_=>W
def ba4{T:bY}{Φ:lv}{Γ:cu dn}{r:yg Γ}(h:Qo T Γ t x=Z r):r.Ok T Φ (.len t x):=by intro e v hv;unfold Qo at h;split at h;rename_i b;split at h;split at h;rename_i c a;cases h;cases hv;simp[iv,vT _ _ _ a e,enc,p3,b,goInt];cases h;cases h;rename_i b;split at h;rename_i c a;cases h;cases hv;simp[iv,vT _ _ _ a e,enc,p3,b,goInt];cases h;cases h
def qG(a b:Int):Int:=ite (b > a) b a
def w6(a b:Int):Int:=ite (b<a) b a
def Ek(Γ:cu dn)(k:IntKind):eX->dv (Env Γ->eD)
 | []=>Z λ_=>[]
 |a::az=>match qy Γ a (.int k)with
  |some f=>match Ek Γ k az with
   |some g=>Z λe=>f e::g e
   |none=>W
  |none=>W
def OH{Γ:cu dn}:∀(az:eX) (f:Env Γ->eD),Ek Γ k az=Z f->∀e,az.map (bX.sub (re Γ e))=(f e).map (λn=>bX.b4 (.int k n))
 | [],f,h,e=>by simp only[Ek]at h;cases h;rfl
 |a::az,f,h,e=>by simp only[Ek]at h;split at h;rename_i c hf;split at h;rename_i g b;cases h;simp only[aD,vT _ _ _ hf e,enc,OH az g b e];cases h;cases h
def Wq(k:IntKind):∀(l:eD) (a:Int),Ag k a (l.map (λn=>bX.b4 (.int k n)))=Z (.int k (l.foldl qG a))
 | [],_=>rfl
 |b::l,a=>by simp only[aD];exact Wq k l _
def WC(k:IntKind):∀(l:eD) (a:Int),Ah k a (l.map (λn=>bX.b4 (.int k n)))=Z (.int k (l.foldl w6 a))
 | [],_=>rfl
 |b::l,a=>by simp only[aD];exact WC k l _
def Qr(Γ:cu dn)(l:eX):dv (yg Γ):=match l with
 |a::az=>match oa Γ a with
  |some (.int k)=>match qy Γ a (.int k)with
   |some f=>match Ek Γ k az with
    |some g=>Z ⟨.int k,λe=>Z ((g e).foldl qG (f e))⟩
    |none=>W
   |none=>W
  |_=>W
 | []=>W
def Qq(Γ:cu dn)(l:eX):dv (yg Γ):=match l with
 |a::az=>match oa Γ a with
  |some (.int k)=>match qy Γ a (.int k)with
   |some f=>match Ek Γ k az with
    |some g=>Z ⟨.int k,λe=>Z ((g e).foldl w6 (f e))⟩
    |none=>W
   |none=>W
  |_=>W
 | []=>W
def bP6{T:bY}{Φ:lv}{Γ:cu dn}{r:yg Γ}(h:Qr Γ l=Z r):r.Ok T Φ (.pP l):=by intro e v hv;unfold Qr at h;split at h;split at h;split at h;rename_i f hf;split at h;rename_i g a;cases h;cases hv;simp only[iv,aD,vT _ _ _ hf e,enc,zn,OH _ _ a e,Wq,ai];cases h;cases h;cases h;cases h
def bP5{T:bY}{Φ:lv}{Γ:cu dn}{r:yg Γ}(h:Qq Γ l=Z r):r.Ok T Φ (.yT l):=by intro e v hv;unfold Qq at h;split at h;split at h;split at h;rename_i f hf;split at h;rename_i g a;cases h;cases hv;simp only[iv,aD,vT _ _ _ hf e,enc,zl,OH _ _ a e,WC,ai];cases h;cases h;cases h;cases h
def dn.Fi:dn->Bool
 | .nl=>Y
 |s=>s.cell
variable {Γ:cu dn}{r:yg Γ}{s:dn}
def OG(h:s.Fi=Y)(x:s.T):(enc s x).one=Y:=by cases s<;>first|rfl| (simp[dn.Fi,dn.cell]at h)
def dr.cells:dr->Bool
 | .nil=>Y
 | .one s=>s.Fi
 | .cons s l=>s.Fi&&l.cells
def Jc:∀ {l:dr},l.cells=Y->∀x:l.T,(a6 l x).all bX.one=Y
 | .nil,_,_=>rfl
 | .one s,h,x=>by simp only[a6,bE,dD,fQ];exact OG h x
 | .cons s l,h,x=>by simp only[dr.cells,ab]at h;simp only[a6,bE,OG h.1,Jc h.2,bG]
def j6{α:Type}(bytes:Nat)(xs ys:cu α):dv (cu α):=cond ((2*(aa xs+aa ys)+1000)*bytes<=2^48&&aa xs+aa ys<=2^62) (Z (xs++ys)) W
def Qd(T:bY)(Γ:cu dn)(sT xT:TypeId)(x y:bX):dv (yg Γ):=match T sT with
 |some { j4:=.slice el,.. }=>match T xT with
  |some b=>match T el with
   |some a=>match(match oa Γ x with|some s=>Z s|none=>oa Γ y)with
    |some (.hF l)=>match qy Γ x (.hF l)with
     |some c=>match qy Γ y (.hF l)with
      |some d=>match(!b.isInt)&&(aw l.len a.size&&(l.cells&&cL 0 a.size))with
       |true=>Z ⟨.hF l,λe=>j6 a.bytes (c e) (d e)⟩
       |false=>W
      |none=>W
     |none=>W
    |_=>W
   |none=>W
  |none=>W
 |_=>W
def bb4{T:bY}{Φ:lv}{sT xT:TypeId}{y:bX}(h:Qd T Γ sT xT x y=Z r):r.Ok T Φ (.cat sT xT x y):=by
 intro e v hv;unfold Qd at h;split at h;rename_i i;split at h;rename_i o a;split at h;rename_i j he;split at h;split at h;rename_i d b;split at h;rename_i f c;split at h;rename_i g;simp only[ab,cy,dt,bP]at g;let ⟨k,l,m,n⟩:=g;cases h;simp only[j6]at hv;cases hc:(No ((2*(aa (d e)+aa (f e))+1000)*j.bytes<=2^48)&&No (aa (d e)+aa (f e)<=2^62))with
 |false=>rw[hc]at hv;cases hv
 |true =>rw[hc]at hv;simp only[ab,kA]at hc;cases hv;simp only[iv,vT _ _ _ b e,vT _ _ _ c e,enc,Hl,i,a,he,aI];rw[cr];rw[ez];refine⟨k,?_,hc.1,hc.2,n⟩;rw[gz,aj];intro y _;simp[ui,l,Jc m y]
 cases h;cases h;cases h;cases h;cases h;cases h;cases h
def dn.tU:dn->Bool
 | .int _=>Y
 | .bool=>Y
 | .str=>Y
 | .sF=>Y
 |_=>U
def dr.tU:dr->Bool
 | .nil=>Y
 | .one s=>s.tU
 | .cons s l=>s.tU&&l.tU
def dn.sv:dn->Bool
 | .agg l=>l.tU
 |s=>s.tU
def dr.sv:dr->Bool
 | .nil=>Y
 | .one s=>s.sv
 | .cons s l=>s.sv&&l.sv
def dn.M0:dn->Bool
 | .ed l=>l.sv
 | .agg l=>l.tU
 |s=>s.tU
def au3(h:s.tU=Y)(x:s.T):∃v,enc s x=.b4 v:=by cases s<;>simp[dn.tU]at h<;>exact⟨_,rfl⟩
def I9:∀ {l:dr},l.tU=Y->∀(x:l.T),(a6 l x).all (λc=>match c with| .b4 _=>Y|_=>U)=Y
 | .nil,_,_=>rfl
 | .one s,h,x=>by let ⟨v,hv⟩:=au3 (s:=s) h x;simp[a6,hv]
 | .cons s l,h,x=>by simp only[dr.tU,ab]at h;let ⟨v,hv⟩:=au3 h.1 x.1;simp[a6,hv,I9 h.2]
def an0:∀ {l:dr},l.sv=Y->∀(x:l.T),(a6 l x).all (λc=>match c with| .b4 _=>Y| .agg a=>a.all (λd=>match d with| .b4 _=>Y|_=>U)|_=>U)=Y
 | .nil,_,_=>rfl
 | .one s,h,x=>by cases s<;>simp[dr.sv,dn.sv,dn.tU]at h<;>simp[a6,enc];exact λd hd=>aj.1 (I9 h x) d hd
 | .cons s l,h,x=>by simp only[dr.sv,ab]at h;have:=an0 h.2 x.2;rw[a6,bE,this,fQ];have h1:=h.1;cases s<;>simp[dn.sv,dn.tU]at h1<;>simp[enc];exact λd hd=>aj.1 (I9 h1 x.1) d hd
def aO8(h:s.M0=Y)(x:s.T):El (enc s x)=Y:=by cases s<;>simp[dn.M0,dn.tU]at h<;>simp only[enc,El];exact I9 h x;exact an0 h x
def Ls(Γ:cu dn)(f:FuncId)(args:eX)(a:Bool)(t:c9):dv (yg Γ):=match aw t.f f&&(!a||t.nu.M0)with
 |true=>match q1 Γ args t.mW with
  |some b=>Z ⟨t.nu,λe=>t.fn (b e)⟩
  |none=>W
 |false=>W
def GU(Γ:cu dn)(f:FuncId)(args:eX)(a:Bool):cu c9->dv (yg Γ)
 | []=>W
 |t::ts=>match Ls Γ f args a t with
  |some r=>Z r
  |none=>GU Γ f args a ts
def DC(θ:Nat->bX):∀l,ni θ l=l.map (bX.sub θ):=λl=>pT θ l
def bY1{T:bY}{Φ:lv}{d:Bool}{t:c9}(i:t.Ok Φ)(h:Ls Γ f args d t=Z r):r.Ok T Φ (.call f args d):=by
 intro e v hv;unfold Ls at h;split at h;rename_i a;simp only[ab,cy,bx,dt]at a;obtain⟨rfl,a⟩:=a;split at h;rename_i j c;cases h;let ⟨φ,h1,h2⟩:=i _ _ hv;have g:=xB _ _ _ c e;rw[DC]at g;simp only[iv,h1,g,h2];rw[cr];intro b;rcases a with a|a
 rw[a]at b;cases b;exact aO8 a v;cases h;cases h
def ax1{T:bY}{Φ:lv}{a:Bool}:∀(b:cu c9) {r:yg Γ},(∀t∈b,t.Ok Φ)->GU Γ f args a b=Z r->r.Ok T Φ (.call f args a)
 | [],r,_,h=>by simp[GU]at h
 |t::ts,r,c,h=>by simp only[GU]at h;split at h;rename_i e d;cases h;exact bY1 (c t (by simp)) d;exact ax1 ts (λt h=>c t (by simp[h])) h
def DF(Γ:cu dn)(j:Nat):Bool:=match ap5 Γ j with
 |some (.hF l)=>(A9 Γ j (.hF l)).isSome
 |_=>U
def aB0{j:Nat}(h:DF Γ j=Y)(e:Env Γ):∃es,re Γ e j=.rs es:=by
 unfold DF at h;split at h;rename_i l _;cases hv:A9 Γ j (.hF l)with
 |none=>rw[hv]at h;cases h
 |some f=>exact⟨_,PO hv e⟩
 cases h
def LS(Γ:cu dn)(l:cu Nat):dv (yg Γ):=match l.all (DF Γ)with
 |true=>Z ⟨.sF,λ_=>Z ()⟩
 |false=>W
def aR0{T:bY}{Φ:lv}{l:cu Nat}(h:LS Γ l=Z r):r.Ok T Φ (.rows l):=by intro e v hv;unfold LS at h;split at h;rename_i a;cases h;exact ba3 λj hj=>aB0 (aj.1 a j hj) e;cases h
end Go.Ab
