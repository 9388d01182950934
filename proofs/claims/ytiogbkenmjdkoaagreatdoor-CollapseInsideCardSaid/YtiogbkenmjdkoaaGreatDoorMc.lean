/- A part of the proof; its readable source lies in wip of the prover's repo (squeezed here for the limit of bytes). -/
import Derived.Test.YtiogbkenmjdkoaaGreatDoorMb
import Derived.IntWalk
import Derived.Carry
import Derived.ChangeSame
set_option linter.all false
open BitVec renaming ofInt->de
open Bool renaming and_eq_true->ab,and_self->e_,and_true->fZ,false_eq_true->aq,not_eq_true'->bS,or_eq_true->bD,true->IN,false->IS
open Decidable renaming decide->IT
open Function renaming comp_def->cR
open Go.DataW renaming TrodAll->gq
open Go.Instr renaming next->ie,range->kL
open Go.Result renaming andThen_ok->ah
open Go.Sem renaming run_bind->an,run_pure->ar
open Go.Utf8 renaming decode->cz
open Go.Value renaming bool->kX,okWide->iK
open Go.Value.bool renaming injEq->iD
open List renaming all_cons->cE,all_eq_true->ak,all_map->dV,all_nil->ij,append_assoc->cx,eq_nil_of_length_eq_zero->bu,filter_cons->bw,foldl_cons->fP,getElem?_append_left->ig,getElem?_append_right->dR,getElem?_cons_succ->aM,getElem?_eq_getElem->ae,getElem?_eq_none->bM,getElem?_eq_some_iff->ao,getElem?_map->aX,getElem?_set->cS,getElem?_set_ne->je,getElem_map->cK,getElem_mem->au,length->eT,length_cons->aA,length_map->aF,length_nil->bL,length_replicate->iS,length_singleton->gn,map->bY,map_append->cL,map_congr_left->bp,map_cons->ay,map_drop->dZ,map_map->dB,map_nil->bO,map_take->dY,mem_append->aO,mem_cons->aI,mem_map->aP,mem_of_getElem?->aJ,mem_singleton->aG,nil_append->bq,range'->dU
open List.cons renaming injEq->cG
open Nat renaming add_assoc->eH,add_comm->fF,add_mul->b_,add_sub_cancel_left->dE,beq->aB,beq_eq->bH,ble->dx,ble_eq_true_of_le->jf,blt->cD,blt_eq->bc,eq_of_beq_eq_true->af,le_add_right->aY,le_of_ble_eq_true->aU,le_of_eq->kW,le_refl->aw,le_succ->gp,le_trans->bI,mod_two_eq_zero_or_one->ic,mul_le_mul_right->bm,zero_add->aN
open Option renaming bind_some->eK,getD_some->cg,map_none->ck,map_some->aj,some->U,none->No
open Option.some renaming injEq->ai
namespace Go.Ab
open Go
variable [nF]
def wv(cc:List (Nat×TypeId×Nat))(r:Nat):∀(row:List ag) (a j:Nat),(sv cc r a row)[j]?=(row[j]?).map (vC cc r (a+j))
 | [],a,j=>by simp[sv]
 |v::vs,a,0=>by simp[sv]
 |v::vs,a,j+1=>by simp only[sv,aM];rw[wv cc r vs (a+1) j];congr 2;omega
def vj(cc:List (Nat×TypeId×Nat)):∀(rows:List (List ag)) (a i:Nat),(oG cc a rows)[i]?=(rows[i]?).map (sv cc (a+i) 0)
 | [],a,i=>by simp[oG]
 |v::vs,a,0=>by simp[oG]
 |v::vs,a,i+1=>by simp only[oG,aM];rw[vj cc vs (a+1) i];congr 2;omega
def xp(cc:List (Nat×TypeId×Nat))(r:Nat):∀(row:List ag) (a:Nat),(sv cc r a row).length=row.length
 | [],_=>rfl
 |_::vs,a=>by simp[sv,xp cc r vs]
def Ac(cc:List (Nat×TypeId×Nat)):∀(rows:List (List ag)) (a:Nat),(oG cc a rows).length=rows.length
 | [],_=>rfl
 |_::vs,a=>by simp[oG,Ac cc vs]
def aN9{cc:List (Nat×TypeId×Nat)}{r j:Nat}{v:ag}(h:cc.all (λq=>!Nat.beq q.1 j)=IN):vC cc r j v=v:=by
 unfold vC;have:cc.find? (λc=>aB c.1 j)=No:=by rw[List.find?_eq_none];intro x a;have:=ak.1 h x a;rw[bS]at this;rw[this];simp
 rw[this]
def Ek{rows:List (List ag)}{i off:Nat}{v:Option ag}{a:Nat}:(tu rows i off v)[a]?=match v with
  |none=>rows[a]?
  |some v=>if a=i then(rows[a]?).map (λcs=>cs.set off v)else rows[a]?:=by
 unfold tu;cases v with
 |none=>rfl
 |some v=>
  simp only;cases h:rows[i]? with
  |none=>
   by_cases e:a=i
   .subst e;simp[h]
   simp[e]
  |some cs=>
   by_cases e:a=i
   .subst e
    obtain⟨hl,he⟩:=ao.1 h;simp[hl,he]
   simp only[e,j2];rw[je (by omega)]
def bf2{cs:List ag}{j:Nat}{a v:ag}(h:j<cs.length):p4 (cs.set j a) j [v]=cs.set j v:=by
 apply List.ext_getElem?;intro k;rw[Mu _ _ _ (by simp;omega)];simp only[gn,cS];by_cases e:j=k
 .subst e;simp[h]
 rw[b8 (by omega)];simp[e]
def wY(r c:Nat):hid r c<mg:=Nat.mod_lt _ (by decide)
def fb.Ow{α:Type}(u v:Option α):∀(f k:Nat) (t:fb α),fb.pZ v f k (fb.pZ u f k t)=fb.pZ v f k t
 | 0,0,.leaf=>rfl
 | 0,0,.node _ _ _=>rfl
 |_+1,0,.leaf=>rfl
 |_+1,0,.node _ _ _=>rfl
 | 0,_+1,t=>by simp[fb.pZ]
 |f+1,k+1,.leaf=>by rcases ic k with e|e<;>simp[fb.pZ,e,fb.Ow u v f (k / 2)]
 |f+1,k+1,.node x l r=>by rcases ic k with e|e<;>simp[fb.pZ,e,fb.Ow u v f (k / 2)]
def bg.ah5(σ:bg)(id:Nat)(o:b7):(σ.set id o).del id=σ.del id:=by simp only[bg.set,bg.del,fb.set,fb.Ow,bg.mk.injEq,pB];omega
def Ms{T:dd}(σ σ':bg){t:TypeId}{x ix:ag}{ok:Bool}(h:∀id,x≠.lX id):oW T σ t x ix ok=oW T σ' t x ix ok:=by
 cases x with
 |lX id=>exact lH rfl (h id)
 |mx c=>cases c<;>rfl
 |_=>rfl
section bnds
def fb.GR{α:Type}{p:α->Bool}:∀ {t:fb α} {k:Nat} {v:α},t.all p=IN->t.get k=U v->p v=IN
 | .leaf,k,v,_,h=>by rw[fb.sc]at h;cases h
 | .node x l r,0,v,a,h=>by simp only[fb.get]at h;subst h;simp only[fb.all,ab]at a;exact a.1.1
 | .node x l r,k+1,v,a,h=>by
  simp only[fb.all,ab]at a;simp only[fb.get]at h;split at h
  .exact fb.GR a.1.2 h
  exact fb.GR a.2 h
def AS.af8{k:Nat}{s:AS}(h:s.er k=IN)(t:Nat):(s.get t).er k=IN:=by
 simp only[AS.er,ab]at h;simp only[AS.get];cases a:s.mv.get t with
 |none=>rfl
 |some v=>exact fb.GR h.1 a
def VQ(k:Nat):∀l:List Value,qI k (l.map .bF)=IN
 | []=>by simp[qI]
 |v::l=>by simp[qI,ag.er,VQ k l]
def AS.ps{k:Nat}{s:AS}(h:s.er k=IN)(x:Operand):(s.eval x).er k=IN:=by
 cases x with
 |tmp t=>exact s.af8 h t
 |const v=>cases v<;>simp[AS.eval,ag.ofValue,ag.er,VQ]
 |global g=>simp[AS.eval,ag.er]
 |func f=>simp[AS.eval,ag.er,qI]
def AS.tA{k:Nat}{s:AS}(h:s.er k=IN){id:Nat}{o:b7}(a:s.st.bT id=U o):o.er k=IN:=by simp only[AS.er,ab]at h;exact fb.GR h.2 a
end bnds
def aw5{T:dd}{t el:TypeId}{ti c:mL}{id z a b:Nat}{g:ag}(i:T t=U ti)(hu:ti.fT=.slice el)(e:T el=U c)(hz:z=c.size){d k d2:Nat}(h:qf T t (.ms 0 c.size a b) g=U (.mp d k d2)):qf T t (.ms id z a b) g=U (.mp id k 0):=by
 obtain⟨fT,size,zero,bytes,flat⟩:=ti;simp only at hu;subst hu;subst hz;unfold qf at h⊢;rw[i]at h⊢;split at h
 next j n f=>
  cases f;simp only[e]at h⊢;split at h
  next hc=>
   rw[b9 hc];cases h;rfl
  cases h
 next f=>cases f
 cases h
def VI{T:dd}{t:TypeId}{id z n:Nat}{b5 a7:Option ag}{d d2 o l:Nat}(h:qz T t (.ms 0 z 0 n) b5 a7 No=U (.ms d d2 o l)):qz T t (.ms id z 0 n) b5 a7 No=U (.ms id z o l):=by
 unfold qz at h⊢;split at h
 .split at h
  next a=>
   cases a;rename_i b;simp only[b]
   grind
  next a=>cases a
  next a=>cases a
  cases h
 next a=>grind
 cases h
section
variable {T:dd} {Φ:lb} {θ θ':Nat->ag} {bb:Nat} (ha:∀i,i<bb->θ' i=θ i) {s:AS} (hb:s.er bb=IN)
include ha hb
theorem bb2(x:Operand):(s.eval x).sub θ'=(s.eval x).sub θ:=iv ha _ (s.ps hb x)
theorem bo5{elem:TypeId}{size:Nat}{a:ag}{c:Option Nat}{x:ag}(l:a.er bb=IN)(h:KP s.st elem size a=U (c,x)){es:List (List ag)}(b:x.sub θ=.rs es) :
  qT (s.st.sub θ') elem size (a.sub θ')=U (c,es)/\om (s.st.sub θ') (a.sub θ')=s.st.sub θ':=by
 unfold KP at h;split at h
 .cases h
  simp only[wV,bO,ag.rs.injEq]at b;subst b;exact⟨by simp[qT],by simp[om]⟩
 .split at h
  next id z len _ e f rows d=>
   split at h
   next hc=>
    cases h;have g:=s.tA hb d;have h1:(s.st.sub θ').bT id=U (.row e f es):=by rw[bg.mh,d,aj,b7.iv ha _ g];simp only[b7.sub];simp only[wV,ag.rs.injEq]at b;rw[b]
    have hl:rows.length=es.length:=by simp only[wV,ag.rs.injEq]at b;rw[<-b];simp
    refine⟨?_,?_⟩
    .simp only[tD,qT,h1]
     rw[b9 ⟨by omega,hc.2⟩]
    simp only[tD,om,h1];rw[b8 (by omega)]
   cases h
  cases h
 .split at h
  next id z i _ e f j d=>
   split at h
   next hc=>
    cases h;obtain⟨rfl,k,he⟩:=hc;have hj:j<bb:=by have:=s.tA hb d;simpa[b7.er,bc]using this
    rw[lQ]at b;have h1:(s.st.sub θ').bT id=U (.row e f es):=by rw[bg.mh,d,aj];simp only[b7.sub,ha j hj,b,rowsOf]
    refine⟨?_,?_⟩
    .simp only[p5,ha j hj,b,rowsOf,qT,h1]
     simp[k,he]
    simp only[p5,ha j hj,b,rowsOf,om,h1];rw[b8 (by omega)]
   cases h
  cases h
 cases h
theorem NV{c y:ag}(b:c.er bb=IN)(h:Gb s.st c=U y){xs:List (List ag)}(a:y.sub θ=.rs xs):nV (s.st.sub θ') (c.sub θ')=U xs:=by
 unfold Gb at h;split at h
 .cases h
  simp only[wV,bO,ag.rs.injEq]at a;subst a;simp[nV]
 .cases h
  rw[iv ha _ b,a];simp[nV]
 .cases h
  rw[iv ha _ b,a];simp[nV]
 .split at h
  next id z off len _ e g rows d=>
   split at h
   next hc=>
    cases h;have f:=s.tA hb d;simp only[wV,ag.rs.injEq]at a;simp only[tD,nV,bg.mh,d,aj];rw[b7.iv ha _ f];simp only[b7.sub,aF];rw[b9 hc,<-a];simp[dY,dZ]
   cases h
  cases h
 .split at h
  next id z i _ e g j d=>
   split at h
   next hc=>
    cases h;subst hc;have hj:j<bb:=by have:=s.tA hb d;simpa[b7.er,bc]using this
    rw[lQ]at a;simp only[p5,ha j hj,a,rowsOf,nV,bg.mh,d,aj,b7.sub];simp
   cases h
  cases h
 cases h
theorem Yv{id:Nat}{sT xT:TypeId}{a c pat v:ag}{ro:ml}{σ':bg}{e:Nat}(h1:a.er bb=IN)(h2:c.er bb=IN)(h:Oq T s.st id sT xT a c bb=U (ro,pat,v,σ',e))(he:fr T Φ θ ro=U (pat.sub θ')) :
  qt T (s.st.sub θ') id sT xT (a.sub θ') (c.sub θ')=U (v.sub θ',σ'.sub θ'):=by
 unfold Oq at h;split at h
 next elem _ _ _ _ j=>
  split at h
  next t d=>
   split at h
   next f x y m n=>
    cases h;simp only[fr,Kv,j]at he;split at he
    next el _ _ _ _ u o k=>
     cases o;rw[d]at he;simp only at he;split at he
     next es xs hex g=>
      split at he
      next hc=>
       simp only[ai,lQ]at he;obtain⟨p,q⟩:=bo5 ha hb h1 m hex;have r:=NV ha hb h2 n g;have b:qt T (s.st.sub θ') id sT xT (a.sub θ') (c.sub θ')=rR T (om (s.st.sub θ') (a.sub θ')) id sT xT (a.sub θ') (c.sub θ'):=by
        unfold qt;split
        next w l=>
         rw[k]at l;cases l;simp[mL.isInt]at hc
        rfl
       rw[b,q];simp only[rR,j,k,d,p,r];rw[b9 hc];simp only[p5,bg.n',b7.sub,<-he,rowsOf,List.length_append];cases f<;>simp[bg.Ds]
      cases he
     cases he
    cases he
   cases h
  cases h
 cases h
include ha hb in
theorem Y_{id:Nat}{sT xT:TypeId}{a c pat v:ag}{ro:ml}{σ':bg}{d:Nat}{e:mL}{k:IntKind}(h2:c.er bb=IN)(f:T xT=U e)(g:e.fT=.int k)(h:Ot T s.st id sT a c bb=U (ro,pat,v,σ',d))(he:fr T Φ θ ro=U (pat.sub θ')) :
  qt T (s.st.sub θ') id sT xT (a.sub θ') (c.sub θ')=U (v.sub θ',σ'.sub θ'):=by
 unfold Ot at h;split at h
 next elem _ _ _ _ j=>
  split at h
  next m b=>
   split at h
   .cases h
    obtain⟨u0,z0,ni,z2,z3⟩:=e;cases g;simp only[fr,KH,j,b]at he;rw[iv ha _ h2];split at he
    next o n l=>
     split at he
     next hc=>
      simp only[ai,lQ]at he;simp only[qt,j,f,oq,wS,b,l];rw[b9 hc];simp only[p5,bg.n',b7.sub,<-he,rowsOf,iS]
     cases he
    cases he
   cases h
  cases h
 cases h
include ha hb in
theorem ZM{i:Nat}{c y:ag}(a:c.er bb=IN)(h:OB s.st i c=U y){xs:List (List ag)}(f:y.sub θ=.rs xs){σ0:bg}(g:∀j,j≠i->σ0.bT j=(s.st.sub θ').bT j):nV σ0 (c.sub θ')=U xs:=by
 unfold OB at h;split at h
 .cases h
  rename_i a7;rw[iv ha _ a,f];simp[nV]
 split at h
 next i2 z o l _=>
  split at h
  .cases h
  rename_i b;have:=NV ha hb a h f;rw[<-this,tD];have d:i2≠i:=λe=>by rw[e,Nat.beq_refl]at b;cases b
  simp only[nV,g i2 d]
 cases h
include ha hb in
theorem bm7{id:Nat}{sT xT:TypeId}{a c pat v:ag}{ro:ml}{σ':bg}{p:Nat}(h2:c.er bb=IN)(h:KZ T s.st id sT xT a c bb=U (ro,pat,v,σ',p))(he:fr T Φ θ ro=U (pat.sub θ')) :
  qt T (s.st.sub θ') id sT xT (a.sub θ') (c.sub θ')=U (v.sub θ',σ'.sub θ'):=by
 unfold KZ at h;split at h
 next elem _ _ _ _ t=>
  split at h
  next o g=>
   split at h
   next i z0=>
    split at h
    next e B j x=>
     split at h
     next y k q=>
      simp only[ab,bH]at k;obtain⟨rfl,rfl⟩:=k;cases h;simp only[fr,Kv,t]at he;split at he
      next el _ _ _ _ C z u=>
       cases z;rw[g]at he;simp only[wV,bO]at he;split at he
       next es xs hex r=>
        cases hex;split at he
        next hc=>
         simp only[bq,ai,lQ]at he;have l:nV (om (s.st.sub θ') (.ms i z0 0 0)) (c.sub θ')=U xs:=ZM ha hb h2 q r λj hj=>by
          simp only[om];split
          .split
           .rw[bg.l1,b8 hj]
           rfl
          rfl
         have b:(s.st.sub θ').bT i=U (.row e o.size (rowsOf (θ' j))):=by rw[bg.mh,x];rfl
         have m:∃o0,om (s.st.sub θ') (.ms i z0 0 0)=(s.st.sub θ').set i o0/\o0=.row e o.size []\/om (s.st.sub θ') (.ms i z0 0 0)=s.st.sub θ'/\rowsOf (θ' j)=[]:=by
          simp only[om,b];by_cases hl:0<(rowsOf (θ' j)).length
          .rw[b9 hl];exact⟨_,.inl ⟨rfl,by simp⟩⟩
          rw[b8 hl];exact⟨.row e o.size [],.inr ⟨rfl,bu (by omega)⟩⟩
         have d:qt T (s.st.sub θ') id sT xT (ag.sub θ' (.ms i z0 0 0)) (c.sub θ')=rR T (om (s.st.sub θ') (.ms i z0 0 0)) id sT xT (.ms i z0 0 0) (c.sub θ'):=by
          rw[tD];unfold qt;split
          next D w=>
           rw[u]at w;cases w;simp[mL.isInt]at hc
          rfl
         rw[d];have f:qT (om (s.st.sub θ') (.ms i z0 0 0)) e o.size (.ms i z0 0 0)=U (U i,[]):=by
          obtain⟨o0,⟨lL,rfl⟩|⟨lL,fa⟩⟩:=m
          .rw[lL];simp[qT,bg.l1]
          rw[lL];simp[qT,b,fa]
         have n:(om (s.st.sub θ') (.ms i z0 0 0)).del i=(s.st.sub θ').del i:=by
          obtain⟨o0,⟨lL,rfl⟩|⟨lL,fa⟩⟩:=m
          .rw[lL,bg.ah5]
          rw[lL]
         simp only[rR,t,u,g,f,l];rw[b9 hc];simp only[p5,bg.n',bg.Ds,b7.sub,<-he,rowsOf,n,bL,aN,bq]
        cases he
       cases he
      cases he
     cases h
    cases h
   cases h
  cases h
 cases h
include ha hb in
theorem AU{id j:Nat}{e:TypeId}{z:Nat}(a:s.st.bT id=U (.f' e z j)):(s.st.sub θ').bT id=U (.row e z (rowsOf (θ j)))/\j<bb:=by
 have hj:j<bb:=by have:=s.tA hb a;simpa[b7.er,bc]using this
 exact⟨by rw[bg.mh,a,aj];simp only[b7.sub,ha j hj],hj⟩
include ha hb in
theorem Mw{m:Nat}{c:ag}(h:(s.st.bT m).bind E9=U c):(s.st.sub θ').bT m=U (qh (c.sub θ))/\(s.st.sub θ').bT m=(sA (c.sub θ)).bT 0:=by
 have key:(s.st.sub θ').bT m=U (qh (c.sub θ)):=by
  cases b:s.st.bT m with
  |none=>rw[b]at h;cases h
  |some o=>
   rw[b]at h;simp only[eK]at h;have a:=s.tA hb b;rw[bg.mh,b,aj];unfold E9 at h;split at h
   .cases h
    simp only[b7.er]at a;simp only[b7.sub,iv ha _ a]
   .cases h
    simp[b7.sub,ag.sub,oA,qh,rowsOf,qF,nt]
   cases h
 refine⟨key,?_⟩;rw[key];simp[sA,bg.l1]
theorem bh5(r:Fit θ){id:Nat}{b:Builtin}{ts:Array TypeId}{args:List ag}{pat v:ag}{ro:ml}{σ':bg}{B:Nat}(h1:∀a∈args,a.er bb=IN)(h:O8 T s.st id b ts.toList args bb=U (ro,pat,v,σ',B))
  (he:fr T Φ θ ro=U (pat.sub θ')):pC T (s.st.sub θ') id b ts (args.map (ag.sub θ'))=U (v.sub θ',σ'.sub θ'):=by
 have l4:s.st.sub θ'=s.st.sub θ:=bg.iv ha hb;have g:args.map (ag.sub θ')=args.map (ag.sub θ):=bp λa hm=>iv ha a (h1 a hm);unfold O8 at h;split at h
 next t i d=>
  cases h;simp only[fr,lQ]at he;rw[g];simp only[pC,d,ay,bO,lQ];have h2:pt T (s.st.sub θ') t (θ i)=U (θ' bb):=by
   have hf:=r i;unfold pt at he⊢;split at he
   next ti p=>
    rcases hf.cases with⟨k,n,e⟩|⟨b,e⟩|⟨x,e⟩|⟨es,e⟩|⟨cs,e⟩|⟨c,e⟩<;>rw[e]at he⊢<;>(cases hu:ti.fT<;>rw[hu]at he<;>first|exact he| (simp only at he⊢;exact he))
   cases he
  rw[h2]
 next t id' z i d=>
  split at h
  next el _ _ _ _ p=>
   cases h;simp only[fr,lQ]at he;rw[g];simp only[pC,d,ay,bO,p5];have h2:pt T (s.st.sub θ') t (.ms id' z 0 (rowsOf (θ i)).length)=U (θ' bb):=by
    have hf:=r i;simp only[pt,p]at he⊢;rcases hf.cases with⟨k,n,e⟩|⟨b,e⟩|⟨x,e⟩|⟨es,e⟩|⟨cs,e⟩|⟨c,e⟩<;>rw[e]at he⊢<;>simp[rowsOf]at he⊢
    exact he
   rw[h2];simp
  cases h
 .cases h
  simp only[fr,lQ]at he;rw[g];generalize bY (ag.sub θ) _=l at *;cases hm:yp l with
  |none=>rw[hm]at he;cases he
  |some u=>rw[hm]at he;simp only[aj,ai]at he;simp[pC,hm,he]
 .cases h
  simp only[fr,lQ]at he;rw[g];generalize bY (ag.sub θ) _=l at *;cases hm:zH l with
  |none=>rw[hm]at he;cases he
  |some u=>rw[hm]at he;simp only[aj,ai]at he;simp[pC,hm,he]
 next sT xT a c d=>
  simp only[pC,d,ay,bO];split at h
  next C=>
   exact Y_ (T:=T) (Φ:=Φ) ha hb (h1 c (by simp)) C rfl h he
  split at h
  next q I=>
   cases h;exact bm7 (T:=T) (Φ:=Φ) ha hb (h1 c (by simp)) I he
  exact Yv (T:=T) (Φ:=Φ) ha hb (h1 a (by simp)) (h1 c (by simp)) h he
 next t id' z o l d=>
  split at h
  next el _ _ _ _ p=>
   cases h;have f:(ag.xs id' z o v).er bb=IN:=h1 _ (by simp);simp only[ag.er,ab]at f;simp only[fr]at he;simp only[pC,d,ay,bO,Pp,iv ha v f.2,pt,p];split at he
   next n hl=>
    split at he
    next E=>
     have E:=sK E;rw[hl];simp only[mf];have e:goInt ((n.toNat:Nat):Int)=.int .i64 n:=by
      have:((n.toNat:Nat):Int)=n:=by omega
      rw[this];rfl
     rw[e]
    cases he
   cases he
  cases h
 next t id' z o l d=>
  split at h
  next e V j J=>
   split at h
   next hz=>
    rw[bH]at hz;subst hz;cases h;have f:(ag.xs id' z o l).er bb=IN:=h1 _ (by simp);simp only[ag.er,ab]at f;obtain⟨K,hj⟩:=AU (θ:=θ) ha hb J;simp only[fr,lQ]at he;simp only[pC,d,ay,bO,Pp,iv ha l f.2,iv ha o f.1];generalize mf (o.sub θ)=a1 at *;generalize mf (l.sub θ)=b1 at *;have M:(pF e z (θ j)).bT 0=U (.row e z (rowsOf (θ j))):=by simp[pF,bg.l1]
    unfold td at he⊢;split at he
    next elem _ _ _ _ N D G H p O=>
     cases O;simp only[M]at he;simp only[p,K];split at he
     next ei e2 z2 P Q R=>
      cases R;split at he
      next w=>
       rw[b9 w];simp only[eK,wb,bg.l1,jj,ai]at he;simp only[bg.n',b7.sub,<-he,rowsOf,oq]
      cases he
     cases he
    cases he
   cases h
  cases h
 next t m d=>
  split at h
  next c hc=>
   cases h;simp only[fr,lQ]at he;obtain⟨_,S⟩:=Mw (θ:=θ) ha hb hc;have h2:pt T (s.st.sub θ') t (.lX m)=U (θ' bb):=by
    unfold pt at he⊢;split at he
    next ti p=>
     cases hu:ti.fT<;>rw[hu]at he<;>simp only[S]at he⊢<;>first|exact he| (simp only at he⊢;exact he)|cases he
    cases he
   simp only[pC,d,ay,bO,wX,h2,lQ]
  cases h
 cases h
include ha hb in
theorem Sq{t:TypeId}{m k x pat v:ag}{ro:ml}{σ':bg}{a:Nat}(h1:k.er bb=IN)(h2:x.er bb=IN)(h:HT s.st t m k x bb=U (ro,pat,v,σ',a))(he:fr T Φ θ ro=U (pat.sub θ')) :
  q3 T (s.st.sub θ') t (m.sub θ') (k.sub θ') (x.sub θ')=U (σ'.sub θ')/\v=.bF undef:=by
 unfold HT at h;split at h
 next id=>
  split at h
  next c hc=>
   cases h;obtain⟨d,_⟩:=Mw (θ:=θ) ha hb hc;simp only[fr,lQ]at he;split at he
   next e hu=>
    split at he
    next b l hk=>
     simp only[ai]at he;refine⟨?_,rfl⟩;rw[iv ha k h1,iv ha x h2,wX,ay6 d hk hu,bg.n'];simp only[b7.sub,lQ,<-he]
    cases he
   cases he
  cases h
 cases h
omit ha hb in
theorem X'{T:dd}{t el:TypeId}{ti a:mL}{id z len:Nat}{b:ag}(e:T t=U ti)(hu:ti.fT=.slice el)(c:T el=U a)(hz:z=a.size){q:ag}(h:qf T t (.ms 0 a.size 0 len) b=U q):qf T t (.ms id z 0 len) b=U (.mp id (mf b) 0):=by
 obtain⟨fT,size,zero,bytes,flat⟩:=ti;simp only at hu;subst hu;subst hz;unfold qf at h⊢;rw[e]at h⊢;split at h
 next f n d=>
  cases d;simp only[c]at h⊢;split at h
  next hc=>
   rw[b9 hc];simp[mf]
  cases h
 next d=>cases d
 cases h
include ha in
theorem Fv{a:ag}(b:a.er bb=IN){id off:Nat}{i:ag}(h:xZ a=U (id,i,off)):a.sub θ'=.mp id (mf (i.sub θ)) off:=by
 unfold xZ at h;split at h
 next id k off=>
  cases h;simp only[ag.er,bc]at b;simp only[ag.sub,ha k b]
 .cases h
  simp[ag.sub,mf]
 cases h
theorem VH(hθ:Fit θ){id:Nat}{op:Op}{pat v:ag}{ro:ml}{σ':bg}{fr':Nat}(h:Kx T s.eval s.st id op bb=U (ro,pat,v,σ',fr'))
  (he:fr T Φ θ ro=U (pat.sub θ')):j5 T (s.sub θ').eval (s.st.sub θ') id op=U (v.sub θ',σ'.sub θ'):=by
 have d:∀x,(s.sub θ').eval x=(s.eval x).sub θ:=λx=>by rw[AS.sub_eval,bb2 ha hb x]
 unfold Kx at h;split at h
 .cases h
  simp only[fr,lQ]at he;simp only[j5,d,he,lQ]
 .cases h
  simp only[fr,lQ]at he;simp only[j5,d,he,lQ]
 .cases h
  simp only[fr,lQ]at he;simp only[j5,d,he,lQ]
 .cases h
  simp only[fr,lQ]at he;simp only[j5,d];split at he
  next t r=>
   simp only[ai]at he;rw[r];simp[he]
  cases he
 .split at h
  next id k off f=>
   cases h;simp only[j5,AS.sub_eval,f,ag.sub]
  next i f=>
   cases h;have e1:=d;simp only[fr,lQ]at he;split at he
   next cs E=>
    simp only[j5,d,f,lQ,E];have u:=s.ps hb ‹Operand›;rw[f]at u;simp only[ag.er,bc]at u;rw[ha i u,E]
   cases he
  cases h
 .split at h
  next id k off fields _ _ _ _ f r=>
   split at h
   next fd hfd=>
    split at h
    next fi hfi=>
     split at h
     .cases h
     rename_i hz;cases h;have hz':¬fi.size=0:=λe=>by rw[e]at hz;simp at hz
     simp only[j5,AS.sub_eval,f,ag.sub,wx,r,hfd,hfi];rw[b8 hz']
    cases h
   cases h
  next i ti f r=>
   split at h
   next v1 S=>
    cases h;simp only[fr,lQ]at he;split at he
    next cs E=>
     split at he
     .simp only[ai]at he
      simp only[j5,d,f,lQ,E,he,RG (θ:=θ') S]
     cases he
    cases he
   cases h
  cases h
 next t x=>
  split at h
  next g hg=>
   split at h
   next p G O=>
    cases h;simp only[fr]at he;have f:=M5 hg;simp only[j5,d,f,oq,sQ,uX,he]
   cases h
  split at h
  next id i off hp=>
   split at h
   next e z j p G V O=>
    cases h;simp only[fr,lQ]at he;obtain⟨M,_⟩:=AU (θ:=θ) ha hb V;have P:=Fv (θ:=θ) ha hb (s.ps hb x) hp;have k3:o8 T (s.st.sub θ') t (.mp id (mf (i.sub θ)) off)=U (pat.sub θ'):=by rw[<-he];simp[o8,M,pF,bg.l1]
    simp only[j5,AS.sub_eval,P,sQ,uX,k3]
   next e z c cc k H v0 p G V O=>
    have P:=Fv (θ:=θ) ha hb (s.ps hb x) hp;have C:=s.tA hb V;have M:(s.st.sub θ').bT id=U (b7.sub θ (.nD e z c cc k H v0)):=by rw[bg.mh,V,aj,b7.iv ha _ C]
    simp only[b7.sub]at M;split at h
    next ti r=>
     split at h
     .cases h
     rename_i Q;split at h
     next hoff=>
      have hoff:=af hoff;subst hoff;split at h
      next v1 hk=>
       obtain⟨m,rfl,rfl⟩:=Kc hk;cases h;simp only[fr]at he;split at he
       next row D=>
        split at he
        next I=>
         rw[bc]at I;simp only[b7.er,ab]at C;have hv1:v.sub θ'=v.sub θ:=iv ha _ C.2.2;have k3:o8 T (s.st.sub θ') t (.mp id (mf ((ag.ek m).sub θ)) off)=U (v.sub θ):=by simp only[o8,M,Ek,aj,jj,vj,D,r,rm,Q,aq,j2];simp[xp,I]
         simp only[j5,AS.sub_eval,P,sQ,uX,k3,hv1]
        cases he
       cases he
      cases h
     rename_i hoff;have hoff:off≠H:=λe=>by rw[e]at hoff;simp at hoff
     split at h
     next hcols=>
      cases h;simp only[fr]at he;have k3:o8 T (s.st.sub θ') t (.mp id (mf (i.sub θ)) off)=U (pat.sub θ'):=by
       rw[<-he];have e9:(pF e z (c.sub θ)).bT 0=U (.row e z (rowsOf (c.sub θ))):=by simp[pF,bg.l1]
       simp only[o8,M,e9,Ek,vj,r,rm,Q,aq,j2];cases D:(rowsOf (c.sub θ))[mf (i.sub θ)]? with
       |none=>cases v0<;>simp
       |some row=>
        have B:(sv cc (0+mf (i.sub θ)) 0 row)[off]?=row[off]?:=by
         rw[wv];cases row[off]? with
         |none=>rfl
         |some x=>simp[aN9 hcols]
        cases v0 with
        |none=>simp only[ck,aj];exact B
        |some v0=>
         simp only[aj];by_cases e:mf (i.sub θ)=mf (k.sub θ)
         .simp only[e,jj]at B⊢
          rw[je (by omega)];exact B
         simp only[e,j2];exact B
      simp only[j5,AS.sub_eval,P,sQ,uX,k3]
     cases h
    cases h
   cases h
  split at h
  next i ti f r=>
   split at h
   next v1 S=>
    cases h;simp only[fr,lQ]at he;split at he
    next cs E=>
     split at he
     .simp only[ai]at he
      have h3:=MB (θ:=θ') S;rw[<-he]at h3;have h4:o8 T (s.st.sub θ') t (.h8 cs)=U (v.sub θ'):=by simp only[o8]at h3⊢;exact h3
      simp only[j5,d,f,lQ,E,sQ,uX,h4]
     cases he
    cases he
   cases h
  cases h
 next t a x=>
  split at h
  next id' i off ti m z' j hp r f=>
   split at h
   next e z c cc k H v1 V=>
    split at h
    next hc=>
     simp only[ab,bH]at hc;obtain⟨⟨hsz,rfl⟩,hk⟩:=hc;obtain⟨N,rfl,rfl⟩:=Kc hk;cases h;have P:=Fv (θ:=θ) ha hb (s.ps hb a) hp;have C:=s.tA hb V;have M:(s.st.sub θ').bT id'=U (b7.sub θ (.nD e z c cc (.ek N) off (U v1))):=by rw[bg.mh,V,aj,b7.iv ha _ C]
     simp only[b7.sub]at M;simp only[b7.er,ab]at C;simp only[fr]at he;split at he
     next row D=>
      split at he
      next I=>
       rw[bc]at I;have hn1:mf (ag.sub θ' (.ek N))=mf (ag.sub θ (.ek N)):=by rw[iv ha _ C.2.1]
       have hxv:(s.eval x).sub θ=ag.sub θ' (.ea m z' j):=by rw[<-f];exact(iv ha _ (s.ps hb x)).symm
       have l7:(tu (oG cc 0 (rowsOf (c.sub θ))) (mf ((ag.ek N).sub θ)) off (U (v1.sub θ)))[mf ((ag.ek N).sub θ)]?=U ((sv cc (mf ((ag.ek N).sub θ)) 0 row).set off (v1.sub θ)):=by rw[Ek];simp only[jj,vj,D,aj,aN]
       have l4:rA T (s.st.sub θ') t (.mp id' (mf ((ag.ek N).sub θ)) off) (ag.sub θ' (.ea m z' j))=U ((s.st.sub θ').set id' (b7.sub θ' (.nD e z c cc (.ek N) off (U (.ea m z' j))))):=by
        simp only[rA,p5,ag.cells,r,M,aj,l7,hsz,gn,List.length_set,xp];rw[b9 ⟨trivial,by omega,by simp[ag.one]⟩];have hlt2:off<(sv cc (mf (ag.sub θ (.ek N))) 0 row).length:=by rw[xp];exact I
        rw[bf2 hlt2];simp only[b7.sub,aj,p5,hn1,iv ha _ C.1];simp only[tu,vj,D,aj,aN,List.set_set]
       simp only[j5,AS.sub_eval,P];rw[f,l4];simp only[oq,bg.n']
      cases he
     cases he
    cases h
   cases h
  cases h
 next t x i=>
  split at h
  next el _ _ _ _ r=>
   split at h
   next ei w=>
    split at h
    next id z j f=>
     have u:=s.ps hb x;rw[f]at u;simp only[ag.er,bc]at u;have hbi:=s.ps hb i;split at h
     next hz=>
      have hz:=af hz;split at h
      next k a7=>
       cases h;rw[a7]at hbi;simp only[ag.er,bc]at hbi;simp only[fr,r,w,lQ]at he;split at he
       next q R=>
        have:=X' (id:=id) (z:=z) r rfl w hz R;simp only[j5,AS.sub_eval,f,a7,p5,lQ,ag.sub,ha j u,ha k hbi,this]
       cases he
      next kd n a7=>
       cases h;simp only[fr,r,w,lQ,oq]at he;split at he
       next q R=>
        have:=X' (id:=id) (z:=z) r rfl w hz R;simp only[j5,AS.sub_eval,f,a7,p5,oq,ag.sub,ha j u,this,mf]
       cases he
      cases h
     cases h
    next id z o l f=>
     have u:=s.ps hb x;rw[f]at u;simp only[ag.er,ab]at u;split at h
     next hz=>
      have hz:=af hz;cases h;simp only[fr]at he;split at he
      next d1 M d2 R=>
       have e9:J3 T t=ei.size:=by simp[J3,r,w]
       rw[e9]at R;simp only[ai,lQ]at he;simp only[j5,d,f,Pp];rw[aw5 (id:=id) (z:=z) r rfl w hz R];simp only[ag.sub,<-he,mf,Int.toNat_natCast]
      cases he
     cases h
    cases h;simp only[fr]at he;simp only[j5,d,he]
   cases h
  cases h
 .split at h
  .split at h
   .cases h
    simp only[fr]at he;simp only[j5,d,he]
   cases h
  cases h;simp only[fr,lQ]at he;simp only[j5,d,he,lQ]
 next t x b5 a7=>
  have e:(s.sub θ').eval=λx=>(s.eval x).sub θ:=funext d;split at h
  next elem _ _ _ _ id' z j kd r f J K=>
   split at h
   next ei w=>
    split at h
    next hz=>
     cases h;rw[bH]at hz;subst hz;have hlo':b5=No:=by cases b5 with|none=>rfl|some _=>simp at J
     subst hlo';cases a7 with
     |none=>simp at K
     |some hh=>simp only[aj,ai]at K;simp only[j5,e,f,p5,ck,aj,K,oq,qz,r,w,bound];simp
    cases h
   cases h
  next elem _ _ _ _ id' z j lv r f J K=>
   cases h;have hi':a7=No:=by cases a7 with|none=>rfl|some _=>simp at K
   subst hi';cases b5 with
   |none=>simp at J
   |some ll=>
    simp only[aj,ai]at J;simp only[fr,lQ]at he;split at he
    next d1 d2 o l R=>
     simp only[ai,Fj,ay,bO,lQ,ag.fe.injEq,cG,and_true]at he;simp only[j5,e,f,p5,ck,aj,J,ag.sub,<-he.1,<-he.2,mf];rw[VI (id:=id') R];simp
    cases he
  .cases h
  cases h;simp only[fr,lQ,Option.map_map]at he;simp only[j5,e,ck];simp only[cR]at he;rw[he];simp
 next t n c=>
  split at h
  next elem _ _ _ _ heq r=>
   split at h
   next ei w=>
    cases h;have heq:=FG (θ:=θ) heq;simp only[fr,lQ]at he;simp only[j5,d];rw[<-heq];generalize(s.eval n).sub θ=nv at *;unfold tg at he⊢;split at he
    next ht1 e2=>
     rw[r]at ht1;cases ht1;simp only[w]at he⊢;split at he
     next hcnd=>
      rw[b9 hcnd];simp only[eK,wb,bg.l1,jj,ai]at he;simp only[ag.sub,<-he,rowsOf,iS,bg.n',b7.sub]
     cases he
    cases he
   cases h
  cases h
 next b args ts=>
  simp only[j5];have hm:args.toList.map (s.sub θ').eval=(args.toList.map s.eval).map (ag.sub θ'):=by rw[dB];apply bp;intro x _;exact AS.sub_eval θ' s x
  rw[hm];refine bh5 (T:=T) (Φ:=Φ) ha hb hθ (λa hmem=>?_) h he;obtain⟨x,_,rfl⟩:=aP.1 hmem;exact s.ps hb x
 next t x i ok=>
  split at h
  next kt et _ _ _ _ m r f=>
   split at h
   next c hc=>
    obtain⟨_,P⟩:=Mw (θ:=θ) ha hb hc;have hl:∀b,oW T (s.st.sub θ') t (.lX m) ((s.eval i).sub θ) b=oW T (sA (c.sub θ)) t (.lX 0) ((s.eval i).sub θ) b:=λb=>by simp only[oW,P]
    split at h
    next p G hp=>
     split at h
     .cases h
      simp only[fr]at he;simp only[j5,d,f,wX,hl,he]
     cases h;simp only[fr]at he;simp only[j5,d,f,wX,hl,he]
    cases h
   cases h
  next kt et _ _ _ _ m r f=>
   have hl:∀b,oW T (s.st.sub θ') t (θ m) ((s.eval i).sub θ) b=oW T bg.none t (θ m) ((s.eval i).sub θ) b:=λb=>Ms _ _ (λid e=>by have:=hθ m;rw[e]at this;exact this);have hb2:θ' m=θ m:=by have:=s.ps hb x;rw[f]at this;simp only[ag.er,bc]at this;exact ha m this
   split at h
   next p G hp=>
    split at h
    .cases h
     simp only[fr,lQ]at he;simp only[j5,d,f,lQ,hl,he]
    cases h;simp only[fr,lQ]at he;simp only[j5,d,f,lQ,hl,he]
   cases h
  next kt et _ _ _ _ c r f=>
   have hl:∀b,oW T (s.st.sub θ') t (.mx (c.sub θ)) ((s.eval i).sub θ) b=oW T bg.none t (.mx (c.sub θ)) ((s.eval i).sub θ) b:=λb=>Ms _ _ (λid e=>by cases e);split at h
   next p G hp=>
    split at h
    .cases h
     simp only[fr,y7]at he;simp only[j5,d,f,y7,hl,he]
    cases h;simp only[fr,y7]at he;simp only[j5,d,f,y7,hl,he]
   cases h
  cases h
 next t m k x=>
  have:=Sq (T:=T) (Φ:=Φ) ha hb (s.ps hb _) (s.ps hb _) h he;simp only[j5,AS.sub_eval];rw[this.1,this.2];simp
 next t m k x=>
  have:=Sq (T:=T) (Φ:=Φ) ha hb (s.ps hb _) (s.ps hb _) h he;simp only[j5,AS.sub_eval];rw[this.1,this.2];simp
 cases h
end
mutual
theorem Cs{θ:Nat->ag}(b:Fit θ):∀v:ag,v.qU=IN->(v.sub θ).ki=IN
 | .bF v,_=>by simp[ag.ki]
 | .ek i,_=>by rw[lQ];exact(b i).ki
 | .rs es,h=>by simp only[ag.qU]at h;simp only[ag.sub,ag.ki];exact MV b es h
 | .agg cs,h=>by simp only[ag.qU]at h;simp only[ag.sub,ag.ki];exact wA b cs h
 | .fe cs,h=>by simp only[ag.qU]at h;simp only[ag.sub,ag.ki];exact wA b cs h
 | .any,h=>by simp[ag.qU]at h
 | .h8 cs,h=>by simp only[ag.qU]at h;simp only[ag.sub,ag.ki];exact wA b cs h
 | .ms ..,h=>by simp[ag.qU]at h
 | .mp ..,h=>by simp[ag.qU]at h
 | .lX _,h=>by simp[ag.qU]at h
 | .it _,h=>by simp[ag.qU]at h
 | .mx c,h=>by simp only[ag.qU]at h;simp only[ag.sub,ag.ki];exact Cs b c h
 | .fn _ a c,h=>by simp only[ag.qU,ab]at h;simp only[ag.sub,ag.ki,ab];exact⟨wA b a h.1,wA b c h.2⟩
 | .ea ..,h=>by simp[ag.qU]at h
theorem wA{θ:Nat->ag}(a:Fit θ):∀l:List ag,r9 l=IN->ri (mR θ l)=IN
 | [],_=>by simp[mR,ri]
 |c::cs,h=>by simp only[r9,ab]at h;simp only[mR,ri,ab];exact⟨Cs a c h.1,wA a cs h.2⟩
theorem MV{θ:Nat->ag}(a:Fit θ):∀l:List (List ag),Gh l=IN->rH (oA θ l)=IN
 | [],_=>by simp[oA,rH]
 |c::cs,h=>by simp only[Gh,ab]at h;simp only[oA,rH,ab];exact⟨wA a c h.1,MV a cs h.2⟩
end
def Ht{G:cb}{σ:bg}{w:World}(h:Rel G σ w)(pl:Nat->Option nm){id z off len:Nat}{u:Value}(t:lB G (.ms id z off len) u){elem:TypeId}{size:Nat}{es:List (List ag)}(q:σ.bT id=U (.row elem size es))
  (hle:off+len<=es.length) {l:List (List ag)} (k:l.length=len)
  (d:∀i (a7:i<l.length) (b:off+i<es.length),l[i].length=es[off+i].length/\∀j (hj:j<l[i].length) (v:j<es[off+i].length) u,lB G es[off+i][j] u->lB (G.frozen σ w pl) l[i][j] u) :
  lB (G.frozen σ w pl) (.rs l) u:=by
 cases t with
 |n4 _ _ p hp hv=>have:l=[]:=bu k;subst this;exact .qL
 |ms _ _ _ _ p hp hv hz a c x hoff B hsp=>
  obtain⟨C,D,cells,E,m,r,s,e⟩:=h.real q hp hv;have g:(G.frozen σ w pl).lM p.block=U (.cells cells elem (0,0)):=by simp only[cb.frozen];rw[b9 ⟨id,_,p,q,hp,hv,rfl⟩];exact E
  rw[<-k];by_cases n:c=0
  .have:l=[]:=bu (by omega)
   subst this;exact .rs [] a c 0 (λ_ _=>undef) (λ_=>hsp) (by simp) (λi a7=>by simp at a7) (λi j a7=>by simp at a7) (λi j a7=>by simp at a7)
  rw[x n];refine .rs l _ c size (λi j=>cells.getD ((off+i)*size+j) undef) (λ_=>rfl) (by omega) (λi a7=>?_) (λi j a7 hj=>?_) (λi j a7 hj=>?_)
  .have b:off+i<es.length:=by omega
   rw[(d i a7 b).1];exact(e _ b).1
  .have b:off+i<es.length:=by omega
   have f:(off+i)*size+j<cells.size:=by rw[r];have:(off+i+1)*size<=p.cap*size:=bm _ (by omega);rw[b_]at this;omega
   simp only[cb.cell,g,m];have H:off*size+i*size+j=(off+i)*size+j:=by rw[b_]
   rw[H];simp[f]
  have b:off+i<es.length:=by omega
  obtain⟨g1,g2⟩:=d i a7 b;have I:=(e _ b).1;have f:(off+i)*size+j<cells.size:=by rw[r];have:(off+i+1)*size<=p.cap*size:=bm _ (by omega);rw[b_]at this;omega
  have:=(e _ b).2 j (by omega) f;have o:cells.getD ((off+i)*size+j) undef=cells[(off+i)*size+j]:=by simp[f]
  rw[o];exact g2 j hj (by omega) _ this
def CC{θ:Nat->ag}(E:Fit θ){σ:bg}{G:cb}{w:World}(h:Rel G (σ.sub θ) w)(pl:Nat->Option nm)(hx:∀id e z j,σ.bT id=U (.f' e z j)->∃es,θ j=.rs es)(hy:∀id j,σ.bT id=U (.mS (.ek j))->∃es,θ j=.rs es) :
  ∀(k:Nat) (v c:ag) (u:Value),pI σ k v=U c->lB G (v.sub θ) u->lB (G.frozen (σ.sub θ) w pl) (c.sub θ) u
 | 0,v,c,u,d,_=>by simp[pI]at d
 |k+1,v,c,u,d,n=>by
  have P:=CC E h pl hx hy k;unfold pI at d;split at d
  next hp=>
   cases d;exact rT (λb o H=>tZ h H) n (Cs E _ hp)
  split at d
  next cs _=>
   split at d
   next l hl=>
    cases d;obtain⟨M,I⟩:=xF hl;simp only[y0]at n⊢;cases n with
    |agg _ vs h1 h2=>
     refine .agg _ vs (by rw[h1];simp[M]) (λi a7 m=>?_);have B:i<cs.length:=by simp at a7;omega
     have:=P _ _ vs[i] (I i B (by simpa using a7)) (by have:=h2 i (by simpa using B) m;simpa using this);simpa using this
   cases d
  next cs _=>
   split at d
   next l hl=>
    cases d;obtain⟨M,I⟩:=xF hl;simp only[Fj]at n⊢;cases n with
    |fe _ vs h1 h2=>
     refine .fe _ vs (by rw[h1];simp[M]) (λi a7 m=>?_);have B:i<cs.length:=by simp at a7;omega
     have:=P _ _ vs[i] (I i B (by simpa using a7)) (by have:=h2 i (by simpa using B) m;simpa using this);simpa using this
   cases d
  next id z off len _=>
   split at d
   next elem size es C=>
    split at d
    next hle=>
     split at d
     next l hl=>
      cases d;obtain⟨M,I⟩:=V1 hl;rw[tD]at n;rw[wV];refine Ht h pl n (elem:=elem) (size:=size) (es:=es.map (bY (ag.sub θ))) (by rw[bg.mh,C];rfl) (by simpa using hle) (by simp[M];omega) (λi a7 m=>?_);have x:i<l.length:=by simpa using a7
      have hi2:off+i<es.length:=by simpa using m
      have hm:=I i (by rw[<-M];exact x) x;simp only[List.getElem_take,List.getElem_drop]at hm;obtain⟨f1,f2⟩:=xF hm;refine⟨by simp[f1],λj hj hj' u hu=>?_⟩;have J:j<l[i].length:=by simpa using hj
      have:=P _ _ u (f2 j (by omega) J) (by simpa using hu);simpa using this
     cases d
    cases d
   cases d
  next id z i _=>
   split at d
   next elem size j C=>
    split at d
    next hji=>
     cases d;subst hji;obtain⟨es,hes⟩:=hx id elem size j C;rw[p5,hes]at n;rw[lQ,hes];refine Ht h pl n (elem:=elem) (size:=size) (es:=es) (by rw[bg.mh,C];simp[b7.sub,hes,rowsOf]) (by simp[rowsOf]) (by simp[rowsOf]) (λi a7 m=>?_);have g:=(E j).ki;rw[hes]at g;simp only[aN];exact⟨trivial,λa ha Q u hu=>rT (λb o H=>tZ h H) hu (ru g i a7 a ha)⟩
    cases d
   cases d
  next id _=>
   split at d
   next elem size cs C=>
    split at d
    next l hl=>
     cases d;obtain⟨M,I⟩:=xF hl;rw[Fx]at n;rw[J0];cases n with
     |mp _ _ _ p hp=>
     have q:(σ.sub θ).bT id=U (.row elem size [cs.map (ag.sub θ)]):=by rw[bg.mh,C];rfl
     have hv:p.mF=IS:=by
      rcases h.uv q hp with⟨_,_,_,K⟩|⟨K,_⟩
      .cases K
      exact K
     obtain⟨him,hw0,cells,H,hps,hn,R,t⟩:=h.real q hp hv;have s:(G.frozen (σ.sub θ) w pl).lM p.block=U (.cells cells elem (0,0)):=by simp only[cb.frozen];rw[b9 ⟨id,_,p,q,hp,hv,rfl⟩];exact H
     obtain⟨r1,r2⟩:=t 0 (by simp);have hlen:cs.length=size:=by simpa using r1
     have S:size<=cells.size:=by rw[hn];have:1*size<=p.cap*size:=bm _ (by simpa using R);omega
     refine .h8 _ _ (λj=>cells.getD j undef) rfl (λj hj=>?_) (λj hj=>?_)
     .have J:j<l.length:=by simpa using hj
      have N:j<cells.size:=by omega
      simp only[cb.cell,s];have K:0*p.size+0+j=j:=by omega
      rw[K];simp[N]
     have J:j<l.length:=by simpa using hj
     have N:j<cells.size:=by omega
     have V:j<cs.length:=by omega
     have:=r2 j (by simpa using V) (by omega);have hv':cells.getD j undef=cells[j]:=by simp[N]
     rw[hv'];have h5:lB G ((cs[j]).sub θ) cells[j]:=by
      have e4:cells[0*size+j]'(by omega)=cells[j]:=by congr 1;omega
      rw[<-e4];simpa using this
     have:=P _ _ _ (I j V J) h5;simpa using this
    cases d
   cases d
  next id _=>
   have fin:∀rows:List (List ag),(σ.sub θ).bT id=U (qh (.rs rows))->(ag.rs rows).ki=IN->lB (G.frozen (σ.sub θ) w pl) (.mx (.rs rows)) u:=λrows q g=>by
    rw[wX]at n;cases n with
    |lX _ p hp=>
    have hv:p.mF=IS:=by
     rcases h.uv q hp with⟨_,_,_,K⟩|⟨K,_⟩
     .simp[qh]at K
     exact K
    obtain⟨him,hw0,ents,H,S,O⟩:=h.real q hp hv;have s:(G.frozen (σ.sub θ) w pl).lM p.block=U (.map ents rows.length):=by simp only[cb.frozen];rw[b9 ⟨id,_,p,q,hp,hv,rfl⟩];exact H
    have hl:ents.toList.length=rows.length:=by have:ents.size=(nt 0 rows).length:=S;rw[yw]at this;simpa using this
    have D:∀i (h1:i<rows.length) (h2:i<ents.toList.length),ents.toList[i].key=mZ (qF rows) (nR i rows[i]).1/\lB G (nR i rows[i]).2.1 ents.toList[i].val/\ents.toList[i].born=i:=λi h1 h2=>by
     have h3:i<(nt 0 rows).length:=by rw[yw];exact h1
     have h4:=O i h3 (by simpa using h2);simp only[rowsOf]at h4;rw[Ep _ _ _ h3 h1,aN]at h4;simpa[MR]using h4
    refine .mx rows p.block ents.toList s hl (λi h1 h2=>⟨(D i h1 h2).1,(D i h1 h2).2.2⟩) (λi h1 h2=>?_);refine rT (λb o H=>tZ h H) (D i h1 h2).2.1 ?_;have t:=ru g i h1;generalize rows[i]=r at t;unfold nR;split
    .exact t 1 (by simp)
    simp[ag.ki]
   split at d
   next j C=>
    cases d;obtain⟨es,hes⟩:=hy id j C;rw[y7,lQ,hes];have g:=(E j).ki;rw[hes]at g;exact fin es (by rw[bg.mh,C];simp[b7.sub,hes]) g
   next C=>
    cases d;rw[y7,wV];exact fin [] (by rw[bg.mh,C];simp[b7.sub,qh,rowsOf,nt,qF]) (by simp[ag.ki,rH])
   cases d
  next f a c0 _=>
   split at d
   next a' c' Q hc'=>
    cases d;obtain⟨M,I⟩:=xF Q;obtain⟨g1,g2⟩:=xF hc';rw[Pr]at n⊢;cases n with
    |fn _ _ _ fv cv h1 h2 h3 h4=>
     refine .fn f _ _ fv cv (by simp at h1⊢;omega) (by simp at h2⊢;omega) (λi a7 m=>?_) (λi a7 m=>?_)
     .have x:i<a'.length:=by simpa using a7
      have:=P _ _ fv[i] (I i (by omega) x) (by have:=h3 i (by simp;omega) m;simpa using this);simpa using this
     have x:i<c'.length:=by simpa using a7
     have:=P _ _ cv[i] (g2 i (by omega) x) (by have:=h4 i (by simp;omega) m;simpa using this);simpa using this
   cases d
  cases d
def Xo{θ:Nat->ag}(a:Fit θ){v:ag}(h:Ho v=IN):mW (v.sub θ):=by
 unfold Ho at h;split at h
 .simp[mW]
 .simp[mW]
 .simp[mW]
 .rw[lQ];exact a _
 next es=>
  simp only[ag.sub,mW,ag.ki];exact MV a es h
 next cs=>
  simp only[ag.sub,mW,ag.ki];exact wA a cs h
 next c=>
  simp only[ag.sub,mW,ag.ki];exact Cs a c h
 cases h
def D2.map{ι:pM}{θ:Nat->ag}{a b:List (List ag)}(h:D2 ι (oA θ a) (oA θ b)):D2 ι (a.map (bY (ag.sub θ))) (b.map (bY (ag.sub θ))):=by rw[<-vE,<-vE];exact h
def L5{ι:pM}{c:ag}(hf:mW c):pK ι (qh c) (qh c):=by
 refine⟨rfl,rfl,rfl,λi a7 f=>⟨rfl,?_,rfl⟩⟩;intro G u g;have a:i<(rowsOf c).length:=by rw[yw]at a7;exact a7
 refine rT (G:=G) (G':=G.og ι) (λ_ _ h=>h) g ?_;rw[Ep _ _ _ a7 a];rcases hf.cases with⟨k,n,e⟩|⟨j,e⟩|⟨x,e⟩|⟨es,e⟩|⟨cs,e⟩|⟨c2,e⟩
 rotate_right
 .simp[e,rowsOf]at a
 rotate_right
 .simp[e,rowsOf]at a
 .simp[e,rowsOf]at a
 .simp[e,rowsOf]at a
 .simp[e,rowsOf]at a
 subst e;have hp:=hf.ki;have d:i<es.length:=a;have b:=ru hp i d;show(nR (0+i) es[i]).2.1.ki=IN;generalize es[i]=r at b;unfold nR;split
 next k v=>
  exact b 1 (by simp)
 simp[ag.ki]
def VJ:∀ {a b:List (Nat×TypeId×Nat)},Dz a b=IN->a=b
 | [],[],_=>rfl
 | [],_::_,h=>by simp[Dz]at h
 |_::_,[],h=>by simp[Dz]at h
 | (x,y,z)::az,(e,f,g)::bs,h=>by simp only[Dz,ab,bH]at h;obtain⟨⟨⟨h1,h2⟩,c⟩,d⟩:=h;rw[h1,h2,c,VJ d]
def bo6{θ:Nat->ag}(g:Fit θ){b5:Bool}{ι:pM}(K:b5=IN->∀i,i<mg->ι i=U (U i)){o o':b7}(h:qn b5 ι o o'=IN):pK ι (o.sub θ) (o'.sub θ):=by
 cases o with
 |row e z es=>
  cases o' with
  |row M N t =>simp only[qn,ab]at h;have h2:=(N6 g es t h.2).map;exact⟨af h.1.1,af h.1.2,kW h2.1,h2.2⟩
  |f' M N i' =>
   cases es with
   |nil=>simp only[qn,ab]at h;exact⟨af h.1,af h.2,by simp,λa ha=>by simp at ha⟩
   |cons _ _=>simp[qn]at h
  |_=>simp[qn]at h
 |f' e z i=>
  cases o' with
  |f' M N i' =>
   simp only[qn,ab]at h;have H:=af h.2;subst H;refine⟨af h.1.1,af h.1.2,aw _,λa ha O=>⟨rfl,λb I P=>?_⟩⟩;intro G u r;have hf:=g i;rcases hf.cases with⟨k,n,e⟩|⟨b',e⟩|⟨x,e⟩|⟨es,e⟩|⟨cs,e⟩|⟨c2,e⟩
   rotate_right
   .simp[e,rowsOf]at ha
   rotate_right
   .simp[e,rowsOf]at ha
   .simp[e,rowsOf]at ha
   .simp[e,rowsOf]at ha
   .simp[e,rowsOf]at ha
   have hp:=hf.ki;rw[e]at hp;simp only[e,rowsOf]at r⊢;exact rT (G:=G) (G':=G.og ι) (λ_ _ Q=>Q) r (ru hp a (by simpa[e,rowsOf]using ha) b (by simpa[e,rowsOf]using I))
  |_=>simp[qn]at h
 |mS c=>
  cases o' with
  |mS c' =>
   simp only[qn]at h;split at h
   next i j=>
    have H:=af h;subst H;exact L5 (g i)
   .exact L5 (c:=.rs []) (by simp[mW,ag.ki,rH])
   cases h
  |map agg es clock=>
   by_cases hc:c=.rs []/\agg=IS/\es=[]
   .obtain⟨rfl,rfl,rfl⟩:=hc
    simp only[qn]at h;rw[bH]at h;subst h;exact L5 (c:=.rs []) (by simp[mW,ag.ki,rH])
   exfalso;unfold qn at h;split at h
   next f w=>cases f
   next f w=>cases f
   next f w=>cases f
   next f w=>cases f
   next f w=>cases w
   next f w=>cases f;cases w;exact hc ⟨rfl,rfl,rfl⟩
   next f w=>cases f
   next f w=>cases f
   cases h
  |_=>simp[qn]at h
 |map agg es c=>
  cases o' with
  |map V t c' =>
   simp only[qn,ab]at h;obtain⟨⟨⟨h1,h2⟩,H⟩,h4⟩:=h;have hl:=af H;refine⟨by simpa using h1,af h2,by simpa using hl,λi a7 R=>?_⟩;have hi1:i<es.length:=by simpa using a7
   have hi2:i<t.length:=by simpa using R
   have hm:=ak.1 h4 (es[i],t[i]) (by
    rw[List.mem_iff_getElem];exact⟨i,by simp;omega,by simp⟩)
   simp only[ab,gb]at hm;simp only[cK];exact⟨hm.1.1,Oh g _ _ hm.1.2,af hm.2⟩
  |_=>simp[qn]at h
 |nD e z c d k off v=>
  cases o' with
  |nD M N c' S k' off' v' =>
   cases v with
   |some v0=>simp[qn]at h
   |none=>
   cases v' with
   |some v0=>simp[qn]at h
   |none=>
   simp only[qn,ab]at h;obtain⟨⟨⟨⟨hl,h1⟩,h2⟩,hc⟩,D⟩:=h;have h1:=af h1;have h2:=af h2;subst h1;subst h2;obtain⟨i,rfl,rfl⟩:=Kc hc;have:=VJ D;subst this;have hid:=K hl;refine⟨rfl,rfl,aw _,λa ha O=>⟨rfl,λb I P=>?_⟩⟩;intro G u r;simp only[ck,tu,lQ]at r ha I⊢;have l:a<(rowsOf (θ i)).length:=by rw[Ac]at ha;exact ha
   obtain⟨es,hes⟩:∃es,θ i=.rs es:=by
    rcases(g i).cases with⟨_,_,e⟩|⟨_,e⟩|⟨_,e⟩|⟨es,e⟩|⟨_,e⟩|⟨_,e⟩
    .simp[e,rowsOf]at l
    .simp[e,rowsOf]at l
    .simp[e,rowsOf]at l
    .exact⟨es,e⟩
    .simp[e,rowsOf]at l
    simp[e,rowsOf]at l
   have hp:=(g i).ki;rw[hes]at hp;have B:a<es.length:=by simpa[hes,rowsOf]using l
   have C:(oG d 0 (rowsOf (θ i)))[a]=sv d a 0 es[a]:=by have:=vj d (rowsOf (θ i)) 0 a;rw[ae ha]at this;simp only[hes,rowsOf,ae B,aj,ai,aN]at this;simpa[hes,rowsOf]using this
   have J:b<es[a].length:=by have:=I;simp only[C,xp]at this;exact this
   have E:(oG d 0 (rowsOf (θ i)))[a][b]=vC d a b es[a][b]:=by
    have:=wv d a es[a] 0 b;rw[ae J,aj,aN]at this;have h2:(oG d 0 (rowsOf (θ i)))[a][b]?=U (vC d a b es[a][b]):=by rw[C];exact this
    rw[ae I]at h2;simpa using h2
   rw[E]at r⊢;unfold vC at r⊢;split at r
   next q hq=>
    have a7:=hid _ (wY a b);generalize(rowsOf es[a][b]).length=ln at r⊢;cases r with
    |ms _ _ _ _ p hp hv hz ad cp hA ho hl hsp=>exact .ms _ _ 0 _ p (by simp only[cb.og,a7];exact hp) hv hz ad cp hA ho hl hsp
    |n4 _ _ p hp hv=>exact .n4 _ _ p (by simp only[cb.og,a7];exact hp) hv
   rename_i hq;exact rT (G:=G) (G':=G.og ι) (λ_ _ Q=>Q) r (ru hp a B b J)
  |_=>simp[qn]at h
 |qe a b=>cases o'<;>simp[qn]at h
 |pO s p=>
  cases o' with
  |pO s' p' =>simp only[qn,ab]at h;simp only[b7.sub,FG h.1,FG h.2];exact⟨rfl,rfl⟩
  |_=>simp[qn]at h
 |se m a b c=>cases o'<;>simp[qn]at h
def R0{ι:pM}{c:Nat->ag}{s:AS}:∀ {l:List ag} {t0:Nat},HL ι c s l t0=IN->∀i (h:i<l.length),nT ι ((l[i]).me c) (s.get (t0+i))=IN
 | [],_,_,i,h=>by simp at h
 |a::az,t0,b,i,h=>by
  simp only[HL,ab]at b;cases i with
  |zero=>exact b.1
  |succ i=>have:=R0 b.2 i (by simpa using h);simpa[eH,fF 1 i]using this
def Xj{ι:pM}:∀ {l:List (Nat×b7)},HJ ι l=IN->∀p∈l,∀q∈l,∀k,ι p.1=U (U k)->ι q.1=U (U k)->p.1=q.1
 | [],_,p,hp,_,_,_,_,_=>by cases hp
 |a::l,h,p,hp,q,g,k,h1,h2=>by
  simp only[HJ,ab]at h;have key:∀r∈l,ι a.1=U (U k)->ι r.1=U (U k)->a.1=r.1:=λr i e c=>by
   have:=ak.1 h.1 r i;rw[e]at this;simp only[bD]at this;rcases this with f|f
   .exact(af f).symm
   simp[vr,c]at f
  rcases aI.1 hp with e|d
  .rcases aI.1 g with c|b
   .rw[e,c]
   rw[e]at h1⊢;exact key q b h1 h2
  rcases aI.1 g with c|b
  .rw[c]at h2⊢;exact(key p d h2 h1).symm
  exact Xj h.2 p d q b k h1 h2
def RN(a:Acc):∀(k l:Nat),(vH a l k).length=k
 | 0,_=>rfl
 |k+1,l=>by simp[vH,RN a k]
def Hint.Wr(h:Hint)(t:Nat):h.state.get t=(h.th[t]?).getD (.bF undef):=AS.LU _ _ _ _
def Ez{θ:Nat->ag}(c:Fit θ){n l:Nat}{h:Hint}{s:AS}{hi:List ag}(hm:AK n l h s=U hi) :
  hi.length=h.k/\(∀v∈hi,mW (v.sub θ))/\Fit (λi=>(pg l hi i).sub θ)/\∃ι,Ren ι n (h.state.sub (λi=>(pg l hi i).sub θ)) (s.sub θ):=by
 unfold AK at hm;simp only at hm;split at hm
 next hc=>
  cases hm;generalize E:RT s n l h=acc at *;generalize G:acc.io.filter (λp=>dx n p.1)=io at *;simp only[ab]at hc;obtain⟨⟨⟨⟨⟨⟨c1,c2⟩,H⟩,I⟩,J⟩,K⟩,M⟩:=hc;have u:=af c2;have w:=aU H;have g:∀v∈vH acc l h.k,mW (v.sub θ):=λv hv=>Xo c (ak.1 c1 v hv);refine⟨RN _ _ _,g,λi=>?_,CO n io,?_⟩
  .show mW ((pg l (vH acc l h.k) i).sub θ)
   unfold pg;split
   .cases q:(vH acc l h.k)[i-l]? with
    |none=>simpa using c i
    |some v=>exact g v (aJ q)
   simpa using c i
  have l4:h.state.sub (λi=>(pg l (vH acc l h.k) i).sub θ)=(h.state.me (pg l (vH acc l h.k))).sub θ:=(AS.rk _ _ _).symm;have d:∀i o,(h.state.sub (λi=>(pg l (vH acc l h.k) i).sub θ)).st.bT i=U o->∃o0,(i,o0)∈h.bT/\o=(o0.me (pg l (vH acc l h.k))).sub θ:=λi o m=>by
   rw[AS.uE,bg.mh]at m;cases q:h.state.st.bT i with
   |none=>rw[q]at m;cases m
   |some o0=>
    rw[q]at m;simp only[aj,ai]at m;refine⟨o0,?_,by rw[b7.rk];exact m.symm⟩;rcases fb.Iz h.bT .leaf i o0 q with h1|h1
    .exact h1
    rw[fb.sc]at h1;cases h1
  have x:∀i k,Dr io i=U k->n<=i/\i<h.next:=λi k hk=>by
   have aux:∀(L:List (Nat×Option Nat)),L.all (λp=>dx n p.1&&cD p.1 h.next)=IN->Dr L i=U k->n<=i/\i<h.next:=by
    intro L
    induction L with
    |nil=>intro _ r;simp[Dr]at r
    |cons a L N=>
     intro b r;simp only[cE,ab]at b;unfold Dr at r;split at r
     next he=>
      have:=af he;subst this;exact⟨aU b.1.1,by simpa[bc]using b.1.2⟩
     exact N (by simpa using b.2) r
   exact aux io I hk
  refine⟨u,λi a7=>?_,λi k hk=>?_,w,λi j k oi oj h1 h2 O P=>?_,λt B=>?_,λt B=>?_,λi o m=>?_⟩
  .have:cD i n=IN:=by rw[bc];exact a7
   simp only[CO,this]
  .show i<h.next
   simp only[CO]at hk;split at hk
   next Q=>rw[bc]at Q;omega
   exact(x i k hk).2
  .obtain⟨o1,m1,_⟩:=d i oi O
   obtain⟨o2,m2,_⟩:=d j oj P;exact Xj M _ m1 _ m2 k h1 h2
  .have f:t<h.th.length:=by rw[u];exact B
   have:=R0 J t f;rw[aN]at this;rw[AS.tS,AS.tS,Hint.Wr,ae f,cg,<-rk];exact Oh c _ _ this
  .have f:h.th.length<=t:=by rw[u];exact B
   rw[AS.tS,Hint.Wr,bM f];simp
  obtain⟨o0,m0,rfl⟩:=d i o m;have:=ak.1 K (i,o0) m0;simp only[PB]at this;split at this
  next k hk=>
   split at this
   next o' C=>
    exact .inl ⟨k,o'.sub θ,hk,by rw[AS.uE,bg.mh,C];rfl,bo6 c (λD i a7=>by
     have R:=aU D;have:cD i n=IN:=by rw[bc];omega
     simp only[CO,this]) this⟩
   cases this
  next hk=>
   refine .inr ⟨hk,?_⟩;unfold UJ at this;split at this
   next e z he=>exact⟨e,z,by rw[he];simp[b7.sub]⟩
   cases this
  cases this
 cases hm
def Wk(f:ag->ag):∀(l:List ag) (i:Nat) (t:fb ag),(zJ l i t).map f=zJ (l.map f) i (t.map f)
 | [],i,t=>rfl
 |v::l,i,t=>by simp only[zJ,ay];rw[Wk f l,fb.map_set];rfl
def MS(θ:Nat->ag)(n:Nat)(args:List ag)(σ:bg):(AS.enter n args σ).sub θ=AS.enter n (args.map (ag.sub θ)) (σ.sub θ):=by simp only[AS.sub,AS.enter,Wk];rfl
def bd0{T:dd}{θ:Nat->ag}{s:AS}{r:ResultVar}{v:ag}(h:zt T s r=U v):zt T (s.sub θ) r=U (v.sub θ):=by
 cases r with
 |tmp t=>simp only[zt,ai]at h⊢;rw[AS.tS,h]
 |cell a t=>simp only[zt]at h⊢;rw[AS.tS];exact MB h
def MC{T:dd}{θ:Nat->ag}{s:AS}:∀ {rs:List ResultVar} {l:List ag},uj T s rs=U l->uj T (s.sub θ) rs=U (l.map (ag.sub θ))
 | [],l,h=>by simp only[uj,ai]at h;subst h;rfl
 |r::rs,l,h=>by
  unfold uj at h;split at h
  next v a h1 h2=>
   cases h;simp only[uj,bd0 h1,MC h2];rfl
  cases h
def LQ{T:dd}{θ:Nat->ag}{fn:Func}{s:AS}{v:ag}(h:pQ T fn s=U v):pQ T fn (s.sub θ)=U (v.sub θ):=by
 unfold pQ at h;split at h
 next u hu=>cases h;simp[pQ,MC hu]
 next l a hl=>
  cases h;simp only[pQ,MC hl];split
  next u e=>
   simp only[ai]at e;have hlen:=mP eT e;simp only[aF,aA,bL]at hlen;obtain⟨x,rfl⟩:=List.length_eq_one_iff.1 hlen;exact lH rfl (a x)
  next b _ e=>simp only[ai]at e;subst e;simp
  rename_i e;cases e
 cases h
def AA:∀ {t:fb b7} {k:Nat} {e:TypeId} {z j:Nat},t.get k=U (.f' e z j)->j∈pG t
 | .leaf,k,e,z,j,h=>by rw[fb.sc]at h;cases h
 | .node v l r,0,e,z,j,h=>by simp only[fb.get]at h;subst h;simp[pG]
 | .node v l r,k+1,e,z,j,h=>by
  simp only[fb.get]at h;simp only[pG,aO];split at h
  .exact .inr (.inl (AA h))
  exact .inr (.inr (AA h))
def Av:∀ {t:fb b7} {k:Nat} {j:Nat},t.get k=U (.mS (.ek j))->j∈pG t
 | .leaf,k,j,h=>by rw[fb.sc]at h;cases h
 | .node v l r,0,j,h=>by simp only[fb.get]at h;subst h;simp[pG]
 | .node v l r,k+1,j,h=>by
  simp only[fb.get]at h;simp only[pG,aO];split at h
  .exact .inr (.inl (Av h))
  exact .inr (.inr (Av h))
mutual
theorem xe{θ:Nat->ag}{id j bb:Nat}(hl:(rowsOf (θ bb)).length=(rowsOf (θ j)).length):∀v:ag,(v.mU id j bb).sub θ=v.sub θ
 | .ea a z i=>by
  simp only[ag.mU];split
  next h=>
   simp only[ab,bH]at h;obtain⟨rfl,rfl⟩:=h;simp only[p5,hl]
  rfl
 | .rs es=>by simp only[ag.mU,ag.sub];rw[MD hl es]
 | .h8 cs=>by simp only[ag.mU,ag.sub];rw[Az hl cs]
 | .fn f a c=>by simp only[ag.mU,ag.sub];rw[Az hl a,Az hl c]
 | .agg cs=>by simp only[ag.mU,ag.sub];rw[Az hl cs]
 | .fe cs=>by simp only[ag.mU,ag.sub];rw[Az hl cs]
 | .any=>rfl
 | .bF _=>rfl
 | .ms _ _ _ _=>rfl
 | .mp _ _ _=>rfl
 | .lX _=>rfl
 | .it _=>rfl
 | .ek _=>rfl
 | .oN _ _ _=>rfl
 | .xs _ _ _ _=>rfl
 | .mx _=>rfl
theorem Az{θ:Nat->ag}{id j bb:Nat}(hl:(rowsOf (θ bb)).length=(rowsOf (θ j)).length):∀l:List ag,mR θ (xW id j bb l)=mR θ l
 | []=>rfl
 |c::cs=>by simp only[xW,mR];rw[xe hl c,Az hl cs]
theorem MD{θ:Nat->ag}{id j bb:Nat}(hl:(rowsOf (θ bb)).length=(rowsOf (θ j)).length):∀l:List (List ag),oA θ (Gi id j bb l)=oA θ l
 | []=>rfl
 |c::cs=>by simp only[Gi,oA];rw[Az hl c,MD hl cs]
end
def b7.xe{θ:Nat->ag}{id j bb:Nat}(hl:(rowsOf (θ bb)).length=(rowsOf (θ j)).length)(o:b7):(o.mU id j bb).sub θ=o.sub θ:=by
 cases o with
 |row e z es=>simp only[b7.mU,b7.sub,<-vE];rw[MD hl]
 |map agg es c=>simp only[b7.mU,b7.sub,dB];congr 1;apply bp;intro e _;simp[Go.Ab.xe hl]
 |_=>rfl
def AS.xe{θ:Nat->ag}{id j bb:Nat}(hl:(rowsOf (θ bb)).length=(rowsOf (θ j)).length)(s:AS):(s.mU id j bb).sub θ=s.sub θ:=by simp only[AS.mU,AS.sub,bg.sub,fb.map_map];have h1:(λx=>ag.sub θ (ag.mU id j bb x))=ag.sub θ:=funext λx=>Go.Ab.xe hl x;have h2:(λx=>b7.sub θ (b7.mU id j bb x))=b7.sub θ:=funext λx=>b7.xe hl x;rw[h1,h2]
def TM{T:dd}{σ σ1 b:bg}{t:TypeId}{id a i j:Nat}{e:TypeId}{z:Nat}{es:List (List ag)}{v:ag}(h1:σ1.bT a=U (.row e z es))(h2:σ.bT id=U (.row e z es))(h:rA T σ1 t (.mp a i j) v=U b) :
  ∃c,b.bT a=U (.row e z c)/\rA T σ t (.mp id i j) v=U (σ.set id (.row e z c)):=by
 unfold rA at h⊢;split at h
 next id' l m vs ti d f g=>
  cases d;simp only[h1]at h;simp only[f,g,h2];split at h
  next cs k=>
   split at h
   next hc=>
    cases h;rw[b9 hc];exact⟨_,by simp[bg.l1],rfl⟩
   cases h
  cases h
 cases h
def bp6{T:dd}{Φ:lb}{θ b:Nat->ag}{bb:Nat}(ha:∀i,i<bb->b i=θ i){s:AS}(c:s.er bb=IN){t e:TypeId}{a x:Operand}{id z j off:Nat}{i:ag}(hp:xZ (s.eval a)=U (id,i,off))(f:s.st.bT id=U (.f' e z j))
  (he:fr T Φ θ (.vd t e z (.ek j) i off (s.eval x))=U (b bb)):(∀id0,j5 T (s.sub b).eval (s.st.sub b) id0 (.store t a x)=U (.bF undef,(s.st.sub b).set id (.row e z (rowsOf (b bb)))))/\(rowsOf (b bb)).length=(rowsOf (b j)).length:=by
 obtain⟨g,hj⟩:=AU (θ:=θ) ha c f;have h:=Fv (θ:=θ) ha c (s.ps c a) hp;simp only[fr,lQ]at he;split at he
 next σ1 d=>
  have k:(pF e z (θ j)).bT 0=U (.row e z (rowsOf (θ j))):=by simp[pF,bg.l1]
  obtain⟨l,g1,g2⟩:=TM k g d;rw[g1]at he;simp only at he;split at he
  next hlen=>
   simp only[ai]at he;have hlen:=af hlen;refine⟨λid0=>?_,by rw[<-he,ha j hj];exact hlen⟩;simp only[j5,AS.sub_eval,h,iv ha _ (s.ps c x),g2,<-he,rowsOf]
  cases he
 cases he
def bh9{T:dd}{Φ:lb}{θ d:Nat->ag}{bb:Nat}(ha:∀i,i<bb->d i=θ i){s s':AS}(k:s.er bb=IN){op:Op}{ro:ml}{v:ag}(h:O_ s op bb=U (ro,v,s'))(he:fr T Φ θ ro=U (ag.sub d (.ek bb))) :
  ∃q,(∀id,j5 T (s.sub d).eval (s.st.sub d) id op=U (v.sub d,q))/\s'.sub d={ s.sub d with st:=q }:=by
 unfold O_ at h;split at h
 next t a x=>
  split at h
  next id i off hp=>
   split at h
   next e z j r=>
    cases h;obtain⟨H,hj⟩:=AU (θ:=θ) ha k r;have k2:=Fv (θ:=θ) ha k (s.ps k a) hp;simp only[fr,lQ]at he;split at he
    next σ1 I=>
     have J:(pF e z (θ j)).bT 0=U (.row e z (rowsOf (θ j))):=by simp[pF,bg.l1]
     obtain⟨K,g1,g2⟩:=TM J H I;rw[g1]at he;simp only at he;split at he
     next hlen=>
      simp only[ai]at he;have hlen:=af hlen;have hl:(rowsOf (d bb)).length=(rowsOf (d j)).length:=by rw[<-he,ha j hj];exact hlen
      refine⟨(s.st.sub d).set id (.row e z K),λid0=>?_,?_⟩
      .simp only[j5,AS.sub_eval,k2,iv ha _ (s.ps k x),g2,oq]
      have n:=AS.xe (id:=id) (j:=j) (bb:=bb) hl s;have G:({ s.mU id j bb with st:=(s.mU id j bb).st.set id (.f' e z bb) }:AS).sub d={ (s.mU id j bb).sub d with st:=((s.mU id j bb).st.set id (.f' e z bb)).sub d }:=rfl;rw[G,bg.n'];have u:(s.mU id j bb).st.sub d=s.st.sub d:=mP AS.st n;rw[u,n];simp only[b7.sub,<-he,rowsOf]
     cases he
    cases he
   cases h
  cases h
 next t x a7=>
  split at h
  next id z j hx=>
   split at h
   next e9 z9 j' r=>
    cases h;obtain⟨_,M⟩:=AU (θ:=θ) ha k r;have p:=s.ps k x;rw[hx]at p;simp only[ag.er,bc]at p;simp only[fr,lQ]at he;split at he
    next d1 d2 o l hq=>
     split at he
     next hl=>
      rw[ab,bH,bH]at hl;obtain⟨rfl,rfl⟩:=hl;refine⟨s.st.sub d,λid0=>?_,rfl⟩;simp only[j5,AS.sub_eval,hx,p5,ck,aj,ha j p,ha j' M,iv ha _ (s.ps k a7)];rw[VI (id:=id) hq]
     cases he
    cases he
   cases h
  cases h
 next args ts=>
  split at h
  next t t2 id z j y N f=>
   split at h
   next e z' j' c r hc=>
    split at h
    next w=>
     cases h;rw[ab,bH,bH]at w;obtain⟨rfl,rfl⟩:=w;obtain⟨H,hj⟩:=AU (θ:=θ) ha k r;obtain⟨x1,O,m⟩:∃x1 O,args.toList=[x1,O]:=by
      cases P:args.toList with
      |nil=>rw[P]at f;simp at f
      |cons a l=>cases l with
       |nil=>rw[P]at f;simp at f
       |cons b l=>cases l with
        |nil=>exact⟨_,_,rfl⟩
        |cons _ _=>rw[P]at f;simp at f
     rw[m]at f;simp only[ay,bO,cG,and_true]at f;obtain⟨Q,B⟩:=f;have R:y.er bb=IN:=by rw[<-B];exact s.ps k O
     simp only[fr,lQ]at he;split at he
     next C=>
      obtain⟨xs,D⟩:∃xs,c.sub θ=.rs xs:=by cases S:c.sub θ<;>rw[S]at C<;>simp[Mx]at C;exact⟨_,rfl⟩
      have E:=NV (θ:=θ) ha k R hc D;rw[D]at he;have J:(pF e z (θ j)).bT 0=U (.row e z (rowsOf (θ j))):=by simp[pF,bg.l1]
      unfold sB at he;split at he
      next elem _ _ _ _ id1 V len1 ht n=>
       cases n;simp only[J,nV]at he;split at he
       next ei G z2 es2 xs2 hei u e4=>
        cases u;cases e4;split at he
        next g=>
         simp only[eK,wb,bg.l1,jj,ai]at he;have hl:(rowsOf (d bb)).length=(rowsOf (d j)).length:=by rw[<-he,ha j hj];exact g.2.2.2.1
         refine⟨(s.st.sub d).set id (.row e z xs),λid0=>?_,?_⟩
         .simp only[j5,pC,N,m,ay,bO,AS.sub_eval,Q,B,p5,ha j hj,sB,ht,hei,H,E]
          rw[b9 ⟨g.1,g.2.1,trivial,g.2.2.2⟩];simp
         have n:=AS.xe (id:=id) (j:=j) (bb:=bb) hl s;have G:({ s.mU id j bb with st:=(s.mU id j bb).st.set id (.f' e z bb) }:AS).sub d={ (s.mU id j bb).sub d with st:=((s.mU id j bb).st.set id (.f' e z bb)).sub d }:=rfl;rw[G,bg.n'];have u:(s.mU id j bb).st.sub d=s.st.sub d:=mP AS.st n;rw[u,n];simp only[b7.sub,<-he,rowsOf]
        cases he
       cases he
      cases he
     cases he
    cases h
   cases h
  cases h
 cases h
def Mo{σ:bg}{id:Nat}{o:b7}(i:Nat):(nk σ id o).bT i=if i=id then U o else No:=by
 unfold nk;rw[bg.l1];split
 .rfl
 exact fb.sc i
def TT(θ:Nat->ag)(σ:bg)(id:Nat)(o:b7):(nk σ id o).sub θ=nk (σ.sub θ) id (o.sub θ):=by unfold nk;rw[bg.n'];rfl
def MP{G:cb}{σ:bg}{w:World}(h:Rel G σ w){id:Nat}{o:b7}(b:σ.bT id=U o):Rel G (nk σ id o) w :=
 h.less rfl λi x a=>by
  rw[Mo]at a;split at a
  next e=>subst e;cases a;exact b
  cases a
noncomputable abbrev cb.sY(G:cb)(σ:bg)(w:World)(id:Nat)(o:b7):cb:=G.frozen (nk σ id o) w G.pl
def tq{G:cb}{σ:bg}{w:World}(h:Rel G σ w){id:Nat}{o:b7}(a:σ.bT id=U o):G.le (G.sY σ w id o) :=⟨rfl,λ_ _ b=>tZ (MP h a) b,λ_ _ hp=>hp⟩
def bc9{G:cb}{σ:bg}{id:Nat}{o:b7}{b:Nat}(h:Live G (nk σ id o) b):∃p,G.pl id=U p/\p.mF=IS/\p.block=b:=by
 obtain⟨i,x,p,h1,h2,a,c⟩:=h;rw[Mo]at h1;split at h1
 next e=>subst e;exact⟨p,h2,a,c⟩
 cases h1
def bj0{G:cb}{s s':AS}{a:Act}{w:World}(B:np G s a w){id:Nat}{o:b7}(D:s.st.bT id=U o)(N:s'.n=s.n)(M:s'.st.next=s.st.next)
  (d:∀i x,s'.st.bT i=U x->i≠id/\∃y,s.st.bT i=U y/\(∀p m,oc G p y m->oc (G.sY s.st w id o) p x m)/\((∃e z,y=.row e z [])->∃e z,x=.row e z []))
  (g:∀t u,lB G (s.get t) u->lB (G.sY s.st w id o) (s'.get t) u) {n:Nat} (E:n<=s.st.next):np (G.sY s.st w id o) s' a w/\oK n G s.st w (G.sY s.st w id o) s'.st w:=by
 have c:=B.rel;have l:=MP c D;have himm:∀b x,(G.sY s.st w id o).lM b=U x->(∃p,G.pl id=U p/\p.mF=IS/\p.block=b/\w.heap[b]?=U x)\/G.lM b=U x:=λb x f=>by
  simp only[cb.sY,cb.frozen]at f;split at f
  next hl=>
   obtain⟨p,h1,h2,k⟩:=bc9 hl;exact .inl ⟨p,h1,h2,k,f⟩
  exact .inr f
 refine⟨⟨B.defers,by rw[N];exact B.size,λt=>g t _ (B.tmps t),?_⟩,?_⟩
 .refine⟨c.os,c.tape,c.output,c.size,λb x f=>?_,by rw[M];exact c.fresh,λi x a7=>?_,λi j oi oj pi pj h1 h2 k O v1 v2 P=>?_,λb o' v hv=>L1 l (c.qV b o' v hv)⟩
  .rcases himm b x f with⟨p,_,_,_,h⟩|h
   .exact h
   exact c.lM b x h
  .obtain⟨H,y,C,I,r⟩:=d i x a7
   obtain⟨p,hp,hl⟩:=c.bT i y C;refine⟨p,hp,?_⟩;rcases hl with⟨hv,e,z,rfl⟩|⟨hv,mj,nh,px⟩
   .exact .inl ⟨hv,r ⟨e,z,rfl⟩⟩
   refine .inr ⟨hv,?_,nh,I p _ px⟩;cases f:(G.sY s.st w id o).lM p.block with
   |none=>rfl
   |some q=>
    rcases himm _ _ f with⟨Q,h1,h2,k,_⟩|h
    .exact lH (c.sep i id y o p Q C D hp h1 hv h2 k.symm) H
    rw[mj]at h;cases h
  obtain⟨_,R,J,_⟩:=d i oi h1;obtain⟨_,S,K,_⟩:=d j oj h2;exact c.sep i j R S pi pj J K k O v1 v2 P
 refine⟨rfl,λb x f=>tZ l f,λ_ _=>rfl,by rw[M];exact E,⟨aw _,λ_ _ _=>rfl,λi x p h1 h2 k _=>?_,λb x f=>?_,aw _⟩⟩
 .obtain⟨_,y,C,_⟩:=d i x h1
  exact⟨i,y,p,C,h2,k,rfl⟩
 rcases himm b x f with⟨p,h1,h2,k,_⟩|h
 .exact .inr (.inr ⟨id,o,p,D,h1,h2,k⟩)
 exact .inl h
section
variable {θ:Nat->ag} (hθ:Fit θ) {G:cb} {σ:bg} {w:World} {id:Nat} {o:b7} (h:Rel G (σ.sub θ) w) (ho:σ.bT id=U o) (hxv:∀j,j∈pG (nk σ id o).mv->∃es,θ j=.rs es)
include hθ h ho hxv in
theorem MN(v c:ag)(u:Value)(hc:pI (nk σ id o) 3 v=U c)(a:lB G (v.sub θ) u):lB (G.sY (σ.sub θ) w id (o.sub θ)) (c.sub θ) u:=by
 have h1:Rel G ((nk σ id o).sub θ) w:=by rw[TT];exact MP h (by rw[bg.mh,ho];rfl)
 have:=CC hθ h1 G.pl (λi e z j a7=>hxv j (AA a7)) (λi j a7=>hxv j (Av a7)) 3 v c u hc a;rw[TT]at this;exact this
include hθ h ho hxv
mutual
theorem Pk:∀(v:ag) (u:Value),lB G (v.sub θ) u->lB (G.sY (σ.sub θ) w id (o.sub θ)) ((v.ny (nk σ id o)).sub θ) u
 | .agg cs,u,b=>by
  simp only[ag.ny,ag.sub]at b⊢;cases b with
  |agg _ vs h1 h2=>have:=E7 cs vs ⟨h1,h2⟩;exact .agg _ vs this.1 this.2
 | .fe cs,u,b=>by
  simp only[ag.ny,ag.sub]at b⊢;cases b with
  |fe _ vs h1 h2=>have:=E7 cs vs ⟨h1,h2⟩;exact .fe _ vs this.1 this.2
 | .fn f a c,u,b=>by
  simp only[ag.ny,ag.sub]at b⊢;cases b with
  |fn _ _ _ fv cv h1 h2 g k=>have d:=E7 a fv ⟨h1,g⟩;have e:=E7 c cv ⟨h2,k⟩;exact .fn _ _ _ fv cv d.1 e.1 d.2 e.2
 | .ea a z i,u,b=>by
  simp only[ag.ny];cases hc:pI (nk σ id o) 3 (.ea a z i)with
  |some c=>simp only[cg];exact MN hθ h ho hxv _ _ _ hc b
  |none=>exact b.mono (tq h (by rw[bg.mh,ho];rfl))
 | .ms a z i j,u,b=>by
  simp only[ag.ny];cases hc:pI (nk σ id o) 3 (.ms a z i j)with
  |some c=>simp only[cg];exact MN hθ h ho hxv _ _ _ hc b
  |none=>exact b.mono (tq h (by rw[bg.mh,ho];rfl))
 | .mp a i j,u,b=>by
  simp only[ag.ny];cases hc:pI (nk σ id o) 3 (.mp a i j)with
  |some c=>simp only[cg];exact MN hθ h ho hxv _ _ _ hc b
  |none=>exact b.mono (tq h (by rw[bg.mh,ho];rfl))
 | .any,u,b=>by simp only[ag.ny];exact b.mono (tq h (by rw[bg.mh,ho];rfl))
 | .bF _,u,b=>by simp only[ag.ny];exact b.mono (tq h (by rw[bg.mh,ho];rfl))
 | .rs _,u,b=>by simp only[ag.ny];exact b.mono (tq h (by rw[bg.mh,ho];rfl))
 | .h8 _,u,b=>by simp only[ag.ny];exact b.mono (tq h (by rw[bg.mh,ho];rfl))
 | .lX _,u,b=>by simp only[ag.ny];exact b.mono (tq h (by rw[bg.mh,ho];rfl))
 | .it _,u,b=>by simp only[ag.ny];exact b.mono (tq h (by rw[bg.mh,ho];rfl))
 | .ek _,u,b=>by simp only[ag.ny];exact b.mono (tq h (by rw[bg.mh,ho];rfl))
 | .oN _ _ _,u,b=>by simp only[ag.ny];exact b.mono (tq h (by rw[bg.mh,ho];rfl))
 | .xs _ _ _ _,u,b=>by simp only[ag.ny];exact b.mono (tq h (by rw[bg.mh,ho];rfl))
 | .mx _,u,b=>by simp only[ag.ny];exact b.mono (tq h (by rw[bg.mh,ho];rfl))
theorem E7:∀(l:List ag) (us:List Value),gl G (mR θ l) us->gl (G.sY (σ.sub θ) w id (o.sub θ)) (mR θ (rf (nk σ id o) l)) us
 | [],us,a=>by simp only[rf,mR]at a⊢;rw[a.s_];exact gl.nil _
 |c::cs,us,a=>by simp only[rf,mR]at a⊢;obtain⟨v,vs,rfl,h1,h2⟩:=a.cons_inv;exact(E7 cs vs h2).cons (Pk c v h1)
end
theorem bg2(y:b7)(p:nm)(f:Option Obj)(hk:oc G p (y.sub θ) f):oc (G.sY (σ.sub θ) w id (o.sub θ)) p ((y.ny (nk σ id o)).sub θ) f:=by
 have hle:G.le (G.sY (σ.sub θ) w id (o.sub θ)):=tq h (by rw[bg.mh,ho];rfl);cases y with
 |row e z es=>
  simp only[b7.ny,b7.sub]at hk⊢;obtain⟨cs,h1,h2,B,C,D⟩:=hk;refine⟨cs,h1,h2,B,by simpa using C,λi a7=>?_⟩;have n:i<es.length:=by simpa using a7
  have q:i<(es.map (bY (ag.sub θ))).length:=by simpa using n
  obtain⟨g1,g2⟩:=D i q;have E:(es.map (bY (ag.sub θ)))[i]=mR θ es[i]:=by simp[p3]
  have x:((es.map (rf (nk σ id o))).map (bY (ag.sub θ)))[i]=mR θ (rf (nk σ id o) es[i]):=by simp[p3]
  have g:∀l:List ag,(rf (nk σ id o) l).length=l.length:=λl=>by
   induction l with
   |nil=>rfl
   |cons c cs r=>simp[rf,r]
  have hlen:(mR θ (rf (nk σ id o) es[i])).length=es[i].length:=by rw[p3,aF,g]
  refine⟨by rw[x,hlen];rw[E,p3,aF]at g1;exact g1,λj hj t=>?_⟩;have d:j<es[i].length:=by rw[x,hlen]at hj;exact hj
  have u:j<(es.map (bY (ag.sub θ)))[i].length:=by simpa using d
  have g3:=g2 j u t;have H:(es.map (bY (ag.sub θ)))[i][j]=(es[i][j]).sub θ:=by simp
  have v:j<(rf (nk σ id o) es[i]).length:=by rw[g];exact d
  have I:∀(l:List ag) (j:Nat) (hj:j<l.length) (k:j<(rf (nk σ id o) l).length),(rf (nk σ id o) l)[j]=(l[j]).ny (nk σ id o):=λl=>by
   induction l with
   |nil=>intro j hj;simp at hj
   |cons c cs r=>
    intro j hj k;cases j with
    |zero=>rfl
    |succ j=>exact r j (by simpa using hj) (by simpa[rf]using k)
  have J:((es.map (rf (nk σ id o))).map (bY (ag.sub θ)))[i][j]=((es[i][j]).ny (nk σ id o)).sub θ:=by simp[I es[i] j d v]
  rw[J];rw[H]at g3;exact Pk hθ h ho hxv _ _ g3
 |map agg es c=>exact oc.mono hle hk
 |qe s pos=>exact oc.mono hle hk
 |se m a b c=>exact oc.mono hle hk
 |f' e z i=>exact oc.mono hle hk
 |mS c=>exact oc.mono hle hk
 |nD=>exact oc.mono hle hk
 |pO s p=>exact oc.mono hle hk
end
def AS.au4(σ1:bg)(id:Nat)(s:AS)(t:Nat):(s.ny σ1 id).get t=(s.get t).ny σ1:=by simp only[AS.get,AS.ny,fb.sd];cases s.mv.get t<;>simp[ag.ny]
def AS.au5(σ1:bg)(id:Nat)(s:AS)(i:Nat):(s.ny σ1 id).st.bT i=if i=id then No else(s.st.bT i).map (b7.ny σ1):=by
 show((s.st.del id).mv.map (b7.ny σ1)).get i=_;rw[fb.sd];have:(s.st.del id).mv.get i=if i=id then No else s.st.bT i:=bg.tb s.st id i
 rw[this];split<;>rfl
def Wc{s:AS}{θ:Nat->ag}(b:Fit θ){id:Nat}{o:b7}(f:s.st.bT id=U o)(d:∀j,j∈pG (nk s.st id o).mv->∃es,θ j=.rs es){G:cb}{a:Act}{w:World}(g:np G (s.sub θ) a w){n:Nat}(h:n<=s.st.next) :
  np (G.sY (s.st.sub θ) w id (o.sub θ)) ((s.ny (nk s.st id o) id).sub θ) a w/\oK n G (s.sub θ).st w (G.sY (s.st.sub θ) w id (o.sub θ)) ((s.ny (nk s.st id o) id).sub θ).st w:=by
 have l:(s.sub θ).st.bT id=U (o.sub θ):=by rw[AS.uE,bg.mh,f];rfl
 exact bj0 (s':=(s.ny (nk s.st id o) id).sub θ) g l rfl rfl (λi x a7=>by
   rw[AS.uE,bg.mh,AS.au5]at a7;split at a7
   .cases a7
   rename_i m;cases r:s.st.bT i with
   |none=>rw[r]at a7;cases a7
   |some y=>
    rw[r]at a7;cases a7;refine⟨m,y.sub θ,by rw[AS.uE,bg.mh,r];rfl,λp q hk=>bg2 b g.rel f d y p q hk,?_⟩;rintro ⟨e,z,he⟩;cases y with
    |row B C es=>
     simp only[b7.sub,b7.row.injEq]at he;have:es=[]:=by simpa using he.2.2
     subst this;exact⟨B,C,by simp[b7.ny,b7.sub]⟩
    |f' B C j=>exact⟨e,z,by simp only[b7.ny];exact he⟩
    |nD B C c cc k off v=>exact⟨e,z,by simp only[b7.ny];exact he⟩
    |_=>simp only[b7.sub,qh]at he;first| (cases he;done)| (split at he<;>cases he))
  (λt u hu=>by
   rw[AS.tS]at hu⊢;rw[AS.au4];exact Pk b g.rel f d _ _ hu) h
def j4.freeze{P:Program}{n:Nat}{c:Code}{Q:Exit->AS->Prop}{s:AS}{θ:Nat->ag}(b:Fit θ){id:Nat}{o:b7}(g:s.st.bT id=U o)(d:∀j,j∈pG (nk s.st id o).mv->∃es,θ j=.rs es)
  (h:j4 P n c Q ((s.ny (nk s.st id o) id).sub θ)):j4 P n c Q (s.sub θ):=by
 intro f G a w i;obtain⟨h1,h2⟩:=Wc b g d i (n:=n) f;refine wp_mono (h f _ a w h1) ?_;rintro e q w' ⟨s2,k,l,m,p⟩;exact⟨s2,k,h2.trans l (aw _),m,p⟩
def mO.freeze{P:Program}{ops:Array Oper}{n0 n:Nat}{f:AS->Prop}{l:List Nat}{s:AS}{θ:Nat->ag}(b:Fit θ){id:Nat}{o:b7}(g:s.st.bT id=U o)(c:∀j,j∈pG (nk s.st id o).mv->∃es,θ j=.rs es)
  (h:mO P ops n0 n f l ((s.ny (nk s.st id o) id).sub θ)):mO P ops n0 n f l (s.sub θ):=by
 intro G a w i hf k d;obtain⟨h1,h2⟩:=Wc b g c i (n:=n) (by have:(s.sub θ).st.next=s.st.next:=rfl;omega);have:=h _ a w h1 (λj hj=>hf j hj) k d;refine rl ?_ _ _ _ this;rintro e u w' ⟨m,s2,p,q,r,t⟩;exact⟨m,s2,p,h2.trans q (aw _),r,t⟩
def SG{s:AS}{bb:Nat}(k:s.er bb=IN){a:Nat}{x:b7}(f:s.st.bT a=U x){θ g:Nat->ag}(q:∀i,i<bb->g i=θ i)
  (d:((pG (nk s.st a x).mv).all λj=>match θ j with| .rs _=>IN|_=>IS)=IN):∀j,j∈pG (nk s.st a x).mv->∃es,g j=.rs es:=λj hj=>by
 have h:=ak.1 d j hj;have m:j<bb:=by
  have u:=s.tA k f;have hm:∀i,(nk s.st a x).mv.get i=if i=a then U x else No:=λi=>Mo i
  have key:∀(t:fb b7),(∀i y,t.get i=U y->y.er bb=IN)->j∈pG t->j<bb:=by
   intro t
   induction t with
   |leaf=>intro _ hm;simp[pG]at hm
   |node v l r n o=>
    intro b hm;simp only[pG,aO]at hm;rcases hm with hm|hm|hm
    .have p:=b 0
     simp only[fb.get]at p;split at hm
     next e z w=>
      have:=p _ rfl;simp only[aG]at hm;subst hm;simpa[b7.er,bc]using this
     next w=>
      have:=p _ rfl;simp only[aG]at hm;subst hm;simpa[b7.er,ag.er,bc]using this
     simp at hm
    .exact n (λi y c=>b (2*i+1) y (by simp only[fb.get];rw[show 2*i%2=0 by omega,show 2*i / 2=i by omega];exact c)) hm
    exact o (λi y c=>b (2*i+1+1) y (by simp only[fb.get];rw[show(2*i+1)%2=1 by omega,show(2*i+1) / 2=i by omega];exact c)) hm
  refine key _ (λi y c=>?_) hj;rw[hm]at c;split at c
  .cases c;exact u
  cases c
 rw[q j m];split at h
 next es he=>exact⟨es,he⟩
 cases h
section
variable {P:Program} {T:dd} (ca:mc P T) {Φ:lb} (hΦ:A_ P Φ) {F:FuncId->Option Func} (cu:∀f fn,F f=U fn->P.funcs[f]?=U fn) {Q:ag->Prop}
def KT(T:dd)(Φ:lb)(Q:ag->Prop)(bb:Nat)(θ:Nat->ag)(A:Nat->List ag->Prop)(k:uK)(s':AS):Prop :=∃a c b d,bb<=b/\Fit a/\(∀i,i<bb->a i=θ i)/\(∀l,l<bb->d l=A l)/\s'=AS.sub a c/\mA T Φ Q (k c b) a d
def Gk(T:dd)(Φ:lb)(Q:ag->Prop)(bb:Nat)(θ:Nat->ag)(A:Nat->List ag->Prop)(k:yy)(e:Exit)(s':AS):Prop :=∃c a d b g,e=rP.rN c/\bb<=b/\Fit a/\(∀i,i<bb->a i=θ i)/\(∀l,l<bb->g l=A l)/\s'=AS.sub a d/\mA T Φ Q (k c d b) a g
def BP(P:Program)(T:dd)(Φ:lb)(Q:ag->Prop)(ex:tY):Prop :=∀n c s bb k θ A,Fit θ->mA T Φ Q (ex n c s bb k) θ A->j4 P n c (Gk T Φ Q bb θ A k) (AS.sub θ s)
omit ca hΦ cu in
def Vw{Φ:lb}{f:FuncId}{φ:List ag->Option ag}(h:Φ.Ki f=U φ):f<p6/\Φ (p6+f)=U φ:=by
 unfold lb.Ki at h;split at h
 next a=>
  exact⟨by simpa using a,h⟩
 cases h
omit ca hΦ cu in
def bi3{T:dd}{σ:bg}{t k g:TypeId}{ti a:mL}{x ix w:ag}(h:oW T σ t x ix IN=U (.fe [w,.bF (.bool IS)]))(i:T t=U ti)(hu:ti.fT=.map k g)(e:T g=U a):oW T σ t x ix IS=U a.qs:=by
 obtain⟨fT,size,zero,bytes,flat⟩:=ti;simp only at hu;subst hu;unfold oW at h⊢;split at h
 next m n _ _ _ _ b l d hk=>
  rw[i]at d;cases d;simp only[i,hk,e]at h⊢;have fin:∀ {es:List (List Int×ag×Nat)},ag.fe [(match nd b l es 0 with|some (_,c)=>(c,IN)|none=>(a.qs,IS)).1,.bF (.bool (match nd b l es 0 with|some (_,c)=>(c,IN)|none=>(a.qs,IS)).2)]=.fe [w,.bF (.bool IS)]->(match nd b l es 0 with|some (_,c)=>(c,IN)|none=>(a.qs,IS)).1=a.qs:=λ{es} he=>by
   cases hm:nd b l es 0 with
   |none=>rfl
   |some q=>rw[hm]at he;simp at he
  cases x with
  |lX id=>
   simp only at h⊢;cases j:σ.bT id with
   |none=>rw[j]at h;cases h
   |some o=>
    rw[j]at h;cases o with
    |map agg es c=>
     simp only at h⊢;split at h
     next hc=>
      rw[b9 hc];simp only[jj,ai]at h;simp only[aq,j2,ai];exact fin h
     cases h
    |_=>cases h
  |mx c=>
   cases c with
   |rs rows=>
    simp only at h⊢;split at h
    next hc=>
     rw[b9 hc];simp only[jj,ai]at h;simp only[aq,j2,ai];exact fin h
    cases h
   |_=>cases h
  |_=>cases h
 cases h
include ca in
theorem VW{ops:Array Oper}{n0 n i:Nat}{rest:List Nat}{o:Oper}(u:ops[i]?=U o)(a7:i∉rest){s:AS}{bb:Nat}{w:uK}{θ:Nat->ag}{A:Nat->List ag->Prop}(p:Fit θ)
  (hw:oV ops (s.sub θ) o=U IN) (k:oJ (s.sub θ).n o.dst=IN) {x:AS->Prop}
  (hk:∀s' e a z,bb<=e->Fit a->(∀j,j<bb->a j=θ j)->(∀l,l<bb->z l=A l)->mA T Φ Q (w s' e) a z->mO P ops n0 n x rest (AS.sub a s'))
  (h:mA T Φ Q (Kt T (n0+i) o o.op s bb w) θ A):mO P ops n0 n x (i::rest) (s.sub θ):=by
 unfold Kt at h;split at h
 next ro pat v σ' e C=>
  split at h
  next b=>
   rw[ab]at b;obtain⟨a,g,f1,q,hl⟩:=h;have d:=VH (T:=T) (Φ:=Φ) g b.1 p C q;have c:s.sub a=s.sub θ:=AS.iv g b.1;have l4:s.st.sub a=(s.sub θ).st:=by rw[<-c];rfl
   rw[c,l4]at d;refine mO.plain ca u a7 hw k d ?_;have:=hk _ _ _ _ (aU b.2) f1 g (λ_ _=>rfl) hl;rw[AS.q2,c]at this;exact this
  exact h.elim
 split at h
 next ro v s' l4=>
  split at h
  next b=>
   obtain⟨a,g,f1,q,hl⟩:=h;obtain⟨r,d,t⟩:=bh9 (T:=T) (Φ:=Φ) g b l4 q;have c:s.sub a=s.sub θ:=AS.iv g b;have m:s.st.sub a=(s.sub θ).st:=by rw[<-c];rfl
   rw[c,m]at d;refine mO.plain ca u a7 hw k (d _) ?_;have:=hk _ _ _ _ (gp _) f1 g (λ_ _=>rfl) hl;have D:(s'.put o.dst v).sub a=({ s.sub θ with st:=r }.put o.dst (v.sub a)):=by have B:=AS.q2 a s' s'.st o.dst v;have E:({ s'.sub a with st:=s'.st.sub a }:AS)=s'.sub a:=rfl;rw[E,t,c]at B;exact B
   rw[D]at this;exact this
  exact h.elim
 exact h.elim
include ca hΦ cu in
theorem Xb{ex:tY}(hex:BP P T Φ Q ex){ops:Array Oper}{n0 n i:Nat}{rest:List Nat}{o:Oper}(ho:ops[i]?=U o)(a7:i∉rest){s:AS}{bb:Nat}{kk:uK}{θ:Nat->ag}{A:Nat->List ag->Prop}(hθ:Fit θ)
  (hw:oV ops (s.sub θ) o=U IN) (hd:oJ s.n o.dst=IN) {Qs:AS->Prop}
  (hk:∀s' fr' d A',bb<=fr'->Fit d->(∀j,j<bb->d j=θ j)->(∀l,l<bb->A' l=A l)->mA T Φ Q (kk s' fr') d A'->mO P ops n0 n Qs rest (AS.sub d s'))
  (h:mA T Φ Q (Kd T Φ F ex (n0+i) o s bb kk) θ A):mO P ops n0 n Qs (i::rest) (s.sub θ):=by
 have N:oJ (s.sub θ).n o.dst=IN:=hd;unfold Kd at h;split at h
 next fo args ts hop=>
  split at h
  next f first cap hfo=>
   have hfo':(s.sub θ).eval fo=.fn (.func f) (first.map (ag.sub θ)) (cap.map (ag.sub θ)):=by rw[AS.sub_eval,hfo,Pr]
   have r:first.map (ag.sub θ)++args.toList.map (s.sub θ).eval++cap.map (ag.sub θ)=(first++args.toList.map s.eval++cap).map (ag.sub θ):=by simp only[cL,dB];congr 2;apply bp;intro x _;exact AS.sub_eval θ s x
   split at h
   .
    rename_i xv ro s' k;split at h
    next p=>
     obtain⟨g,a0,f0,e0,d,a1',f1,J,hl⟩:=h;have K:∀i,i<bb->d i=θ i:=λi a7=>(a1' i a7).trans (a0 i a7);unfold Wb at k;split at k
     .cases k
     rename_i φ C;split at k
     next id z j rest hargs0=>
      split at k
      next e z' j' hobj=>
       split at k
       next crest hcc hcr=>
        simp only[ab,bH]at hcc;obtain⟨rfl,rfl⟩:=hcc;cases k;obtain⟨k1,hj⟩:=AU (θ:=θ) K p hobj;have u:s.sub d=s.sub θ:=AS.iv K p;have M:s.st.sub d=s.st.sub θ:=mP AS.st u;have hs0:s.sub g=s.sub θ:=AS.iv a0 p;have hst0:s.st.sub g=s.st.sub θ:=mP AS.st hs0;simp only[fr]at e0;split at e0;rotate_left
        .cases e0
        rename_i O;have hφ':Φ (p6+f)=U φ:=(Vw C).2;simp only[fr,hφ',ay,lQ,oq]at J;split at J
        next c hc=>
         simp only[aq,false_implies,jj,ai]at J;obtain⟨es,es',lL,fa,j7,lP⟩:=hΦ.sort f φ (Vw C).1 hφ' _ _ _ _ hc;have q1':θ j=.rs es:=by rw[<-a0 j hj];exact lL
         have hl':(rowsOf (d bb)).length=(rowsOf (d j)).length:=by rw[<-J,K j hj,q1',fa];exact j7
         rw[q1']at k1;have k2:(s.st.sub θ).bT id=U (.row e z es):=by rw[<-M];exact k1
         have hread:∀G vs w,gl G (rest.map (ag.sub g)) vs->Rel G ((s.st.sub θ).del id) w->gl (G.frozen ((s.st.sub θ).del id) w (λ_=>No)) (crest.map (ag.sub g)) vs:=λG vs w h1 h2=>by
          rw[<-hst0,<-bg.Ds]at h2⊢;obtain⟨g1,g2⟩:=xF hcr;refine⟨by rw[h1.1];simp[g1],λa ha ha'=>?_⟩;have ha1:a<crest.length:=by simpa using ha
          have ha2:a<rest.length:=by omega
          have hxv:∀j',j'∈pG (s.st.del id).mv->cD j' bb=IN->∃es,g j'=.rs es:=λj' hm hb=>by
           have hm:=ak.1 O j' hm;rw[a0 j' (by simpa using hb)];split at hm
           next es he=>exact⟨es,he⟩
           cases hm
          have hold:∀id' o',(s.st.del id).bT id'=U o'->s.st.bT id'=U o':=λid' o' D=>EX D;have:=CC (θ:=g) f0 h2 (λ_=>No) (λid' e' z' j' D=>?_) (λid' j' D=>?_) 50 _ _ vs[a] (g2 a ha2 ha1) (by
           have:=h1.2 a (by simpa using ha2) ha';rw[cK]at this;exact this)
          .simpa using this
          .have hb:=s.tA p (hold _ _ D)
           simp only[b7.er]at hb;exact hxv j' (AA D) hb
          have hb:=s.tA p (hold _ _ D);simp only[b7.er,ag.er]at hb;exact hxv j' (Av D) hb
         have H:=lP (s.st.sub θ) id e (rest.map (ag.sub g)) k2 hread;have hargs2:first.map (ag.sub θ)++args.toList.map (s.sub θ).eval++cap.map (ag.sub θ)=.ms id z 0 es.length::rest.map (ag.sub g):=by
          have R:=s.ps p fo;rw[hfo]at R;simp only[ag.er,ab]at R;have lL:first.map (ag.sub g)=first.map (ag.sub θ):=by rw[<-p3,<-p3,vk a0 first R.1]
          have fa:cap.map (ag.sub g)=cap.map (ag.sub θ):=by rw[<-p3,<-p3,vk a0 cap R.2]
          have j7:(first++args.toList.map s.eval++cap).map (ag.sub θ)=(first++args.toList.map s.eval++cap).map (ag.sub g):=by simp only[cL,dB];rw[lL,fa];congr 2;apply bp;intro x _;exact(iv a0 _ (s.ps p x)).symm
          rw[r,j7,hargs0,ay];simp only[ag.sub,a0 j hj,q1',rowsOf]
         rw[<-hargs2]at H;refine mO.turns ho hop hw N hfo' (σ1:=(s.st.sub θ).set id (.row e z es')) (aw _) H ?_;have:=hk _ _ _ _ (gp _) f1 K (λ_ _=>rfl) hl;have I:(({ s.mU id j bb with st:=(s.mU id j bb).st.set id (.f' e z bb) }:AS).put o.dst (.fe [])).sub d=({ s.sub θ with st:=(s.st.sub θ).set id (.row e z es') }.put o.dst (.fe [])):=by have r1:=AS.xe (id:=id) (j:=j) (bb:=bb) hl' s;have r2:(s.mU id j bb).st.sub d=s.st.sub d:=mP AS.st r1;have e4:=AS.q2 d (s.mU id j bb) ((s.mU id j bb).st.set id (.f' e z bb)) o.dst (.fe []);rw[e4,r1,bg.n',r2,u,M];simp only[b7.sub,<-J,fa,rowsOf];rfl
         rw[I]at this;exact this
        cases J
       cases k
      cases k
     cases k
    exact h.elim
   split at h
   .
    rename_i ro v s' k;split at h
    next p=>
     obtain⟨d,K,f1,J,hl⟩:=h;unfold Wa at k;split at k
     .cases k
     rename_i φ C;split at k
     .split at k
      next fn hfn=>
       split at k
       next t hrt=>
        split at k
        next elem ni z2 z3 z4 ht=>
         split at k
         next ei hei=>
          cases k;simp only[fr,C,lQ]at J;split at J
          next c hc=>
           simp only[aq,false_implies,jj,ai]at J;obtain⟨es,lL,fa⟩:=hΦ.row f φ C _ _ hc;have H:=fa T fn t elem _ ei ca (cu f fn hfn) hrt ht rfl hei (s.st.sub θ);rw[<-r]at H;refine mO.turns ho hop hw N hfo' (c:=.ms ((s.st.sub θ).next+5) ei.size 0 es.length) (σ1:=({ s.st.sub θ with next:=(s.st.sub θ).next+7 }:bg).set ((s.st.sub θ).next+5) (.row elem ei.size es)) (aY _ 7) H ?_;have:=hk _ _ _ _ (gp _) f1 K (λ_ _=>rfl) hl;have I:(({ s with st:=({ s.st with next:=s.st.next+7 }:bg).set (s.st.next+5) (.f' elem ei.size bb) }:AS).put o.dst (.ea (s.st.next+5) ei.size bb)).sub d=({ s.sub θ with st:=({ s.st.sub θ with next:=(s.st.sub θ).next+7 }:bg).set ((s.st.sub θ).next+5) (.row elem ei.size es) }.put o.dst (.ms ((s.st.sub θ).next+5) ei.size 0 es.length)):=by have e4:=AS.q2 d s (({ s.st with next:=s.st.next+7 }:bg).set (s.st.next+5) (.f' elem ei.size bb)) o.dst (.ea (s.st.next+5) ei.size bb);have u:s.sub d=s.sub θ:=AS.iv K p;have M:s.st.sub d=s.st.sub θ:=mP AS.st u;rw[e4,u,bg.n'];have e5:({ s.st with next:=s.st.next+7 }:bg).sub d={ s.st.sub d with next:=(s.st.sub d).next+7 }:=rfl;rw[e5,M];simp only[b7.sub,ag.sub,<-J,lL,rowsOf];rfl
           rw[I]at this;exact this
          cases J
         cases k
        cases k
       cases k
      cases k
     cases k
    exact h.elim
   unfold V_ at h;split at h
   .exact h.elim
   rename_i fn hfn;split at h
   next φ C=>
    replace C:=lb.af4 C;split at h
    next pat fr' hpat=>
     split at h
     next p=>
      rw[ab]at p;have hle:=aU p.2;split at h
      next cargs E=>
       obtain⟨g,K,f1,J,B,a2,f2,I,hl⟩:=h;simp only[fr]at J I;split at J
       next O=>
        rw[(lb.xM C).2]at I;simp only at I;split at I
        next c hc=>
         split at I
         next hflat=>
          simp only[ai]at I;have u:s.sub g=s.sub θ:=AS.iv K p.1;have hs2:s.sub B=s.sub θ:=by rw[AS.iv a2 p.1,u]
          obtain⟨cargs0,S,rfl⟩:∃l,tQ (pI s.st 50) (first++args.toList.map s.eval++cap)=U l/\cargs=xY l:=by
           unfold Og at E;split at E
           .cases E
           split at E
           next l hl2=>cases E;exact⟨_,hl2,rfl⟩
           cases E
          have V:=hΦ.w_ f φ (lb.xM C).1 (lb.xM C).2 _ _ hc;have htold:Told P f ((first++args.toList.map s.eval++cap).map (ag.sub g)) (s.st.sub g) c:=by
           refine aC7 V (hflat trivial) (λG vs w hr hrel=>?_);obtain⟨g1,g2⟩:=xF S;refine⟨by rw[hr.1,AJ];simp[g1],λj hj hj'=>?_⟩;have hj1:j<cargs0.length:=by simpa[AJ]using hj
           have hj2:j<(first++args.toList.map s.eval++cap).length:=by omega
           have:=CC (θ:=g) f1 hrel (λ_=>No) (λid e z j' D=>?_) (λid j' D=>?_) 50 _ _ vs[j] (g2 j hj2 hj1) (by
            have:=hr.2 j (by simpa using hj2) hj';rw[cK]at this;exact this)
           .have:=Cx _ _ this
            simpa[AJ]using this
           .have hm:=ak.1 O j' (AA D)
            have hb:=s.tA p.1 D;simp only[b7.er,bc]at hb;rw[K j' hb];split at hm
            next es he=>exact⟨es,he⟩
            cases hm
           have hm:=ak.1 O j' (Av D);have hb:=s.tA p.1 D;simp only[b7.er,ag.er,bc]at hb;rw[K j' hb];split at hm
           next es he=>exact⟨es,he⟩
           cases hm
          have hargs1:(first++args.toList.map s.eval++cap).map (ag.sub g)=(first++args.toList.map s.eval++cap).map (ag.sub θ):=by
           rw[<-r];have e:(s.sub g).eval=(s.sub θ).eval:=by rw[u]
           have R:=s.ps p.1 fo;rw[hfo]at R;simp only[ag.er,ab]at R;have lL:first.map (ag.sub g)=first.map (ag.sub θ):=by rw[<-p3,<-p3,vk K first R.1]
           have fa:cap.map (ag.sub g)=cap.map (ag.sub θ):=by rw[<-p3,<-p3,vk K cap R.2]
           simp only[cL,dB];rw[lL,fa];congr 2;apply bp;intro x _;have:=congrFun e x;rw[AS.sub_eval]at this;exact this
          have M:s.st.sub g=s.st.sub θ:=bg.iv K p.1;rw[hargs1,M,<-r]at htold;refine mO.told ho hop hw N hfo' htold ?_;have:=hk (s.put o.dst pat) fr' B A hle f2 (λj hj=>(a2 j hj).trans (K j hj)) (λ_ _=>rfl) hl;have e3:=AS.q2 B s s.st o.dst pat;have e4:({ s with st:=s.st }:AS)=s:=rfl;rw[e4]at e3;rw[e3]at this;have e5:({ s.sub B with st:=s.st.sub B }:AS)=s.sub B:=rfl;rw[e5,hs2,<-I]at this;exact this
         cases I
        cases I
       cases J
      next cargs E=>
       obtain⟨B,a2,f2,I,hl⟩:=h;simp only[fr]at I;rw[(lb.xM C).2]at I;simp only at I;split at I
       next c hc=>
        split at I
        .simp only[ai]at I
         have hs2:s.sub B=s.sub θ:=AS.iv a2 p.1;have S:cargs=first++args.toList.map s.eval++cap:=by
          unfold Og at E;split at E
          .cases E;rfl
          split at E<;>cases E
         rw[S]at hc;have V:=hΦ.w_ f φ (lb.xM C).1 (lb.xM C).2 _ _ hc (s.st.sub θ);rw[<-r]at V;refine mO.told ho hop hw N hfo' V ?_;have:=hk (s.put o.dst pat) fr' B A hle f2 a2 (λ_ _=>rfl) hl;have e3:=AS.q2 B s s.st o.dst pat;have e4:({ s with st:=s.st }:AS)=s:=rfl;rw[e4]at e3;rw[e3]at this;have e5:({ s.sub B with st:=s.st.sub B }:AS)=s.sub B:=rfl;rw[e5,hs2,<-I]at this;exact this
        cases I
       cases I
      exact h.elim
     exact h.elim
    exact h.elim
   split at h
   next c hb=>
    split at h
    next hcc=>
     simp only[ab,bS]at hcc;obtain⟨⟨c1,c2⟩,c3⟩:=hcc;have:=hex _ _ _ _ _ _ _ hθ h;rw[MS]at this;refine mO.inline (n:=n) ca ho hop hw N hfo' (cu f fn hfn) c2 hb (by rw[r,aF];exact aU c1) ?_;rw[r];refine j4.mono this ?_;rintro e s' ⟨e',g,S1,fr1,A1,rfl,hfr,f1,K,b1,rfl,hl⟩;have u:s.sub g=s.sub θ:=AS.iv K c3;have fin:∀v,pQ T fn S1=U v->mA T Φ Q (kk ({ s with st:=S1.st }.put o.dst v) fr1) g A1->∃v,pQ T fn (S1.sub g)=U v/\mO P ops n0 n Qs rest ({ s.sub θ with st:=(S1.sub g).st }.put o.dst v):=λv hv hl=>by refine⟨v.sub g,LQ hv,?_⟩;have:=hk _ _ _ _ hfr f1 K b1 hl;rw[AS.q2,u]at this;exact this
     cases e' with
     |oz j=>exact hl.elim
     |nr=>
      simp only at hl;split at hl
      next v hv=>exact⟨.inl rfl,fin v hv hl⟩
      exact hl.elim
     |ret=>
      simp only at hl;split at hl
      next v hv=>exact⟨.inr rfl,fin v hv hl⟩
      exact hl.elim
    exact h.elim
   exact h.elim
  exact h.elim
 split at h
 next v σ' ha=>
  have ha':=WB hθ (W4 ha);have e:(λx=>(s.eval x).sub θ)=(s.sub θ).eval:=(AS.Ws θ s).symm;rw[e]at ha';refine mO.plain ca ho a7 hw N ha' ?_;have:=hk _ _ _ _ (aw _) hθ (λ_ _=>rfl) (λ_ _=>rfl) h;rw[AS.q2]at this;exact this
 split at h
 next ro vz q=>
  split at h
  next p=>
   obtain⟨d,K,f1,J,hl⟩:=h;have u:s.sub d=s.sub θ:=AS.iv K p;rcases hl with⟨_,hl⟩|⟨hb,hl⟩
   .have:=VW ca ho a7 f1 (by rw[u];exact hw) (by rw[u];exact N) (λs' fr' B A' lL fa j7 lP nA=>hk s' fr' B A' (by omega) fa (λj hj=>(j7 j (by omega)).trans (K j hj)) (λl hl=>lP l (by omega)) nA) hl
    rw[u]at this;exact this
   have ha':j5 T (s.sub θ).eval (s.sub θ).st (n0+i) o.op=U (vz,(s.sub θ).st):=by
    unfold Pb at q;split at q
    next t x ix hop=>
     split at q
     next kt et _ _ _ _ m ht hx=>
      split at q
      next ei hei=>
       split at q
       .cases q
        simp only[fr,lQ]at J;have hev:∀y,(s.sub θ).eval y=(s.eval y).sub θ:=λy=>AS.sub_eval θ s y;split at J
        next w b hlk=>
         rw[hb]at J;cases J;simp only[hop,j5,hev,hx,lQ];rw[Ms (s.sub θ).st bg.none (λid e=>by have:=hθ m;rw[e]at this;exact this),bi3 hlk ht rfl hei]
        cases J
       cases q
      cases q
     cases q
    cases q
   have hvz:vz.sub d=vz:=by
    unfold Pb at q;split at q
    .split at q
     .split at q
      .split at q
       .cases q;exact EG _
       cases q
      cases q
     cases q
    cases q
   refine mO.plain ca ho a7 hw N ha' ?_;have:=hk _ _ _ _ (gp _) f1 K (λ_ _=>rfl) hl;have e4:=AS.q2 d s s.st o.dst vz;have e5:({ s.sub d with st:=s.st.sub d }:AS)=s.sub d:=rfl;rw[e5,hvz,u]at e4;have e6:({ s with st:=s.st }:AS)=s:=rfl;rw[e6]at e4;rw[e4]at this;exact this
  exact h.elim
 exact VW ca ho a7 hθ hw N hk h
include ca hΦ cu in
theorem Pc{ex:tY}(hex:BP P T Φ Q ex){ops:Array Oper}{n0 n i:Nat}{rest:List Nat}{o:Oper}(z:ops[i]?=U o)(a7:i∉rest){G:AS->Prop}:∀(m:Nat) {s:AS} {bb:Nat} {v:uK} {θ:Nat->ag} {A:Nat->List ag->Prop} (d:Fit θ)
  (hw:oV ops (s.sub θ) o=U IN) (q:oJ s.n o.dst=IN)
  (hk:∀s' e c w,bb<=e->Fit c->(∀j,j<bb->c j=θ j)->(∀l,l<bb->w l=A l)->mA T Φ Q (v s' e) c w->mO P ops n0 n G rest (AS.sub c s'))
  (h:mA T Φ Q (F9 T Φ F ex ops (n0+i) o bb v m s) θ A),mO P ops n0 n G (i::rest) (s.sub θ)
 | 0,s,bb,v,θ,A,d,hw,q,hk,h=>Xb ca hΦ cu hex z a7 d hw q hk h
 |m+1,s,bb,v,θ,A,d,hw,q,hk,h=>by
  unfold F9 at h;split at h
  next a x b=>
   have g:s.st.bT a=U x:=by
    unfold WZ at b;split at b
    next p hp=>
     cases b;unfold RC at hp;split at hp
     .split at hp
      next r=>cases hp;exact r
      cases hp
     cases hp
    split at b
    .split at b
     .split at b
      .split at b
       .cases b
       split at b
       .split at b
        next r=>cases b;exact r
        cases b
       cases b
      .split at b
       .split at b
        next r=>cases b;exact r
        cases b
       cases b
      cases b
     cases b
    cases b
   split at h
   next t=>
    split at h
    next B=>
     obtain⟨u,C,f1,D,hl⟩:=h;simp only[fr]at D;split at D
     next k=>
      have E:s.sub u=s.sub θ:=AS.iv C t;rw[<-E];refine mO.freeze f1 g (SG t g C k) ?_;exact Pc hex z a7 m f1 (Ew u B) q (λs' e c w lL fa j7 lP nA=>hk s' e c w lL fa (λj hj=>(j7 j hj).trans (C j hj)) lP nA) hl
     cases D
    exact h.elim
   exact h.elim
  exact Xb ca hΦ cu hex z a7 d hw q hk h
include ca in
theorem bh3{G:cb}{σ:bg}{w:World}(h:Rel G σ w){t:TypeId}{id:Nat}(hid:G.pl id=No)(a:id<σ.next){c:Nat}{z:Value}{d:Nat}{e:Option Nat}(g:T t=U ⟨.string,c,z,d,e⟩){b:ByteArray}{u:Value}(i:lB G (.bF (.string b)) u) :
  lE G σ w (σ.set id (.qe b 0)) id (.it id) ((kL t u).run P w):=by
 cases i;simp only[kL,an,nQ ca g,ah,ar,run_newObj];let q:nm:={ block:=w.heap.size,size:=1,cap:=1 };have j:=h.push (.stringIter b 0) id hid a q rfl rfl (.qe b 0) rfl;exact lE.place (p:=q) hid (.it id q (cb.qd _ _ _)) j (Fr.push _ id hid q (λ_=>rfl) _ w.drawn)
theorem V7{G:cb}{σ:bg}{w:World}(h:Rel G σ w){id a:Nat}{b:ByteArray}{pos:Nat}(g:σ.bT a=U (.qe b pos)){ty:TypeId}{u:Value}(n:lB G (.it a) u) :
  (pos<b.size->lE G σ w (σ.set a (.qe b (pos+(cz b pos).2))) id (.fe [.bF (.bool IN),.bF (.int .i64 pos),.bF (.int .i32 (cz b pos).1)]) ((ie u IN ty).run P w)) /\
  (¬pos<b.size->lE G σ w σ id (.fe [.bF (.bool IS)]) ((ie u IN ty).run P w)):=by
 cases n with
 |it _ p hp=>
 have hv:p.mF=IS:=by
  rcases h.uv g hp with⟨_,_,_,j⟩|⟨j,_⟩
  .cases j
  exact j
 obtain⟨_,_,d⟩:=h.real g hp hv;have l:w.heap[p.block]?=U (.stringIter b pos):=d;have l7:(getObj p.block).run P w=.ok (.stringIter b pos) w:=by simp[getObj,Sem.run,l]
 have e:∀o,(setObj p.block o).run P w=.ok () (nK w p.block o):=λo=>Hj l (by intro _ _ _ h;cases h);constructor
 .intro c
  refine⟨G,.tuple #[.bool IN,.int .i64 pos,.int .i32 (cz b pos).1],nK w p.block (.stringIter b (pos+(cz b pos).2)),.refl G,λ_ _ h=>h,?_,?_,?_,?_⟩
  .simp only[ie,an,l7,ah,c,jj,e,ar]
   rfl
  .exact .fe _ _ rfl (λi a7 m=>by
    match i,a7 with
    | 0,_=>exact .bF _
    | 1,_=>exact .bF _
    | 2,_=>exact .bF _)
  .exact h.write g hp hv _ _ rfl rfl rfl (sn _ _ _) (λk hk=>sl _ _ _ _ hk) (xu _ _ _ _ l) rfl
  exact Fr.write g hp hv _ (sn _ _ _) (λk hk=>sl _ _ _ _ hk)
 intro c;refine⟨G,.tuple #[.bool IS],w,.refl G,λ_ _ h=>h,?_,.fe _ _ rfl (λi a7 m=>?_),h,.refl _ _ _⟩
 .simp only[ie,an,l7,ah,c,j2,ar]
 have:i=0:=by simp at a7;omega
 subst this;exact .bF _
theorem mO.step{ops:Array Oper}{n0 n i:Nat}{rest:List Nat}{o:Oper}{s:AS}{Q:AS->Prop}{v:ag}{σ':bg}(q:ops[i]?=U o)(a7:i∉rest)(hw:oV ops s o=U IN)(t:oJ s.n o.dst=IN)(z:σ'.next=s.st.next)
  (ha:∀(G:cb) (w:World) (ev:Operand->Value),Rel G s.st w->(∀x,lB G (s.eval x) (ev x))->G.pl (n0+i)=No->n0+i<s.st.next->nf G s.st w σ' (n0+i) v ((execOp ev o).run P w)) (h:mO P ops n0 n Q rest ({ s with st:=σ' }.put o.dst v)):mO P ops n0 n Q (i::rest) s:=by
 intro G a w d hf R g;have B:i<ops.size:=(Array.getElem?_eq_some_iff.1 q).1;simp only[wpOps,q,yH d hw,jj];left;obtain⟨G',u,w',h1,h2,c,C,D,l⟩:=ha G w a.eval d.rel d.eval (hf i (by simp)).2 (by omega);have m:∀j∈rest,n0+j≠n0+i:=λj hj e=>a7 (by have E:j=i:=Nat.add_left_cancel e;rw[<-E];exact hj);have key:=h G' (a.put o.dst u) w' (d.put h1 D C t) (λj hj=>⟨(hf j (by simp[hj])).1,h2 _ (m j hj) (hf j (by simp[hj])).2⟩) (by simp;omega) g;have H:oK n G s.st w G' σ' w':=⟨h1.mr,h1.lM,λk hk=>by
  cases hp:G.pl k with
  |none=>exact h2 k (by omega) hp
  |some p=>exact h1.pl k p hp,by omega,l⟩
 have b:=rl (P:=P) (ops:=ops) (Q':=λe r w'=>e=.normal/\∃s' G',oK n G s.st w G' s'.st w'/\np G' s' r w'/\Q s') (λe r w' ⟨I,s',J,K,M,N⟩ =>
  ⟨I,s',J,H.trans (by simpa using K) (aw _),M,N⟩) rest _ _ key
 unfold Oper.wp;rcases c with c|⟨c,O⟩
 .rw[c];exact b
 rw[c];subst O;exact b
include ca hΦ cu in
theorem XV{ex:tY}(hex:BP P T Φ Q ex){ops:Array Oper}{n0 n i:Nat}{rest:List Nat}{o:Oper}(M:ops[i]?=U o)(a7:i∉rest){Qs:AS->Prop}{s:AS}{bb:Nat}{kk:uK}{θ:Nat->ag}{A:Nat->List ag->Prop}(N:Fit θ)
  (hw:oV ops (s.sub θ) o=U IN) (hd:oJ s.n o.dst=IN)
  (hk:∀s' O m A',bb<=O->Fit m->(∀j,j<bb->m j=θ j)->(∀l,l<bb->A' l=A l)->mA T Φ Q (kk s' O) m A'->mO P ops n0 n Qs rest (AS.sub m s'))
  (h:mA T Φ Q (F_ T Φ F ex ops (n0+i) o bb kk s) θ A):mO P ops n0 n Qs (i::rest) (s.sub θ):=by
 have H:oJ (s.sub θ).n o.dst=IN:=hd;unfold F_ at h;split at h
 next t x q=>
  split at h
  next sz z bt fl ht=>
   split at h
   next j hj=>
    split at h
    next d=>
     obtain⟨c,r,f1,e,hl⟩:=h;have u:s.sub c=s.sub θ:=AS.iv r d;simp only[fr]at e;split at e
     next b I=>
      rw[lQ]at I;have R:j<bb:=by have:=s.ps d x;rw[hj]at this;simpa[ag.er,bc]using this
      have l4:s.st.sub c=(s.sub θ).st:=by rw[<-u];rfl
      refine mO.step (σ':=(s.sub θ).st.set (n0+i) (.qe b 0)) (v:=.it (n0+i)) M a7 hw H rfl (λG w ev S g J K=>?_) ?_
      .have D:=g x
       rw[AS.sub_eval,hj,lQ,I]at D;simp only[execOp,q];exact nf.of (bh3 ca S J K ht D)
      have:=hk _ _ _ _ (aw _) f1 r (λ_ _=>rfl) hl;rw[AS.q2,u,bg.n',l4]at this;have e2:(b7.pO (.ek j) (.bF (.int .i64 0))).sub c=.qe b 0:=by simp only[b7.sub,lQ,oq,r j R,I,strOf,mf];rfl
      rw[e2]at this;exact this
     cases e
    exact h.elim
   exact h.elim
  exact Pc ca hΦ cu hex M a7 3 N hw hd hk h
 next it q=>
  split at h
  next a ha=>
   split at h
   next st p E=>
    split at h
    next d=>
     obtain⟨c,r,f1,e,hl⟩:=h;have u:s.sub c=s.sub θ:=AS.iv r d;have B:=s.tA d E;simp only[b7.er,ab]at B;simp only[fr]at e;split at e
     next b I=>
      split at e
      next n hn=>
       simp only[ai,lQ]at e;have k:(s.sub θ).st.bT a=U (.qe b n.toNat):=by rw[AS.uE,bg.mh,E];simp only[aj,b7.sub,I,hn,strOf,mf]
       rcases hl with⟨t1,hl⟩|⟨t1,hl⟩
       .
        rw[<-e]at t1;simp only[ag.bF.injEq,iD,gb]at t1;obtain⟨C,a2,f2,e2,hl⟩:=hl;have hb1:st.sub c=.bF (.string b):=by rw[iv r st B.1,I]
        have hn1:p.sub c=.bF (.int .i64 n):=by rw[iv r p B.2,hn]
        simp only[fr,hb1,hn1,mw t1,ai,Fj,ay,bO,lQ,ag.fe.injEq,cG,and_true]at e2;obtain⟨lL,fa,j7⟩:=e2;have a12:∀j,j<bb->C j=θ j:=λj hj=>(a2 j (by omega)).trans (r j hj);have V:s.sub C=s.sub θ:=AS.iv a12 d;have l4:s.st.sub C=(s.sub θ).st:=by rw[<-V];rfl
        refine mO.step (σ':=(s.sub θ).st.set a (.qe b (n.toNat+(cz b n.toNat).2))) (v:=.fe [.bF (.bool IN),.bF (.int .i64 n.toNat),.bF (.int .i32 (cz b n.toNat).1)]) M a7 hw H rfl (λG w ev S g J K=>?_) ?_
        .have D:=g it
         rw[AS.sub_eval,ha,Pu]at D;simp only[execOp,q];exact nf.of ((V7 S k D).1 t1)
        have:=hk _ _ _ _ (show bb<=bb+4 by omega) f2 a12 (λ_ _=>rfl) hl;rw[AS.q2,V,bg.n',l4]at this;have e3:(b7.pO st (.ek (bb+3))).sub C=.qe b (n.toNat+(cz b n.toNat).2):=by simp only[b7.sub,lQ,iv a12 st B.1,I,strOf,<-j7,mf];rfl
        rw[e3]at this;simp only[Fj,ay,bO,oq,lQ,<-lL,<-fa]at this;exact this
       
       rw[<-e]at t1;simp only[ag.bF.injEq,iD,nu]at t1;refine mO.step (σ':=(s.sub θ).st) (v:=.fe [.bF (.bool IS)]) M a7 hw H rfl (λG w ev S g J K=>?_) ?_
       .have D:=g it
        rw[AS.sub_eval,ha,Pu]at D;simp only[execOp,q];exact nf.of ((V7 S k D).2 t1)
       have:=hk _ _ _ _ (show bb<=bb+1 by omega) f1 r (λ_ _=>rfl) hl;have e3:=AS.q2 c s s.st o.dst (.fe [.bF (.bool IS)]);have e4:({ s with st:=s.st }:AS)=s:=rfl;rw[e4]at e3;rw[e3]at this;have e5:({ s.sub c with st:=s.st.sub c }:AS)=s.sub c:=rfl;rw[e5,u]at this;rw[Fj,ay,bO,oq]at this;exact this
      cases e
     cases e
    exact h.elim
   exact h.elim
  exact h.elim
 exact Pc ca hΦ cu hex M a7 3 N hw hd hk h
include ca hΦ cu in
theorem N7{ex:tY}(hex:BP P T Φ Q ex){ops:Array Oper}{n0 n:Nat}:∀(l:List Oper) (i:Nat) (s:AS) (bb:Nat) (k:uK) (θ:Nat->ag) (A:Nat->List ag->Prop),(∀j:Nat,l[j]?=ops[i+j]?)->i+l.length=ops.size->Fit θ ->
  mA T Φ Q (v_ T Φ F ex ops n0 l i s bb k) θ A->mO P ops n0 n (KT T Φ Q bb θ A k) (dU i l.length) (s.sub θ)
 | [],i,s,bb,k,θ,A,_,_,c,h=>mO.nil ⟨θ,s,bb,A,aw _,c,λ_ _=>rfl,λ_ _=>rfl,rfl,h⟩
 |o::rest,i,s,bb,k,θ,A,hl,hlen,c,h=>by
  have D:ops[i]?=U o:=by have:=hl 0;simpa using this.symm
  have I:∀j:Nat,rest[j]?=ops[i+1+j]?:=λj=>by have:=hl (j+1);simpa[eH,fF 1 j]using this
  have v:i+1+rest.length=ops.size:=by simp at hlen;omega
  have t:i∉dU (i+1) rest.length:=by simp[List.mem_range'_1];omega
  simp only[aA,List.range'_succ];have E:=λs' g m J (K:bb<=g) (M:Fit m) (ha:∀j,j<bb->m j=θ j) (hA:∀l,l<bb->J l=A l) (r:mA T Φ Q (v_ T Φ F ex ops n0 rest (i+1) s' g k) m J)=>
   (show mO P ops n0 n (KT T Φ Q bb θ A k) (dU (i+1) rest.length) (AS.sub m s')from by
    have h1:=N7 (n:=n) hex rest (i+1) s' g k m J I v M r;intro G a w g1 g2 g3 g4;refine rl ?_ _ _ _ (h1 G a w g1 g2 g3 g4);rintro e a' w' ⟨e1,s2,G2,b1,b2,N,S2,O,A2,lL,fa,j7,lP,nA,lU⟩;exact⟨e1,s2,G2,b1,b2,N,S2,O,A2,bI K lL,fa,λj hj=>(j7 j (by omega)).trans (ha j hj),λl hl=>(lP l (by omega)).trans (hA l hl),nA,lU⟩)
  unfold v_ at h;split at h
  .exact h.elim
  rename_i H;split at h
  .rename_i hw
   exact XV ca hΦ cu hex D t c (Ew θ hw) H E h
  .rename_i hw
   refine mO.skip D (Ew θ hw) H ?_;have:=E _ _ _ _ (aw _) c (λ_ _=>rfl) (λ_ _=>rfl) h;have B:=AS.q2 θ s s.st o.dst (.bF undef);have R:({ s with st:=s.st }:AS)=s:=rfl;have S:({ s.sub θ with st:=s.st.sub θ }:AS)=s.sub θ:=rfl;rw[R,S,oq]at B;rw[B]at this;exact this
  rename_i hw;split at h
  .rename_i j want q
   have x:∀b,θ j=.bF (.bool b)->oV ops (s.sub θ) o=U (b==want):=λb u=>by
    unfold HX at q;unfold oV;split at q
    .cases q
    rename_i j' w' V;rw[V];simp only;split at q
    .rename_i d hdd
     rw[hdd];simp only;split at q
     .rename_i C
      rw[bc]at C;rw[AS.OC,b9 C,AS.tS];split at q
      .rename_i i' hi'
       cases q;rw[hi',lQ,u]
      cases q
     cases q
    cases q
   have both:∀b:Bool,θ j=.bF (.bool b)->mA T Φ Q (match b==want with
     |true=>F_ T Φ F ex ops (n0+i) o bb (λs' g=>v_ T Φ F ex ops n0 rest (i+1) s' g k) (s.me (p9 j b))
     |false=>v_ T Φ F ex ops n0 rest (i+1) ((s.me (p9 j b)).put o.dst (.bF undef)) bb k) θ A->mO P ops n0 n (KT T Φ Q bb θ A k) (i::dU (i+1) rest.length) (s.sub θ):=λb u r=>by
    have hin:=EZ (θ:=θ) (j:=j) (b:=b) u s;have p:=x b u;rw[<-hin]at p⊢;split at r
    .rename_i z
     rw[z]at p;exact XV ca hΦ cu hex D t c p H E r
    rename_i z;rw[z]at p;refine mO.skip D p H ?_;have:=E _ _ _ _ (aw _) c (λ_ _=>rfl) (λ_ _=>rfl) r;have B:=AS.q2 θ (s.me (p9 j b)) (s.me (p9 j b)).st o.dst (.bF undef);have R:({ s.me (p9 j b)with st:=(s.me (p9 j b)).st }:AS)=s.me (p9 j b):=rfl;have S:({ (s.me (p9 j b)).sub θ with st:=(s.me (p9 j b)).st.sub θ }:AS)=(s.me (p9 j b)).sub θ:=rfl;rw[R,S,oq]at B;rw[B]at this;exact this
   rcases h with⟨u,r⟩|⟨u,r⟩
   .exact both IN u r
   exact both IS u r
  exact h.elim
theorem j4.Q0{n:Nat}{c:Code}{Q':Exit->AS->Prop}{s:AS}(h:j4 P n c (λe s1=>(∃ι s2,Ren ι n s2 s1/\Q' e s2)\/Q' e s1) s):j4 P n c Q' s:=by
 intro i G a w j;refine wp_mono (h i G a w j) ?_;rintro e m w' ⟨s1,k,d,g,⟨ι,s2,l,b⟩|b⟩
 .obtain⟨h1,h2⟩:=l.rel g
  exact⟨s2,_,d.trans h2 (aw _),h1,b⟩
 exact⟨s1,k,d,g,b⟩
theorem Sv(θ:Nat->ag)(σ:bg):∀(is:List Nat) (t:bg),(y3 σ is t).sub θ=y3 (σ.sub θ) is (t.sub θ)
 | [],t=>rfl
 |i::is,t=>by
  simp only[y3];rw[Sv θ σ is,bg.mh];cases σ.bT i with
  |none=>rfl
  |some o=>simp only[aj];rw[bg.n']
theorem ML(θ:Nat->ag)(σ:bg)(ids:List Nat):(small σ ids).sub θ=small (σ.sub θ) ids:=Sv θ σ ids _
theorem EK(θ:Nat->ag)(σ1:bg):∀(is:List Nat) (σ:bg),(rv σ1 is σ).sub θ=rv (σ1.sub θ) is (σ.sub θ)
 | [],σ=>rfl
 |i::is,σ=>by
  simp only[rv];rw[EK θ σ1 is,bg.mh];cases σ1.bT i with
  |none=>simp only[ck];rw[bg.Ds]
  |some o=>simp only[aj];rw[bg.n']
theorem bh2(θ:Nat->ag)(σ:bg)(ids:List Nat):saved (σ.sub θ) ids=(saved σ ids).map λp=>(p.1,p.2.sub θ):=by unfold saved;rw[List.map_filterMap];congr 1;funext id;rw[bg.mh];cases σ.bT id<;>rfl
theorem SN(θ:Nat->ag):∀(l:List (Nat×b7)) (σ:bg),(rB l σ).sub θ=rB (l.map λp=>(p.1,p.2.sub θ)) (σ.sub θ)
 | [],σ=>rfl
 |p::l,σ=>by simp only[rB,ay];rw[SN θ l,bg.Ds]
theorem SO(θ:Nat->ag):∀(l:List (Nat×b7)) (σ:bg),(tB l σ).sub θ=tB (l.map λp=>(p.1,p.2.sub θ)) (σ.sub θ)
 | [],σ=>rfl
 |p::l,σ=>by simp only[tB,ay];rw[SO θ l,bg.n']
theorem aN7(θ:Nat->ag)(σ:bg)(ids:List Nat):(E' σ ids).sub θ=E' (σ.sub θ) ids:=by unfold E';rw[bh2];have a:=SO θ (saved σ ids) { rB (saved σ ids) σ with low:=σ.next };have b:=SN θ (saved σ ids) σ;have c:bg.sub θ { rB (saved σ ids) σ with low:=σ.next }={ bg.sub θ (rB (saved σ ids) σ)with low:=σ.next }:=rfl;have d:∀(x:bg) (l:Nat),bg.sub θ { x with low:=l }={ bg.sub θ x with low:=l }:=λ_ _=>rfl;rw[d,a,c,b];rfl
theorem VS{θ:Nat->ag}(a:Fit θ)(v:ag):(v.sub θ).s5=v.s5:=by
 cases v with
 |ek i=>simpa[ag.s5]using(a i).s5
 |_=>simp[ag.s5]
theorem Nb{θ:Nat->ag}(a:Fit θ)(s:AS)(op:Op):nx (s.sub θ).eval op=nx s.eval op:=by
 cases op with
 |call c=>obtain⟨callee,args,ts⟩:=c;cases callee<;>simp[nx,AS.sub_eval,VS a]
 |_=>simp[nx,AS.sub_eval,VS a]
def uf(Φ:lb)(f:FuncId)(args:List ag)(σ:bg):Option (ag×bg):=match Φ.fn f with
 |some φ=>match φ args with
  |some c=>U (c,σ)
  |none=>No
 |none=>No
theorem Wn{ops:Array Oper}{n0 N mask i:Nat}{pE:Bool}{o:Oper}(hbar:pE=IN->zd o.op=IN){s:AS}{bb:Nat}{kk:K'}{θ:Nat->ag}{A:Nat->List ag->Prop}(E:Fit θ)(hw:oV ops (s.sub θ) o=U IN)(hd:oJ s.n o.dst=IN)
  (h:mA T Φ Q (Gq T Φ F n0 N mask i pE o s bb kk) θ A):∃b S' m f,bb<=m/\Fit b/\(∀j,j<bb->b j=θ j)/\u5 T (uf Φ) ops n0 N mask i pE (s.sub θ) o=U (AS.sub b S',f)/\mA T Φ Q (kk S' m f) b A:=by
 have H:oJ (s.sub θ).n o.dst=IN:=hd;unfold Gq at h;split at h
 next fo args ts q=>
  split at h
  next f first cap hfo=>
   have G:(s.sub θ).eval fo=.fn (.func f) (first.map (ag.sub θ)) (cap.map (ag.sub θ)):=by rw[AS.sub_eval,hfo,Pr]
   have B:first.map (ag.sub θ)++args.toList.map (s.sub θ).eval++cap.map (ag.sub θ)=(first++args.toList.map s.eval++cap).map (ag.sub θ):=by simp only[cL,dB];congr 2;apply bp;intro x _;exact AS.sub_eval θ s x
   unfold PD at h;split at h
   next fn φ hfn J=>
    split at h
    next pat m hpat=>
     split at h
     next g=>
      simp only[ab]at g;obtain⟨⟨c1,c2⟩,c3⟩:=g;obtain⟨b,u,f1,w,hl⟩:=h;simp only[fr,(lb.xM J).2]at w;split at w
      next c hc=>
       split at w
       .simp only[ai]at w
        have r:s.sub b=s.sub θ:=AS.iv u c1;have K:s.st.sub b=s.st.sub θ:=bg.iv u c1;have M:∀σ,uf Φ f ((first++args.toList.map s.eval++cap).map (ag.sub θ)) σ=U (c,σ):=λσ=>by simp only[uf,J,hc]
        cases pE with
        |true=>simp only at hl;refine⟨b,s.put o.dst pat,m,_,aU c2,f1,u,?_,hl⟩;unfold u5;rw[hw,H];simp only[q,G,jj];rw[B,M];simp only[aw,jj];have e3:=AS.q2 b s s.st o.dst pat;have O:({ s with st:=s.st }:AS)=s:=rfl;have e5:({ s.sub b with st:=s.st.sub b }:AS)=s.sub b:=rfl;rw[O,e5,r,<-w]at e3;rw[e3]
        |false=>simp only at hl;refine⟨b,_,m,_,aU c2,f1,u,?_,hl⟩;unfold u5;rw[hw,H];simp only[q,G,aq,j2];rw[B,M];show(if _ then U ({ s.sub θ with st:=E' (s.sub θ).st (qE n0 N mask) }.put o.dst c,(⟨[],[],IN,(s.sub θ).st.next,IS⟩:qQ))else No)=_;rw[b9 ⟨aw _,by rw[show ∀(x:bg) (l:Nat),({ x with low:=l }:bg).next=x.next from λ_ _=>rfl,LW];exact aw _⟩];rw[AS.q2,<-w,aN7,K,r];rfl
       cases w
      cases w
     exact h.elim
    exact h.elim
   exact h.elim
  exact h.elim
 rename_i hncall;have p:∀(d:Nat->ag) (v:ag) (σ1:bg),j5 T (s.sub d).eval (small (s.st.sub d) (nx (s.sub d).eval o.op)) (n0+i) o.op=U (v,σ1)->s.sub d=s.sub θ ->
   u5 T (uf Φ) ops n0 N mask i pE (s.sub θ) o=U ({ s.sub d with st:=(match σ1.bT (n0+i)with
    |some x=>(if oS o.op then rv σ1 (nx (s.sub d).eval o.op) (s.st.sub d)else(s.st.sub d)).set (n0+i) x
    |none=>(if oS o.op then rv σ1 (nx (s.sub d).eval o.op) (s.st.sub d)else(s.st.sub d))) }.put o.dst v,⟨nx (s.sub d).eval o.op,if oS o.op then nx (s.sub d).eval o.op else [],IS,0,IS⟩):=λd v σ1 ha hs=>by
  have l4:s.st.sub d=(s.sub θ).st:=by rw[<-hs];rfl
  rw[l4,hs]at ha⊢;unfold u5;rw[hw,H];simp only;rw[ha];rfl
 split at h
 next v σ1 ha=>
  have R:=WB E (W4 ha);have e:(λx=>(s.eval x).sub θ)=(s.sub θ).eval:=(AS.Ws θ s).symm;rw[e,ML]at R;have k:=Nb E s o.op;refine⟨θ,_,bb,_,aw _,E,λ_ _=>rfl,?_,h⟩;have:=p θ (v.sub θ) (σ1.sub θ) (by rw[k];exact R) rfl;rw[this,k,AS.q2];congr 3;rw[bg.mh];cases σ1.bT (n0+i)with
  |none=>
   simp only[ck];split
   .rw[EK]
   rfl
  |some x=>
   simp only[aj];rw[bg.n'];split
   .rw[EK]
   rfl
 split at h
 next ro pat v σ1 m hr=>
  split at h
  next g=>
   simp only[ab]at g;obtain⟨⟨hb1,hb2⟩,hb3⟩:=g;obtain⟨b,u,f1,w,hl⟩:=h;have r:s.sub b=s.sub θ:=AS.iv u hb1;have S:=VH (T:=T) (Φ:=Φ) (s:={ s with st:=small s.st (nx s.eval o.op) }) u hb2 E hr w;have e0:(({ s with st:=small s.st (nx s.eval o.op) }:AS).sub b).eval=(s.sub b).eval:=by funext x;rw[AS.sub_eval,AS.sub_eval];cases x<;>rfl
   have k:=Nb f1 s o.op;rw[e0,ML]at S;have:=p b (v.sub b) (σ1.sub b) (by rw[k];exact S) r;refine⟨b,_,m,_,aU hb3,f1,u,?_,hl⟩;rw[this,k,AS.q2];congr 3;rw[bg.mh];cases σ1.bT (n0+i)with
   |none=>
    simp only[ck];split
    .rw[EK]
    rfl
   |some x=>
    simp only[aj];rw[bg.n'];split
    .rw[EK]
    rfl
  exact h.elim
 split at h
 next ro s' l4=>
  split at h
  next g=>
   rw[ab]at g;obtain⟨b,u,f1,w,hl⟩:=h;have r:s.sub b=s.sub θ:=AS.iv u g.1;refine⟨b,_,bb+1,_,gp _,f1,u,?_,hl⟩;unfold Xm at l4;split at l4
   next t a x q=>
    split at l4
    next id i1 off hp=>
     split at l4
     next e z j C V=>
      cases l4;have D:nx s.eval o.op=[id]:=by
       rw[q];simp only[nx];unfold xZ at hp;split at hp
       next e9=>cases hp;rw[e9];rfl
       next e9=>cases hp;rw[e9];rfl
       cases hp
      have C:id≠n0+i:=λe=>by rw[e]at C;simp at C
      have hsm:(small s.st [id]).bT id=U (.f' e z j):=by rw[Ce];simp[V]
      have hsm2:∀σ:bg,(small σ [id]).bT (n0+i)=No:=λσ=>by rw[Ce];simp only[aG];rw[b8 (λe=>C e.symm)]
      have I:∀y,({ s with st:=small s.st [id] }:AS).eval y=s.eval y:=λy=>by cases y<;>rfl
      rw[D]at g;have e1':fr T Φ θ (.vd t e z (.ek j) i1 off (({ s with st:=small s.st [id] }:AS).eval x))=U (b bb):=by rw[I];simpa using w
      obtain⟨g1,g2⟩:=bp6 (T:=T) (Φ:=Φ) (s:={ s with st:=small s.st [id] }) u g.2 (a:=a) (by rw[I];exact hp) hsm e1';have hev2:(({ s with st:=small s.st [id] }:AS).sub b).eval=(s.sub b).eval:=by funext y;rw[AS.sub_eval,AS.sub_eval,I]
      have k:nx (s.sub b).eval o.op=[id]:=by rw[Nb f1 s o.op,D]
      have S:=g1 (n0+i);rw[hev2,ML,<-q]at S;have hE:oS o.op=IN:=by rw[q];rfl
      have:=p b (.bF undef) _ (by rw[k];exact S) r;rw[this,k,D,hE];have n1:((small (s.st.sub b) [id]).set id (.row e z (rowsOf (b bb)))).bT (n0+i)=No:=by rw[bg.l1,b8 (λe=>C e.symm),hsm2]
      have n2:((small (s.st.sub b) [id]).set id (.row e z (rowsOf (b bb)))).bT id=U (.row e z (rowsOf (b bb))):=by rw[bg.l1,b9 rfl]
      simp only[n1,jj,rv,n2];have O:=AS.q2 b ({ s.mU id j bb with st:=(s.mU id j bb).st.set id (.f' e z bb) }:AS) ((s.mU id j bb).st.set id (.f' e z bb)) o.dst (.bF undef);have e5:=AS.xe (id:=id) (j:=j) (bb:=bb) g2 s;have e6:(s.mU id j bb).st.sub b=s.st.sub b:=mP AS.st e5;have e7:({ s.mU id j bb with st:=(s.mU id j bb).st.set id (.f' e z bb) }:AS).sub b={ (s.mU id j bb).sub b with st:=((s.mU id j bb).st.set id (.f' e z bb)).sub b }:=rfl;rw[e7,bg.n',e6,e5]at O;simp only[b7.sub,oq]at O;rw[<-O]
     cases l4
    cases l4
   cases l4
  exact h.elim
 exact h.elim
theorem Nh{ops:Array Oper}{n0 N:Nat}{a:List Nat}:∀(l:List Oper) (i:Nat) (s:AS) (bb:Nat) (acc:List qQ) (k:AS->Nat->List qQ->mV) (θ:Nat->ag) (A:Nat->List ag->Prop),Fit θ ->
  mA T Φ Q (vP T Φ F ops n0 N a l i s bb acc k) θ A->∃c u e fs,bb<=e/\Fit c/\(∀j,j<bb->c j=θ j)/\yh T (uf Φ) ops n0 N a l i (s.sub θ)=U (AS.sub c u,fs)/\mA T Φ Q (k u e (acc++fs)) c A
 | [],i,s,bb,acc,k,θ,A,q,h=>⟨θ,s,bb,[],aw _,q,λ_ _=>rfl,rfl,by rw[List.append_nil];exact h⟩
 |o::rest,i,s,bb,acc,k,θ,A,q,h=>by
  have fin:∀(s1:AS) (g:Nat->ag) (m:Nat) (f:qQ),bb<=m->Fit g->(∀j,j<bb->g j=θ j)->u5 T (uf Φ) ops n0 N (a.getD i 0) i (zd o.op&&Dg ops a i) (s.sub θ) o=U (AS.sub g s1,f) ->
    mA T Φ Q (vP T Φ F ops n0 N a rest (i+1) s1 m (acc++[f]) k) g A->∃c u e fs,bb<=e/\Fit c/\(∀j,j<bb->c j=θ j)/\yh T (uf Φ) ops n0 N a (o::rest) i (s.sub θ)=U (AS.sub c u,fs)/\mA T Φ Q (k u e (acc++fs)) c A:=by
   intro s1 g m f D E G l4 hl;obtain⟨H,V,I,fs,g1,g2,g3,g4,g5⟩:=Nh rest (i+1) s1 m (acc++[f]) k g A E hl;refine⟨H,V,I,f::fs,bI D g1,g2,λj hj=>(g3 j (by omega)).trans (G j hj),?_,by simpa using g5⟩;simp only[yh,l4,g4]
  have skip:∀s0:AS,s0.sub θ=s.sub θ->s0.n=s.n->oV ops (s.sub θ) o=U IS->oJ s.n o.dst=IN->u5 T (uf Φ) ops n0 N (a.getD i 0) i (zd o.op&&Dg ops a i) (s.sub θ) o=U (AS.sub θ (s0.put o.dst (.bF undef)),⟨[],[],IS,0,IS⟩):=λs0 h0 _ hw B=>by have J:oJ (s.sub θ).n o.dst=IN:=B;unfold u5;rw[hw,J];have S:=AS.q2 θ s0 s0.st o.dst (.bF undef);have e4:({ s0 with st:=s0.st }:AS)=s0:=rfl;have e5:({ s0.sub θ with st:=s0.st.sub θ }:AS)=s0.sub θ:=rfl;rw[e4,e5,oq,h0]at S;rw[S]
  unfold vP at h;split at h
  .exact h.elim
  rename_i B;split at h
  next hw=>
   obtain⟨g,K,m,f,g1,g2,g3,g4,g5⟩:=Wn (T:=T) (Φ:=Φ) (F:=F) (ops:=ops) (λp=>by rw[ab]at p;exact p.1) q (Ew θ hw) B h;exact fin K g m f g1 g2 g3 g4 g5
  next hw=>
   exact fin _ θ bb _ (aw _) q (λ_ _=>rfl) (skip s rfl rfl (Ew θ hw) B) h
  rename_i hw;split at h
  next j want t=>
   have v:∀b,θ j=.bF (.bool b)->oV ops (s.sub θ) o=U (b==want):=λb p=>by
    unfold HX at t;unfold oV;split at t
    .cases t
    rename_i j' w' M;rw[M];simp only;split at t
    next d O=>
     rw[O];simp only;split at t
     next C=>
      rw[bc]at C;rw[AS.OC,b9 C,AS.tS];split at t
      next i' R=>
       cases t;rw[R,lQ,p]
      cases t
     cases t
    cases t
   have both:∀b:Bool,θ j=.bF (.bool b)->mA T Φ Q (match b==want with
     |true=>Gq T Φ F n0 N (a.getD i 0) i (zd o.op&&Dg ops a i) o (s.me (p9 j b)) bb λs' e f=>vP T Φ F ops n0 N a rest (i+1) s' e (acc++[f]) k
     |false=>vP T Φ F ops n0 N a rest (i+1) ((s.me (p9 j b)).put o.dst (.bF undef)) bb (acc++[⟨[],[],IS,0,IS⟩]) k) θ A->∃c u e fs,bb<=e/\Fit c/\(∀j,j<bb->c j=θ j)/\yh T (uf Φ) ops n0 N a (o::rest) i (s.sub θ)=U (AS.sub c u,fs)/\mA T Φ Q (k u e (acc++fs)) c A:=λb p w=>by
    have x:=EZ (θ:=θ) (j:=j) (b:=b) p s;have r:=v b p;split at w
    next z=>
     rw[z]at r;rw[<-x]at r;obtain⟨g,K,m,f,g1,g2,g3,g4,g5⟩:=Wn (T:=T) (Φ:=Φ) (F:=F) (ops:=ops) (λp=>by rw[ab]at p;exact p.1) q r B w;rw[x]at g4;exact fin K g m f g1 g2 g3 g4 g5
    rename_i z;rw[z]at r;exact fin _ θ bb _ (aw _) q (λ_ _=>rfl) (skip _ x rfl r B) w
   rcases h with⟨p,w⟩|⟨p,w⟩
   .exact both IN p w
   exact both IS p w
  exact h.elim
include hΦ in
theorem TN:∀f args σ v σ',uf Φ f args σ=U (v,σ')->po P f args σ (λd a=>d=v/\a=σ')/\pH σ σ':=by
 intro f args σ v σ' h;unfold uf at h;split at h
 next φ b=>
  split at h
  next c hc=>
   cases h;exact⟨hΦ.w_ f φ (lb.xM b).1 (lb.xM b).2 args v hc σ,.refl _⟩
  cases h
 cases h
variable (hm:P.follows .mixedOrders=IN)
def Fe(P:Program)(n:Nat)(c:Code)(Q:Exit->AS->Prop):Nat->AS->Prop
 | 0,_=>False
 |j+1,s=>j4 P n c (Bq (Fe P n c Q j) Q) s
theorem Fe.wp{n:Nat}{c:Code}{Q':Exit->AS->Prop}{j:Nat}{s:AS}(h:Fe P n c Q' j s):j4 P n (.loop c) Q' s:=by
 refine j4.loop (Fe P n c Q') ?_ h;intro k s1 hk;cases k with
 |zero=>exact hk.elim
 |succ k=>
  refine j4.mono hk ?_;intro e s2 h2;cases e with
  |normal=>exact⟨k,Nat.lt_succ_self _,h2⟩
  |_=>exact h2
theorem Tk{ex:tY}(hex:BP P T Φ Q ex){n:Nat}{b:Code}{k:yy}{a:Nat}{d:Nat->ag}{o:Nat->List ag->Prop}:∀(j:Nat) (s:AS) (bb:Nat) (θ:Nat->ag) (A:Nat->List ag->Prop),a<=bb->Fit θ->(∀i,i<a->θ i=d i)->(∀l,l<a->A l=o l) ->
  mA T Φ Q (Oi ex n b k j s bb) θ A->Fe P n b (Gk T Φ Q a d o k) j (s.sub θ)
 | 0,s,bb,θ,A,_,_,_,_,h=>h.elim
 |j+1,s,bb,θ,A,t,p,h1,h2,h=>by
  refine j4.mono (hex n b s bb _ θ A p h) ?_;rintro e s' ⟨r,c,q,g,m,rfl,lL,fa,j7,lP,rfl,lU⟩;have g1:∀i,i<a->c i=d i:=λi a7=>(j7 i (by omega)).trans (h1 i a7);have g2:∀l,l<a->m l=o l:=λl hl=>(lP l (by omega)).trans (h2 l hl);cases r with
  |nr=>exact Tk hex j q g c m (by omega) fa g1 g2 lU
  |oz i=>exact⟨.oz i,c,q,g,m,rfl,by omega,fa,g1,g2,rfl,lU⟩
  |ret=>exact⟨.ret,c,q,g,m,rfl,by omega,fa,g1,g2,rfl,lU⟩
theorem WL{n:Nat}{c:Code}{h:Hint}{bb:Nat}{k:AS->mV}{H:yy}{A:Nat->List ag->Prop}(hk:∀s θ,Fit θ->mA T Φ Q (k s) θ A->j4 P n c (Gk T Φ Q bb θ A H) (AS.sub θ s)):∀(m:Nat) (s:AS) (θ:Nat->ag),Fit θ ->
  mA T Φ Q (Ke h bb k m s) θ A->j4 P n c (Gk T Φ Q bb θ A H) (AS.sub θ s)
 | 0,s,θ,g,hl=>hk s θ g hl
 |m+1,s,θ,g,hl=>by
  unfold Ke at hl;split at hl
  next a x b=>
   have d:s.st.bT a=U x:=by
    have:∀(l:List ag) (t:Nat),CF s l t=U (a,x)->s.st.bT a=U x:=by
     intro l
     induction l with
     |nil=>intro t h;simp[CF]at h
     |cons v l r=>
      intro t h;unfold CF at h;split at h
      .split at h
       next z=>cases h;exact z
       exact r _ h
      exact r _ h
    have j:∀(l:List (Nat×b7)),CG s l=U (a,x)->s.st.bT a=U x:=by
     intro l
     induction l with
     |nil=>intro h;simp[CG]at h
     |cons v l r=>
      obtain⟨i,o⟩:=v;intro h;unfold CG at h;split at h
      .split at h
       next z=>cases h;exact z
       exact r h
      exact r h
    unfold Yb at b;split at b
    next p hp=>cases b;exact this _ _ hp
    exact j _ b
   split at hl
   next u=>
    obtain⟨w,B,f1,C,hl⟩:=hl;simp only[fr]at C;split at C
    next q=>
     have D:s.sub w=s.sub θ:=AS.iv B u;rw[<-D];refine j4.freeze f1 d (SG u d B q) (j4.mono (WL hk m _ w f1 hl) λe s' hp=>?_);obtain⟨I,E,J,G,K,lL,fa,j7,lP,nA,lU,tN⟩:=hp;exact⟨I,E,J,G,K,lL,fa,j7,λi a7=>(lP i a7).trans (B i a7),nA,lU,tN⟩
    cases C
   exact hl.elim
  exact hk s θ g hl
omit ca hΦ cu in
def k6(θ:Nat->ag)(bb:Nat)(hi:List ag)(i:Nat):ag:=if i<bb then θ i else(hi[i-bb]?).getD (.bF (.bool IS))
include ca hΦ cu hm in
theorem NZ{H:Nat->Option Hint}:∀m,BP P T Φ Q (exec T Φ F H m)
 | 0=>λn c s bb k θ A _ h=>by simp[exec,mA]at h
 |m+1=>by
  intro n c s bb k θ A o h;have S:=NZ (H:=H) m;have self:∀e,mA T Φ Q (k e s bb) θ A->Gk T Φ Q bb θ A k (rP.rN e) (s.sub θ):=λe hh=>⟨e,θ,s,bb,A,rfl,aw _,o,λ_ _=>rfl,λ_ _=>rfl,rfl,hh⟩;unfold exec at h;split at h
  .exact j4.x6 (mY.skip (self .nr h))
  .exact j4.x6 (mY.label (self .nr h))
  .rename_i id ops
   refine j4.region ?_;have:=N7 ca hΦ cu S (n0:=s.st.next) (n:=n) ops.toList 0 _ bb _ θ A (λj=>by simp) (by simp) o h;simp only[Array.length_toList]at this;rw[List.range_eq_range'];intro G a w g1 g2 g3 g4;refine rl ?_ _ _ _ (this G a w g1 g2 g3 g4);rintro e a' w' ⟨e1,s2,G2,b1,b2,g,V,p,E,q⟩;exact⟨e1,s2,G2,b1,b2,.nr,g,V,p,E,rfl,q⟩
  .rename_i id ops
   split at h
   .rename_i l0 t hbar
    obtain⟨hops0,hlw⟩:=Tf hbar;have hops:ops=⟨l0++t⟩:=by apply Array.ext';rw[<-hops0];simp
    split at h
    .rename_i l4
     obtain⟨D,J,fr',fs,g1,g2,g3,g4,g5⟩:=Nh (T:=T) (Φ:=Φ) (F:=F) (ops:=(⟨l0⟩:Array Oper)) l0 0 _ bb [] _ θ A o h;simp only[bq]at g5;split at g5
     .rename_i vM
      subst hops;refine j4.ah7 ca hm (cl:=uf Φ) (TN hΦ) hlw (s':=AS.sub D J) ?_ ?_
      .unfold AM
       rw[b9 l4];have e:({ s.sub θ with st:={ (s.sub θ).st with next:=(s.sub θ).st.next+(⟨l0⟩:Array Oper).size } }:AS)=AS.sub θ { s with st:={ s.st with next:=s.st.next+l0.length } }:=rfl;rw[e];have e2:(s.sub θ).st.next=s.st.next:=rfl;rw[e2];have e3:(⟨l0⟩:Array Oper).size=l0.length:=rfl;rw[e3,g4];simp only;rw[b9 vM]
      have e4:({ AS.sub D J with st:={ (AS.sub D J).st with next:=(AS.sub D J).st.next+(l0++t).length } }:AS)=AS.sub D { J with st:={ J.st with next:=J.st.next+(l0++t).length } }:=rfl;rw[e4];have:=N7 ca hΦ cu S (ops:=(⟨l0++t⟩:Array Oper)) (n0:=J.st.next) (n:=n) t l0.length { J with st:={ J.st with next:=J.st.next+(l0++t).length } } fr' (λs2 p=>k .nr s2 p) D A (λj=>by rw[List.getElem?_toArray,dR (by omega),dE]) (by simp) g2 g5;intro G a w lL fa j7 lP;refine rl ?_ _ _ _ (this G a w lL fa j7 lP);rintro e a' w' ⟨e1,s2,G2,b1,b2,g,V,p,E,r1,r2,r3,r4,r5,r6⟩;exact⟨e1,s2,G2,b1,b2,.nr,g,V,p,E,rfl,bI g1 r1,r2,λi a7=>(r3 i (by omega)).trans (g3 i a7),λl hl=>r4 l (by omega),r5,r6⟩
     exact g5.elim
    exact h.elim
   split at h
   .rename_i l4
    obtain⟨D,J,fr',fs,g1,g2,g3,g4,g5⟩:=Nh (T:=T) (Φ:=Φ) (F:=F) ops.toList 0 _ bb [] _ θ A o h;simp only[bq]at g5;split at g5
    .rename_i vM
     refine j4.x6 (mY.drawn ca hm (cl:=uf Φ) (TN hΦ) (s':=AS.sub D J) ?_ ⟨.nr,D,J,fr',A,rfl,g1,g2,g3,λ_ _=>rfl,rfl,g5⟩);unfold AM;rw[b9 l4];have e:({ s.sub θ with st:={ (s.sub θ).st with next:=(s.sub θ).st.next+ops.size } }:AS)=AS.sub θ { s with st:={ s.st with next:=s.st.next+ops.size } }:=rfl;rw[e];have e2:(s.sub θ).st.next=s.st.next:=rfl;rw[e2,g4];simp only;rw[b9 vM]
    exact g5.elim
   exact h.elim
  .rename_i a b
   split at h
   .rename_i hint hH
    split at h
    .rename_i hchk
     simp only[ab,bH]at hchk;obtain⟨⟨hsb,hbd⟩,⟨hdl,hdf⟩,hdb⟩:=hchk;obtain⟨I,⟨n1,hI0⟩,r⟩:=h;have hlt:∀(hi:List ag) i,i<bb->k6 θ bb hi i=θ i:=λhi i a7=>by simp[k6,a7]
     have hge:∀(hi:List ag) j (hj:j<hi.length),k6 θ bb hi (bb+j)=hi[j]:=λhi j hj=>by unfold k6;rw[b8 (by omega),dE,ae hj];rfl
     have hend:∀(hi:List ag),hi.length=hint.k+1->k6 θ bb hi (bb+(hint.k+1))=.bF (.bool IS):=λhi hv=>by unfold k6;rw[b8 (by omega),dE,bM (by omega)];rfl
     have K:∀(hi:List ag),(∀v∈hi,mW v)->Fit (k6 θ bb hi):=λhi hv i=>by
      show mW (if i<bb then θ i else(hi[i-bb]?).getD (.bF (.bool IS)));split
      .exact o i
      cases hx:hi[i-bb]? with
      |none=>trivial
      |some v=>exact hv v (aJ hx)
     have hD:∀v∈((zP hint s)++[ag.bF (.bool IS)]).map (ag.sub θ),mW v:=λv hv=>by
      obtain⟨u,hu,rfl⟩:=aP.1 hv;rcases aO.1 hu with hu|hu
      .exact Xo o (ak.1 hdf u hu)
      rw[aG.1 hu,oq];trivial
     have hlen1:(((zP hint s)++[ag.bF (.bool IS)]).map (ag.sub θ)).length=hint.k+1:=by simp[hdl]
     have h1:=r n1 _ hI0 hlen1 hD (k6 θ bb _) (hlt _) (hge _) (hend _ hlen1) (K _ hD);generalize hθ1:k6 θ bb (((zP hint s)++[ag.bF (.bool IS)]).map (ag.sub θ))=d at h1;have hθ1f:Fit d:=by rw[<-hθ1];exact K _ hD
     have z:∀i,i<bb->d i=θ i:=λi a7=>by rw[<-hθ1];exact hlt _ i a7
     have hflag:d (bb+hint.k)=.bF (.bool IS):=by rw[<-hθ1,hge _ hint.k (by omega)];simp[hdl]
     rcases h1 with⟨hc,_⟩|⟨_,h1⟩
     .rw[hflag]at hc;cases hc
     have hs1:s.sub d=s.sub θ:=AS.iv z hsb;rw[<-hs1];refine j4.seq (j4.mono (S n a s _ _ d _ hθ1f h1) ?_);rintro e s' ⟨e',g,V,p,E,rfl,lL,fa,j7,lP,rfl,lU⟩;cases e' with
     |nr=>
      simp only at lU;split at lU
      .rename_i hi hm
       simp only[mA]at lU;rw[lP bb (by omega)]at lU;simp only[jj]at lU;obtain⟨m',hm',hI1⟩:=lU;obtain⟨v1,v2,v3,ι,hren⟩:=Ez fa hm;refine j4.conv hren ?_;have hV:∀v∈(hi++[ag.bF (.bool IN)]).map (ag.sub g),mW v:=λv hv=>by
        obtain⟨u,hu,rfl⟩:=aP.1 hv;rcases aO.1 hu with hu|hu
        .exact v2 u hu
        rw[aG.1 hu,oq];trivial
       have hlen2:((hi++[ag.bF (.bool IN)]).map (ag.sub g)).length=hint.k+1:=by have:hi.length=hint.k:=v1;simp[this]
       have h2:=r m' _ hI1 hlen2 hV (k6 θ bb _) (hlt _) (hge _) (hend _ hlen2) (K _ hV);generalize M:k6 θ bb ((hi++[ag.bF (.bool IN)]).map (ag.sub g))=θ3 at h2;have hθ3f:Fit θ3:=by rw[<-M];exact K _ hV
       have N:∀i,i<bb->θ3 i=θ i:=λi a7=>by rw[<-M];exact hlt _ i a7
       have hv1:hi.length=hint.k:=v1;have hflag3:θ3 (bb+hint.k)=.bF (.bool IN):=by rw[<-M,hge _ hint.k (by omega)];simp[hv1]
       rcases h2 with⟨_,h2⟩|⟨hc,_⟩
       .have l4:(E_ hint s).state.sub (λi=>(pg bb hi i).sub g)=(E_ hint s).state.sub θ3:=by
         refine AS.iv (λi a7=>?_) hbd;by_cases hif:i<bb
         .have:dx bb i=IS:=by
           cases hb:dx bb i with
           |false=>rfl
           |true=>have:=aU hb;omega
          simp only[pg,this,lQ];rw[j7 i (by omega),z i hif,N i hif]
         obtain⟨j,rfl⟩:∃j,i=bb+j:=⟨i-bb,by omega⟩;have hj:j<hi.length:=by omega
         rw[<-M,hge _ j (by simp;omega)];unfold pg;rw[jf (aY bb j)];simp[hj]
        rw[l4];refine j4.mono (S n b _ _ k θ3 _ hθ3f h2) ?_;rintro e2 s2 ⟨e2',θ4,S4,fr4,A4,rfl,r1,r2,r3,r4,r5,r6⟩;exact⟨e2',θ4,S4,fr4,A4,rfl,by omega,r2,λi a7=>(r3 i (by omega)).trans (N i a7),λl hl=>(r4 l (by omega)).trans (b8 (by omega)),r5,r6⟩
       rw[hflag3]at hc;cases hc
      exact lU.elim
     |oz j=>exact⟨.oz j,g,V,p,E,rfl,by omega,fa,λi a7=>(j7 i (by omega)).trans (z i a7),λl hl=>(lP l (by omega)).trans (b8 (by omega)),rfl,lU⟩
     |ret=>exact⟨.ret,g,V,p,E,rfl,by omega,fa,λi a7=>(j7 i (by omega)).trans (z i a7),λl hl=>(lP l (by omega)).trans (b8 (by omega)),rfl,lU⟩
    exact h.elim
   refine j4.seq (j4.mono (S n a s bb _ θ A o h) ?_);rintro e s' ⟨e',d,S1,C,A1,rfl,lL,fa,j7,lP,rfl,lU⟩;cases e' with
   |nr=>refine j4.mono (S n b S1 C k d A1 fa lU) ?_;rintro e2 s2 ⟨e2',g,V,p,E,rfl,r1,r2,r3,r4,r5,r6⟩;exact⟨e2',g,V,p,E,rfl,bI lL r1,r2,λi a7=>(r3 i (by omega)).trans (j7 i a7),λl hl=>(r4 l (by omega)).trans (lP l hl),r5,r6⟩
   |oz j=>exact⟨.oz j,d,S1,C,A1,rfl,lL,fa,j7,lP,rfl,lU⟩
   |ret=>exact⟨.ret,d,S1,C,A1,rfl,lL,fa,j7,lP,rfl,lU⟩
  .rename_i x a b
   split at h
   .rename_i t hx
    refine j4.cond (t:=t) (by rw[AS.sub_eval,hx,oq]) ?_;exact S n _ s bb k θ A o h
   .rename_i i hx
    have hev:∀t,θ i=.bF (.bool t)->(s.sub θ).eval x=.bF (.bool t):=λt ht=>by rw[AS.sub_eval,hx,lQ,ht]
    rcases h with⟨hb,hh⟩|⟨hb,hh⟩
    .refine j4.cond (t:=IN) (hev IN hb) ?_
     have:=S n a _ bb k θ A o hh;rw[EZ hb]at this;exact this
    refine j4.cond (t:=IS) (hev IS hb) ?_;have:=S n b _ bb k θ A o hh;rw[EZ hb]at this;exact this
   exact h.elim
  .rename_i id b
   refine j4.block (j4.mono (S n b s bb _ θ A o h) ?_);rintro e s' ⟨e',d,S1,C,A1,rfl,lL,fa,j7,lP,rfl,lU⟩;cases e' with
   |nr=>exact⟨.nr,d,S1,C,A1,rfl,lL,fa,j7,lP,rfl,lU⟩
   |ret=>exact⟨.ret,d,S1,C,A1,rfl,lL,fa,j7,lP,rfl,lU⟩
   |oz j=>
    simp only[rP.rN,HU];simp only at lU;split
    .rename_i e;rw[b9 e]at lU;exact⟨.nr,d,S1,C,A1,rfl,lL,fa,j7,lP,rfl,lU⟩
    rename_i e;rw[b8 e]at lU;exact⟨.oz j,d,S1,C,A1,rfl,lL,fa,j7,lP,rfl,lU⟩
  .rename_i b
   split at h
   .rename_i hint hH
    refine WL (λs θ o h=>?_) 8 s θ o h;split at h
    .rename_i inits hm hbd
     obtain⟨I,⟨n1,hI0⟩,r⟩:=h;obtain⟨v1,v2,v3,ι,hren⟩:=Ez o hm;refine j4.conv hren ?_;have O:∀(hi:List ag) (d:Nat->ag) i,i<bb->(pg bb hi i).sub d=d i:=λhi d i a7=>by
      unfold pg;have:dx bb i=IS:=by
       cases hb:dx bb i with
       |false=>rfl
       |true=>have:=aU hb;omega
      rw[this];simp
     have R:∀(hi:List ag) (d:Nat->ag) j (hj:j<hi.length),(pg bb hi (bb+j)).sub d=(hi[j]).sub d:=λhi d j hj=>by unfold pg;rw[jf (aY bb j)];simp[hj]
     have pad:∀(hi:List ag) (d:Nat->ag),hi.length=hint.k->(∀i,i<bb->d i=θ i)->(∀j (hj:j<hi.length),d (bb+j)=hi[j])->Fit d->∃g,(∀i,i<bb->g i=θ i)/\(∀j (hj:j<hi.length),g (bb+j)=hi[j])/\g (bb+hint.k)=.bF (.bool IS)/\Fit g/\hint.state.sub d=hint.state.sub g:=λhi d mb mn pN sf=>by
      refine⟨λi=>if i=bb+hint.k then .bF (.bool IS)else d i,λi a7=>?_,λj hj=>?_,by simp,λi=>?_,?_⟩
      .simp only[show ¬i=bb+hint.k by omega,j2];exact mn i a7
      .simp only[show ¬bb+j=bb+hint.k by omega,j2];exact pN j hj
      .show mW (if i=bb+hint.k then .bF (.bool IS)else d i)
       split
       .trivial
       exact sf i
      refine(AS.iv (λi a7=>?_) hbd).symm;simp only[show ¬i=bb+hint.k by omega,j2]
     refine j4.loop (λk1 s1=>∃hi d,I k1 hi/\hi.length=hint.k/\(∀v∈hi,mW v)/\(∀i,i<bb->d i=θ i)/\(∀j (hj:j<hi.length),d (bb+j)=hi[j])/\Fit d/\s1=hint.state.sub d) ?_ (k:=n1) ?_
     .rintro k1 s1 ⟨hi,θ0,g1,g2,g3,g40,g50,g60,rfl⟩
      obtain⟨d,g4,g5,g5',g6,g7⟩:=pad hi θ0 g2 g40 g50 g60;rw[g7];have hb:=S n b hint.state (bb+hint.k+1) _ d _ g6 (r k1 hi g1 g2 g3 d g4 g5 g5' g6);refine j4.Q0 (j4.mono hb ?_);rintro e s' ⟨e',g,V,p,E,rfl,lL,fa,j7,lP,rfl,lU⟩;have hA2:E bb=λB=>∃m,m<k1/\I m B:=by rw[lP bb (by omega)];simp
      have hlo:∀i,i<bb->g i=θ i:=λi a7=>(j7 i (by omega)).trans (g4 i a7);have hAlo:∀l,l<bb->E l=A l:=λl hl=>by rw[lP l (by omega)];simp[Nat.ne_of_lt hl]
      cases e' with
      |nr=>
       left;simp only at lU;split at lU
       .rename_i B hm'
        obtain⟨w1,w2,w3,ι',hren'⟩:=Ez fa hm';refine⟨ι',_,hren',?_⟩;simp only[rP.rN,Bq];have tN:E bb (B.map (ag.sub g)):=lU;rw[hA2]at tN;obtain⟨m1,hm1,hI1⟩:=tN;refine⟨m1,hm1,B.map (ag.sub g),_,hI1,by simpa using w1,λv hv=>?_,λi a7=>by rw[O];exact hlo i a7;exact a7,λj hj=>?_,w3,rfl⟩
        .obtain⟨v0,hv0,rfl⟩:=aP.1 hv;exact w2 v0 hv0
        simp only[aF]at hj;rw[R B g j hj];simp
       exact lU.elim
      |oz j=>right;exact⟨.oz j,g,V,p,E,rfl,by omega,fa,hlo,hAlo,rfl,lU⟩
      |ret=>right;exact⟨.ret,g,V,p,E,rfl,by omega,fa,hlo,hAlo,rfl,lU⟩
     refine⟨inits.map (ag.sub θ),_,hI0,by simpa using v1,λv hv=>?_,λi a7=>O _ _ i a7,λj hj=>?_,v3,rfl⟩
     .obtain⟨v0,hv0,rfl⟩:=aP.1 hv;exact v2 v0 hv0
     simp only[aF]at hj;rw[R inits θ j hj];simp
    exact h.elim
   exact(Tk S 1000 s bb θ A (aw _) o (λ_ _=>rfl) (λ_ _=>rfl) h).wp
  .exact j4.x6 (mY.exit (self (.oz _) h))
  .exact j4.x6 (mY.ret (self .ret h))
  .rename_i b
   refine j4.scope (j4.mono (S n b s bb _ θ A o h) ?_);rintro e s' ⟨e',d,S1,C,A1,rfl,q⟩;exact⟨by cases e'<;>trivial,e',d,S1,C,A1,rfl,q⟩
  exact h.elim
include ca hΦ cu hm in
theorem au1 {H:Nat->Option Hint} {m bb:Nat} {f:FuncId} {fn:Func} {c:Code} (s:F f=U fn) (n:(fn.name== "runtime.NumGoroutine")=IS) (t:fn.body=U c) {a:List ag} (E:a.length<=fn.ntmps) (hp:r9 a=IN)
  {θ:Nat->ag} (q:Fit θ) {r:ag} (h:mA T Φ (λc=>c=r) (exec T Φ F H m 0 c (AS.enter fn.ntmps a bg.none) bb (H6 T fn)) θ (λ_ _=>False)):oI P ⟨f,a.map (ag.sub θ),r⟩:=by
 refine oI.IA ca (cu f fn s) n t (by simpa using E) (by rw[<-uP,<-p3];exact wA q a hp) ?_;have:=NZ ca hΦ cu hm (H:=H) m 0 c _ bb _ θ _ q h;rw[MS]at this;refine j4.mono this ?_;rintro e s' ⟨D,i,p,I,J,rfl,_,f1,_,_,rfl,hl⟩;have fin:∀g,D=g->(g=.nr\/g=.ret)->(g.rN=.normal\/g.rN=.ret)/\∃v,pQ T fn (p.sub i)=U v/\∀G w u pl,Rel G (p.sub i).st w->lB G v u->lB (G.frozen (p.sub i).st w pl) r u:=by
  intro g he sZ;subst he;refine⟨by rcases sZ with rfl|rfl<;>simp[rP.rN],?_⟩;have d:mA T Φ (λc=>c=r) (match pQ T fn p with
   |some v=>match v.qU with
    |true=>.ret v.rh []
    |false=>match pI p.st 50 v with
     |some c=>.ret c.rh (pG p.st.mv)
     |none=>.stuck
   |none=>.stuck) i J:=by rcases sZ with rfl|rfl<;>exact hl
  split at d
  next v hv=>
   refine⟨v.sub i,LQ hv,?_⟩;intro G w u pl l hrep;split at d
   next x=>
    obtain⟨_,B⟩:=d;rw[<-B];exact Cx v u (rT (λb o t=>tZ l t) hrep (Cs f1 v x))
   split at d
   next c hc=>
    obtain⟨k,B⟩:=d;rw[<-B];exact Cx c u (CC f1 l pl (λid e z j C=>k j (AA C)) (λid j C=>k j (Av C)) 50 v c u hc hrep)
   exact d.elim
  exact d.elim
 cases D with
 |oz j=>exact hl.elim
 |nr=>exact fin .nr rfl (.inl rfl)
 |ret=>exact fin .ret rfl (.inr rfl)
end
section
variable {T:dd} {Φ:lb} {Q:ag->Prop} {θ:Nat->ag} {A:Nat->List ag->Prop}
end
@[simp] theorem bu2 (k:IntKind) (n:Int):mW (.bF (.int k n)):=trivial
@[simp] theorem bu1 (b:Bool):mW (.bF (.bool b)):=trivial
@[simp] theorem bu3 (b:ByteArray):mW (.bF (.string b)):=trivial
def KF:List (Nat×Hint)->Nat->Option Hint
 | [],_=>No
 | (g,h)::l,f=>match aB g f with
  |true=>U h
  |false=>KF l f
def E8(T:dd)(Φ:lb)(F:FuncId->Option Func)(H:List (Nat×Hint))(m:Nat)(f:FuncId)(a:List ag)(bb:Nat):mV :=
 match F f with
 |some fn=>match fn.body with
  |some c=>match !(fn.name== "runtime.NumGoroutine")&&dx a.length fn.ntmps&&r9 a with
   |true=>exec T Φ F (KF H) m 0 c (AS.enter fn.ntmps a bg.none) bb (H6 T fn)
   |false=>.stuck
  |none=>.stuck
 |none=>.stuck
def bd9{P:Program}{T:dd}(ca:mc P T){Φ:lb}(b:A_ P Φ){F:FuncId->Option Func}(cu:∀f fn,F f=U fn->P.funcs[f]?=U fn)(hm:P.follows .mixedOrders=IN){H:List (Nat×Hint)}{m:Nat}{f:FuncId}{a:List ag}{bb:Nat}
  {θ:Nat->ag} (d:Fit θ) {r:ag} (h:mA T Φ (λc=>c=r) (E8 T Φ F H m f a bb) θ (λ_ _=>False)):oI P ⟨f,a.map (ag.sub θ),r⟩:=by
 unfold E8 at h;split at h
 next fn e=>
  split at h
  next c g=>
   split at h
   .grind[bS,au1,aU]
   exact h.elim
  exact h.elim
 exact h.elim
def env(l:List ag)(i:Nat):ag:=(l[i]?).getD (.bF (.bool IS))
def Fit.env{l:List ag}(h:∀v∈l,mW v):Fit (env l):=λi=>by
 unfold Go.Ab.env;cases a7:l[i]? with
 |none=>trivial
 |some v=>exact h v (aJ a7)
open Go Go.RowKit Go.WideShapes Go.ChangeShapes
section
variable {H:Type} {enc:TypeId×Value->H} {P:Program} {N:Nat}
theorem RJ(hl:laidOutB P=IN){W f:World}(g:Below W.heap.size W f){sp:Nat->Bool}:∀ {ts:List TypeId} {vs:List Value} {i:List (DataW H)} {c:List MemPlace},(∀t∈ts,P.readableRec t=IN/\t<P.types.size) ->
  gq enc P W 0 (λ_=>IN) IN ts vs i c->(∀p∈c,p.block<W.heap.size)->(∀p∈c,sp p.block=IN)->gq enc P f 0 sp IN ts vs i c
 | [],[],[],_,_,h,_,_=>h
 |t::ts,_::_,_::_,_,d,⟨p,q,h1,h2,e⟩,b,hs=>by
  refine⟨p,q,?_,?_,e⟩
  .exact WideElems.Trod_stays hl (d t (by simp)).1 (d t (by simp)).2 h1 (λx a=>g.same (b x (by rw[e];simp[a]))) (λx a=>hs x (by rw[e];simp[a]))
  exact RJ hl g (λu hu=>d u (by simp[hu])) h2 (λx a=>b x (by rw[e];simp[a])) (λx a=>hs x (by rw[e];simp[a]))
def bs9(hl:laidOutB P=IN){f:Func}{s:ChangeSpec}{apart fresh handsOn again:Bool}{W h:World}{args:Array Value}{d gs:List (DataW H)}{before:List MemPlace}{w:TypeId}
  (hv:s.vars=[]) (u:∀t∈f.params.toList,P.readableRec t=IN/\t<P.types.size) (i:f.resultTypes=#[w]) (k:P.underlying w=U .bool)
  (l:(s.fn H (d++gs)).results=[.lit (.bool IN)]/\(s.fn H (d++gs)).args=d/\(s.fn H (d++gs)).vars=[])
  (z:DataW.Whole enc P f.params.toList s.vars apart W args.toList d gs before) (B:Below W.heap.size W h):s.post enc P f apart fresh handsOn again W args (.bool IN) h:=by
 have m:=z;obtain⟨p,q,E,C,rfl,hz,G⟩:=z;rw[hv]at C;obtain⟨rfl,rfl⟩:=trodVars_none C;have n:∀x∈p++[],x.block<W.heap.size:=λx e=>m.lt x e;have g:∀(b:Nat) (sp:Nat->Bool) (D:Bool),gq enc P h b sp D f.resultTypes.toList ((kX IN).resultList f.resultTypes.size) (s.fn H (d++[])).results []:=λb sp D=>by rw[i,l.1];exact trodAll_mk1 (shut_bool k _)
 have a:∀sp:Nat->Bool,(∀x∈p++[],sp x.block=IN)->gq enc P h 0 sp IN f.params.toList args.toList (s.fn H (d++[])).args p:=λsp hsp=>by grind[RJ]
 have c:∀sp:Nat->Bool,(∀x∈p++[],sp x.block=IN)->DataW.TrodVars enc P h sp s.vars (s.fn H (d++[])).vars []:=λsp _=>by rw[hv,l.2.2];rfl
 have v:∀(j:Nat) (t:TypeId) (r:Value),f.resultTypes[j]?=U t->((kX IN).resultList f.resultTypes.size)[j]?=U r->iK P h .any 0 t r:=ok_one i rfl (okWide_bool_mk k _);have hold:∀x∈p++[],(λb=>IT (b<W.heap.size)) x.block=IN:=λx e=>by simpa using n x e
 refine⟨d,[],p++[],[],p,[],m,g _ _ _,a _ hold,c _ hold,World.keptBut_mono (λx e=>⟨e,?_⟩) (B.frame (·∈p++[])),λ_=>?_⟩
 .exact Or.inr (by simpa using e)
 refine⟨v,_,_,([]++p)++[],⟨[]++p,[],trodAll_append (a _ (λ_ _=>rfl)) (g _ _ _),c _ (λ_ _=>rfl),rfl,?_,?_⟩,?_⟩
 .intro b off hp
  have o:MemPlace.cell b off∈p++[]:=by simpa using hp
  rw[B.frozen (n _ o)];exact hz b off o
 .grind
 intro x e _;simpa using e
def Tg{W:World}{base:Nat}{t:TypeId}{fs:Array Field}{v:Value}{d:DataW H}{p:List MemPlace}{k:Nat}(b:P.underlying t=U (.struct fs))(hp:yZ P k t=IN)(hv:iK P W .any base t v)
  (h:DataW.Trod enc P W 0 (λ_=>IN) IN t v d p) (c:∀n∈d.weights P t,n<=N):∃cs,lB (cb.sD W) (.agg cs) v/\pD P N t cs:=by
 obtain⟨fuel,hf⟩:=h;obtain⟨avs,h1,h2⟩:=Nc k t hp fuel _ _ hf c;unfold iK at hv;rw[b]at hv;obtain⟨cs,rfl,_⟩:=hv;refine⟨avs,?_,h2⟩;have a:gl (cb.sD W) avs cs.toList:=h1;have:=lB.agg (G:=cb.sD W) avs cs.toList a.1 a.2;simpa using this
def bi7 {f:FuncId} {fn:Func} {avs:List ag} (d:P.funcs[f]?=U fn) (a:(fn.name== "runtime.NumGoroutine")=IS) (b:fn.body.isNone=IS) (hm:oI P ⟨f,avs,.bF (.bool IN)⟩)
  {W:World} {args:Array Value} (c:gl (cb.sD W) avs args.toList) (h:NR W):Calls P f args W λe g=>e=.returned (.bool IN)/\Below W.heap.size W g:=by
 have:=oI.calls d a b hm c (Rel.sD h);simp only[Array.toArray_toList]at this;refine this.mono ?_;rintro e g ⟨v,G',rfl,i,_,_,j⟩;cases i;exact⟨rfl,j⟩
end
def Ln(k:Nat):Option ag->Bool
 |none=>IN
 |some x=>x.er k
def ml.er(k:Nat):ml->Bool
 | .bin _ _ x y=>x.er k&&y.er k
 | .un _ x=>x.er k
 | .conv _ _ x=>x.er k
 | .pick c a b=>c.er k&&(a.er k&&b.er k)
 | .idx _ x i=>x.er k&&i.er k
 | .index _ x i=>x.er k&&i.er k
 | .BF _ x b5 a7=>x.er k&&(Ln k b5&&Ln k a7)
 | .len _ x=>x.er k
 | .pX l=>qI k l
 | .Bk l=>qI k l
 | .cat _ _ x y=>x.er k&&y.er k
 | .call _ args _=>qI k args
 | .rows l=>l.all λj=>cD j k
 | .look _ c ix _=>c.er k&&ix.er k
 | .w6 _ c ix _=>c.er k&&ix.er k
 | .pW _ c ix v=>c.er k&&(ix.er k&&v.er k)
 | .Bj _ c=>c.er k
 | .zr=>IN
 | .A7 x=>x.er k
 | .zu _ x=>x.er k
 | .BM _ x=>x.er k
 | .A5 _ _=>IN
 | .A8 x=>x.er k
 | .more s p=>s.er k&&p.er k
 | .BD s p=>s.er k&&p.er k
 | .Bn _ x=>x.er k
 | .zG c i _=>c.er k&&i.er k
 | .zb _ c i=>c.er k&&i.er k
 | .xl _ _ _ c i _=>c.er k&&i.er k
 | .vd _ _ _ c i _ v=>c.er k&&(i.er k&&v.er k)
 | .tail _ _ c b5=>c.er k&&b5.er k
 | .BH _ _ c c' a7=>c.er k&&(c'.er k&&a7.er k)
 | .cut _ _ _ c o l=>c.er k&&(o.er k&&l.er k)
 | .Bm l=>l.er k
 | .A6 _ c ix=>c.er k&&ix.er k
 | .A9 _ o l i=>o.er k&&(l.er k&&i.er k)
 | .Bi _ n=>n.er k
 | .AE _ _ _ c y=>c.er k&&y.er k
def Ck{θ b:Nat->ag}{k:Nat}(h:∀i,i<k->b i=θ i):∀l:List ag,qI k l=IN->l.map (ag.sub b)=l.map (ag.sub θ)
 | [],_=>rfl
 |a::l,c=>by simp only[qI,ab]at c;simp only[ay,iv h a c.1,Ck h l c.2]
def S_{θ b:Nat->ag}{k:Nat}(h:∀i,i<k->b i=θ i):∀l:Option ag,Ln k l=IN->l.map (ag.sub b)=l.map (ag.sub θ)
 |none,_=>rfl
 |some a,c=>by simp only[aj,iv h a c]
def aL4{T:dd}{Φ:lb}{θ q:Nat->ag}{k:Nat}(h:∀i,i<k->q i=θ i)(o:ml)(m:o.er k=IN):fr T Φ q o=fr T Φ θ o:=by
 cases o with
 |bin o t x y=>simp only[ml.er,ab]at m;simp only[fr,iv h _ m.1,iv h _ m.2]
 |un o x=>simp only[ml.er]at m;simp only[fr,iv h _ m]
 |conv s d x=>simp only[ml.er]at m;simp only[fr,iv h _ m]
 |pick c a b=>simp only[ml.er,ab]at m;simp only[fr,iv h _ m.1,iv h _ m.2.1,iv h _ m.2.2]
 |idx t x i=>simp only[ml.er,ab]at m;simp only[fr,iv h _ m.1,iv h _ m.2]
 |index t x i=>simp only[ml.er,ab]at m;simp only[fr,iv h _ m.1,iv h _ m.2]
 |BF t x b5 a7=>simp only[ml.er,ab]at m;simp only[fr,iv h _ m.1,S_ h _ m.2.1,S_ h _ m.2.2]
 |len t x=>simp only[ml.er]at m;simp only[fr,iv h _ m]
 |pX l=>simp only[ml.er]at m;simp only[fr,Ck h _ m]
 |Bk l=>simp only[ml.er]at m;simp only[fr,Ck h _ m]
 |cat s x a b=>simp only[ml.er,ab]at m;simp only[fr,iv h _ m.1,iv h _ m.2]
 |call f args flat=>simp only[ml.er]at m;simp only[fr,Ck h _ m]
 |look t c ix ok=>simp only[ml.er,ab]at m;simp only[fr,iv h _ m.1,iv h _ m.2]
 |w6 t c ix ok=>simp only[ml.er,ab]at m;simp only[fr,iv h _ m.1,iv h _ m.2]
 |pW t c ix v=>simp only[ml.er,ab]at m;simp only[fr,iv h _ m.1,iv h _ m.2.1,iv h _ m.2.2]
 |Bj t c=>simp only[ml.er]at m;simp only[fr,iv h _ m]
 |zr=>rfl
 |A5 t g=>rfl
 |A8 x=>simp only[ml.er]at m;simp only[fr,iv h _ m]
 |more s p=>simp only[ml.er,ab]at m;simp only[fr,iv h _ m.1,iv h _ m.2]
 |Bn cc x=>simp only[ml.er]at m;simp only[fr,iv h _ m]
 |BD s p=>simp only[ml.er,ab]at m;simp only[fr,iv h _ m.1,iv h _ m.2]
 |zG c i off=>simp only[ml.er,ab]at m;simp only[fr,iv h _ m.1,iv h _ m.2]
 |A7 x=>simp only[ml.er]at m;simp only[fr,iv h _ m]
 |zu n x=>simp only[ml.er]at m;simp only[fr,iv h _ m]
 |BM t x=>simp only[ml.er]at m;simp only[fr,iv h _ m]
 |zb t c i=>simp only[ml.er,ab]at m;simp only[fr,iv h _ m.1,iv h _ m.2]
 |xl t e z c i off=>simp only[ml.er,ab]at m;simp only[fr,iv h _ m.1,iv h _ m.2]
 |vd t e z c i off v=>simp only[ml.er,ab]at m;simp only[fr,iv h _ m.1,iv h _ m.2.1,iv h _ m.2.2]
 |tail t z c b5=>simp only[ml.er,ab]at m;simp only[fr,iv h _ m.1,iv h _ m.2]
 |BH t z c c' a7=>simp only[ml.er,ab]at m;simp only[fr,iv h _ m.1,iv h _ m.2.1,iv h _ m.2.2]
 |cut t e z c o l=>simp only[ml.er,ab]at m;simp only[fr,iv h _ m.1,iv h _ m.2.1,iv h _ m.2.2]
 |A6 t c ix=>simp only[ml.er,ab]at m;simp only[fr,iv h _ m.1,iv h _ m.2]
 |Bm l=>simp only[ml.er]at m;simp only[fr,iv h _ m]
 |A9 t o l i=>simp only[ml.er,ab]at m;simp only[fr,iv h _ m.1,iv h _ m.2.1,iv h _ m.2.2]
 |Bi t n=>simp only[ml.er]at m;simp only[fr,iv h _ m]
 |AE t e z c y=>simp only[ml.er,ab]at m;simp only[fr,iv h _ m.1,iv h _ m.2]
 |rows l=>
  simp only[ml.er,ak,bc]at m;have e:∀g:ag->Bool,l.all (λj=>g (q j))=l.all (λj=>g (θ j)):=λg=>by
   rw[Bool.eq_iff_iff,ak,ak];constructor
   .intro H j hj;rw[<-h j (m j hj)];exact H j hj
   intro H j hj;rw[h j (m j hj)];exact H j hj
  exact mP (λb=>match b with|true=>U (ag.bF (.bool IN))|false=>No) (e (λv=>match v with| .rs _=>IN|_=>IS))
mutual
def ag.top:ag->Nat
 | .ek i=>i+1
 | .h8 cs=>Km cs
 | .agg cs=>Km cs
 | .fe cs=>Km cs
 |_=>0
def Km:List ag->Nat
 | []=>0
 |c::cs=>max c.top (Km cs)
end
def mV.er:mV->Nat->Bool
 | .stuck,_=>IN
 | .ret c l,m=>c.er m&&l.all λj=>cD j m
 | .op o bb pat r,m=>aB bb m&&(o.er m&&(pat.er (max m pat.top)&&r.er (max m pat.top)))
 | .test i a b,m=>cD i m&&(a.er m&&b.er m)
 | .loop l _ inits _,m=>aB l m&&qI m inits
 | .again _ hi,m=>qI m hi
def mA.agree{T:dd}{Φ:lb}{Q:ag->Prop}:∀(r:mV) {m:Nat} {θ d:Nat->ag} {A:Nat->List ag->Prop},r.er m=IN->Fit d->(∀i,i<m->d i=θ i)->mA T Φ Q r θ A->mA T Φ Q r d A
 | .stuck,_,_,_,_,_,_,_,h=>h.elim
 | .ret c l,m,θ,d,A,e,hf,ha,h=>by
  simp only[mV.er,ab,ak,bc]at e;refine⟨λj hj=>?_,?_⟩
  .rw[ha j (e.2 j hj)];exact h.1 j hj
  rw[iv ha c e.1];exact h.2
 | .op o bb pat r,m,θ,d,A,e,hf,ha,⟨f,h1,h2,w,x⟩=>by
  simp only[mV.er,ab,bH]at e;obtain⟨rfl,s,t,u⟩:=e;have p:∀i,i<max bb pat.top->(λi=>if i<bb then d i else f i) i=f i:=λi _=>by
   by_cases a7:i<bb
   .simp only[a7,jj];rw[ha i a7,h1 i a7]
   simp only[a7,j2]
  have g:Fit (λi=>if i<bb then d i else f i):=λi=>by
   show mW (if i<bb then d i else f i);split
   .exact hf i
   exact h2 i
  refine⟨λi=>if i<bb then d i else f i,λi a7=>by simp[a7],g,?_,?_⟩
  .rw[aL4 ha o s,w,iv p pat t]
  exact mA.agree r u g p x
 | .test i a b,m,θ,d,A,e,hf,ha,h=>by
  simp only[mV.er,ab,bc]at e;rcases h with⟨h1,h2⟩|⟨h1,h2⟩
  .exact .inl ⟨by rw[ha i e.1];exact h1,mA.agree a e.2.1 hf ha h2⟩
  exact .inr ⟨by rw[ha i e.1];exact h1,mA.agree b e.2.2 hf ha h2⟩
 | .loop l k inits body,m,θ,d,A,e,hf,ha,⟨I,h1,h2⟩=>by simp only[mV.er,ab,bH]at e;obtain⟨rfl,e⟩:=e;exact⟨I,by rw[Ck ha inits e];exact h1,λn hi a7 hl hv v q=>h2 n hi a7 hl hv v (λi a7=>by rw[q i a7,ha i a7])⟩
 | .again l hi,m,θ,d,A,e,hf,ha,h=>by simp only[mV.er]at e;show A l _;rw[Ck ha hi e];exact h
def rV(T:dd)(Φ:lb)(Q:ag->Prop)(r:mV)(L:List ag)(A:Nat->List ag->Prop):Prop:=(∀v∈L,mW v)->mA T Φ Q r (env L) A
section
variable {T:dd} {Φ:lb} {Q:ag->Prop} {L:List ag} {A:Nat->List ag->Prop}
def Xs{L vs:List ag}{i:Nat}(h:i<L.length):env (L++vs) i=env L i:=by unfold env;rw[ig h]
def rV.NQ{o:ml}{bb:Nat}{pat:ag}{r:mV}(vs:List ag)(he:fr T Φ (env L) o=U (pat.sub (env (L++vs))))(c:L.length=bb)(hv:∀v∈vs,mW v)(h:rV T Φ Q r (L++vs) A):rV T Φ Q (.op o bb pat r) L A:=λb=>by
 have a:∀v∈L++vs,mW v:=λv hm=>by
  rcases aO.1 hm with hm|hm
  .exact b v hm
  exact hv v hm
 exact⟨env (L++vs),λi a7=>Xs (by omega),Fit.env a,he,h a⟩
def rV.test{i:Nat}{a b:mV}(t:Bool)(a7:env L i=.bF (.bool t))(h1:t=IN->rV T Φ Q a L A)(h2:t=IS->rV T Φ Q b L A):rV T Φ Q (.test i a b) L A:=λc=>by
 cases t with
 |true=>exact .inl ⟨a7,h1 rfl c⟩
 |false=>exact .inr ⟨a7,h2 rfl c⟩
def rV.Oo{c:ag}{l:List Nat}(hl:∀j∈l,∃es,env L j=.rs es)(h:Q (c.sub (env L))):rV T Φ Q (.ret c l) L A:=λ_=>⟨hl,h⟩
def rV.loop{l k:Nat}{inits:List ag}{body:mV}(I:Nat->List ag->Prop)(d:L.length=l)(e:body.er (l+k+1)=IN)(n0:Nat)(f:I n0 (inits.map (ag.sub (env L))))
  (h:∀n hi,I n hi->hi.length=k->rV T Φ Q body (L++(hi++[.bF (.bool IS)])) (λc=>if c=l then(λa=>∃m,m<n/\I m a)else A c)):rV T Φ Q (.loop l k inits body) L A:=λg=>by
 refine⟨I,⟨n0,f⟩,λn hi a7 hl hv o h1 h2 p hf=>?_⟩;have b:∀v∈L++(hi++[.bF (.bool IS)]),mW v:=λv hm=>by
  rcases aO.1 hm with hm|hm
  .exact g v hm
  rcases aO.1 hm with hm|hm
  .exact hv v hm
  simp only[aG]at hm;subst hm;trivial
 refine mA.agree body e hf (λi a7=>?_) (h n hi a7 hl b);subst d;by_cases c1:i<L.length
 .rw[Xs c1];exact h1 i c1
 obtain⟨j,rfl⟩:∃j,i=L.length+j:=⟨i-L.length,by omega⟩;by_cases c2:j<hi.length
 .rw[h2 j c2]
  unfold env;rw[dR (by omega),dE,ig c2];simp[c2]
 have:j=k:=by omega
 subst this;unfold env;rw[dR (by omega),dE,dR (by omega),hl,p];simp
end
def Kh:Operand->Bool
 | .const (.slice No 0 0)=>IN
 |_=>IS
theorem TL{x:Operand}(h:Kh x=IN):x=zY:=by
 unfold Kh at h;split at h
 .rfl
 cases h
def wN(o:Oper)(d:Nat):Bool:=match o.guard,o.dst with
 |none,U e=>aB e d
 |_,_=>IS
def yK{o:Oper}{d:Nat}{op:Op}(h:wN o d=IN)(a:o.op=op):tO o (U d) op:=by
 unfold wN at h;split at h
 next h1 h2=>
  rw[bH]at h;subst h;exact⟨h2,a,h1⟩
 cases h
def J_(o:Oper):Bool:=match o.op with
 | .assign x=>Kh x
 |_=>IS
def UA{o:Oper}(h:J_ o=IN):o.op=.assign zY:=by grind[J_,TL]
def zs(n:Nat):Operand->Bool
 | .tmp m=>aB m n
 |_=>IS
theorem EW{n:Nat}{x:Operand}(h:zs n x=IN):x=.tmp n:=by
 unfold zs at h
 grind[bH]
def H'(o:Oper):Bool:=match o.op with
 | .move x=>zs 0 x
 |_=>IS
def WV{o:Oper}(h:H' o=IN):o.op=.move (.tmp 0):=by grind[H',EW]
def Lk(o:Oper):Bool:=match o.op with
 | .assign x=>zs 7 x
 |_=>IS
def Zv{o:Oper}(h:Lk o=IN):o.op=.assign (.tmp 7):=by grind[Lk,EW]
def KX(t:Nat)(o:Oper):Bool:=match o.op with
 | .binOp .eql a x y _=>aB a t&&zs 3 x&&Kh y
 |_=>IS
def br7{t:Nat}{o:Oper}(h:KX t o=IN):∃yt,o.op=.binOp .eql t (.tmp 3) zY yt:=by grind[KX,bH,EW,TL]
def Lp(t:Nat)(o:Oper):Bool:=match o.op with
 | .buildSlice a 0 ⟨[]⟩=>aB a t
 |_=>IS
def af9{t:Nat}{o:Oper}(h:Lp t o=IN):o.op=.buildSlice t 0 #[]:=by grind[Lp,bH]
def K3(t:Nat)(o:Oper):Bool:=match o.op with
 | .call { callee:=.builtin .append,args:=⟨[x,y]⟩,argTypes:=⟨[a,b]⟩ }=>zs 5 x&&zs 6 y&&aB a t&&aB b t
 |_=>IS
def bm3{t:Nat}{o:Oper}(h:K3 t o=IN):o.op=.call { callee:=.builtin .append,args:=#[.tmp 5,.tmp 6],argTypes:=#[t,t] }:=by grind[K3,bH,EW]
def CR(fn:Func)(t:Nat):Bool:=aB fn.ntmps 8&&(match fn.results with
  |⟨[.tmp n]⟩=>aB n 2
  |_=>IS)&&match fn.body with
 |some (.seq (.region _ ⟨[o0]⟩ IS) (.seq (.seq (.region _ ⟨[o1,o2]⟩ IS) (.cond x (.seq (.region _ ⟨[o3]⟩ IS) .ret) .skip)) (.seq (.region _ ⟨[o4,o5,o6,o7]⟩ IS) .ret)))=>zs 4 x&&wN o0 2&&J_ o0&&wN o1 3&&H' o1&&wN o2 4&&KX t o2&&wN o3 2&&J_ o3&&wN o4 5&&Lp t o4&&wN o5 6&&H' o5&&wN o6 7&&K3 t o6&&wN o7 2&&Lk o7
 |_=>IS
def bh1{fn:Func}{t:Nat}(h:CR fn t=IN):NS fn t:=by
 unfold CR at h;simp only[ab,bH]at h;obtain⟨⟨h1,h2⟩,a⟩:=h;split at h2
 next x b=>
  split at a
  next i0 o0 i1 o1 o2 y i2 o3 i3 o4 o5 o6 o7 c=>
   simp only[ab]at a;obtain⟨⟨⟨⟨⟨⟨⟨⟨⟨⟨⟨⟨⟨⟨⟨⟨d,a0⟩,e⟩,f⟩,g⟩,a2⟩,i⟩,a3⟩,j⟩,a4⟩,k⟩,a5⟩,l⟩,m⟩,n⟩,o⟩,p⟩:=a;obtain⟨yt,q⟩:=br7 i;refine⟨h1,by rw[b,af h2],i0,i1,i2,i3,o0,o1,o2,o3,o4,o5,o6,o7,yt,?_,yK a0 (UA e),yK f (WV g),yK a2 q,yK a3 (UA j),yK a4 (af9 k),yK a5 (WV l),yK m (bm3 n),yK o (Zv p)⟩;rw[c,EW d]
  cases a
 cases h2
abbrev Gz(n:Int):ag:=.bF (.int .i64 n)
abbrev YE(b:Bool):ag:=.bF (.bool b)
section
variable {T:dd} {Φ:lb} {θ:Nat->ag} {x y:ag} {a b:Int} {t:TypeId}
def ZD{l:List Nat}(h:∀j∈l,∃es,θ j=.rs es):fr T Φ θ (.rows l)=U (YE IN):=by
 simp only[fr]
 grind
end
def Rel.au3{G G':cb}{σ σv σv' σ':bg}{w w':World}(c:Rel G σ w)(h:∀id o,σv.bT id=U o->σ.bT id=U o)(d:Rel G' σv' w')(e:Fr G σv w G' σv' w')(t:G'.mr=G.mr)
  (k:∀id o,σ.bT id=U o->σv.bT id=No->G'.pl id=G.pl id) (u:∀id o,σ.bT id=U o->σv.bT id=No->∀p s,oc G p o s->oc G' p o s)
  (n:∀id,σ'.next<=id->G'.pl id=No) (l:∀id o,σ'.bT id=U o->σv'.bT id=U o\/(σ.bT id=U o/\σv.bT id=No)):Rel G' σ' w'/\Fr G σ w G' σ' w':=by
 have hs:=e.size;have f:∀id o p,σ.bT id=U o->σv.bT id=No->G.pl id=U p->p.mF=IS->∀id0 o0 p0,σv.bT id0=U o0->G.pl id0=U p0->p0.mF=IS->p0.block≠p.block :=λid o p h1 h2 m q id0 o0 p0 g1 g2 g3 g4=>by have:=c.sep id0 id o0 o p0 p (h _ _ g1) h1 g2 m g3 q g4;rw[this,h2]at g1;cases g1
 refine⟨⟨d.os,d.tape,d.output,d.size,d.lM,n,λid o s=>?_,λi j oi oj pi pj h1 h2 m q v1 v2 C=>?_,d.qV⟩,?_⟩
 .rcases l id o s with h1|⟨h1,h2⟩
  .exact d.bT id o h1
  obtain⟨p,hp,hl⟩:=c.bT id o h1;refine⟨p,by rw[k _ _ h1 h2];exact hp,?_⟩;rcases hl with hl|⟨hv,v,z,B⟩
  .exact .inl hl
  refine .inr ⟨hv,?_,by rw[t];exact z,?_⟩
  .cases r:G'.lM p.block with
   |none=>rfl
   |some x=>
    rcases e.lM _ _ r with g|g|⟨id0,o0,p0,g1,g2,g3,g4⟩
    .rw[v]at g;cases g
    .have:=c.ta h1 hp hv;omega
    grind
  rw[e.same p.block (c.ta h1 hp hv) (λid0 o0 p0 g1 g2 g3=>f id o p h1 h2 hp hv id0 o0 p0 g1 g2 g3)];exact u _ _ h1 h2 _ _ B
 .have kj:∀i j oi oj pi pj,σv'.bT i=U oi->σ.bT j=U oj->σv.bT j=No->G'.pl i=U pi->G'.pl j=U pj->pi.mF=IS->pj.mF=IS->pi.block≠pj.block:=by
   intro i j oi oj pi pj I a2 a3 a4 a5 J D O;have E:G.pl j=U pj:=by rw[<-k _ _ a2 a3];exact a5
   have K:=c.ta a2 E D;obtain⟨id0,o0,p0,g1,g2,g3,g4⟩:=e.live i oi pi I a4 J (by omega);exact f j oj pj a2 a3 E D id0 o0 p0 g1 g2 g3 (by omega)
  rcases l i oi h1 with a|⟨a,H⟩<;>rcases l j oj h2 with b|⟨b,M⟩
  .exact d.sep i j oi oj pi pj a b m q v1 v2 C
  .grind
  .grind
  exact c.sep i j oi oj pi pj a b (by rw[<-k _ _ a H];exact m) (by rw[<-k _ _ b M];exact q) v1 v2 C
 refine⟨e.size,λb r N=>e.same b r (λid o p h1 h2 m=>N id o p (h _ _ h1) h2 m),λid o p h1 h2 m q=>?_,λb o r=>?_,e.drawn⟩
 .rcases l id o h1 with a|⟨a,H⟩
  .obtain⟨id0,o0,p0,g1,g2,g3,g4⟩:=e.live id o p a h2 m q
   grind
  grind
 rcases e.lM b o r with g|g|⟨id0,o0,p0,g1,g2,g3,g4⟩
 .exact .inl g
 .exact .inr (.inl g)
 grind
def l7:List (Nat×b7)->Nat->Option b7
 | [],_=>No
 |p::l,i=>if i=p.1 then U p.2 else l7 l i
def mI:List (Nat×b7)->bg->bg
 | [],σ=>σ
 |p::l,σ=>(mI l σ).set p.1 p.2
theorem rQ(σ:bg)(i:Nat):∀H:List (Nat×b7),(mI H σ).bT i=match l7 H i with|some o=>U o|none=>σ.bT i
 | []=>rfl
 |p::l=>by
  simp only[mI,bg.l1,l7];split
  .rfl
  exact rQ σ i l
def yQ(σ:bg):∀H:List (Nat×b7),(mI H σ).next=σ.next
 | []=>rfl
 |p::l=>by simp only[mI,bg.F'];exact yQ σ l
def vw:∀ {H:List (Nat×b7)} {i:Nat} {o:b7},l7 H i=U o->(i,o)∈H
 | [],_,_,h=>by cases h
 |p::l,i,o,h=>by
  unfold l7 at h;split at h
  next e=>cases h;subst e;exact List.mem_cons_self
  exact List.mem_cons_of_mem _ (vw h)
def AS.mI(H:List (Nat×b7))(s:AS):AS:={ s with st:=Go.Ab.mI H s.st }
@[simp] theorem AS.sP (H:List (Nat×b7)) (s:AS):(s.mI H).st=Go.Ab.mI H s.st:=rfl
@[simp] theorem AS.bt9 (H:List (Nat×b7)) (s:AS):(s.mI H).n=s.n:=rfl
def q1:b7->Bool
 | .row _ _ es=>rH es
 |_=>IS
def aY9{G G':cb}(f:∀b o,G.lM b=U o->G'.lM b=U o){o:b7}(h:q1 o=IN){p:nm}{c:Option Obj}(hk:oc G p o c):oc G' p o c:=by
 cases o with
 |row e z es=>obtain⟨cs,g,k,l,m,d⟩:=hk;refine⟨cs,g,k,l,m,λi a7=>⟨(d i a7).1,λj hj a=>?_⟩⟩;exact rT f ((d i a7).2 j hj a) (ru (es:=es) (by simp only[ag.ki];exact h) i a7 j hj)
 |_=>simp[q1]at h
def j4.frame{P:Program}{n:Nat}{c:Code}{Q:Exit->AS->Prop}{s:AS}{H:List (Nat×b7)}(q:∀p∈H,p.1<n/\q1 p.2=IN/\s.st.bT p.1=No)(h:j4 P n c Q s) :
  j4 P n c (λe t=>∃s',Q e s'/\t=s'.mI H) (s.mI H):=by
 intro u G a w l;have b:∀i o,s.st.bT i=U o->(Go.Ab.mI H s.st).bT i=U o:=λi o f=>by
  rw[rQ];cases k:l7 H i with
  |none=>exact f
  |some o'=>have:=(q _ (vw k)).2.2;rw[show((i,o'):Nat×b7).1=i from rfl,f]at this;cases this
 have m:n<=s.st.next:=by have:(s.mI H).st.next=s.st.next:=yQ _ _;omega
 have r:np G s a w:=⟨l.defers,l.size,l.tmps,l.rel.less (yQ _ _).symm b⟩;refine wp_mono (h m G a w r) ?_;rintro e x w' ⟨s',G',g,d,v⟩;have j:∀id o,(Go.Ab.mI H s.st).bT id=U o->s.st.bT id=No->l7 H id=U o:=λid o h1 h2=>by grind[rQ,l7]
 have key:=Rel.au3 (σ:=Go.Ab.mI H s.st) (σv:=s.st) (σv':=s'.st) (σ':=Go.Ab.mI H s'.st) l.rel b d.rel g.bb g.mr
  (λid o h1 h2=>g.pl id (q _ (vw (j id o h1 h2))).1)
  (λid o h1 h2 p f=>aY9 g.lM (q _ (vw (j id o h1 h2))).2.1)
  (λid hid=>d.rel.fresh id (by rw[yQ]at hid;exact hid))
  (λid o f=>by
   rw[rQ]at f;cases k:l7 H id with
   |none=>rw[k]at f;exact .inl f
   |some o' =>
    rw[k]at f;simp only[ai]at f;subst f;exact .inr ⟨by rw[rQ,k],(q _ (vw k)).2.2⟩)
 refine⟨s'.mI H,G',⟨g.mr,g.lM,g.pl,?_,key.2⟩,⟨d.defers,d.size,d.tmps,key.1⟩,s',v,rfl⟩;have:(s'.mI H).st.next=s'.st.next:=yQ _ _;rw[this];exact g.lC
def j4.lower{P:Program}{n m:Nat}{c:Code}{Q:Exit->AS->Prop}{s:AS}(hm:m<=n)(f:n<=s.st.next)(h:j4 P n c Q s):j4 P m c Q s:=by intro _ G a w g;refine wp_mono (h f G a w g) ?_;rintro e k w' ⟨s',G',b,d,j⟩;exact⟨s',G',⟨b.mr,b.lM,λi a7=>b.pl i (by omega),bI hm b.lC,b.bb⟩,d,j⟩
def j4.raise{P:Program}{n k:Nat}{c:Code}{Q:Exit->AS->Prop}{s:AS}(hk:s.st.next<=k)(h:j4 P n c Q { s with st:={ s.st with next:=k } }):j4 P n c Q s:=by intro i G a w d;have f:np G { s with st:={ s.st with next:=k } } a w:=⟨d.defers,d.size,d.tmps,d.rel.next hk⟩;refine wp_mono (h (bI i hk) G a w f) ?_;rintro e l w' ⟨s',G',b,g,j⟩;exact⟨s',G',⟨b.mr,b.lM,b.pl,b.lC,(Fr.less (σ:=s.st) (σ':={ s.st with next:=k }) (λ_ _ h=>h)).trans b.bb⟩,g,j⟩
mutual
def ag.ids(p:Nat->Bool):ag->Bool
 | .ms id _ _ _=>p id
 | .mp id _ _=>p id
 | .lX id=>p id
 | .it id=>p id
 | .ea id _ _=>p id
 | .oN id _ _=>p id
 | .xs id _ _ _=>p id
 | .rs es=>te p es
 | .h8 cs=>rI p cs
 | .fn _ a c=>rI p a&&rI p c
 | .agg cs=>rI p cs
 | .fe cs=>rI p cs
 | .mx c=>c.ids p
 |_=>IN
def rI(p:Nat->Bool):List ag->Bool
 | []=>IN
 |c::cs=>c.ids p&&rI p cs
def te(p:Nat->Bool):List (List ag)->Bool
 | []=>IN
 |c::cs=>rI p c&&te p cs
end
def vy{p:Nat->Bool}:∀ {l:List ag},rI p l=IN->∀v∈l,v.ids p=IN
 | [],_,v,hv=>by cases hv
 |c::cs,h,v,hv=>by
  simp only[rI,ab]at h;rcases aI.1 hv with rfl|hv
  .exact h.1
  exact vy h.2 v hv
def CB{p:Nat->Bool}:∀ {l:List (List ag)},te p l=IN->∀r∈l,rI p r=IN
 | [],_,v,hv=>by cases hv
 |c::cs,h,v,hv=>by
  simp only[te,ab]at h;rcases aI.1 hv with rfl|hv
  .exact h.1
  exact CB h.2 v hv
mutual
theorem Ix(p:Nat->Bool):∀v:ag,v.ki=IN->v.ids p=IN
 | .bF _,_=>by simp[ag.ids]
 | .rs es,h=>by simp only[ag.ki]at h;simp only[ag.ids];exact V6 p es h
 | .h8 cs,h=>by simp only[ag.ki]at h;simp only[ag.ids];exact AO p cs h
 | .fn _ a c,h=>by simp only[ag.ki,ab]at h;simp only[ag.ids,ab];exact⟨AO p a h.1,AO p c h.2⟩
 | .agg cs,h=>by simp only[ag.ki]at h;simp only[ag.ids];exact AO p cs h
 | .fe cs,h=>by simp only[ag.ki]at h;simp only[ag.ids];exact AO p cs h
 | .mx c,h=>by simp only[ag.ki]at h;simp only[ag.ids];exact Ix p c h
 | .any,h=>by simp[ag.ki]at h
 | .ms ..,h=>by simp[ag.ki]at h
 | .mp ..,h=>by simp[ag.ki]at h
 | .lX _,h=>by simp[ag.ki]at h
 | .it _,h=>by simp[ag.ki]at h
 | .ek _,h=>by simp[ag.ki]at h
 | .ea ..,h=>by simp[ag.ki]at h
 | .oN ..,h=>by simp[ag.ki]at h
 | .xs ..,h=>by simp[ag.ki]at h
theorem AO(p:Nat->Bool):∀l:List ag,ri l=IN->rI p l=IN
 | [],_=>by simp[rI]
 |c::cs,h=>by simp only[ri,ab]at h;simp only[rI,ab];exact⟨Ix p c h.1,AO p cs h.2⟩
theorem V6(p:Nat->Bool):∀l:List (List ag),rH l=IN->te p l=IN
 | [],_=>by simp[te]
 |c::cs,h=>by simp only[rH,ab]at h;simp only[te,ab];exact⟨AO p c h.1,V6 p cs h.2⟩
end
mutual
theorem CM{θ:Nat->ag}(b:Fit θ)(p:Nat->Bool):∀v:ag,v.ids p=IN->(v.sub θ).ids p=IN
 | .bF _,_=>by simp[ag.sub,ag.ids]
 | .any,_=>by simp[ag.sub,ag.ids]
 | .ek i,_=>by rw[lQ];exact Ix p _ (b i).ki
 | .rs es,h=>by simp only[ag.ids]at h;simp only[ag.sub,ag.ids];exact Nr b p es h
 | .h8 cs,h=>by simp only[ag.ids]at h;simp only[ag.sub,ag.ids];exact AH b p cs h
 | .fn _ a c,h=>by simp only[ag.ids,ab]at h;simp only[ag.sub,ag.ids,ab];exact⟨AH b p a h.1,AH b p c h.2⟩
 | .agg cs,h=>by simp only[ag.ids]at h;simp only[ag.sub,ag.ids];exact AH b p cs h
 | .fe cs,h=>by simp only[ag.ids]at h;simp only[ag.sub,ag.ids];exact AH b p cs h
 | .mx c,h=>by simp only[ag.ids]at h;simp only[ag.sub,ag.ids];exact CM b p c h
 | .ms ..,h=>by simpa[ag.sub,ag.ids]using h
 | .mp ..,h=>by simpa[ag.sub,ag.ids]using h
 | .lX _,h=>by simpa[ag.sub,ag.ids]using h
 | .it _,h=>by simpa[ag.sub,ag.ids]using h
 | .ea ..,h=>by simpa[ag.sub,ag.ids]using h
 | .oN ..,h=>by simpa[ag.sub,ag.ids]using h
 | .xs ..,h=>by simpa[ag.sub,ag.ids]using h
theorem AH{θ:Nat->ag}(a:Fit θ)(p:Nat->Bool):∀l:List ag,rI p l=IN->rI p (mR θ l)=IN
 | [],_=>by simp[mR,rI]
 |c::cs,h=>by simp only[rI,ab]at h;simp only[mR,rI,ab];exact⟨CM a p c h.1,AH a p cs h.2⟩
theorem Nr{θ:Nat->ag}(a:Fit θ)(p:Nat->Bool):∀l:List (List ag),te p l=IN->te p (oA θ l)=IN
 | [],_=>by simp[oA,te]
 |c::cs,h=>by simp only[te,ab]at h;simp only[oA,te,ab];exact⟨AH a p c h.1,Nr a p cs h.2⟩
end
def Yq{G:cb}{ι:Nat->Option (Option Nat)}{p:Nat->Bool}(hp:∀i,p i=IN->ι i=U (U i)){v:ag}{u:Value}(o:lB G v u):v.ids p=IN->lB (G.og ι) v u:=by
 have e:∀i q,p i=IN->G.pl i=U q->(G.og ι).pl i=U q:=λi q a7 g=>by simp only[cb.og,hp i a7];exact g
 induction o with
 |any v=>intro _;exact .any v
 |bF v=>intro _;exact .bF v
 |qL=>intro _;exact .qL
 |rs es a cap size val hs hc hlen himm _ k=>intro h;simp only[ag.ids]at h;exact .rs es a cap size val hs hc hlen himm (λi j a7 hj=>k i j a7 hj (vy (CB h _ (au a7)) _ (au hj)))
 |h8 cs a val hs himm _ k=>intro h;simp only[ag.ids]at h;exact .h8 cs a val hs himm (λj hj=>k j hj (vy h _ (au hj)))
 |ms id size off len q g hv hz a c ha s hl hsp=>intro h;simp only[ag.ids]at h;exact .ms id size off len q (e _ _ h g) hv hz a c ha s hl hsp
 |n4 id size q g hv=>intro h;simp only[ag.ids]at h;exact .n4 id size q (e _ _ h g) hv
 |mp id i j q g=>intro h;simp only[ag.ids]at h;exact .mp id i j q (e _ _ h g)
 |lX id q g=>intro h;simp only[ag.ids]at h;exact .lX id q (e _ _ h g)
 |it id q g=>intro h;simp only[ag.ids]at h;exact .it id q (e _ _ h g)
 |mx rows b ents himm hlen qJ _ k=>
  intro h;simp only[ag.ids]at h;refine .mx rows b ents himm hlen qJ (λi a7 d=>k i a7 d ?_);have l:=CB h _ (au a7);generalize rows[i]=r at l;unfold nR;split
  .exact vy l _ (by simp)
  simp[ag.ids]
 |fn f first cap fv cv h1 h2 _ _ m n=>intro h;simp only[ag.ids,ab]at h;exact .fn f first cap fv cv h1 h2 (λi a7 d=>m i a7 d (vy h.1 _ (au a7))) (λi a7 d=>n i a7 d (vy h.2 _ (au a7)))
 |agg cs vs h1 _ k=>intro h;simp only[ag.ids]at h;exact .agg cs vs h1 (λi a7 d=>k i a7 d (vy h _ (au a7)))
 |fe cs vs h1 _ k=>intro h;simp only[ag.ids]at h;exact .fe cs vs h1 (λi a7 d=>k i a7 d (vy h _ (au a7)))
def nC.ids{ι:Nat->Option (Option Nat)}{p:Nat->Bool}(hp:∀i,p i=IN->ι i=U (U i)){v:ag}(h:v.ids p=IN):nC ι v v:=λ_ _ a=>Yq hp a h
def b7.ids(p:Nat->Bool):b7->Bool
 | .row _ _ es=>te p es
 | .map _ es _=>es.all λe=>e.2.1.ids p
 | .qe _ _=>IN
 | .se No _ _ _=>IN
 | .se (U i) _ _ _=>p i
 | .f' _ _ _=>IN
 | .mS c=>c.ids p
 | .nD ..=>IS
 | .pO _ _=>IN
def pK.ids{ι:Nat->Option (Option Nat)}{p:Nat->Bool}(hp:∀i,p i=IN->ι i=U (U i)){θ:Nat->ag}(g:Fit θ){o:b7}(h:o.ids p=IN):pK ι (o.sub θ) (o.sub θ):=by
 cases o with
 |row e z es=>simp only[b7.ids]at h;have h2:=Nr g p es h;rw[vE]at h2;refine⟨rfl,rfl,aw _,λi a7 l=>⟨rfl,λj hj t=>nC.ids hp ?_⟩⟩;exact vy (CB h2 _ (au a7)) _ (au hj)
 |map agg es c=>
  simp only[b7.ids]at h;refine⟨rfl,rfl,rfl,λi a7 l=>⟨rfl,nC.ids hp ?_,rfl⟩⟩;have d:i<es.length:=by simpa using a7
  simp only[cK];exact CM g p _ (ak.1 h _ (au d))
 |qe a b=>exact⟨rfl,rfl⟩
 |se m a b c=>
  cases m with
  |none=>exact⟨rfl,rfl,rfl⟩
  |some i=>exact⟨hp i h,rfl,rfl,rfl⟩
 |f' e z i=>
  refine⟨rfl,rfl,aw _,λa ha u=>⟨rfl,λb q v=>?_⟩⟩;rcases(g i).cases with⟨_,_,f⟩|⟨_,f⟩|⟨_,f⟩|⟨es,f⟩|⟨_,f⟩|⟨_,f⟩
  .simp[f,rowsOf]at ha
  .simp[f,rowsOf]at ha
  .simp[f,rowsOf]at ha
  .have n:=(g i).ki
   rw[f]at n;simp only[f,rowsOf]at ha q⊢;exact nC.ids hp (Ix p _ (ru n a ha b q))
  .simp[f,rowsOf]at ha
  simp[f,rowsOf]at ha
 |mS c=>
  simp only[b7.ids]at h;have h2:=CM g p c h;simp only[b7.sub];refine⟨rfl,rfl,rfl,λi a7 l=>⟨rfl,nC.ids hp ?_,rfl⟩⟩;have d:i<(rowsOf (c.sub θ)).length:=by rw[yw]at a7;exact a7
  rw[Ep _ _ _ a7 d];generalize c.sub θ=q5 at *;cases q5 with
  |rs es=>
   simp only[ag.ids]at h2;simp only[rowsOf]at d⊢;have k:=CB h2 _ (au d);generalize es[i]=r at k;unfold nR;split
   .exact vy k _ (by simp)
   simp[ag.ids]
  |_=>simp[rowsOf]at d
 |nD=>simp[b7.ids]at h
 |pO s p=>exact⟨rfl,rfl⟩
def uW(row:List ag)(c:Nat×TypeId×Nat):b7:=.row c.2.1 c.2.2 (rowsOf (row.getD c.1 (.rs [])))
def y_(r:Nat)(row:List ag):nO->List (Nat×b7)
 | []=>[]
 |c::cs=>(hid r c.1,uW row c)::y_ r row cs
def od(cc:nO):Nat->List (List ag)->List (Nat×b7)
 |_,[]=>[]
 |r,row::rows=>y_ r row cc++od cc (r+1) rows
def Fp{r c:Nat}(hc:c<16)(a:16*(r+1)<=mg):hid r c=16*r+c:=Nat.mod_eq_of_lt (by omega)
def Sz(i:Nat):∀a b:List (Nat×b7),l7 (a++b) i=match l7 a i with|some o=>U o|none=>l7 b i
 | [],b=>rfl
 |p::a,b=>by
  simp only[List.cons_append,l7];split
  .rfl
  exact Sz i a b
def SA{r:Nat}(b:16*(r+1)<=mg)(row:List ag)(i:Nat):∀ {cc:nO},(∀c∈cc,c.1<16)->l7 (y_ r row cc) i=if i / 16=r then(oY cc (i%16)).map (uW row)else No
 | [],_=>by simp[y_,l7,oY]
 |c::cs,hc=>by
  have h1:=hc c (by simp);have f:=SA b row i (cc:=cs) (λc hm=>hc c (by simp[hm]));simp only[y_,l7,Fp h1 b];by_cases e:i=16*r+c.1
  .have d:i / 16=r:=by omega
   have a:i%16=c.1:=by omega
   rw[b9 e,b9 d,a];simp[oY]
  rw[b8 e,f];split
  next d=>
   have a:aB c.1 (i%16)=IS:=by
    cases g:aB c.1 (i%16)with
    |false=>rfl
    |true=>have:=af g;omega
   simp[oY,a]
  rfl
def Hs{cc:nO}(hc:∀c∈cc,c.1<16)(i:Nat):∀(rows:List (List ag)) (a:Nat),16*(a+rows.length)<=mg->l7 (od cc a rows) i=if a<=i / 16 then(match rows[i / 16-a]? with|some row=>(oY cc (i%16)).map (uW row)|none=>No)else No
 | [],a,_=>by simp[od,l7]
 |row::rows,a,b=>by
  have f:=Hs hc i rows (a+1) (by simp at b;omega);simp only[od];rw[Sz,SA (by simp at b;omega) row i hc,f];by_cases e:i / 16=a
  .simp only[e,jj,aw,Nat.sub_self,List.getElem?_cons_zero]
   cases oY cc (i%16)with
   |some c=>rfl
   |none=>simp;intro h;omega
  simp only[e,j2];by_cases d:a<=i / 16
  .have g:a+1<=i / 16:=by omega
   have j:i / 16-a=(i / 16-(a+1))+1:=by omega
   rw[b9 g,b9 d,j,aM]
  rw[b8 (by omega),b8 d]
def w8(cc:nO)(rows:List (List ag)):Prop:=16*rows.length<=mg/\(∀c∈cc,c.1<16)/\(ag.rs rows).ki=IN/\∀r∈rows,∀c∈cc,∃xs,r[c.1]?=U (.rs xs)
def HQ{cc:nO}:∀ {rows:List (List ag)} {a:Nat} {p:Nat×b7},p∈od cc a rows->∃r row c,rows[r]?=U row/\c∈cc/\p=(hid (a+r) c.1,uW row c)
 | [],_,_,h=>by simp[od]at h
 |row::rows,a,p,h=>by
  simp only[od,aO]at h;rcases h with h|h
  .have aux:∀cs:nO,p∈y_ a row cs->∃c∈cs,p=(hid a c.1,uW row c):=by
    intro cs
    induction cs with
    |nil=>intro h;simp[y_]at h
    |cons c cs d=>
     intro h;simp only[y_,aI]at h;rcases h with h|h
     .exact⟨c,by simp,h⟩
     obtain⟨c',h1,h2⟩:=d h;exact⟨c',by simp[h1],h2⟩
   obtain⟨c,h1,h2⟩:=aux cc h;exact⟨0,row,c,by simp,h1,by simpa using h2⟩
  obtain⟨r,b,c,h1,h2,e⟩:=HQ h;exact⟨r+1,b,c,by simpa using h1,h2,by rw[e];congr 2;omega⟩
def Hv{cc:nO}{rows:List (List ag)}(h:w8 cc rows){p:Nat×b7}(hp:p∈od cc 0 rows):p.1<mg/\q1 p.2=IN:=by obtain⟨r,row,c,h1,h2,rfl⟩:=HQ hp;refine⟨wY _ _,?_⟩;obtain⟨e,rfl⟩:=ao.1 h1;obtain⟨xs,f⟩:=h.2.2.2 _ (au e) c h2;have a:=h.2.2.1;obtain⟨b,d⟩:=ao.1 f;have:=ru a r e c.1 b;rw[d]at this;simp only[uW,List.getD_eq_getElem?_getD,f,cg,rowsOf,q1];simpa only[ag.ki]using this
def nC.ki{ι:Nat->Option (Option Nat)}{v:ag}(h:v.ki=IN):nC ι v v:=λG _ a=>rT (G:=G) (G':=G.og ι) (λ_ _ b=>b) a h
def pK.q1{ι:Nat->Option (Option Nat)}{o:b7}(h:q1 o=IN):pK ι o o:=by
 cases o with
 |row e z es=>exact⟨rfl,rfl,aw _,λi a7 a=>⟨rfl,λj hj b=>nC.ki (ru (es:=es) (by simp only[ag.ki];exact h) i a7 j hj)⟩⟩
 |_=>simp[Go.Ab.q1]at h
def nC.ms{ι:Nat->Option (Option Nat)}{a b z o l:Nat}(h:ι a=U (U b)):nC ι (.ms a z o l) (.ms b z o l):=by
 intro G u d;cases d with
 |ms _ _ _ _ p hp hv hz e c f g hl hsp=>exact .ms a z o l p (by simp only[cb.og,h];exact hp) hv hz e c f g hl hsp
 |n4 _ _ p hp hv=>exact .n4 a z p (by simp only[cb.og,h];exact hp) hv
def nC.az6{ι:Nat->Option (Option Nat)}{a z:Nat}(h:ι a=U No):nC ι (.ms a z 0 0) (.bF (.slice No 0 0)):=by intro G u b;cases b;exact .n4 a z ⟨0,0,0,IN⟩ (by simp only[cb.og,h]) rfl
def Ha(cc:nO):∀(row:List ag) (a j:Nat),(qR cc a row)[j]?=(row[j]?).map (yW cc (a+j))
 | [],a,j=>by simp[qR]
 |v::vs,a,0=>by simp[qR]
 |v::vs,a,j+1=>by simp only[qR,aM];rw[Ha cc vs (a+1) j];congr 2;omega
def RA(cc:nO):∀(row:List ag) (a:Nat),(qR cc a row).length=row.length
 | [],_=>rfl
 |_::vs,a=>by simp[qR,RA cc vs]
def Al(cc:nO)(r j:Nat)(v:ag):vC cc r j v=match oY cc j with|some c=>.ms (hid r j) c.2.2 0 (rowsOf v).length|none=>v:=rfl
def pK.cells{ι:Nat->Option (Option Nat)}{e:TypeId}{z:Nat}{A B:List (List ag)}(hl:A.length=B.length)(h:∀(r:Nat) (a b:List ag),A[r]?=U a->B[r]?=U b->a.length=b.length/\∀(j:Nat) (x y:ag),a[j]?=U x->b[j]?=U y->nC ι x y):pK ι (.row e z A) (.row e z B):=by refine⟨rfl,rfl,kW hl,λi a7 c=>?_⟩;obtain⟨h1,h2⟩:=h i _ _ (ae a7) (ae c);exact⟨h1,λj hj d=>h2 j _ _ (ae hj) (ae d)⟩
def G_(q:Nat)(i:Nat):∀H:List (Nat×b7),l7 (H.filter (λp=>!Nat.beq p.1 q)) i=if i=q then No else l7 H i
 | []=>by simp[l7]
 |p::H=>by
  have b:=G_ q i H;by_cases e:p.1=q
  .have:aB p.1 q=IN:=by rw[bH];exact e
   simp only[bw,this,Bool.not_true,aq,j2,b,l7];by_cases a:i=q
   .simp[a]
   rw[b8 a,b8 a,b8 (by omega)]
  have:aB p.1 q=IS:=by
   cases c:aB p.1 q with
   |false=>rfl
   |true=>exact lH (af c) e
  simp only[bw,this,Bool.not_false,jj,l7,b];by_cases a:i=q
  .subst a;rw[b9 rfl,b8 (by omega)];simp
  rw[b8 a];simp[a]
def xx{cc:nO}{j:Nat}{c:Nat×TypeId×Nat}(h:oY cc j=U c):c∈cc/\c.1=j:=by refine⟨List.mem_of_find?_eq_some h,?_⟩;have:=List.find?_some h;exact af this
theorem NW{cc:nO}{r a j b n:Nat}(e:16*n<=mg)(f:r<n)(d:a<n)(hj:j<16)(c:b<16)(h:hid r j=hid a b):r=a/\j=b:=by rw[Fp hj (by omega),Fp c (by omega)]at h;omega
def Nt{cc:nO}(hc:∀c∈cc,c.1<16){rows:List (List ag)}(hl:16*rows.length<=mg){r j:Nat}{row:List ag}(a:rows[r]?=U row)(hj:j<16):l7 (od cc 0 rows) (hid r j)=(oY cc j).map (uW row):=by
 have b:=(ao.1 a).1;rw[Hs hc _ _ _ (by simpa using hl),Fp hj (by omega)];have d:(16*r+j) / 16=r:=by omega
 have e:(16*r+j)%16=j:=by omega
 simp only[d,e,Nat.zero_le,jj,Nat.sub_zero,a]
def Nu{cc:nO}{rows:List (List ag)}{i:Nat}(a7:mg<=i):l7 (od cc 0 rows) i=No:=by
 cases a:l7 (od cc 0 rows) i with
 |none=>rfl
 |some o=>obtain⟨r,row,c,_,_,j7⟩:=HQ (vw a);cases j7;have:=wY (0+r) c.1;omega
def rU(rows:List (List ag))(k off:Nat)(v:ag):List (List ag):=match rows[k]? with
 |some row=>rows.set k (row.set off v)
 |none=>rows
def Sj{rows:List (List ag)}{k off:Nat}{v:ag}{row:List ag}(a:rows[k]?=U row)(r:Nat):(rU rows k off v)[r]?=if r=k then U (row.set off v)else rows[r]?:=by
 have hk:=(ao.1 a).1;simp only[rU,a,cS];by_cases e:k=r
 .subst e;simp[hk]
 simp[e,Ne.symm e]
def D8{rows:List (List ag)}{k off:Nat}{v:ag}:(rU rows k off v).length=rows.length:=by unfold rU;split<;>simp
def w8.put{cc:nO}{rows:List (List ag)}(h:w8 cc rows){k off:Nat}{xs:List (List ag)}(m:(ag.rs xs).ki=IN):w8 cc (rU rows k off (.rs xs)):=by
 obtain⟨h1,h2,j,l⟩:=h;cases a:rows[k]? with
 |none=>
  have:rU rows k off (.rs xs)=rows:=by simp[rU,a]
  rw[this];exact⟨h1,h2,j,l⟩
 |some row=>
  have g:row∈rows:=aJ a;have f:∀r∈rU rows k off (.rs xs),r=row.set off (.rs xs)\/r∈rows:=λr b=>by
   obtain⟨i,a7⟩:=List.mem_iff_getElem?.1 b;rw[Sj a]at a7;split at a7
   .cases a7;exact .inl rfl
   exact .inr (aJ a7)
  refine⟨by rw[D8];exact h1,h2,?_,λr b c hc=>?_⟩
  .simp only[ag.ki,CJ,ak]at j m⊢
   intro r b x d;rcases f r b with rfl|b
   .rcases List.mem_or_eq_of_mem_set d with d|rfl
    .exact j row g x d
    simp only[ag.ki,CJ,ak];exact m
   exact j r b x d
  rcases f r b with rfl|b
  .obtain⟨ys,n⟩:=l row g c hc
   rw[cS];split
   next e=>
    have o:=(ao.1 n).1;rw[b9 (by omega)];exact⟨xs,rfl⟩
   exact⟨ys,n⟩
  exact l r b c hc
def uD(n:Nat)(R:List ag)(i:Nat):ag:=match cD i n with
 |true=>(R[n-1-i]?).getD (.bF (.bool IS))
 |false=>.bF (.bool IS)
theorem wP(R:List ag):env R.reverse=uD R.length R:=by grind[env,uD,cD,bc,bM]
def rZ(T:dd)(Φ:lb)(Q:ag->Prop)(r:mV)(n:Nat)(R:List ag)(A:Nat->List ag->Prop):Prop:=n=R.length->rV T Φ Q r R.reverse A
section
variable {T:dd} {Φ:lb} {Q:ag->Prop} {n:Nat} {R:List ag} {A:Nat->List ag->Prop}
def rZ.NQ{o:ml}{pat:ag}{r:mV}(vs:List ag)(he:fr T Φ (uD n R) o=U (pat.sub (uD (n+vs.length) (vs++R))))(hv:∀v∈vs,mW v)(h:rZ T Φ Q r (n+vs.length) (vs++R) A):rZ T Φ Q (.op o n pat r) n R A:=λa=>by
 subst a;have e:(vs++R).reverse=R.reverse++vs.reverse:=by simp
 refine rV.NQ vs.reverse (by grind[wP,fF]) (by simp) (λv hm=>hv v (by simpa using hm)) ?_;have:=h (by simp[fF]);rw[e]at this;exact this
def rZ.test{i:Nat}{a b:mV}(t:Bool)(a7:uD n R i=.bF (.bool t))(h1:t=IN->rZ T Φ Q a n R A)(h2:t=IS->rZ T Φ Q b n R A):rZ T Φ Q (.test i a b) n R A:=λc=>by subst c;exact rV.test t (by rw[wP];exact a7) (λh=>h1 h rfl) (λh=>h2 h rfl)
def rZ.Oo{c:ag}{l:List Nat}(hl:∀j∈l,∃es,uD n R j=.rs es)(h:Q (c.sub (uD n R))):rZ T Φ Q (.ret c l) n R A:=λa=>by subst a;exact rV.Oo (by rw[wP];exact hl) (by rw[wP];exact h)
def rZ.loop{k:Nat}{inits:List ag}{body:mV}(I:Nat->List ag->Prop)(d:body.er (n+k+1)=IN)(n0:Nat)(e:I n0 (inits.map (ag.sub (uD n R))))
  (h:∀m hi,I m hi->hi.length=k->rZ T Φ Q body (n+k+1) (.bF (.bool IS)::(hi.reverse++R)) (λb=>if b=n then(λa=>∃c,c<m/\I c a)else A b)):rZ T Φ Q (.loop n k inits body) n R A:=λf=>by
 subst f;refine rV.loop I (by simp) d n0 (by rw[wP];exact e) (λm hi a7 hl=>?_);have:=h m hi a7 hl (by simp[hl];omega);simpa using this
end
mutual
inductive dr where
 |int (k:IntKind)
 |bool
 |str
 |rO
 |nl
 |ft (l:bl)
 |agg (l:bl)
 |ptr (l:bl)
 |pa (l:bl)
 |fe (l:bl)
 |fn (g:Nat) (l:bl)
inductive bl where
 |nil
 |one (s:dr)
 |cons (s:dr) (l:bl)
end
mutual
@[reducible] def dr.T:dr->Type
 | .int _=>Int
 | .bool=>Bool
 | .str=>ByteArray
 | .rO=>Unit
 | .nl=>Unit
 | .ft l=>List l.T
 | .agg l=>l.T
 | .ptr l=>l.T
 | .pa l=>List l.T
 | .fe l=>l.T
 | .fn _ l=>l.T
@[reducible] def bl.T:bl->Type
 | .nil=>Unit
 | .one s=>s.T
 | .cons s l=>s.T×l.T
end
mutual
def enc:(s:dr)->s.T->ag
 | .int k,n=>.bF (.int k n)
 | .bool,b=>.bF (.bool b)
 | .str,s=>.bF (.string s)
 | .rO,_=>.bF (.bool IN)
 | .nl,_=>.bF (.slice No 0 0)
 | .ft l,xs=>.rs (xs.map (e8 l))
 | .agg l,x=>.agg (e8 l x)
 | .ptr l,x=>.h8 (e8 l x)
 | .pa l,xs=>.mx (.rs (xs.map (e8 l)))
 | .fe l,x=>.fe (e8 l x)
 | .fn g l,x=>.fn (.func g) [] (e8 l x)
def e8:(l:bl)->l.T->List ag
 | .nil,_=>[]
 | .one s,x=>[enc s x]
 | .cons s l,x=>enc s x.1::e8 l x.2
end
def IntKind.nJ:IntKind->IntKind->Bool
 | .i8,.i8=>IN
 | .i16,.i16=>IN
 | .i32,.i32=>IN
 | .i64,.i64=>IN
 | .u8,.u8=>IN
 | .u16,.u16=>IN
 | .u32,.u32=>IN
 | .u64,.u64=>IN
 |_,_=>IS
def IntKind.sa:∀ {a b:IntKind},IntKind.nJ a b=IN->a=b:=by intro a b h;cases a<;>cases b<;>first|rfl| (simp[IntKind.nJ]at h)
mutual
def dr.nJ:dr->dr->Bool
 | .int k,.int b=>IntKind.nJ k b
 | .bool,.bool=>IN
 | .str,.str=>IN
 | .rO,.rO=>IN
 | .nl,.nl=>IN
 | .ft l,.ft a=>l.nJ a
 | .agg l,.agg a=>l.nJ a
 | .ptr l,.ptr a=>l.nJ a
 | .pa l,.pa a=>l.nJ a
 | .fe l,.fe a=>l.nJ a
 | .fn g l,.fn c a=>aB g c&&l.nJ a
 |_,_=>IS
def bl.nJ:bl->bl->Bool
 | .nil,.nil=>IN
 | .one s,.one s'=>s.nJ s'
 | .cons s l,.cons s' a=>s.nJ s'&&l.nJ a
 |_,_=>IS
end
mutual
theorem dr.sa:∀(a b:dr),a.nJ b=IN->a=b
 | .int k,b,h=>by cases b<;>simp[dr.nJ]at h;rw[IntKind.sa h]
 | .bool,b,h=>by cases b<;>simp[dr.nJ]at h;rfl
 | .str,b,h=>by cases b<;>simp[dr.nJ]at h;rfl
 | .rO,b,h=>by cases b<;>simp[dr.nJ]at h;rfl
 | .nl,b,h=>by cases b<;>simp[dr.nJ]at h;rfl
 | .ft l,b,h=>by cases b<;>simp[dr.nJ]at h;rw[bl.sa l _ h]
 | .agg l,b,h=>by cases b<;>simp[dr.nJ]at h;rw[bl.sa l _ h]
 | .ptr l,b,h=>by cases b<;>simp[dr.nJ]at h;rw[bl.sa l _ h]
 | .pa l,b,h=>by cases b<;>simp[dr.nJ]at h;rw[bl.sa l _ h]
 | .fe l,b,h=>by cases b<;>simp[dr.nJ]at h;rw[bl.sa l _ h]
 | .fn g l,b,h=>by cases b<;>simp[dr.nJ]at h;rw[h.1,bl.sa l _ h.2]
theorem bl.sa:∀(a b:bl),a.nJ b=IN->a=b
 | .nil,b,h=>by cases b<;>simp[bl.nJ]at h;rfl
 | .one s,b,h=>by cases b<;>simp[bl.nJ]at h;rw[dr.sa s _ h]
 | .cons s l,b,h=>by cases b<;>simp[bl.nJ]at h;rw[dr.sa s _ h.1,bl.sa l _ h.2]
end
def Bo{a b:dr}(h:a.nJ b=IN)(x:a.T):b.T:=(dr.sa a b h)▸x
def Cj{a b:dr}(h:a.nJ b=IN)(x:a.T):enc b (Bo h x)=enc a x:=by have:=dr.sa a b h;subst this;rfl
def bl.len:bl->Nat
 | .nil=>0
 | .one _=>1
 | .cons _ l=>l.len+1
theorem sm:∀(l:bl) (x:l.T),(e8 l x).length=l.len
 | .nil,_=>rfl
 | .one _,_=>rfl
 | .cons s l,x=>by simp[e8,bl.len,sm l x.2]
mutual
theorem Oe:∀(s:dr) (x:s.T),(enc s x).ki=IN
 | .int _,_=>rfl
 | .bool,_=>rfl
 | .str,_=>rfl
 | .rO,_=>rfl
 | .nl,_=>rfl
 | .ft l,xs=>by simp only[enc,ag.ki,CJ,dV,ak];intro x _;exact xE l x
 | .agg l,x=>by simp only[enc,ag.ki,uP];exact xE l x
 | .ptr l,x=>by simp only[enc,ag.ki,uP];exact xE l x
 | .pa l,xs=>by simp only[enc,ag.ki,CJ,dV,ak];intro x _;exact xE l x
 | .fe l,x=>by simp only[enc,ag.ki,uP];exact xE l x
 | .fn g l,x=>by simp only[enc,ag.ki,uP,ij,Bool.true_and];exact xE l x
theorem xE:∀(l:bl) (x:l.T),(e8 l x).all ag.ki=IN
 | .nil,_=>rfl
 | .one s,x=>by simp only[e8,cE,ij,fZ];exact Oe s x
 | .cons s l,x=>by simp only[e8,cE,Oe s x.1,xE l x.2,e_]
end
def dr.cell:dr->Bool
 | .int _=>IN
 | .bool=>IN
 | .str=>IN
 | .ft _=>IN
 | .ptr _=>IN
 | .pa _=>IN
 |_=>IS
def bq1{s:dr}(h:s.cell=IN)(x:s.T):mW (enc s x):=by have hp:=Oe s x;cases s<;>simp[dr.cell]at h<;>simp only[enc]at hp⊢<;>first|trivial|exact hp
def Env:List dr->Type
 | []=>Unit
 |s::Γ=>s.T×Env Γ
def pw:(Γ:List dr)->Env Γ->List ag
 | [],_=>[]
 |s::Γ,e=>enc s e.1::pw Γ e.2
theorem tp:∀(Γ:List dr) (e:Env Γ),(pw Γ e).length=Γ.length
 | [],_=>rfl
 |s::Γ,e=>by simp[pw,tp Γ e.2]
def pz(Γ:List dr)(e:Env Γ):Nat->ag:=uD Γ.length (pw Γ e)
def Dw:(Γ:List dr)->Nat->(s:dr)->Option (Env Γ->s.T)
 | [],_,_=>No
 |g::_,0,s=>match h:g.nJ s with
  |true=>U λe=>Bo h e.1
  |false=>No
 |_::Γ,j+1,s=>match Dw Γ j s with
  |some f=>U λe=>f e.2
  |none=>No
def VV:∀(Γ:List dr) (j:Nat) (s:dr) (f:Env Γ->s.T),Dw Γ j s=U f->∀e,(pw Γ e)[j]?=U (enc s (f e))
 | [],_,_,_,h,_=>by simp[Dw]at h
 |g::Γ,0,s,f,h,e=>by
  unfold Dw at h;split at h
  next b=>
   cases h;simp[pw,Cj]
  cases h
 |g::Γ,j+1,s,f,h,e=>by
  unfold Dw at h;split at h
  next a hf=>
   cases h;have:=VV Γ j s a hf e.2;simpa[pw]using this
  cases h
def zR(Γ:List dr)(i:Nat)(s:dr):Option (Env Γ->s.T):=match cD i Γ.length with
 |true=>Dw Γ (Γ.length-1-i) s
 |false=>No
def NY{Γ:List dr}{i:Nat}{s:dr}{f:Env Γ->s.T}(h:zR Γ i s=U f)(e:Env Γ):pz Γ e i=enc s (f e):=by
 unfold zR at h;split at h
 next a=>
  have:=VV Γ _ s f h e;unfold pz uD;rw[a];simp only[this,cg]
 cases h
def Wm(Γ:List dr)(i:Nat):Option dr:=match cD i Γ.length with
 |true=>Γ[Γ.length-1-i]?
 |false=>No
def Ko:Value->(s:dr)->Option s.T
 | .int k n,.int a=>match IntKind.nJ k a with
  |true=>U n
  |false=>No
 | .bool b,.bool=>U b
 | .string s,.str=>U s
 | .slice No 0 0,.nl=>U ()
 |_,_=>No
def X1{v:Value}{s:dr}{x:s.T}(h:Ko v s=U x):ag.bF v=enc s x:=by
 unfold Ko at h;split at h
 .split at h
  next a=>
   cases h;rw[IntKind.sa a];rfl
  cases h
 .cases h;rfl
 .cases h;rfl
 .rfl
 cases h
mutual
def lD(Γ:List dr):ag->(s:dr)->Option (Env Γ->s.T)
 | .ek i,s=>zR Γ i s
 | .bF v,s=>match Ko v s with
  |some x=>U λ_=>x
  |none=>No
 | .agg cs,.agg l=>qD Γ cs l
 | .fe cs,.fe l=>qD Γ cs l
 | .h8 cs,.ptr l=>qD Γ cs l
 | .rs es,.ft l=>Gu Γ es l
 | .mx c,.pa l=>lD Γ c (.ft l)
 | .fn (.func g) [] c,.fn a l=>match aB g a with
  |true=>qD Γ c l
  |false=>No
 |_,_=>No
def qD(Γ:List dr):List ag->(l:bl)->Option (Env Γ->l.T)
 | [],.nil=>U λ_=>()
 | [a],.one s=>lD Γ a s
 |a::az,.cons s l=>match lD Γ a s with
  |some f=>match qD Γ az l with
   |some g=>U λe=>(f e,g e)
   |none=>No
  |none=>No
 |_,_=>No
def Gu(Γ:List dr):List (List ag)->(l:bl)->Option (Env Γ->List l.T)
 | [],_=>U λ_=>[]
 |r::rs,l=>match qD Γ r l with
  |some f=>match Gu Γ rs l with
   |some g=>U λe=>f e::g e
   |none=>No
  |none=>No
end
mutual
theorem lO{Γ:List dr}:∀(a:ag) (s:dr) (f:Env Γ->s.T),lD Γ a s=U f->∀e,a.sub (pz Γ e)=enc s (f e)
 | .ek i,s,f,h,e=>by simp only[lD]at h;simp only[ag.sub];exact NY h e
 | .bF v,s,f,h,e=>by
  simp only[lD]at h;split at h
  next x b=>cases h;simp only[ag.sub];exact X1 b
  cases h
 | .agg cs,s,f,h,e=>by
  cases s<;>simp only[lD]at h<;>try (cases h;done)
  simp only[ag.sub,enc,wF cs _ _ h e]
 | .fe cs,s,f,h,e=>by
  cases s<;>simp only[lD]at h<;>try (cases h;done)
  simp only[ag.sub,enc,wF cs _ _ h e]
 | .h8 cs,s,f,h,e=>by
  cases s<;>simp only[lD]at h<;>try (cases h;done)
  simp only[ag.sub,enc,wF cs _ _ h e]
 | .rs es,s,f,h,e=>by
  cases s<;>simp only[lD]at h<;>try (cases h;done)
  simp only[ag.sub,enc,VP es _ _ h e]
 | .mx c,s,f,h,e=>by
  cases s<;>simp only[lD]at h<;>try (cases h;done)
  simp only[ag.sub,enc,lO c _ _ h e]
 | .fn g a c,s,f,h,e=>by
  cases g<;>cases a<;>cases s<;>simp only[lD]at h<;>try (cases h;done)
  split at h
  next d=>
   have:=af d;subst this;simp only[ag.sub,enc,wF c _ _ h e,mR]
  cases h
 | .any,s,f,h,e=>by cases s<;>simp only[lD]at h<;>cases h
 | .ms _ _ _ _,s,f,h,e=>by cases s<;>simp only[lD]at h<;>cases h
 | .mp _ _ _,s,f,h,e=>by cases s<;>simp only[lD]at h<;>cases h
 | .lX _,s,f,h,e=>by cases s<;>simp only[lD]at h<;>cases h
 | .it _,s,f,h,e=>by cases s<;>simp only[lD]at h<;>cases h
 | .ea _ _ _,s,f,h,e=>by cases s<;>simp only[lD]at h<;>cases h
 | .oN _ _ _,s,f,h,e=>by cases s<;>simp only[lD]at h<;>cases h
 | .xs _ _ _ _,s,f,h,e=>by cases s<;>simp only[lD]at h<;>cases h
theorem wF{Γ:List dr}:∀(az:List ag) (l:bl) (f:Env Γ->l.T),qD Γ az l=U f->∀e,mR (pz Γ e) az=e8 l (f e)
 | [],l,f,h,e=>by
  cases l<;>simp only[qD]at h<;>try (cases h;done)
  rfl
 | [a],l,f,h,e=>by
  cases l with
  |nil=>simp only[qD]at h;cases h
  |one s=>simp only[qD]at h;simp only[mR,e8,lO a s f h e]
  |cons s l=>
   simp only[qD]at h;split at h
   next c hf=>
    split at h
    next g d=>
     cases h;have:=wF [] l g (by simpa only[qD]using d) e;simp only[mR]at this;simp only[mR,e8,lO a s c hf e,<-this]
    cases h
   cases h
 |a::b::az,l,f,h,e=>by
  cases l with
  |nil=>simp only[qD]at h;cases h
  |one s=>simp only[qD]at h;cases h
  |cons s l=>
   simp only[qD]at h;split at h
   next c hf=>
    split at h
    next g d=>
     cases h;have:=wF (b::az) l g d e;rw[mR,e8,lO a s c hf e,this]
    cases h
   cases h
theorem VP{Γ:List dr}:∀(es:List (List ag)) (l:bl) (f:Env Γ->List l.T),Gu Γ es l=U f->∀e,oA (pz Γ e) es=(f e).map (e8 l)
 | [],l,f,h,e=>by simp only[Gu]at h;cases h;rfl
 |r::rs,l,f,h,e=>by
  simp only[Gu]at h;split at h
  next a hf=>
   split at h
   next g b=>
    cases h;simp only[oA,ay,wF r l a hf e,VP rs l g b e]
   cases h
  cases h
end
def bl.ofList:List dr->bl
 | []=>.nil
 | [s]=>.one s
 |s::t=>.cons s (bl.ofList t)
mutual
def mM(Γ:List dr):ag->Option dr
 | .ek i=>Wm Γ i
 | .bF (.int k _)=>U (.int k)
 | .bF (.bool _)=>U .bool
 | .bF (.string _)=>U .str
 | .bF (.slice No 0 0)=>U .nl
 | .agg cs=>match Kg Γ cs with
  |some l=>U (.agg (bl.ofList l))
  |none=>No
 | .h8 cs=>match Kg Γ cs with
  |some l=>U (.ptr (bl.ofList l))
  |none=>No
 | .rs (r::_)=>match Kg Γ r with
  |some l=>U (.ft (bl.ofList l))
  |none=>No
 | .mx c=>match mM Γ c with
  |some (.ft l)=>U (.pa l)
  |_=>No
 |_=>No
def Kg(Γ:List dr):List ag->Option (List dr)
 | []=>U []
 |a::az=>match mM Γ a with
  |some s=>match Kg Γ az with
   |some l=>U (s::l)
   |none=>No
  |none=>No
end
structure Ext(X:Type)(Γ:List dr) where
 Γ':List dr
 push:X->Env Γ->Env Γ'
def K4:Value->(s:dr)->(Γ:List dr)->Option (Ext s.T Γ)
 | .bool b,.rO,Γ=>match b with
  |true=>U ⟨Γ,λ_ e=>e⟩
  |false=>No
 |_,_,_=>No
mutual
def qG:ag->(s:dr)->(Γ:List dr)->Option (Ext s.T Γ)
 | .ek i,s,Γ=>match aB i Γ.length&&s.cell with
  |true=>U ⟨s::Γ,λv e=>(v,e)⟩
  |false=>No
 | .bF w,s,Γ=>K4 w s Γ
 | .agg cs,.agg l,Γ=>r_ cs l Γ
 | .h8 cs,.ptr l,Γ=>r_ cs l Γ
 | .fe cs,.fe l,Γ=>r_ cs l Γ
 | .fn (.func g) [] cs,.fn g2 l,Γ=>match aB g g2 with
  |true=>r_ cs l Γ
  |false=>No
 |_,_,_=>No
def r_:List ag->(l:bl)->(Γ:List dr)->Option (Ext l.T Γ)
 | [],.nil,Γ=>U ⟨Γ,λ_ e=>e⟩
 | [a],.one s,Γ=>qG a s Γ
 |a::az,.cons s l,Γ=>match qG a s Γ with
  |some ⟨b,mb⟩=>match r_ az l b with
   |some ⟨c,mn⟩=>U ⟨c,λv e=>mn v.2 (mb v.1 e)⟩
   |none=>No
  |none=>No
 |_,_,_=>No
end
def O6{Γ:List dr}{X:Type}(x:Ext X Γ)(sub:(Nat->ag)->Prop)(v:X)(e:Env Γ):Prop :=∃vs,pw x.Γ' (x.push v e)=vs++pw Γ e/\(∀u∈vs,mW u)/\∀us,sub (uD (us++(vs++pw Γ e)).length (us++(vs++pw Γ e)))
def Yo(us:List ag)(v:ag)(R:List ag):uD (us++(v::R)).length (us++(v::R)) R.length=v:=by
 unfold uD;have h:cD R.length (us++(v::R)).length=IN:=by rw[bc];simp;omega
 rw[h];simp only;have h2:(us++(v::R)).length-1-R.length=us.length:=by simp
 rw[h2];simp
def bm6{w:Value}{s:dr}{Γ:List dr}{x:Ext s.T Γ}(h:K4 w s Γ=U x)(v:s.T)(e:Env Γ):O6 x (λθ=>(ag.bF w).sub θ=enc s v) v e:=by
 unfold K4 at h;split at h
 .split at h
  .cases h
   exact⟨[],rfl,by simp,λus=>rfl⟩
  cases h
 cases h
mutual
theorem H4:∀(a:ag) (s:dr) (Γ:List dr) (x:Ext s.T Γ),qG a s Γ=U x->∀v e,O6 x (λθ=>a.sub θ=enc s v) v e
 | .ek i,s,Γ,x,h,v,e=>by
  simp only[qG]at h;split at h
  next d=>
   cases h;simp only[ab]at d;have a7:=af d.1;refine⟨[enc s v],rfl,?_,λus=>?_⟩
   .intro u hu
    simp only[aG]at hu;subst hu;exact bq1 d.2 v
   simp only[ag.sub];rw[a7,<-tp Γ e];exact Yo us _ _
  cases h
 | .bF w,s,Γ,x,h,v,e=>by simp only[qG]at h;exact bm6 h v e
 | .agg cs,s,Γ,x,h,v,e=>by
  cases s<;>simp only[qG]at h<;>try (cases h;done)
  rename_i l;obtain⟨vs,h1,h2,b⟩:=yS cs l Γ x h v e;exact⟨vs,h1,h2,λus=>by simp only[ag.sub,enc,b us]⟩
 | .h8 cs,s,Γ,x,h,v,e=>by
  cases s<;>simp only[qG]at h<;>try (cases h;done)
  rename_i l;obtain⟨vs,h1,h2,b⟩:=yS cs l Γ x h v e;exact⟨vs,h1,h2,λus=>by simp only[ag.sub,enc,b us]⟩
 | .fe cs,s,Γ,x,h,v,e=>by
  cases s<;>simp only[qG]at h<;>try (cases h;done)
  rename_i l;obtain⟨vs,h1,h2,b⟩:=yS cs l Γ x h v e;exact⟨vs,h1,h2,λus=>by simp only[ag.sub,enc,b us]⟩
 | .rs _,s,Γ,x,h,v,e=>by cases s<;>simp only[qG]at h<;>cases h
 | .mx _,s,Γ,x,h,v,e=>by cases s<;>simp only[qG]at h<;>cases h
 | .fn g a c,s,Γ,x,h,v,e=>by
  cases g<;>cases a<;>cases s<;>simp only[qG]at h<;>try (cases h;done)
  split at h
  next d=>
   have:=af d;subst this;obtain⟨vs,h1,h2,b⟩:=yS c _ Γ x h v e;exact⟨vs,h1,h2,λus=>by simp only[ag.sub,enc,b us,mR]⟩
  cases h
 | .any,s,Γ,x,h,v,e=>by cases s<;>simp only[qG]at h<;>cases h
 | .ms _ _ _ _,s,Γ,x,h,v,e=>by cases s<;>simp only[qG]at h<;>cases h
 | .mp _ _ _,s,Γ,x,h,v,e=>by cases s<;>simp only[qG]at h<;>cases h
 | .lX _,s,Γ,x,h,v,e=>by cases s<;>simp only[qG]at h<;>cases h
 | .it _,s,Γ,x,h,v,e=>by cases s<;>simp only[qG]at h<;>cases h
 | .ea _ _ _,s,Γ,x,h,v,e=>by cases s<;>simp only[qG]at h<;>cases h
 | .oN _ _ _,s,Γ,x,h,v,e=>by cases s<;>simp only[qG]at h<;>cases h
 | .xs _ _ _ _,s,Γ,x,h,v,e=>by cases s<;>simp only[qG]at h<;>cases h
theorem yS:∀(az:List ag) (l:bl) (Γ:List dr) (x:Ext l.T Γ),r_ az l Γ=U x->∀v e,O6 x (λθ=>mR θ az=e8 l v) v e
 | [],l,Γ,x,h,v,e=>by
  cases l<;>simp only[r_]at h<;>try (cases h;done)
  cases h;exact⟨[],rfl,by simp,λus=>rfl⟩
 | [a],l,Γ,x,h,v,e=>by
  cases l with
  |nil=>simp only[r_]at h;cases h
  |one s=>simp only[r_]at h;obtain⟨vs,h1,h2,j⟩:=H4 a s Γ x h v e;exact⟨vs,h1,h2,λus=>by simp only[mR,e8,j us]⟩
  |cons s l=>
   simp only[r_]at h;split at h
   next f mb hf=>
    split at h
    next m mn n=>
     cases h;obtain⟨vs,h1,h2,j⟩:=H4 a s Γ _ hf v.1 e;obtain⟨c,d,g,i⟩:=yS [] l f _ (by simpa only[r_]using n) v.2 (mb v.1 e);simp only at h1 d;refine⟨c++vs,by simp only[d,h1,cx],?_,λus=>?_⟩
     .intro u hu
      rcases aO.1 hu with hu|hu
      .exact g u hu
      exact h2 u hu
     have k:=j (us++c);have a2:=i us;rw[h1]at a2;simp only[cx]at k a2⊢;rw[mR,e8,k,<-a2]
    cases h
   cases h
 |a::b::az,l,Γ,x,h,v,e=>by
  cases l with
  |nil=>simp only[r_]at h;cases h
  |one s=>simp only[r_]at h;cases h
  |cons s l=>
   simp only[r_]at h;split at h
   next f mb hf=>
    split at h
    next m mn n=>
     cases h;obtain⟨vs,h1,h2,j⟩:=H4 a s Γ _ hf v.1 e;obtain⟨c,d,g,i⟩:=yS (b::az) l f _ n v.2 (mb v.1 e);simp only at h1 d;refine⟨c++vs,by simp only[d,h1,cx],?_,λus=>?_⟩
     .intro u hu
      rcases aO.1 hu with hu|hu
      .exact g u hu
      exact h2 u hu
     have k:=j (us++c);have a2:=i us;rw[h1]at a2;simp only[cx]at k a2⊢;rw[mR,e8,k,<-a2]
    cases h
   cases h
end
structure fp where
 f:FuncId
 nq:bl
 ng:dr
 fn:nq.T->Option ng.T
def fp.Ok(Φ:lb)(t:fp):Prop:=∀x r,t.fn x=U r->∃φ,Φ t.f=U φ/\φ (e8 t.nq x)=U (enc t.ng r)
structure lW(Γ:List dr) where
 s:dr
 g:Env Γ->Option s.T
def lW.Ok(T:dd)(Φ:lb){Γ:List dr}(o:ml)(t:lW Γ):Prop:=∀e v,t.g e=U v->fr T Φ (pz Γ e) o=U (enc t.s v)
def Lm(o:BinOp)(k:IntKind):Option ((s:dr)×(Int->Int->Option s.T)):=match o with
 | .add=>U ⟨.int k,λa b=>U (k.wrap (a+b))⟩
 | .sub=>U ⟨.int k,λa b=>U (k.wrap (a-b))⟩
 | .mul=>U ⟨.int k,λa b=>U (k.wrap (a*b))⟩
 | .quo=>U ⟨.int k,λa b=>bif IT (b=0)then No else U (k.wrap (a.tdiv b))⟩
 | .rem=>U ⟨.int k,λa b=>bif IT (b=0)then No else U (a.tmod b)⟩
 | .and=>U ⟨.int k,λa b=>U (k.wrap (de k.bits a &&& de k.bits b).toNat)⟩
 | .or=>U ⟨.int k,λa b=>U (k.wrap (de k.bits a |||de k.bits b).toNat)⟩
 | .eql=>U ⟨.bool,λa b=>U (IT (a=b))⟩
 | .neq=>U ⟨.bool,λa b=>U (!decide (a=b))⟩
 | .lss=>U ⟨.bool,λa b=>U (IT (a<b))⟩
 | .leq=>U ⟨.bool,λa b=>U (IT (a<=b))⟩
 | .gtr=>U ⟨.bool,λa b=>U (IT (b<a))⟩
 | .geq=>U ⟨.bool,λa b=>U (IT (b<=a))⟩
 |_=>No
def YL{T:dd}{o:BinOp}{k:IntKind}{q:(s:dr)×(Int->Int->Option s.T)}(h:Lm o k=U q){a b:Int}{v:q.1.T}(hv:q.2 a b=U v)(t:TypeId):qH T o t (.bF (.int k a)) (.bF (.int k b))=U (enc q.1 v):=by
 unfold Lm at h;split at h<;>first| (cases h;done)|skip
 all_goals (cases h;simp only[ai]at hv)
 case h_4=>
  by_cases c:b=0
  .simp[c]at hv
  simp only[c,mD,ct,ai]at hv;subst hv;simp[qH,ye,enc,c]
 case h_5=>
  by_cases c:b=0
  .simp[c]at hv
  simp only[c,mD,ct,ai]at hv;subst hv;simp[qH,ye,enc,c]
 all_goals (subst hv;simp[qH,ye,enc])
 .rfl
 rfl
def Oy(o:BinOp)(k:IntKind):Option (Int->Int->Option Int):=match o with
 | .shl=>U λa b=>bif IT (b<0)then No else U (k.wrap (a*2^(min b.toNat k.bits)))
 | .shr=>U λa b=>bif IT (b<0)then No else U (a.fdiv (2^(min b.toNat k.bits)))
 |_=>No
def aX9{T:dd}{o:BinOp}{k d:IntKind}{q:Int->Int->Option Int}(h:Oy o k=U q){a b v:Int}(hv:q a b=U v)(t:TypeId):qH T o t (.bF (.int k a)) (.bF (.int d b))=U (.bF (.int k v)):=by
 unfold Oy at h;split at h<;>first| (cases h;done)|skip
 all_goals
  cases h;by_cases c:b<0
  .simp[c]at hv
  simp only[c,mD,ct,ai]at hv;subst hv;simp[qH,ye,c]
def vc:(l:bl)->Option (l.T->l.T->Bool)
 | .one (.int .i64)=>U λa b=>IT (a=b)
 | .cons (.int .i64) l=>match vc l with
  |some g=>U λa b=>IT (a.1=b.1)&&g a.2 b.2
  |none=>No
 |_=>No
def WK:∀(l:bl) (g:l.T->l.T->Bool),vc l=U g->∃ints:l.T->List Int,(∀x,ag.uo (e8 l x)=U (ints x)/\(ints x).length=l.len)/\∀a b,(ints a==ints b)=g a b
 | .nil,g,h=>by simp[vc]at h
 | .one s,g,h=>by
  cases s with
  |int k=>
   cases k<;>simp only[vc]at h<;>try (cases h;done)
   cases h;refine⟨λx=>[x],λx=>⟨rfl,rfl⟩,λa b=>?_⟩;by_cases c:a=b<;>simp[c]
  |_=>simp[vc]at h
 | .cons s l,g,h=>by
  cases s with
  |int k=>
   cases k<;>simp only[vc]at h<;>try (cases h;done)
   split at h
   next e f=>
    cases h;obtain⟨ints,h1,h2⟩:=WK l e f;refine⟨λx=>x.1::ints x.2,λx=>⟨?_,by simp[bl.len,(h1 x.2).2]⟩,λa b=>?_⟩
    .simp only[e8,enc,ag.uo,(h1 x.2).1]
    have i:∀(p q:Int) (x y:List Int),((p::x)==(q::y))=(IT (p=q)&&(x==y)):=λp q x y=>by by_cases d:p=q<;>simp[d]
    rw[i,h2]
   cases h
  |_=>simp[vc]at h
def OE(T:dd)(Γ:List dr)(o:BinOp)(t:TypeId)(x y:ag):Option (lW Γ):=match mM Γ x with
 |some (.int k)=>match lD Γ x (.int k)with
  |some k6=>match Oy o k with
   |some q=>match mM Γ y with
    |some (.int b)=>match lD Γ y (.int b)with
     |some a=>U ⟨.int k,λe=>q (k6 e) (a e)⟩
     |none=>No
    |_=>No
   |none=>match lD Γ y (.int k)with
    |some a=>match Lm o k with
     |some q=>U ⟨q.1,λe=>q.2 (k6 e) (a e)⟩
     |none=>No
    |none=>No
  |none=>No
 |some .bool=>match lD Γ x .bool with
  |some k6=>match lD Γ y .bool with
   |some a=>match T t with
    |some { fT:=.bool,.. }=>match o with
     | .eql=>U ⟨.bool,λe=>U (k6 e==a e)⟩
     | .neq=>U ⟨.bool,λe=>U (!(k6 e==a e))⟩
     |_=>No
    |_=>No
   |none=>No
  |none=>No
 |some .str=>match lD Γ x .str with
  |some k6=>match lD Γ y .str with
   |some a=>match o with
    | .eql=>U ⟨.bool,λe=>U ((k6 e).toList==(a e).toList)⟩
    | .neq=>U ⟨.bool,λe=>U (!((k6 e).toList==(a e).toList))⟩
    |_=>No
   |none=>No
  |none=>No
 |some (.agg l)=>match lD Γ x (.agg l)with
  |some k6=>match lD Γ y (.agg l)with
   |some a=>match vc l with
    |some q=>match T t with
     |some ti=>match ti.flat with
      |some n=>match aB n l.len with
       |true=>match o with
        | .eql=>U ⟨.bool,λe=>U (q (k6 e) (a e))⟩
        | .neq=>U ⟨.bool,λe=>U (!(q (k6 e) (a e)))⟩
        |_=>No
       |false=>No
      |none=>No
     |none=>No
    |none=>No
   |none=>No
  |none=>No
 |_=>No
def Zc{T:dd}{Φ:lb}{Γ:List dr}{o:BinOp}{t:TypeId}{x y:ag}{r:lW Γ}(h:OE T Γ o t x y=U r):r.Ok T Φ (.bin o t x y):=by
 intro e v hv;unfold OE at h;split at h
 .split at h
  next k6 b=>
   split at h
   next q c=>
    split at h
    .split at h
     next f a=>
      cases h;simp only[fr,lO _ _ _ b e,lO _ _ _ a e,enc];exact aX9 c hv t
     cases h
    cases h
   split at h
   next f a=>
    split at h
    next q c=>
     cases h;simp only[fr,lO _ _ _ b e,lO _ _ _ a e];exact YL c hv t
    cases h
   cases h
  cases h
 .split at h
  next k6 b=>
   split at h
   next f a=>
    split at h
    next d=>
     split at h
     .cases h;cases hv
      simp[fr,lO _ _ _ b e,lO _ _ _ a e,enc,qH,d]
     .cases h;cases hv
      simp[fr,lO _ _ _ b e,lO _ _ _ a e,enc,qH,d]
     cases h
    cases h
   cases h
  cases h
 .split at h
  next k6 b=>
   split at h
   next f a=>
    split at h
    .cases h;cases hv
     simp[fr,lO _ _ _ b e,lO _ _ _ a e,enc,qH,ye]
    .cases h;cases hv
     simp[fr,lO _ _ _ b e,lO _ _ _ a e,enc,qH,ye]
    cases h
   cases h
  cases h
 .split at h
  next k6 b=>
   split at h
   next f a=>
    split at h
    next q c=>
     obtain⟨ints,h1,h2⟩:=WK _ _ c;split at h
     next ti d=>
      split at h
      next n i=>
       split at h
       next g=>
        have g:=af g;split at h
        .cases h;cases hv
         simp only[fr,lO _ _ _ b e,lO _ _ _ a e,enc,qH,(h1 _).1,d,i,(h1 _).2,g,and_self,jj,h2]
        .cases h;cases hv
         simp only[fr,lO _ _ _ b e,lO _ _ _ a e,enc,qH,(h1 _).1,d,i,(h1 _).2,g,and_self,jj,h2]
        cases h
       cases h
      cases h
     cases h
    cases h
   cases h
  cases h
 cases h
def OY(Γ:List dr)(o:UnOp)(x:ag):Option (lW Γ):=match o with
 | .neg=>match mM Γ x with
  |some (.int k)=>match lD Γ x (.int k)with
   |some k6=>U ⟨.int k,λe=>U (k.wrap (0-k6 e))⟩
   |none=>No
  |_=>No
 | .not=>match lD Γ x .bool with
  |some k6=>U ⟨.bool,λe=>U (!(k6 e))⟩
  |none=>No
 |_=>No
def bd3{T:dd}{Φ:lb}{Γ:List dr}{o:UnOp}{x:ag}{r:lW Γ}(h:OY Γ o x=U r):r.Ok T Φ (.un o x):=by
 intro e v hv;unfold OY at h;split at h
 .split at h
  .split at h
   next k6 a=>
    cases h;cases hv;simp[fr,lO _ _ _ a e,enc,vu]
   cases h
  cases h
 .split at h
  next k6 a=>
   cases h;cases hv;simp[fr,lO _ _ _ a e,enc,vu]
  cases h
 cases h
def Yi(T:dd)(Γ:List dr)(s:TypeId)(x:ag):Option (lW Γ):=match T s with
 |some { fT:=.slice el,.. }=>match T el with
  |some { fT:=.int .u8,.. }=>match lD Γ x (.ft (.one (.int .u8)))with
   |some k6=>U ⟨.str,λe=>U (MX (k6 e))⟩
   |none=>No
  |_=>No
 |_=>No
def KM(T:dd)(Γ:List dr)(s d:TypeId)(x:ag):Option (lW Γ):=match T s with
 |some _=>match T d with
  |some { fT:=.int k,.. }=>match mM Γ x with
   |some (.int a)=>match lD Γ x (.int a)with
    |some k6=>U ⟨.int k,λe=>U (k.wrap (k6 e))⟩
    |none=>No
   |_=>No
  |some { fT:=.string,.. }=>Yi T Γ s x
  |_=>No
 |none=>No
def bj7(l:List Int):w9 (l.map (e8 (.one (.int .u8))))=U l:=by
 induction l with
 |nil=>rfl
 |cons n l a=>have e:(n::l).map (e8 (.one (.int .u8)))=[.bF (.int .u8 n)]::l.map (e8 (.one (.int .u8))):=rfl;rw[e];unfold w9;rw[a]
def bo3{T:dd}{Φ:lb}{Γ:List dr}{s d:TypeId}{x:ag}{r:lW Γ}(h:KM T Γ s d x=U r):r.Ok T Φ (.conv s d x):=by
 intro e v hv;unfold KM at h;split at h
 next hs=>
  split at h
  next b=>
   split at h
   .split at h
    next k6 a=>
     cases h;cases hv;simp[fr,lO _ _ _ a e,enc,vR,hs,b]
    cases h
   cases h
  next b=>
   unfold Yi at h;split at h
   next c=>
    split at h
    next he=>
     split at h
     next k6 a=>
      cases h;cases hv;have f:fr T Φ (pz Γ e) (.conv s d x)=vR T s d (enc (.ft (.one (.int .u8))) (k6 e)):=by simp only[fr,lO _ _ _ a e]
      rw[f];have g:enc (.ft (.one (.int .u8))) (k6 e)=.rs ((k6 e).map (e8 (.one (.int .u8)))):=by simp only[enc]
      rw[g];simp only[vR,c,b,he,enc];have i:w9 (bY (e8 (.one (.int .u8))) (k6 e))=U (k6 e):=bj7 (k6 e);rw[i]
     cases h
    cases h
   cases h
  cases h
 cases h
def K5(Γ:List dr)(c a b:ag):Option (lW Γ):=match lD Γ c .bool with
 |some d=>match mM Γ a with
  |some s=>match lD Γ a s with
   |some f=>match lD Γ b s with
    |some g=>U ⟨s,λe=>U (bif d e then f e else g e)⟩
    |none=>No
   |none=>No
  |none=>No
 |none=>No
def bq3{T:dd}{Φ:lb}{Γ:List dr}{c a b:ag}{r:lW Γ}(h:K5 Γ c a b=U r):r.Ok T Φ (.pick c a b):=by
 intro e v hv;unfold K5 at h;split at h
 next i d=>
  split at h
  .split at h
   next j f=>
    split at h
    next k g=>
     cases h;cases hv;simp only[fr,lO _ _ _ d e,lO _ _ _ f e,lO _ _ _ g e,enc];cases i e<;>rfl
    cases h
   cases h
  cases h
 cases h
def nth{α:Type}(xs:List α)(i:Int):Option α:=bif IT (0<=i)then xs[i.toNat]? else No
def OK(T:dd)(Γ:List dr)(t:TypeId)(x i:ag):Option (lW Γ):=match T t with
 |some { fT:=.slice el,.. }=>match T el with
  |some a=>match mM Γ x with
   |some (.ft l)=>match lD Γ x (.ft l)with
    |some k6=>match mM Γ i with
     |some (.int k)=>match lD Γ i (.int k)with
      |some b=>match aB l.len a.size with
       |true=>U ⟨.ptr l,λe=>nth (k6 e) (b e)⟩
       |false=>No
      |none=>No
     |_=>No
    |none=>No
   |_=>No
  |none=>No
 |_=>No
def ZG{T:dd}{Φ:lb}{Γ:List dr}{t:TypeId}{x i:ag}{r:lW Γ}(h:OK T Γ t x i=U r):r.Ok T Φ (.idx t x i):=by
 intro e v hv;unfold OK at h;split at h
 next f=>
  split at h
  next j he=>
   split at h
   next l hl=>
    split at h
    next k6 a=>
     split at h
     .split at h
      next g b=>
       split at h
       next c=>
        have c:=af c;cases h;simp only[nth]at hv;by_cases d:0<=g e
        .simp only[d,lV,dn]at hv
         simp only[fr,lO _ _ _ a e,lO _ _ _ b e,enc,qf,f,he,d,jj];rw[aX,hv];simp only[aj,sm,c,jj]
        simp[d]at hv
       cases h
      cases h
     cases h
    cases h
   cases h
  cases h
 cases h
def CL(s:dr):(l:bl)->Option (l.T->List s.T)
 | .nil=>U λ_=>[]
 | .one s'=>match h:s'.nJ s with
  |true=>U λx=>[Bo h x]
  |false=>No
 | .cons s' l=>match h:s'.nJ s with
  |true=>match CL s l with
   |some g=>U λx=>Bo h x.1::g x.2
   |none=>No
  |false=>No
def N2(s:dr):∀(l:bl) (g:l.T->List s.T),CL s l=U g->∀x,e8 l x=(g x).map (enc s)
 | .nil,g,h,x=>by simp only[CL]at h;cases h;rfl
 | .one s',g,h,x=>by
  unfold CL at h;split at h
  .cases h;simp only[e8,ay,bO,Cj]
  cases h
 | .cons s' l,g,h,x=>by
  unfold CL at h;split at h
  .split at h
   next a b=>
    cases h;simp only[e8,ay,Cj,N2 s l a b x.2]
   cases h
  cases h
def bl.head:bl->dr
 | .nil=>.rO
 | .one s=>s
 | .cons s _=>s
def tP(s:ByteArray)(i:Int):Option Int:=bif IT (0<=i)then(s[i.toNat]?).map (λb=>(b.toNat:Int))else No
def CS(T:dd)(Γ:List dr)(t:TypeId)(x i:ag):Option (lW Γ):=match mM Γ i with
 |some (.int k)=>match lD Γ i (.int k)with
  |some a=>match T t with
   |some { fT:=.array len el,.. }=>match T el with
    |some b=>match mM Γ x with
     |some (.agg l)=>match lD Γ x (.agg l)with
      |some k6=>match CL l.head l with
       |some g=>match aB l.len len&&(aB b.size 1&&!b.isAgg)with
        |true=>U ⟨l.head,λe=>nth (g (k6 e)) (a e)⟩
        |false=>No
       |none=>No
      |none=>No
     |_=>No
    |none=>No
   |some { fT:=.string,.. }=>match lD Γ x .str with
    |some k6=>U ⟨.int .u8,λe=>tP (k6 e) (a e)⟩
    |none=>No
   |_=>No
  |none=>No
 |_=>No
def bj8{T:dd}{Φ:lb}{Γ:List dr}{t:TypeId}{x i:ag}{r:lW Γ}(h:CS T Γ t x i=U r):r.Ok T Φ (.index t x i):=by
 intro e v hv;unfold CS at h;split at h
 .split at h
  next f j=>
   split at h
   next len el _ _ _ _ n=>
    split at h
    next q he=>
     split at h
     next l hl=>
      split at h
      next k6 d=>
       split at h
       next g o=>
        split at h
        next m=>
         simp only[ab,bH,bS]at m;cases h;simp only[nth]at hv;by_cases c:0<=f e
         .simp only[c,lV,dn]at hv
          have hlen:(g (k6 e)).length=l.len:=by have:=mP eT (N2 _ _ _ o (k6 e));rw[sm,aF]at this;exact this.symm
          have k:=(ao.1 hv).1;have h1:f e<(len:Int):=by
           have:(f e).toNat<l.len:=by rw[hlen]at k;exact k
           rw[m.1]at this;have key:∀z:Int,0<=z->z.toNat<len->z<(len:Int):=λz a b=>by omega
           exact key _ c this
          simp only[fr,lO _ _ _ d e,lO _ _ _ j e,enc,uV,n,he,c,h1,and_self,jj,xV,rm,m.2.2,aq,j2,m.2.1,Nat.mul_one];rw[N2 _ _ _ o,aX,hv];rfl
         simp[c]at hv
        cases h
       cases h
      cases h
     cases h
    cases h
   next n=>
    split at h
    next k6 d=>
     cases h;simp only[tP]at hv;by_cases c:0<=f e
     .simp only[c,lV,dn]at hv
      simp only[fr,lO _ _ _ d e,lO _ _ _ j e,enc,uV,n,c,jj];cases p:(k6 e)[(f e).toNat]? with
      |none=>rw[p]at hv;cases hv
      |some b=>rw[p]at hv;cases hv;rfl
     simp[c]at hv
    cases h
   cases h
  cases h
 cases h
def zI(n:Nat)(x:Option Int)(d:Nat):Option Nat:=match x with
 |none=>U d
 |some i=>bif IT (0<=i)&&IT (i<=n)then U i.toNat else No
def xg{α:Type}(xs:List α)(b5 a7:Option Int):Option (List α):=match zI xs.length a7 xs.length with
 |some h=>match zI h b5 0 with
  |some l=>U ((xs.take h).drop l)
  |none=>No
 |none=>No
def Du(Γ:List dr):Option ag->Option (Env Γ->Option Int)
 |none=>U λ_=>No
 |some a=>match mM Γ a with
  |some (.int k)=>match lD Γ a (.int k)with
   |some f=>U λe=>U (f e)
   |none=>No
  |_=>No
def H5{Γ:List dr}{a:Option ag}{f:Env Γ->Option Int}(h:Du Γ a=U f)(e:Env Γ)(n d:Nat):bound n (a.map (ag.sub (pz Γ e))) d=zI n (f e) d:=by
 unfold Du at h;split at h
 .cases h;rfl
 split at h
 .split at h
  next b hf=>
   cases h;simp only[aj,lO _ _ _ hf e,enc,bound,zI];by_cases c:0<=b e<;>by_cases h1:b e<=n<;>simp[c,h1]
  cases h
 cases h
def Wp(s:ByteArray)(b5 a7:Option Int):Option ByteArray:=match zI s.size a7 s.size with
 |some h=>match zI h b5 0 with
  |some l=>U (s.extract l h)
  |none=>No
 |none=>No
def OV(T:dd)(Γ:List dr)(t:TypeId)(x:ag)(b5 a7:Option ag):Option (lW Γ):=match T t with
 |some { fT:=.slice el,.. }=>match T el with
  |some c=>match mM Γ x with
   |some (.ft l)=>match lD Γ x (.ft l)with
    |some k6=>match Du Γ b5 with
     |some a=>match Du Γ a7 with
      |some b=>match aB l.len c.size with
       |true=>U ⟨.ft l,λe=>xg (k6 e) (a e) (b e)⟩
       |false=>No
      |none=>No
     |none=>No
    |none=>No
   |_=>No
  |none=>No
 |some { fT:=.string,.. }=>match lD Γ x .str with
  |some k6=>match Du Γ b5 with
   |some a=>match Du Γ a7 with
    |some b=>U ⟨.str,λe=>Wp (k6 e) (a e) (b e)⟩
    |none=>No
   |none=>No
  |none=>No
 |_=>No
def YJ{T:dd}{Φ:lb}{Γ:List dr}{t:TypeId}{x:ag}{b5 a7:Option ag}{r:lW Γ}(h:OV T Γ t x b5 a7=U r):r.Ok T Φ (.BF t x b5 a7):=by
 intro e v hv;unfold OV at h;split at h
 next g=>
  split at h
  next l he=>
   split at h
   .split at h
    next k6 a=>
     split at h
     next j b=>
      split at h
      next k c=>
       split at h
       next i=>
        have i:=af i;cases h;simp only[xg]at hv;simp only[fr,lO _ _ _ a e,enc,qz,g,he,aF,H5 c e,H5 b e];split at hv
        next h1 d=>
         split at hv
         next mj f=>
          cases hv;simp only[d,f];rw[b9]
          .rw[<-dY,<-dZ]
          rw[dV,ak];intro y _;simp[sm,i]
         cases hv
        cases hv
       cases h
      cases h
     cases h
    cases h
   cases h
  cases h
 next g=>
  split at h
  next k6 a=>
   split at h
   next j b=>
    split at h
    next k c=>
     cases h;simp only[Wp]at hv;simp only[fr,lO _ _ _ a e,enc,qz,g,H5 c e,H5 b e];split at hv
     next h1 d=>
      split at hv
      next mj f=>
       cases hv;simp only[d,f]
      cases hv
     cases hv
    cases h
   cases h
  cases h
 cases h
def OP(T:dd)(Γ:List dr)(t:TypeId)(x:ag):Option (lW Γ):=match T t with
 |some { fT:=.slice _,.. }=>match mM Γ x with
  |some (.ft l)=>match lD Γ x (.ft l)with
   |some k6=>U ⟨.int .i64,λe=>U ((k6 e).length:Int)⟩
   |none=>No
  |_=>No
 |some { fT:=.string,.. }=>match lD Γ x .str with
  |some k6=>U ⟨.int .i64,λe=>U ((k6 e).size:Int)⟩
  |none=>No
 |_=>No
def Yr{T:dd}{Φ:lb}{Γ:List dr}{t:TypeId}{x:ag}{r:lW Γ}(h:OP T Γ t x=U r):r.Ok T Φ (.len t x):=by
 intro e v hv;unfold OP at h;split at h
 next b=>
  split at h
  .split at h
   next k6 a=>
    cases h;cases hv;simp[fr,lO _ _ _ a e,enc,pt,b,goInt]
   cases h
  cases h
 next b=>
  split at h
  next k6 a=>
   cases h;cases hv;simp[fr,lO _ _ _ a e,enc,pt,b,goInt]
  cases h
 cases h
def py(a b:Int):Int:=if b > a then b else a
def s8(a b:Int):Int:=if b<a then b else a
def Df(Γ:List dr)(k:IntKind):List ag->Option (Env Γ->List Int)
 | []=>U λ_=>[]
 |a::az=>match lD Γ a (.int k)with
  |some f=>match Df Γ k az with
   |some g=>U λe=>f e::g e
   |none=>No
  |none=>No
def Nz{Γ:List dr}{k:IntKind}:∀(az:List ag) (f:Env Γ->List Int),Df Γ k az=U f->∀e,az.map (ag.sub (pz Γ e))=(f e).map (λn=>ag.bF (.int k n))
 | [],f,h,e=>by simp only[Df]at h;cases h;rfl
 |a::az,f,h,e=>by
  simp only[Df]at h;split at h
  next c hf=>
   split at h
   next g b=>
    cases h;simp only[ay,lO _ _ _ hf e,enc,Nz az g b e]
   cases h
  cases h
def Sr(k:IntKind):∀(l:List Int) (a:Int),xO k a (l.map (λn=>ag.bF (.int k n)))=U (.int k (l.foldl py a))
 | [],_=>rfl
 |b::l,a=>by simp only[ay,xO,fP,py];exact Sr k l _
def Si(k:IntKind):∀(l:List Int) (a:Int),xQ k a (l.map (λn=>ag.bF (.int k n)))=U (.int k (l.foldl s8 a))
 | [],_=>rfl
 |b::l,a=>by simp only[ay,xQ,fP,s8];exact Si k l _
def OS(Γ:List dr)(l:List ag):Option (lW Γ):=match l with
 |a::az=>match mM Γ a with
  |some (.int k)=>match lD Γ a (.int k)with
   |some f=>match Df Γ k az with
    |some g=>U ⟨.int k,λe=>U ((g e).foldl py (f e))⟩
    |none=>No
   |none=>No
  |_=>No
 | []=>No
def OR(Γ:List dr)(l:List ag):Option (lW Γ):=match l with
 |a::az=>match mM Γ a with
  |some (.int k)=>match lD Γ a (.int k)with
   |some f=>match Df Γ k az with
    |some g=>U ⟨.int k,λe=>U ((g e).foldl s8 (f e))⟩
    |none=>No
   |none=>No
  |_=>No
 | []=>No
def bc5{T:dd}{Φ:lb}{Γ:List dr}{l:List ag}{r:lW Γ}(h:OS Γ l=U r):r.Ok T Φ (.pX l):=by
 intro e v hv;unfold OS at h;split at h
 .split at h
  .split at h
   next f hf=>
    split at h
    next g a=>
     cases h;cases hv;simp only[fr,ay,lO _ _ _ hf e,enc,yp,Nz _ _ a e,Sr,aj]
    cases h
   cases h
  cases h
 cases h
def bc4{T:dd}{Φ:lb}{Γ:List dr}{l:List ag}{r:lW Γ}(h:OR Γ l=U r):r.Ok T Φ (.Bk l):=by
 intro e v hv;unfold OR at h;split at h
 .split at h
  .split at h
   next f hf=>
    split at h
    next g a=>
     cases h;cases hv;simp only[fr,ay,lO _ _ _ hf e,enc,zH,Nz _ _ a e,Si,aj]
    cases h
   cases h
  cases h
 cases h
def dr.Ev:dr->Bool
 | .nl=>IN
 |s=>s.cell
def Na{s:dr}(h:s.Ev=IN)(x:s.T):(enc s x).one=IN:=by cases s<;>first|rfl| (simp[dr.Ev,dr.cell]at h)
def bl.cells:bl->Bool
 | .nil=>IN
 | .one s=>s.Ev
 | .cons s l=>s.Ev&&l.cells
def cells_one:∀ {l:bl},l.cells=IN->∀x:l.T,(e8 l x).all ag.one=IN
 | .nil,_,_=>rfl
 | .one s,h,x=>by simp only[e8,cE,ij,fZ];exact Na h x
 | .cons s l,h,x=>by simp only[bl.cells,ab]at h;simp only[e8,cE,Na h.1,cells_one h.2,e_]
def la{α:Type}(bytes:Nat)(xs ys:List α):Option (List α):=bif IT ((2*(xs.length+ys.length)+1000)*bytes<=2^48)&&IT (xs.length+ys.length<=2^62)then U (xs++ys)else No
def OG(T:dd)(Γ:List dr)(sT xT:TypeId)(x y:ag):Option (lW Γ):=match T sT with
 |some { fT:=.slice el,.. }=>match T xT with
  |some b=>match T el with
   |some a=>match(match mM Γ x with|some s=>U s|none=>mM Γ y)with
    |some (.ft l)=>match lD Γ x (.ft l)with
     |some k6=>match lD Γ y (.ft l)with
      |some c=>match(!b.isInt)&&(aB l.len a.size&&(l.cells&&cD 0 a.size))with
       |true=>U ⟨.ft l,λe=>la a.bytes (k6 e) (c e)⟩
       |false=>No
      |none=>No
     |none=>No
    |_=>No
   |none=>No
  |none=>No
 |_=>No
def Ze{T:dd}{Φ:lb}{Γ:List dr}{sT xT:TypeId}{x y:ag}{r:lW Γ}(h:OG T Γ sT xT x y=U r):r.Ok T Φ (.cat sT xT x y):=by
 intro e v hv;unfold OG at h;split at h
 next g=>
  split at h
  next o a=>
   split at h
   next i he=>
    generalize(match mM Γ x with|some s=>U s|none=>mM Γ y)=p at h;split at h
    next l=>
     split at h
     next k6 b=>
      split at h
      next d c=>
       split at h
       next f=>
        simp only[ab,bH,bS,bc]at f;obtain⟨j,k,m,n⟩:=f;cases h;simp only[la]at hv;cases hc:(IT ((2*((k6 e).length+(d e).length)+1000)*i.bytes<=2^48)&&IT ((k6 e).length+(d e).length<=2^62))with
        |false=>rw[hc]at hv;cases hv
        |true=>
         rw[hc]at hv;simp only[ab,gb]at hc;cases hv;simp only[fr,lO _ _ _ b e,lO _ _ _ c e,enc,Kv,g,a,he,aF];rw[b9]
         .rw[cL]
         refine⟨j,?_,hc.1,hc.2,n⟩;rw[dV,ak];intro y _;simp[sm,k,cells_one m y]
       cases h
      cases h
     cases h
    cases h
   cases h
  cases h
 cases h
def dr.sX:dr->Bool
 | .int _=>IN
 | .bool=>IN
 | .str=>IN
 | .rO=>IN
 |_=>IS
def bl.sX:bl->Bool
 | .nil=>IN
 | .one s=>s.sX
 | .cons s l=>s.sX&&l.sX
def dr.rE:dr->Bool
 | .agg l=>l.sX
 |s=>s.sX
def bl.rE:bl->Bool
 | .nil=>IN
 | .one s=>s.rE
 | .cons s l=>s.rE&&l.rE
def dr.Ma:dr->Bool
 | .fe l=>l.rE
 | .agg l=>l.sX
 |s=>s.sX
def V2{s:dr}(h:s.sX=IN)(x:s.T):∃v,enc s x=.bF v:=by cases s<;>simp[dr.sX]at h<;>exact⟨_,rfl⟩
def HF:∀ {l:bl},l.sX=IN->∀(x:l.T),(e8 l x).all (λc=>match c with| .bF _=>IN|_=>IS)=IN
 | .nil,_,_=>rfl
 | .one s,h,x=>by obtain⟨v,hv⟩:=V2 (s:=s) h x;simp[e8,hv]
 | .cons s l,h,x=>by simp only[bl.sX,ab]at h;obtain⟨v,hv⟩:=V2 h.1 x.1;simp[e8,hv,HF h.2]
def UB:∀ {l:bl},l.rE=IN->∀(x:l.T),(e8 l x).all (λc=>match c with| .bF _=>IN| .agg b=>b.all (λd=>match d with| .bF _=>IN|_=>IS)|_=>IS)=IN
 | .nil,_,_=>rfl
 | .one s,h,x=>by cases s<;>simp[bl.rE,dr.rE,dr.sX]at h<;>simp[e8,enc];exact λd a=>ak.1 (HF h x) d a
 | .cons s l,h,x=>by simp only[bl.rE,ab]at h;have:=UB h.2 x.2;rw[e8,cE,this,fZ];have h1:=h.1;cases s<;>simp[dr.rE,dr.sX]at h1<;>simp[enc];exact λd a=>ak.1 (HF h1 x.1) d a
def br0{s:dr}(h:s.Ma=IN)(x:s.T):DA (enc s x)=IN:=by
 cases s<;>simp[dr.Ma,dr.sX]at h<;>simp only[enc,DA]
 .exact HF h x
 exact UB h x
def Pv(Γ:List dr)(f:FuncId)(args:List ag)(a:Bool)(t:fp):Option (lW Γ):=match aB t.f f&&(!a||t.ng.Ma)with
 |true=>match qD Γ args t.nq with
  |some b=>U ⟨t.ng,λe=>t.fn (b e)⟩
  |none=>No
 |false=>No
def Gf(Γ:List dr)(f:FuncId)(args:List ag)(a:Bool):List fp->Option (lW Γ)
 | []=>No
 |t::ts=>match Pv Γ f args a t with
  |some r=>U r
  |none=>Gf Γ f args a ts
def EV(θ:Nat->ag):∀l,mR θ l=l.map (ag.sub θ):=λl=>p3 θ l
def bl4{T:dd}{Φ:lb}{Γ:List dr}{f:FuncId}{args:List ag}{d:Bool}{t:fp}{r:lW Γ}(i:t.Ok Φ)(h:Pv Γ f args d t=U r):r.Ok T Φ (.call f args d):=by
 intro e v hv;unfold Pv at h;split at h
 next a=>
  simp only[ab,bH,bD,bS]at a;obtain⟨rfl,a⟩:=a;split at h
  next j c=>
   cases h;obtain⟨φ,h1,h2⟩:=i _ _ hv;have g:=wF _ _ _ c e;rw[EV]at g;simp only[fr,h1,g,h2];rw[b9];intro b;rcases a with a|a
   .rw[a]at b;cases b
   exact br0 a v
  cases h
 cases h
def Vx{T:dd}{Φ:lb}{Γ:List dr}{f:FuncId}{args:List ag}{a:Bool}:∀(b:List fp) {r:lW Γ},(∀t∈b,t.Ok Φ)->Gf Γ f args a b=U r->r.Ok T Φ (.call f args a)
 | [],r,_,h=>by simp[Gf]at h
 |t::ts,r,c,h=>by
  simp only[Gf]at h;split at h
  next e d=>
   cases h;exact bl4 (c t (by simp)) d
  exact Vx ts (λt h=>c t (by simp[h])) h
def CN(Γ:List dr)(j:Nat):Bool:=match Wm Γ j with
 |some (.ft l)=>(zR Γ j (.ft l)).isSome
 |_=>IS
def Wu{Γ:List dr}{j:Nat}(h:CN Γ j=IN)(e:Env Γ):∃es,pz Γ e j=.rs es:=by
 unfold CN at h;split at h
 next l _=>
  cases hv:zR Γ j (.ft l)with
  |none=>rw[hv]at h;cases h
  |some f=>exact⟨_,NY hv e⟩
 cases h
def KG(Γ:List dr)(l:List Nat):Option (lW Γ):=match l.all (CN Γ)with
 |true=>U ⟨.rO,λ_=>U ()⟩
 |false=>No
def bk4{T:dd}{Φ:lb}{Γ:List dr}{l:List Nat}{r:lW Γ}(h:KG Γ l=U r):r.Ok T Φ (.rows l):=by
 intro e v hv;unfold KG at h;split at h
 next a=>
  cases h;exact ZD λj hj=>Wu (ak.1 a j hj) e
 cases h
end Go.Ab
