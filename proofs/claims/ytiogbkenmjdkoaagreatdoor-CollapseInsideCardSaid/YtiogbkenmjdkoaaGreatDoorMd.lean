/- A part of the proof; its readable source lies in wip of the prover's repo (squeezed here for the limit of bytes). -/
import Derived.Test.YtiogbkenmjdkoaaGreatDoorMc
import Derived.HandedShaped
import Derived.OpenShut
import Derived.MakeChecks
import Derived.Shelf.Vars
import Derived.Shelf.SlSortCmp.NoneTotal
import Derived.Sort.EveryDepth
import Derived.Shelf.SortM.AssemblyIn
import Derived.Shelf.SortM.SortNone
import Derived.Shelf.SlicesQ.Reverse
import Derived.Lib.IndexMore
set_option linter.all false
open Array renaming getElem?_append_left->cZ,getElem?_eq_getElem->aZ,getElem?_modify->eF,range->bf
open Bool renaming and_eq_true->ab,false_eq_true->aq,not_eq_true'->bS,or_eq_true->bD,true->IN,false->IS
open ByteArray renaming mk->dj
open Decidable renaming decide->IT
open Go.Act renaming put->kp
open Go.ChangeSpec renaming post_blind->lu
open Go.DataW.Whole renaming of_heap->lk
open Go.DataW.agg renaming injEq->jg
open Go.Frame renaming enter->kN
open Go.IntKind renaming i64->aa
open Go.Lib renaming bitLen->eU
open Go.MakeChecks renaming laidMetH_plain->lx
open Go.OpenSpec renaming ofChange->iT
open Go.Proofs.AnyF renaming slices_SortFunc_none->ik
open Go.Result renaming andThen_ok->ah
open Go.Sem renaming run_bind->an,run_pure->ar
open Go.Shelf renaming Ren->eV
open Go.Sort renaming ahead->gD
open Go.Utf8 renaming decode->cz
open Go.Value renaming int->bG
open Go.Value.bool renaming injEq->iD
open Go.Value.func renaming injEq->ly
open Go.Value.int renaming injEq->gz
open Go.Value.string renaming injEq->kY
open Go.World renaming cell?->gQ,frozen?->iz
open List renaming all_cons->cE,all_eq_true->ak,all_map->dV,cons_append->fC,drop_drop->eD,drop_eq_getElem_cons->bN,drop_eq_nil_of_le->ey,drop_succ_cons->gi,find?_isSome->jI,getD_eq_getElem?_getD->c_,getElem?_cons_succ->aM,getElem?_eq_getElem->ae,getElem?_eq_none->bM,getElem?_eq_some_iff->ao,getElem?_map->aX,getElem?_set->cS,getElem_map->cK,getElem_mem->au,getElem_of_mem->aH,length->eT,length_append->aT,length_map->aF,length_pos_iff->da,map_cons->ay,mem_cons->aI,mem_map->aP,mem_of_getElem?->aJ,nil_append->bq,range->bo,rel_of_pairwise_cons->il,replicate->bA,take_append_drop->cJ,take_succ_cons->jr
open List.cons renaming injEq->cG
open Nat renaming add_left_cancel->jy,add_mul->b_,beq->aB,beq_eq->bH,beq_refl->ee,ble->dx,blt->cD,blt_eq->bc,div_add_mod->gx,eq_of_beq_eq_true->af,le_add_right->aY,le_of_ble_eq_true->aU,le_of_not_lt->kc,le_refl->aw,le_trans->bI,mod_lt->gV,mul_add->lj,mul_assoc->kM,mul_comm->eB,not_lt->gI,one_mul->jz,zero_add->aN,zero_le->dq
open Option renaming getD_some->cg,map_none->ck,map_some->aj,some->U,none->No
open Option.some renaming inj->aQ,injEq->ai
open Prod renaming ext->fg
open Prod.mk renaming injEq->cq
namespace Go.Ab
noncomputable section
open Go
variable [nF]
def tK:(l:bl)->Option (l.T->List Int)
 | .one (.int .i64)=>U λa=>[a]
 | .cons (.int .i64) l=>match tK l with
  |some g=>U λa=>a.1::g a.2
  |none=>No
 |_=>No
theorem J2:∀(l:bl) (g:l.T->List Int),tK l=U g->∀x,ag.uo (e8 l x)=U (g x)/\(g x).length=l.len
 | .nil,g,h=>by simp[tK]at h
 | .one s,g,h=>by
  cases s with
  |int k=>
   cases k<;>simp only[tK]at h<;>try (cases h;done)
   cases h;exact λx=>⟨rfl,rfl⟩
  |_=>simp[tK]at h
 | .cons s l,g,h=>by
  cases s with
  |int k=>
   cases k<;>simp only[tK]at h<;>try (cases h;done)
   split at h
   next a b=>
    cases h;intro x;have:=J2 l a b x.2;exact⟨by simp only[e8,enc,ag.uo,this.1],by simp[bl.len,this.2]⟩
   cases h
  |_=>simp[tK]at h
def q9:(K:dr)->Option (Bool×(K.T->List Int))
 | .int .i64=>U (IS,λn=>[n])
 | .agg l=>match tK l with
  |some g=>U (IN,g)
  |none=>No
 |_=>No
def y4:(K:dr)->Option (K.T->K.T->Bool)
 | .int .i64=>U λa b=>IT (a=b)
 | .agg l=>vc l
 |_=>No
def y9{K:dr}{b:Bool}{g:K.T->List Int}(h:q9 K=U (b,g))(x:K.T):(enc K x).key=U (b,g x):=by cases K<;>grind[q9,enc,ag.key,J2]
def W0:∀(l:bl) (g:l.T->List Int) (q:l.T->l.T->Bool),tK l=U g->vc l=U q->∀a b,(g a==g b)=q a b
 | .nil,g,q,h,_=>by simp[tK]at h
 | .one s,g,q,h,h2=>by
  cases s with
  |int k=>
   cases k<;>simp only[tK]at h<;>try (cases h;done)
   cases h;simp only[vc]at h2;cases h2
   grind
  |_=>simp[tK]at h
 | .cons s l,g,q,h,h2=>by
  cases s with
  |int k=>
   cases k<;>simp only[tK]at h<;>try (cases h;done)
   split at h
   next c d=>
    cases h;simp only[vc]at h2;split at h2
    next e f=>
     cases h2;intro a b;have:=W0 l c e d f a.2 b.2
     grind
    cases h2
   cases h
  |_=>simp[tK]at h
def Xt{K:dr}{b:Bool}{g:K.T->List Int}{q:K.T->K.T->Bool}(h:q9 K=U (b,g))(h2:y4 K=U q)(x y:K.T):rC b (g x) (g y)=q x y:=by
 cases K with
 |int k=>grind[q9,y4,rC]
 |agg l=>
  simp only[q9]at h;split at h
  next c a=>
   cases h;simp only[y4]at h2;simp only[rC];exact W0 l _ q a h2 x y
  cases h
 |_=>simp[q9]at h
def ff{K V:Type}(q:K->K->Bool)(k:K):List (K×V)->Option V
 | []=>No
 |p::C=>bif q k p.1 then U p.2 else ff q k C
def k7{K V:Type}(q:K->K->Bool)(k:K)(v:V):List (K×V)->List (K×V)
 | []=>[(k,v)]
 |p::C=>bif q k p.1 then(k,v)::C else p::k7 q k v C
section
variable {K V:dr} {b:Bool} {g:K.T->List Int} {q:K.T->K.T->Bool}
def M_(hk:q9 K=U (b,g))(j:Nat)(p:K.T×V.T):nR j (e8 (.cons K (.one V)) p)=(g p.1,enc V p.2,j):=by simp only[e8,nR,y9 hk]
def Ih(hk:q9 K=U (b,g))(a:y4 K=U q)(k:K.T):∀(C:List (K.T×V.T)) (j i:Nat),(nd b (g k) (nt j (C.map (e8 (.cons K (.one V))))) i).map (·.2)=(ff q k C).map (enc V)
 | [],j,i=>rfl
 |p::C,j,i=>by
  have c:=Ih hk a k C (j+1) (i+1);simp only[ay,nt,M_ hk,nd,Xt hk a,ff];cases q k p.1 with
  |true=>rfl
  |false=>simpa using c
def UG(hk:q9 K=U (b,g))(a:y4 K=U q)(k:K.T)(v:V.T):∀C:List (K.T×V.T),sr (enc K k) (enc V v) b (g k) (C.map (e8 (.cons K (.one V))))=(k7 q k v C).map (e8 (.cons K (.one V)))
 | []=>by simp[sr,k7,e8]
 |p::C=>by
  have c:=UG hk a k v C;simp only[ay,sr,Kb,M_ hk,Xt hk a,k7];cases q k p.1 with
  |true=>simp[e8]
  |false=>simp[c]
theorem Im(hk:q9 K=U (b,g))(C:List (K.T×V.T)):qF (C.map (e8 (.cons K (.one V))))=b\/C=[]:=by
 cases C with
 |nil=>exact .inr rfl
 |cons p C=>left;simp[qF,e8,y9 hk]
def Wf(hk:q9 K=U (b,g)){n:Nat}(a:∀x,(g x).length=n):∀(C:List (K.T×V.T)) (j:Nat),((nt j (C.map (e8 (.cons K (.one V))))).all λe=>e.1.length==n)=IN
 | [],_=>rfl
 |p::C,j=>by simp only[ay,nt,M_ hk,cE,a,beq_self_eq_true,Bool.true_and];exact Wf hk a C (j+1)
def To(hk:q9 K=U (b,g))(C:List (K.T×V.T)):((C.map (e8 (.cons K (.one V)))).all ua)=IN:=by rw[dV,ak];intro p _;simp[ua,e8,y9 hk]
end
def CE(T:dd)(a:TypeId):dr->Bool
 | .int .i64=>match T a with
  |some { fT:=.int _,.. }=>IN
  |_=>IS
 | .agg l=>match T a with
  |some ti=>match ti.flat with
   |some n=>aB n l.len
   |none=>IS
  |none=>IS
 |_=>IS
def Fi{T:dd}{a:TypeId}{K V:dr}{b:Bool}{g:K.T->List Int}(h:q9 K=U (b,g))(hf:CE T a K=IN)(k:K.T)(C:List (K.T×V.T))(j:Nat):ry T a b (g k) (nt j (C.map (e8 (.cons K (.one V)))))=IN:=by
 cases K with
 |int m=>grind[q9,CE,ry]
 |agg l=>
  have d:=h;simp only[q9]at h;split at h
  next o c=>
   cases h;simp only[CE]at hf;split at hf
   next ti e=>
    split at hf
    next n f=>
     have i:=af hf;simp only[ry,e,jj,f,i,(J2 l g c k).2,ab,beq_self_eq_true,pB];exact Wf d (λx=>(J2 l g c x).2) C j
    cases hf
   cases hf
  cases h
 |_=>simp[q9]at h
mutual
def qq:ag->(s:dr)->Option s.T
 | .bF v,s=>Ko v s
 | .agg cs,.agg l=>vX cs l
 |_,_=>No
def vX:List ag->(l:bl)->Option l.T
 | [],.nil=>U ()
 | [a],.one s=>qq a s
 |a::az,.cons s l=>match qq a s with
  |some x=>match vX az l with
   |some y=>U (x,y)
   |none=>No
  |none=>No
 |_,_=>No
end
mutual
theorem zh:∀(a:ag) (s:dr) (x:s.T),qq a s=U x->a=enc s x
 | .bF v,s,x,h=>by simp only[qq]at h;exact X1 h
 | .agg cs,s,x,h=>by
  cases s<;>simp only[qq]at h<;>try (cases h;done)
  simp only[enc,N3 cs _ _ h]
 | .any,s,x,h=>by cases s<;>simp only[qq]at h<;>cases h
 | .rs _,s,x,h=>by cases s<;>simp only[qq]at h<;>cases h
 | .h8 _,s,x,h=>by cases s<;>simp only[qq]at h<;>cases h
 | .ms _ _ _ _,s,x,h=>by cases s<;>simp only[qq]at h<;>cases h
 | .mp _ _ _,s,x,h=>by cases s<;>simp only[qq]at h<;>cases h
 | .lX _,s,x,h=>by cases s<;>simp only[qq]at h<;>cases h
 | .it _,s,x,h=>by cases s<;>simp only[qq]at h<;>cases h
 | .fn _ _ _,s,x,h=>by cases s<;>simp only[qq]at h<;>cases h
 | .fe _,s,x,h=>by cases s<;>simp only[qq]at h<;>cases h
 | .ek _,s,x,h=>by cases s<;>simp only[qq]at h<;>cases h
 | .ea _ _ _,s,x,h=>by cases s<;>simp only[qq]at h<;>cases h
 | .oN _ _ _,s,x,h=>by cases s<;>simp only[qq]at h<;>cases h
 | .xs _ _ _ _,s,x,h=>by cases s<;>simp only[qq]at h<;>cases h
 | .mx _,s,x,h=>by cases s<;>simp only[qq]at h<;>cases h
theorem N3:∀(az:List ag) (l:bl) (x:l.T),vX az l=U x->az=e8 l x
 | [],l,x,h=>by(cases l<;>simp only[vX]at h<;>try (cases h;done));rfl
 | [a],l,x,h=>by
  cases l with
  |nil=>simp only[vX]at h;cases h
  |one s=>simp only[vX]at h;simp only[e8];rw[zh a s x h]
  |cons s l=>
   simp only[vX]at h;split at h
   next y c=>
    split at h
    next z hz=>
     cases h;have:=N3 [] l z (by simpa only[vX]using hz);simp only[e8];rw[zh a s y c,<-this]
    cases h
   cases h
 |a::b::az,l,x,h=>by
  cases l with
  |nil=>simp only[vX]at h;cases h
  |one s=>simp only[vX]at h;cases h
  |cons s l=>
   simp only[vX]at h;split at h
   next y c=>
    split at h
    next z hz=>
     cases h;simp only[e8];rw[zh a s y c,<-N3 (b::az) l z hz]
    cases h
   cases h
end
def mH{α:Type}:Option α->Option α->Option α
 |some a,_=>U a
 |none,z=>z
def J9(T:dd)(Γ:List dr)(t:TypeId)(ix:ag)(ok:Bool)(K V:dr)(a:Env Γ->List (K.T×V.T)):Option (lW Γ):=match T t with
 |some { fT:=.map d f,.. }=>match T f with
  |some b=>match q9 K with
   |some _=>match y4 K with
    |some q=>match CE T d K with
     |true=>match lD Γ ix K with
      |some c=>match ok with
       |false=>U ⟨V,λe=>mH (ff q (c e) (a e)) (qq b.qs V)⟩
       |true=>U ⟨.fe (.cons V (.one .bool)),λe=>match ff q (c e) (a e)with
        |some v=>U (v,IN)
        |none=>match qq b.qs V with
         |some z=>U (z,IS)
         |none=>No⟩
      |none=>No
     |false=>No
    |none=>No
   |none=>No
  |none=>No
 |_=>No
def VX{m:Option (Nat×ag)}{V:dr}{o:Option V.T}{z:ag}{ok:Bool}{w:ag}(h:m.map (·.2)=o.map (enc V))
  (hs:∀v,o=U v->w=(if ok then .fe [enc V v,.bF (.bool IN)]else enc V v)) (a:o=No->w=(if ok then .fe [z,.bF (.bool IS)]else z)) :
  U (if ok=IN then ag.fe [(match m with|some (_,c)=>(c,IN)|none=>(z,IS)).1,.bF (.bool (match m with|some (_,c)=>(c,IN)|none=>(z,IS)).2)]else(match m with|some (_,c)=>(c,IN)|none=>(z,IS)).1)=U w:=by
 cases m with
 |none=>cases o with
  |none=>rw[a rfl]
  |some v=>cases h
 |some p=>cases o with
  |none=>cases h
  |some v=>grind[ai]
def ax9(T:dd)(Γ:List dr)(t:TypeId)(c ix:ag):Option dr:=match mM Γ c with
 |some s=>U s
 |none=>match T t,mM Γ ix with
  |some { fT:=.map _ a,.. },U K=>match T a with
   |some b=>match b.qs with
    | .bF (.bool _)=>U (.ft (.cons K (.one .bool)))
    | .bF (.int k _)=>U (.ft (.cons K (.one (.int k))))
    |_=>No
   |none=>No
  |_,_=>No
def KO(T:dd)(Γ:List dr)(t:TypeId)(c ix:ag)(ok:Bool):Option (lW Γ):=match ax9 T Γ t c ix with
 |some (.ft (.cons K (.one V)))=>match lD Γ c (.ft (.cons K (.one V)))with
  |some a=>J9 T Γ t ix ok K V a
  |none=>No
 |_=>No
def Pj(T:dd)(Γ:List dr)(t:TypeId)(c ix:ag)(ok:Bool):Option (lW Γ):=match mM Γ c with
 |some (.pa (.cons K (.one V)))=>match lD Γ c (.pa (.cons K (.one V)))with
  |some a=>J9 T Γ t ix ok K V a
  |none=>No
 |_=>No
def br1{T:dd}{Φ:lb}{Γ:List dr}{t:TypeId}{c ix:ag}{ok:Bool}{r:lW Γ}(h:KO T Γ t c ix ok=U r):r.Ok T Φ (.look t c ix ok):=by
 intro e v hv;unfold KO at h;split at h
 next K V _=>
  split at h
  next a f=>
   unfold J9 at h;split at h
   next m u _ _ _ _ n=>
    split at h
    next x i=>
     split at h
     next o hk=>
      obtain⟨b,g⟩:=o;split at h
      next q p=>
       split at h
       next hf=>
        split at h
        next j k=>
         have hc:c.sub (pz Γ e)=.rs ((a e).map (e8 (.cons K (.one V)))):=lO _ _ _ f e;have l:ix.sub (pz Γ e)=enc K (j e):=lO _ _ _ k e;have l4:(sA (.rs ((a e).map (e8 (.cons K (.one V)))))).bT 0=U (qh (.rs ((a e).map (e8 (.cons K (.one V)))))):=by simp[sA,bg.l1]
         have s:∀es,rowsOf (.rs es)=es:=λ_=>rfl;have d:(qF ((a e).map (e8 (.cons K (.one V))))=b\/(nt 0 ((a e).map (e8 (.cons K (.one V))))).isEmpty=IN)/\ry T m b (g (j e)) (nt 0 ((a e).map (e8 (.cons K (.one V)))))=IN:=by
          refine⟨?_,Fi hk hf _ _ _⟩;rcases Im (V:=V) hk (a e)with h1|h1
          .exact .inl h1
          rw[h1];right;rfl
         simp only[fr,hc,l,oW,n,y9 hk,i,l4,qh,s];rw[b9 d];refine VX (Ih (V:=V) hk p (j e) (a e) 0 0) (λw hl=>?_) (λhl=>?_)
         .cases ok with
          |false=>cases h;simp only[hl,mH]at hv;cases hv;rfl
          |true=>cases h;simp only[hl]at hv;cases hv;rfl
         cases ok with
         |false=>cases h;simp only[hl,mH]at hv;exact(zh _ _ _ hv).symm
         |true=>
          cases h
          grind[enc,e8,zh]
        cases h
       cases h
      cases h
     cases h
    cases h
   cases h
  cases h
 cases h
def bg3{T:dd}{Φ:lb}{Γ:List dr}{t:TypeId}{c ix:ag}{ok:Bool}{r:lW Γ}(h:Pj T Γ t c ix ok=U r):r.Ok T Φ (.w6 t c ix ok):=by
 intro e v hv;unfold Pj at h;split at h
 next K V _=>
  split at h
  next a f=>
   unfold J9 at h;split at h
   next m s _ _ _ _ n=>
    split at h
    next u i=>
     split at h
     next o hk=>
      obtain⟨b,g⟩:=o;split at h
      next q p=>
       split at h
       next hf=>
        split at h
        next j k=>
         have hc:c.sub (pz Γ e)=.mx (.rs ((a e).map (e8 (.cons K (.one V))))):=lO _ _ _ f e;have l:ix.sub (pz Γ e)=enc K (j e):=lO _ _ _ k e;have d:(qF ((a e).map (e8 (.cons K (.one V))))=b\/((a e).map (e8 (.cons K (.one V)))).isEmpty=IN)/\ry T m b (g (j e)) (nt 0 ((a e).map (e8 (.cons K (.one V)))))=IN/\((a e).map (e8 (.cons K (.one V)))).all ua=IN:=by
          refine⟨?_,Fi hk hf _ _ _,To hk _⟩
          grind[Im]
         simp only[fr,hc,l,oW,n,y9 hk,i];rw[b9 d];refine VX (Ih (V:=V) hk p (j e) (a e) 0 0) (λw hl=>?_) (λhl=>?_)
         .cases ok with
          |false=>cases h;simp only[hl,mH]at hv;cases hv;rfl
          |true=>cases h;simp only[hl]at hv;cases hv;rfl
         cases ok with
         |false=>cases h;simp only[hl,mH]at hv;exact(zh _ _ _ hv).symm
         |true=>
          cases h
          grind[enc,e8,zh]
        cases h
       cases h
      cases h
     cases h
    cases h
   cases h
  cases h
 cases h
def KL(T:dd)(Γ:List dr)(t:TypeId)(c ix v:ag):Option (lW Γ):=match T t with
 |some { fT:=.map a _,.. }=>match mM Γ ix with
  |some K=>match mM Γ v with
   |some V=>match q9 K with
    |some _=>match y4 K with
     |some q=>match CE T a K with
      |true=>match lD Γ c (.ft (.cons K (.one V)))with
       |some b=>match lD Γ ix K with
        |some d=>match lD Γ v V with
         |some fv=>U ⟨.ft (.cons K (.one V)),λe=>U (k7 q (d e) (fv e) (b e))⟩
         |none=>No
        |none=>No
       |none=>No
      |false=>No
     |none=>No
    |none=>No
   |none=>No
  |none=>No
 |_=>No
def bq2{T:dd}{Φ:lb}{Γ:List dr}{t:TypeId}{c ix u:ag}{r:lW Γ}(h:KL T Γ t c ix u=U r):r.Ok T Φ (.pW t c ix u):=by
 intro e v hv;unfold KL at h;split at h
 next w _ _ _ _ _ n=>
  split at h
  next K _=>
   split at h
   next V _=>
    split at h
    next o hk=>
     obtain⟨b,g⟩:=o;split at h
     next q p=>
      split at h
      next hf=>
       split at h
       next a f=>
        split at h
        next d i=>
         split at h
         next fv j=>
          cases h;cases hv;have hc:c.sub (pz Γ e)=.rs ((a e).map (e8 (.cons K (.one V)))):=lO _ _ _ f e;have k:ix.sub (pz Γ e)=enc K (d e):=lO _ _ _ i e;have l:u.sub (pz Γ e)=enc V (fv e):=lO _ _ _ j e;have l4:(sA (.rs ((a e).map (e8 (.cons K (.one V)))))).bT 0=U (qh (.rs ((a e).map (e8 (.cons K (.one V)))))):=by simp[sA,bg.l1]
          have m:∀es,rowsOf (.rs es)=es:=λ_=>rfl;have hu:∃σ,q3 T (sA (.rs ((a e).map (e8 (.cons K (.one V)))))) t (.lX 0) (enc K (d e)) (enc V (fv e))=U σ:=by
           simp only[q3,n,y9 hk,l4,qh,m];have h1:=Fi (V:=V) hk hf (d e) (a e) 0;have s:=Fi (V:=V) hk hf (d e) [] 0;rcases Im (V:=V) hk (a e)with h2|h2
           .split
            .exact⟨_,rfl⟩
            rw[b9 ⟨h2,h1⟩];exact⟨_,rfl⟩
           rw[b9 ⟨by rw[h2];rfl,s⟩];exact⟨_,rfl⟩
          obtain⟨σ,hu⟩:=hu;simp only[fr,hc,k,l,hu,y9 hk,m,UG hk p];rfl
         cases h
        cases h
       cases h
      cases h
     cases h
    cases h
   cases h
  cases h
 cases h
def KY(T:dd)(Γ:List dr)(t:TypeId)(c:ag):Option (lW Γ):=match T t with
 |some { fT:=.map _ _,.. }=>match mM Γ c with
  |some (.ft l)=>match lD Γ c (.ft l)with
   |some a=>U ⟨.int .i64,λe=>U ((a e).length:Int)⟩
   |none=>No
  |_=>No
 |_=>No
def br5{T:dd}{Φ:lb}{Γ:List dr}{t:TypeId}{c:ag}{r:lW Γ}(h:KY T Γ t c=U r):r.Ok T Φ (.Bj t c):=by
 intro e v hv;unfold KY at h;split at h
 next b=>
  split at h
  .split at h
   next f a=>
    cases h;cases hv;have l4:∀c,(sA c).bT 0=U (qh c):=λc=>by simp[sA,bg.l1]
    have d:∀es,rowsOf (.rs es)=es:=λ_=>rfl;simp only[fr,pt,b,l4,qh,yw,lO _ _ _ a e,enc,d,aF,goInt]
   cases h
  cases h
 cases h
def OM(Γ:List dr)(x:ag):Option (lW Γ):=match mM Γ x with
 |some (.ptr l)=>match lD Γ x (.ptr l)with
  |some _=>U ⟨.rO,λ_=>U ()⟩
  |none=>No
 |_=>No
def Yy{T:dd}{Φ:lb}{Γ:List dr}{x:ag}{r:lW Γ}(h:OM Γ x=U r):r.Ok T Φ (.A7 x):=by
 intro e v hv;unfold OM at h;split at h
 .split at h
  next f hf=>
   cases h;simp only[fr,lO _ _ _ hf e,enc]
  cases h
 cases h
def OU(Γ:List dr)(n:Nat)(x:ag):Option (lW Γ):=match mM Γ x with
 |some (.ptr l)=>match lD Γ x (.ptr l)with
  |some f=>match aB l.len n with
   |true=>U ⟨.ptr l,λe=>U (f e)⟩
   |false=>No
  |none=>No
 |_=>No
def Zx{T:dd}{Φ:lb}{Γ:List dr}{n:Nat}{x:ag}{r:lW Γ}(h:OU Γ n x=U r):r.Ok T Φ (.zu n x):=by
 intro e v hv;unfold OU at h;split at h
 .split at h
  next f hf=>
   split at h
   next a=>
    have a:=af a;cases h;cases hv
    grind[fr,lO,enc,sm,ee]
   cases h
  cases h
 cases h
def Ox(T:dd):Nat->TypeId->Option (List dr)
 | 0,_=>No
 |n+1,t=>match T t with
  |some { fT:=.int k,.. }=>U [.int k]
  |some { fT:=.bool,.. }=>U [.bool]
  |some { fT:=.string,.. }=>U [.str]
  |some { fT:=.array m e,.. }=>match Ox T n e with
   |some l=>U (bA m l).flatten
   |none=>No
  |some { fT:=.struct fields,.. }=>fields.toList.foldr (λf acc=>match Ox T n f.type,acc with
   |some a,U b=>U (a++b)
   |_,_=>No) (U [])
  |_=>No
def aY0(T:dd)(t:TypeId):Option dr:=match T t with
 |some { fT:=.int k,.. }=>U (.int k)
 |some { fT:=.bool,.. }=>U .bool
 |some { fT:=.string,.. }=>U .str
 |some ti=>match ti.isAgg,Ox T 6 t with
  |true,U l=>U (.agg (bl.ofList l))
  |_,_=>No
 |_=>No
def OJ(T:dd)(Γ:List dr)(t:TypeId)(g:Nat):Option (lW Γ):=match aY0 T t with
 |some s=>U ⟨s,λ_=>match Gp T t g with
  |some a=>qq a s
  |none=>No⟩
 |none=>No
def bc0{T:dd}{Φ:lb}{Γ:List dr}{t:TypeId}{g:Nat}{r:lW Γ}(h:OJ T Γ t g=U r):r.Ok T Φ (.A5 t g):=by
 intro e v hv;unfold OJ at h;split at h
 .cases h
  grind[fr,zh]
 cases h
def OL(T:dd)(Γ:List dr)(t:TypeId)(c i:ag):Option (lW Γ):=match T t with
 |some { fT:=.slice el,.. }=>match T el with
  |some _=>match mM Γ c with
   |some (.ft l)=>match lD Γ c (.ft l)with
    |some b=>match mM Γ i with
     |some (.int k)=>match lD Γ i (.int k)with
      |some a=>U ⟨.rO,λe=>bif IT (0<=a e)&&IT (a e<(b e).length)then U ()else No⟩
      |none=>No
     |_=>No
    |none=>No
   |_=>No
  |none=>No
 |_=>No
def Yp{T:dd}{Φ:lb}{Γ:List dr}{t:TypeId}{c i:ag}{r:lW Γ}(h:OL T Γ t c i=U r):r.Ok T Φ (.zb t c i):=by
 intro e v hv;unfold OL at h;split at h
 next el _ _ _ _ j=>
  split at h
  next m a=>
   split at h
   .split at h
    next k b=>
     split at h
     .split at h
      next f d=>
       cases h;simp only at hv;cases g:(IT (0<=f e)&&IT (f e<(k e).length))with
       |false=>rw[g]at hv;cases hv
       |true=>
        simp only[ab,gb]at g;have l:∀es,rowsOf (.rs es)=es:=λ_=>rfl;simp only[fr,lO _ _ _ b e,lO _ _ _ d e,enc,j,a,qf,l,aF]
        grind
      cases h
     cases h
    cases h
   cases h
  cases h
 cases h
def bl.at:(l:bl)->Nat->Option ((s:dr)×(l.T->s.T))
 | .nil,_=>No
 | .one s,j=>match j with
  | 0=>U ⟨s,λx=>x⟩
  |_+1=>No
 | .cons s l,j=>match j with
  | 0=>U ⟨s,λx=>x.1⟩
  |j+1=>match l.at j with
   |some ⟨s',f⟩=>U ⟨s',λx=>f x.2⟩
   |none=>No
theorem KE:∀(l:bl) (j:Nat) (q:(s:dr)×(l.T->s.T)),l.at j=U q->∀x,(e8 l x)[j]?=U (enc q.1 (q.2 x))
 | .nil,j,q,h=>by simp[bl.at]at h
 | .one s,0,q,h=>by simp only[bl.at]at h;cases h;exact λx=>rfl
 | .one s,j+1,q,h=>by simp[bl.at]at h
 | .cons s l,0,q,h=>by simp only[bl.at]at h;cases h;exact λx=>rfl
 | .cons s l,j+1,q,h=>by
  simp only[bl.at]at h;split at h
  next s' f hf=>
   cases h;intro x;have:=KE l j _ hf x.2;simpa[e8]using this
  cases h
def bl.uH:(l:bl)->Nat->Option ((a:bl)×(l.T->a.T))
 |_,0=>U ⟨.nil,λ_=>()⟩
 | .nil,_+1=>No
 | .one s,n+1=>match n with
  | 0=>U ⟨.one s,λx=>x⟩
  |_+1=>No
 | .cons s l,n+1=>match n with
  | 0=>U ⟨.one s,λx=>x.1⟩
  |n+1=>match l.uH (n+1)with
   |some ⟨a,f⟩=>U ⟨.cons s a,λx=>(x.1,f x.2)⟩
   |none=>No
def KU:∀(l:bl) (n:Nat) (q:(a:bl)×(l.T->a.T)),l.uH n=U q->∀x,(e8 l x).take n=e8 q.1 (q.2 x)/\n<=l.len
 |l,0,q,h=>by cases l<;>(simp only[bl.uH]at h;cases h;exact λx=>⟨by simp[e8],dq _⟩)
 | .nil,n+1,q,h=>by simp[bl.uH]at h
 | .one s,1,q,h=>by simp only[bl.uH]at h;cases h;exact λx=>⟨rfl,aw _⟩
 | .one s,n+2,q,h=>by simp[bl.uH]at h
 | .cons s l,1,q,h=>by simp only[bl.uH]at h;cases h;exact λx=>⟨rfl,by simp[bl.len]⟩
 | .cons s l,n+2,q,h=>by
  simp only[bl.uH]at h;split at h
  next a f hf=>
   cases h;intro x;have:=KU l (n+1) _ hf x.2;exact⟨by simp only[e8,jr,this.1],by simp[bl.len];omega⟩
  cases h
def bl.q7:(l:bl)->Nat->Option ((a:bl)×(l.T->a.T))
 |l,0=>U ⟨l,λx=>x⟩
 | .cons _ l,n+1=>match l.q7 n with
  |some ⟨a,f⟩=>U ⟨a,λx=>f x.2⟩
  |none=>No
 |_,_+1=>No
def KC:∀(l:bl) (n:Nat) (q:(a:bl)×(l.T->a.T)),l.q7 n=U q->∀x,(e8 l x).drop n=e8 q.1 (q.2 x)/\q.1.len+n=l.len
 |l,0,q,h=>by cases l<;>(simp only[bl.q7]at h;cases h;exact λx=>⟨rfl,by simp⟩)
 | .nil,n+1,q,h=>by simp[bl.q7]at h
 | .one s,n+1,q,h=>by simp[bl.q7]at h
 | .cons s l,n+1,q,h=>by
  simp only[bl.q7]at h;split at h
  next a f hf=>
   cases h;intro x;have:=KC l n _ hf x.2;have h2:=this.2;exact⟨by simp only[e8,gi,this.1],by simp only[bl.len]at h2⊢;omega⟩
  cases h
def M9(ti:mL)(l:bl)(off:Nat):Option ((s:dr)×(l.T->s.T)):=match ti.isAgg with
 |true=>match l.q7 off with
  |some ⟨mj,f1⟩=>match mj.uH ti.size with
   |some ⟨nh,f2⟩=>U ⟨.agg nh,λx=>f2 (f1 x)⟩
   |none=>No
  |none=>No
 |false=>l.at off
def ax3{ti:mL}{l:bl}{off:Nat}{q:(s:dr)×(l.T->s.T)}(h:M9 ti l off=U q)(x:l.T):rm ti (e8 l x) off=U (enc q.1 (q.2 x)):=by
 unfold M9 at h;split at h
 next ha=>
  split at h
  next mj f1 h1=>
   split at h
   next nh f2 h2=>
    cases h;obtain⟨a,a2⟩:=KC l off _ h1 x;obtain⟨b,c⟩:=KU mj ti.size _ h2 (f1 x)
    grind[rm,sm,enc]
   cases h
  cases h
 grind[rm,KE]
def O0(T:dd)(Γ:List dr)(t:TypeId)(c i:ag)(off:Nat):Option (lW Γ):=match T t with
 |some ti=>match mM Γ c with
  |some (.ft l)=>match lD Γ c (.ft l)with
   |some a=>match mM Γ i with
    |some (.int k)=>match lD Γ i (.int k)with
     |some b=>match M9 ti l off with
      |some ⟨s,f⟩=>U ⟨s,λe=>((a e)[(b e).toNat]?).map f⟩
      |none=>No
     |none=>No
    |_=>No
   |none=>No
  |_=>No
 |none=>No
def Zo{T:dd}{Φ:lb}{Γ:List dr}{t el:TypeId}{z:Nat}{c i:ag}{off:Nat}{r:lW Γ}(h:O0 T Γ t c i off=U r):r.Ok T Φ (.xl t el z c i off):=by
 intro e v hv;unfold O0 at h;split at h
 next ti g=>
  split at h
  .split at h
   next j a=>
    split at h
    .split at h
     next k b=>
      split at h
      next s f hf=>
       cases h;simp only at hv;have l4:∀c,(pF el z c).bT 0=U (.row el z (rowsOf c)):=λc=>by simp[pF,bg.l1]
       have l:∀es,rowsOf (.rs es)=es:=λ_=>rfl;simp only[fr,lO _ _ _ a e,lO _ _ _ b e,enc,o8,l4,l,mf,aX,g];cases d:(j e)[(k e).toNat]? with
       |none=>rw[d]at hv;cases hv
       |some x=>rw[d]at hv;cases hv;simp only[aj];exact ax3 hf x
      cases h
     cases h
    cases h
   cases h
  cases h
 cases h
def bl.v7:(l:bl)->(a:bl)->Option (l.T->a.T->l.T)
 |_,.nil=>U λx _=>x
 | .one s,.one s'=>match h:s'.nJ s with
  |true=>U λ_ y=>Bo h y
  |false=>No
 | .cons s _,.one s'=>match h:s'.nJ s with
  |true=>U λx y=>(Bo h y,x.2)
  |false=>No
 | .cons s l,.cons s' a=>match h:s'.nJ s with
  |true=>match l.v7 a with
   |some f=>U λx y=>(Bo h y.1,f x.2 y.2)
   |none=>No
  |false=>No
 |_,_=>No
def X2:∀(l a:bl) (f:l.T->a.T->l.T),l.v7 a=U f->∀x y,e8 l (f x y)=e8 a y++(e8 l x).drop a.len/\a.len<=l.len
 |l,.nil,f,h=>by cases l<;>(simp only[bl.v7]at h;cases h;exact λx y=>⟨by simp[e8,bl.len],dq _⟩)
 | .nil,.one s',f,h=>by simp[bl.v7]at h
 | .nil,.cons s' a,f,h=>by simp[bl.v7]at h
 | .one s,.one s',f,h=>by
  unfold bl.v7 at h;split at h
  .rename_i b;cases h
   exact λx y=>⟨by simp[e8,Cj,bl.len],aw _⟩
  cases h
 | .one s,.cons s' a,f,h=>by simp[bl.v7]at h
 | .cons s l,.one s',f,h=>by
  unfold bl.v7 at h;split at h
  .rename_i b;cases h
   exact λx y=>⟨by simp[e8,Cj,bl.len],by simp[bl.len]⟩
  cases h
 | .cons s l,.cons s' a,f,h=>by
  unfold bl.v7 at h;split at h
  next b=>
   split at h
   next c hf=>
    cases h;intro x y;obtain⟨h1,h2⟩:=X2 l a c hf x.2 y.2;exact⟨by simp only[e8,Cj,bl.len,gi,h1,fC],by simp[bl.len];exact h2⟩
   cases h
  cases h
def bl.BK:(l:bl)->Nat->(a:bl)->Option (l.T->a.T->l.T)
 |l,0,a=>l.v7 a
 | .cons _ l,n+1,a=>match l.BK n a with
  |some f=>U λx y=>(x.1,f x.2 y)
  |none=>No
 |_,_+1,_=>No
def WI:∀(l:bl) (n:Nat) (a:bl) (f:l.T->a.T->l.T),l.BK n a=U f->∀x y,e8 l (f x y)=p4 (e8 l x) n (e8 a y)/\n+a.len<=l.len
 |l,0,a,f,h=>by
  intro x y;have h':l.v7 a=U f:=by cases l<;>simpa only[bl.BK]using h
  obtain⟨h1,h2⟩:=X2 l a f h' x y;exact⟨by simp[p4,h1,sm],by simpa using h2⟩
 | .nil,n+1,a,f,h=>by simp[bl.BK]at h
 | .one s,n+1,a,f,h=>by simp[bl.BK]at h
 | .cons s l,n+1,a,f,h=>by
  simp only[bl.BK]at h;split at h
  next b hf=>
   cases h;intro x y;obtain⟨h1,h2⟩:=WI l n a b hf x.2 y;refine⟨?_,by simp[bl.len];omega⟩;simp only[e8,p4,jr,fC];have e:n+1+(e8 a y).length=(n+(e8 a y).length)+1:=by omega
   rw[e,gi,h1,p4]
  cases h
def Lx:(s:dr)->Option ((l:bl)×(s.T->l.T))
 | .agg l=>match l.cells with
  |true=>U ⟨l,λx=>x⟩
  |false=>No
 |s=>match s.cell with
  |true=>U ⟨.one s,λx=>x⟩
  |false=>No
def YX{s:dr}{q:(l:bl)×(s.T->l.T)}(h:Lx s=U q)(x:s.T):(enc s x).cells=U (e8 q.1 (q.2 x))/\(e8 q.1 (q.2 x)).all ag.one=IN:=by
 cases s<;>simp only[Lx,dr.cell]at h<;>first
  | (cases h;done)
  | (cases h;exact⟨rfl,rfl⟩)
  | (split at h<;>first| (cases h;done)| (rename_i a;cases h;exact⟨rfl,cells_one a x⟩))
def rG{α β:Type}(xs:List α)(i:Nat)(f:α->β->α)(y:β):Option (List α):=match xs[i]? with
 |some x=>U (xs.set i (f x y))
 |none=>No
def O1(T:dd)(Γ:List dr)(t:TypeId)(c i:ag)(off:Nat)(v:ag):Option (lW Γ):=match T t with
 |some ti=>match mM Γ c with
  |some (.ft l)=>match lD Γ c (.ft l)with
   |some b=>match mM Γ i with
    |some (.int k)=>match lD Γ i (.int k)with
     |some d=>match mM Γ v with
      |some s=>match lD Γ v s with
       |some fv=>match Lx s with
        |some ⟨a,g⟩=>match l.BK off a with
         |some f=>match aB a.len ti.size with
          |true=>U ⟨.ft l,λe=>rG (b e) (d e).toNat f (g (fv e))⟩
          |false=>No
         |none=>No
        |none=>No
       |none=>No
      |none=>No
     |none=>No
    |_=>No
   |none=>No
  |_=>No
 |none=>No
def Zf{T:dd}{Φ:lb}{Γ:List dr}{t el:TypeId}{z:Nat}{c i:ag}{off:Nat}{u:ag}{r:lW Γ}(h:O1 T Γ t c i off u=U r):r.Ok T Φ (.vd t el z c i off u):=by
 intro e v hv;unfold O1 at h;split at h
 next ti n=>
  split at h
  next l _=>
   split at h
   next k a=>
    split at h
    .split at h
     next o b=>
      split at h
      next s _=>
       split at h
       next fv d=>
        split at h
        next p g q=>
         split at h
         next f hf=>
          split at h
          next j=>
           have j:=af j;cases h;simp only[rG]at hv;have l4:∀c,(pF el z c).bT 0=U (.row el z (rowsOf c)):=λc=>by simp[pF,bg.l1]
           have w:∀es,rowsOf (.rs es)=es:=λ_=>rfl;have hc:c.sub (pz Γ e)=.rs ((k e).map (e8 l)):=lO _ _ _ a e;obtain⟨c1,c2⟩:=YX q (fv e);simp only[fr,hc,lO _ _ _ b e,lO _ _ _ d e,rA,enc,mf,c1,n,l4,w,aX];cases m:(k e)[(o e).toNat]? with
           |none=>rw[m]at hv;cases hv
           |some x=>rw[m]at hv;cases hv;obtain⟨B,C⟩:=WI l off p f hf x (g (fv e));simp only[aj];rw[b9 ⟨by rw[sm,j],by rw[sm,sm];exact C,c2⟩];simp only[bg.l1,jj,List.length_set,aF,ee];rw[<-B,List.map_set]
          cases h
         cases h
        cases h
       cases h
      cases h
     cases h
    cases h
   cases h
  cases h
 cases h
def Px:(n:Nat)->Option ((l:bl)×l.T)
 | 0=>No
 | 1=>U ⟨.one (.int .i64),(0:Int)⟩
 |n+2=>match Px (n+1)with
  |some ⟨l,z⟩=>U ⟨.cons (.int .i64) l,((0:Int),z)⟩
  |none=>No
def yq{α:Type}(bytes:Nat)(z:α)(n:Int):Option (List α):=bif IT (aa.wrap n=n)&&(IT (0<n)&&(IT ((2*n.toNat+1000)*bytes<=2^48)&&IT (n.toNat<=2^62)))then U (bA n.toNat z)else No
def Dx:List ag->List ag->Bool
 | [],[]=>IN
 | .bF (.int .i64 a)::az,.bF (.int .i64 b)::bs=>IT (a=b)&&Dx az bs
 |_,_=>IS
def Nk:∀ {az bs:List ag},Dx az bs=IN->az=bs
 | [],[],_=>rfl
 | [],b::bs,h=>by simp[Dx]at h
 |a::az,bs,h=>by
  unfold Dx at h;split at h
  next h2=>cases h2
  next e c f d h1=>
   cases h1;simp only[ab,gb]at h;rw[h.1,Nk h.2]
  cases h
def O2(T:dd)(Γ:List dr)(sT:TypeId)(x:ag):Option (lW Γ):=match T sT with
 |some { fT:=.slice el,.. }=>match T el with
  |some a=>match Px a.size with
   |some ⟨l,z⟩=>match Dx a.zeroCells (e8 l z)&&cD 0 a.size with
    |true=>match mM Γ x with
     |some (.int k)=>match lD Γ x (.int k)with
      |some k6=>U ⟨.ft l,λe=>yq a.bytes z (k6 e)⟩
      |none=>No
     |_=>No
    |false=>No
   |none=>No
  |none=>No
 |_=>No
def Zb{T:dd}{Φ:lb}{Γ:List dr}{sT:TypeId}{x:ag}{r:lW Γ}(h:O2 T Γ sT x=U r):r.Ok T Φ (.BM sT x):=by
 intro e v hv;unfold O2 at h;split at h
 next d=>
  split at h
  next f a=>
   split at h
   next l z hz=>
    split at h
    next b=>
     simp only[ab,bc]at b;split at h
     .split at h
      next k6 c=>
       cases h;simp only[yq]at hv;cases hc:(IT (aa.wrap (k6 e)=k6 e)&&(IT (0<k6 e)&&(IT ((2*(k6 e).toNat+1000)*f.bytes<=2^48)&&IT ((k6 e).toNat<=2^62))))with
       |false=>rw[hc]at hv;cases hv
       |true=>rw[hc]at hv;simp only[ab,gb]at hc;cases hv;simp only[fr,KH,d,a,lO _ _ _ c e,enc];rw[b9 ⟨hc.1,hc.2.1,hc.2.2.1,hc.2.2.2,b.2⟩,Nk b.1];simp
      cases h
     cases h
    cases h
   cases h
  cases h
 cases h
def ON(Γ:List dr)(x:ag):Option (lW Γ):=match lD Γ x .str with
 |some _=>U ⟨.rO,λ_=>U ()⟩
 |none=>No
def ZK{T:dd}{Φ:lb}{Γ:List dr}{x:ag}{r:lW Γ}(h:ON Γ x=U r):r.Ok T Φ (.A8 x):=by
 intro e v hv;unfold ON at h;split at h
 next f hf=>
  cases h;simp only[fr,lO _ _ _ hf e,enc]
 cases h
def KD(Γ:List dr)(x p:ag):Option (lW Γ):=match lD Γ x .str with
 |some k6=>match lD Γ p (.int .i64)with
  |some a=>U ⟨.bool,λe=>U (IT ((a e).toNat<(k6 e).size))⟩
  |none=>No
 |none=>No
def bt2{T:dd}{Φ:lb}{Γ:List dr}{x p:ag}{r:lW Γ}(h:KD Γ x p=U r):r.Ok T Φ (.more x p):=by
 intro e v hv;unfold KD at h;split at h
 next k6 a=>
  split at h
  next c b=>
   cases h;cases hv;simp only[fr,lO _ _ _ a e,lO _ _ _ b e,enc]
  cases h
 cases h
def Gg(b:ByteArray)(n:Int):Option (Int×Int×Int):=bif IT (n.toNat<b.size)then U ((n.toNat:Int),((cz b n.toNat).1:Int),((n.toNat+(cz b n.toNat).2:Nat):Int))else No
def KW(Γ:List dr)(x p:ag):Option (lW Γ):=match lD Γ x .str with
 |some k6=>match lD Γ p (.int .i64)with
  |some a=>U ⟨.fe (.cons (.int .i64) (.cons (.int .i32) (.one (.int .i64)))),λe=>Gg (k6 e) (a e)⟩
  |none=>No
 |none=>No
def bt0{T:dd}{Φ:lb}{Γ:List dr}{x p:ag}{r:lW Γ}(h:KW Γ x p=U r):r.Ok T Φ (.BD x p):=by
 intro e v hv;unfold KW at h;split at h
 next k6 a=>
  split at h
  next c b=>
   cases h;simp only[Gg]at hv;cases hc:IT ((c e).toNat<(k6 e).size)with
   |false=>rw[hc]at hv;cases hv
   |true=>rw[hc]at hv;cases hv;simp only[fr,lO _ _ _ a e,lO _ _ _ b e,enc,e8,hc]
  cases h
 cases h
def Wl(T:dd):Nat->TypeId->Option dr
 | 0,_=>No
 |k+1,t=>match T t with
  |some { fT:=.int k,.. }=>U (.int k)
  |some { fT:=.bool,.. }=>U .bool
  |some { fT:=.string,.. }=>U .str
  |some { fT:=.slice e,.. }=>match Wl T k e with
   |some s=>U (.ft (.one s))
   |none=>No
  |_=>No
def II(T:dd)(cc:nO)(j:Nat)(s:dr):Option ((s':dr)×(s.T->s'.T)):=match oY cc j with
 |some c=>match Wl T 4 c.2.1 with
  |some s'=>U ⟨.ft (.one s'),λ_=>[]⟩
  |none=>No
 |none=>U ⟨s,λx=>x⟩
def PC{T:dd}{cc:nO}{j:Nat}{s:dr}{r:(s':dr)×(s.T->s'.T)}(h:II T cc j s=U r)(x:s.T):yW cc j (enc s x)=enc r.1 (r.2 x):=by
 unfold II at h;unfold yW;split at h
 next c hc=>
  split at h
  .cases h;rw[hc];rfl
  cases h
 rename_i hc;cases h;rw[hc]
def C0(T:dd)(cc:nO):Nat->(l:bl)->Option ((a:bl)×(l.T->a.T))
 |_,.nil=>U ⟨.nil,λx=>x⟩
 |j,.one s=>match II T cc j s with
  |some ⟨s',f⟩=>U ⟨.one s',f⟩
  |none=>No
 |j,.cons s l=>match II T cc j s with
  |some ⟨s',f⟩=>match C0 T cc (j+1) l with
   |some ⟨a,g⟩=>U ⟨.cons s' a,λx=>(f x.1,g x.2)⟩
   |none=>No
  |none=>No
def XY{T:dd}{cc:nO}:∀(j:Nat) (l:bl) (r:(a:bl)×(l.T->a.T)),C0 T cc j l=U r->∀x,qR cc j (e8 l x)=e8 r.1 (r.2 x)
 |_,.nil,r,h,x=>by simp only[C0]at h;cases h;rfl
 |j,.one s,r,h,x=>by
  simp only[C0]at h;split at h
  next s' f hf=>
   cases h;simp only[e8,qR,PC hf x]
  cases h
 |j,.cons s l,r,h,x=>by
  simp only[C0]at h;split at h
  next s' f hf=>
   split at h
   next a g b=>
    cases h;simp only[e8,qR,PC hf x.1,XY (j+1) l _ b x.2]
   cases h
  cases h
def Nw(l:bl)(j:Nat):Bool:=match l.at j with
 |some ⟨.nl,_⟩=>IN
 |_=>IS
def YF{l:bl}{j:Nat}(h:Nw l j=IN)(x:l.T):(e8 l x)[j]?=U (.bF (.slice No 0 0)):=by
 unfold Nw at h;split at h
 next f hf=>
  exact KE l j _ hf x
 cases h
def FB{α β:Type}(f:α->β)(xs:List α):Option (List β):=bif IT (16*xs.length<=mg)then U (xs.map f)else No
def KS(T:dd)(Γ:List dr)(cc:nO)(x:ag):Option (lW Γ):=match mM Γ x with
 |some (.ft l)=>match lD Γ x (.ft l),C0 T cc 0 l,cc.all (λc=>cD c.1 16&&Nw l c.1)with
  |some k6,U ⟨a,f⟩,IN=>U ⟨.ft a,λe=>FB f (k6 e)⟩
  |_,_,_=>No
 |_=>No
def bp4{T:dd}{Φ:lb}{Γ:List dr}{cc:nO}{x:ag}{r:lW Γ}(h:KS T Γ cc x=U r):r.Ok T Φ (.Bn cc x):=by
 intro e v hv;unfold KS at h;split at h
 next l hl=>
  split at h
  next k6 j f g hf hc=>
   cases h;simp only[FB]at hv;have a:IT (16*(k6 e).length<=mg)=IN:=by grind
   rw[a]at hv;cases hv;have b:zV cc ((k6 e).map (e8 l))=IN:=by
    simp only[zV,ab,aF,ak];refine⟨⟨a,λc d=>?_⟩,λr i c d=>?_⟩
    .grind[ak]
    obtain⟨y,_,rfl⟩:=aP.1 i;have:=ak.1 hc c d;simp only[ab]at this;rw[YF this.2 y];rfl
   simp only[fr,lO _ _ _ g e,enc,b,List.map_map];congr 2;refine List.map_congr_left λy _=>?_;exact XY 0 l _ hf y
  cases h
 cases h
def za{α:Type}(xs:List α)(i:Int):Option Unit:=(xs[i.toNat]?).map λ_=>()
def OZ(Γ:List dr)(c i:ag)(off:Nat):Option (lW Γ):=match mM Γ c with
 |some (.ft l)=>match lD Γ c (.ft l),mM Γ i with
  |some a,U (.int k)=>match lD Γ i (.int k),cD off l.len with
   |some b,IN=>U ⟨.rO,λe=>za (a e) (b e)⟩
   |_,_=>No
  |_,_=>No
 |_=>No
def Zq{T:dd}{Φ:lb}{Γ:List dr}{c i:ag}{off:Nat}{r:lW Γ}(h:OZ Γ c i off=U r):r.Ok T Φ (.zG c i off):=by
 intro e v hv;unfold OZ at h;split at h
 next l hl=>
  split at h
  next g k a _=>
   split at h
   next j b f=>
    cases h;simp only[za]at hv;cases d:(g e)[(j e).toNat]? with
    |none=>rw[d]at hv;cases hv
    |some y=>
     have m:off<l.len:=by simpa[bc]using f
     rw[d]at hv;cases hv;simp only[fr,lO _ _ _ a e,lO _ _ _ b e,enc,rowsOf,mf,aX,d,aj,sm,f]
   cases h
  cases h
 cases h
def QW{a b:bl}(h:a.nJ b=IN)(x:a.T):b.T:=(bl.sa a b h)▸x
def bj2{a b:bl}(h:a.nJ b=IN)(x:a.T):e8 b (QW h x)=e8 a x:=by have:=bl.sa a b h;subst this;rfl
def G6(l:bl)(m i:Nat):Option ((a:bl)×(l.T->a.T)):=match l.q7 (i*m)with
 |some ⟨mj,f1⟩=>match mj.uH m with
  |some ⟨nh,f2⟩=>U ⟨nh,λx=>f2 (f1 x)⟩
  |none=>No
 |none=>No
def Zu{l:bl}{m i:Nat}{q:(a:bl)×(l.T->a.T)}(h:G6 l m i=U q)(x:l.T):((e8 l x).drop (i*m)).take m=e8 q.1 (q.2 x)/\i*m+m<=(e8 l x).length:=by
 unfold G6 at h;split at h
 next mj f1 h1=>
  split at h
  next nh f2 h2=>
   cases h;obtain⟨b,a2⟩:=KC _ _ _ h1 x;obtain⟨c,d⟩:=KU _ _ _ h2 (f1 x)
   grind[sm]
  cases h
 cases h
def Ey(m:Nat)(s:bl)(l:bl):Nat->Nat->Option (l.T->List s.T)
 | 0,_=>U λ_=>[]
 |k+1,i=>match G6 l m i with
  |some ⟨nh,f⟩=>match h:nh.nJ s with
   |true=>match Ey m s l k (i+1)with
    |some g=>U λx=>QW h (f x)::g x
    |none=>No
   |false=>No
  |none=>No
def PF{m:Nat}{s l:bl}:∀(k i:Nat) (g:l.T->List s.T),Ey m s l k i=U g->∀x,(g x).length=k/\∀j y,(g x)[j]?=U y->((e8 l x).drop ((i+j)*m)).take m=e8 s y/\(i+j)*m+m<=(e8 l x).length
 | 0,i,g,h,x=>by grind[Ey]
 |k+1,i,g,h,x=>by
  unfold Ey at h;split at h
  next nh f h2=>
   split at h
   next e=>
    split at h
    next b c=>
     cases h;obtain⟨d,n⟩:=PF k (i+1) b c x;refine⟨by simp[d],λj y a=>?_⟩;cases j with
     |zero=>simp only[List.getElem?_cons_zero,ai]at a;subst a;rw[bj2];exact Zu h2 x
     |succ j=>grind[aM]
    cases h
   cases h
  cases h
def Fa(T:dd)(Γ:List dr)(t:TypeId)(x i:ag):Option (lW Γ):=match mM Γ i with
 |some (.int k)=>match lD Γ i (.int k)with
  |some b=>match T t with
   |some { fT:=.array len el,.. }=>match T el with
    |some a=>match mM Γ x with
     |some (.agg l)=>match lD Γ x (.agg l)with
      |some k6=>match G6 l a.size 0 with
       |some ⟨s,_⟩=>match Ey a.size s l len 0 with
        |some g=>match a.isAgg with
         |true=>U ⟨.agg s,λe=>nth (g (k6 e)) (b e)⟩
         |false=>No
        |none=>No
       |none=>No
      |none=>No
     |_=>No
    |none=>No
   |_=>No
  |none=>No
 |_=>No
def aY6{T:dd}{Φ:lb}{Γ:List dr}{t:TypeId}{x i:ag}{r:lW Γ}(h:Fa T Γ t x i=U r):r.Ok T Φ (.index t x i):=by
 intro e v hv;unfold Fa at h;split at h
 .split at h
  next f b=>
   split at h
   next len el _ _ _ _ j=>
    split at h
    next p he=>
     split at h
     next l hl=>
      split at h
      next k6 c=>
       split at h
       next s f0 k=>
        split at h
        next g m=>
         split at h
         next a=>
          cases h;simp only[nth]at hv;by_cases d:0<=f e
          .simp only[d,lV,dn]at hv
           obtain⟨q,n⟩:=PF _ _ _ m (k6 e);have o:=(ao.1 hv).1;have h1:f e<(len:Int):=by grind
           have:=n _ _ hv;rw[aN]at this;simp only[fr,lO _ _ _ c e,lO _ _ _ b e,enc,uV,j,he,d,h1,and_self,jj,xV,rm,a];rw[b9 this.2,this.1]
          simp[d]at hv
         cases h
        cases h
       cases h
      cases h
     cases h
    cases h
   cases h
  cases h
 cases h
def sb(n b5:Int):Option (Int×Int):=bif IT (0<=b5)&&IT (b5<=n)then U (b5,n-b5)else No
def bo9{n:Nat}{b5:Int}{v:Int×Int}(h:sb n b5=U v):0<=b5/\b5<=n/\(v.1=((b5.toNat:Nat):Int))/\v.2=((n-b5.toNat:Nat):Int):=by
 unfold sb at h;cases a:(IT (0<=b5)&&IT (b5<=(n:Int)))with
 |false=>rw[a]at h;cases h
 |true=>rw[a]at h;simp only[ab,gb]at a;cases h;refine⟨a.1,a.2,?_,?_⟩<;>simp only<;>omega
def KK(T:dd)(Γ:List dr)(t:TypeId)(z:Nat)(c b5:ag):Option (lW Γ):=match T t with
 |some { fT:=.slice el,.. }=>match T el with
  |some a=>match aB z a.size with
   |true=>match mM Γ c with
    |some (.ft l)=>match lD Γ c (.ft l)with
     |some b=>match mM Γ b5 with
      |some (.int k)=>match lD Γ b5 (.int k)with
       |some d=>U ⟨.fe (.cons (.int .i64) (.one (.int .i64))),λe=>sb (b e).length (d e)⟩
       |none=>No
      |_=>No
     |none=>No
    |_=>No
   |false=>No
  |none=>No
 |_=>No
def bo0{T:dd}{Φ:lb}{Γ:List dr}{t:TypeId}{z:Nat}{c b5:ag}{r:lW Γ}(h:KK T Γ t z c b5=U r):r.Ok T Φ (.tail t z c b5):=by
 intro e v hv;unfold KK at h;split at h
 next el _ _ _ _ f=>
  split at h
  next j a=>
   split at h
   next hz=>
    rw[bH]at hz;subst hz;split at h
    .split at h
     next k b=>
      split at h
      .split at h
       next l d=>
        cases h;obtain⟨h1,h2,g,i⟩:=bo9 hv;simp only[fr,lO _ _ _ b e,lO _ _ _ d e,enc,e8,f,a,qz,rowsOf,aF,bound,jj];rw[b9 ⟨h1,h2⟩];simp only[aN,g,i]
       cases h
      cases h
     cases h
    cases h
   cases h
  cases h
 cases h
def uB(n m a7:Int):Option Bool:=bif IT (0<=a7)&&(IT (a7<=n)&&IT (a7=m))then U IN else No
def ZA{n m:Nat}{a7:Int}{v:Bool}(h:uB n m a7=U v):0<=a7/\a7<=n/\a7.toNat=m/\v=IN:=by
 unfold uB at h;cases a:(IT (0<=a7)&&(IT (a7<=(n:Int))&&IT (a7=(m:Int))))with
 |false=>rw[a]at h;cases h
 |true=>rw[a]at h;simp only[ab,gb]at a;cases h;refine⟨a.1,a.2.1,by omega,rfl⟩
def OW(T:dd)(Γ:List dr)(t:TypeId)(z:Nat)(c c' a7:ag):Option (lW Γ):=match T t with
 |some { fT:=.slice el,.. }=>match T el with
  |some a=>match aB z a.size with
   |true=>match mM Γ c with
    |some (.ft l)=>match lD Γ c (.ft l),lD Γ c' (.ft l)with
     |some b,U fd=>match mM Γ a7 with
      |some (.int k)=>match lD Γ a7 (.int k)with
       |some d=>U ⟨.bool,λe=>uB (b e).length (fd e).length (d e)⟩
       |none=>No
      |_=>No
     |_,_=>No
    |_=>No
   |false=>No
  |none=>No
 |_=>No
def YT{T:dd}{Φ:lb}{Γ:List dr}{t:TypeId}{z:Nat}{c c' a7:ag}{r:lW Γ}(h:OW T Γ t z c c' a7=U r):r.Ok T Φ (.BH t z c c' a7):=by
 intro e v hv;unfold OW at h;split at h
 next el _ _ _ _ g=>
  split at h
  next k a=>
   split at h
   next hz=>
    rw[bH]at hz;subst hz;split at h
    .split at h
     next l fd b d=>
      split at h
      .split at h
       next m f=>
        cases h;obtain⟨h1,h2,i,rfl⟩:=ZA hv;have j:∀es,rowsOf (.rs es)=es:=λ_=>rfl;simp only[fr,lO _ _ _ b e,lO _ _ _ d e,lO _ _ _ f e,enc,g,a,qz,j,aF,bound,jj];rw[b9 ⟨h1,h2⟩];simp[i]
       cases h
      cases h
     cases h
    cases h
   cases h
  cases h
 cases h
def uF{α:Type}(c:List α)(o l:Int):Option (List α):=bif IT (0<=o)&&(IT (0<=l)&&IT (o+l=(c.length:Int)))then U (c.take o.toNat)else No
def YQ{α:Type}{c v:List α}{o l:Int}(h:uF c o l=U v):o.toNat+l.toNat=c.length/\v=c.take o.toNat:=by
 unfold uF at h;cases a:(IT (0<=o)&&(IT (0<=l)&&IT (o+l=(c.length:Int))))with
 |false=>rw[a]at h;cases h
 |true=>rw[a]at h;simp only[ab,gb]at a;cases h;exact⟨by omega,rfl⟩
def OI(T:dd)(Γ:List dr)(t:TypeId)(z:Nat)(c o l:ag):Option (lW Γ):=match T t with
 |some { fT:=.slice el,.. }=>match T el with
  |some a=>match aB z a.size&&a.zeroCells.all ag.one with
   |true=>match mM Γ c with
    |some (.ft s)=>match lD Γ c (.ft s),mM Γ o,mM Γ l with
     |some b,U (.int k),U (.int d)=>match lD Γ o (.int k),lD Γ l (.int d)with
      |some f,U g=>U ⟨.ft s,λe=>uF (b e) (f e) (g e)⟩
      |_,_=>No
     |_,_,_=>No
    |_=>No
   |false=>No
  |none=>No
 |_=>No
def Zm{T:dd}{Φ:lb}{Γ:List dr}{t a:TypeId}{z:Nat}{c o l:ag}{r:lW Γ}(h:OI T Γ t z c o l=U r):r.Ok T Φ (.cut t a z c o l):=by
 intro e v hv;unfold OI at h;split at h
 next el _ _ _ _ j=>
  split at h
  next n b=>
   split at h
   next hz=>
    rw[ab,bH]at hz;obtain⟨rfl,d⟩:=hz;split at h
    .split at h
     next p k q f _ _=>
      split at h
      next s u g i=>
       cases h;obtain⟨h1,rfl⟩:=YQ hv;have m:∀es,rowsOf (.rs es)=es:=λ_=>rfl;simp only[fr,lO _ _ _ f e,lO _ _ _ g e,lO _ _ _ i e,enc,j,b,td,m,mf,pF,bg.l1,jj];rw[b9 ⟨trivial,trivial,by rw[aF];exact h1,d⟩];simp[wb,bg.l1,List.map_take]
      cases h
     cases h
    cases h
   cases h
  cases h
 cases h
def CX(n:Int):Option Unit:=bif IT (0<=n)then U ()else No
def OT(Γ:List dr)(l:ag):Option (lW Γ):=match lD Γ l (.int .i64)with
 |some f=>U ⟨.rO,λe=>CX (f e)⟩
 |none=>No
def Yw{T:dd}{Φ:lb}{Γ:List dr}{l:ag}{r:lW Γ}(h:OT Γ l=U r):r.Ok T Φ (.Bm l):=by
 intro e v hv;unfold OT at h;split at h
 next f hf=>
  cases h;simp only[CX]at hv;cases a:IT (0<=f e)with
  |false=>rw[a]at hv;cases hv
  |true=>simp only[fr,lO _ _ _ hf e,enc,a]
 cases h
def v8(o l i:Int):Option Int:=bif IT (0<=o)&&(IT (0<=i)&&IT (i<l))then U (o+i)else No
def YH{o l i v:Int}(h:v8 o l i=U v):0<=i/\i<(l.toNat:Nat)/\v=((o.toNat+i.toNat:Nat):Int):=by
 unfold v8 at h;cases a:(IT (0<=o)&&(IT (0<=i)&&IT (i<l)))with
 |false=>rw[a]at h;cases h
 |true=>rw[a]at h;simp only[ab,gb]at a;cases h;omega
def OO(T:dd)(Γ:List dr)(t:TypeId)(o l i:ag):Option (lW Γ):=match T t with
 |some { fT:=.slice el,.. }=>match T el with
  |some _=>match mM Γ o,mM Γ l,mM Γ i with
   |some (.int k),U (.int a),U (.int b)=>match lD Γ o (.int k),lD Γ l (.int a),lD Γ i (.int b)with
    |some c,U d,U f=>U ⟨.int .i64,λe=>v8 (c e) (d e) (f e)⟩
    |_,_,_=>No
   |_,_,_=>No
  |none=>No
 |_=>No
def Y2{T:dd}{Φ:lb}{Γ:List dr}{t:TypeId}{o l i:ag}{r:lW Γ}(h:OO T Γ t o l i=U r):r.Ok T Φ (.A9 t o l i):=by
 intro e v hv;unfold OO at h;split at h
 next el _ _ _ _ f=>
  split at h
  next j a=>
   split at h
   .split at h
    next k m n b c d=>
     cases h;obtain⟨h1,h2,g⟩:=YH hv;simp only[fr,lO _ _ _ b e,lO _ _ _ c e,lO _ _ _ d e,enc,f,a,qf,mf,J3];rw[b9 ⟨h1,h2,trivial⟩];simp only[g]
    cases h
   cases h
  cases h
 cases h
def Fo{α:Type}(bytes:Nat)(z:α)(n:Int):Option (List α):=bif IT (0<=n)&&(IT (aa.wrap n=n)&&IT (bytes*n.toNat<=2^48))then U (bA n.toNat z)else No
def OQ(T:dd)(Γ:List dr)(sT:TypeId)(x:ag):Option (lW Γ):=match T sT with
 |some { fT:=.slice el,.. }=>match T el with
  |some a=>match Px a.size with
   |some ⟨l,z⟩=>match Dx a.zeroCells (e8 l z)with
    |true=>match mM Γ x with
     |some (.int k)=>match lD Γ x (.int k)with
      |some k6=>U ⟨.ft l,λe=>Fo a.bytes z (k6 e)⟩
      |none=>No
     |_=>No
    |false=>No
   |none=>No
  |none=>No
 |_=>No
def Y6{T:dd}{Φ:lb}{Γ:List dr}{sT:TypeId}{x:ag}{r:lW Γ}(h:OQ T Γ sT x=U r):r.Ok T Φ (.Bi sT x):=by
 intro e v hv;unfold OQ at h;split at h
 next c=>
  split at h
  next d a=>
   split at h
   next l z hz=>
    split at h
    next f=>
     split at h
     .split at h
      next k6 b=>
       cases h;simp only[Fo]at hv;cases hc:(IT (0<=k6 e)&&(IT (aa.wrap (k6 e)=k6 e)&&IT (d.bytes*(k6 e).toNat<=2^48)))with
       |false=>rw[hc]at hv;cases hv
       |true=>rw[hc]at hv;simp only[ab,gb]at hc;cases hv;simp only[fr,tg,c,a,lO _ _ _ b e,enc];rw[b9 ⟨trivial,trivial,hc.1,hc.2.1,hc.2.2⟩,Nk f];simp[wb,bg.l1]
      cases h
     cases h
    cases h
   cases h
  cases h
 cases h
def EC{α:Type}(c y:List α):Option (List α):=bif IT (y.length=c.length)then U y else No
def OH(T:dd)(Γ:List dr)(t:TypeId)(z:Nat)(c y:ag):Option (lW Γ):=match T t with
 |some { fT:=.slice el,.. }=>match T el with
  |some a=>match mM Γ c with
   |some (.ft l)=>match lD Γ c (.ft l),lD Γ y (.ft l)with
    |some b,U d=>match aB z a.size&&(aB l.len a.size&&l.cells)with
     |true=>U ⟨.ft l,λe=>EC (b e) (d e)⟩
     |false=>No
    |_,_=>No
   |_=>No
  |none=>No
 |_=>No
def YW{T:dd}{Φ:lb}{Γ:List dr}{t a:TypeId}{z:Nat}{c y:ag}{r:lW Γ}(h:OH T Γ t z c y=U r):r.Ok T Φ (.AE t a z c y):=by
 intro e v hv;unfold OH at h;split at h
 next el _ _ _ _ i=>
  split at h
  next p b=>
   split at h
   next l _=>
    split at h
    next j k d f=>
     split at h
     next g=>
      simp only[ab,bH]at g;obtain⟨rfl,m,n⟩:=g;cases h;simp only[EC]at hv;cases hc:IT ((k e).length=(j e).length)with
      |false=>rw[hc]at hv;cases hv
      |true=>
       rw[hc]at hv;simp only[gb]at hc;cases hv;have o:∀es,rowsOf (.rs es)=es:=λ_=>rfl;simp only[fr,lO _ _ _ d e,lO _ _ _ f e,enc,i,b,sB,o,Mx,nV,pF,bg.l1,jj];rw[b9]
       .simp[wb,bg.l1]
       refine⟨trivial,trivial,trivial,by simp[hc],?_⟩;rw[dV,ak];intro y _;simp[sm,m,cells_one n y]
     cases h
    cases h
   cases h
  cases h
 cases h
def KJ(T:dd)(Γ:List dr)(t:TypeId)(c ix:ag):Option (lW Γ):=match mM Γ c with
 |some (.pa (.cons K (.one V)))=>match lD Γ c (.pa (.cons K (.one V)))with
  |some a=>match T t with
   |some { fT:=.map b d,.. }=>match T d with
    |some _=>match q9 K with
     |some _=>match y4 K with
      |some q=>match CE T b K with
       |true=>match lD Γ ix K with
        |some f=>U ⟨.bool,λe=>U (ff q (f e) (a e)).isSome⟩
        |none=>No
       |false=>No
      |none=>No
     |none=>No
    |none=>No
   |_=>No
  |none=>No
 |_=>No
def bs2{T:dd}{Φ:lb}{Γ:List dr}{t:TypeId}{c ix:ag}{r:lW Γ}(h:KJ T Γ t c ix=U r):r.Ok T Φ (.A6 t c ix):=by
 intro e v hv;unfold KJ at h;split at h
 next K V _=>
  split at h
  next a j=>
   split at h
   next n x _ _ _ _ o=>
    split at h
    next z k=>
     split at h
     next s hk=>
      obtain⟨b,g⟩:=s;split at h
      next q u=>
       split at h
       next hf=>
        split at h
        next d l=>
         cases h;cases hv;have hc:c.sub (pz Γ e)=.mx (.rs ((a e).map (e8 (.cons K (.one V))))):=lO _ _ _ j e;have m:ix.sub (pz Γ e)=enc K (d e):=lO _ _ _ l e;have f:(qF ((a e).map (e8 (.cons K (.one V))))=b\/((a e).map (e8 (.cons K (.one V)))).isEmpty=IN)/\ry T n b (g (d e)) (nt 0 ((a e).map (e8 (.cons K (.one V)))))=IN/\((a e).map (e8 (.cons K (.one V)))).all ua=IN:=by
          refine⟨?_,Fi hk hf _ _ _,To hk _⟩
          grind[Im]
         simp only[fr,hc,m,oW,o,y9 hk,k];rw[b9 f];have hm:=Ih (V:=V) hk u (d e) (a e) 0 0;cases hl:ff q (d e) (a e)with
         |none=>
          rw[hl]at hm;cases i:nd b (g (d e)) (nt 0 ((a e).map (e8 (.cons K (.one V))))) 0 with
          |none=>simp[i,enc]
          |some p=>rw[i]at hm;cases hm
         |some w=>
          rw[hl]at hm;cases i:nd b (g (d e)) (nt 0 ((a e).map (e8 (.cons K (.one V))))) 0 with
          |none=>rw[i]at hm;cases hm
          |some p=>simp[i,enc]
        cases h
       cases h
      cases h
     cases h
    cases h
   cases h
  cases h
 cases h
def orElse'{α:Type}:Option α->Option α->Option α
 |some a,_=>U a
 |none,b=>b
def Gd(T:dd)(e:List fp)(Γ:List dr):ml->Option (lW Γ)
 | .bin o t x y=>OE T Γ o t x y
 | .un o x=>OY Γ o x
 | .conv s d x=>KM T Γ s d x
 | .pick c a b=>K5 Γ c a b
 | .idx t x i=>OK T Γ t x i
 | .index t x i=>orElse' (CS T Γ t x i) (Fa T Γ t x i)
 | .BF t x b5 a7=>OV T Γ t x b5 a7
 | .len t x=>OP T Γ t x
 | .pX l=>OS Γ l
 | .Bk l=>OR Γ l
 | .cat sT xT x y=>OG T Γ sT xT x y
 | .call f args h=>Gf Γ f args h e
 | .rows l=>KG Γ l
 | .look t c ix ok=>KO T Γ t c ix ok
 | .w6 t c ix ok=>Pj T Γ t c ix ok
 | .pW t c ix v=>KL T Γ t c ix v
 | .Bj t c=>KY T Γ t c
 | .zr=>U ⟨.rO,λ_=>U ()⟩
 | .zb t c i=>OL T Γ t c i
 | .xl t _ _ c i off=>O0 T Γ t c i off
 | .vd t _ _ c i off v=>O1 T Γ t c i off v
 | .A7 x=>OM Γ x
 | .zu n x=>OU Γ n x
 | .BM t x=>O2 T Γ t x
 | .A5 t g=>OJ T Γ t g
 | .A8 x=>ON Γ x
 | .more x p=>KD Γ x p
 | .BD x p=>KW Γ x p
 | .Bn cc x=>KS T Γ cc x
 | .zG c i off=>OZ Γ c i off
 | .tail t z c b5=>KK T Γ t z c b5
 | .BH t z c c' a7=>OW T Γ t z c c' a7
 | .cut t _ z c o l=>OI T Γ t z c o l
 | .Bm l=>OT Γ l
 | .A6 t c ix=>KJ T Γ t c ix
 | .A9 t o l i=>OO T Γ t o l i
 | .Bi t n=>OQ T Γ t n
 | .AE t _ z c y=>OH T Γ t z c y
def bc8{T:dd}{Φ:lb}{j:List fp}(k:∀t∈j,t.Ok Φ){Γ:List dr}{o:ml}{r:lW Γ}(h:Gd T j Γ o=U r):r.Ok T Φ o:=by
 cases o with
 |bin o t x y=>exact Zc h
 |un o x=>exact bd3 h
 |conv s d x=>exact bo3 h
 |pick c a b=>exact bq3 h
 |idx t x i=>exact ZG h
 |index t x i=>
  cases h1:CS T Γ t x i with
  |some a=>rw[show Gd T j Γ (.index t x i)=orElse' (CS T Γ t x i) (Fa T Γ t x i)from rfl,h1]at h;cases h;exact bj8 h1
  |none=>rw[show Gd T j Γ (.index t x i)=orElse' (CS T Γ t x i) (Fa T Γ t x i)from rfl,h1]at h;exact aY6 h
 |BF t x b5 a7=>exact YJ h
 |len t x=>exact Yr h
 |pX l=>exact bc5 h
 |Bk l=>exact bc4 h
 |cat sT xT x y=>exact Ze h
 |call f args m=>exact Vx j k h
 |rows l=>exact bk4 h
 |look t c ix ok=>exact br1 h
 |w6 t c ix ok=>exact bg3 h
 |pW t c ix v=>exact bq2 h
 |Bj t c=>exact br5 h
 |zr=>cases h;exact λe v _=>rfl
 |zb t c i=>exact Yp h
 |xl t _ _ c i off=>exact Zo h
 |vd t _ _ c i off v=>exact Zf h
 |A7 x=>exact Yy h
 |zu n x=>exact Zx h
 |BM t x=>exact Zb h
 |A5 t g=>exact bc0 h
 |A8 x=>exact ZK h
 |more x p=>exact bt2 h
 |BD x p=>exact bt0 h
 |Bn cc x=>exact bp4 h
 |zG c i off=>exact Zq h
 |tail t z c b5=>exact bo0 h
 |BH t z c c' a7=>exact YT h
 |cut t _ z c o l=>exact Zm h
 |Bm l=>exact Yw h
 |A6 t c ix=>exact bs2 h
 |A9 t o l i=>exact Y2 h
 |Bi t n=>exact Y6 h
 |AE t _ z c y=>exact YW h
def a8{α β:Type}:Option α->(α->Option β)->Option β
 |some a,f=>f a
 |none,_=>No
omit [nF]in
def bl9{α β:Type}{x:Option α}{f:α->Option β}{v:β}(h:a8 x f=U v):∃a,x=U a/\f a=U v:=by
 cases x with
 |none=>cases h
 |some a=>exact⟨a,rfl,h⟩
def iter{α β:Type}(F:(α->Option β)->α->Option β):Nat->α->Option β
 | 0,_=>No
 |n+1,x=>F (iter F n) x
def many:Nat:=Classical.choose (⟨2^100,aw _⟩:∃n:Nat,2^100<=n)
class Fuel where
 n:Nat
instance RE:Fuel:=⟨many⟩
def rounds[Fuel]{α β:Type}(F:(α->Option β)->α->Option β)(x:α):Option β:=iter F Fuel.n x
abbrev LCtx:=List (Nat×bl)
@[reducible] def GA (R:Type):LCtx->Type
 | []=>Unit
 | (_,s)::C=>(s.T->Option R)×GA R C
def zv(R:Type):(C:LCtx)->Nat->Option ((s:bl)×(GA R C->s.T->Option R))
 | [],_=>No
 | (l,s)::C,a=>match aB l a with
  |true=>U ⟨s,λκ=>κ.1⟩
  |false=>match zv R C a with
   |some ⟨s',g⟩=>U ⟨s',λκ=>g κ.2⟩
   |none=>No
def r':(l:bl)->(Γ:List dr)->(Γ':List dr)×(l.T->Env Γ->Env Γ')
 | .nil,Γ=>⟨Γ,λ_ e=>e⟩
 | .one s,Γ=>⟨s::Γ,λx e=>(x,e)⟩
 | .cons s l,Γ=>match r' l (s::Γ)with
  |⟨Γ',p⟩=>⟨Γ',λx e=>p x.2 (x.1,e)⟩
def Wj:∀(l:bl) (Γ:List dr) (x:l.T) (e:Env Γ),pw (r' l Γ).1 ((r' l Γ).2 x e)=(e8 l x).reverse++pw Γ e
 | .nil,_,_,_=>rfl
 | .one _,_,_,_=>rfl
 | .cons s l,Γ,x,e=>by have:=Wj l (s::Γ) x.2 (x.1,e);simp only[r',this,e8,List.reverse_cons,List.append_assoc,pw,List.singleton_append]
def Mi(H:Nat->Option bl)(Γ:List dr)(l:Nat)(inits:List ag):Nat->Option bl
 | 0=>No
 |m+1=>match H l with
  |some ls=>match qD Γ inits ls with
   |some _=>U ls
   |none=>Mi H Γ (l+1000) inits m
  |none=>No
def den(T:dd)(d:List fp)(H:Nat->Option bl)(ng:dr):mV->(Γ:List dr)->(C:LCtx)->Env Γ->GA ng.T C->Option ng.T
 | .stuck,_,_=>λ_ _=>No
 | .ret c l,Γ,C=>match l.all (CN Γ)with
  |true=>match lD Γ c ng with
   |some f=>λe _=>U (f e)
   |none=>λ_ _=>No
  |false=>λ_ _=>No
 | .op o bb pat r,Γ,C=>match aB bb Γ.length with
  |true=>match Gd T d Γ o with
   |some ⟨s,g⟩=>match qG pat s Γ with
    |some ⟨Γ',p⟩=>λe κ=>a8 (g e) λv=>den T d H ng r Γ' C (p v e) κ
    |none=>λ_ _=>No
   |none=>λ_ _=>No
  |false=>λ_ _=>No
 | .test i a b,Γ,C=>match zR Γ i .bool with
  |some f=>λe κ=>bif f e then den T d H ng a Γ C e κ else den T d H ng b Γ C e κ
  |none=>λ_ _=>No
 | .loop l k inits body,Γ,C=>match Mi H Γ l inits 4 with
  |some ls=>match aB l Γ.length&&(aB ls.len k&&body.er (l+k+1))with
   |true=>match qD Γ inits ls with
    |some h=>λe κ=>rounds (λrec x=>den T d H ng body (.bool::(r' ls Γ).1) ((l,ls)::C) (IS,(r' ls Γ).2 x e) (rec,κ)) (h e)
    |none=>λ_ _=>No
   |false=>λ_ _=>No
  |none=>λ_ _=>No
 | .again l hi,Γ,C=>match zv ng.T C l with
  |some ⟨s,g⟩=>match qD Γ hi s with
   |some f=>λe κ=>g κ (f e)
   |none=>λ_ _=>No
  |none=>λ_ _=>No
def bk7{Γ:List dr}{l:List Nat}(h:l.all (CN Γ)=IN)(e:Env Γ):∀j∈l,∃es,pz Γ e j=.rs es:=λj hj=>Wu (ak.1 h j hj) e
def CT{T:dd}{Φ:lb}{G:List fp}(u:∀t∈G,t.Ok Φ){H:Nat->Option bl}{ng:dr}{v:ng.T}:∀(r:mV) (Γ:List dr) (C:LCtx) (e:Env Γ) (κ:GA ng.T C) (A:Nat->List ag->Prop),
  (∀l s g,zv ng.T C l=U ⟨s,g⟩->∀x,g κ x=U v->A l (e8 s x))->den T G H ng r Γ C e κ=U v->rZ T Φ (λc=>c=enc ng v) r Γ.length (pw Γ e) A
 | .stuck,Γ,C,e,κ,A,d,h=>by simp[den]at h
 | .ret c l,Γ,C,e,κ,A,d,h=>by
  simp only[den]at h;cases hl:l.all (CN Γ)with
  |false=>simp only[hl]at h;cases h
  |true=>
   simp only[hl]at h;cases hf:lD Γ c ng with
   |none=>simp only[hf]at h;cases h
   |some f=>simp only[hf]at h;cases h;exact rZ.Oo (λj hj=>bk7 hl e j hj) (lO _ _ _ hf e)
 | .op o bb pat r,Γ,C,e,κ,A,d,h=>by
  simp only[den]at h;cases I:aB bb Γ.length with
  |false=>simp only[I]at h;cases h
  |true=>
   simp only[I]at h;have I:=af I;subst I;cases P:Gd T G Γ o with
   |none=>simp only[P]at h;cases h
   |some sg=>
    obtain⟨s,g⟩:=sg;simp only[P]at h;cases hp:qG pat s Γ with
    |none=>simp only[hp]at h;cases h
    |some x=>
     obtain⟨Γ',p⟩:=x;simp only[hp]at h;obtain⟨w,h1,h2⟩:=bl9 h;obtain⟨vs,b1,b2,b3⟩:=H4 _ _ _ _ hp w e;have J:=CT u r Γ' C (p w e) κ A d h2;have Q:=bc8 u P e w h1;have hlen:Γ'.length=Γ.length+vs.length:=by have:=mP eT b1;simp only[tp,aT]at this;omega
     have R:pw Γ' (p w e)=vs++pw Γ e:=b1;rw[hlen,R]at J;refine rZ.NQ vs ?_ b2 J;have:=b3 [];simp only[bq,aT,tp]at this;rw[Nat.add_comm,this];exact Q
 | .test i a b,Γ,C,e,κ,A,d,h=>by
  simp only[den]at h;cases hf:zR Γ i .bool with
  |none=>simp only[hf]at h;cases h
  |some f=>
   simp only[hf]at h;refine rZ.test (f e) (NY hf e) (λS=>?_) (λS=>?_)
   .rw[S]at h
    exact CT u a Γ C e κ A d h
   rw[S]at h;exact CT u b Γ C e κ A d h
 | .loop l k inits body,Γ,C,e,κ,A,d,h=>by
  simp only[den]at h;cases K:Mi H Γ l inits 4 with
  |none=>simp only[K]at h;cases h
  |some ls=>
   simp only[K]at h;cases N:(aB l Γ.length&&(aB ls.len k&&body.er (l+k+1)))with
   |false=>simp only[N]at h;cases h
   |true=>
    simp only[N]at h;simp only[ab,bH]at N;obtain⟨rfl,hk,M⟩:=N;cases z:qD Γ inits ls with
    |none=>simp only[z]at h;cases h
    |some fi=>
     simp only[z]at h;refine rZ.loop (λn hi=>∃x,hi=e8 ls x/\iter (λrec x=>den T G H ng body (.bool::(r' ls Γ).1) ((Γ.length,ls)::C) (IS,(r' ls Γ).2 x e) (rec,κ)) n x=U v) M many ?_ ?_
     .refine⟨fi e,?_,h⟩
      have:=wF _ _ _ z e;rw[EV]at this;exact this
     rintro n hi ⟨x,rfl,hx⟩ hlen;cases n with
     |zero=>cases hx
     |succ n=>
      have J:=CT u body (.bool::(r' ls Γ).1) ((Γ.length,ls)::C) (IS,(r' ls Γ).2 x e) (iter (λrec x=>den T G H ng body (.bool::(r' ls Γ).1) ((Γ.length,ls)::C) (IS,(r' ls Γ).2 x e) (rec,κ)) n,κ)
       (λB=>if B=Γ.length then(λD=>∃m',m'<n+1/\∃x,D=e8 ls x/\iter (λrec x=>den T G H ng body (.bool::(r' ls Γ).1) ((Γ.length,ls)::C) (IS,(r' ls Γ).2 x e) (rec,κ)) m' x=U v)else A B)
       (λB s g hf y hy=>by
        simp only[zv]at hf;cases m:aB Γ.length B with
        |true=>simp only[m]at hf;have m:=af m;subst m;cases hf;simp only[jj];exact⟨n,Nat.lt_succ_self _,y,rfl,hy⟩
        |false=>
         simp only[m]at hf;have V:B≠Γ.length:=λhe=>by rw[he,ee]at m;cases m
         cases E:zv ng.T C B with
         |none=>simp only[E]at hf;cases hf
         |some q=>
          obtain⟨s',g'⟩:=q;simp only[E]at hf;cases hf;simp only[V,j2];exact d B _ _ E y hy) hx
      have O:=Wj ls Γ x e;have e2:(dr.bool::(r' ls Γ).1).length=Γ.length+k+1:=by have:=mP eT O;simp only[tp,aT,List.length_reverse,sm]at this;simp only[List.length_cons];omega
      rw[e2]at J;have e3:pw (dr.bool::(r' ls Γ).1) (IS,(r' ls Γ).2 x e)=.bF (.bool IS)::((e8 ls x).reverse++pw Γ e):=by rw[<-O];rfl
      rw[e3]at J;exact J
 | .again l hi,Γ,C,e,κ,A,d,h=>by
  simp only[den]at h;cases E:zv ng.T C l with
  |none=>simp only[E]at h;cases h
  |some q=>
   obtain⟨s,g⟩:=q;simp only[E]at h;cases hf:qD Γ hi s with
   |none=>simp only[hf]at h;cases h
   |some f=>
    simp only[hf]at h;have:=d l s g E (f e) h;rw[<-wF _ _ _ hf e,EV]at this;intro I;have O:env (pw Γ e).reverse=pz Γ e:=by rw[wP,tp];rfl
    intro hL;show A l _;rw[O];exact this
def zN(T:dd)(b:List fp)(H:Nat->Option bl)(nq:bl)(ng:dr)(a:List ag)(r:mV):nq.T->Option ng.T:=match r_ a nq []with
 |some ⟨Γ,p⟩=>λx=>den T b H ng r Γ [] (p x ()) ()
 |none=>λ_=>No
def Oz:List (Nat×bl)->Nat->Option bl
 | [],_=>No
 | (g,s)::l,f=>match aB g f with
  |true=>U s
  |false=>Oz l f
def Zy{P:Program}{T:dd}(ca:mc P T){Φ:lb}(d:A_ P Φ){F:FuncId->Option Func}(cu:∀f fn,F f=U fn->P.funcs[f]?=U fn)(hm:P.follows .mixedOrders=IN){j:List fp}(e:∀t∈j,t.Ok Φ)
  {H:List (Nat×Hint)} {m:Nat} {f:FuncId} {a:List ag} {bb:Nat} {S:Nat->Option bl} {nq:bl} {ng:dr} {g:nq.T->Option ng.T} (r:zN T j S nq ng a (E8 T Φ F H m f a bb)=g) {x:nq.T} {v:ng.T} (h:g x=U v):oI P ⟨f,e8 nq x,enc ng v⟩:=by
 subst r;unfold zN at h;cases hp:r_ a nq []with
 |none=>simp only[hp]at h;cases h
 |some q=>
  obtain⟨Γ,p⟩:=q;simp only[hp]at h;obtain⟨vs,w,z,B⟩:=yS _ _ _ _ hp x ();have hl:=CT e _ Γ [] (p x ()) () (λ_ _=>False) (λl s g hf=>by simp[zv]at hf) h;have c:pw Γ (p x ())=vs++[]:=w;have k:mR (pz Γ (p x ())) a=e8 nq x:=by have n:=B [];rw[bq]at n;unfold pz;rw[c,<-tp Γ (p x ()),c];exact n
  rw[EV]at k;have b:∀u∈pw Γ (p x ()),mW u:=λu hu=>by rw[c,List.append_nil]at hu;exact z u hu
  rw[<-k];have i:=hl (by rw[tp]);have o:=i (λu hu=>b u (by simpa using hu));rw[wP,tp]at o;exact bd9 ca d cu hm (by have:=Fit.env (l:=(pw Γ (p x ())).reverse) (λu hu=>b u (by simpa using hu));rw[wP,tp]at this;exact this) o
def map_inj{α β:Type}{f:α->β}(hf:∀x y,f x=f y->x=y):∀ {xs ys:List α},xs.map f=ys.map f->xs=ys
 | [],[],_=>rfl
 | [],y::ys,h=>by simp at h
 |x::xs,[],h=>by simp at h
 |x::xs,y::ys,h=>by simp only[ay,cG]at h;rw[hf x y h.1,map_inj hf h.2]
mutual
theorem W5:∀(s:dr) (x y:s.T),enc s x=enc s y->x=y
 | .int _,x,y,h=>by simp only[enc,ag.bF.injEq,gz]at h;exact h.2
 | .bool,x,y,h=>by simp only[enc,ag.bF.injEq,iD]at h;exact h
 | .str,x,y,h=>by simp only[enc,ag.bF.injEq,kY]at h;exact h
 | .rO,x,y,_=>rfl
 | .nl,x,y,_=>rfl
 | .ft l,x,y,h=>by simp only[enc,ag.rs.injEq]at h;exact map_inj (wE l) h
 | .agg l,x,y,h=>by simp only[enc,ag.agg.injEq]at h;exact wE l x y h
 | .ptr l,x,y,h=>by simp only[enc,ag.h8.injEq]at h;exact wE l x y h
 | .pa l,x,y,h=>by simp only[enc,ag.mx.injEq,ag.rs.injEq]at h;exact map_inj (wE l) h
 | .fe l,x,y,h=>by simp only[enc,ag.fe.injEq]at h;exact wE l x y h
 | .fn g l,x,y,h=>by simp only[enc,ag.fn.injEq]at h;exact wE l x y h.2.2
theorem wE:∀(l:bl) (x y:l.T),e8 l x=e8 l y->x=y
 | .nil,_,_,_=>rfl
 | .one s,x,y,h=>by simp only[e8,cG,and_true]at h;exact W5 s x y h
 | .cons s l,x,y,h=>by simp only[e8,cG]at h;exact fg (W5 s _ _ h.1) (wE l _ _ h.2)
end
mutual
def dr.sep:dr->dr->Bool
 | .fn g _,.fn a _=>!Nat.beq g a
 |_,_=>IS
def bl.sep:bl->bl->Bool
 | .one s,.one s'=>s.sep s'
 | .cons s l,.cons s' a=>s.sep s'||l.sep a
 |_,_=>IS
end
def dr.Dj{s s':dr}(h:s.sep s'=IN)(x:s.T)(y:s'.T):enc s x≠enc s' y:=by
 cases s<;>cases s'<;>simp only[dr.sep]at h<;>try (cases h;done)
 intro he;simp only[enc,ag.fn.injEq,Fn.func.injEq]at he;rw[he.1,ee]at h;cases h
def bl.Dj:∀ {l a:bl},l.sep a=IN->∀(x:l.T) (y:a.T),e8 l x≠e8 a y
 | .nil,a,h,_,_=>by simp[bl.sep]at h
 | .one s,.nil,h,_,_=>by simp[bl.sep]at h
 | .one s,.one s',h,x,y=>by simp only[bl.sep]at h;intro he;simp only[e8,cG,and_true]at he;exact dr.Dj h x y he
 | .one s,.cons s' a,h,_,_=>by simp[bl.sep]at h
 | .cons s l,.nil,h,_,_=>by simp[bl.sep]at h
 | .cons s l,.one s',h,_,_=>by simp[bl.sep]at h
 | .cons s l,.cons s' a,h,x,y=>by
  simp only[bl.sep,bD]at h;intro he;simp only[e8,cG]at he;rcases h with h|h
  .exact dr.Dj h _ _ he.1
  exact bl.Dj h _ _ he.2
def E6(P:Program)(f:FuncId)(args:List ag)(c:ag):Prop:=∀v z rest,args=v::.bF (.int .i64 (z:Nat))::rest->∃es a,v=.rs es/\c=.rs a/\a.length=es.length /\
 ∀σ id e restv,σ.bT id=U (.row e z es)->(∀G vs w,gl G restv vs->Rel G (σ.del id) w->gl (G.frozen (σ.del id) w (λ_=>No)) rest vs) ->
  po P f (.ms id z 0 es.length::restv) σ (λv σ'=>v=.fe []/\σ'=σ.set id (.row e z a))
def CK(P:Program)(f:FuncId)(args:List ag)(c:ag):Prop:=∃es,c=.rs es/\∀T fn t elem ti a,mc P T->P.funcs[f]?=U fn->fn.resultTypes.toList=[t]->T t=U ti->ti.fT=.slice elem->T elem=U a ->
 ∀σ:bg,po P f args σ (λv σ'=>v=.ms (σ.next+5) a.size 0 es.length/\σ'={ σ with next:=σ.next+7 }.set (σ.next+5) (.row elem a.size es))
def Good(P:Program)(f:FuncId)(args:List ag)(c:ag):Prop:=(f<p6->oI P ⟨f,args,c⟩)/\(∀g,g<p6->f=p6+g->E6 P g args c)/\∀g,f=yL+g->CK P g args c
structure K9(P:Program)(ts:List fp)(f:FuncId)(args:List ag)(c:ag):Prop where
 wZ:Good P f args c
 is:∃t∈ts,t.f=f/\∃x r,args=e8 t.nq x/\t.fn x=U r/\c=enc t.ng r
def Gt(P:Program)(ts:List fp)(f:FuncId)(args:List ag):Option ag :=open Classical in if h:∃c,K9 P ts f args c then U h.choose else No
def ME{P:Program}{ts:List fp}{f:FuncId}{args:List ag}{c:ag}(h:Gt P ts f args=U c):K9 P ts f args c:=by
 unfold Gt at h;split at h
 next a=>cases h;exact a.choose_spec
 cases h
def Kr:List fp->FuncId->Bool
 | [],_=>IS
 |t::ts,f=>match aB t.f f with
  |true=>IN
  |false=>Kr ts f
def tJ(P:Program)(ts:List fp):lb:=λf=>match Kr ts f with
 |true=>U (Gt P ts f)
 |false=>No
def TV:∀ {ts:List fp} {t:fp},t∈ts->Kr ts t.f=IN
 | [],_,h=>by simp at h
 |b::ts,t,h=>by
  unfold Kr;split
  .rfl
  rename_i a;rcases aI.1 h with rfl|h
  .rw[ee]at a;cases a
  exact TV h
def NA(P:Program)(ts:List fp):A_ P (tJ P ts):=by
 refine⟨λf φ hf h args c hc=>?_,λf φ hf h=>?_,λf φ h=>?_⟩
 .unfold tJ at h
  split at h
  .cases h;exact(ME hc).wZ.1 hf
  cases h
 .unfold tJ at h
  split at h
  .cases h
   intro v z rest c hc;exact(ME hc).wZ.2.1 f hf rfl v z rest rfl
  cases h
 unfold tJ at h;split at h
 .cases h
  intro args c hc;exact(ME hc).wZ.2.2 f rfl
 cases h
def zX:List fp->Bool
 | []=>IN
 |t::ts=>(ts.all λa=>!Nat.beq t.f a.f||t.nq.sep a.nq)&&zX ts
def Xa:∀ {ts:List fp},zX ts=IN->∀t∈ts,∀c∈ts,c.f=t.f->∀(x:t.nq.T) (d:c.nq.T),e8 c.nq d=e8 t.nq x->c=t
 | [],_,t,h,_,_,_,_,_,_=>by simp at h
 |a::ts,hs,t,g,c,e,hf,x,d,he=>by
  simp only[zX,ab,ak,bD,bS]at hs;rcases aI.1 g with h1|h1
  .rcases aI.1 e with h2|h2
   .rw[h1,h2]
   subst h1;rcases hs.1 c h2 with b|b
   .rw[hf,ee]at b;cases b
   exact lH he.symm (bl.Dj b x d)
  rcases aI.1 e with h2|h2
  .subst h2
   rcases hs.1 t h1 with b|b
   .rw[hf,ee]at b;cases b
   exact lH he (bl.Dj b d x)
  exact Xa hs.2 t h1 c h2 hf x d he
def ub{P:Program}{ts:List fp}(hs:zX ts=IN){t:fp}(b:t∈ts)(h:∀x r,t.fn x=U r->Good P t.f (e8 t.nq x) (enc t.ng r)):t.Ok (tJ P ts):=by intro x r d;refine⟨Gt P ts t.f,by unfold tJ;rw[TV b],?_⟩;have hex:∃c,K9 P ts t.f (e8 t.nq x) c:=⟨_,h x r d,t,b,rfl,x,r,rfl,d,rfl⟩;unfold Gt;rw[dif_pos hex];obtain⟨j,g,e,hf,i,k,he,a,hc⟩:=hex.choose_spec;have:=Xa hs t b g e hf x i he.symm;subst this;have:=wE _ _ _ he;subst this;rw[d]at a;cases a;rw[hc]
def Good.w_{P:Program}{f:FuncId}{args:List ag}{c:ag}(hf:f<p6)(h:oI P ⟨f,args,c⟩):Good P f args c:=by
 refine⟨λ_=>h,λg _ a=>?_,λg a=>?_⟩<;>exfalso
 .subst a
  exact gI.2 (aY p6 g) hf
 subst a;exact gI.2 (bI (by decide) (aY yL g)) hf
def Good.sort{P:Program}{g:FuncId}{args:List ag}{c:ag}(h:E6 P g args c)(d:g<p6:=by decide):Good P (p6+g) args c:=by
 refine⟨λhf=>lH hf (gI.2 (aY p6 g)),λb _ a=>?_,λb a=>?_⟩
 .have:g=b:=jy a
  rw[<-this];exact h
 exfalso;have e:@Eq Nat (1000000+g) (2000000+b):=a;have f:@LT.lt Nat _ g 1000000:=d;omega
def Good.row{P:Program}{g:FuncId}{args:List ag}{c:ag}(h:CK P g args c):Good P (yL+g) args c:=by
 refine⟨λhf=>lH hf (gI.2 (bI (by decide) (aY yL g))),λb a he=>?_,λb a=>?_⟩
 .exfalso
  have e:@Eq Nat (2000000+g) (1000000+b):=he;have d:@LT.lt Nat _ b 1000000:=a;omega
 have:g=b:=jy a;rw[<-this];exact h
def be2{P:Program}{T:dd}(ca:mc P T){F:FuncId->Option Func}(cu:∀f fn,F f=U fn->P.funcs[f]?=U fn)(hm:P.follows .mixedOrders=IN){ts c:List fp}(hs:zX ts=IN)(b:∀t∈c,t.Ok (tJ P ts)){t:fp}(d:t∈ts)(hf:cD t.f p6=IN)
  {H:List (Nat×Hint)} {m:Nat} {a:List ag} {bb:Nat} {S:Nat->Option bl} (e:zN T c S t.nq t.ng a (E8 T (tJ P ts) F H m t.f a bb)=t.fn):t.Ok (tJ P ts) :=
 ub hs d λx r g=>Good.w_ (by simpa using hf) (Zy ca (NA P ts) cu hm b e g)
def fb.allI{α:Type}(p:Nat->α->Bool):Nat->Nat->fb α->Bool
 |_,_,.leaf=>IN
 |m,b,.node v l r=>(match v with|some x=>p b x|none=>IN)&&(fb.allI p (2*m) (m+b) l&&fb.allI p (2*m) (2*m+b) r)
def fb.Ed{α:Type}{p:Nat->α->Bool}:∀(t:fb α) (m b k:Nat) (v:α),t.allI p m b=IN->t.get k=U v->p (m*k+b) v=IN
 | .leaf,m,b,k,v,_,h=>by rw[fb.sc]at h;cases h
 | .node x l r,m,b,0,v,h,a=>by simp only[fb.get]at a;simp only[fb.allI,ab]at h;rw[a]at h;simpa using h.1
 | .node x l r,m,b,k+1,v,h,a=>by
  simp only[fb.allI,ab]at h;simp only[fb.get]at a;have hk:=gx k 2;rcases Nat.mod_two_eq_zero_or_one k with e|e<;>rw[e]at a<;>simp only at a
  .have:=fb.Ed l (2*m) (m+b) (k / 2) v h.2.1 a
   rw[e]at hk;have c:m*(k+1)+b=2*m*(k / 2)+(m+b):=by
    have:m*(k+1)=m*(2*(k / 2))+m:=by
     have:k+1=2*(k / 2)+1:=by omega
     rw[this,lj,Nat.mul_one]
    rw[this,eB 2 m,kM];omega
   rw[c];exact this
  have:=fb.Ed r (2*m) (2*m+b) (k / 2) v h.2.2 a;rw[e]at hk;have c:m*(k+1)+b=2*m*(k / 2)+(2*m+b):=by
   have:m*(k+1)=m*(2*(k / 2))+2*m:=by
    have:k+1=2*(k / 2)+2:=by omega
    rw[this,lj,eB 2 m]
   rw[this,eB 2 m,kM];omega
  rw[c];exact this
structure oO where
 a:Nat
 e:TypeId
 z:Nat
 j:Nat
 cc:nO
def q_(a:Option oO)(θ:Nat->ag):List (Nat×b7):=match a with
 |none=>[]
 |some F=>od F.cc 0 (rowsOf (θ F.j))
def uq(a:Option oO)(θ:Nat->ag):Prop:=match a with
 |none=>True
 |some F=>∃rows,θ F.j=.rs rows/\w8 F.cc rows
def AS.full(s:AS)(a:Option oO)(θ:Nat->ag):AS:=(s.sub θ).mI (q_ a θ)
def zL:nO->nO->Bool
 | [],[]=>IN
 |c::cs,d::a=>aB c.1 d.1&&aB c.2.1 d.2.1&&aB c.2.2 d.2.2&&zL cs a
 |_,_=>IS
def Ii:∀ {a b:nO},zL a b=IN->a=b
 | [],[],_=>rfl
 | [],_::_,h=>by simp[zL]at h
 |_::_,[],h=>by simp[zL]at h
 |c::cs,d::g,h=>by simp only[zL,ab]at h;obtain⟨⟨⟨h1,h2⟩,e⟩,f⟩:=h;rw[Ii f,show c=d from fg (af h1) (fg (af h2) (af e))]
def oF(b:Option oO)(s:AS)(bb:Nat):Bool:=dx mg s.st.next&&s.st.mv.allI (λi _=>dx mg i) 1 0&&match b with
 |none=>IN
 |some F=>cD F.j bb&&match s.st.bT F.a with
  |some (.nD e z (.ek j) cc _ _ No)=>aB e F.e&&aB z F.z&&aB j F.j&&zL cc F.cc
  |_=>IS
def M4{a:Option oO}{s:AS}{bb:Nat}(h:oF a s bb=IN):mg<=s.st.next:=by simp only[oF,ab]at h;exact aU h.1.1
def MQ{a:Option oO}{s:AS}{bb:Nat}(h:oF a s bb=IN){i:Nat}(a7:i<mg):s.st.bT i=No:=by
 simp only[oF,ab]at h;cases b:s.st.bT i with
 |none=>rfl
 |some o=>have:=fb.Ed _ _ _ _ _ h.1.2 b;have:=aU this;omega
def XF{F:oO}{s:AS}{bb:Nat}(h:oF (U F) s bb=IN):F.j<bb:=by simp only[oF,ab]at h;have:=h.2.1;simpa[bc]using this
def VB{F:oO}{s:AS}{bb:Nat}(h:oF (U F) s bb=IN):∃k off,s.st.bT F.a=U (.nD F.e F.z (.ek F.j) F.cc k off No):=by
 simp only[oF,ab]at h;have:=h.2.2;split at this
 next e z j cc k off heq=>
  simp only[ab]at this;obtain⟨⟨⟨h1,h2⟩,b⟩,c⟩:=this;rw[heq,af h1,af h2,af b,Ii c];exact⟨k,off,rfl⟩
 cases this
def NT{a:Option oO}{θ:Nat->ag}(h:uq a θ){p:Nat×b7}(hp:p∈q_ a θ):p.1<mg/\q1 p.2=IN:=by
 cases a with
 |none=>simp[q_]at hp
 |some F=>obtain⟨rows,h1,h2⟩:=h;simp only[q_,h1,rowsOf]at hp;exact Hv h2 hp
def SP{b:Option oO}{θ a:Nat->ag}{s:AS}{bb:Nat}(c:oF b s bb=IN)(h:∀i,i<bb->a i=θ i):q_ b a=q_ b θ/\(uq b θ->uq b a):=by
 cases b with
 |none=>exact⟨rfl,λ_=>trivial⟩
 |some F=>have:=h F.j (XF c);exact⟨by simp only[q_,this],λ⟨rows,h1,h2⟩=>⟨rows,by rw[this];exact h1,h2⟩⟩
def Ren.mI{ι:Nat->Option (Option Nat)}{s' s:AS}{H:List (Nat×b7)}(h:Ren ι mg s' s)(hH:∀p∈H,p.1<mg/\q1 p.2=IN)(f:∀i,i<mg->s.st.bT i=No):Ren ι 0 (s'.mI H) (s.mI H):=by
 have a:∀i o,(s'.mI H).st.bT i=U o->(l7 H i=U o/\i<mg/\q1 o=IN)\/s'.st.bT i=U o:=λi o b=>by
  rw[AS.sP,rQ]at b;cases g:l7 H i with
  |some o'=>rw[g]at b;simp only[ai]at b;subst b;exact .inl ⟨rfl,hH _ (vw g)⟩
  |none=>rw[g]at b;exact .inr b
 have d:∀i k o,s'.st.bT i=U o->ι i=U (U k)->mg<=k:=λi k o b hk=>by
  rcases h.bT i o b with⟨u,o',h1,h2,_⟩|⟨h1,_⟩
  .rw[h1]at hk
   cases hk;refine kc λl=>?_;rw[f _ l]at h2;cases h2
  rw[h1]at hk;cases hk
 refine⟨h.Iq,λi a7=>by omega,λi k hk=>by rw[AS.sP,yQ];exact h.nq i k hk,dq _,λi j k oi oj h1 h2 m q=>?_,h.th,h.beyond,λi o b=>?_⟩
 .rcases a i oi m with⟨_,c,_⟩|c<;>rcases a j oj q with⟨_,c1,_⟩|c1
  .have e:=h.low i c
   have n:=h.low j c1;rw[h1]at e;rw[h2]at n;cases e;cases n;rfl
  .have e:=h.low i c
   rw[h1]at e;cases e;have:=d j _ oj c1 h2;omega
  .have e:=h.low j c1
   rw[h2]at e;cases e;have:=d i _ oi c h1;omega
  exact h.inj i j k oi oj h1 h2 c c1
 rcases a i o b with⟨r,c,t⟩|c
 .exact .inl ⟨i,o,h.low i c,by rw[AS.sP,rQ,r],pK.q1 t⟩
 rcases h.bT i o c with⟨k,o',h1,h2,m⟩|h1
 .refine .inl ⟨k,o',h1,?_,m⟩
  rw[AS.sP,rQ];cases g:l7 H k with
  |none=>exact h2
  |some o2=>have:=(hH _ (vw g)).1;rw[f _ this]at h2;cases h2
 exact .inr h1
def Gm(a z j b:Nat)(p:Nat->Bool)(v:ag):ag:=match v with
 | .ea c d i=>match aB c a&&aB i j&&aB d z with
  |true=>.ea a z b
  |false=>match v.ids p with
   |true=>v
   |false=>.any
 |v=>match v.ids p with
  |true=>v
  |false=>.any
def AS.act(S:AS)(a z j b:Nat)(p:Nat->Bool)(σ:bg):AS:={ n:=S.n,mv:=S.mv.map (Gm a z j b p),st:=σ }
def tE(p:Nat->Bool)(a:Nat)(S:AS):Bool:=S.mv.allI (λi _=>cD i S.n) 1 0&&S.st.mv.allI (λi o=>aB i a||(p i&&o.ids p)) 1 0&&p a
def Ie{p:Nat->Bool}{a:Nat}{S:AS}(h:tE p a S=IN){i:Nat}{o:b7}(b:S.st.bT i=U o):i=a\/(p i=IN/\o.ids p=IN):=by
 simp only[tE,ab]at h;have:=fb.Ed _ _ _ _ _ h.1.2 b;simp only[jz,Nat.add_zero,bD,ab]at this;rcases this with h1|h1
 .exact .inl (af h1)
 exact .inr h1
def zx{p:Nat->Bool}{a:Nat}{S:AS}(h:tE p a S=IN):p a=IN:=by simp only[tE,ab]at h;exact h.2
def W1(S:AS)(a z j b:Nat)(p:Nat->Bool)(σ:bg)(t:Nat):(S.act a z j b p σ).get t=Gm a z j b p (S.get t):=by
 simp only[AS.act,AS.get,fb.sd];cases S.mv.get t with
 |none=>simp[Gm,ag.ids]
 |some v=>simp
def Ij{S:AS}{θ:Nat->ag}(l:Fit θ){a z j d:Nat}{p:Nat->Bool}{σ σ0:bg}{ι:Nat->Option (Option Nat)}{H m:List (Nat×b7)}(hp:∀i,p i=IN->ι i=U (U i))(b:tE p a { S with st:=σ0 }=IN)(hlen:(rowsOf (θ d)).length=(rowsOf (θ j)).length)
  (f:∀i k,ι i=U k->i<σ.next) (g:∀i j k,ι i=U (U k)->ι j=U (U k)->i=j)
  (c:∀i o,(((S.act a z j d p σ).sub θ).mI m).st.bT i=U o->(∃k o',ι i=U (U k)/\((S.sub θ).mI H).st.bT k=U o'/\pK ι o o')\/(ι i=U No/\∃e z,o=.row e z [])) :
  Ren ι 0 (((S.act a z j d p σ).sub θ).mI m) ((S.sub θ).mI H):=by
 refine⟨rfl,λi a7=>by omega,λi k hk=>by rw[AS.sP,yQ];exact f i k hk,dq _,λi j k oi oj h1 h2 _ _=>g i j k h1 h2,λt q=>?_,λt q=>?_,c⟩
 .show nC ι (((S.act a z j d p σ).sub θ).get t) ((S.sub θ).get t)
  rw[AS.tS,AS.tS,W1];have gen:∀v:ag,nC ι ((match v.ids p with|true=>v|false=>.any).sub θ) (v.sub θ):=λv=>by
   cases hv:v.ids p with
   |true=>exact nC.ids hp (CM l p v hv)
   |false=>intro G u _;exact .any u
  unfold Gm;split
  next C D i he=>
   split
   next h=>
    simp only[ab]at h;have r:=af h.1.1;have s:=af h.1.2;have w:=af h.2;subst r;subst s;subst w;rw[he];simp only[p5,hlen];exact nC.ids hp (p:=p) (by simp only[ag.ids];exact zx b)
   exact gen _
  exact gen _
 show((S.act a z j d p σ).sub θ).get t=.bF undef;rw[AS.tS,W1];have x:S.mv.get t=No:=by
  cases B:S.mv.get t with
  |none=>rfl
  |some v=>
   simp only[tE,ab]at b;have:=fb.Ed _ _ _ _ _ b.1.1 B;have h1:t<S.n:=by simpa[bc]using this
   have h2:S.n<=t:=q;omega
 simp only[AS.get,x,Option.getD_none,Gm,ag.ids,ag.sub]
def VR{v:ag}(h:isNil v=IN):v=.bF (.slice No 0 0):=by
 unfold isNil at h;split at h
 .rfl
 cases h
def W9{cc:nO}{rows:List (List ag)}(h:zV cc rows=IN)(e:(ag.rs rows).ki=IN):w8 cc (rows.map (qR cc 0))/\∀r∈rows,∀g x,(oY cc g).isSome->r[g]?=U x->x=.bF (.slice No 0 0):=by
 simp only[zV,ab,gb,ak]at h;obtain⟨⟨h1,h2⟩,m⟩:=h;have d:∀r∈rows,∀c∈cc,r[c.1]?=U (.bF (.slice No 0 0)):=λr a c hc=>by
  have:=m r a c hc;split at this
  next v hv=>rw[hv,VR this]
  cases this
 refine⟨⟨by rw[aF];exact h1,λc hc=>by have:=h2 c hc;simpa[bc]using this,?_,λr a c hc=>?_⟩,λr a g x hs l=>?_⟩
 .simp only[ag.ki]
  have key:∀rows:List (List ag),rH rows=IN->rH (rows.map (qR cc 0))=IN:=by
   have row:∀(r:List ag) (j:Nat),ri r=IN->ri (qR cc j r)=IN:=by
    intro r
    induction r with
    |nil=>intro _ _;rfl
    |cons v vs i=>
     intro j a;simp only[ri,ab]at a;simp only[qR,ri,ab];refine⟨?_,i _ a.2⟩;unfold yW;split
     .rfl
     exact a.1
   intro rows
   induction rows with
   |nil=>intro _;rfl
   |cons r rs i=>intro a;simp only[rH,ab]at a;simp only[ay,rH,ab];exact⟨row r 0 a.1,i a.2⟩
  exact key rows (by simpa only[ag.ki]using e)
 .obtain⟨n,k,rfl⟩:=aP.1 a
  refine⟨[],?_⟩;rw[Ha,d n k c hc];simp only[aj,aN,yW];have f:(oY cc c.1).isSome=IN:=by rw[oY,jI];exact⟨c,hc,by simp⟩
  cases b:oY cc c.1 with
  |none=>rw[b]at f;cases f
  |some _=>rfl
 cases b:oY cc g with
 |none=>rw[b]at hs;cases hs
 |some c=>obtain⟨o,p⟩:=xx b;subst p;have:=d r a c o;rw[this]at l;cases l;rfl
def rK(S:AS)(i:Nat):Bool:=dx mg i&&cD i S.st.next
def Bf{S:AS}{i:Nat}(h:rK S i=IN):mg<=i/\i<S.st.next:=by simp only[rK,ab]at h;exact⟨aU h.1,by simpa[bc]using h.2⟩
def AS.own(S:AS)(a:Nat)(e:TypeId)(z j b:Nat)(cc:nO):AS:=S.act a z j b (rK S) (S.st.set a (.nD e z (.ek b) cc (.ek b) mg No))
def aL9{S:AS}{θ:Nat->ag}(h:Fit θ){a:Nat}{e:TypeId}{z j n:Nat}{cc:nO}{rows:List (List ag)}(ha:S.st.bT a=U (.f' e z j))(f:tE (rK S) a S=IN)(hj:θ j=.rs rows)(q:θ n=.rs (rows.map (qR cc 0)))(s:zV cc rows=IN) :
  ∃ι,Ren ι 0 (((S.own a e z j n cc).sub θ).mI (od cc 0 (rows.map (qR cc 0)))) ((S.sub θ).mI []):=by
 have g:(ag.rs rows).ki=IN:=by have:=(h j).ki;rw[hj]at this;exact this
 obtain⟨K,t⟩:=W9 s g;obtain⟨H,I⟩:=Bf (zx f);let ι:Nat->Option (Option Nat):=λi=>if i<mg then U No else if i<S.st.next then U (U i)else No
 have u:∀i,i<mg->ι i=U No:=λi a7=>by simp only[ι,b9 a7]
 have d:∀i,rK S i=IN->ι i=U (U i):=λi a7=>by obtain⟨lL,fa⟩:=Bf a7;simp only[ι,b8 (gI.2 lL),b9 fa]
 refine⟨ι,Ij h d f (by rw[hj,q];simp[rowsOf]) (λi k hk=>?_) (λi j k h1 h2=>?_) (λi o b=>?_)⟩
 .simp only[ι]at hk
  show i<S.st.next;split at hk
  .omega
  split at hk
  .assumption
  cases hk
 .have p:∀i,ι i=U (U k)->i=k:=λi a7=>by
   simp only[ι]at a7;split at a7
   .cases a7
   split at a7
   .cases a7;rfl
   cases a7
  rw[p i h1,p j h2]
 rw[AS.sP,rQ]at b;cases p:l7 (od cc 0 (rows.map (qR cc 0))) i with
 |some o' =>
  rw[p]at b;simp only[ai]at b;subst b;obtain⟨r,row,c,lL,fa,j7⟩:=HQ (vw p);cases j7;refine .inr ⟨u _ (wY _ _),c.2.1,c.2.2,?_⟩;rw[aX]at lL;cases B:rows[r]? with
  |none=>rw[B]at lL;cases lL
  |some wb=>
   rw[B]at lL;simp only[aj,ai]at lL;subst lL;have v:(oY cc c.1).isSome=IN:=by rw[oY,jI];exact⟨c,fa,by simp⟩
   simp only[uW,c_,Ha,aN];cases wb[c.1]? with
   |none=>rfl
   |some x=>
    simp only[aj,cg,yW];cases l:oY cc c.1 with
    |none=>rw[l]at v;cases v
    |some _=>rfl
 |none=>
  rw[p]at b;have b:((S.own a e z j n cc).st.sub θ).bT i=U o:=b;rw[bg.mh]at b;have w:(S.own a e z j n cc).st.bT i=if i=a then U (.nD e z (.ek n) cc (.ek n) mg No)else S.st.bT i:=bg.l1 _ _ _ _
  rw[w]at b;by_cases m:i=a
  .subst m
   rw[b9 rfl]at b;simp only[aj,ai]at b;subst b;refine .inl ⟨i,(b7.f' e z j).sub θ,d i (zx f),by rw[AS.sP];show(S.st.sub θ).bT i=_;rw[bg.mh,ha];rfl,?_⟩;simp only[b7.sub,lQ,hj,q,rowsOf,ck,tu];refine pK.cells (by rw[Ac,aF]) (λr M J g1 g2=>?_);rw[vj,aX,g2]at g1;simp only[aj,ai,aN]at g1;subst g1;refine⟨by rw[xp,RA],λD x y g3 g4=>?_⟩;rw[wv,Ha,g4]at g3;simp only[aj,ai,aN]at g3;subst g3;have E:J∈rows:=aJ g2;rw[Al];unfold yW;cases l:oY cc D with
   |none=>simp only;obtain⟨B,rfl⟩:=ao.1 g2;obtain⟨G,rfl⟩:=ao.1 g4;exact nC.ki (ru g r B D G)
   |some c=>simp only[rowsOf,List.length_nil];rw[t J E D y (by rw[l];rfl) g4];exact nC.az6 (u _ (wY _ _))
  rw[b8 m]at b;cases C:S.st.bT i with
  |none=>rw[C]at b;cases b
  |some o0=>
   rw[C]at b;simp only[aj,ai]at b;subst b;rcases Ie f C with h1|⟨h1,h2⟩
   .exact lH h1 m
   exact .inl ⟨i,o0.sub θ,d i h1,by rw[AS.sP];show(S.st.sub θ).bT i=_;rw[bg.mh,C];rfl,pK.ids d h h2⟩
def AS.xN(S:AS)(a:Nat)(e:TypeId)(z j:Nat)(cc:nO)(kv:ag)(off:Nat)(c:Nat×TypeId×Nat)(f:Nat):AS :=S.act a z j j (rK S) { (S.st.set a (.nD e z (.ek j) cc kv off (U (.ea S.st.next c.2.2 f)))).set S.st.next (.f' c.2.1 c.2.2 f)with next:=S.st.next+1 }
def bo1(S:AS)(a:Nat)(e:TypeId)(z j:Nat)(cc:nO)(kv:ag)(off:Nat)(c:Nat×TypeId×Nat)(f i:Nat):(S.xN a e z j cc kv off c f).st.bT i=if i=S.st.next then U (.f' c.2.1 c.2.2 f)else if i=a then U (.nD e z (.ek j) cc kv off (U (.ea S.st.next c.2.2 f)))else S.st.bT i:=by show((S.st.set a (.nD e z (.ek j) cc kv off (U (.ea S.st.next c.2.2 f)))).set S.st.next (.f' c.2.1 c.2.2 f)).bT i=_;rw[bg.l1,bg.l1]
theorem au2{S:AS}{θ:Nat->ag}(N:Fit θ){a:Nat}{e:TypeId}{z O off f:Nat}{cc:nO}{kv k0:ag}{C:Nat}{c:Nat×TypeId×Nat}(ha:S.st.bT a=U (.nD e z (.ek O) cc k0 C No))(v:tE (rK S) a S=IN)(hnx:mg<=S.st.next)
  {rows:List (List ag)} (hjc:θ O=.rs rows) (hw:w8 cc rows)
  {row:List ag} {xs:List (List ag)} (d:rows[mf (kv.sub θ)]?=U row) (E:oY cc off=U c) (h:row[off]?=U (.rs xs)) (hf:θ f=.rs xs) :
  ∃ι,Ren ι 0 (((S.xN a e z O cc kv off c f).sub θ).mI ((od cc 0 rows).filter (λq=>!Nat.beq q.1 (hid (mf (kv.sub θ)) off)))) ((S.sub θ).mI (od cc 0 rows)):=by
 obtain⟨hlen,hc,s,P⟩:=hw;generalize hk:mf (kv.sub θ)=k at *;obtain⟨hcm,Q⟩:=xx E;have hoff:off<16:=by rw[<-Q];exact hc c hcm
 have hkl:=(ao.1 d).1;have hhk:hid k off<mg:=wY _ _;generalize hm:S.st.next=m at *;let ι:Nat->Option (Option Nat):=λi=>if i=m then U (U (hid k off))else if i=hid k off then No else if i<m+1 then U (U i)else No
 have t:∀i,i≠m->i≠hid k off->i<m+1->ι i=U (U i):=λi lL fa j7=>by simp only[ι,b8 lL,b8 fa,b9 j7]
 have l:∀i,rK S i=IN->ι i=U (U i):=λi a7=>by obtain⟨lL,fa⟩:=Bf a7;rw[hm]at fa;exact t i (by omega) (by omega) (by omega)
 have R:ι m=U (U (hid k off)):=by simp[ι]
 refine⟨ι,?_⟩;refine Ij (σ0:=S.st) N l v rfl (λi q M=>?_) (λi j q lL fa=>?_) (λi o b=>?_)
 .simp only[ι]at M
  show i<S.st.next+1;rw[hm];split at M
  .omega
  split at M
  .cases M
  split at M
  .assumption
  cases M
 .have p:∀i,ι i=U (U q)->(i=m/\q=hid k off)\/(i=q/\i≠hid k off):=λi a7=>by
   simp only[ι]at a7;split at a7
   .rename_i e1;cases a7;exact .inl ⟨e1,rfl⟩
   split at a7
   .cases a7
   rename_i e2;split at a7
   .cases a7;exact .inr ⟨rfl,e2⟩
   cases a7
  rcases p i lL with⟨x1,x2⟩|⟨x1,x2⟩<;>rcases p j fa with⟨y1,y2⟩|⟨y1,y2⟩<;>omega
 rw[AS.sP,rQ,G_]at b;have hold:∀i o,l7 (od cc 0 rows) i=U o->((S.sub θ).mI (od cc 0 rows)).st.bT i=U o:=λi o p=>by rw[AS.sP,rQ,p]
 have u:∀i o,mg<=i->(S.sub θ).st.bT i=U o->((S.sub θ).mI (od cc 0 rows)).st.bT i=U o:=λi o a7 p=>by rw[AS.sP,rQ,Nu a7];exact p
 cases p:(if i=hid k off then No else l7 (od cc 0 rows) i)with
 |some o' =>
  rw[p]at b;simp only[ai]at b;subst b;split at p
  .cases p
  rename_i G;have H:=Hv ⟨hlen,hc,s,P⟩ (vw p);exact .inl ⟨i,o',t i (by have:=H.1;simp only at this;omega) G (by have:=H.1;simp only at this;omega),hold i o' p,pK.q1 H.2⟩
 |none=>
  rw[p]at b;simp only at b;have b:((S.xN a e z O cc kv off c f).st.sub θ).bT i=U o:=b;rw[bg.mh,bo1,hm]at b;have V:=Bf (zx v);rw[hm]at V;by_cases D:i=m
  case neg=>
   rw[b8 D]at b;by_cases I:i=a
   case neg=>
    rw[b8 I]at b;cases hS:S.st.bT i with
    |none=>rw[hS]at b;cases b
    |some o0=>
     rw[hS]at b;simp only[aj,ai]at b;subst b;rcases Ie v hS with h1|⟨h1,h2⟩
     .exact lH h1 I
     exact .inl ⟨i,o0.sub θ,l i h1,u i _ (Bf h1).1 (by rw[AS.uE,bg.mh,hS];rfl),pK.ids l N h2⟩
   case pos=>
    subst I;rw[b9 rfl]at b;simp only[aj,ai]at b;subst b;refine .inl ⟨i,(b7.nD e z (.ek O) cc k0 C No).sub θ,l i (zx v),u i _ V.1 (by rw[AS.uE,bg.mh,ha];rfl),?_⟩;simp only[b7.sub,lQ,hjc,rowsOf,ck,aj,p5,hf,hk];have hfl:(tu (oG cc 0 rows) k off (U (.ms m c.2.2 0 xs.length))).length=(oG cc 0 rows).length:=by
     simp only[tu];split
     .simp
     rfl
    refine pK.cells (by simpa[tu]using hfl) (λr ra rb g1 g2=>?_);have g:(oG cc 0 rows)[r]?=U rb:=g2;rw[Ek]at g1;simp only[g,aj]at g1;rw[vj]at g;cases hr:rows[r]? with
    |none=>rw[hr]at g;cases g
    |some row1=>
     rw[hr]at g;simp only[aj,ai,aN]at g;have hrl:=(ao.1 hr).1;have same:∀n y,rb[n]?=U y->(r=k->n≠off)->nC ι y y:=λn y g4 G=>by
      rw[<-g,wv]at g4;cases hx:row1[n]? with
      |none=>rw[hx]at g4;cases g4
      |some x=>
       rw[hx]at g4;simp only[aj,ai,aN]at g4;subst g4;rw[Al];cases hcj:oY cc n with
       |none=>simp only;obtain⟨J,rfl⟩:=ao.1 hr;obtain⟨K,rfl⟩:=ao.1 hx;exact nC.ki (ru s r J n K)
       |some cj=>
        simp only;obtain⟨w1,w2⟩:=xx hcj;have hj16:n<16:=by rw[<-w2];exact hc cj w1
        have hne2:hid r n≠hid k off:=λe=>by obtain⟨e1,e2⟩:=NW (cc:=cc) hlen hrl hkl hj16 hoff e;exact G e1 e2
        have:=wY r n;exact nC.ms (t _ (by omega) hne2 (by omega))
     by_cases w:r=k
     .rw[b9 w]at g1
      simp only[ai]at g1;refine⟨by rw[<-g1];simp,λn x y g3 g4=>?_⟩;rw[<-g1,cS]at g3;by_cases B:off=n
      .rw[b9 B]at g3
       split at g3
       .cases g3
        subst B;subst w;rw[hr]at d;cases d;rw[<-g,wv,h]at g4;simp only[aj,ai,aN]at g4;rw[<-g4,Al,E];simp only[rowsOf];exact nC.ms R
       cases g3
      rw[b8 B,g4]at g3;cases g3;exact same n x g4 (λ_=>λe=>B e.symm)
     rw[b8 w]at g1;simp only[ai]at g1;subst g1;exact⟨rfl,λn x y g3 g4=>by rw[g4]at g3;cases g3;exact same n x g4 (λe=>lH e w)⟩
  case pos=>
   subst D;rw[b9 rfl]at b;simp only[aj,ai]at b;subst b;refine .inl ⟨hid k off,.row c.2.1 c.2.2 xs,R,hold _ _ ?_,?_⟩
   .rw[Nt hc hlen d hoff,E]
    simp only[aj,uW,Q,c_,h,cg,rowsOf]
   simp only[b7.sub,hf,rowsOf];refine pK.q1 ?_;obtain⟨J,rfl⟩:=ao.1 d;obtain⟨K,he⟩:=ao.1 h;have:=ru s k J off K;rw[he]at this;simpa only[q1,ag.ki]using this
def C1(S:AS)(m i:Nat):Bool:=rK S i&&!Nat.beq i m
def Oc{S:AS}{m i:Nat}(h:C1 S m i=IN):mg<=i/\i<S.st.next/\i≠m:=by simp only[C1,ab,bS]at h;obtain⟨lL,fa⟩:=Bf h.1;exact⟨lL,fa,λe=>by rw[e,ee]at h;cases h.2⟩
def AS.BJ(S:AS)(a:Nat)(e:TypeId)(z j b:Nat)(cc:nO)(m:Nat):AS:=S.act a z j b (C1 S m) ((S.st.del m).set a (.nD e z (.ek b) cc (.ek b) mg No))
def bp1(S:AS)(a:Nat)(e:TypeId)(z j b:Nat)(cc:nO)(m i:Nat):(S.BJ a e z j b cc m).st.bT i=if i=a then U (.nD e z (.ek b) cc (.ek b) mg No)else if i=m then No else S.st.bT i:=by show((S.st.del m).set a (.nD e z (.ek b) cc (.ek b) mg No)).bT i=_;rw[bg.l1,bg.tb]
theorem bh7{S:AS}{θ:Nat->ag}(J:Fit θ){a m:Nat}{e:TypeId}{z jc jc' off f:Nat}{cc:nO}{kv:ag}{c:Nat×TypeId×Nat}(ha:S.st.bT a=U (.nD e z (.ek jc) cc kv off (U (.ea m c.2.2 f))))(hm:S.st.bT m=U (.f' c.2.1 c.2.2 f))(C:tE (C1 S m) a { S with st:=S.st.del m }=IN)(hnx:mg<=m/\mg<=S.st.next)
  {rows:List (List ag)} (hjc:θ jc=.rs rows) (hw:w8 cc rows)
  {row:List ag} {xs ys:List (List ag)} (d:rows[mf (kv.sub θ)]?=U row) (K:oY cc off=U c) (M:row[off]?=U (.rs ys)) (hf:θ f=.rs xs) (E:θ jc'=.rs (rU rows (mf (kv.sub θ)) off (.rs xs))) :
  ∃ι,Ren ι 0 (((S.BJ a e z jc jc' cc m).sub θ).mI (od cc 0 (rU rows (mf (kv.sub θ)) off (.rs xs)))) ((S.sub θ).mI ((od cc 0 rows).filter (λq=>!Nat.beq q.1 (hid (mf (kv.sub θ)) off)))):=by
 have hxs:(ag.rs xs).ki=IN:=by rw[<-hf];exact(J f).ki
 have hw':=hw.put (k:=mf (kv.sub θ)) (off:=off) hxs;obtain⟨hlen,hc,G,hown⟩:=hw;generalize hk:mf (kv.sub θ)=k at *;obtain⟨hcm,hc1⟩:=xx K;have hoff:off<16:=by rw[<-hc1];exact hc c hcm
 have N:=(ao.1 d).1;have hhk:hid k off<mg:=wY _ _;have H:=(ao.1 M).1;let ι:Nat->Option (Option Nat):=λi=>if i=hid k off then U (U m)else if i=m then No else if i<S.st.next then U (U i)else No
 have p:∀i,i≠m->i≠hid k off->i<S.st.next->ι i=U (U i):=λi lL fa j7=>by simp only[ι,b8 lL,b8 fa,b9 j7]
 have s:∀i,C1 S m i=IN->ι i=U (U i):=λi a7=>by obtain⟨lL,fa,j7⟩:=Oc a7;exact p i j7 (by omega) fa
 have him:ι (hid k off)=U (U m):=by simp[ι]
 have g:∀r,(rU rows k off (.rs xs))[r]?=if r=k then U (row.set off (.rs xs))else rows[r]?:=Sj d
 refine⟨ι,?_⟩;refine Ij (σ0:=S.st.del m) J s C (by rw[hjc,E];simp[rowsOf,D8]) (λi q hq=>?_) (λi j q lL fa=>?_) (λi o b=>?_)
 .simp only[ι]at hq
  show i<S.st.next;split at hq
  .omega
  split at hq
  .cases hq
  split at hq
  .assumption
  cases hq
 .have h:∀i,ι i=U (U q)->(i=hid k off/\q=m)\/(i=q/\i≠m):=λi a7=>by
   simp only[ι]at a7;split at a7
   .rename_i e1;cases a7;exact .inl ⟨e1,rfl⟩
   split at a7
   .cases a7
   rename_i e2;split at a7
   .cases a7;exact .inr ⟨rfl,e2⟩
   cases a7
  rcases h i lL with⟨x1,x2⟩|⟨x1,x2⟩<;>rcases h j fa with⟨y1,y2⟩|⟨y1,y2⟩<;>omega
 rw[AS.sP,rQ]at b;have hold:∀i o,i≠hid k off->l7 (od cc 0 rows) i=U o->((S.sub θ).mI ((od cc 0 rows).filter (λq=>!Nat.beq q.1 (hid k off)))).st.bT i=U o:=λi o O h=>by rw[AS.sP,rQ,G_,b8 O,h]
 have l:∀i o,mg<=i->(S.sub θ).st.bT i=U o->((S.sub θ).mI ((od cc 0 rows).filter (λq=>!Nat.beq q.1 (hid k off)))).st.bT i=U o:=λi o a7 h=>by rw[AS.sP,rQ,G_,b8 (by omega),Nu a7];exact h
 cases h:l7 (od cc 0 (rU rows k off (.rs xs))) i with
 |some o' =>
  rw[h]at b;simp only[ai]at b;subst b;have P:=Hv hw' (vw h);by_cases D:i=hid k off
  .subst D
   rw[Nt hc (by rw[D8];exact hlen) (row:=row.set off (.rs xs)) (by rw[g,b9 rfl]) hoff,K]at h;simp only[aj,uW,hc1,c_,cS,jj,H,cg,rowsOf,ai]at h;subst h;refine .inl ⟨m,_,him,l m ((b7.f' c.2.1 c.2.2 f).sub θ) hnx.1 (by rw[AS.uE,bg.mh,hm];rfl),?_⟩;simp only[b7.sub,hf,rowsOf];exact pK.q1 P.2
  have hh2:l7 (od cc 0 rows) i=U o':=by
   rw[Hs hc _ _ _ (by rw[D8];simpa using hlen)]at h;rw[Hs hc _ _ _ (by simpa using hlen),<-h];simp only[dq,jj,Nat.sub_zero,g];by_cases I:i / 16=k
   .rw[b9 I,I,d]
    simp only;cases u:oY cc (i%16)with
    |none=>rfl
    |some cj=>obtain⟨w1,w2⟩:=xx u;have O:off≠cj.1:=λe2=>D (by rw[Fp hoff (by omega)];omega);simp only[aj,uW,c_,cS,b8 O]
   rw[b8 I]
  have hpr1:i<mg:=P.1;exact .inl ⟨i,o',p i (by omega) D (by omega),hold i o' D hh2,pK.q1 P.2⟩
 |none=>
  rw[h]at b;simp only at b;have b:((S.BJ a e z jc jc' cc m).st.sub θ).bT i=U o:=b;rw[bg.mh,bp1]at b;have hpa:=Oc (zx C);by_cases Q:i=a
  case neg=>
   rw[b8 Q]at b;by_cases v:i=m
   .rw[b9 v]at b;cases b
   rw[b8 v]at b;cases hS:S.st.bT i with
   |none=>rw[hS]at b;cases b
   |some o0=>
    rw[hS]at b;simp only[aj,ai]at b;subst b;have hS':(S.st.del m).bT i=U o0:=by rw[bg.tb,b8 v,hS]
    rcases Ie (S:={ S with st:=S.st.del m }) C hS' with h1|⟨h1,h2⟩
    .exact lH h1 Q
    exact .inl ⟨i,o0.sub θ,s i h1,l i _ (Oc h1).1 (by rw[AS.uE,bg.mh,hS];rfl),pK.ids s J h2⟩
  case pos=>
   subst Q;rw[b9 rfl]at b;simp only[aj,ai]at b;subst b;refine .inl ⟨i,(b7.nD e z (.ek jc) cc kv off (U (.ea m c.2.2 f))).sub θ,s i (zx C),l i _ hpa.1 (by rw[AS.uE,bg.mh,ha];rfl),?_⟩;simp only[b7.sub,lQ,hjc,E,rowsOf,ck,aj,p5,hf,hk];have hfl:(tu (oG cc 0 rows) k off (U (.ms m c.2.2 0 xs.length))).length=rows.length:=by
    simp only[tu];split
    .simp[Ac]
    exact Ac _ _ _
   refine pK.cells (by rw[hfl];simp[tu,Ac,D8]) (λr ra rb g1 g2=>?_);have n:(oG cc 0 (rU rows k off (.rs xs)))[r]?=U ra:=g1;rw[vj,g]at n;rw[Ek,vj]at g2;simp only[aN]at n g2;by_cases R:r=k
   .subst R
    simp only[jj,aj,ai,d]at n g2;subst n;subst g2;refine⟨by simp[xp],λt x y g3 g4=>?_⟩;rw[wv,cS]at g3;rw[cS,xp]at g4;by_cases V:off=t
    .subst V
     simp only[jj,H,aj,ai,aN]at g3 g4;rw[<-g3,<-g4,Al,K];simp only[rowsOf];exact nC.ms him
    rw[b8 V]at g3 g4;rw[wv]at g4;rw[g4]at g3;cases g3;cases hx:row[t]? with
    |none=>rw[hx]at g4;cases g4
    |some x0=>
     rw[hx]at g4;simp only[aj,ai,aN]at g4;rw[<-g4,Al];cases u:oY cc t with
     |none=>simp only;obtain⟨hr1,rfl⟩:=ao.1 d;obtain⟨hjj,rfl⟩:=ao.1 hx;exact nC.ki (ru G r hr1 t hjj)
     |some cj=>
      simp only;obtain⟨w1,w2⟩:=xx u;have w:t<16:=by rw[<-w2];exact hc cj w1
      have B:hid r t≠hid r off:=λe=>by obtain⟨e1,e2⟩:=NW (cc:=cc) hlen N N w hoff e;exact V e2.symm
      have:=wY r t;exact nC.ms (p _ (by omega) B (by omega))
   simp only[b8 R]at n g2;rw[g2]at n;cases n;refine⟨rfl,λt x y g3 g4=>?_⟩;rw[g4]at g3;cases g3;cases I:rows[r]? with
   |none=>rw[I]at g2;cases g2
   |some row1=>
    rw[I]at g2;simp only[aj,ai]at g2;subst g2;have hrl:=(ao.1 I).1;rw[wv]at g4;cases hx:row1[t]? with
    |none=>rw[hx]at g4;cases g4
    |some x0=>
     rw[hx]at g4;simp only[aj,ai,aN]at g4;rw[<-g4,Al];cases u:oY cc t with
     |none=>simp only;obtain⟨hr1,rfl⟩:=ao.1 I;obtain⟨hjj,rfl⟩:=ao.1 hx;exact nC.ki (ru G r hr1 t hjj)
     |some cj=>
      simp only;obtain⟨w1,w2⟩:=xx u;have w:t<16:=by rw[<-w2];exact hc cj w1
      have B:hid r t≠hid k off:=λe=>by obtain⟨e1,e2⟩:=NW (cc:=cc) hlen hrl N w hoff e;exact R e1
      have:=wY r t;exact nC.ms (p _ (by omega) B (by omega))
def Om(cc:List Nat)(j:Nat)(v:ag):ag:=match cc.any (aB j)&&isNil v with
 |true=>.rs []
 |false=>v
def xS(cc:List Nat):Nat->List ag->List ag
 |_,[]=>[]
 |j,v::vs=>Om cc j v::xS cc (j+1) vs
def Tn(cc:List Nat):∀(row:List ag) (a j:Nat),(xS cc a row)[j]?=(row[j]?).map (Om cc (a+j))
 | [],a,j=>by simp[xS]
 |v::vs,a,0=>by simp[xS]
 |v::vs,a,j+1=>by simp only[xS,aM];rw[Tn cc vs (a+1) j];congr 2;omega
def RV(cc:List Nat):∀(row:List ag) (a:Nat),(xS cc a row).length=row.length
 | [],_=>rfl
 |_::vs,a=>by simp[xS,RV cc vs]
def AS.zq(S:AS)(a:Nat)(e:TypeId)(z:Nat)(es:List (List ag))(cc:List Nat):AS:=S.act a z 0 0 (rK S) (S.st.set a (.row e z (es.map (xS cc 0))))
def aB2{S:AS}{θ:Nat->ag}(d:Fit θ){a:Nat}{e:TypeId}{z:Nat}{es:List (List ag)}{cc:List Nat}(ha:S.st.bT a=U (.row e z es))(f:tE (rK S) a S=IN)(hes:te (rK S) es=IN) :
  ∃ι,Ren ι 0 (((S.zq a e z es cc).sub θ).mI []) ((S.sub θ).mI []):=by
 let ι:Nat->Option (Option Nat):=λi=>if i<S.st.next then U (U i)else No
 have b:∀i,rK S i=IN->ι i=U (U i):=λi a7=>by obtain⟨lL,fa⟩:=Bf a7;simp only[ι,b9 fa]
 refine⟨ι,Ij d b f rfl (λi k hk=>?_) (λi j k h1 h2=>?_) (λi o c=>?_)⟩
 .simp only[ι]at hk
  show i<S.st.next;split at hk
  .assumption
  cases hk
 .have p:∀i,ι i=U (U k)->i=k:=λi a7=>by
   simp only[ι]at a7;split at a7
   .cases a7;rfl
   cases a7
  rw[p i h1,p j h2]
 have c:((S.zq a e z es cc).st.sub θ).bT i=U o:=c;rw[bg.mh]at c;have l:(S.zq a e z es cc).st.bT i=if i=a then U (.row e z (es.map (xS cc 0)))else S.st.bT i:=bg.l1 _ _ _ _
 rw[l]at c;by_cases g:i=a
 .subst g
  rw[b9 rfl]at c;simp only[aj,ai]at c;subst c;refine .inl ⟨i,(b7.row e z es).sub θ,b i (zx f),by show(S.st.sub θ).bT i=_;rw[bg.mh,ha];rfl,?_⟩;simp only[b7.sub];refine pK.cells (by simp) (λr t w g1 g2=>?_);rw[aX,aX]at g1;rw[aX]at g2;cases h:es[r]? with
  |none=>rw[h]at g2;cases g2
  |some row=>
   rw[h]at g1 g2;simp only[aj,ai]at g1 g2;subst g1;subst g2;refine⟨by simp[RV],λs x y g3 g4=>?_⟩;rw[aX,Tn]at g3;rw[aX]at g4;cases n:row[s]? with
   |none=>rw[n]at g4;cases g4
   |some v=>
    rw[n]at g3 g4;simp only[aj,ai,aN]at g3 g4;subst g3;subst g4;unfold Om;split
    next q=>
     simp only[ab]at q;rw[VR q.2];intro G u h;simp only[ag.sub]at h⊢;cases h;exact .qL
    have hv:v.ids (rK S)=IN:=vy (CB hes row (aJ h)) v (aJ n);exact nC.ids b (CM d _ v hv)
 rw[b8 g]at c;cases m:S.st.bT i with
 |none=>rw[m]at c;cases c
 |some o0=>
  rw[m]at c;simp only[aj,ai]at c;subst c;rcases Ie f m with h1|⟨h1,h2⟩
  .exact lH h1 g
  exact .inl ⟨i,o0.sub θ,b i h1,by show(S.st.sub θ).bT i=_;rw[bg.mh,m];rfl,pK.ids b d h2⟩
inductive yf
 |own (slot:Nat) (cc:nO)
 |xN (slot:Nat) (t:TypeId) (off:Nat)
 |zq (slot:Nat) (cc:List Nat)
def tC:List (Nat×b7)->Option oO
 | []=>No
 | (a,.nD e z (.ek j) cc _ _ No)::_=>U ⟨a,e,z,j,cc⟩
 |_::l=>tC l
def CA(l:Nat)(hi:List ag):Option oO->Option oO->Bool
 |none,No=>IN
 |some F,U a=>zL a.cc F.cc&&match pg l hi a.j with
  | .ek i=>aB i F.j
  |_=>IS
 |_,_=>IS
def Wt{l:Nat}{hi:List ag}{b a:Option oO}(h:CA l hi b a=IN)(θ:Nat->ag):q_ a (λi=>(pg l hi i).sub θ)=q_ b θ/\(uq b θ->uq a (λi=>(pg l hi i).sub θ)):=by
 cases b with
 |none=>cases a with
  |none=>exact⟨rfl,λ_=>trivial⟩
  |some _=>simp[CA]at h
 |some F=>cases a with
  |none=>simp[CA]at h
  |some c =>
   simp only[CA,ab]at h;obtain⟨h1,h2⟩:=h;split at h2
   next i a7=>
    have e:=af h2;subst e;have hc:=Ii h1;refine⟨by simp only[q_,a7,lQ,hc],λ⟨rows,g1,g2⟩=>⟨rows,by simp only[a7,lQ];exact g1,by rw[hc];exact g2⟩⟩
   cases h2
abbrev xq:=Option oO->rP->AS->Nat->mV
variable (T:dd) (Φ:lb) (F:FuncId->Option Func) (H:Nat->Option Hint) (acts:Nat->Option yf)
def Fc(a:Option oO)(k:xq):yy:=λe s bb=>match oF a s bb with
 |true=>k a e s bb
 |false=>.stuck
def Ss(T:dd)(M:oO)(kv:Nat)(t:TypeId)(off:Nat)(c:Nat×TypeId×Nat)(k:xq):yy:=λe s bb=>match s.st.bT M.a with
 |some (.nD g h (.ek i) b (.ek l) d (U (.ea m z2 f)))=>match s.st.bT m with
  |some (.f' n z3 f3)=>
   match aB g M.e&&aB h M.z&&aB i M.j&&zL b M.cc&&aB l kv&&aB d off&&aB z2 c.2.2&&aB n c.2.1&&aB z3 c.2.2&&aB f3 f&&tE (C1 s m) M.a { s with st:=s.st.del m }&&dx mg m&&oF No s bb&&s.er bb&&cD f bb with
   |true=>.op (.rows [f]) bb (.bF (.bool IN)) (.op (.vd t M.e M.z (.ek M.j) (.ek kv) off (.ek f)) bb (.ek bb) (k (U { M with j:=bb }) e (s.BJ M.a M.e M.z M.j bb M.cc m) (bb+1)))
   |false=>.stuck
  |_=>.stuck
 |_=>.stuck
def Li(m:Nat)(id:Nat)(b:Option oO)(c:Code)(s:AS)(bb:Nat)(k:xq):mV:=match acts id with
 |none=>exec T Φ F H m mg c s bb (Fc b k)
 |some (.own ft cc)=>match b,s.get ft with
  |none,.ea a z j=>match s.st.bT a with
   |some (.f' e d f)=>match aB f j&&aB d z&&tE (rK s) a s&&s.er bb&&cD j bb&&oF (U ⟨a,e,z,bb,cc⟩) (s.own a e z j bb cc) (bb+1)with
    |true=>.op (.Bn cc (.ek j)) bb (.ek bb) (exec T Φ F H m mg c (s.own a e z j bb cc) (bb+1) (Fc (U ⟨a,e,z,bb,cc⟩) k))
    |false=>.stuck
   |_=>.stuck
  |_,_=>.stuck
 |some (.zq ft cc)=>match b,s.get ft with
  |none,.ms a _ _ _=>match s.st.bT a with
   |some (.row e z es)=>match tE (rK s) a s&&te (rK s) es&&oF No (s.zq a e z es cc) bb with
    |true=>exec T Φ F H m mg c (s.zq a e z es cc) bb (Fc No k)
    |false=>.stuck
   |_=>.stuck
  |_,_=>.stuck
 |some (.xN ft t off)=>match b,s.get ft with
  |some M,.ek kv=>match oY M.cc off,T t with
   |some q5,U ti=>match !ti.isAgg&&aB ti.size 1&&tE (rK s) M.a s&&s.er bb&&cD kv bb&&oF No (s.xN M.a M.e M.z M.j M.cc (.ek kv) off q5 bb) (bb+1)with
    |true=>.op (.xl t M.e M.z (.ek M.j) (.ek kv) off) bb (.ek bb) (exec T Φ F H m mg c (s.xN M.a M.e M.z M.j M.cc (.ek kv) off q5 bb) (bb+1) (Ss T M kv t off q5 k))
    |false=>.stuck
   |_,_=>.stuck
  |_,_=>.stuck
def ur:Nat->Option oO->Code->AS->Nat->xq->mV
 | 0,_,_,_,_,_=>.stuck
 |m+1,g,c,s,bb,k=>match c with
  | .seq a b=>ur m g a s bb λl e s' f=>match e with
   | .nr=>ur m l b s' f k
   |e=>k l e s' f
  | .cond x a b=>match s.eval x with
   | .bF (.bool t)=>ur m g (if t then a else b) s bb k
   | .ek i=>.test i (ur m g a (s.me (p9 i IN)) bb k) (ur m g b (s.me (p9 i IS)) bb k)
   |_=>.stuck
  | .block id b=>ur m g b s bb λl e s' f=>match e with
   | .oz j=>k l (if j=id then .nr else .oz j) s' f
   |e=>k l e s' f
  | .scope b=>ur m g b s bb k
  | .loop b=>match H (qJ bb b s)with
   |some h=>match AK mg bb h s,h.state.er (bb+h.k)&&oF (tC h.bT) h.state (bb+h.k)&&oF g s bb with
    |some inits,IN=>match CA bb inits g (tC h.bT)with
     |true=>.loop bb h.k inits (ur m (tC h.bT) b h.state (bb+h.k+1) λn e s' f=>match e with
      | .nr=>match AK mg bb h s' with
       |some hi=>match CA bb hi n (tC h.bT)&&oF n s' f with
        |true=>.again bb hi
        |false=>.stuck
       |none=>.stuck
      |e=>k n e s' f)
     |false=>.stuck
    |_,_=>.stuck
   |none=>.stuck
  | .region id ops d=>match oF g s bb with
   |true=>Li T Φ F H acts m id g (.region id ops d) s bb k
   |false=>.stuck
  | .skip=>k g .nr s bb
  | .label _=>k g .nr s bb
  | .exit id=>k g (.oz id) s bb
  | .ret=>k g .ret s bb
  |_=>.stuck
def KQ(T:dd)(fn:Func):xq:=λb e s bb=>match b with
 |none=>match oF No s bb with
  |true=>H6 T fn e s bb
  |false=>.stuck
 |some M=>match e with
  | .oz _=>.stuck
  |_=>match oF (U M) s bb,fn.results.toList with
   |true,[.tmp t]=>match s.get t with
    | .ea a z j=>match aB a M.a&&aB z M.z&&aB j M.j with
     |true=>.ret (.ek M.j) []
     |false=>.stuck
    |_=>.stuck
   |_,_=>.stuck
section
variable {P:Program} {T:dd} (ca:mc P T) {Φ:lb} (hΦ:A_ P Φ) {F:FuncId->Option Func} (cu:∀f fn,F f=U fn->P.funcs[f]?=U fn) (hm:P.follows .mixedOrders=IN) {Q:ag->Prop}
def Ky(T:dd)(Φ:lb)(Q:ag->Prop)(bb:Nat)(θ:Nat->ag)(A:Nat->List ag->Prop)(k:xq)(e:Exit)(t:AS):Prop :=∃d a g c h b,e=rP.rN d/\bb<=c/\Fit a/\(∀i,i<bb->a i=θ i)/\(∀l,l<bb->h l=A l)/\t=g.full b a/\uq b a/\mA T Φ Q (k b d g c) a h
include ca hΦ cu hm in
theorem Wv{H:Nat->Option Hint}{m bb:Nat}{c:Code}{S:AS}{k:yy}{θ:Nat->ag}{A:Nat->List ag->Prop}{n:List (Nat×b7)}(hH:∀p∈n,p.1<mg/\q1 p.2=IN){o:Nat}(r:oF No S o=IN)(q:Fit θ)
  (h:mA T Φ Q (exec T Φ F H m mg c S bb k) θ A) :
  j4 P 0 c (λe t=>∃d a g b j,e=rP.rN d/\bb<=b/\Fit a/\(∀i,i<bb->a i=θ i)/\(∀l,l<bb->j l=A l)/\t=(g.sub a).mI n/\mA T Φ Q (k d g b) a j) ((S.sub θ).mI n):=by
 have s:=NZ ca hΦ cu hm (H:=H) m mg c S bb k θ A q h;refine j4.mono (j4.lower (dq mg) (by rw[AS.sP,yQ];exact(M4 r:mg<=S.st.next)) (j4.frame (λp hp=>?_) s)) ?_
 .obtain⟨h1,h2⟩:=hH p hp
  exact⟨h1,h2,by rw[AS.uE,bg.mh,MQ r h1];rfl⟩
 rintro e t ⟨s',⟨d,a,g,b,j,rfl,lL,fa,j7,lP,rfl,lU⟩,rfl⟩;exact⟨d,a,g,b,j,rfl,lL,fa,j7,lP,rfl,lU⟩
theorem bh4{a:Option oO}{s:AS}{bb:Nat}(h:oF a s bb=IN):oF No s bb=IN:=by simp only[oF,ab]at h⊢;exact⟨h.1,trivial⟩
theorem ba4(cs:List ag)(j:Nat)(v:ag)(h:j+1<=cs.length):p4 cs j [v]=cs.set j v:=by
 apply List.ext_getElem?;intro k;rw[Mu cs j [v] (by simpa using h) k,cS];by_cases e:j=k
 .subst e
  rw[b9 (by simp),b9 rfl,b9 (by omega)];simp
 rw[b8 (by simp;omega),b8 e]
theorem YG{t:TypeId}{ti:mL}(c:T t=U ti)(a:ti.isAgg=IS){e:TypeId}{z j kv off:Nat}{θ:Nat->ag}{rows:List (List ag)}(hj:θ j=.rs rows){v:ag}(h:fr T Φ θ (.xl t e z (.ek j) (.ek kv) off)=U v):∃row,rows[mf (θ kv)]?=U row/\row[off]?=U v:=by
 have l4:(pF e z (.rs rows)).bT 0=U (.row e z rows):=by simp[pF,bg.l1,rowsOf]
 simp only[fr,lQ,hj,o8,l4]at h;cases b:rows[mf (θ kv)]? with
 |none=>rw[b]at h;cases h
 |some row=>rw[b]at h;simp only[c,rm,a]at h;exact⟨row,rfl,by simpa using h⟩
theorem Yu{t:TypeId}{ti:mL}(c:T t=U ti){e:TypeId}{z j kv off f:Nat}{θ:Nat->ag}{rows xs:List (List ag)}(hj:θ j=.rs rows)(hf:θ f=.rs xs){v:ag}(h:fr T Φ θ (.vd t e z (.ek j) (.ek kv) off (.ek f))=U v):v=.rs (rU rows (mf (θ kv)) off (.rs xs)):=by
 have l4:(pF e z (.rs rows)).bT 0=U (.row e z rows):=by simp[pF,bg.l1,rowsOf]
 simp only[fr,lQ,hj,hf,rA,ag.cells,c,l4]at h;cases b:rows[mf (θ kv)]? with
 |none=>rw[b]at h;cases h
 |some row=>
  rw[b]at h;simp only at h;split at h
  next σ a=>
   split at a
   next hc=>
    cases a;simp only[bg.l1,jj]at h;split at h
    .cases h
     simp only[rU,b];rw[ba4 _ _ _ (by simpa using hc.2.1)]
    cases h
   cases a
  cases h
end
end
end Go.Ab
namespace Go.Ab
open Go
variable [nF]
section
variable {P:Program} {T:dd} (ca:mc P T) {Φ:lb} (hΦ:A_ P Φ) {F:FuncId->Option Func} (cu:∀f fn,F f=U fn->P.funcs[f]?=U fn) (hm:P.follows .mixedOrders=IN) {Q:ag->Prop}
include ca hΦ cu hm in
theorem Pf{H:Nat->Option Hint}{m bb:Nat}{c:Code}{S:AS}{a:Option oO}{k:xq}{θ:Nat->ag}{A:Nat->List ag->Prop}(i:oF a S bb=IN)(hw:uq a θ)(b:Fit θ)
  (h:mA T Φ Q (exec T Φ F H m mg c S bb (Fc a k)) θ A):j4 P 0 c (Ky T Φ Q bb θ A k) (S.full a θ):=by
 refine j4.mono (Wv ca hΦ cu hm (λp hp=>NT hw hp) (bh4 i) b h) ?_;rintro e t ⟨j,d,l,g,n,rfl,lL,fa,j7,lP,rfl,lU⟩;obtain⟨g1,g2⟩:=SP i j7;unfold Fc at lU;split at lU
 .exact⟨j,d,l,g,n,a,rfl,lL,fa,j7,lP,by simp only[AS.full,g1],g2 hw,lU⟩
 exact lU.elim
theorem Y8{H:List (Nat×b7)}(h:∀p∈H,p.1<mg/\q1 p.2=IN)(q:Nat×b7->Bool):∀p∈H.filter q,p.1<mg/\q1 p.2=IN:=λp hp=>h p (List.mem_filter.1 hp).1
include ca hΦ cu hm in
theorem ZC{H:Nat->Option Hint}{acts:Nat->Option yf}{m id bb:Nat}{μ:Option oO}{c:Code}{s:AS}{k:xq}{θ:Nat->ag}{A:Nat->List ag->Prop}(hB:oF μ s bb=IN)(hw:uq μ θ)(D:Fit θ)
  (h:mA T Φ Q (Li T Φ F H acts m id μ c s bb k) θ A):j4 P 0 c (Ky T Φ Q bb θ A k) (s.full μ θ):=by
 unfold Li at h;split at h
 .exact Pf ca hΦ cu hm hB hw D h
 next ft cc I=>
  split at h
  next a z j hsl=>
   split at h
   next e z' J ho=>
    split at h
    next hc=>
     simp only[ab]at hc;obtain⟨⟨⟨⟨⟨c1,c2⟩,c3⟩,c4⟩,c5⟩,c6⟩:=hc;have e1:=af c1;have e2:=af c2;subst e1;subst e2;have E:J<bb:=by simpa[bc]using c5
     obtain⟨r,g1,g2,g3,g4⟩:=h;have K:∃rows,θ J=.rs rows/\zV cc rows=IN/\r bb=.rs (rows.map (qR cc 0)):=by
      simp only[fr,lQ]at g3;split at g3
      next rows hr=>
       split at g3
       next o=>
        exact⟨rows,hr,o,(aQ g3).symm⟩
       cases g3
      cases g3
     obtain⟨rows,hj,o,N⟩:=K;have hjt:r J=.rs rows:=by rw[g1 J E];exact hj
     obtain⟨ι,g⟩:=aL9 g2 ho c3 hjt N o;have hpur:(ag.rs rows).ki=IN:=by have:=(D J).ki;rw[hj]at this;exact this
     have hw':uq (U ⟨a,e,z',bb,cc⟩) r:=⟨_,N,(W9 o hpur).1⟩;have l4:s.full No θ=(s.sub r).mI []:=by show(s.sub θ).mI []=_;rw[AS.iv g1 c4]
     rw[l4];have O:((s.own a e z' J bb cc).sub r).mI (od cc 0 (rows.map (qR cc 0)))=(s.own a e z' J bb cc).full (U ⟨a,e,z',bb,cc⟩) r:=by simp only[AS.full,q_,N,rowsOf]
     rw[O]at g;refine j4.conv g (j4.mono (Pf ca hΦ cu hm c6 hw' g2 g4) ?_);rintro e0 t ⟨e',u,S',fr',A',μ',rfl,lL,fa,j7,lP,rfl,lU⟩;exact⟨e',u,S',fr',A',μ',rfl,by omega,fa,λi a7=>(j7 i (by omega)).trans (g1 i a7),λl hl=>lP l (by omega),rfl,lU⟩
    exact h.elim
   exact h.elim
  exact h.elim
 next ft cc I=>
  split at h
  next a _ _ _ hsl=>
   split at h
   next e z es ho=>
    split at h
    next hc=>
     simp only[ab]at hc;obtain⟨⟨c1,c2⟩,c3⟩:=hc;obtain⟨ι,g⟩:=aB2 (cc:=cc) D ho c1 c2;exact j4.conv g (Pf ca hΦ cu hm c3 trivial D h)
    exact h.elim
   exact h.elim
  exact h.elim
 rename_i ft t off I;split at h
 next M kv hsl=>
  split at h
  next q5 ti w hti=>
   split at h
   next hc=>
    simp only[ab]at hc;obtain⟨⟨⟨⟨⟨c1,c2⟩,c3⟩,c4⟩,c5⟩,c6⟩:=hc;have hagg:ti.isAgg=IS:=by simpa using c1
    have hkf:kv<bb:=by simpa[bc]using c5
    have E:=XF hB;obtain⟨rows,hj,x⟩:=hw;obtain⟨v,g1,g2,g3,g4⟩:=h;obtain⟨row,B,n⟩:=YG hti hagg hj g3;obtain⟨hcm,hc1⟩:=xx w;obtain⟨xs,hxs⟩:=x.2.2.2 row (aJ B) q5 hcm;rw[hc1,n]at hxs;have hf1:v bb=.rs xs:=by simpa using hxs
    rw[lQ,hf1]at n;have hj1:v M.j=.rs rows:=by rw[g1 _ E];exact hj
    have R:v kv=θ kv:=g1 kv hkf;obtain⟨k0,off0,hobj⟩:=VB hB;obtain⟨ι,g⟩:=au2 (S:=s) g2 (kv:=.ek kv) (off:=off) (c:=q5) (f:=bb) hobj c3 (M4 hB) hj1 x (by rw[lQ,R];exact B) w n hf1;have l4:s.full (U M) θ=(s.sub v).mI (od M.cc 0 rows):=by simp only[AS.full,q_,hj,rowsOf];rw[AS.iv g1 c4]
    rw[l4];refine j4.conv g ?_;have hfil:=Y8 (H:=od M.cc 0 rows) (λp hp=>Hv x hp) (λq=>!Nat.beq q.1 (hid (mf ((ag.ek kv).sub v)) off));refine j4.ag5 (j4.mono (Wv ca hΦ cu hm hfil c6 g2 g4) ?_);rintro e0 t0 ⟨e',u,S2,d,A2,rfl,lL,fa,j7,lP,rfl,lU⟩;unfold Ss at lU;split at lU
    next e1 ni j1 cols1 k1 off1 m1 z2 f1 ho1=>
     split at lU
     next e3 z3 f3 ho3=>
      split at lU
      next hc2=>
       simp only[ab]at hc2;obtain⟨⟨⟨⟨⟨⟨⟨⟨⟨⟨⟨⟨⟨⟨d1,d2⟩,d3⟩,d4⟩,d5⟩,d6⟩,d7⟩,d8⟩,d9⟩,d10⟩,d11⟩,d12⟩,d13⟩,d14⟩,d15⟩:=hc2;rw[af d1,af d2,af d3,Ii d4,af d5,af d6,af d7]at ho1;rw[af d8,af d9,af d10]at ho3;have hff:f1<d:=by simpa[bc]using d15
       obtain⟨V,r1,r2,r3,b,s1,s2,s3,s4⟩:=lU;have hrs:∃ys,u f1=.rs ys:=by
        simp only[fr,cE,List.all_nil,Bool.and_true]at r3;cases hv:u f1 with
        |rs ys=>exact⟨ys,rfl⟩
        |_=>rw[hv]at r3;cases r3
       obtain⟨ys,hys⟩:=hrs;have a3:∀i,i<d->b i=u i:=λi a7=>(s1 i a7).trans (r1 i a7);have b3:∀i,i<bb->b i=θ i:=λi a7=>(a3 i (by omega)).trans ((j7 i (by omega)).trans (g1 i a7));have hj3:V M.j=.rs rows:=by rw[r1 _ (by omega),j7 _ (by omega)];exact hj1
       have hf3:V f1=.rs ys:=by rw[r1 _ hff];exact hys
       have hk3:V kv=θ kv:=by rw[r1 _ (by omega),j7 _ (by omega)];exact R
       have hj4:b M.j=.rs rows:=by rw[b3 _ E];exact hj
       have hf4:b f1=.rs ys:=by rw[a3 _ hff];exact hys
       have G:b kv=θ kv:=b3 _ hkf;have hv:=Yu hti hj3 hf3 s3;rw[hk3]at hv;have C:b d=.rs (rU rows (mf (θ kv)) off (.rs ys)):=by simpa using hv
       obtain⟨ι2,hren2⟩:=bh7 (S:=S2) (jc':=d) s2 (kv:=.ek kv) (off:=off) (c:=q5) ho1 ho3 d11 ⟨aU d12,M4 d13⟩ hj4 x (by rw[lQ,G];exact B) w n hf4 (by rw[lQ,G];exact C);refine⟨ι2,_,?_,e',b,S2.BJ M.a M.e M.z M.j d M.cc m1,d+1,A2,U { M with j:=d },rfl,by omega,s2,b3,λl hl=>lP l (by omega),rfl,?_,s4⟩
       .have hl:(S2.BJ M.a M.e M.z M.j d M.cc m1).full (U { M with j:=d }) b=((S2.BJ M.a M.e M.z M.j d M.cc m1).sub b).mI (od M.cc 0 (rU rows (mf ((ag.ek kv).sub b)) off (.rs ys))):=by simp only[AS.full,q_,C,rowsOf,lQ,G]
        have hr:(S2.sub u).mI ((od M.cc 0 rows).filter (λq=>!Nat.beq q.1 (hid (mf ((ag.ek kv).sub v)) off)))=(S2.sub b).mI ((od M.cc 0 rows).filter (λq=>!Nat.beq q.1 (hid (mf ((ag.ek kv).sub b)) off))):=by rw[AS.iv a3 d14];simp only[lQ,G,R]
        rw[hl,hr];exact hren2
       refine⟨_,C,x.put ?_⟩;rw[<-hf4];exact(s2 f1).ki
      exact lU.elim
     exact lU.elim
    exact lU.elim
   exact h.elim
  exact h.elim
 exact h.elim
def ZN(P:Program)(T:dd)(Φ:lb)(Q:ag->Prop)(ex:Option oO->Code->AS->Nat->xq->mV):Prop :=∀a c s bb k θ A,Fit θ->uq a θ->mA T Φ Q (ex a c s bb k) θ A->j4 P 0 c (Ky T Φ Q bb θ A k) (s.full a θ)
theorem UE{θ:Nat->ag}{i:Nat}{b:Bool}(h:θ i=.bF (.bool b))(s:AS)(a:Option oO):(s.me (p9 i b)).full a θ=s.full a θ:=by simp only[AS.full,EZ h]
theorem TR(s:AS)(a:Option oO)(θ:Nat->ag)(x:Operand):(s.full a θ).eval x=(s.eval x).sub θ:=by rw[<-AS.sub_eval];cases x<;>rfl
include ca hΦ cu hm in
theorem VE{H:Nat->Option Hint}{acts:Nat->Option yf}:∀m,ZN P T Φ Q (ur T Φ F H acts m)
 | 0=>λz c s bb k θ A _ _ h=>by simp[ur,mA]at h
 |m+1=>by
  intro z c s bb k θ A u hw h;have R:=VE (H:=H) (acts:=acts) m;have self:∀e,mA T Φ Q (k z e s bb) θ A->Ky T Φ Q bb θ A k (rP.rN e) (s.full z θ):=λe hh=>⟨e,θ,s,bb,A,z,rfl,aw _,u,λ_ _=>rfl,λ_ _=>rfl,rfl,hw,hh⟩;unfold ur at h
  skip
  split at h
  .rename_i a b
   refine j4.seq (j4.mono (R z a s bb _ θ A u hw h) ?_);rintro e s' ⟨V,d,M,o,N,r,rfl,lL,fa,j7,lP,rfl,nA,lU⟩;cases V with
   |nr=>refine j4.mono (R r b M o k d N fa nA lU) ?_;rintro e2 s2 ⟨e2',g,S2,E,A2,w,rfl,r1,r2,r3,r4,r5,r6⟩;exact⟨e2',g,S2,E,A2,w,rfl,bI lL r1,r2,λi a7=>(r3 i (by omega)).trans (j7 i a7),λl hl=>(r4 l (by omega)).trans (lP l hl),r5,r6⟩
   |oz j=>exact⟨.oz j,d,M,o,N,r,rfl,lL,fa,j7,lP,rfl,nA,lU⟩
   |ret=>exact⟨.ret,d,M,o,N,r,rfl,lL,fa,j7,lP,rfl,nA,lU⟩
  .rename_i x a b
   split at h
   .rename_i t hx
    refine j4.cond (t:=t) (by rw[TR,hx,oq]) ?_;exact R z _ s bb k θ A u hw h
   .rename_i i hx
    have hev:∀t,θ i=.bF (.bool t)->(s.full z θ).eval x=.bF (.bool t):=λt ht=>by rw[TR,hx,lQ,ht]
    rcases h with⟨G,hh⟩|⟨G,hh⟩
    .refine j4.cond (t:=IN) (hev IN G) ?_
     have:=R z a _ bb k θ A u hw hh;rw[UE G]at this;exact this
    refine j4.cond (t:=IS) (hev IS G) ?_;have:=R z b _ bb k θ A u hw hh;rw[UE G]at this;exact this
   exact h.elim
  .rename_i id b
   refine j4.block (j4.mono (R z b s bb _ θ A u hw h) ?_);rintro e s' ⟨V,d,M,o,N,r,rfl,lL,fa,j7,lP,rfl,nA,lU⟩;cases V with
   |nr=>exact⟨.nr,d,M,o,N,r,rfl,lL,fa,j7,lP,rfl,nA,lU⟩
   |ret=>exact⟨.ret,d,M,o,N,r,rfl,lL,fa,j7,lP,rfl,nA,lU⟩
   |oz j=>
    simp only[rP.rN,HU];simp only at lU;split
    .rename_i e;rw[b9 e]at lU;exact⟨.nr,d,M,o,N,r,rfl,lL,fa,j7,lP,rfl,nA,lU⟩
    rename_i e;rw[b8 e]at lU;exact⟨.oz j,d,M,o,N,r,rfl,lL,fa,j7,lP,rfl,nA,lU⟩
  .rename_i b
   refine j4.scope (j4.mono (R z b s bb _ θ A u hw h) ?_);rintro e s' ⟨V,d,M,o,N,r,rfl,q⟩;exact⟨by cases V<;>trivial,V,d,M,o,N,r,rfl,q⟩
  .rename_i b
   split at h
   .rename_i hint hH
    split at h
    .rename_i inits hmt hbd0
     split at h
     .rename_i hfm
      simp only[ab]at hbd0;obtain⟨⟨hbd,hBh⟩,hB⟩:=hbd0;obtain⟨I,⟨n1,hI0⟩,O⟩:=h;obtain⟨v1,v2,v3,ι,hren⟩:=Ez u hmt;obtain⟨f1,f2⟩:=Wt hfm θ;have hlo0:∀(S:AS) (θ:Nat->ag) (fr0:Nat) (μ0:Option oO),oF μ0 S fr0=IN->∀i,i<mg->(S.sub θ).st.bT i=No:=λS θ fr0 μ0 G i a7=>by rw[AS.uE,bg.mh,MQ G a7];rfl
      have J:=Ren.mI (H:=q_ z θ) hren (λp hp=>NT hw hp) (hlo0 s θ bb z hB);have hst0:(hint.state.sub (λi=>(pg bb inits i).sub θ)).mI (q_ z θ)=hint.state.full (tC hint.bT) (λi=>(pg bb inits i).sub θ):=by simp only[AS.full,f1]
      rw[hst0]at J;refine j4.conv J ?_;have B:∀(hi:List ag) (d:Nat->ag) i,i<bb->(pg bb hi i).sub d=d i:=λhi d i a7=>by
       unfold pg;have:dx bb i=IS:=by
        cases G:dx bb i with
        |false=>rfl
        |true=>have:=aU G;omega
       rw[this];simp
      have C:∀(hi:List ag) (d:Nat->ag) j (hj:j<hi.length),(pg bb hi (bb+j)).sub d=(hi[j]).sub d:=λhi d j hj=>by unfold pg;rw[Nat.ble_eq_true_of_le (aY bb j)];simp[hj]
      have pad:∀(hi:List ag) (d:Nat->ag),hi.length=hint.k->(∀i,i<bb->d i=θ i)->(∀j (hj:j<hi.length),d (bb+j)=hi[j])->Fit d->uq (tC hint.bT) d ->
        ∃g,(∀i,i<bb->g i=θ i)/\(∀j (hj:j<hi.length),g (bb+j)=hi[j])/\g (bb+hint.k)=.bF (.bool IS)/\Fit g/\uq (tC hint.bT) g/\hint.state.full (tC hint.bT) d=hint.state.full (tC hint.bT) g:=λhi d mb mn pN sf xd=>by
       have hag:∀i,i<bb+hint.k->(λi=>if i=bb+hint.k then ag.bF (.bool IS)else d i) i=d i:=λi a7=>by simp only[show ¬i=bb+hint.k by omega,j2]
       obtain⟨w1,w2⟩:=SP hBh hag;refine⟨λi=>if i=bb+hint.k then .bF (.bool IS)else d i,λi a7=>?_,λj hj=>?_,by simp,λi=>?_,w2 xd,?_⟩
       .simp only[show ¬i=bb+hint.k by omega,j2];exact mn i a7
       .simp only[show ¬bb+j=bb+hint.k by omega,j2];exact pN j hj
       .show mW (if i=bb+hint.k then .bF (.bool IS)else d i)
        split
        .trivial
        exact sf i
       simp only[AS.full,w1];rw[AS.iv hag hbd]
      refine j4.loop (λk1 s1=>∃hi d,I k1 hi/\hi.length=hint.k/\(∀v∈hi,mW v)/\(∀i,i<bb->d i=θ i)/\(∀j (hj:j<hi.length),d (bb+j)=hi[j])/\Fit d/\uq (tC hint.bT) d/\s1=hint.state.full (tC hint.bT) d) ?_ (k:=n1) ?_
      .rintro k1 s1 ⟨hi,θ0,g1,g2,g3,g40,g50,g60,g70,rfl⟩
       obtain⟨d,g4,g5,g5',g6,g6',g7⟩:=pad hi θ0 g2 g40 g50 g60 g70;rw[g7];have G:=R (tC hint.bT) b hint.state (bb+hint.k+1) _ d _ g6 g6' (O k1 hi g1 g2 g3 d g4 g5 g5' g6);refine j4.Q0 (j4.mono G ?_);rintro e s' ⟨V,g,S2,E,A2,w,rfl,lL,fa,j7,lP,rfl,nA,lU⟩;have hA2:A2 bb=λn=>∃m,m<k1/\I m n:=by rw[lP bb (by omega)];simp
       have hlo:∀i,i<bb->g i=θ i:=λi a7=>(j7 i (by omega)).trans (g4 i a7);have hAlo:∀l,l<bb->A2 l=A l:=λl hl=>by rw[lP l (by omega)];simp[Nat.ne_of_lt hl]
       cases V with
       |nr=>
        left;simp only at lU;split at lU
        .rename_i n hm'
         split at lU
         .rename_i D
          simp only[ab]at D;obtain⟨D,hB2⟩:=D;obtain⟨w1,w2,w3,ι',hren'⟩:=Ez fa hm';obtain⟨u1,u2⟩:=Wt D g;have K:=Ren.mI (H:=q_ w g) hren' (λp hp=>NT nA hp) (hlo0 S2 g E w hB2);have hst2:(hint.state.sub (λi=>(pg bb n i).sub g)).mI (q_ w g)=hint.state.full (tC hint.bT) (λi=>(pg bb n i).sub g):=by simp only[AS.full,u1]
          rw[hst2]at K;refine⟨ι',_,K,?_⟩;simp only[rP.rN,Bq];have tN:A2 bb (n.map (ag.sub g)):=lU;rw[hA2]at tN;obtain⟨m1,hm1,hI1⟩:=tN;refine⟨m1,hm1,n.map (ag.sub g),_,hI1,by simpa using w1,λv hv=>?_,λi a7=>by rw[B];exact hlo i a7;exact a7,λj hj=>?_,w3,u2 nA,rfl⟩
          .obtain⟨v0,hv0,rfl⟩:=aP.1 hv;exact w2 v0 hv0
          simp only[aF]at hj;rw[C n g j hj];simp
         exact lU.elim
        exact lU.elim
       |oz j=>right;exact⟨.oz j,g,S2,E,A2,w,rfl,by omega,fa,hlo,hAlo,rfl,nA,lU⟩
       |ret=>right;exact⟨.ret,g,S2,E,A2,w,rfl,by omega,fa,hlo,hAlo,rfl,nA,lU⟩
      refine⟨inits.map (ag.sub θ),_,hI0,by simpa using v1,λv hv=>?_,λi a7=>B _ _ i a7,λj hj=>?_,v3,f2 hw,rfl⟩
      .obtain⟨v0,hv0,rfl⟩:=aP.1 hv;exact v2 v0 hv0
      simp only[aF]at hj;rw[C inits θ j hj];simp
     exact h.elim
    exact h.elim
   exact h.elim
  .split at h
   .rename_i hB
    exact ZC ca hΦ cu hm hB hw u h
   exact h.elim
  .exact j4.x6 (mY.skip (self .nr h))
  .exact j4.x6 (mY.label (self .nr h))
  .exact j4.x6 (mY.exit (self (.oz _) h))
  .exact j4.x6 (mY.ret (self .ret h))
  exact h.elim
theorem bf9{d:oO}{θ:Nat->ag}{S:AS}{rows:List (List ag)}(hj:θ d.j=.rs rows)(hw:w8 d.cc rows){G:cb}{σ:bg}{w:World}(pl:Nat->Option nm)
  (g:Rel G σ w) (x:∀i o,i<mg->(S.full (U d) θ).st.bT i=U o->σ.bT i=U o) {i:Nat} (a7:i<rows.length) (z:i<(oG d.cc 0 rows).length) :
  rows[i].length=(oG d.cc 0 rows)[i].length/\∀j (h:j<rows[i].length) (p:j<(oG d.cc 0 rows)[i].length) u0,lB G (oG d.cc 0 rows)[i][j] u0->lB (G.frozen σ w pl) rows[i][j] u0:=by
 have m:(S.full (U d) θ).st=Go.Ab.mI (od d.cc 0 rows) (S.st.sub θ):=by simp only[AS.full,q_,hj,rowsOf];rfl
 have q:(oG d.cc 0 rows)[i]?=U (sv d.cc i 0 rows[i]):=by simp only[vj,aN,ae a7,aj]
 have r:(oG d.cc 0 rows)[i]=sv d.cc i 0 rows[i]:=by rw[ae z]at q;exact aQ q
 refine⟨by rw[r,xp],λj h p u0 hu=>?_⟩;have hc:(sv d.cc i 0 rows[i])[j]?=U (vC d.cc i j rows[i][j]):=by rw[wv,ae h];simp
 have B:(oG d.cc 0 rows)[i][j]=vC d.cc i j rows[i][j]:=by
  have:(oG d.cc 0 rows)[i][j]?=U (vC d.cc i j rows[i][j]):=by rw[r];exact hc
  rw[ae p]at this;exact aQ this
 rw[B,Al]at hu;have e:(rows[i][j]).ki=IN:=ru hw.2.2.1 i a7 j h;cases l:oY d.cc j with
 |none=>rw[l]at hu;exact rT (λb o s=>tZ g s) hu e
 |some c=>
  rw[l]at hu;simp only at hu;obtain⟨t,n⟩:=xx l;have u:j<16:=by rw[<-n];exact hw.2.1 c t
  obtain⟨xs,k⟩:=hw.2.2.2 rows[i] (au a7) c t;rw[n,ae h]at k;have k:=aQ k;rw[k]at hu e⊢;have C:(S.full (U d) θ).st.bT (hid i j)=U (.row c.2.1 c.2.2 xs):=by rw[m,rQ,Nt hw.2.1 hw.1 (ae a7) u,l];simp only[aj,uW,n,c_,ae h,cg,k,rowsOf]
  simp only[rowsOf]at hu;refine Ht g pl hu (x _ _ (gV _ (by decide)) C) (by omega) rfl (λa ha D=>?_);have E:xs[0+a]=xs[a]:=by congr 1;omega
  refine⟨by rw[E],λb s H J v=>?_⟩;have I:xs[0+a][b]=xs[a][b]:=by congr 1
  rw[I]at v;exact rT (λb o s=>tZ g s) v (ru e a ha b s)
theorem Zd{b:oO}{θ:Nat->ag}{S:AS}{bb:Nat}(h:oF (U b) S bb=IN){rows:List (List ag)}(hj:θ b.j=.rs rows):mg<=b.a/\(S.full (U b) θ).st.bT b.a=U (.row b.e b.z (oG b.cc 0 rows)):=by
 obtain⟨k,off,c⟩:=VB h;have ha:mg<=b.a:=by refine kc λg=>?_;rw[MQ h g]at c;cases c
 have d:(S.full (U b) θ).st=Go.Ab.mI (od b.cc 0 rows) (S.st.sub θ):=by simp only[AS.full,q_,hj,rowsOf];rfl
 refine⟨ha,?_⟩;rw[d,rQ,Nu ha,bg.mh,c];simp only[aj,b7.sub,lQ,hj,rowsOf,ck,tu]
theorem bb9{b:oO}{θ:Nat->ag}{S:AS}{bb:Nat}(e:oF (U b) S bb=IN){rows:List (List ag)}(hj:θ b.j=.rs rows)(hw:w8 b.cc rows){G:cb}{w:World}{u:Value}(pl:Nat->Option nm)
  (c:Rel G (S.full (U b) θ).st w) (g:lB G (.ms b.a b.z 0 rows.length) u):lB (G.frozen (S.full (U b) θ).st w pl) (.rs rows) u:=by
 refine Ht c pl g (Zd e hj).2 (by rw[Ac];omega) rfl (λi a7 k=>?_);have l:(oG b.cc 0 rows)[0+i]=(oG b.cc 0 rows)[i]'(by omega):=by congr 1;omega
 obtain⟨h1,h2⟩:=bf9 (S:=S) hj hw pl c (λ_ _ _ h=>h) a7 (by omega);refine⟨by rw[l];exact h1,λj d m u0 hu=>h2 j d (by omega) u0 ?_⟩;have n:(oG b.cc 0 rows)[0+i][j]=((oG b.cc 0 rows)[i]'(by omega))[j]'(by omega):=by congr 1
 rw[<-n];exact hu
def J7(n:Nat)(a:List ag):AS:={ AS.enter n a bg.none with st:={ (AS.enter n a bg.none).st with next:=mg } }
include ca hΦ cu hm in
theorem at7 {H:Nat->Option Hint} {acts:Nat->Option yf} {m bb:Nat} {f:FuncId} {fn:Func} {c:Code} (J:F f=U fn) (x:(fn.name== "runtime.NumGoroutine")=IS) (K:fn.body=U c) {d:List ag} (hn:d.length<=fn.ntmps) (hp:r9 d=IN)
  {θ:Nat->ag} (D:Fit θ) {r:ag} (h:mA T Φ (λc=>c=r) (ur T Φ F H acts m No c (J7 fn.ntmps d) bb (KQ T fn)) θ (λ_ _=>False)):oI P ⟨f,d.map (ag.sub θ),r⟩:=by
 refine oI.IA ca (cu f fn J) x K (by simpa using hn) (by rw[<-uP,<-p3];exact wA D d hp) ?_;refine j4.raise (k:=mg) (by simp[AS.enter,bg.none]) ?_;have hx:=VE ca hΦ cu hm (Q:=λc=>c=r) (H:=H) (acts:=acts) m No c (J7 fn.ntmps d) bb (KQ T fn) θ _ D trivial h;have l4:(J7 fn.ntmps d).full No θ={ AS.enter fn.ntmps (d.map (ag.sub θ)) bg.none with st:={ (AS.enter fn.ntmps (d.map (ag.sub θ)) bg.none).st with next:=mg } }:=by have N:(AS.enter fn.ntmps d bg.none).sub θ=AS.enter fn.ntmps (d.map (ag.sub θ)) bg.none:=MS ..;show({ (AS.enter fn.ntmps d bg.none).sub θ with st:={ ((AS.enter fn.ntmps d bg.none).sub θ).st with next:=mg } }:AS)=_;rw[N]
 rw[l4]at hx;refine j4.mono hx ?_;rintro e s' ⟨E,i,n,B,O,R,rfl,_,f1,_,_,rfl,S,hl⟩;cases R with
 |none=>
  have s:mA T Φ (λc=>c=r) (match oF No n B with|true=>H6 T fn E n B|false=>.stuck) i O:=hl;split at s
  .have fin:∀l,E=l->(l=.nr\/l=.ret)->(l.rN=.normal\/l.rN=.ret)/\∃v,pQ T fn (n.sub i)=U v/\∀G w u pl,Rel G (n.sub i).st w->lB G v u->lB (G.frozen (n.sub i).st w pl) r u:=by
    intro l he sZ;subst he;refine⟨by rcases sZ with rfl|rfl<;>simp[rP.rN],?_⟩;have g:mA T Φ (λc=>c=r) (match pQ T fn n with
     |some v=>match v.qU with
      |true=>.ret v.rh []
      |false=>match pI n.st 50 v with
       |some c=>.ret c.rh (pG n.st.mv)
       |none=>.stuck
     |none=>.stuck) i O:=by rcases sZ with rfl|rfl<;>exact s
    split at g
    next v hv=>
     refine⟨v.sub i,LQ hv,?_⟩;intro G w u pl p hrep;split at g
     next V=>
      obtain⟨_,C⟩:=g;rw[<-C];exact Cx v u (rT (λb o K=>tZ p K) hrep (Cs f1 v V))
     split at g
     next c hc=>
      obtain⟨q,C⟩:=g;rw[<-C];exact Cx c u (CC f1 p pl (λid e z j ho=>q j (AA ho)) (λid j ho=>q j (Av ho)) 50 v c u hc hrep)
     exact g.elim
    exact g.elim
   cases E with
   |oz j=>exact s.elim
   |nr=>exact fin .nr rfl (.inl rfl)
   |ret=>exact fin .ret rfl (.inr rfl)
  exact s.elim
 |some M=>
  obtain⟨rows,hj,hwf⟩:=S;have fin:∀l,E=l->(l=.nr\/l=.ret)->(l.rN=.normal\/l.rN=.ret)/\∃v,pQ T fn (n.full (U M) i)=U v/\∀G w u pl,Rel G (n.full (U M) i).st w->lB G v u->lB (G.frozen (n.full (U M) i).st w pl) r u:=by
   intro l he sZ;subst he;refine⟨by rcases sZ with rfl|rfl<;>simp[rP.rN],?_⟩;have g:mA T Φ (λc=>c=r) (match oF (U M) n B,fn.results.toList with
    |true,[.tmp t]=>match n.get t with
     | .ea a z j=>match aB a M.a&&aB z M.z&&aB j M.j with
      |true=>.ret (.ek M.j) []
      |false=>.stuck
     |_=>.stuck
    |_,_=>.stuck) i O:=by rcases sZ with rfl|rfl<;>exact hl
   split at g
   next t hB I=>
    split at g
    next a z j l7=>
     split at g
     next hc=>
      simp only[ab]at hc;have N:=af hc.1.1;have e2:=af hc.1.2;have e3:=af hc.2;subst N;subst e2;subst e3;obtain⟨_,C⟩:=g;rw[lQ,hj]at C;have hg:(n.full (U M) i).get t=.ms M.a M.z 0 rows.length:=by have:(n.full (U M) i).get t=(n.sub i).get t:=rfl;rw[this,AS.tS,l7,p5,hj];rfl
      refine⟨.ms M.a M.z 0 rows.length,?_,?_⟩
      .simp only[pQ,I,uj,zt,hg]
      intro G w u pl p hrep;rw[<-C];exact bb9 hB hj hwf pl p hrep
     exact g.elim
    exact g.elim
   exact g.elim
  cases E with
  |oz j=>exact hl.elim
  |nr=>exact fin .nr rfl (.inl rfl)
  |ret=>exact fin .ret rfl (.inr rfl)
end
def QO(l:List (Nat×yf))(i:Nat):Option yf:=match l with
 | []=>No
 | (j,a)::l=>match aB j i with
  |true=>U a
  |false=>QO l i
def H3(T:dd)(Φ:lb)(F:FuncId->Option Func)(H:List (Nat×Hint))(acts:List (Nat×yf))(m:Nat)(f:FuncId)(a:List ag)(bb:Nat):mV :=
 match F f with
 |some fn=>match fn.body with
  |some c=>match !(fn.name== "runtime.NumGoroutine")&&dx a.length fn.ntmps&&r9 a with
   |true=>ur T Φ F (KF H) (QO acts) m No c (J7 fn.ntmps a) bb (KQ T fn)
   |false=>.stuck
  |none=>.stuck
 |none=>.stuck
def aQ2{P:Program}{T:dd}(ca:mc P T){Φ:lb}(b:A_ P Φ){F:FuncId->Option Func}(cu:∀f fn,F f=U fn->P.funcs[f]?=U fn)(hm:P.follows .mixedOrders=IN){H:List (Nat×Hint)}{acts:List (Nat×yf)}{m:Nat}{f:FuncId}{a:List ag}{bb:Nat}
  {θ:Nat->ag} (d:Fit θ) {r:ag} (h:mA T Φ (λc=>c=r) (H3 T Φ F H acts m f a bb) θ (λ_ _=>False)):oI P ⟨f,a.map (ag.sub θ),r⟩:=by
 unfold H3 at h;split at h
 next fn e=>
  split at h
  next c g=>
   split at h
   next hc=>
    simp only[ab,bS]at hc;exact at7 ca b cu hm e hc.1.1 g (aU hc.1.2) hc.2 d h
   exact h.elim
  exact h.elim
 exact h.elim
def YN{P:Program}{T:dd}{Φ:lb}{j:List fp}(e:∀t∈j,t.Ok Φ){f:FuncId}{a:List ag}{tree:mV}
  (d:∀θ,Fit θ->∀r,mA T Φ (λc=>c=r) tree θ (λ_ _=>False)->oI P ⟨f,a.map (ag.sub θ),r⟩)
  {S:Nat->Option bl} {nq:bl} {ng:dr} {g:nq.T->Option ng.T} (n:zN T j S nq ng a tree=g) {x:nq.T} {v:ng.T} (h:g x=U v):oI P ⟨f,e8 nq x,enc ng v⟩:=by
 subst n;unfold zN at h;cases hp:r_ a nq []with
 |none=>simp only[hp]at h;cases h
 |some q=>
  obtain⟨Γ,p⟩:=q;simp only[hp]at h;obtain⟨vs,o,B,w⟩:=yS _ _ _ _ hp x ();have hl:=CT e _ Γ [] (p x ()) () (λ_ _=>False) (λl s g hf=>by simp[zv]at hf) h;have z:pw Γ (p x ())=vs++[]:=o;have k:mR (pz Γ (p x ())) a=e8 nq x:=by
   have C:=w []
   grind[pz,tp]
  rw[EV]at k;have b:∀u∈pw Γ (p x ()),mW u:=λu hu=>by grind
  rw[<-k];have i:=hl (by rw[tp]);have m:=i (λu hu=>b u (by simpa using hu));rw[wP,tp]at m;exact d _ (by have:=Fit.env (l:=(pw Γ (p x ())).reverse) (λu hu=>b u (by simpa using hu));rw[wP,tp]at this;exact this) _ m
def be3{P:Program}{T:dd}(ca:mc P T){F:FuncId->Option Func}(cu:∀f fn,F f=U fn->P.funcs[f]?=U fn)(hm:P.follows .mixedOrders=IN){ts d:List fp}(hs:zX ts=IN)(b:∀t∈d,t.Ok (tJ P ts)){t:fp}(e:t∈ts)(hf:cD t.f p6=IN)
  {H:List (Nat×Hint)} {acts:List (Nat×yf)} {m:Nat} {a:List ag} {bb:Nat} {S:Nat->Option bl} (g:zN T d S t.nq t.ng a (H3 T (tJ P ts) F H acts m t.f a bb)=t.fn):t.Ok (tJ P ts) :=
 ub hs e λx r i=>Good.w_ (by simpa using hf) (YN b (λθ c r h=>aQ2 ca (NA P ts) cu hm c h) g i)
end Go.Ab
namespace Go.Ab
open Go Go.RowKit Go.WideShapes Go.ChangeShapes Go.Proofs
def at4{H:Type}{enc:TypeId×Value->H}{a:Assume}{C:Checked}{os:Os}{f:FuncId}{fn:Func}{s:ChangeSpec}{conds:List PathCond}{apart fresh handsOn again:Bool}{X:World->Array Value->Prop}
  (u:∀(w w':World) (args:Array Value),w.heap=w'.heap->X w args->X w' args)
  (own:ownKnob C.prog.godebug=No) (started:os.Started) (c:C.prog.inits.idxOf? f=No) (m:C.prog.funcs[f]?=U fn)
  (witness:∃(w:World) (tape:Tape) (i:Input),w.os=os/\(w.forCall tape i).Shaped C.prog/\i.vars=[]/\Input.okWide C.prog (w.forCall tape i) .any w.heap.size f i /\
   ((s.pre enc C.prog fn conds apart (w.forCall tape i).memory i.args/\X (w.forCall tape i).memory i.args)/\sizedMet enc C.prog fn (iT s) apart (w.forCall tape i).memory i.args)/\a.holds C.prog (lone (kN C.prog f i.args .normal) [] (w.forCall tape i)))
  (b:∀(W:World) (base:Nat) (args:Array Value) (g gs:List (DataW H)) (before:List MemPlace),
   (∀(j:Nat) t v,fn.params[j]?=U t->args[j]?=U v->Value.okWide C.prog W .any base t v) ->
   DataW.Whole enc C.prog fn.params.toList s.vars apart W args.toList g gs before ->
   conds.all (PathCond.test C.prog ⟨fn.params.toList,g,s.plain.varTypes C.prog,gs⟩)=IN ->
   (DataW.weightsEach C.prog (fn.params.toList++s.plain.varTypes C.prog) (g++gs)).all (·<=reachBytes)=IN->X W args ->
   W.ShapedOpen C.prog ->
   a.holds C.prog (lone (kN C.prog f args .normal) [] W) ->
   Calls C.prog f args W λe r=>∃v,e=.returned v/\s.post enc C.prog fn apart fresh handsOn again W args v r) :
  ReturnsInHanded a C os f .any (λw args=>(s.pre enc C.prog fn conds apart w args/\X w args)/\sizedMet enc C.prog fn (iT s) apart w args) (s.post enc C.prog fn apart fresh handsOn again):=by
 refine returnsInHanded_of_calls own started c witness ?_;intro w tape i _ n _ o h d;obtain⟨_,_,_,p,k,_,_,_,_,l⟩:=o;have e:p=fn:=aQ (k.symm.trans m);subst e;obtain⟨⟨⟨g,gs,before,hw,hc⟩,x⟩,hz⟩:=h;have q:=lk (w':=w.forCall tape i) (by rfl) hw;refine(b (w.forCall tape i) w.heap.size i.args g gs before l q hc (hz.weights hw) (u _ _ _ (by rfl) x) n d).mono λe r ⟨v,he,hp⟩=>?_;subst he;exact lu hp
variable [nF]
def zp:List dr->bl
 | []=>.nil
 | [s]=>.one s
 |s::s'::l=>.cons s (zp (s'::l))
mutual
def KR(N:Nat):(s:dr)->s.T->Prop
 | .int k,x=>(Lit.int k x).wf=IN
 | .str,x=>x.size<=N
 | .ft l,xs=>xs.length<=N/\∀x∈xs,DD N l x
 | .agg l,x=>DD N l x
 | .bool,_=>True
 | .ptr _,_=>True
 | .pa _,_=>True
 | .fe _,_=>True
 | .fn _ _,_=>True
 | .rO,_=>True
 | .nl,_=>True
def DD(N:Nat):(l:bl)->l.T->Prop
 | .nil,_=>True
 | .one s,x=>KR N s x
 | .cons s l,x=>KR N s x.1/\DD N l x.2
end
def uk(N:Nat):List dr->List ag->Prop
 | [],[]=>True
 |s::L,v::c=>(∃x:s.T,v=enc s x/\KR N s x)/\uk N L c
 |_,_=>False
def uk.app{N:Nat}:∀ {L M:List dr} {c d:List ag},uk N L c->uk N M d->uk N (L++M) (c++d)
 | [],_,[],_,_,h=>h
 | [],_,_::_,_,h,_=>by cases h
 |_::_,_,[],_,h,_=>by cases h
 |s::L,_,v::c,_,h,h'=>⟨h.1,uk.app h.2 h'⟩
def uk.mk{N:Nat}:∀ {L:List dr} {c:List ag},uk N L c->∃x:(zp L).T,c=e8 (zp L) x/\DD N (zp L) x
 | [],[],_=>⟨(),rfl,trivial⟩
 | [],_::_,h=>by cases h
 | [s],[v],h=>by obtain⟨⟨x,a,b⟩,_⟩:=h;exact⟨x,by rw[a];rfl,b⟩
 | [s],[],h=>by cases h
 | [s],_::_::_,h=>by cases h.2
 |s::s'::L,[],h=>by cases h
 |s::s'::L,v::c,h=>by obtain⟨⟨x,a,b⟩,h2⟩:=h;obtain⟨y,d,hc⟩:=uk.mk (L:=s'::L) h2;exact⟨(x,y),by rw[a,d];rfl,b,hc⟩
def uy{α:Type}:List (Option (List α))->Option (List α)
 | []=>U []
 |some l::r=>(uy r).map (l++·)
 |none::_=>No
def wD(P:Program):Nat->TypeId->Option (List dr)
 | 0,_=>No
 |k+1,t=>match P.underlying t with
  |some .bool=>U [.bool]
  |some (.int a)=>U [.int a]
  |some .string=>U [.str]
  |some (.slice e)=>(wD P k e).map λL=>[.ft (zp L)]
  |some (.struct fs)=>if tG P fs.toList 0 (P.cellsOf t)then uy (fs.toList.map λf=>wD P k f.type)else No
  |_=>No
def WJ{N:Nat}{L:List dr}:∀ {es:List (List ag)},(∀c∈es,uk N L c)->∃xs:List (zp L).T,es=xs.map (e8 (zp L))/\∀x∈xs,DD N (zp L) x
 | [],_=>⟨[],rfl,λx h=>by cases h⟩
 |c::es,h=>by
  obtain⟨x,e,f⟩:=uk.mk (h c (by simp));obtain⟨xs,a,b⟩:=WJ (es:=es) λc' hc=>h c' (by simp[hc]);refine⟨x::xs,by rw[e,a];rfl,λy d=>?_⟩;rcases aI.1 d with rfl|d
  .exact f
  exact b y d
def Iw{P:Program}{N:Nat}:∀(k:Nat) (t:TypeId) {c:List ag} {L:List dr},pD P N t c->wD P k t=U L->uk N L c
 | 0,t,c,L,_,h=>by cases h
 |k+1,t,c,L,hs,h=>by
  unfold wD at h;split at h
  next i=>
   cases h;cases hs with
   |bool b h2=>exact⟨⟨b,rfl,trivial⟩,trivial⟩
   |int h2=>rw[i]at h2;cases h2
   |str h2=>rw[i]at h2;cases h2
   |slice h2=>rw[i]at h2;cases h2
   |struct h2=>rw[i]at h2;cases h2
  next w i=>
   cases h;obtain⟨n,rfl,hw⟩:=hs.aw0 i;exact⟨⟨n,rfl,hw⟩,trivial⟩
  next i=>
   cases h;obtain⟨s,rfl,hw⟩:=hs.ba8 i;exact⟨⟨s,rfl,hw⟩,trivial⟩
  next e i=>
   obtain⟨es,rfl,hl,hes⟩:=hs.aY5 i;cases d:wD P k e with
   |none=>rw[d]at h;cases h
   |some M=>rw[d]at h;simp only[aj,ai]at h;subst h;obtain⟨xs,rfl,q⟩:=WJ λc hc=>Iw k e (hes c hc) d;exact⟨⟨xs,rfl,by simpa using hl,q⟩,trivial⟩
  next fs i=>
   split at h
   next j=>
    obtain⟨hlen,hf⟩:=hs.ba9 i;have key:∀(l:List Field) (o:Nat) (L:List dr),(∀f∈l,f∈fs.toList)->tG P l o (P.cellsOf t)=IN->uy (l.map λf=>wD P k f.type)=U L->uk N L (c.drop o):=by
     intro l
     induction l with
     |nil=>intro o L _ m d;have:o=P.cellsOf t:=af m;cases d;rw[this,<-hlen,List.drop_length];trivial
     |cons f l r=>
      intro o L hm m d;simp only[tG,ab]at m;have p:f.offset=o:=af m.1;simp only[ay]at d;cases h1:wD P k f.type with
      |none=>rw[h1]at d;cases d
      |some M=>
       rw[h1]at d;simp only[uy]at d;cases h2:uy (l.map λf=>wD P k f.type)with
       |none=>rw[h2]at d;cases d
       |some u =>
        rw[h2]at d;simp only[aj,ai]at d;subst d;have a:=Iw k f.type (hf f (hm f (by simp))) h1;have b:=r (o+P.cellsOf f.type) u (λg v=>hm g (by simp[v])) m.2 h2;rw[p]at a;have e:c.drop o=(c.drop o).take (P.cellsOf f.type)++c.drop (o+P.cellsOf f.type):=by rw[<-eD,cJ]
        rw[e];exact a.app b
    have:=key fs.toList 0 L (λ_ h=>h) j h;simpa using this
   cases h
  cases h
section
variable {H:Type} {en:TypeId×Value->H} {P:Program} {w:World} {base:Nat} {spare:Nat->Bool} {held:Bool}
def u4(P:Program):Nat->TypeId->DataW H->Option (List Value)
 | 0,_,_=>No
 |k+1,t,d=>match P.underlying t,d with
  |some (.int c),.lit (.int b n)=>U [.int b n]
  |some (.array _ e),.agg a=>if aB (P.cellsOf t) (a.length*P.cellsOf e)then uy (a.map λd=>u4 P k e d)else No
  |some (.struct fs),.agg a=>if tG P fs.toList 0 (P.cellsOf t)then uy ((fs.toList.zip a).map λx=>u4 P k x.1.type x.2)else No
  |_,_=>No
def My:∀(k:Nat) (t:TypeId) {fuel:Nat} {cs:List Value} {d:DataW H} {p:List MemPlace} {l:List Value},DataW.trod en P w base spare held fuel t cs=U (d,p)->u4 P k t d=U l->cs=l
 | 0,t,_,_,_,_,_,_,h=>by cases h
 |k+1,t,fuel,cs,d,p,l,s,h=>by
  unfold u4 at h;split at h
  next G D n hu=>
   obtain⟨m,rfl,e,_⟩:=DataW.trod_int hu s;cases h;cases e;rfl
  next n e E hu=>
   obtain⟨xs,m,rfl,ex,hlen,u,g⟩:=DataW.trod_array hu s;simp only[cq,jg]at ex;obtain⟨rfl,_⟩:=ex;split at h
   next v=>
    have v:=af v;rw[aF,u]at v;have key:∀(j i:Nat) (l:List Value),i+j=n->uy (((xs.map (·.1)).drop i).map λd=>u4 P k e d)=U l->cs.drop (i*P.cellsOf e)=l:=by
     intro j
     induction j with
     |zero=>
      intro i l a7 hl;have:i=n:=by omega
      subst this;rw[ey (by simp[u])]at hl;cases hl;exact ey (by omega)
     |succ j z=>
      intro i l a7 hl;have c:i<xs.length:=by omega
      rw[bN (by simpa using c)]at hl;simp only[ay,cK]at hl;cases h1:u4 P k e xs[i].1 with
      |none=>rw[h1]at hl;cases hl
      |some mj=>
       rw[h1]at hl;simp only[uy]at hl;cases h2:uy (((xs.map (·.1)).drop (i+1)).map λd=>u4 P k e d)with
       |none=>rw[h2]at hl;cases hl
       |some nh=>rw[h2]at hl;simp only[aj,ai]at hl;subst hl;have f:=g i (by omega);rw[ae c]at f;have a:=My k e (d:=xs[i].1) (p:=xs[i].2) f h1;have b:=z (i+1) nh (by omega) h2;rw[b_,jz]at b;rw[<-a,<-b,<-eD,cJ]
    have:=key n 0 l (by omega) (by simpa using h);simpa using this
   cases h
  next fs E hu=>
   obtain⟨xs,m,rfl,ex,hlen,u,g⟩:=DataW.trod_struct hu s;simp only[cq,jg]at ex;obtain⟨rfl,_⟩:=ex;split at h
   next q=>
    have key:∀(j i o:Nat) (l:List Value),i+j=fs.size->tG P (fs.toList.drop i) o (P.cellsOf t)=IN->uy (((fs.toList.drop i).zip ((xs.map (·.1)).drop i)).map λx=>u4 P k x.1.type x.2)=U l->cs.drop o=l:=by
     intro j
     induction j with
     |zero=>intro i o l a7 r hl;rw[ey (by simp;omega)]at r hl;have:o=P.cellsOf t:=af r;cases hl;exact ey (by omega)
     |succ j z=>
      intro i o l a7 r hl;have c:i<xs.length:=by omega
      have B:i<fs.toList.length:=by simp;omega
      rw[bN B]at r hl;rw[bN (l:=xs.map (·.1)) (by simpa using c)]at hl;simp only[tG,ab]at r;have C:=af r.1;simp only[List.zip_cons_cons,ay,cK]at hl;cases h1:u4 P k fs.toList[i].type xs[i].1 with
      |none=>rw[h1]at hl;cases hl
      |some mj=>
       rw[h1]at hl;simp only[uy]at hl;cases h2:uy (((fs.toList.drop (i+1)).zip ((xs.map (·.1)).drop (i+1))).map λx=>u4 P k x.1.type x.2)with
       |none=>rw[h2]at hl;cases hl
       |some nh=>rw[h2]at hl;simp only[aj,ai]at hl;subst hl;have f:=g i fs.toList[i] (by simp);rw[ae c]at f;have a:=My k _ (d:=xs[i].1) (p:=xs[i].2) f h1;have b:=z (i+1) (o+P.cellsOf fs.toList[i].type) nh (by omega) r.2 h2;rw[C]at a;rw[<-a,<-b,<-eD,cJ]
    have:=key fs.size 0 0 l (by omega) (by simpa using q) (by simpa using h);simpa using this
   cases h
  cases h
def ba7{n:String}{d:DataW Unit}{g:Nat}{t:TypeId}{k:Nat}{l:List Value}(h:laidMetH P [(n,d)] w)(i:([(n,d)].all λx=>x.2.handleName?.isNone)=IN)(j:P.globalNamed n=U g)(m:(P.globals[g]?).map (·.type)=U t)(hl:u4 P k t d=U l) :
  ∀o v,l[o]?=U v->(cb.sD w).cell g o=U v:=by
 rw[lx _ _ _ i]at h;obtain⟨q,⟨g0,t0,b,f0,p0,tf,a,c,f,pJ,_⟩,_⟩:=h;obtain rfl:=aQ (j.symm.trans a);obtain rfl:=aQ (m.symm.trans c);have e:=My k t pJ hl;intro o v p;have hc:=World.var?_cell a f o;have h1:b[o]?=U v:=by rw[<-Array.getElem?_toList,e];exact p
 have h2:w.cell? ⟨g,o,No⟩=U v:=by first|exact hc.trans h1|exact hc.symm.trans h1| (rw[h1]at hc;exact hc)| (simpa[h1]using hc)
 exact(G1 h2).2
end
end Go.Ab
namespace Go.Ab
variable [nF]
open Go Go.Sort Go.Proofs Go.Shelf
def bd6{W w':World}(hs:W.heap.size<=w'.heap.size)(a:∀b,b<W.heap.size->w'.heap[b]?=W.heap[b]?)(l:W.drawn<=w'.drawn)(h:w'.os=W.os)(i:w'.tape=W.tape)(hp:w'.output=W.output):∃q e,w'=grow (W.drewN q) e:=by
 refine⟨w'.drawn-W.drawn,w'.heap.extract W.heap.size w'.heap.size,?_⟩;have j:w'.heap=W.heap++w'.heap.extract W.heap.size w'.heap.size:=by
  apply Array.ext_getElem?;intro k;by_cases hk:k<W.heap.size
  .rw[cZ hk,a k hk]
  rw[Array.getElem?_append_right (by omega),Array.getElem?_extract];by_cases m:k<w'.heap.size
  .rw[b9 (by omega)]
   congr 1;omega
  rw[b8 (by omega),Array.getElem?_eq_none (by omega)]
 cases w' with
 |mk heap tape drawn os output=>
 cases W with
 |mk f g d n c=>
 simp only at hs a l h i hp j;subst h;subst i;subst hp;simp only[grow,World.drewN];rw[<-j];congr 1;omega
def oI.RQ {P:Program} {g:FuncId} {fn:Func} (t:P.funcs[g]?=U fn) (f:(fn.name== "runtime.NumGoroutine")=IS) (i:fn.body.isNone=IS) {args:List ag} {v:Value} (hm:oI P ⟨g,args,.bF v⟩)
  {G:cb} {W:World} {vs:List Value} (j:gl G args vs) (d:Rel G bg.none W):Calls P g vs.toArray W (λe w'=>e=.returned v/\∃q k,w'=grow (W.drewN q) k):=by
 have n:(callFunc g vs.toArray).run P W=.ok (.enter g vs.toArray) W:=by simp only[callFunc,an,run_program,ah,t,f,i,aq,j2,ar]
 have h:=hm bg.none G vs W j d { (default:Oper)with dst:=U 0 } ⟨#[undef],[]⟩ (λx w'=>x.tmps[0]?=U v/\∃q k,w'=grow (W.drewN q) k) (λ_ _ _=>False) (by
  rintro u B σ' G' w' r w a ⟨rfl,rfl⟩;cases w;refine⟨by simp[kp],?_⟩;have l:∀b,b<W.heap.size->w'.heap[b]?=W.heap[b]?:=λb z=>r.bb.same b z (λid o p h=>by rw[bg.ux]at h;cases h);have m:=r.le.mr;exact bd6 r.bb.size l r.bb.drawn (by rw[a.os,m,d.os]) (by rw[a.tape,m,d.tape]) (by rw[a.output,m,d.output]))
 rw[n]at h;simp only[Oper.upon]at h;refine h.mono ?_;intro e w' s;cases e with
 |returned u=>simp only[kp]at s;obtain⟨h1,h2⟩:=s;simp at h1;exact⟨by rw[h1],h2⟩
 |panicked c=>exact s.elim
 |outgrown=>obtain⟨_,_,hf⟩:=s;exact hf.elim
def Rel.O5{G:cb}{σ:bg}{w w':World}(h:Rel G σ w){id:Nat}{o o':b7}{p:nm}(l:σ.bT id=U o)(hp:G.pl id=U p)(hv:p.mF=IS)(hs:w.heap.size<=w'.heap.size)(s:w'.os=w.os)(d:w'.tape=w.tape)(m:w'.output=w.output)(E:w.drawn<=w'.drawn)
  (a:∀k,k<w.heap.size->k≠p.block->w'.heap[k]?=w.heap[k]?) (t:oc G p o' w'.heap[p.block]?):Rel G (σ.set id o') w'/\Fr G σ w G (σ.set id o') w':=by
 obtain⟨n,u,_⟩:=h.real l hp hv;refine⟨⟨s.trans h.os,d.trans h.tape,m.trans h.output,bI h.size hs,λb x g=>?_,h.fresh,λi x c=>?_,λi j oi oj pi pj h1 h2 r D v1 v2 H=>?_,h.qV⟩,⟨hs,λb g I=>a b g (λe=>I id o p l hp hv e.symm),λi x q h1 h2 r D=>?_,λ_ _ h=>.inl h,E⟩⟩
 .rw[a b (h.lt g) (λe=>by rw[e,n]at g;cases g)];exact h.lM b x g
 .by_cases e:i=id
  .subst e
   simp[bg.l1]at c;subst c;exact⟨p,hp,.inr ⟨hv,n,u,t⟩⟩
  simp[bg.l1,e]at c;obtain⟨q,v,hl⟩:=h.bT i x c;refine⟨q,v,?_⟩;rcases hl with hl|⟨f,z,B,C⟩
  .exact .inl hl
  refine .inr ⟨f,z,B,?_⟩;rw[a q.block (h.ta c v f) (λJ=>e (h.sep i id x o q p c l v hp f hv J))];exact C
 .have aux:∀i x,(σ.set id o').bT i=U x->∃y,σ.bT i=U y:=λi x c=>by
   by_cases e:i=id
   .exact⟨o,by rw[e];exact l⟩
   exact⟨x,by simpa[bg.l1,e]using c⟩
  obtain⟨K,M⟩:=aux i oi h1;obtain⟨N,a2⟩:=aux j oj h2;exact h.sep i j K N pi pj M a2 r D v1 v2 H
 by_cases e:i=id
 .subst e
  exact⟨i,o,q,l,h2,r,rfl⟩
 exact⟨i,x,q,by simpa[bg.l1,e]using h1,h2,r,rfl⟩
def Rel.Xi{G:cb}{σ:bg}{w w':World}(h:Rel G σ w){id:Nat}{o:b7}{p:nm}(B:σ.bT id=U o)(hp:G.pl id=U p)(hv:p.mF=IS)(hs:w.heap.size<=w'.heap.size)(n:w'.os=w.os)(c:w'.tape=w.tape)(l:w'.output=w.output)
  (a:∀k,k<w.heap.size->k≠p.block->w'.heap[k]?=w.heap[k]?):Rel G (σ.del id) w':=by
 obtain⟨r,C,_⟩:=h.real B hp hv;have back:∀i x,(σ.del id).bT i=U x->i≠id/\σ.bT i=U x:=λi x g=>by
  rw[bg.tb]at g;split at g
  .cases g
  rename_i e;exact⟨e,g⟩
 refine⟨n.trans h.os,c.trans h.tape,l.trans h.output,bI h.size hs,λb x m=>?_,h.fresh,λi x g=>?_,λi j oi oj pi pj h1 h2 D E v1 v2 H=>h.sep i j oi oj pi pj (back _ _ h1).2 (back _ _ h2).2 D E v1 v2 H,h.qV⟩
 .rw[a b (h.lt m) (λe=>by rw[e,r]at m;cases m)];exact h.lM b x m
 obtain⟨s,d⟩:=back i x g;obtain⟨q,t,hl⟩:=h.bT i x d;refine⟨q,t,?_⟩;rcases hl with hl|⟨f,u,v,z⟩
 .exact .inl hl
 refine .inr ⟨f,u,v,?_⟩;rw[a q.block (h.ta d t f) (λI=>s (h.sep i id x o q p d B t hp f hv I))];exact z
def Rel.RB{G:cb}{σ:bg}{w:World}(h:Rel G σ w):Rel (G.frozen σ w (λ_=>No)) bg.none w :=
 ⟨h.os,h.tape,h.output,h.size,λb x a=>by
   simp only[cb.frozen]at a;split at a
   .exact a
   exact h.lM b x a,λ_ _=>rfl,(λid o h=>by rw[bg.ux]at h;cases h),(λi j oi oj pi pj h=>by rw[bg.ux]at h;cases h),λb o v hv=>L1 h (h.qV b o v hv)⟩
def mB(es:List (List ag))(i:Nat):List ag:=(es[i]?).getD (es.headD [])
def uM{es:List (List ag)}(h:es≠[])(i:Nat):mB es i∈es:=by
 unfold mB;cases a7:es[i]? with
 |some r=>exact aJ a7
 |none=>
  cases es with
  |nil=>exact lH rfl h
  |cons a l=>simp
def rq(cf:List ag->List ag->Int):List (List ag)->List (List ag)
 | []=>[]
 |r::l=>((pdq (ltOf (λi j=>cf (mB (r::l) i) (mB (r::l) j))) (bf (r::l).length) 0 (r::l).length (eU (r::l).length) IN IN).toList).map (mB (r::l))
def L9{cf:List ag->List ag->Int}{es:List (List ag)}(h:es≠[]):rq cf es=((pdq (ltOf (λi j=>cf (mB es i) (mB es j))) (bf es.length) 0 es.length (eU es.length) IN IN).toList).map (mB es):=by
 cases es with
 |nil=>exact lH rfl h
 |cons r l=>rfl
def UM{cf:List ag->List ag->Int}{es:List (List ag)}(hO:SWO (ltOf (λi j=>cf (mB es i) (mB es j)))) :
  PermIn 0 es.length (bf es.length) (pdq (ltOf (λi j=>cf (mB es i) (mB es j))) (bf es.length) 0 es.length (eU es.length) IN IN)/\SortedIn (ltOf (λi j=>cf (mB es i) (mB es j))) 0 es.length (pdq (ltOf (λi j=>cf (mB es i) (mB es j))) (bf es.length) 0 es.length (eU es.length) IN IN) :=
 pdq_sorts _ hO (bf es.length) 0 es.length (eU es.length) IN IN (dq _) (by simp) (Or.inl rfl)
def Ly{α:Type}[Inhabited α](enc:α->List Value)(k:Nat)(w:World)(a off m:Nat)(d:Array α)(os:Array Obj) :
  sortWorldK enc k w a off m d os={ w with drawn:=w.drawn+m,heap:=w.heap.modify a (onCells (putCells id off (flatK enc k d)))++os }:=rfl
def SH{w:World}{f:Obj->Obj}{os:Array Obj}{a k:Nat}(hk:k<w.heap.size)(b:k≠a):(w.heap.modify a f++os)[k]?=w.heap[k]?:=by rw[cZ (by simpa using hk),eF,b8 (Ne.symm b)]
def WG{G:cb}{σ:bg}{w:World}{id:Nat}{g:FuncId}{caps restv:List ag}{vs:List Value}(d:Rel G σ w)(a:gl G restv vs)(l:∀G vs w,gl G restv vs->Rel G (σ.del id) w->gl (G.frozen (σ.del id) w (λ_=>No)) [.fn (.func g) [] caps] vs) :
  ∃cv:List Value,vs=[.func (.func g) #[] cv.toArray]/\∀w',Rel G (σ.del id) w'->gl (G.frozen (σ.del id) w' (λ_=>No)) caps cv:=by
 have c:Rel G (σ.del id) w:=d.less rfl (λi o h=>by
  rw[bg.tb]at h;split at h
  .cases h
  exact h)
 obtain⟨z,n,rfl,j,b⟩:=(l G vs w a c).cons_inv;obtain rfl:=b.s_;cases j with
 |fn _ _ _ fv cv h1 h2 B C=>
  have:fv=[]:=by simpa using h1
  subst this;refine⟨cv,rfl,λw' h'=>?_⟩;obtain⟨p,r,s,e,f⟩:=(l G _ w' a h').cons_inv;have t:p=.func (.func g) #[] cv.toArray:=by have:=mP List.head? s;simpa using this.symm
  subst t;generalize m:Value.func (.func g) #[] cv.toArray=q at e;cases e with
  |fn _ _ _ u k D v E x=>
   simp only[ly,pB]at m;have:cv=k:=by have:=m.2;simpa using mP Array.toList this
   subst this;exact⟨v,x⟩
def bo7 {P:Program} {ρ:eV} (L:SlLaysF0.n6 P ρ) {f:FuncId} (hf:ρ.f 6=f) {V:Func} (hS:P.funcs[f]?=U V) (hSn:(V.name== "runtime.NumGoroutine")=IS) (hSb:V.body.isNone=IS) {z:Nat} (hz:0<z) (aE:∀ w,(isAgg (ρ.t 24)).run P w=.ok IN w) (zE:∀ w,(Go.sizeOf (ρ.t 24)).run P w=.ok z w)
  {g:FuncId} {fnG:Func} (hG:P.funcs[g]?=U fnG) (hGn:(fnG.name== "runtime.NumGoroutine")=IS) (hGb:fnG.body.isNone=IS) {e:TypeId} {es:List (List ag)} {caps:List ag} {cf:List ag->List ag->Int}
  (hlen:∀r∈es,r.length=z) (hone:∀r∈es,∀c∈r,c.one=IN) (hpur:∀r∈es,∀c∈r,c.ki=IN) (hn:es.length<4611686018427387904)
  (hcmp:∀x∈es,∀y∈es,oI P ⟨g,[.agg x,.agg y]++caps,Gz (cf x y)⟩) (hO:es≠[]->SWO (ltOf (λi j=>cf (mB es i) (mB es j))))
  {σ:bg} {id:Nat} (ho:σ.bT id=U (.row e z es)) {restv:List ag} (hr:∀G vs w,gl G restv vs->Rel G (σ.del id) w->gl (G.frozen (σ.del id) w (λ_=>No)) [.fn (.func g) [] caps] vs) :
  po P f (.ms id z 0 es.length::restv) σ (λv σ'=>v=.fe []/\σ'=σ.set id (.row e z (rq cf es))):=by
 subst hf;refine po.CY hS hSn hSb ?_;intro G vs w u s;obtain⟨u1,vs1,rfl,hu1,u⟩:=u.cons_inv;obtain⟨cv,rfl,hcv⟩:=WG s u hr;by_cases hes:es=[]
 .
  subst hes;have hσ:∀i,(σ.set id (.row e z [])).bT i=σ.bT i:=λi=>by
   rw[bg.l1];split
   next ei=>rw[ei,ho]
   rfl
  obtain⟨q,c,rfl⟩:∃(q:Option Addr) (c:Nat),u1=.slice q 0 c:=by
   cases hu1 with
   |ms _ _ _ _ p hp hv hz' a c ha hoff hl hsp=>exact⟨U a,c,rfl⟩
   |n4 _ _ p hp hv=>exact⟨No,0,rfl⟩
  refine(ik L q c (.func (.func g) #[] cv.toArray) w).mono ?_;rintro e' w' ⟨rfl,rfl⟩;refine⟨_,.fe [],σ.set id (.row e z (rq cf [])),G,rfl,⟨.refl G,.refl _ G,aw _,Fr.less (λi o h=>by rw[<-hσ i];exact h)⟩,.fe [] [] rfl (λi h=>by simp at h),s.less rfl (λi o h=>by rw[<-hσ i];exact h),rfl,rfl⟩
 have E:0<es.length:=da.2 hes;obtain⟨p,hp,hv,c,rfl,hc⟩:∃p,G.pl id=U p/\p.mF=IS/\∃c,u1=.slice (U ⟨p.block,0,No⟩) es.length c/\es.length<=c:=by
  generalize hl0:es.length=n0 at hu1 E;cases hu1 with
  |ms _ _ _ _ p hp hv hz' a c ha hoff hl hsp=>refine⟨p,hp,hv,c,?_,hl⟩;rw[ha (by omega)];simp
  |n4 _ _ p hp hv=>omega
 obtain⟨him,hw0,cs,hcs,hpz,N,hcap,hrows⟩:=s.real ho hp hv;have H:p.block<w.heap.size:=s.ta ho hp hv;have hin:∀i j,i<es.length->j<z->i*z+j<cs.size:=λi j a7 hj=>by rw[N];have h1:(i+1)*z<=p.cap*z:=Nat.mul_le_mul_right z (by omega);rw[b_,jz]at h1;omega
 let enc:Nat->List Value:=λi=>(bo z).map λj=>cs[(if i<es.length then i else 0)*z+j]!
 have hk:∀i,(enc i).length=z:=λi=>by simp[enc]
 have hrep:∀i,gl G (mB es i) (enc i):=λi=>by
  have key:∀i,i<es.length->gl G (mB es i) ((bo z).map λj=>cs[i*z+j]!):=λi a7=>by
   have K:mB es i=es[i]:=by simp[mB,a7]
   rw[K];obtain⟨r1,r2⟩:=hrows i a7;refine⟨by simp[r1],λj hj M=>?_⟩;have B:j<z:=by omega
   have:=r2 j hj (hin i j a7 B);simpa[hin i j a7 B]using this
  by_cases a7:i<es.length
  .have:=key i a7
   simp only[enc,a7,jj];exact this
  have:=key 0 E;have e2:mB es i=mB es 0:=by
   unfold mB;rw[bM (by omega)];cases es with
   |nil=>simp at E
   |cons a l=>simp
  simp only[enc,a7,j2];rw[e2];exact this
 have hone':∀i,∀v∈enc i,v.oneCell'=IN:=λi v hv'=>by obtain⟨j,hj,rfl⟩:=aH hv';have hr1:=(hrep i).1;have:=(hrep i).2 j (by omega) hj;exact lB.one (hone _ (uM hes i) _ (au _)) this
 have n:(bf es.length).size=es.length:=by simp
 have hH:HoldsK enc z w p.block 0 (bf es.length):=by
  intro j hj;rw[size_flatK,n]at hj;rw[get_flatK _ _ _ _ (by rw[n];exact hj)];have hjz:j / z<es.length:=(Nat.div_lt_iff_lt_mul hz).2 hj;have hjm:j%z<z:=gV _ hz;have K:(bf es.length)[j / z]! = j / z:=by simp[hjz]
  have e2:j / z*z+j%z=j:=by rw[eB];exact gx j z
  have hlt:j<cs.size:=by rw[<-e2];exact hin _ _ hjz hjm
  rw[K];constructor
  .simp only[gQ,hcs,aN]
   simp only[enc,hjz,jj];simp[hjm,e2,hlt]
  simp[iz,hcs]
 have O:∀(m:Nat) (D:Array Nat) (os:Array Obj) k,k<w.heap.size->k≠p.block->(sortWorldK enc z w p.block 0 m D os).heap[k]?=w.heap[k]?:=λm D os k hk hne=>by rw[Ly];exact SH hk hne
 have I:∀(m:Nat) (D:Array Nat) (os:Array Obj),w.heap.size<=(sortWorldK enc z w p.block 0 m D os).heap.size:=λm D os=>by rw[Ly];simp
 have hC:CmpLays P g cv.toArray enc z (λi j=>cf (mB es i) (mB es j)) p.block 0 (bf es.length).size w:=by
  intro m os D hdk x y;have C:Rel G (σ.del id) (sortWorldK enc z w p.block 0 m D os):=s.Xi ho hp hv (I m D os) rfl rfl rfl (O m D os);have hmono:∀c v,c.ki=IN->lB G c v->lB (G.frozen (σ.del id) (sortWorldK enc z w p.block 0 m D os) (λ_=>No)) c v:=λc v hp' hr'=>rT (λb o hb=>tZ C hb) hr' hp';have Q:∀i,lB (G.frozen (σ.del id) (sortWorldK enc z w p.block 0 m D os) (λ_=>No)) (.agg (mB es i)) (.agg (enc i).toArray):=λi=>.agg _ _ (hrep i).1 (λj hj M=>hmono _ _ (hpur _ (uM hes i) _ (au _)) ((hrep i).2 j hj M));have hA:gl (G.frozen (σ.del id) (sortWorldK enc z w p.block 0 m D os) (λ_=>No)) ([.agg (mB es x),.agg (mB es y)]++caps) ([.agg (enc x).toArray,.agg (enc y).toArray]++cv) :=((gl.nil _).cons (Q y) |>.cons (Q x)).append (hcv _ C);have:=oI.RQ hG hGn hGb (hcmp _ (uM hes x) _ (uM hes y)) hA C.RB;have K:([Value.agg (enc x).toArray,.agg (enc y).toArray]++cv).toArray=#[.agg (enc x).toArray,.agg (enc y).toArray]++cv.toArray:=by simp
  rw[K]at this;exact this
 have eg:∀args w,(callFunc g args).run P w=.ok (.enter g args) w:=λargs w=>by simp only[callFunc,an,run_program,ah,hG,hGn,hGb,aq,j2,ar]
 have main:=AnyQ.slices_SortFunc_eq L z aE zE enc hk hone' (λi j=>cf (mB es i) (mB es j)) (hO hes) g cv.toArray p.block 0 c (bf es.length) w eg hC hH H (by rw[n];exact hn);rw[n]at main;refine main.mono ?_;rintro e' w' ⟨rfl,m,os,rfl⟩;obtain⟨⟨va,_,_⟩,_⟩:=UM (hO hes);have R:=L9 (cf:=cf) hes;generalize pdq (α:=Nat) _ _ _ _ _ _ _=d at *;have hdz:d.size=es.length:=by simpa using va
 have hH2:HoldsK enc z (sortWorldK enc z w p.block 0 m d os) p.block 0 d:=holdsK_sortWorldK enc z w p.block 0 m _ d os H hH (by rw[hdz,n]);have S:(sortWorldK enc z w p.block 0 m d os).heap[p.block]?=U (.cells (putCells (λx:Value=>x) 0 (flatK enc z d) cs) e (0,0)):=by rw[Ly];simp only;rw[cZ (by simpa using H),eF,b9 rfl,hcs];rfl
 have hlen':(rq cf es).length=es.length:=by rw[R];simp[hdz]
 have hok:oc G p (.row e z (rq cf es)) (sortWorldK enc z w p.block 0 m d os).heap[p.block]?:=by
  refine⟨_,S,hpz,by simp[putCells,N],by rw[hlen'];exact hcap,λi a7=>?_⟩;have hi2:i<d.size:=by omega
  have K:(rq cf es)[i]=mB es d[i]:=by simp[R]
  refine⟨by rw[K];exact hlen _ (uM hes _),λj hj M=>?_⟩;rw[K]at hj;have B:j<z:=by rw[hlen _ (uM hes _)]at hj;exact hj
  have J:=(HoldsK.cell hH2 hi2 B).1;simp only[gQ,S,aN]at J;have hval:(putCells (λx:Value=>x) 0 (flatK enc z d) cs)[i*z+j]=(enc d[i]!)[j]! := by have:=J;rw[aZ M]at this;simpa using this
  rw[hval];have hr2:=(hrep d[i]).2 j hj (by rw[hk];exact B);have e2:(enc d[i]!)[j]! = (enc d[i])[j]'(by rw[hk];exact B):=by simp[hi2,hk,B]
  rw[e2];have e3:(rq cf es)[i][j]=(mB es d[i])[j]:=by simp only[K]
  rw[e3];exact hr2
 obtain⟨hrelN,hfrN⟩:=s.O5 ho hp hv (o':=.row e z (rq cf es)) (I m d os) rfl rfl rfl (aY _ _) (O m d os) hok;exact⟨_,.fe [],σ.set id (.row e z (rq cf es)),G,rfl,⟨.refl G,.refl _ G,aw _,hfrN⟩,.fe [] [] rfl (λi h=>by simp at h),hrelN,rfl,rfl⟩
def bm2 {P:Program} {ρ:eV} (L:SlLaysF.n6 P ρ) {f:FuncId} (hf:ρ.f 6=f) {N:Func} (hS:P.funcs[f]?=U N) (hSn:(N.name== "runtime.NumGoroutine")=IS) (hSb:N.body.isNone=IS)
  {g:FuncId} {O:Func} (hG:P.funcs[g]?=U O) (hGn:(O.name== "runtime.NumGoroutine")=IS) (hGb:O.body.isNone=IS) {e:TypeId} {es:List (List ag)} {caps:List ag} {cf:List ag->List ag->Int}
  (hlen:∀r∈es,r.length=1) (hone:∀r∈es,∀c∈r,c.one=IN) (hpur:∀r∈es,∀c∈r,c.ki=IN) (hn:es.length<4611686018427387904)
  (hcmp:∀x∈es,∀y∈es,oI P ⟨g,(x++y)++caps,Gz (cf x y)⟩) (hO:es≠[]->SWO (ltOf (λi j=>cf (mB es i) (mB es j))))
  {σ:bg} {id:Nat} (ho:σ.bT id=U (.row e 1 es)) {restv:List ag} (hr:∀G vs w,gl G restv vs->Rel G (σ.del id) w->gl (G.frozen (σ.del id) w (λ_=>No)) [.fn (.func g) [] caps] vs) :
  po P f (.ms id 1 0 es.length::restv) σ (λv σ'=>v=.fe []/\σ'=σ.set id (.row e 1 (rq cf es))):=by
 subst hf;refine po.CY hS hSn hSb ?_;intro G vs w t n;obtain⟨u1,vs1,rfl,Q,t⟩:=t.cons_inv;obtain⟨cv,rfl,hcv⟩:=WG n t hr;by_cases hes:es=[]
 .
  subst hes;have hσ:∀i,(σ.set id (.row e 1 [])).bT i=σ.bT i:=λi=>by
   rw[bg.l1];split
   next ei=>rw[ei,ho]
   rfl
  obtain⟨q,c,rfl⟩:∃(q:Option Addr) (c:Nat),u1=.slice q 0 c:=by
   cases Q with
   |ms _ _ _ _ p hp hv hz' a c ha hoff hl hsp=>exact⟨U a,c,rfl⟩
   |n4 _ _ p hp hv=>exact⟨No,0,rfl⟩
  refine(ik { L with } q c (.func (.func g) #[] cv.toArray) w).mono ?_;rintro e' w' ⟨rfl,rfl⟩;refine⟨_,.fe [],σ.set id (.row e 1 (rq cf [])),G,rfl,⟨.refl G,.refl _ G,aw _,Fr.less (λi o h=>by rw[<-hσ i];exact h)⟩,.fe [] [] rfl (λi h=>by simp at h),n.less rfl (λi o h=>by rw[<-hσ i];exact h),rfl,rfl⟩
 have C:0<es.length:=da.2 hes;obtain⟨p,hp,hv,c,rfl,hc⟩:∃p,G.pl id=U p/\p.mF=IS/\∃c,u1=.slice (U ⟨p.block,0,No⟩) es.length c/\es.length<=c:=by
  generalize hl0:es.length=n0 at Q C;cases Q with
  |ms _ _ _ _ p hp hv hz' a c ha hoff hl hsp=>refine⟨p,hp,hv,c,?_,hl⟩;rw[ha (by omega)];simp
  |n4 _ _ p hp hv=>omega
 obtain⟨him,hw0,cs,R,hpz,hcsz,hcap,S⟩:=n.real ho hp hv;have I:p.block<w.heap.size:=n.ta ho hp hv;have V:∀i,i<es.length->i<cs.size:=λi a7=>by omega
 let enc:Nat->Value:=λi=>cs[if i<es.length then i else 0]!
 have hrep:∀i,gl G (mB es i) [enc i]:=λi=>by
  have key:∀i,i<es.length->gl G (mB es i) [cs[i]!]:=λi a7=>by
   have E:mB es i=es[i]:=by simp[mB,a7]
   rw[E];obtain⟨r1,r2⟩:=S i a7;refine⟨by simp[r1],λj hj H=>?_⟩;have hj0:j=0:=by simp at H;omega
   subst hj0;have:=r2 0 hj (by simpa using V i a7);simpa[V i a7]using this
  by_cases a7:i<es.length
  .have:=key i a7
   simp only[enc,a7,jj];exact this
  have:=key 0 C;have e2:mB es i=mB es 0:=by
   unfold mB;rw[bM (by omega)];cases es with
   |nil=>simp at C
   |cons a l=>simp
  simp only[enc,a7,j2];rw[e2];exact this
 have hone':OneCell enc:=λi=>by have hr1:=(hrep i).1;have:=(hrep i).2 0 (by simp at hr1;omega) (by simp);exact lB.one (hone _ (uM hes i) _ (au _)) this
 have s:(bf es.length).size=es.length:=by simp
 have hH:Holds enc w p.block 0 (bf es.length):=by
  intro j hj;rw[s]at hj;have E:(bf es.length)[j]! = j:=by simp[hj]
  have hlt:j<cs.size:=V j hj;rw[E];constructor
  .simp only[gQ,R,aN]
   simp only[enc,hj,jj];simp[hlt]
  simp[iz,R]
 have u:∀(m:Nat) (B:Array Nat) (os:Array Obj),sortWorld enc w p.block 0 m B os={ w with drawn:=w.drawn+m,heap:=w.heap.modify p.block (onCells (putCells enc 0 B))++os }:=λ_ _ _=>rfl;have J:∀(m:Nat) (B:Array Nat) (os:Array Obj) k,k<w.heap.size->k≠p.block->(sortWorld enc w p.block 0 m B os).heap[k]?=w.heap[k]?:=λm B os k hk hne=>by rw[u];exact SH hk hne
 have D:∀(m:Nat) (B:Array Nat) (os:Array Obj),w.heap.size<=(sortWorld enc w p.block 0 m B os).heap.size:=λm B os=>by rw[u];simp
 have hC:CmpLays1 P g cv.toArray enc (λi j=>cf (mB es i) (mB es j)) p.block 0 (bf es.length).size w:=by
  intro m os B hdk x y;have z:Rel G (σ.del id) (sortWorld enc w p.block 0 m B os):=n.Xi ho hp hv (D m B os) rfl rfl rfl (J m B os);have K:∀i,gl (G.frozen (σ.del id) (sortWorld enc w p.block 0 m B os) (λ_=>No)) (mB es i) [enc i]:=λi=>⟨(hrep i).1,λj hj H=>rT (λb o hb=>tZ z hb) ((hrep i).2 j hj H) (hpur _ (uM hes i) _ (au _))⟩;have hA:=((K x).append (K y)).append (hcv _ z);have:=oI.RQ hG hGn hGb (hcmp _ (uM hes x) _ (uM hes y)) hA z.RB;have E:([enc x]++[enc y]++cv).toArray=#[enc x,enc y]++cv.toArray:=by simp
  rw[E]at this;exact this
 have eg:∀args w,(callFunc g args).run P w=.ok (.enter g args) w:=λargs w=>by simp only[callFunc,an,run_program,ah,hG,hGn,hGb,aq,j2,ar]
 have main:=Any.slices_SortFunc_eq L enc hone' (λi j=>cf (mB es i) (mB es j)) (hO hes) g cv.toArray p.block 0 c (bf es.length) w eg hC hH I (by rw[s];exact hn);rw[s]at main;refine main.mono ?_;rintro e' w' ⟨rfl,m,os,rfl⟩;obtain⟨⟨va,_,_⟩,_⟩:=UM (hO hes);have M:=L9 (cf:=cf) hes;generalize pdq (α:=Nat) _ _ _ _ _ _ _=d at *;have hdz:d.size=es.length:=by simpa using va
 have hobj:(sortWorld enc w p.block 0 m d os).heap[p.block]?=U (.cells (putCells enc 0 d cs) e (0,0)):=by rw[u];simp only;rw[cZ (by simpa using I),eF,b9 rfl,R];rfl
 have hlen':(rq cf es).length=es.length:=by rw[M];simp[hdz]
 have hok:oc G p (.row e 1 (rq cf es)) (sortWorld enc w p.block 0 m d os).heap[p.block]?:=by
  refine⟨_,hobj,hpz,by simp[putCells,hcsz],by rw[hlen'];exact hcap,λi a7=>?_⟩;have hi2:i<d.size:=by omega
  have E:(rq cf es)[i]=mB es d[i]:=by simp[M]
  refine⟨by rw[E];exact hlen _ (uM hes _),λj hj H=>?_⟩;rw[E]at hj;have hj0:j=0:=by rw[hlen _ (uM hes _)]at hj;omega
  subst hj0;have hval:(putCells enc 0 d cs)[i*1+0]=enc d[i]:=by simp[putCells,hi2]
  rw[hval];have e3:(rq cf es)[i][0]=(mB es d[i])[0]:=by simp only[E]
  rw[e3];exact(hrep d[i]).2 0 hj (by simp)
 obtain⟨hrelN,hfrN⟩:=n.O5 ho hp hv (o':=.row e 1 (rq cf es)) (D m d os) rfl rfl rfl (aY _ _) (J m d os) hok;exact⟨_,.fe [],σ.set id (.row e 1 (rq cf es)),G,rfl,⟨.refl G,.refl _ G,aw _,hfrN⟩,.fe [] [] rfl (λi h=>by simp at h),hrelN,rfl,rfl⟩
def uY(v:Int):List ag:=[.bF (.int .i64 v)]
def bq4 {P:Program} {ρ:eV} (L:SlLaysM.n5 P ρ) {f:FuncId} (hf:ρ.f 5=f) {u:Func} (hS:P.funcs[f]?=U u) (R:(u.name== "runtime.NumGoroutine")=IS) (S:u.body.isNone=IS)
  {e:TypeId} {g:List Int} (hn:g.length<4611686018427387904) {σ:bg} {id:Nat} (V:σ.bT id=U (.row e 1 (g.map uY))) :
  po P f [.ms id 1 0 (g.map uY).length] σ (λv σ'=>v=.fe []/\σ'=σ.set id (.row e 1 ((g.mergeSort λa b=>IT (a<=b)).map uY))):=by
 subst hf;refine po.CY hS R S ?_;intro G vs w l n;obtain⟨u1,vs1,rfl,s,l⟩:=l.cons_inv;obtain rfl:=l.s_;by_cases hes:g=[]
 .
  subst hes;have H:∀i,(σ.set id (.row e 1 [])).bT i=σ.bT i:=λi=>by grind[bg.l1]
  obtain⟨q,c,rfl⟩:∃(q:Option Addr) (c:Nat),u1=.slice q 0 c:=by
   cases s with
   |ms _ _ _ _ p hp hv hz' a c ha hoff hl hsp=>exact⟨U a,c,rfl⟩
   |n4 _ _ p hp hv=>exact⟨No,0,rfl⟩
  refine(AnyM.slices_Sort_int_none L q c w).mono ?_;rintro e' w' ⟨rfl,rfl⟩;refine⟨_,.fe [],σ.set id (.row e 1 []),G,rfl,⟨.refl G,.refl _ G,aw _,Fr.less (λi o h=>by rw[<-H i];exact h)⟩,.fe [] [] rfl (λi h=>by simp at h),n.less rfl (λi o h=>by rw[<-H i];exact h),rfl,by simp⟩
 have I:0<g.length:=da.2 hes;obtain⟨p,hp,hv,c,rfl,hc⟩:∃p,G.pl id=U p/\p.mF=IS/\∃c,u1=.slice (U ⟨p.block,0,No⟩) g.length c/\g.length<=c:=by
  rw[aF]at s;generalize hl0:g.length=n0 at s I;cases s with
  |ms _ _ _ _ p hp hv hz' a c ha hoff hl hsp=>grind
  |n4 _ _ p hp hv=>omega
 obtain⟨him,hw0,cs,hcs,hpz,J,K,z⟩:=n.real V hp hv;have t:p.block<w.heap.size:=n.ta V hp hv;rw[aF]at K;have B:∀i,i<g.length->i<cs.size:=λi a7=>by omega
 have hcell:∀i (a7:i<g.length),cs[i]'(B i a7)=.int .i64 g[i]:=λi a7=>by obtain⟨r1,r2⟩:=z i (by simpa using a7);have:=r2 0 (by simp[uY]) (by simpa using B i a7);simp[uY]at this;generalize cs[i]'(B i a7)=q at this;cases this;rfl
 have hH:Holds (bG .i64) w p.block 0 g.toArray:=by
  intro j hj
  grind[gQ,aZ,iz]
 refine(calls_of_every_depth λD=>AnySM.slices_Sort_int_in L D p.block 0 c g w hH t hn).mono ?_;rintro e' w' ⟨rfl,m,os,rfl⟩;generalize pJ:(g.mergeSort λx y=>IT (x<=y))=d;have hdz:d.length=g.length:=by grind[List.length_mergeSort]
 have r:grow (putRow (bG .i64) (gD w m) p.block 0 d.toArray) os={ w with drawn:=w.drawn+m,heap:=w.heap.modify p.block (onCells (putCells (bG .i64) 0 d.toArray))++os }:=rfl;have M:∀k,k<w.heap.size->k≠p.block->(grow (putRow (bG .i64) (gD w m) p.block 0 d.toArray) os).heap[k]?=w.heap[k]?:=λk hk hne=>by grind
 have C:w.heap.size<=(grow (putRow (bG .i64) (gD w m) p.block 0 d.toArray) os).heap.size:=by rw[r];simp
 have N:(grow (putRow (bG .i64) (gD w m) p.block 0 d.toArray) os).heap[p.block]?=U (.cells (putCells (bG .i64) 0 d.toArray cs) e (0,0)):=by rw[r];simp only;rw[cZ (by simpa using t),eF,b9 rfl,hcs];rfl
 have hok:oc G p (.row e 1 (d.map uY)) (grow (putRow (bG .i64) (gD w m) p.block 0 d.toArray) os).heap[p.block]?:=by
  refine⟨_,N,hpz,by simp[putCells,J],by grind,λi a7=>?_⟩;have hi2:i<d.length:=by simpa using a7
  refine⟨by simp[uY],λj hj hj'=>?_⟩;have hj0:j=0:=by simp[uY]at hj;omega
  subst hj0;have O:(putCells (bG .i64) 0 d.toArray cs)[i*1+0]=.int .i64 d[i]:=by simp[putCells,hi2]
  rw[O];simp only[cK,uY,List.getElem_cons_zero];exact .bF _
 obtain⟨E,Q⟩:=n.O5 V hp hv (o':=.row e 1 (d.map uY)) C rfl rfl rfl (aY _ _) M hok;exact⟨_,.fe [],σ.set id (.row e 1 (d.map uY)),G,rfl,⟨.refl G,.refl _ G,aw _,Q⟩,.fe [] [] rfl (λi h=>by simp at h),E,rfl,rfl⟩
open Go
def LX {P:Program} {T:dd} (ca:mc P T) {f:FuncId} {fn:Func} {t elem:TypeId} {z b:Nat} {l:bl} (hf:P.funcs[f]?=U fn) (g:(fn.name== "runtime.NumGoroutine")=IS) (q:CR fn t=IN) (E:fn.resultTypes.toList=[t])
  (h1:(T t).map mL.fT=U (.slice elem)) (h2:(T elem).map mL.size=U z) (G:(T elem).map mL.bytes=U b) (hz:0<z) (hl:∀v:l.T,(e8 l v).length=z/\∀d∈e8 l v,ag.one d=IN) {x r:List l.T}
  (b1:(2*x.length+1000)*b<=2^48) (I:x.length<=2^62) (J:r=x):CK P f (e8 (.one (.ft l)) x) (enc (.ft l) r):=by
 subst J;refine⟨r.map (e8 l),rfl,λK s n e ti m h u w H hu o σ=>?_⟩;have M:s=fn:=aQ (u.symm.trans hf);subst M;have N:n=t:=by grind
 subst N;cases B:T n with
 |none=>rw[B]at h1;cases h1
 |some p=>
 rw[B]at h1;have O:p.fT=.slice elem:=aQ h1;have Q:e=elem:=by
  have a:=h.fT n ti H;have c:=ca.fT n p B
  grind
 subst Q;cases C:T e with
 |none=>rw[C]at h2;cases h2
 |some k=>
 rw[C]at h2 G;have s2:k.size=z:=aQ h2;have R:k.bytes=b:=aQ G;obtain⟨i,i1,i2,i3,_⟩:=h.info e m o;obtain⟨j,S,V,j3,_⟩:=ca.info e k C;have e3:i=j:=aQ (i1.symm.trans S);subst e3;have ni:m.size=z:=by rw[<-i2,V,s2]
 have z2:m.bytes=b:=by rw[<-i3,j3,R]
 have ha:J1 K n [.rs (r.map (e8 l))] σ=U (.ms (σ.next+5) m.size 0 (r.map (e8 l)).length,({ σ with next:=σ.next+7 }:bg).set (σ.next+5) (.row e m.size (r.map (e8 l)))):=by
  obtain⟨fT,size,zero,bytes,flat⟩:=ti;have D:fT=.slice e:=hu;subst D;have hc:((r.map (e8 l)).all λc=>c.length==m.size&&c.all ag.one)=IN:=ak.2 λc hc=>by grind
  simp only[J1,H,o,nV];rw[b9 ⟨hc,by grind,by rw[aF];exact I,by rw[ni];exact hz⟩];have hn:(ag.rs (r.map (e8 l))).isNil≠U IN:=by cases r<;>simp[ag.isNil]
  grind
 exact(bg4 h hf g (bh1 q) ha).1
end Go.Ab
namespace Go.Ab
open Go Go.Sort Go.Proofs Go.Shelf
abbrev d':dr:=.int .i64
def Dm:List Int->Option (List Int):=λx=>la 8 [] x
def Dn:List (Int×Int)->Option (List (Int×Int)):=λx=>la 16 [] x
def DF:List (Int×Int×Int)->Option (List (Int×Int×Int)):=λx=>la 24 [] x
def yk(a:Int):List Int->List Int
 | []=>[a]
 |b::l=>bif IT (a<=b)then a::b::l else b::yk a l
def uG:List Int->List Int
 | []=>[]
 |a::l=>yk a (uG l)
def HB(a:Int):∀l,(yk a l).Perm (a::l)
 | []=>.refl _
 |b::l=>by
  unfold yk;cases IT (a<=b)with
  |true=>exact .refl _
  |false=>exact((HB a l).cons b).trans (.swap a b l)
def Sy(a:Int):∀l:List Int,l.Pairwise (·<=·)->(yk a l).Pairwise (·<=·)
 | [],_=>by simp[yk]
 |b::l,h=>by
  unfold yk;cases hc:IT (a<=b)with
  |true=>rw[gb]at hc;exact .cons (λx c=>by rcases aI.1 c with rfl|c;exact hc;exact Int.le_trans hc (il h c)) h
  |false=>
   rw[nu]at hc;refine .cons (λx c=>?_) (Sy a l h.of_cons);rcases aI.1 ((HB a l).mem_iff.1 c)with rfl|c
   .omega
   exact il h c
def Ig(l:List Int):uG l=l.mergeSort λa b=>IT (a<=b):=by
 have hp:(uG l).Perm l:=by
  induction l with
  |nil=>exact .refl _
  |cons a l d=>exact(HB a _).trans (d.cons a)
 have hs:(uG l).Pairwise (·<=·):=by
  clear hp
  induction l with
  |nil=>exact .nil
  |cons a l d=>exact Sy a _ d
 refine List.Perm.eq_of_pairwise (le:=(·<=·)) (λa b _ _ h1 h2=>Int.le_antisymm h1 h2) hs ?_ (hp.trans (List.mergeSort_perm _ _).symm);exact(List.pairwise_mergeSort (le:=λa b:Int=>IT (a<=b)) (λa b c h1 h2=>by simp at *;omega) (λa b=>by simp;omega) l).imp λh=>by simpa using h
def vO:List Int×Int->Option (List Int):=λx=>bif IT (x.2=1)&&IT (x.1.length<4611686018427387904)then U (uG x.1)else No
abbrev ov:=(List (Int×Int×Int)×List (Int×Int×Int×List (Int×Int)×Int×Int)×List (Int)×List (Int×Int×Int×ByteArray×List (Int)))
abbrev oE:=(List (Int×Int×Int)×List (Int×Int×Int×List (Int×Int)×Int×Int)×List (Int))
abbrev vq:=List (Int×Int×Int×List (Int×Int)×Int×Int)
abbrev sO:=List (Int×Int×Int×ByteArray×List (Int))
abbrev pS:=(Int×List (Int)×List (List (Int))×List (Int))
abbrev Ak:=List (Int×List (Int×Int))
abbrev D_:=(Int×Int×Int×List (Int×Int)×Int×Int)
abbrev tt:=(Int×Int×Int×ByteArray×List (Int))
abbrev ma:=List (Int×Int)
def yn:ByteArray:=dj #[0,1,2,2,3,3,3,3,4,4,4,4,4,4,4,4,5,5,5,5,5,5,5,5,5,5,5,5,5,5,5,5,6,6,6,6,6,6,6,6,6,6,6,6,6,6,6,6,6,6,6,6,6,6,6,6,6,6,6,6,6,6,6,6,7,7,7,7,7,7,7,7,7,7,7,7,7,7,7,7,7,7,7,7,7,7,7,7,7,7,7,7,7,7,7,7,7,7,7,7,7,7,7,7,7,7,7,7,7,7,7,7,7,7,7,7,7,7,7,7,7,7,7,7,7,7,7,7,8,8,8,8,8,8,8,8,8,8,8,8,8,8,8,8,8,8,8,8,8,8,8,8,8,8,8,8,8,8,8,8,8,8,8,8,8,8,8,8,8,8,8,8,8,8,8,8,8,8,8,8,8,8,8,8,8,8,8,8,8,8,8,8,8,8,8,8,8,8,8,8,8,8,8,8,8,8,8,8,8,8,8,8,8,8,8,8,8,8,8,8,8,8,8,8,8,8,8,8,8,8,8,8,8,8,8,8,8,8,8,8,8,8,8,8,8,8,8,8,8,8,8,8,8,8,8,8]
def nN{α:Type}(r:α)(es:List α)(i:Nat):α:=(es[i]?).getD r
def nG{α:Type}(cf:α->α->Int):List α->List α
 | []=>[]
 |r::l=>((pdq (ltOf (λi j=>cf (nN r (r::l) i) (nN r (r::l) j))) (bf (r::l).length) 0 (r::l).length (eU (r::l).length) IN IN).toList).map (nN r (r::l))
def Ordered{α:Type}(cf:α->α->Int):List α->Prop
 | []=>True
 |r::l=>SWO (ltOf (λi j=>cf (nN r (r::l) i) (nN r (r::l) j)))
def Bb{α:Type}{r:α}{l:List α}(i:Nat):nN r (r::l) i∈r::l:=by
 unfold nN;cases h:(r::l)[i]? with
 |none=>simp
 |some x=>exact aJ h
def zU{α:Type}(cf:α->α->Int)(xs:List α):Bool :=xs.all λx=>!decide (cf x x<0)&&xs.all λy=>xs.all λz=>(!(IT (cf x y<0)&&IT (cf y z<0))||IT (cf x z<0))&&(!(!decide (cf x y<0)&&!decide (cf y z<0))||!decide (cf x z<0))
def UL{α:Type}{cf:α->α->Int}:∀ {xs:List α},zU cf xs=IN↔Ordered cf xs
 | []=>by simp[zU,Ordered]
 |r::l=>by
  have d:∀x∈r::l,∃i,nN r (r::l) i=x:=λx e=>by obtain⟨i,a7,rfl⟩:=aH e;exact⟨i,by rw[nN,ae a7];rfl⟩
  constructor
  .intro h
   simp only[zU,ak,ab]at h;refine⟨λi=>?_,λi j k a b=>?_,λi j k a b=>?_⟩
   .have:=(h _ (Bb i)).1
    simpa[ltOf]using this
   .have:=((h _ (Bb i)).2 _ (Bb j) _ (Bb k)).1
    simp only[ltOf]at a b⊢;rw[a,b]at this;simpa using this
   have:=((h _ (Bb i)).2 _ (Bb j) _ (Bb k)).2;simp only[ltOf]at a b⊢;rw[a,b]at this;simpa using this
  intro h;simp only[zU,ak,ab];intro x e;obtain⟨i,rfl⟩:=d x e;obtain⟨s1,s2,g⟩:=h;refine⟨by have:=s1 i;simpa[ltOf]using this,λy m z hz=>?_⟩;obtain⟨j,rfl⟩:=d y m;obtain⟨k,rfl⟩:=d z hz;have h2:=s2 i j k;have f:=g i j k;simp only[ltOf]at h2 f;generalize IT (cf (nN r (r::l) i) (nN r (r::l) j)<0)=a at *;generalize IT (cf (nN r (r::l) j) (nN r (r::l) k)<0)=b at *;generalize IT (cf (nN r (r::l) i) (nN r (r::l) k)<0)=c at *;revert h2 f;cases a<;>cases b<;>cases c<;>simp
def pT{α:Type}(cmp:α->α->Option Int)(xs:List α):Option (List α) :=bif (xs.all λx=>xs.all λy=>(cmp x y).isSome)&&(zU (λx y=>(cmp x y).getD 0) xs&&IT (xs.length<4611686018427387904))then U (nG (λx y=>(cmp x y).getD 0) xs)else No
def aW6{α:Type}{cmp:α->α->Option Int}{xs r:List α}(h:pT cmp xs=U r):((∀x∈xs,∀y∈xs,(cmp x y).isSome=IN)/\Ordered (λx y=>(cmp x y).getD 0) xs/\xs.length<4611686018427387904)/\r=nG (λx y=>(cmp x y).getD 0) xs:=by
 unfold pT at h;cases hc:(xs.all λx=>xs.all λy=>(cmp x y).isSome)&&(zU (λx y=>(cmp x y).getD 0) xs&&IT (xs.length<4611686018427387904))with
 |false=>rw[hc]at h;cases h
 |true=>rw[hc]at h;simp only[ab,ak,gb,UL]at hc;cases h;exact⟨hc,rfl⟩
def bs0{α:Type}{cmp:α->α->Option Int}{xs:List α}(h1:∀x∈xs,∀y∈xs,(cmp x y).isSome=IN)(h2:Ordered (λx y=>(cmp x y).getD 0) xs)(a:xs.length<4611686018427387904):pT cmp xs=U (nG (λx y=>(cmp x y).getD 0) xs):=by
 unfold pT;have hc:((xs.all λx=>xs.all λy=>(cmp x y).isSome)&&(zU (λx y=>(cmp x y).getD 0) xs&&IT (xs.length<4611686018427387904)))=IN:=by simp only[ab,ak,gb,UL];exact⟨h1,h2,a⟩
 rw[hc];rfl
noncomputable def strings_Contains:ByteArray×ByteArray->Option (Bool):=λx=>bif IT (x.1.size<4294967281)then U (Lib.contains x.1.data.toList x.2.data.toList)else No
def RP:Option (Int×Int×Int×Int×Int×Int×Int×Int×Int×Int×Int×Int×Int×Int×Int×Int×Int×Int×Int×Int×Int×Int×Int×Int×Int×Int×Int×Int×Int×Int×Int×Int×Int×Int×Int×Int×Int×Int×Int):=U (32,32,0,39,41,0,45,46,0,48,57,0,65,90,1,97,122,1,192,214,1,216,246,1,248,591,1,880,1023,2,1024,1279,3,1488,1514,4,19968,40959,5)
end Go.Ab
