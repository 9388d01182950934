/- A part of the proof; its readable source lies in wip of the prover's repo (squeezed here for the limit of bytes). -/
import Derived.Test.YtgahoiioknakhaaGreatDoorMb
import Derived.HandedShaped
import Derived.OpenShut
import Derived.MakeChecks
import Derived.Shelf.Vars
import Derived.Shelf.SlSortCmp.NoneTotal
import Derived.Sort.EveryDepth
import Derived.Shelf.SortM.AssemblyIn
import Derived.Shelf.SortM.SortNone
import Derived.Lib.IndexMore
import Derived.Shelf.Strings.Search3
set_option linter.all false
open Array renaming getElem?_append_left->dy,getElem?_modify->fD,range->bA
open BitVec renaming ofInt->aW
open Bool renaming and_eq_true->ab,false_eq_true->aF,not_eq_true'->dt,or_eq_true->bx,true->Y,false->U
open ByteArray renaming mk->bU
open Decidable renaming decide->No
open Go renaming sizeOf->lK
open Go.Act renaming put->jx
open Go.ChangeSpec renaming post_blind->mH
open Go.DataW.Whole renaming of_heap->mB
open Go.Frame renaming enter->lV
open Go.IntKind renaming i32->lE,i64->du,u64->ak,u8->fu,wrap->an
open Go.Lib renaming bitLen->eK
open Go.MakeChecks renaming laidMetH_plain->mI
open Go.OpenSpec renaming ofChange->jO
open Go.Proofs.AnyF renaming slices_SortFunc_none->jn
open Go.Proofs.SlLaysF renaming n6->lL
open Go.Proofs.SlLaysF0 renaming n6->lp
open Go.Proofs.SlLaysM renaming n5->lM
open Go.Result renaming andThen_ok->ao
open Go.Sem renaming run_bind->ax,run_pure->bd
open Go.Shelf renaming Ren->e_
open Go.Sort renaming ahead->iB
open Go.Utf8 renaming decode->cg
open Go.Value renaming int->bK,okWide->gZ
open Go.Value.bool renaming injEq->jE
open Go.Value.func renaming injEq->mJ
open Go.Value.int renaming injEq->gx
open Go.Value.string renaming injEq->mh
open Go.World renaming cell?->im,frozen?->jy
open List renaming all_cons->bE,all_eq_true->aj,cons_append->cV,drop_drop->gD,drop_eq_getElem_cons->bJ,drop_eq_nil_of_le->fq,drop_length->gX,drop_succ_cons->hJ,ext_getElem?->dU,find?_isSome->kP,foldl->bf,getD_eq_getElem?_getD->dA,getElem?_eq_getElem->af,getElem?_eq_none->bB,getElem?_eq_some_iff->aq,getElem?_map->aS,getElem?_set->dx,getElem_map->cK,getElem_mem->au,getElem_of_mem->bk,head?->gg,head?_drop->eA,length->aa,length_append->aL,length_map->aI,length_mergeSort->jP,length_pos_iff->dB,map->cD,map_congr_left->cw,map_cons->aD,map_map->de,mem_cons->aG,mem_map->aN,mem_of_getElem?->aH,mem_singleton->bz,range->aT,rel_of_pairwise_cons->jo,replicate->cC,take_append_drop->dJ,take_succ_cons->gk
open List.Pairwise renaming nil->jY
open List.Perm renaming refl->kp
open List.cons renaming inj->kK,injEq->cW
open Nat renaming add_left_cancel->iX,add_mul->cG,beq->aw,beq_refl->fL,ble->dI,blt->cL,blt_eq->bP,eq_of_beq_eq_true->ae,le_add_right->aZ,le_of_ble_eq_true->a_,le_of_not_lt->ll,le_refl->ay,le_trans->bD,lt_of_lt_of_le->gH,lt_or_ge->cU,mod_lt->eZ,mul_add->mz,mul_assoc->lU,mul_comm->fY,not_lt->iG,one_mul->kE,zero_add->bj,zero_le->di
open Option renaming getD_some->bM,map_none->d_,map_some->ai,some->Z,none->W
open Option.some renaming inj->aJ,injEq->ah
open Prod renaming ext->fC
open Prod.mk renaming injEq->iq
namespace Go.Ab
noncomputable section
open Go
variable [nO]
variable {K:dn}{b:Bool}{c:bX}{ck:nW}{el:TypeId}{g:K.T->eD}{i ix:bX}{j m n off:Nat}{p:bX}{Γ:cu dn}{r:yg Γ}{s:dn}{t:TypeId}{u x:bX}{z:Nat}
def uK:(l:dr)->dv (l.T->eD)
 | .one (.int .i64)=>Z λa=>[a]
 | .cons (.int .i64) l=>match uK l with
  |some g=>Z λa=>a.1::g a.2
  |none=>W
 |_=>W
theorem KU:∀(l:dr) (g:l.T->eD),uK l=Z g->∀x,bX.vf (a6 l x)=Z (g x)/\aa (g x)=l.len
 | .nil,g,h=>by simp[uK]at h
 | .one s,g,h=>by
  cases s with
  |int k=>
   cases k<;>simp only[uK]at h<;>try (cases h;done)
   cases h;exact λx=>⟨rfl,rfl⟩
  |_=>simp[uK]at h
 | .cons s l,g,h=>by
  cases s with
  |int k=>
   cases k<;>simp only[uK]at h<;>try (cases h;done)
   split at h;rename_i a b;cases h;intro x;have:=KU l a b x.2;exact⟨by simp only[a6,enc,bX.vf,this.1],by simp[dr.len,this.2]⟩;cases h
  |_=>simp[uK]at h
def sx:(K:dn)->dv (Bool×(K.T->eD))
 | .int .i64=>Z (U,λn=>[n])
 | .agg l=>match uK l with
  |some g=>Z (Y,g)
  |none=>W
 |_=>W
def Dq:(K:dn)->dv (K.T->K.T->Bool)
 | .int .i64=>Z λa b=>No (a=b)
 | .agg l=>xb l
 |_=>W
def Ca(h:sx K=Z (b,g))(x:K.T):(enc K x).key=Z (b,g x):=by cases K<;>grind[sx,enc,bX.key,KU]
def aC6:∀(l:dr) (g:l.T->eD) (q:l.T->l.T->Bool),uK l=Z g->xb l=Z q->∀a b,(g a==g b)=q a b
 | .nil,g,q,h,_=>by simp[uK]at h
 | .one s,g,q,h,h2=>by
  cases s with
  |int k=>
   cases k<;>simp only[uK]at h<;>try (cases h;done)
   cases h2
   grind
  |_=>simp[uK]at h
 | .cons s l,g,q,h,h2=>by
  cases s with
  |int k=>
   cases k<;>simp only[uK]at h<;>try (cases h;done)
   split at h;rename_i c d;simp only[xb]at h2;split at h2;rename_i e f;cases h2;intro a b;have:=aC6 l c e d f a.2 b.2
   grind
   cases h2;cases h
  |_=>simp[uK]at h
def TK{q:K.T->K.T->Bool}(h:sx K=Z (b,g))(h2:Dq K=Z q)(x y:K.T):tl b (g x) (g y)=q x y:=by
 cases K with
 |int k=>grind[sx,Dq,tl]
 |agg l =>simp only[sx]at h;split at h;rename_i c a;cases h;exact aC6 l _ q a h2 x y;cases h
 |_=>simp[sx]at h
def fh{K V:Type}(q:K->K->Bool)(k:K):cu (K×V)->dv V
 | []=>W
 |p::C=>cond (q k p.1) (Z p.2) <|fh q k C
def wC{K V:Type}(q:K->K->Bool)(k:K)(v:V):cu (K×V)->cu (K×V)
 | []=>[(k,v)]
 |p::C=>cond (q k p.1) ((k,v)::C) <|p::wC q k v C
section
variable {K V:dn} {b:Bool} {g:K.T->eD} {q:K.T->K.T->Bool}
def O9(hk:sx K=Z (b,g))(j:Nat)(p:K.T×V.T):oW j (a6 (.cons K (.one V)) p)=(g p.1,enc V p.2,j):=by simp only[a6,oW,Ca hk]
def QF(hk:sx K=Z (b,g))(a:Dq K=Z q)(k:K.T):∀(C:cu (K.T×V.T)) (j i:Nat),(nX b (g k) (nT j (C.map (a6 (.cons K (.one V))))) i).map (·.2)=(fh q k C).map (enc V)
 | [],j,i=>rfl
 |p::C,j,i=>by
  have c:=QF hk a k C (j+1) (i+1);simp only[aD,nT,O9 hk,nX,TK hk a,fh];cases q k p.1 with
  |true=>rfl
  |false=>simpa using c
def Yi(hk:sx K=Z (b,g))(a:Dq K=Z q)(k:K.T)(v:V.T):∀C:cu (K.T×V.T),tf (enc K k) (enc V v) b (g k) (C.map (a6 (.cons K (.one V))))=(wC q k v C).map (a6 (.cons K (.one V)))
 | []=>by simp[tf,wC,a6]
 |p::C=>by
  have c:=Yi hk a k v C;simp only[aD,tf,KV,O9 hk,TK hk a,wC];cases q k p.1 with
  |true=>simp[a6]
  |false=>simp[c]
theorem Qa(hk:sx K=Z (b,g))(C:cu (K.T×V.T)):rZ (C.map (a6 (.cons K (.one V))))=b\/C=[]:=by cases C;exact .inr rfl;simp[rZ,a6,Ca hk]
def av1(hk:sx K=Z (b,g))(a:∀x,aa (g x)=n):∀(C:cu (K.T×V.T)) (j:Nat),((nT j (C.map (a6 (.cons K (.one V))))).all λe=>aa e.1==n)=Y
 | [],_=>rfl
 |p::C,j=>by simp only[aD,nT,O9 hk,bE,a,beq_self_eq_true];exact av1 hk a C (j+1)
def bW1(hk:sx K=Z (b,g))(C:cu (K.T×V.T)):((C.map (a6 (.cons K (.one V)))).all vO)=Y:=by simp[vO,a6,Ca hk]
end
def FJ(T:bY)(a:TypeId):dn->Bool
 | .int .i64=>match T a with
  |some { j4:=.int _,.. }=>Y
  |_=>U
 | .agg l=>match T a with
  |some ti=>match ti.flat with
   |some n=>aw n l.len
   |none=>U
  |none=>U
 |_=>U
def JP{T:bY}{a:TypeId}{V:dn}(h:sx K=Z (b,g))(hf:FJ T a K=Y)(k:K.T)(C:cu (K.T×V.T))(j:Nat):tS T a b (g k) (nT j (C.map (a6 (.cons K (.one V)))))=Y:=by
 cases K with
 |int m=>grind[sx,FJ,tS]
 |agg l =>have d:=h;simp only[sx]at h;split at h;rename_i o c;cases h;simp only[FJ]at hf;split at hf;rename_i ti e;split at hf;rename_i n f;have i:=ae hf;simp only[tS,e,f,i,(KU l g c k).2,beq_self_eq_true];exact av1 d (λx=>(KU l g c x).2) C j;cases hf;cases hf;cases h
 |_=>simp[sx]at h
mutual
def rf:bX->(s:dn)->dv s.T
 | .b4 v,s=>KL v s
 | .agg cs,.agg l=>wk cs l
 |_,_=>W
def wk:eX->(l:dr)->dv l.T
 | [],.nil=>Z ()
 | [a],.one s=>rf a s
 |a::az,.cons s l=>match rf a s with
  |some x=>match wk az l with
   |some y=>Z (x,y)
   |none=>W
  |none=>W
 |_,_=>W
end
mutual
theorem Ac:∀(a:bX) (s:dn) (x:s.T),rf a s=Z x->a=enc s x
 | .b4 v,s,x,h=>by simp only[rf]at h;exact R2 h
 | .agg cs,s,x,h=>by
  cases s<;>simp only[rf]at h<;>try (cases h;done)
  simp only[enc,P1 cs _ _ h]
 | .any,s,x,h=>by cases s<;>simp only[rf]at h<;>cases h
 | .rs _,s,x,h=>by cases s<;>simp only[rf]at h<;>cases h
 | .fT _,s,x,h=>by cases s<;>simp only[rf]at h<;>cases h
 | .ms _ _ _ _,s,x,h=>by cases s<;>simp only[rf]at h<;>cases h
 | .mp _ _ _,s,x,h=>by cases s<;>simp only[rf]at h<;>cases h
 | .mm _,s,x,h=>by cases s<;>simp only[rf]at h<;>cases h
 | .it _,s,x,h=>by cases s<;>simp only[rf]at h<;>cases h
 | .fn _ _ _,s,x,h=>by cases s<;>simp only[rf]at h<;>cases h
 | .ed _,s,x,h=>by cases s<;>simp only[rf]at h<;>cases h
 | .ey _,s,x,h=>by cases s<;>simp only[rf]at h<;>cases h
 | .c8 _ _ _,s,x,h=>by cases s<;>simp only[rf]at h<;>cases h
 | .l3 _ _ _,s,x,h=>by cases s<;>simp only[rf]at h<;>cases h
 | .mY _,s,x,h=>by cases s<;>simp only[rf]at h<;>cases h
theorem P1:∀(az:eX) (l:dr) (x:l.T),wk az l=Z x->az=a6 l x
 | [],l,x,h=>by(cases l<;>simp only[wk]at h<;>try (cases h;done));rfl
 | [a],l,x,h=>by
  cases l with
  |nil=>simp only[wk]at h;cases h
  |one s=>simp only[wk]at h;simp only[a6];rw[Ac a s x h]
  |cons s l =>simp only[wk]at h;split at h;rename_i y c;split at h;rename_i z hz;cases h;have:=P1 [] l z (by simpa only[wk]using hz);simp only[a6];rw[Ac a s y c,<-this];cases h;cases h
 |a::b::az,l,x,h=>by
  cases l with
  |nil=>simp only[wk]at h;cases h
  |one s=>simp only[wk]at h;cases h
  |cons s l =>simp only[wk]at h;split at h;rename_i y c;split at h;rename_i z hz;cases h;simp only[a6];rw[Ac a s y c,<-P1 (b::az) l z hz];cases h;cases h
end
def oD{α:Type}:dv α->dv α->dv α
 |some a,_=>Z a
 |none,z=>z
def KQ(T:bY)(Γ:cu dn)(t:TypeId)(ix:bX)(ok:Bool)(K V:dn)(a:Env Γ->cu (K.T×V.T)):dv (yg Γ):=match T t with
 |some { j4:=.map d f,.. }=>match T f with
  |some b=>match sx K with
   |some _=>match Dq K with
    |some q=>match FJ T d K with
     |true=>match qy Γ ix K with
      |some c=>match ok with
       |false=>Z ⟨V,λe=>oD (fh q (c e) (a e)) (rf b.x_ V)⟩
       |true=>Z ⟨.ed (.cons V (.one .bool)),λe=>match fh q (c e) (a e)with
        |some v=>Z (v,Y)
        |none=>match rf b.x_ V with
         |some z=>Z (z,U)
         |none=>W⟩
      |none=>W
     |false=>W
    |none=>W
   |none=>W
  |none=>W
 |_=>W
def ar6{m:dv (Nat×bX)}{V:dn}{o:dv V.T}{z:bX}{ok:Bool}{w:bX}(h:m.map (·.2)=o.map (enc V))
  (hs:∀v,o=Z v->w=(ite ok (.ed [enc V v,.b4 (.bool Y)]) <|enc V v)) (a:o=W->w=(ite ok (.ed [z,.b4 (.bool U)]) z)) :
  Z (ite (ok=Y) (bX.ed [(match m with|some (_,c)=>(c,Y)|none=>(z,U)).1,.b4 (.bool (match m with|some (_,c)=>(c,Y)|none=>(z,U)).2)]) (match m with|some (_,c)=>(c,Y)|none=>(z,U)).1)=Z w:=by
 cases m with
 |none=>cases o with
  |none=>rw[a rfl]
  |some v=>cases h
 |some p=>cases o with
  |none=>cases h
  |some v=>grind
def bn3(T:bY)(Γ:cu dn)(t:TypeId)(c ix:bX):dv dn:=match oa Γ c with
 |some s=>Z s
 |none=>match T t,oa Γ ix with
  |some { j4:=.map _ a,.. },Z K=>match T a with
   |some b=>match b.x_ with
    | .b4 (.bool _)=>Z (.hF (.cons K (.one .bool)))
    | .b4 (.int k _)=>Z (.hF (.cons K (.one (.int k))))
    |_=>W
   |none=>W
  |_,_=>W
def LO(T:bY)(Γ:cu dn)(t:TypeId)(c ix:bX)(ok:Bool):dv (yg Γ):=match bn3 T Γ t c ix with
 |some (.hF (.cons K (.one V)))=>match qy Γ c (.hF (.cons K (.one V)))with
  |some a=>KQ T Γ t ix ok K V a
  |none=>W
 |_=>W
def Q4(T:bY)(Γ:cu dn)(t:TypeId)(c ix:bX)(ok:Bool):dv (yg Γ):=match oa Γ c with
 |some (.rH (.cons K (.one V)))=>match qy Γ c (.rH (.cons K (.one V)))with
  |some a=>KQ T Γ t ix ok K V a
  |none=>W
 |_=>W
def aO1{T:bY}{Φ:lv}{ok:Bool}(h:LO T Γ t c ix ok=Z r):r.Ok T Φ (.look t c ix ok):=by
 intro e v hv;unfold LO at h;split at h;rename_i K V _;split at h;rename_i a f;unfold KQ at h;split at h;rename_i m u _ _ _ _ n;split at h;rename_i x i;split at h;rename_i o hk;let ⟨b,g⟩:=o;split at h;rename_i q p;split at h;rename_i hf;split at h;rename_i l j;have hc:c.sub (re Γ e)=.rs ((a e).map (a6 (.cons K (.one V)))):=vT _ _ _ f e;have k:=vT _ _ _ j e;have qJ:(tm (.rs ((a e).map (a6 (.cons K (.one V)))))).bF 0=Z (qY (.rs ((a e).map (a6 (.cons K (.one V)))))):=by simp[tm,bg.x9]
 have s:∀es,rowsOf (.rs es)=es:=λ_=>rfl;have d:(rZ ((a e).map (a6 (.cons K (.one V))))=b\/(nT 0 ((a e).map (a6 (.cons K (.one V))))).isEmpty=Y)/\tS T m b (g (l e)) (nT 0 ((a e).map (a6 (.cons K (.one V)))))=Y:=by
  refine⟨?_,JP hk hf _ _ _⟩;rcases Qa (V:=V) hk (a e)with h1|h1
  exact .inl h1;rw[h1];right;rfl
 simp only[iv,hc,k,qk,n,Ca hk,i,qJ,qY,s];rw[cr d];refine ar6 (QF (V:=V) hk p (l e) (a e) 0 0) (λw hl=>?_) (λhl=>?_);cases ok;cases h;simp only[hl]at hv;cases hv;rfl;cases h;simp only[hl]at hv;cases hv;rfl;cases ok;cases h;simp only[hl]at hv;exact(Ac _ _ _ hv).symm;cases h
 grind[enc,a6,Ac]
 cases h;cases h;cases h;cases h;cases h;cases h;cases h;cases h
def cd5{T:bY}{Φ:lv}{ok:Bool}(h:Q4 T Γ t c ix ok=Z r):r.Ok T Φ (.xS t c ix ok):=by
 intro e v hv;unfold Q4 at h;split at h;rename_i K V _;split at h;rename_i a f;unfold KQ at h;split at h;rename_i m s _ _ _ _ n;split at h;rename_i u i;split at h;rename_i o hk;let ⟨b,g⟩:=o;split at h;rename_i q p;split at h;rename_i hf;split at h;rename_i l j;have hc:c.sub (re Γ e)=.mY (.rs ((a e).map (a6 (.cons K (.one V))))):=vT _ _ _ f e;have k:=vT _ _ _ j e;have d:(rZ ((a e).map (a6 (.cons K (.one V))))=b\/((a e).map (a6 (.cons K (.one V)))).isEmpty=Y)/\tS T m b (g (l e)) (nT 0 ((a e).map (a6 (.cons K (.one V)))))=Y/\((a e).map (a6 (.cons K (.one V)))).all vO=Y:=by
  refine⟨?_,JP hk hf _ _ _,bW1 hk _⟩
  grind[Qa]
 simp only[iv,hc,k,qk,n,Ca hk,i];rw[cr d];refine ar6 (QF (V:=V) hk p (l e) (a e) 0 0) (λw hl=>?_) (λhl=>?_);cases ok;cases h;simp only[hl]at hv;cases hv;rfl;cases h;simp only[hl]at hv;cases hv;rfl;cases ok;cases h;simp only[hl]at hv;exact(Ac _ _ _ hv).symm;cases h
 grind[enc,a6,Ac]
 cases h;cases h;cases h;cases h;cases h;cases h;cases h;cases h
def LI(T:bY)(Γ:cu dn)(t:TypeId)(c ix v:bX):dv (yg Γ):=match T t with
 |some { j4:=.map a _,.. }=>match oa Γ ix with
  |some K=>match oa Γ v with
   |some V=>match sx K with
    |some _=>match Dq K with
     |some q=>match FJ T a K with
      |true=>match qy Γ c (.hF (.cons K (.one V)))with
       |some b=>match qy Γ ix K with
        |some d=>match qy Γ v V with
         |some fv=>Z ⟨.hF (.cons K (.one V)),λe=>Z (wC q (d e) (fv e) (b e))⟩
         |none=>W
        |none=>W
       |none=>W
      |false=>W
     |none=>W
    |none=>W
   |none=>W
  |none=>W
 |_=>W
def aN7{T:bY}{Φ:lv}(h:LI T Γ t c ix u=Z r):r.Ok T Φ (.qe t c ix u):=by
 intro e v hv;unfold LI at h;split at h;rename_i o _ _ _ _ _ k;split at h;rename_i K _;split at h;rename_i V _;split at h;rename_i p hk;split at h;rename_i q l;split at h;rename_i hf;split at h;rename_i a b;split at h;rename_i d f;split at h;rename_i fv g;cases h;cases hv;have hc:c.sub (re Γ e)=.rs ((a e).map (a6 (.cons K (.one V)))):=vT _ _ _ b e;have i:=vT _ _ _ f e;have j:=vT _ _ _ g e;have qJ:(tm (.rs ((a e).map (a6 (.cons K (.one V)))))).bF 0=Z (qY (.rs ((a e).map (a6 (.cons K (.one V)))))):=by simp[tm,bg.x9]
 have m:∀es,rowsOf (.rs es)=es:=λ_=>rfl;have hu:∃σ,si T (tm (.rs ((a e).map (a6 (.cons K (.one V)))))) t (.mm 0) (enc K (d e)) (enc V (fv e))=Z σ:=by
  simp only[si,k,Ca hk,qJ,qY];have h1:=JP (V:=V) hk hf (d e) (a e) 0;have n:=JP (V:=V) hk hf (d e) [] 0;rcases Qa (V:=V) hk (a e)with h2|h2
  split;exact⟨_,rfl⟩;rw[cr ⟨h2,h1⟩];exact⟨_,rfl⟩;rw[cr ⟨by rw[h2];rfl,n⟩];exact⟨_,rfl⟩
 let ⟨σ,hu⟩:=hu;simp only[iv,hc,i,j,hu,Ca hk,m,Yi hk l];rfl;cases h;cases h;cases h;cases h;cases h;cases h;cases h;cases h;cases h
def Ma(T:bY)(Γ:cu dn)(t:TypeId)(c:bX):dv (yg Γ):=match T t with
 |some { j4:=.map _ _,.. }=>match oa Γ c with
  |some (.hF l)=>match qy Γ c (.hF l)with
   |some a=>Z ⟨.int .i64,λe=>Z (aa (a e):Int)⟩
   |none=>W
  |_=>W
 |_=>W
def aJ9{T:bY}{Φ:lv}(h:Ma T Γ t c=Z r):r.Ok T Φ (.B_ t c):=by
 intro e v hv;unfold Ma at h;split at h;rename_i b;split at h;split at h;rename_i f a;cases h;cases hv;have qJ:∀c,(tm c).bF 0=Z (qY c):=λc=>by simp[tm,bg.x9]
 have d:∀es,rowsOf (.rs es)=es:=λ_=>rfl;simp only[iv,p3,b,qJ,qY,Bc,vT _ _ _ a e,enc,d,aI,goInt];cases h;cases h;cases h
def Ql(Γ:cu dn)(x:bX):dv (yg Γ):=match oa Γ x with
 |some (.ptr l)=>match qy Γ x (.ptr l)with
  |some _=>Z ⟨.sF,λ_=>Z ()⟩
  |none=>W
 |_=>W
def aX5{T:bY}{Φ:lv}(h:Ql Γ x=Z r):r.Ok T Φ (.B0 x):=by intro e v hv;unfold Ql at h;split at h;split at h;rename_i f hf;cases h;simp only[iv,vT _ _ _ hf e,enc];cases h;cases h
def Qt(Γ:cu dn)(n:Nat)(x:bX):dv (yg Γ):=match oa Γ x with
 |some (.ptr l)=>match qy Γ x (.ptr l)with
  |some f=>match aw l.len n with
   |true=>Z ⟨.ptr l,λe=>Z (f e)⟩
   |false=>W
  |none=>W
 |_=>W
def aW2{T:bY}{Φ:lv}(h:Qt Γ n x=Z r):r.Ok T Φ (.As n x):=by
 intro e v hv;unfold Qt at h;split at h;split at h;split at h;cases h
 grind[iv,vT,enc,ui]
 cases h;cases h;cases h
def PZ(T:bY):Nat->TypeId->dv (cu dn)
 | 0,_=>W
 |n+1,t=>match T t with
  |some { j4:=.int k,.. }=>Z [.int k]
  |some { j4:=.bool,.. }=>Z [.bool]
  |some { j4:=.string,.. }=>Z [.str]
  |some { j4:=.array m e,.. }=>match PZ T n e with
   |some l=>Z (cC m l).flatten
   |none=>W
  |some { j4:=.struct fields,.. }=>fields.toList.foldr (λf acc=>match PZ T n f.type,acc with
   |some a,Z b=>Z (a++b)
   |_,_=>W) (Z [])
  |_=>W
def bM2(T:bY)(t:TypeId):dv dn:=match T t with
 |some { j4:=.int k,.. }=>Z (.int k)
 |some { j4:=.bool,.. }=>Z .bool
 |some { j4:=.string,.. }=>Z .str
 |some ti=>match ti.isAgg,PZ T 6 t with
  |true,Z l=>Z (.agg (dr.ofList l))
  |_,_=>W
 |_=>W
def Qg(T:bY)(Γ:cu dn)(t:TypeId)(g:Nat):dv (yg Γ):=match bM2 T t with
 |some s=>Z ⟨s,λ_=>match GY T t g with
  |some a=>rf a s
  |none=>W⟩
 |none=>W
def bP2{T:bY}{Φ:lv}{g:Nat}(h:Qg T Γ t g=Z r):r.Ok T Φ (.BR t g):=by
 intro e v hv;unfold Qg at h;split at h;cases h
 grind[iv,Ac]
 cases h
def Qk(T:bY)(Γ:cu dn)(t:TypeId)(c i:bX):dv (yg Γ):=match T t with
 |some { j4:=.slice el,.. }=>match T el with
  |some _=>match oa Γ c with
   |some (.hF l)=>match qy Γ c (.hF l)with
    |some b=>match oa Γ i with
     |some (.int k)=>match qy Γ i (.int k)with
      |some a=>Z ⟨.sF,λe=>cond (0<=a e&&a e<aa (b e)) (Z ()) W⟩
      |none=>W
     |_=>W
    |none=>W
   |_=>W
  |none=>W
 |_=>W
def aT5{T:bY}{Φ:lv}(h:Qk T Γ t c i=Z r):r.Ok T Φ (.z7 t c i):=by
 intro e v hv;unfold Qk at h;split at h;split at h;split at h;split at h;rename_i f a;split at h;split at h;rename_i d b;cases h;simp only at hv;cases g:(No (0<=d e)&&No (d e<aa (f e)))with
 |false=>rw[g]at hv;cases hv
 |true=>
  have j:∀es,rowsOf (.rs es)=es:=λ_=>rfl;simp only[iv,vT _ _ _ a e,vT _ _ _ b e,enc,sH]
  grind
 cases h;cases h;cases h;cases h;cases h;cases h
def dr.at:(l:dr)->Nat->dv ((s:dn)×(l.T->s.T))
 | .nil,_=>W
 | .one s,j=>match j with
  | 0=>Z ⟨s,λx=>x⟩
  |_+1=>W
 | .cons s l,j=>match j with
  | 0=>Z ⟨s,λx=>x.1⟩
  |j+1=>match l.at j with
   |some ⟨s',f⟩=>Z ⟨s',λx=>f x.2⟩
   |none=>W
variable {l:dr}
theorem LR:∀(l:dr) (j:Nat) (q:(s:dn)×(l.T->s.T)),l.at j=Z q->∀x,(a6 l x)[j]?=Z (enc q.1 (q.2 x))
 | .nil,j,q,h=>by simp[dr.at]at h
 | .one s,0,q,h=>by simp only[dr.at]at h;cases h;exact λx=>rfl
 | .one s,j+1,q,h=>by simp[dr.at]at h
 | .cons s l,0,q,h=>by simp only[dr.at]at h;cases h;exact λx=>rfl
 | .cons s l,j+1,q,h=>by simp only[dr.at]at h;split at h;rename_i s' f hf;cases h;intro x;have:=LR l j _ hf x.2;simpa[a6]using this;cases h
def dr.C6:(l:dr)->Nat->dv ((a:dr)×(l.T->a.T))
 |_,0=>Z ⟨.nil,λ_=>()⟩
 | .nil,_+1=>W
 | .one s,n+1=>match n with
  | 0=>Z ⟨.one s,λx=>x⟩
  |_+1=>W
 | .cons s l,n+1=>match n with
  | 0=>Z ⟨.one s,λx=>x.1⟩
  |n+1=>match l.C6 (n+1)with
   |some ⟨a,f⟩=>Z ⟨.cons s a,λx=>(x.1,f x.2)⟩
   |none=>W
def LP:∀(l:dr) (n:Nat) (q:(a:dr)×(l.T->a.T)),l.C6 n=Z q->∀x,(a6 l x).take n=a6 q.1 (q.2 x)/\n<=l.len
 |l,0,q,h=>by cases l<;>(simp only[dr.C6]at h;cases h;exact λx=>⟨by simp[a6],di _⟩)
 | .nil,n+1,q,h=>by simp[dr.C6]at h
 | .one s,1,q,h=>by simp only[dr.C6]at h;cases h;exact λx=>⟨rfl,ay _⟩
 | .one s,n+2,q,h=>by simp[dr.C6]at h
 | .cons s l,1,q,h=>by simp only[dr.C6]at h;cases h;exact λx=>⟨rfl,by simp[dr.len]⟩
 | .cons s l,n+2,q,h=>by simp only[dr.C6]at h;split at h;rename_i a f hf;cases h;intro x;have:=LP l (n+1) _ hf x.2;exact⟨by simp only[a6,gk,this.1],by simp[dr.len];omega⟩;cases h
def dr.zU:(l:dr)->Nat->dv ((a:dr)×(l.T->a.T))
 |l,0=>Z ⟨l,λx=>x⟩
 | .cons _ l,n+1=>match l.zU n with
  |some ⟨a,f⟩=>Z ⟨a,λx=>f x.2⟩
  |none=>W
 |_,_+1=>W
def LG:∀(l:dr) (n:Nat) (q:(a:dr)×(l.T->a.T)),l.zU n=Z q->∀x,(a6 l x).drop n=a6 q.1 (q.2 x)/\q.1.len+n=l.len
 |l,0,q,h=>by cases l<;>(simp only[dr.zU]at h;cases h;exact λx=>⟨rfl,by simp⟩)
 | .nil,n+1,q,h=>by simp[dr.zU]at h
 | .one s,n+1,q,h=>by simp[dr.zU]at h
 | .cons s l,n+1,q,h=>by simp only[dr.zU]at h;split at h;rename_i a f hf;cases h;intro x;have:=LG l n _ hf x.2;have h2:=this.2;exact⟨by simp only[a6,hJ,this.1],by simp only[dr.len]at h2⊢;omega⟩;cases h
def NZ(ti:nk)(l:dr)(off:Nat):dv ((s:dn)×(l.T->s.T)):=match ti.isAgg with
 |true=>match l.zU off with
  |some ⟨l2,f1⟩=>match l2.C6 ti.size with
   |some ⟨x8,f2⟩=>Z ⟨.agg x8,λx=>f2 (f1 x)⟩
   |none=>W
  |none=>W
 |false=>l.at off
def bm9{ti:nk}{q:(s:dn)×(l.T->s.T)}(h:NZ ti l off=Z q)(x:l.T):sj ti (a6 l x) off=Z (enc q.1 (q.2 x)):=by
 unfold NZ at h;split at h;split at h;rename_i l2 f1 h1;split at h;rename_i x8 f2 h2;cases h;let ⟨a,a2⟩:=LG l off _ h1 x;let ⟨b,c⟩:=LP l2 ti.size _ h2 (f1 x)
 grind[sj,ui,enc]
 cases h;cases h
 grind[sj,LR]
def Qy(T:bY)(Γ:cu dn)(t:TypeId)(c i:bX)(off:Nat):dv (yg Γ):=match T t with
 |some ti=>match oa Γ c with
  |some (.hF l)=>match qy Γ c (.hF l)with
   |some a=>match oa Γ i with
    |some (.int k)=>match qy Γ i (.int k)with
     |some b=>match NZ ti l off with
      |some ⟨s,f⟩=>Z ⟨s,λe=>((a e)[(b e).toNat]?).map f⟩
      |none=>W
     |none=>W
    |_=>W
   |none=>W
  |_=>W
 |none=>W
def aX0{T:bY}{Φ:lv}(h:Qy T Γ t c i off=Z r):r.Ok T Φ (.x4 t el z c i off):=by
 intro e v hv;unfold Qy at h;split at h;rename_i ti g;split at h;split at h;rename_i j a;split at h;split at h;rename_i k b;split at h;rename_i s f hf;cases h;simp only at hv;have qJ:∀c,(tW el z c).bF 0=Z (.row el z (rowsOf c)):=λc=>by simp[tW,bg.x9]
 have l:∀es,rowsOf (.rs es)=es:=λ_=>rfl;simp only[iv,vT _ _ _ a e,vT _ _ _ b e,enc,py,qJ,l,nm,aS,g];cases d:(j e)[(k e).toNat]? with
 |none=>rw[d]at hv;cases hv
 |some x =>rw[d]at hv;cases hv;exact bm9 hf x
 cases h;cases h;cases h;cases h;cases h;cases h
def dr.w_:(l:dr)->(a:dr)->dv (l.T->a.T->l.T)
 |_,.nil=>Z λx _=>x
 | .one s,.one s'=>match h:s'.nR s with
  |true=>Z λ_ y=>Cl h y
  |false=>W
 | .cons s _,.one s'=>match h:s'.nR s with
  |true=>Z λx y=>(Cl h y,x.2)
  |false=>W
 | .cons s l,.cons s' a=>match h:s'.nR s with
  |true=>match l.w_ a with
   |some f=>Z λx y=>(Cl h y.1,f x.2 y.2)
   |none=>W
  |false=>W
 |_,_=>W
def TV:∀(l a:dr) (f:l.T->a.T->l.T),l.w_ a=Z f->∀x y,a6 l (f x y)=a6 a y++(a6 l x).drop a.len/\a.len<=l.len
 |l,.nil,f,h=>by cases l<;>(simp only[dr.w_]at h;cases h;exact λx y=>⟨by simp[a6,dr.len],di _⟩)
 | .nil,.one s',f,h=>by simp[dr.w_]at h
 | .nil,.cons s' a,f,h=>by simp[dr.w_]at h
 | .one s,.one s',f,h=>by unfold dr.w_ at h;split at h;rename_i b;cases h;exact λx y=>⟨by simp[a6,Dj,dr.len],ay _⟩;cases h
 | .one s,.cons s' a,f,h=>by simp[dr.w_]at h
 | .cons s l,.one s',f,h=>by unfold dr.w_ at h;split at h;rename_i b;cases h;exact λx y=>⟨by simp[a6,Dj,dr.len],by simp[dr.len]⟩;cases h
 | .cons s l,.cons s' a,f,h=>by unfold dr.w_ at h;split at h;rename_i b;split at h;rename_i c hf;cases h;intro x y;let ⟨h1,h2⟩:=TV l a c hf x.2 y.2;exact⟨by simp only[a6,Dj,dr.len,hJ,h1,cV],by simp[dr.len];exact h2⟩;cases h;cases h
def dr.Cz:(l:dr)->Nat->(a:dr)->dv (l.T->a.T->l.T)
 |l,0,a=>l.w_ a
 | .cons _ l,n+1,a=>match l.Cz n a with
  |some f=>Z λx y=>(x.1,f x.2 y)
  |none=>W
 |_,_+1,_=>W
def aA4:∀(l:dr) (n:Nat) (a:dr) (f:l.T->a.T->l.T),l.Cz n a=Z f->∀x y,a6 l (f x y)=qz (a6 l x) n (a6 a y)/\n+a.len<=l.len
 |l,0,a,f,h=>by
  intro x y;have h':l.w_ a=Z f:=by cases l<;>simpa only[dr.Cz]using h
  let ⟨h1,h2⟩:=TV l a f h' x y;exact⟨by simp[qz,h1,ui],by simpa using h2⟩
 | .nil,n+1,a,f,h=>by simp[dr.Cz]at h
 | .one s,n+1,a,f,h=>by simp[dr.Cz]at h
 | .cons s l,n+1,a,f,h=>by
  simp only[dr.Cz]at h;split at h;rename_i b hf;cases h;intro x y;let ⟨h1,h2⟩:=aA4 l n a b hf x.2 y;refine⟨?_,by simp[dr.len];omega⟩;simp only[a6,qz,gk,cV];have e:n+1+aa (a6 a y)=(n+aa (a6 a y))+1:=by omega
  rw[e,hJ,h1,qz];cases h
def MA:(s:dn)->dv ((l:dr)×(s.T->l.T))
 | .agg l=>match l.cells with
  |true=>Z ⟨l,λx=>x⟩
  |false=>W
 |s=>match s.cell with
  |true=>Z ⟨.one s,λx=>x⟩
  |false=>W
def aX8{q:(l:dr)×(s.T->l.T)}(h:MA s=Z q)(x:s.T):(enc s x).cells=Z (a6 q.1 (q.2 x))/\(a6 q.1 (q.2 x)).all bX.one=Y:=by
 cases s<;>simp only[MA]at h<;>first
  | (cases h;done)
  | (cases h;exact⟨rfl,rfl⟩)
  | (split at h;rename_i a;cases h;exact⟨rfl,Jc a x⟩;cases h)
def qI{α β:Type}(xs:cu α)(i:Nat)(f:α->β->α)(y:β):dv (cu α):=match xs[i]? with
 |some x=>Z (xs.set i (f x y))
 |none=>W
def Qz(T:bY)(Γ:cu dn)(t:TypeId)(c i:bX)(off:Nat)(v:bX):dv (yg Γ):=match T t with
 |some ti=>match oa Γ c with
  |some (.hF l)=>match qy Γ c (.hF l)with
   |some b=>match oa Γ i with
    |some (.int k)=>match qy Γ i (.int k)with
     |some d=>match oa Γ v with
      |some s=>match qy Γ v s with
       |some fv=>match MA s with
        |some ⟨a,g⟩=>match l.Cz off a with
         |some f=>match aw a.len ti.size with
          |true=>Z ⟨.hF l,λe=>qI (b e) (d e).toNat f (g (fv e))⟩
          |false=>W
         |none=>W
        |none=>W
       |none=>W
      |none=>W
     |none=>W
    |_=>W
   |none=>W
  |_=>W
 |none=>W
def aS4{T:bY}{Φ:lv}(h:Qz T Γ t c i off u=Z r):r.Ok T Φ (.za t el z c i off u):=by
 intro e v hv;unfold Qz at h;split at h;rename_i ti m;split at h;rename_i l _;split at h;rename_i n a;split at h;split at h;rename_i o b;split at h;split at h;rename_i fv d;split at h;rename_i p g q;split at h;rename_i f hf;split at h;rename_i j;have j:=ae j;cases h;simp only[qI]at hv;have qJ:∀c,(tW el z c).bF 0=Z (.row el z (rowsOf c)):=λc=>by simp[tW,bg.x9]
 have s:∀es,rowsOf (.rs es)=es:=λ_=>rfl;have hc:=vT _ _ _ a e;let ⟨c1,c2⟩:=aX8 q (fv e);simp only[iv,hc,vT _ _ _ b e,vT _ _ _ d e,sq,enc,nm,c1,m,qJ,s,aS];cases k:(n e)[(o e).toNat]? with
 |none=>rw[k]at hv;cases hv
 |some x =>rw[k]at hv;cases hv;let ⟨w,B⟩:=aA4 l off p f hf x (g (fv e));simp only[ai];rw[cr ⟨by rw[ui,j],by rw[ui,ui];exact B,c2⟩];simp only[bg.x9,vE,List.length_set,fL];rw[<-w,List.map_set]
 cases h;cases h;cases h;cases h;cases h;cases h;cases h;cases h;cases h;cases h
def aC8:(n:Nat)->dv ((l:dr)×l.T)
 | 0=>W
 | 1=>Z ⟨.one (.int .i64),(0:Int)⟩
 |n+2=>match aC8 (n+1)with
  |some ⟨l,z⟩=>Z ⟨.cons (.int .i64) l,((0:Int),z)⟩
  |none=>W
def GZ{α:Type}(bytes:Nat)(z:α)(n:Int):dv (cu α):=cond (an du n=n&&(0<n&&((2*n.toNat+1000)*bytes<=2^48&&n.toNat<=2^62))) (Z (cC n.toNat z)) W
def Eu:eX->eX->Bool
 | [],[]=>Y
 | .b4 (.int .i64 a)::az,.b4 (.int .i64 b)::fA=>No (a=b)&&Eu az fA
 |_,_=>U
def at1:∀ {az fA:eX},Eu az fA=Y->az=fA
 | [],[],_=>rfl
 | [],b::fA,h=>by simp[Eu]at h
 |a::az,fA,h=>by unfold Eu at h;split at h;rename_i h2;cases h2;rename_i e c f d h1;cases h1;simp only[ab,kA]at h;rw[h.1,at1 h.2];cases h
def QA(T:bY)(Γ:cu dn)(sT:TypeId)(x:bX):dv (yg Γ):=match T sT with
 |some { j4:=.slice el,.. }=>match T el with
  |some a=>match aC8 a.size with
   |some ⟨l,z⟩=>match Eu a.zeroCells (a6 l z)&&cL 0 a.size with
    |true=>match oa Γ x with
     |some (.int k)=>match qy Γ x (.int k)with
      |some b=>Z ⟨.hF l,λe=>GZ a.bytes z (b e)⟩
      |none=>W
     |_=>W
    |false=>W
   |none=>W
  |none=>W
 |_=>W
def aS6{T:bY}{Φ:lv}{sT:TypeId}(h:QA T Γ sT x=Z r):r.Ok T Φ (.CE sT x):=by
 intro e v hv;unfold QA at h;split at h;rename_i f;split at h;rename_i g b;split at h;split at h;rename_i c;simp only[ab,bP]at c;split at h;split at h;rename_i a d;cases h;simp only[GZ]at hv;cases hc:(No (an du (a e)=a e)&&(No (0<a e)&&(No ((2*(a e).toNat+1000)*g.bytes<=2^48)&&No ((a e).toNat<=2^62))))with
 |false=>rw[hc]at hv;cases hv
 |true =>rw[hc]at hv;simp only[ab,kA]at hc;cases hv;simp only[iv,Mc,f,b,vT _ _ _ d e,enc];rw[cr ⟨hc.1,hc.2.1,hc.2.2.1,hc.2.2.2,c.2⟩,at1 c.1];simp
 cases h;cases h;cases h;cases h;cases h;cases h
def Qm(Γ:cu dn)(x:bX):dv (yg Γ):=match qy Γ x .str with
 |some _=>Z ⟨.sF,λ_=>Z ()⟩
 |none=>W
def aX6{T:bY}{Φ:lv}(h:Qm Γ x=Z r):r.Ok T Φ (.B1 x):=by intro e v hv;unfold Qm at h;split at h;rename_i f hf;cases h;simp only[iv,vT _ _ _ hf e,enc];cases h
def Mb(Γ:cu dn)(x p:bX):dv (yg Γ):=match qy Γ x .str with
 |some a=>match qy Γ p (.int .i64)with
  |some b=>Z ⟨.bool,λe=>Z (No ((b e).toNat<(a e).size))⟩
  |none=>W
 |none=>W
def aR1{T:bY}{Φ:lv}(h:Mb Γ x p=Z r):r.Ok T Φ (.more x p):=by intro e v hv;unfold Mb at h;split at h;rename_i c a;split at h;rename_i d b;cases h;cases hv;simp only[iv,vT _ _ _ a e,vT _ _ _ b e,enc];cases h;cases h
def Cu(b:ByteArray)(n:Int):dv b9:=cond (n.toNat<b.size) (Z ((n.toNat:Int),((cg b n.toNat).1:Int),((n.toNat+(cg b n.toNat).2:Nat):Int))) W
def LB(Γ:cu dn)(x p:bX):dv (yg Γ):=match qy Γ x .str with
 |some a=>match qy Γ p (.int .i64)with
  |some b=>Z ⟨.ed (.cons (.int .i64) (.cons (.int .i32) (.one (.int .i64)))),λe=>Cu (a e) (b e)⟩
  |none=>W
 |none=>W
def aN3{T:bY}{Φ:lv}(h:LB Γ x p=Z r):r.Ok T Φ (.Cm x p):=by
 intro e v hv;unfold LB at h;split at h;rename_i c a;split at h;rename_i d b;cases h;simp only[Cu]at hv;cases hc:No ((d e).toNat<(c e).size)with
 |false=>rw[hc]at hv;cases hv
 |true =>rw[hc]at hv;cases hv;simp only[iv,vT _ _ _ a e,vT _ _ _ b e,enc,a6,hc]
 cases h;cases h
def ap4(T:bY):Nat->TypeId->dv dn
 | 0,_=>W
 |k+1,t=>match T t with
  |some { j4:=.int k,.. }=>Z (.int k)
  |some { j4:=.bool,.. }=>Z .bool
  |some { j4:=.string,.. }=>Z .str
  |some { j4:=.slice e,.. }=>match ap4 T k e with
   |some s=>Z (.hF (.one s))
   |none=>W
  |_=>W
def JY(T:bY)(ck:nW)(j:Nat)(s:dn):dv ((s':dn)×(s.T->s'.T)):=match pw ck j with
 |some c=>match ap4 T 4 c.2.1 with
  |some s'=>Z ⟨.hF (.one s'),λ_=>[]⟩
  |none=>W
 |none=>Z ⟨s,λx=>x⟩
def Sa{T:bY}{r:(s':dn)×(s.T->s'.T)}(h:JY T ck j s=Z r)(x:s.T):zW ck j (enc s x)=enc r.1 (r.2 x):=by unfold JY at h;unfold zW;split at h;rename_i c hc;split at h;cases h;rw[hc];rfl;cases h;rename_i hc;cases h;rw[hc]
def DZ(T:bY)(ck:nW):Nat->(l:dr)->dv ((a:dr)×(l.T->a.T))
 |_,.nil=>Z ⟨.nil,λx=>x⟩
 |j,.one s=>match JY T ck j s with
  |some ⟨s',f⟩=>Z ⟨.one s',f⟩
  |none=>W
 |j,.cons s l=>match JY T ck j s with
  |some ⟨s',f⟩=>match DZ T ck (j+1) l with
   |some ⟨a,g⟩=>Z ⟨.cons s' a,λx=>(f x.1,g x.2)⟩
   |none=>W
  |none=>W
def TC{T:bY}:∀(j:Nat) (l:dr) (r:(a:dr)×(l.T->a.T)),DZ T ck j l=Z r->∀x,rp ck j (a6 l x)=a6 r.1 (r.2 x)
 |_,.nil,r,h,x=>by simp only[DZ]at h;cases h;rfl
 |j,.one s,r,h,x=>by simp only[DZ]at h;split at h;rename_i s' f hf;cases h;simp only[a6,rp,Sa hf x];cases h
 |j,.cons s l,r,h,x=>by simp only[DZ]at h;split at h;rename_i s' f hf;split at h;rename_i a g b;cases h;simp only[a6,rp,Sa hf x.1,TC (j+1) l _ b x.2];cases h;cases h
def Ow(l:dr)(j:Nat):Bool:=match l.at j with
 |some ⟨.nl,_⟩=>Y
 |_=>U
def aX1(h:Ow l j=Y)(x:l.T):(a6 l x)[j]?=Z (.b4 (.slice W 0 0)):=by unfold Ow at h;split at h;rename_i f hf;exact LR l j _ hf x;cases h
def zs{α β:Type}(f:α->β)(xs:cu α):dv (cu β):=cond (16*aa xs<=tY) (Z (xs.map f)) W
def L7(T:bY)(Γ:cu dn)(ck:nW)(x:bX):dv (yg Γ):=match oa Γ x with
 |some (.hF l)=>match qy Γ x (.hF l),DZ T ck 0 l,ck.all (λc=>cL c.1 16&&Ow l c.1)with
  |some a,Z ⟨b,f⟩,Y=>Z ⟨.hF b,λe=>zs f (a e)⟩
  |_,_,_=>W
 |_=>W
def aG9{T:bY}{Φ:lv}(h:L7 T Γ ck x=Z r):r.Ok T Φ (.Cd ck x):=by
 intro e v hv;unfold L7 at h;split at h;rename_i l hl;split at h;rename_i i k f g hf hc;cases h;simp only[zs]at hv;have a:No (16*aa (i e)<=tY)=Y:=by grind
 rw[a]at hv;cases hv;have b:A5 ck ((i e).map (a6 l))=Y:=by
  simp only[A5,ab,aI,aj];refine⟨⟨a,λc d=>?_⟩,λr j c d=>?_⟩
  grind
  obtain⟨y,_,rfl⟩:=aN.1 j;have:=aj.1 hc c d;simp only[ab]at this;rw[aX1 this.2 y];rfl
 simp only[iv,vT _ _ _ g e,enc,b,de];congr 2;refine cw λy _=>?_;exact TC 0 l _ hf y;cases h;cases h
def uM{α:Type}(xs:cu α)(i:Int):dv Unit:=(xs[i.toNat]?).map λ_=>()
def Qx(Γ:cu dn)(c i:bX)(off:Nat):dv (yg Γ):=match oa Γ c with
 |some (.hF l)=>match qy Γ c (.hF l),oa Γ i with
  |some a,Z (.int k)=>match qy Γ i (.int k),cL off l.len with
   |some b,Y=>Z ⟨.sF,λe=>uM (a e) (b e)⟩
   |_,_=>W
  |_,_=>W
 |_=>W
def bb2{T:bY}{Φ:lv}(h:Qx Γ c i off=Z r):r.Ok T Φ (.AG c i off):=by
 intro e v hv;unfold Qx at h;split at h;split at h;rename_i f k a _;split at h;rename_i g b j;cases h;simp only[uM]at hv;cases d:(f e)[(g e).toNat]? with
 |none=>rw[d]at hv;cases hv
 |some y=>simp only[iv,vT _ _ _ a e,vT _ _ _ b e,enc,rowsOf,nm,aS,d,ai,ui,j]
 cases h;cases h;cases h
def U_{a b:dr}(h:a.nR b=Y)(x:a.T):b.T:=(dr.sR a b h)▸x
def aG2{a b:dr}(h:a.nR b=Y)(x:a.T):a6 b (U_ h x)=a6 a x:=by have:=dr.sR a b h;subst this;rfl
def Io(l:dr)(m i:Nat):dv ((a:dr)×(l.T->a.T)):=match l.zU (i*m)with
 |some ⟨l2,f1⟩=>match l2.C6 m with
  |some ⟨x8,f2⟩=>Z ⟨x8,λx=>f2 (f1 x)⟩
  |none=>W
 |none=>W
def aV4{i:Nat}{q:(a:dr)×(l.T->a.T)}(h:Io l m i=Z q)(x:l.T):((a6 l x).drop (i*m)).take m=a6 q.1 (q.2 x)/\i*m+m<=aa (a6 l x):=by
 unfold Io at h;split at h;rename_i l2 f1 h1;split at h;rename_i x8 f2 h2;cases h;let ⟨b,a2⟩:=LG _ _ _ h1 x;let ⟨c,d⟩:=LP _ _ _ h2 (f1 x)
 grind[ui]
 cases h;cases h
def Fj(m:Nat)(s:dr)(l:dr):Nat->Nat->dv (l.T->cu s.T)
 | 0,_=>Z λ_=>[]
 |k+1,i=>match Io l m i with
  |some ⟨x8,f⟩=>match h:x8.nR s with
   |true=>match Fj m s l k (i+1)with
    |some g=>Z λx=>U_ h (f x)::g x
    |none=>W
   |false=>W
  |none=>W
def R'{s:dr}:∀(k i:Nat) (g:l.T->cu s.T),Fj m s l k i=Z g->∀x,aa (g x)=k/\∀j y,(g x)[j]?=Z y->((a6 l x).drop ((i+j)*m)).take m=a6 s y/\(i+j)*m+m<=aa (a6 l x)
 | 0,i,g,h,x=>by grind[Fj]
 |k+1,i,g,h,x=>by
  unfold Fj at h;split at h;rename_i x8 f h2;split at h;split at h;rename_i b c;cases h;let ⟨d,e⟩:=R' k (i+1) b c x;refine⟨by simp[d],λj y a=>?_⟩;cases j;simp only[List.getElem?_cons_zero,ah]at a;subst a;rw[aG2];exact aV4 h2 x
  grind
  cases h;cases h;cases h
def F4(T:bY)(Γ:cu dn)(t:TypeId)(x i:bX):dv (yg Γ):=match oa Γ i with
 |some (.int k)=>match qy Γ i (.int k)with
  |some b=>match T t with
   |some { j4:=.array len el,.. }=>match T el with
    |some a=>match oa Γ x with
     |some (.agg l)=>match qy Γ x (.agg l)with
      |some c=>match Io l a.size 0 with
       |some ⟨s,_⟩=>match Fj a.size s l len 0 with
        |some g=>match a.isAgg with
         |true=>Z ⟨.agg s,λe=>nth (g (c e)) (b e)⟩
         |false=>W
        |none=>W
       |none=>W
      |none=>W
     |_=>W
    |none=>W
   |_=>W
  |none=>W
 |_=>W
def bW9{T:bY}{Φ:lv}(h:F4 T Γ t x i=Z r):r.Ok T Φ (.index t x i):=by
 intro e v hv;unfold F4 at h;split at h;split at h;rename_i f b;split at h;rename_i len el _ _ _ _ j;split at h;rename_i n he;split at h;split at h;rename_i k c;split at h;split at h;rename_i g l;split at h;rename_i a;cases h;simp only[nth]at hv;by_cases d:0<=f e;simp only[d]at hv;let ⟨o,m⟩:=R' _ _ _ l (k e);have h1:f e<(len:Int):=by grind
 have:=m _ _ hv;rw[bj]at this;simp only[iv,vT _ _ _ c e,vT _ _ _ b e,enc,vZ,j,he,d,h1,and_self,vE,Ay,sj,a];rw[cr this.2,this.1];simp[d]at hv;cases h;cases h;cases h;cases h;cases h;cases h;cases h;cases h;cases h
variable {nu:dn}{v:nu.T}{Γ:cu dn}
def orElse'{α:Type}:dv α->dv α->dv α
 |some a,_=>Z a
 |none,b=>b
def GN(T:bY)(a:cu c9)(Γ:cu dn):nU->dv (yg Γ)
 | .bin o t x y=>Qc T Γ o t x y
 | .un o x=>Qw Γ o x
 | .conv s d x=>L0 T Γ s d x
 | .idx t x i=>Qj T Γ t x i
 | .index t x i=>orElse' (DN T Γ t x i) (F4 T Γ t x i)
 | .Cq t x b7 a7=>Qu T Γ t x b7 a7
 | .len t x=>Qo T Γ t x
 | .pP l=>Qr Γ l
 | .yT l=>Qq Γ l
 | .cat sT xT x y=>Qd T Γ sT xT x y
 | .call f args b=>GU Γ f args b a
 | .rows l=>LS Γ l
 | .look t c ix ok=>LO T Γ t c ix ok
 | .xS t c ix ok=>Q4 T Γ t c ix ok
 | .qe t c ix v=>LI T Γ t c ix v
 | .B_ t c=>Ma T Γ t c
 | .Aq=>Z ⟨.sF,λ_=>Z ()⟩
 | .z7 t c i=>Qk T Γ t c i
 | .x4 t _ _ c i off=>Qy T Γ t c i off
 | .za t _ _ c i off v=>Qz T Γ t c i off v
 | .B0 x=>Ql Γ x
 | .As n x=>Qt Γ n x
 | .CE t x=>QA T Γ t x
 | .BR t g=>Qg T Γ t g
 | .B1 x=>Qm Γ x
 | .more x p=>Mb Γ x p
 | .Cm x p=>LB Γ x p
 | .Cd ck x=>L7 T Γ ck x
 | .AG c i off=>Qx Γ c i off
def bP7{T:bY}{Φ:lv}{b:cu c9}(j:∀t∈b,t.Ok Φ){o:nU}{r:yg Γ}(h:GN T b Γ o=Z r):r.Ok T Φ o:=by
 cases o with
 |bin o t x y=>exact ba8 h
 |un o x=>exact bQ0 h
 |conv s d x=>exact aR3 h
 |idx t x i=>exact aT0 h
 |index t x i=>
  cases h1:DN T Γ t x i with
  |some a=>rw[show GN T b Γ (.index t x i)=orElse' (DN T Γ t x i) (F4 T Γ t x i)from rfl,h1]at h;cases h;exact cb0 h1
  |none=>rw[show GN T b Γ (.index t x i)=orElse' (DN T Γ t x i) (F4 T Γ t x i)from rfl,h1]at h;exact bW9 h
 |Cq t x b7 a7=>exact aX7 h
 |len t x=>exact ba4 h
 |pP l=>exact bP6 h
 |yT l=>exact bP5 h
 |cat sT xT x y=>exact bb4 h
 |call f args k=>exact ax1 b j h
 |rows l=>exact aR0 h
 |look t c ix ok=>exact aO1 h
 |xS t c ix ok=>exact cd5 h
 |qe t c ix v=>exact aN7 h
 |B_ t c=>exact aJ9 h
 |Aq=>cases h;exact λe v _=>rfl
 |z7 t c i=>exact aT5 h
 |x4 t _ _ c i off=>exact aX0 h
 |za t _ _ c i off v=>exact aS4 h
 |B0 x=>exact aX5 h
 |As n x=>exact aW2 h
 |CE t x=>exact aS6 h
 |BR t g=>exact bP2 h
 |B1 x=>exact aX6 h
 |more x p=>exact aR1 h
 |Cm x p=>exact aN3 h
 |Cd ck x=>exact aG9 h
 |AG c i off=>exact bb2 h
def a8{α β:Type}:dv α->(α->dv β)->dv β
 |some a,f=>f a
 |none,_=>W
omit [nO]in
def aG7{α β:Type}{x:dv α}{f:α->dv β}{v:β}(h:a8 x f=Z v):∃a,x=Z a/\f a=Z v:=by cases x;cases h;rename_i a;exact⟨a,rfl,h⟩
def iter{α β:Type}(F:(α->dv β)->α->dv β):Nat->α->dv β
 | 0,_=>W
 |n+1,x=>F (iter F n) x
def many:Nat:=Classical.choose (⟨2^100,ay _⟩:∃n:Nat,2^100<=n)
class Fuel where
 n:Nat
instance ce9:Fuel:=⟨many⟩
def rounds[Fuel]{α β:Type}(F:(α->dv β)->α->dv β)(x:α):dv β:=iter F Fuel.n x
abbrev LCtx:=cu (Nat×dr)
@[reducible] def Hs (R:Type):LCtx->Type
 | []=>Unit
 | (_,s)::C=>(s.T->dv R)×Hs R C
def y'(R:Type):(C:LCtx)->Nat->dv ((s:dr)×(Hs R C->s.T->dv R))
 | [],_=>W
 | (l,s)::C,a=>match aw l a with
  |true=>Z ⟨s,λκ=>κ.1⟩
  |false=>match y' R C a with
   |some ⟨s',g⟩=>Z ⟨s',λκ=>g κ.2⟩
   |none=>W
def sW:(l:dr)->(Γ:cu dn)->(Γ':cu dn)×(l.T->Env Γ->Env Γ')
 | .nil,Γ=>⟨Γ,λ_ e=>e⟩
 | .one s,Γ=>⟨s::Γ,λx e=>(x,e)⟩
 | .cons s l,Γ=>match sW l (s::Γ)with
  |⟨Γ',p⟩=>⟨Γ',λx e=>p x.2 (x.1,e)⟩
def aw1:∀(l:dr) (Γ:cu dn) (x:l.T) (e:Env Γ),pF (sW l Γ).1 ((sW l Γ).2 x e)=(a6 l x).reverse++pF Γ e
 | .nil,_,_,_=>rfl
 | .one _,_,_,_=>rfl
 | .cons s l,Γ,x,e=>by have:=aw1 l (s::Γ) x.2 (x.1,e);simp only[sW,this,a6,List.reverse_cons,List.append_assoc,pF,List.singleton_append]
def M_(H:Nat->dv dr)(Γ:cu dn)(l:Nat)(inits:eX):Nat->dv dr
 | 0=>W
 |m+1=>match H l with
  |some ls=>match q1 Γ inits ls with
   |some _=>Z ls
   |none=>M_ H Γ (l+1000) inits m
  |none=>W
def den(T:bY)(d:cu c9)(H:Nat->dv dr)(nu:dn):nf->(Γ:cu dn)->(C:LCtx)->Env Γ->Hs nu.T C->dv nu.T
 | .stuck,_,_=>λ_ _=>W
 | .ret c l,Γ,C=>match l.all (DF Γ)with
  |true=>match qy Γ c nu with
   |some f=>λe _=>Z (f e)
   |none=>λ_ _=>W
  |false=>λ_ _=>W
 | .op o bb pat r,Γ,C=>match aw bb Γ.length with
  |true=>match GN T d Γ o with
   |some ⟨s,g⟩=>match rG pat s Γ with
    |some ⟨Γ',p⟩=>λe κ=>a8 (g e) λv=>den T d H nu r Γ' C (p v e) κ
    |none=>λ_ _=>W
   |none=>λ_ _=>W
  |false=>λ_ _=>W
 | .test i a b,Γ,C=>match A9 Γ i .bool with
  |some f=>λe κ=>cond (f e) (den T d H nu a Γ C e κ) <|den T d H nu b Γ C e κ
  |none=>λ_ _=>W
 | .loop l k inits body,Γ,C=>match M_ H Γ l inits 4 with
  |some ls=>match aw l Γ.length&&(aw ls.len k&&body.ff (l+k+1))with
   |true=>match q1 Γ inits ls with
    |some h=>λe κ=>rounds (λrec x=>den T d H nu body (.bool::(sW ls Γ).1) ((l,ls)::C) (U,(sW ls Γ).2 x e) (rec,κ)) (h e)
    |none=>λ_ _=>W
   |false=>λ_ _=>W
  |none=>λ_ _=>W
 | .again l j9,Γ,C=>match y' nu.T C l with
  |some ⟨s,g⟩=>match q1 Γ j9 s with
   |some f=>λe κ=>g κ (f e)
   |none=>λ_ _=>W
  |none=>λ_ _=>W
def aL1{l:cu Nat}(h:l.all (DF Γ)=Y)(e:Env Γ):∀j∈l,∃es,re Γ e j=.rs es:=λj hj=>aB0 (aj.1 h j hj) e
def B3{T:bY}{Φ:lv}{E:cu c9}(m:∀t∈E,t.Ok Φ){H:Nat->dv dr}:∀(r:nf) (Γ:cu dn) (C:LCtx) (e:Env Γ) (κ:Hs nu.T C) (A:Nat->eX->Prop),
  (∀l s g,y' nu.T C l=Z ⟨s,g⟩->∀x,g κ x=Z v->A l (a6 s x))->den T E H nu r Γ C e κ=Z v->sN T Φ (·=enc nu v) r Γ.length (pF Γ e) A
 | .stuck,Γ,C,e,κ,A,d,h=>by simp[den]at h
 | .ret c l,Γ,C,e,κ,A,d,h=>by
  simp only[den]at h;cases hl:l.all (DF Γ)with
  |false=>simp only[hl]at h;cases h
  |true=>
   simp only[hl]at h;cases hf:qy Γ c nu with
   |none=>simp only[hf]at h;cases h
   |some f =>simp only[hf]at h;cases h;exact sN.Py (aL1 hl e · ·) (vT _ _ _ hf e)
 | .op o bb pat r,Γ,C,e,κ,A,d,h=>by
  simp only[den]at h;cases G:aw bb Γ.length with
  |false=>simp only[G]at h;cases h
  |true=>
   simp only[G]at h;have G:=ae G;subst G;cases ho:GN T E Γ o with
   |none=>simp only[ho]at h;cases h
   |some sg=>
    let ⟨s,g⟩:=sg;simp only[ho]at h;cases hp:rG pat s Γ with
    |none=>simp only[hp]at h;cases h
    |some x=>
     let ⟨Γ',p⟩:=x;simp only[hp]at h;let ⟨w,h1,h2⟩:=aG7 h;let ⟨vs,S,b2,b3⟩:=JK _ _ _ _ hp w e;have I:=B3 m r Γ' C (p w e) κ A d h2;have O:=bP7 m ho e w h1;have hlen:Γ'.length=Γ.length+aa vs:=by have:=Ar aa S;simp only[nB,aL]at this;omega
     have P:=S;rw[hlen,P]at I;refine sN.OV vs ?_ b2 I;have:=b3 [];simp only[List.nil_append,aL,nB]at this;rw[Nat.add_comm,this];exact O
 | .test i a b,Γ,C,e,κ,A,d,h=>by
  simp only[den]at h;cases hf:A9 Γ i .bool with
  |none=>simp only[hf]at h;cases h
  |some f =>simp only[hf]at h;refine sN.test (f e) (PO hf e) (λQ=>?_) (λQ=>?_);rw[Q]at h;exact B3 m a Γ C e κ A d h;rw[Q]at h;exact B3 m b Γ C e κ A d h
 | .loop l k inits body,Γ,C,e,κ,A,d,h=>by
  simp only[den]at h;cases J:M_ H Γ l inits 4 with
  |none=>simp only[J]at h;cases h
  |some ls=>
   simp only[J]at h;cases M:(aw l Γ.length&&(aw ls.len k&&body.ff (l+k+1)))with
   |false=>simp only[M]at h;cases h
   |true=>
    simp only[M]at h;simp only[ab,Nat.beq_eq]at M;obtain⟨rfl,hk,K⟩:=M;cases u:q1 Γ inits ls with
    |none=>simp only[u]at h;cases h
    |some fi=>
     simp only[u]at h;refine sN.loop (λn j9=>∃x,j9=a6 ls x/\iter (λrec x=>den T E H nu body (.bool::(sW ls Γ).1) ((Γ.length,ls)::C) (U,(sW ls Γ).2 x e) (rec,κ)) n x=Z v) K many ?_ ?_;refine⟨fi e,?_,h⟩;have:=xB _ _ _ u e;rw[DC]at this;exact this;rintro n j9 ⟨x,rfl,hx⟩ hlen;cases n;cases hx;rename_i n;have I:=B3 m body (.bool::(sW ls Γ).1) ((Γ.length,ls)::C) (U,(sW ls Γ).2 x e) (iter (λrec x=>den T E H nu body (.bool::(sW ls Γ).1) ((Γ.length,ls)::C) (U,(sW ls Γ).2 x e) (rec,κ)) n,κ)
      (λz=>ite (z=Γ.length) (λB=>∃m',m'<n+1/\∃x,B=a6 ls x/\iter (λrec x=>den T E H nu body (.bool::(sW ls Γ).1) ((Γ.length,ls)::C) (U,(sW ls Γ).2 x e) (rec,κ)) m' x=Z v) <|A z)
      (λz s g hf y hy=>by
       simp only[y']at hf;cases j:aw Γ.length z with
       |true =>simp only[j]at hf;have j:=ae j;subst j;cases hf;simp only;exact⟨n,Nat.lt_succ_self _,y,rfl,hy⟩
       |false=>
        simp only[j]at hf;have R:z≠Γ.length:=λhe=>by rw[he,fL]at j;cases j
        cases D:y' nu.T C z with
        |none=>simp only[D]at hf;cases hf
        |some q=>
         simp only[D]at hf;cases hf;simp only[R];exact d z _ _ D y hy) hx
     have N:=aw1 ls Γ x e;have e2:aa (dn.bool::(sW ls Γ).1)=Γ.length+k+1:=by have:=Ar aa N;simp only[nB,aL,List.length_reverse]at this;simp only[List.length_cons];omega
     rw[e2]at I;have e3:pF (dn.bool::(sW ls Γ).1) (U,(sW ls Γ).2 x e)=.b4 (.bool U)::((a6 ls x).reverse++pF Γ e):=by rw[<-N];rfl
     rw[e3]at I;exact I
 | .again l j9,Γ,C,e,κ,A,d,h=>by
  simp only[den]at h;cases D:y' nu.T C l with
  |none=>simp only[D]at h;cases h
  |some q=>
   let ⟨s,g⟩:=q;simp only[D]at h;cases hf:q1 Γ j9 s with
   |none=>simp only[hf]at h;cases h
   |some f=>
    simp only[hf]at h;have:=d l s g D (f e) h;rw[<-xB _ _ _ hf e,DC]at this;intro G;have N:env (pF Γ e).reverse=re Γ e:=by rw[vS,nB];rfl
    intro hL;rw[N];exact this
def uW(T:bY)(b:cu c9)(H:Nat->dv dr)(mW:dr)(nu:dn)(a:eX)(r:nf):mW.T->dv nu.T:=match su a mW []with
 |some ⟨Γ,p⟩=>λx=>den T b H nu r Γ [] (p x ()) ()
 |none=>λ_=>W
def GK:cu (Nat×dr)->Nat->dv dr
 | [],_=>W
 | (g,s)::l,f=>match aw g f with
  |true=>Z s
  |false=>GK l f
def aZ6{P:Program}{T:bY}(cb:rk P T){Φ:lv}(d:Ak P Φ){F:FuncId->dv Func}(dC:∀f fn,F f=Z fn->P.funcs[f]?=Z fn)(hm:P.follows .mixedOrders=Y){j:cu c9}(e:∀t∈j,t.Ok Φ)
  {H:cu (Nat×Hint)} {m:Nat} {f:FuncId} {a:eX} {bb:Nat} {S:Nat->dv dr} {mW:dr}  {g:mW.T->dv nu.T} (o:uW T j S mW nu a (Gb T Φ F H m f a bb)=g) {x:mW.T}  (h:g x=Z v):oX P ⟨f,a6 mW x,enc nu v⟩:=by
 subst o;unfold uW at h;cases hp:su a mW []with
 |none=>simp only[hp]at h;cases h
 |some q=>
  let ⟨Γ,p⟩:=q;simp only[hp]at h;let ⟨vs,r,w,z⟩:=yy _ _ _ _ hp x ();have hl:=B3 e _ Γ [] (p x ()) () (λ_ _=>False) (λl s g hf=>by simp[y']at hf) h;have c:pF Γ (p x ())=vs++[]:=r;have k:ni (re Γ (p x ())) a=a6 mW x:=by have B:=z [];unfold re;rw[c,<-nB Γ (p x ()),c];exact B
  rw[DC]at k;have b:∀u∈pF Γ (p x ()),nN u:=λu hu=>by rw[c,List.append_nil]at hu;exact w u hu
  rw[<-k];have i:=hl (by rw[nB]);have n:=i (λu hu=>b u (by simpa using hu));rw[vS,nB]at n;exact bU7 cb d dC hm (by have:=Fit.env (l:=(pF Γ (p x ())).reverse) (λu hu=>b u (by simpa using hu));rw[vS,nB]at this;exact this) n
variable {P:Program}{args:eX}{c:bX}{f g:FuncId}{t:c9}{ts:cu c9}
def map_inj{α β:Type}{f:α->β}(hf:∀x y,f x=f y->x=y):∀ {xs ys:cu α},xs.map f=ys.map f->xs=ys
 | [],[],_=>rfl
 | [],y::ys,h=>by simp at h
 |x::xs,[],h=>by simp at h
 |x::xs,y::ys,h=>by simp only[aD,cW]at h;rw[hf x y h.1,map_inj hf h.2]
mutual
theorem aD1:∀(s:dn) (x y:s.T),enc s x=enc s y->x=y
 | .int _,x,y,h=>by simp only[enc,bX.b4.injEq,gx]at h;exact h.2
 | .bool,x,y,h=>by simp only[enc,bX.b4.injEq,jE]at h;exact h
 | .str,x,y,h=>by simp only[enc,bX.b4.injEq,mh]at h;exact h
 | .sF,x,y,_=>rfl
 | .nl,x,y,_=>rfl
 | .hF l,x,y,h=>by simp only[enc,bX.rs.injEq]at h;exact map_inj (xE l) h
 | .agg l,x,y,h=>by simp only[enc,bX.agg.injEq]at h;exact xE l x y h
 | .ptr l,x,y,h=>by simp only[enc,bX.fT.injEq]at h;exact xE l x y h
 | .rH l,x,y,h=>by simp only[enc,bX.mY.injEq,bX.rs.injEq]at h;exact map_inj (xE l) h
 | .ed l,x,y,h=>by simp only[enc,bX.ed.injEq]at h;exact xE l x y h
 | .fn g l,x,y,h=>by simp only[enc,bX.fn.injEq]at h;exact xE l x y h.2.2
theorem xE:∀(l:dr) (x y:l.T),a6 l x=a6 l y->x=y
 | .nil,_,_,_=>rfl
 | .one s,x,y,h=>by simp only[a6,cW,and_true]at h;exact aD1 s x y h
 | .cons s l,x,y,h=>by simp only[a6,cW]at h;exact fC (aD1 s _ _ h.1) (xE l _ _ h.2)
end
mutual
def dn.sep:dn->dn->Bool
 | .fn g _,.fn a _=>!Nat.beq g a
 |_,_=>U
def dr.sep:dr->dr->Bool
 | .one s,.one s'=>s.sep s'
 | .cons s l,.cons s' a=>s.sep s'||l.sep a
 |_,_=>U
end
def dn.D7{s s':dn}(h:s.sep s'=Y)(x:s.T)(y:s'.T):enc s x≠enc s' y:=by
 cases s<;>cases s'<;>simp only[dn.sep]at h<;>try (cases h;done)
 intro he;simp only[enc,bX.fn.injEq,Fn.func.injEq]at he;rw[he.1,fL]at h;cases h
def dr.D7:∀ {l a:dr},l.sep a=Y->∀(x:l.T) (y:a.T),a6 l x≠a6 a y
 | .nil,a,h,_,_=>by simp[dr.sep]at h
 | .one s,.nil,h,_,_=>by simp[dr.sep]at h
 | .one s,.one s',h,x,y=>by simp only[dr.sep]at h;intro he;simp only[a6,cW,and_true]at he;exact dn.D7 h x y he
 | .one s,.cons s' a,h,_,_=>by simp[dr.sep]at h
 | .cons s l,.nil,h,_,_=>by simp[dr.sep]at h
 | .cons s l,.one s',h,_,_=>by simp[dr.sep]at h
 | .cons s l,.cons s' a,h,x,y=>by
  simp only[dr.sep,bx]at h;intro he;simp only[a6,cW]at he;rcases h with h|h
  exact dn.D7 h _ _ he.1;exact dr.D7 h _ _ he.2
def Dz(P:Program)(f:FuncId)(args:eX)(c:bX):Prop:=∀v z rest,args=v::.b4 (.int .i64 (z:Nat))::rest->∃es a,v=.rs es/\c=.rs a/\aa a=aa es /\
 ∀σ id e restv,σ.bF id=Z (.row e z es)->(∀G vs w,hE G restv vs->Rel G (σ.del id) w->hE (G.frozen (σ.del id) w (λ_=>W)) rest vs) ->
  oO P f (.ms id z 0 (aa es)::restv) σ (λv σ'=>v=.ed []/\σ'=σ.set id (.row e z a))
def uu(P:Program)(f:FuncId)(args:eX)(c:bX):Prop:=∃es,c=.rs es/\∀T fn t elem ti a,rk P T->P.funcs[f]?=Z fn->fn.resultTypes.toList=[t]->T t=Z ti->ti.j4=.slice elem->T elem=Z a ->
 ∀σ:bg,oO P f args σ (λv σ'=>v=.ms (σ.next+5) a.size 0 (aa es)/\σ'={ σ with next:=σ.next+7 }.set (σ.next+5) (.row elem a.size es))
def Good(P:Program)(f:FuncId)(args:eX)(c:bX):Prop:=(f<p9->oX P ⟨f,args,c⟩)/\(∀g,g<p9->f=p9+g->Dz P g args c)/\∀g,f=uj+g->uu P g args c
structure LH(P:Program)(ts:List c9)(f:FuncId)(args:List bX)(c:bX):Prop where
 xO:Good P f args c
 is:∃t∈ts,t.f=f/\∃x r,args=a6 t.mW x/\t.fn x=Z r/\c=enc t.nu r
def GV(P:Program)(ts:cu c9)(f:FuncId)(args:eX):dv bX :=open Classical in if h:∃c,LH P ts f args c then Z h.choose else W
def N3(h:GV P ts f args=Z c):LH P ts f args c:=by unfold GV at h;split at h;rename_i a;cases h;exact a.choose_spec;cases h
def Hn:cu c9->FuncId->Bool
 | [],_=>U
 |t::ts,f=>match aw t.f f with
  |true=>Y
  |false=>Hn ts f
def rC(P:Program)(ts:cu c9):lv:=λf=>match Hn ts f with
 |true=>Z (GV P ts f)
 |false=>W
def an4:∀ {ts:cu c9} {t:c9},t∈ts->Hn ts t.f=Y
 | [],_,h=>by simp at h
 |b::ts,t,h=>by
  unfold Hn;split;rfl;rename_i a;rcases aG.1 h with rfl|h
  rw[fL]at a;cases a;exact an4 h
def FV(P:Program)(ts:cu c9):Ak P (rC P ts):=by refine⟨λf φ hf h args c hc=>?_,λf φ hf h=>?_,λf φ h=>?_⟩;unfold rC at h;split at h;cases h;exact(N3 hc).xO.1 hf;cases h;unfold rC at h;split at h;cases h;intro v z rest c hc;exact(N3 hc).xO.2.1 f hf rfl v z rest rfl;cases h;unfold rC at h;split at h;cases h;intro args c hc;exact(N3 hc).xO.2.2 f rfl;cases h
def x':cu c9->Bool
 | []=>Y
 |t::ts=>(ts.all λa=>!Nat.beq t.f a.f||t.mW.sep a.mW)&&x' ts
def aA2:∀ {ts:cu c9},x' ts=Y->∀t∈ts,∀c∈ts,c.f=t.f->∀(x:t.mW.T) (d:c.mW.T),a6 c.mW d=a6 t.mW x->c=t
 | [],_,t,h,_,_,_,_,_,_=>by simp at h
 |a::ts,hs,t,g,c,e,hf,x,d,he=>by
  simp only[x',ab,aj,bx]at hs;rcases aG.1 g with h1|h1
  rcases aG.1 e with h2|h2
  rw[h1,h2];subst h1;rcases hs.1 c h2 with b|b
  rw[hf,fL]at b;cases b;exact b8 he.symm (dr.D7 b x d);rcases aG.1 e with h2|h2
  subst h2;rcases hs.1 t h1 with b|b
  rw[hf,fL]at b;cases b;exact b8 he (dr.D7 b d x);exact aA2 hs.2 t h1 c h2 hf x d he
def tK(hs:x' ts=Y)(b:t∈ts)(h:∀x r,t.fn x=Z r->Good P t.f (a6 t.mW x) (enc t.nu r)):t.Ok (rC P ts):=by intro x r d;refine⟨GV P ts t.f,by unfold rC;rw[an4 b],?_⟩;have hex:∃c,LH P ts t.f (a6 t.mW x) c:=⟨_,h x r d,t,b,rfl,x,r,rfl,d,rfl⟩;unfold GV;rw[dif_pos hex];let ⟨j,g,e,hf,i,k,he,a,hc⟩:=hex.choose_spec;have:=aA2 hs t b g e hf x i he.symm;subst this;have:=xE _ _ _ he;subst this;rw[d]at a;cases a;rw[hc]
def Good.vh(hf:f<p9)(h:oX P ⟨f,args,c⟩):Good P f args c:=by refine⟨λ_=>h,λg _ a=>?_,λg a=>?_⟩<;>exfalso;subst a;exact iG.2 (aZ p9 g) hf;subst a;exact iG.2 (bD (by decide) (aZ uj g)) hf
def Good.sort(h:Dz P g args c)(d:g<p9:=by decide):Good P (p9+g) args c:=by refine⟨λhf=>b8 hf (iG.2 (aZ p9 g)),λb _ a=>?_,λb a=>?_⟩;have:=iX a;rw[<-this];exact h;exfalso;have e:@Eq Nat (1000000+g) (2000000+b):=a;have f:@LT.lt Nat _ g 1000000:=d;omega
def Good.row(h:uu P g args c):Good P (uj+g) args c:=by refine⟨λhf=>b8 hf (iG.2 (bD (by decide) (aZ uj g))),λb a he=>?_,λb a=>?_⟩;have e:@Eq Nat (2000000+g) (1000000+b):=he;have d:@LT.lt Nat _ b 1000000:=a;omega;have:=iX a;rw[<-this];exact h
def bQ5{T:bY}(cb:rk P T){F:FuncId->dv Func}(dC:∀f fn,F f=Z fn->P.funcs[f]?=Z fn)(hm:P.follows .mixedOrders=Y){c:cu c9}(hs:x' ts=Y)(b:∀t∈c,t.Ok (rC P ts))(d:t∈ts)(hf:cL t.f p9=Y)
  {H:cu (Nat×Hint)} {m:Nat} {a:eX} {bb:Nat} {S:Nat->dv dr} (e:uW T c S t.mW t.nu a (Gb T (rC P ts) F H m t.f a bb)=t.fn):t.Ok (rC P ts) :=
 tK hs d λx r g=>Good.vh (by simpa using hf) (aZ6 cb (FV P ts) dC hm b e g)
variable {H:cu (Nat×c7)}{a bb:Nat}{c:Nat×TypeId×Nat}{ck:nW}{e:TypeId}{f i j:Nat}{kv:bX}{m off:Nat}{p:Nat->Bool}{rows:cu eX}{z:Nat}{θ:Nat->bX}{ι:Nat->dv (dv Nat)}
def ef.allI{α:Type}(p:Nat->α->Bool):Nat->Nat->ef α->Bool
 |_,_,.leaf=>Y
 |m,b,.node v l r=>(match v with|some x=>p b x|none=>Y)&&(ef.allI p (2*m) (m+b) l&&ef.allI p (2*m) (2*m+b) r)
def ef.E6{α:Type}{p:Nat->α->Bool}:∀(t:ef α) (m b k:Nat) (v:α),t.allI p m b=Y->t.get k=Z v->p (m*k+b) v=Y
 | .leaf,m,b,k,v,_,h=>by rw[ef.uF]at h;cases h
 | .node x l r,m,b,0,v,h,a=>by simp only[ef.get]at a;simp only[ef.allI,ab]at h;rw[a]at h;simpa using h.1
 | .node x l r,m,b,k+1,v,h,a=>by
  simp only[ef.allI,ab]at h;simp only[ef.get]at a;rcases Nat.mod_two_eq_zero_or_one k with e|e<;>rw[e]at a<;>simp only at a
  have:=ef.E6 l (2*m) (m+b) (k / 2) v h.2.1 a;have c:m*(k+1)+b=2*m*(k / 2)+(m+b):=by
   have:m*(k+1)=m*(2*(k / 2))+m:=by
    have:k+1=2*(k / 2)+1:=by omega
    rw[this,mz,Nat.mul_one]
   rw[this,fY 2 m,lU];omega
  rw[c];exact this;have:=ef.E6 r (2*m) (2*m+b) (k / 2) v h.2.2 a;have c:m*(k+1)+b=2*m*(k / 2)+(2*m+b):=by
   have:m*(k+1)=m*(2*(k / 2))+2*m:=by
    have:k+1=2*(k / 2)+2:=by omega
    rw[this,mz,fY 2 m]
   rw[this,fY 2 m,lU];omega
  rw[c];exact this
structure A3 where
 a:Nat
 e:TypeId
 z:Nat
 j:Nat
 ck:nW
def r9(a:dv A3)(θ:Nat->bX):cu (Nat×c7):=match a with
 |none=>[]
 |some F=>ox F.ck 0 (rowsOf (θ F.j))
def vg(a:dv A3)(θ:Nat->bX):Prop:=match a with
 |none=>True
 |some F=>∃rows,θ F.j=.rs rows/\xU F.ck rows
def bl.full(s:bl)(a:dv A3)(θ:Nat->bX):bl:=(s.sub θ).nb (r9 a θ)
variable {S s:bl}
def zo:nW->nW->Bool
 | [],[]=>Y
 |c::cs,d::a=>aw c.1 d.1&&aw c.2.1 d.2.1&&aw c.2.2 d.2.2&&zo cs a
 |_,_=>U
def JZ:∀ {a b:nW},zo a b=Y->a=b
 | [],[],_=>rfl
 | [],_::_,h=>by simp[zo]at h
 |_::_,[],h=>by simp[zo]at h
 |c::cs,d::g,h=>by simp only[zo,ab]at h;let ⟨⟨⟨h1,h2⟩,e⟩,f⟩:=h;rw[JZ f,show c=d from fC (ae h1) (fC (ae h2) (ae e))]
def ow(b:dv A3)(s:bl)(bb:Nat):Bool:=dI tY s.st.next&&s.st.mZ.allI (λi _=>dI tY i) 1 0&&match b with
 |none=>Y
 |some F=>cL F.j bb&&match s.st.bF F.a with
  |some (.nH e z (.ey j) ck _ _ W)=>aw e F.e&&aw z F.z&&aw j F.j&&zo ck F.ck
  |_=>U
def Ol{a:dv A3}(h:ow a s bb=Y):tY<=s.st.next:=by simp only[ow,ab]at h;exact a_ h.1.1
def NR{a:dv A3}(h:ow a s bb=Y)(a7:i<tY):s.st.bF i=W:=by
 simp only[ow,ab]at h;cases ho:s.st.bF i with
 |none=>rfl
 |some o =>have:=ef.E6 _ _ _ _ _ h.1.2 ho;have:=a_ this;omega
def RG{F:A3}(h:ow (Z F) s bb=Y):F.j<bb:=by simp only[ow,ab]at h;have:=h.2.1;simpa using this
def ay1{F:A3}(h:ow (Z F) s bb=Y):∃k off,s.st.bF F.a=Z (.nH F.e F.z (.ey F.j) F.ck k off W):=by simp only[ow,ab]at h;have:=h.2.2;split at this;rename_i e z j ck k off heq;simp only[ab]at this;let ⟨⟨⟨h1,h2⟩,b⟩,c⟩:=this;rw[heq,ae h1,ae h2,ae b,JZ c];exact⟨k,off,rfl⟩;cases this
def PV{a:dv A3}(h:vg a θ){p:Nat×c7}(hp:p∈r9 a θ):p.1<tY/\rN p.2=Y:=by
 cases a with
 |none=>simp[r9]at hp
 |some F =>let ⟨rows,h1,h2⟩:=h;simp only[r9,h1]at hp;exact Jk h2 hp
def W7{b:dv A3}{a:Nat->bX}(c:ow b s bb=Y)(h:∀i,i<bb->a i=θ i):r9 b a=r9 b θ/\(vg b θ->vg b a):=by
 cases b with
 |none=>exact⟨rfl,λ_=>trivial⟩
 |some F =>have:=h F.j (RG c);exact⟨by simp only[r9,this],λ⟨rows,h1,h2⟩=>⟨rows,by rw[this];exact h1,h2⟩⟩
def Ren.nb{s':bl}(h:Ren ι tY s' s)(hH:∀p∈H,p.1<tY/\rN p.2=Y)(e:∀i,i<tY->s.st.bF i=W):Ren ι 0 (s'.nb H) (s.nb H):=by
 have a:∀i o,(s'.nb H).st.bF i=Z o->(k5 H i=Z o/\i<tY/\rN o=Y)\/s'.st.bF i=Z o:=λi o ho=>by
  rw[bl.tM,sJ]at ho;cases f:k5 H i with
  |some o'=>rw[f]at ho;simp only[ah]at ho;subst ho;exact .inl ⟨rfl,hH _ (wI f)⟩
  |none=>rw[f]at ho;exact .inr ho
 have c:∀i k o,s'.st.bF i=Z o->ι i=Z (Z k)->tY<=k:=λi k o ho hk=>by
  rcases h.bF i o ho with⟨t,o',h1,h2,_⟩|⟨h1,_⟩
  rw[h1]at hk;cases hk;refine ll λg=>?_;rw[e _ g]at h2;cases h2;rw[h1]at hk;cases hk
 refine⟨h.JO,λi a7=>by omega,λi k hk=>by rw[bl.tM,zO];exact h.mW i k hk,di _,λi j k oi oj h1 h2 l n=>?_,h.wc,h.beyond,λi o ho=>?_⟩;rcases a i oi l with⟨_,b,_⟩|b<;>rcases a j oj n with⟨_,c1,_⟩|c1
 have d:=h.low i b;have m:=h.low j c1;rw[h1]at d;rw[h2]at m;cases d;cases m;rfl;have d:=h.low i b;rw[h1]at d;cases d;have:=c j _ oj c1 h2;omega;have d:=h.low j c1;rw[h2]at d;cases d;have:=c i _ oi b h1;omega;exact h.inj i j k oi oj h1 h2 b c1;rcases a i o ho with⟨q,b,r⟩|b
 exact .inl ⟨i,o,h.low i b,by rw[bl.tM,sJ,q],p4.rN r⟩;rcases h.bF i o b with⟨k,o',h1,h2,l⟩|h1
 refine .inl ⟨k,o',h1,?_,l⟩;rw[bl.tM,sJ];cases f:k5 H k with
 |none=>exact h2
 |some o2=>have:=(hH _ (wI f)).1;rw[e _ this]at h2;cases h2
 exact .inr h1
def GR(a z j b:Nat)(p:Nat->Bool)(v:bX):bX:=match v with
 | .c8 c d i=>match aw c a&&aw i j&&aw d z with
  |true=>.c8 a z b
  |false=>match v.ids p with
   |true=>v
   |false=>.any
 |v=>match v.ids p with
  |true=>v
  |false=>.any
def bl.act(S:bl)(a z j b:Nat)(p:Nat->Bool)(σ:bg):bl:={ n:=S.n,mZ:=S.mZ.map (GR a z j b p),st:=σ }
def uy(p:Nat->Bool)(a:Nat)(S:bl):Bool:=S.mZ.allI (λi _=>cL i S.n) 1 0&&S.st.mZ.allI (λi o=>aw i a||(p i&&o.ids p)) 1 0&&p a
def J3(h:uy p a S=Y){o:c7}(ho:S.st.bF i=Z o):i=a\/(p i=Y/\o.ids p=Y):=by
 simp only[uy,ab]at h;have:=ef.E6 _ _ _ _ _ h.1.2 ho;simp only[kE,bx,ab]at this;rcases this with h1|h1
 exact .inl (ae h1);exact .inr h1
def Av(h:uy p a S=Y):p a=Y:=by simp only[uy,ab]at h;exact h.2
def aB1(S:bl)(a z j b:Nat)(p:Nat->Bool)(σ:bg)(t:Nat):(S.act a z j b p σ).get t=GR a z j b p (S.get t):=by
 simp only[bl.act,bl.get,ef.sY];cases S.mZ.get t with
 |none=>simp[GR,bX.ids]
 |some v=>simp
def J4(l:Fit θ){d:Nat}{σ σ0:bg}{m:cu (Nat×c7)}(hp:∀i,p i=Y->ι i=Z (Z i))(b:uy p a { S with st:=σ0 }=Y)(hlen:aa (rowsOf (θ d))=aa (rowsOf (θ j)))
  (f:∀i k,ι i=Z k->i<σ.next) (g:∀i j k,ι i=Z (Z k)->ι j=Z (Z k)->i=j)
  (c:∀i o,(((S.act a z j d p σ).sub θ).nb m).st.bF i=Z o->(∃k o',ι i=Z (Z k)/\((S.sub θ).nb H).st.bF k=Z o'/\p4 ι o o')\/(ι i=Z W/\∃e z,o=.row e z [])) :
  Ren ι 0 (((S.act a z j d p σ).sub θ).nb m) ((S.sub θ).nb H):=by
 refine⟨rfl,λi a7=>by omega,λi k hk=>by rw[bl.tM,zO];exact f i k hk,di _,λi j k oi oj h1 h2 _ _=>g i j k h1 h2,λt q=>?_,λt q=>?_,c⟩;show nI ι (((S.act a z j d p σ).sub θ).get t) ((S.sub θ).get t);rw[bl.tB,bl.tB,aB1];have gen:∀v:bX,nI ι ((match v.ids p with|true=>v|false=>.any).sub θ) (v.sub θ):=λv=>by
  cases hv:v.ids p with
  |true=>exact nI.ids hp (DJ l p v hv)
  |false=>intro G u _;exact .any u
 unfold GR;split;rename_i C D i he;split;rename_i h;simp only[ab]at h;have r:=ae h.1.1;have s:=ae h.1.2;have w:=ae h.2;subst r;subst s;subst w;rw[he];simp only[rA,hlen];exact nI.ids hp (p:=p) (by simp only[bX.ids];exact Av b);exact gen _;exact gen _;show((S.act a z j d p σ).sub θ).get t=.b4 undef;rw[bl.tB,aB1];have x:S.mZ.get t=W:=by
  cases B:S.mZ.get t with
  |none=>rfl
  |some v=>
   simp only[uy,ab]at b;have:=ef.E6 _ _ _ _ _ b.1.1 B;have h1:t<S.n:=by simpa using this
   have h2:S.n<=t:=q;omega
 simp only[bl.get,x,Option.getD_none,GR,bX.ids,bX.sub]
def aq7{v:bX}(h:isNil v=Y):v=.b4 (.slice W 0 0):=by unfold isNil at h;split at h;rfl;cases h
def aE3(h:A5 ck rows=Y)(e:(bX.rs rows).kl=Y):xU ck (rows.map (rp ck 0))/\∀r∈rows,∀g x,(pw ck g).isSome->r[g]?=Z x->x=.b4 (.slice W 0 0):=by
 simp only[A5,ab,kA,aj]at h;let ⟨⟨h1,h2⟩,m⟩:=h;have d:∀r∈rows,∀c∈ck,r[c.1]?=Z (.b4 (.slice W 0 0)):=λr a c hc=>by have:=m r a c hc;split at this;rename_i v hv;rw[hv,aq7 this];cases this
 refine⟨⟨by rw[aI];exact h1,λc hc=>by have:=h2 c hc;simpa using this,?_,λr a c hc=>?_⟩,λr a g x hs l=>?_⟩;have key:∀rows:cu eX,sB rows=Y->sB (rows.map (rp ck 0))=Y:=by
  have row:∀(r:eX) (j:Nat),sa r=Y->sa (rp ck j r)=Y:=by
   intro r
   induction r with
   |nil=>intro _ _;rfl
   |cons v vs i =>intro j a;simp only[sa,ab]at a;simp only[rp,sa,ab];refine⟨?_,i _ a.2⟩;unfold zW;split;rfl;exact a.1
  intro rows
  induction rows with
  |nil=>intro _;rfl
  |cons r rs i =>intro a;simp only[sB,ab]at a;simp only[aD,sB,ab];exact⟨row r 0 a.1,i a.2⟩
 exact key rows (by simpa only[bX.kl]using e);obtain⟨n,k,rfl⟩:=aN.1 a;refine⟨[],?_⟩;rw[IQ,d n k c hc];simp only[ai,bj,zW];have f:(pw ck c.1).isSome=Y:=by rw[pw,kP];exact⟨c,hc,by simp⟩
 cases b:pw ck c.1 with
 |none=>rw[b]at f;cases f
 |some _=>rfl
 cases b:pw ck g with
 |none=>rw[b]at hs;cases hs
 |some c =>let ⟨o,p⟩:=yp b;subst p;have:=d r a c o;rw[this]at l;cases l;rfl
def ta(S:bl)(i:Nat):Bool:=dI tY i&&cL i S.st.next
def Cb(h:ta S i=Y):tY<=i/\i<S.st.next:=by simp only[ta,ab]at h;exact⟨a_ h.1,by simpa using h.2⟩
def bl.own(S:bl)(a:Nat)(e:TypeId)(z j b:Nat)(ck:nW):bl:=S.act a z j b (ta S) (S.st.set a (.nH e z (.ey b) ck (.ey b) tY W))
def bE4(g:Fit θ)(ha:S.st.bF a=Z (.fN e z j))(d:uy (ta S) a S=Y)(hj:θ j=.rs rows)(p:θ m=.rs (rows.map (rp ck 0)))(q:A5 ck rows=Y) :
  ∃ι,Ren ι 0 (((S.own a e z j m ck).sub θ).nb (ox ck 0 (rows.map (rp ck 0)))) ((S.sub θ).nb []):=by
 have f:(bX.rs rows).kl=Y:=by have:=(g j).kl;rw[hj]at this;exact this
 let ⟨J,s⟩:=aE3 q f;let ⟨H,I⟩:=Cb (Av d);let ι:Nat->dv (dv Nat):=λi=>ite (i<tY) (Z W) <|ite (i<S.st.next) (Z (Z i)) <|none
 have t:∀i,i<tY->ι i=Z W:=λi a7=>by simp only[ι,cr a7]
 have b:∀i,ta S i=Y->ι i=Z (Z i):=λi a7=>by let ⟨fa,gb⟩:=Cb a7;simp only[ι,cc (iG.2 fa),cr gb]
 refine⟨ι,J4 g b d (by rw[hj,p];simp[rowsOf]) (λi k hk=>?_) (λi j k h1 h2=>?_) (λi o ho=>?_)⟩;simp only[ι]at hk;show i<S.st.next;split at hk;omega;split at hk;assumption;cases hk;have n:∀i,ι i=Z (Z k)->i=k:=λi a7=>by simp only[ι]at a7;split at a7;cases a7;split at a7;cases a7;rfl;cases a7
 rw[n i h1,n j h2];rw[bl.tM,sJ]at ho;cases n:k5 (ox ck 0 (rows.map (rp ck 0))) i with
 |some o' =>
  rw[n]at ho;simp only[ah]at ho;subst ho;let ⟨r,row,c,fa,gb,kc⟩:=Jq (wI n);cases kc;refine .inr ⟨t _ (xQ _ _),c.2.1,c.2.2,?_⟩;rw[aS]at fa;cases B:rows[r]? with
  |none=>rw[B]at fa;cases fa
  |some u=>
   rw[B]at fa;simp only[ai,ah]at fa;subst fa;have v:(pw ck c.1).isSome=Y:=by rw[pw,kP];exact⟨c,gb,by simp⟩
   simp only[vY,dA,IQ,bj];cases u[c.1]? with
   |none=>rfl
   |some x=>
    simp only[ai,zW];cases h:pw ck c.1 with
    |none=>rw[h]at v;cases v
    |some _=>rfl
 |none=>
  rw[n]at ho;have ho:((S.own a e z j m ck).st.sub θ).bF i=Z o:=ho;rw[bg.x3]at ho;have w:(S.own a e z j m ck).st.bF i=if i=a then Z (.nH e z (.ey m) ck (.ey m) tY W)else S.st.bF i:=bg.x9 _ _ _ _
  rw[w]at ho;by_cases l:i=a;subst l;rw[cr rfl]at ho;simp only[ai,ah]at ho;subst ho;refine .inl ⟨i,(c7.fN e z j).sub θ,b i (Av d),by rw[bl.tM];show(S.st.sub θ).bF i=_;rw[bg.x3,ha];rfl,?_⟩;simp only[c7.sub,vl,hj,p,rowsOf,d_,ur];refine p4.cells (by rw[zw,aI]) (λr M K g1 g2=>?_);rw[wy,aS,g2]at g1;simp only[ai,ah]at g1;subst g1;refine⟨by rw[ym,VF],λD x y g3 g4=>?_⟩;rw[xz,IQ,g4]at g3;simp only[ai,ah,bj]at g3;subst g3;have E:=aH g2;rw[Bq];unfold zW;cases h:pw ck D with
  |none =>obtain⟨B,rfl⟩:=aq.1 g2;obtain⟨G,rfl⟩:=aq.1 g4;exact nI.kl (rY f r B D G)
  |some c =>rw[s K E D y (by rw[h];rfl) g4];exact nI.bo0 (t _ (xQ _ _))
  rw[cc l]at ho;cases C:S.st.bF i with
  |none=>rw[C]at ho;cases ho
  |some o0=>
   rw[C]at ho;simp only[ai,ah]at ho;subst ho;rcases J3 d C with h1|⟨h1,h2⟩
   exact b8 h1 l;exact .inl ⟨i,o0.sub θ,b i h1,by rw[bl.tM];show(S.st.sub θ).bF i=_;rw[bg.x3,C];rfl,p4.ids b g h2⟩
def bl.wS(S:bl)(a:Nat)(e:TypeId)(z j:Nat)(ck:nW)(kv:bX)(off:Nat)(c:Nat×TypeId×Nat)(f:Nat):bl :=S.act a z j j (ta S) { (S.st.set a (.nH e z (.ey j) ck kv off (Z (.c8 S.st.next c.2.2 f)))).set S.st.next (.fN c.2.1 c.2.2 f)with next:=S.st.next+1 }
def aG8(S:bl)(a:Nat)(e:TypeId)(z j:Nat)(ck:nW)(kv:bX)(off:Nat)(c:Nat×TypeId×Nat)(f i:Nat):(S.wS a e z j ck kv off c f).st.bF i=if i=S.st.next then Z (.fN c.2.1 c.2.2 f)else ite (i=a) (Z (.nH e z (.ey j) ck kv off (Z (.c8 S.st.next c.2.2 f)))) <|S.st.bF i:=by show((S.st.set a (.nH e z (.ey j) ck kv off (Z (.c8 S.st.next c.2.2 f)))).set S.st.next (.fN c.2.1 c.2.2 f)).bF i=_;rw[bg.x9,bg.x9]
def bj3(M:Fit θ){N:Nat}{k0:bX}{B:Nat}(ha:S.st.bF a=Z (.nH e z (.ey N) ck k0 B W))(u:uy (ta S) a S=Y)(hnx:tY<=S.st.next)
   (hjc:θ N=.rs rows) (hw:xU ck rows)
  {row:eX} {xs:cu eX} (b:rows[nm (kv.sub θ)]?=Z row) (D:pw ck off=Z c) (g:row[off]?=Z (.rs xs)) (hf:θ f=.rs xs) :
  ∃ι,Ren ι 0 (((S.wS a e z N ck kv off c f).sub θ).nb ((ox ck 0 rows).filter (!Nat.beq ·.1 (hid (nm (kv.sub θ)) off)))) ((S.sub θ).nb (ox ck 0 rows)):=by
 let ⟨hlen,hc,p,O⟩:=hw;generalize hk:nm (kv.sub θ)=k at *;let ⟨hcm,P⟩:=yp D;have hoff:off<16:=by rw[<-P];exact hc c hcm
 have hkl:=(aq.1 b).1;have hhk:hid k off<tY:=xQ _ _;generalize hm:S.st.next=m at *;let ι:Nat->dv (dv Nat):=λi=>ite (i=m) (Z (Z (hid k off))) <|ite (i=hid k off) W <|ite (i<m+1) (Z (Z i)) <|none
 have s:∀i,i≠m->i≠hid k off->i<m+1->ι i=Z (Z i):=λi fa gb kc=>by simp only[ι,cc fa,cc gb,cr kc]
 have h:∀i,ta S i=Y->ι i=Z (Z i):=λi a7=>by let ⟨fa,gb⟩:=Cb a7;exact s i (by omega) (by omega) (by omega)
 have Q:ι m=Z (Z (hid k off)):=by simp[ι]
 refine⟨ι,?_⟩;refine J4 (σ0:=S.st) M h u rfl (λi q K=>?_) (λi j q fa gb=>?_) (λi o ho=>?_);simp only[ι]at K;show i<S.st.next+1;rw[hm];split at K;omega;split at K;cases K;split at K;assumption;cases K;have l:∀i,ι i=Z (Z q)->(i=m/\q=hid k off)\/(i=q/\i≠hid k off):=λi a7=>by simp only[ι]at a7;split at a7;rename_i e1;cases a7;exact .inl ⟨e1,rfl⟩;split at a7;cases a7;rename_i e2;split at a7;cases a7;exact .inr ⟨rfl,e2⟩;cases a7
 rcases l i fa with⟨x1,x2⟩|⟨x1,x2⟩<;>rcases l j gb with⟨y1,y2⟩|⟨y1,y2⟩<;>omega
 rw[bl.tM,sJ,IL]at ho;have hold:∀i o,k5 (ox ck 0 rows) i=Z o->((S.sub θ).nb (ox ck 0 rows)).st.bF i=Z o:=λi o l=>by rw[bl.tM,sJ,l]
 have t:∀i o,tY<=i->(S.sub θ).st.bF i=Z o->((S.sub θ).nb (ox ck 0 rows)).st.bF i=Z o:=λi o a7 l=>by rw[bl.tM,sJ,O6 a7];exact l
 cases l:(ite (i=hid k off) W <|k5 (ox ck 0 rows) i)with
 |some o' =>rw[l]at ho;simp only[ah]at ho;subst ho;split at l;cases l;rename_i E;have G:=Jk ⟨hlen,hc,p,O⟩ (wI l);exact .inl ⟨i,o',s i (by have:=G.1;simp only at this;omega) E (by have:=G.1;simp only at this;omega),hold i o' l,p4.rN G.2⟩
 |none=>
  rw[l]at ho;have ho:((S.wS a e z N ck kv off c f).st.sub θ).bF i=Z o:=ho;rw[bg.x3,aG8,hm]at ho;have hpa:=Cb (Av u);by_cases C:i=m
  case neg=>
   rw[cc C]at ho;by_cases H:i=a
   case neg=>
    rw[cc H]at ho;cases hS:S.st.bF i with
    |none=>rw[hS]at ho;cases ho
    |some o0=>
     rw[hS]at ho;simp only[ai,ah]at ho;subst ho;rcases J3 u hS with h1|⟨h1,h2⟩
     exact b8 h1 H;exact .inl ⟨i,o0.sub θ,h i h1,t i _ (Cb h1).1 (by rw[bl.ua,bg.x3,hS];rfl),p4.ids h M h2⟩
   case pos=>
    subst H;rw[cr rfl]at ho;simp only[ai,ah]at ho;subst ho;refine .inl ⟨i,(c7.nH e z (.ey N) ck k0 B W).sub θ,h i (Av u),t i _ hpa.1 (by rw[bl.ua,bg.x3,ha];rfl),?_⟩;simp only[c7.sub,vl,hjc,rowsOf,ai,rA,hf,hk];have hfl:aa (ur (pd ck 0 rows) k off (Z (.ms m c.2.2 0 (aa xs))))=aa (pd ck 0 rows):=by simp only[ur];split;simp;rfl
    refine p4.cells (by simpa[ur]using hfl) (λr ra rb g1 g2=>?_);have d:(pd ck 0 rows)[r]?=Z rb:=g2;rw[Fu]at g1;simp only[d,ai]at g1;rw[wy]at d;cases R:rows[r]? with
    |none=>rw[R]at d;cases d
    |some row1=>
     rw[R]at d;simp only[ai,ah]at d;have hrl:=(aq.1 R).1;have same:∀n y,rb[n]?=Z y->(r=k->n≠off)->nI ι y y:=λn y g4 E=>by
      rw[<-d,xz]at g4;cases hx:row1[n]? with
      |none=>rw[hx]at g4;cases g4
      |some x=>
       rw[hx]at g4;simp only[ai,ah,bj]at g4;subst g4;rw[Bq];cases hcj:pw ck n with
       |none =>obtain⟨I,rfl⟩:=aq.1 R;obtain⟨J,rfl⟩:=aq.1 hx;exact nI.kl (rY p r I n J)
       |some cj=>
        let ⟨w1,w2⟩:=yp hcj;have hj16:n<16:=by rw[<-w2];exact hc cj w1
        have hne2:=λe=>by let ⟨e1,e2⟩:=PQ (ck:=ck) hlen hrl hkl hj16 hoff e;exact E e1 e2
        have:=xQ r n;exact nI.ms (s _ (by omega) hne2 (by omega))
     by_cases v:r=k;rw[cr v]at g1;simp only[ah]at g1;refine⟨by rw[<-g1];simp,λn x y g3 g4=>?_⟩;rw[<-g1,dx]at g3;by_cases w:off=n;rw[cr w]at g3;split at g3;cases g3;subst w;subst v;rw[R]at b;cases b;rw[<-d,xz,g]at g4;simp only[ai,ah,bj]at g4;rw[<-g4,Bq,D];exact nI.ms Q;cases g3;rw[cc w,g4]at g3;cases g3;exact same n x g4 (λ_=>λe=>w e.symm);rw[cc v]at g1;simp only[ah]at g1;subst g1;exact⟨rfl,λn x y g3 g4=>by rw[g4]at g3;cases g3;exact same n x g4 (b8 · v)⟩
  case pos =>subst C;rw[cr rfl]at ho;simp only[ai,ah]at ho;subst ho;refine .inl ⟨hid k off,.row c.2.1 c.2.2 xs,Q,hold _ _ ?_,?_⟩;rw[OZ hc hlen b hoff,D];simp only[ai,vY,P,dA,g,bM,rowsOf];simp only[c7.sub,hf,rowsOf];refine p4.rN ?_;obtain⟨I,rfl⟩:=aq.1 b;let ⟨J,he⟩:=aq.1 g;have:=rY p k I off J;rw[he]at this;simpa only[rN,bX.kl]using this
def Gs(S:bl)(m i:Nat):Bool:=ta S i&&!Nat.beq i m
def Qh(h:Gs S m i=Y):tY<=i/\i<S.st.next/\i≠m:=by simp only[Gs,ab]at h;let ⟨fa,gb⟩:=Cb h.1;exact⟨fa,gb,λe=>by rw[e,fL]at h;cases h.2⟩
def bl.Cy(S:bl)(a:Nat)(e:TypeId)(z j b:Nat)(ck:nW)(m:Nat):bl:=S.act a z j b (Gs S m) ((S.st.del m).set a (.nH e z (.ey b) ck (.ey b) tY W))
def aM3(S:bl)(a:Nat)(e:TypeId)(z j b:Nat)(ck:nW)(m i:Nat):(S.Cy a e z j b ck m).st.bF i=if i=a then Z (.nH e z (.ey b) ck (.ey b) tY W)else ite (i=m) W <|S.st.bF i:=by show((S.st.del m).set a (.nH e z (.ey b) ck (.ey b) tY W)).bF i=_;rw[bg.x9,bg.rK]
def bR9(I:Fit θ){jc jc':Nat}(ha:S.st.bF a=Z (.nH e z (.ey jc) ck kv off (Z (.c8 m c.2.2 f))))(hm:S.st.bF m=Z (.fN c.2.1 c.2.2 f))(B:uy (Gs S m) a { S with st:=S.st.del m }=Y)(hnx:tY<=m/\tY<=S.st.next)
  {rows:List (List bX)} (hjc:θ jc=.rs rows) (hw:xU ck rows)
  {row:List bX} {xs ys:List (List bX)} (b:rows[nm (kv.sub θ)]?=Z row) (J:pw ck off=Z c) (K:row[off]?=Z (.rs ys)) (hf:θ f=.rs xs) (D:θ jc'=.rs (sK rows (nm (kv.sub θ)) off (.rs xs))) :
  ∃ι,Ren ι 0 (((S.Cy a e z jc jc' ck m).sub θ).nb (ox ck 0 (sK rows (nm (kv.sub θ)) off (.rs xs)))) ((S.sub θ).nb ((ox ck 0 rows).filter (!Nat.beq ·.1 (hid (nm (kv.sub θ)) off)))):=by
 have hxs:(bX.rs xs).kl=Y:=by rw[<-hf];exact(I f).kl
 have hw':=hw.put (k:=nm (kv.sub θ)) (off:=off) hxs;obtain⟨hlen,hc,E,hown⟩:=hw;generalize hk:nm (kv.sub θ)=k at *;obtain⟨hcm,hc1⟩:=yp J;have hoff:off<16:=by rw[<-hc1];exact hc c hcm
 have M:=(aq.1 b).1;have hhk:hid k off<tY:=xQ _ _;have G:=(aq.1 K).1;let ι:Nat->Option (Option Nat):=λi=>ite (i=hid k off) (Z (Z m)) <|ite (i=m) W <|ite (i<S.st.next) (Z (Z i)) <|none
 have l:∀i,i≠m->i≠hid k off->i<S.st.next->ι i=Z (Z i):=λi fa gb kc=>by simp only[ι,cc fa,cc gb,cr kc]
 have n:=λi a7=>by obtain⟨fa,gb,kc⟩:=Qh a7;exact l i kc (by omega) gb
 have him:ι (hid k off)=Z (Z m):=by simp[ι]
 have d:∀r,(sK rows k off (.rs xs))[r]?=if r=k then Z (row.set off (.rs xs))else rows[r]?:=Ws b
 refine⟨ι,?_⟩;refine J4 (σ0:=S.st.del m) I n B (by rw[hjc,D];simp[rowsOf,E3]) (λi q hq=>?_) (λi j q fa gb=>?_) (λi o ho=>?_);simp only[ι]at hq;show i<S.st.next;split at hq;omega;split at hq;cases hq;split at hq;assumption;cases hq;have g:∀i,ι i=Z (Z q)->(i=hid k off/\q=m)\/(i=q/\i≠m):=λi a7=>by simp only[ι]at a7;split at a7;rename_i e1;cases a7;exact .inl ⟨e1,rfl⟩;split at a7;cases a7;rename_i e2;split at a7;cases a7;exact .inr ⟨rfl,e2⟩;cases a7
 rcases g i fa with⟨x1,x2⟩|⟨x1,x2⟩<;>rcases g j gb with⟨y1,y2⟩|⟨y1,y2⟩<;>omega
 rw[bl.tM,sJ]at ho;have hold:∀i o,i≠hid k off->k5 (ox ck 0 rows) i=Z o->((S.sub θ).nb ((ox ck 0 rows).filter (!Nat.beq ·.1 (hid k off)))).st.bF i=Z o:=λi o N g=>by rw[bl.tM,sJ,IL,cc N,g]
 have h:∀i o,tY<=i->(S.sub θ).st.bF i=Z o->((S.sub θ).nb ((ox ck 0 rows).filter (!Nat.beq ·.1 (hid k off)))).st.bF i=Z o:=λi o a7 g=>by rw[bl.tM,sJ,IL,cc (by omega),O6 a7];exact g
 cases g:k5 (ox ck 0 (sK rows k off (.rs xs))) i with
 |some o' =>
  rw[g]at ho;simp only[ah]at ho;subst ho;have hpr:=Jk hw' (wI g);by_cases C:i=hid k off;subst C;rw[OZ hc (by rw[E3];exact hlen) (row:=row.set off (.rs xs)) (by rw[d,cr rfl]) hoff,J]at g;simp only[ai,vY,hc1,dA,dx,G,ah]at g;subst g;refine .inl ⟨m,_,him,h m ((c7.fN c.2.1 c.2.2 f).sub θ) hnx.1 (by rw[bl.ua,bg.x3,hm];rfl),?_⟩;simp only[c7.sub,hf];exact p4.rN hpr.2;have hh2:k5 (ox ck 0 rows) i=Z o':=by
   rw[Jo hc _ _ _ (by rw[E3];simpa using hlen)]at g;rw[Jo hc _ _ _ (by simpa using hlen),<-g];simp only[ Nat.sub_zero,d];by_cases H:i / 16=k;rw[cr H,H,b];cases t:pw ck (i%16)with
   |none=>rfl
   |some cj =>obtain⟨w1,w2⟩:=yp t;have N:off≠cj.1:=λe2=>C (by rw[Gv hoff (by omega)];omega);simp only[ai,vY,dA,dx,cc N]
   rw[cc H]
  exact .inl ⟨i,o',l i (by omega) C (by omega),hold i o' C hh2,p4.rN hpr.2⟩
 |none=>
  rw[g]at ho;have ho:((S.Cy a e z jc jc' ck m).st.sub θ).bF i=Z o:=ho;rw[bg.x3,aM3]at ho;have hpa:=Qh (Av B);by_cases O:i=a
  case neg=>
   rw[cc O]at ho;by_cases u:i=m;rw[cr u]at ho;cases ho;rw[cc u]at ho;cases hS:S.st.bF i with
   |none=>rw[hS]at ho;cases ho
   |some o0=>
    rw[hS]at ho;simp only[ai,ah]at ho;subst ho;have hS':(S.st.del m).bF i=Z o0:=by rw[bg.rK,cc u,hS]
    rcases J3 (S:={ S with st:=S.st.del m }) B hS' with h1|⟨h1,h2⟩
    exact b8 h1 O;exact .inl ⟨i,o0.sub θ,n i h1,h i _ (Qh h1).1 (by rw[bl.ua,bg.x3,hS];rfl),p4.ids n I h2⟩
  case pos=>
   subst O;rw[cr rfl]at ho;simp only[ai,ah]at ho;subst ho;refine .inl ⟨i,(c7.nH e z (.ey jc) ck kv off (Z (.c8 m c.2.2 f))).sub θ,n i (Av B),h i _ hpa.1 (by rw[bl.ua,bg.x3,ha];rfl),?_⟩;simp only[c7.sub,vl,hjc,D,rowsOf,ai,rA,hf,hk];have hfl:aa (ur (pd ck 0 rows) k off (Z (.ms m c.2.2 0 (aa xs))))=aa rows:=by simp only[ur];split;simp[zw];exact zw _ _ _
   refine p4.cells (by rw[hfl];simp[ur,zw,E3]) (λr ra rb g1 g2=>?_);have p:(pd ck 0 (sK rows k off (.rs xs)))[r]?=Z ra:=g1;rw[wy,d]at p;rw[Fu,wy]at g2;by_cases P:r=k;subst P;simp only[vE,ai,ah,b]at p g2;subst p;subst g2;refine⟨by simp[ym],λs x y g3 g4=>?_⟩;rw[xz,dx]at g3;rw[dx,ym]at g4;by_cases Q:off=s;subst Q;simp only[vE,G,ai,ah,bj]at g3 g4;rw[<-g3,<-g4,Bq,J];exact nI.ms him;rw[cc Q]at g3 g4;rw[xz]at g4;rw[g4]at g3;cases g3;cases R:row[s]? with
   |none=>rw[R]at g4;cases g4
   |some x0=>
    rw[R]at g4;simp only[ai,ah,bj]at g4;rw[<-g4,Bq];cases t:pw ck s with
    |none =>obtain⟨hr1,rfl⟩:=aq.1 b;obtain⟨hjj,rfl⟩:=aq.1 R;exact nI.kl (rY E r hr1 s hjj)
    |some cj=>
     obtain⟨w1,w2⟩:=yp t;have v:s<16:=by rw[<-w2];exact hc cj w1
     have w:=λe=>by obtain⟨e1,e2⟩:=PQ (ck:=ck) hlen M M v hoff e;exact Q e2.symm
     have:=xQ r s;exact nI.ms (l _ (by omega) w (by omega))
   simp only[cc P]at p g2;rw[g2]at p;cases p;refine⟨rfl,λs x y g3 g4=>?_⟩;rw[g4]at g3;cases g3;cases H:rows[r]? with
   |none=>rw[H]at g2;cases g2
   |some row1=>
    rw[H]at g2;simp only[ai,ah]at g2;subst g2;have hrl:=(aq.1 H).1;rw[xz]at g4;cases R:row1[s]? with
    |none=>rw[R]at g4;cases g4
    |some x0=>
     rw[R]at g4;simp only[ai,ah,bj]at g4;rw[<-g4,Bq];cases t:pw ck s with
     |none =>obtain⟨hr1,rfl⟩:=aq.1 H;obtain⟨hjj,rfl⟩:=aq.1 R;exact nI.kl (rY E r hr1 s hjj)
     |some cj=>
      obtain⟨w1,w2⟩:=yp t;have v:s<16:=by rw[<-w2];exact hc cj w1
      have w:=λe=>by obtain⟨e1,e2⟩:=PQ (ck:=ck) hlen hrl M v hoff e;exact P e1
      have:=xQ r s;exact nI.ms (l _ (by omega) w (by omega))
def P4(ck:cu Nat)(j:Nat)(v:bX):bX:=match ck.any (aw j)&&isNil v with
 |true=>.rs []
 |false=>v
def yJ(ck:cu Nat):Nat->eX->eX
 |_,[]=>[]
 |j,v::vs=>P4 ck j v::yJ ck (j+1) vs
def Xf(ck:cu Nat):∀(row:eX) (a j:Nat),(yJ ck a row)[j]?=(row[j]?).map (P4 ck (a+j))
 | [],a,j=>by simp[yJ]
 |v::vs,a,0=>by simp[yJ]
 |v::vs,a,j+1=>by simp only[yJ,List.getElem?_cons_succ];rw[Xf ck vs (a+1) j];congr 2;omega
def VU(ck:cu Nat):∀(row:eX) (a:Nat),aa (yJ ck a row)=aa row
 | [],_=>rfl
 |_::vs,a=>by simp[yJ,VU ck vs]
def bl.yW(S:bl)(a:Nat)(e:TypeId)(z:Nat)(es:cu eX)(ck:cu Nat):bl:=S.act a z 0 0 (ta S) (S.st.set a (.row e z (es.map (yJ ck 0))))
def bo6(c:Fit θ){es:cu eX}{ck:cu Nat}(ha:S.st.bF a=Z (.row e z es))(d:uy (ta S) a S=Y)(hes:t_ (ta S) es=Y) :
  ∃ι,Ren ι 0 (((S.yW a e z es ck).sub θ).nb []) ((S.sub θ).nb []):=by
 let ι:Nat->dv (dv Nat):=λi=>ite (i<S.st.next) (Z (Z i)) <|none
 have b:∀i,ta S i=Y->ι i=Z (Z i):=λi a7=>by let ⟨fa,gb⟩:=Cb a7;simp only[ι,cr gb]
 refine⟨ι,J4 c b d rfl (λi k hk=>?_) (λi j k h1 h2=>?_) (λi o ho=>?_)⟩;simp only[ι]at hk;split at hk;assumption;cases hk;have n:∀i,ι i=Z (Z k)->i=k:=λi a7=>by simp only[ι]at a7;split at a7;cases a7;rfl;cases a7
 rw[n i h1,n j h2];have ho:((S.yW a e z es ck).st.sub θ).bF i=Z o:=ho;rw[bg.x3]at ho;have g:(S.yW a e z es ck).st.bF i=if i=a then Z (.row e z (es.map (yJ ck 0)))else S.st.bF i:=bg.x9 _ _ _ _
 rw[g]at ho;by_cases f:i=a;subst f;rw[cr rfl]at ho;simp only[ai,ah]at ho;subst ho;refine .inl ⟨i,(c7.row e z es).sub θ,b i (Av d),by show(S.st.sub θ).bF i=_;rw[bg.x3,ha];rfl,?_⟩;refine p4.cells (by simp) (λr s t g1 g2=>?_);rw[aS,aS]at g1;rw[aS]at g2;cases h:es[r]? with
 |none=>rw[h]at g2;cases g2
 |some row=>
  rw[h]at g1 g2;simp only[ai,ah]at g1 g2;subst g1;subst g2;refine⟨by simp[VU],λq x y g3 g4=>?_⟩;rw[aS,Xf]at g3;rw[aS]at g4;cases m:row[q]? with
  |none=>rw[m]at g4;cases g4
  |some v =>rw[m]at g3 g4;simp only[ai,ah]at g3 g4;subst g3;subst g4;unfold P4;split;rename_i p;simp only[ab]at p;rw[aq7 p.2];intro G u h;cases h;exact .q9;have hv:=wJ (DB hes row (aH h)) v (aH m);exact nI.ids b (DJ c _ v hv)
 rw[cc f]at ho;cases l:S.st.bF i with
 |none=>rw[l]at ho;cases ho
 |some o0=>
  rw[l]at ho;simp only[ai,ah]at ho;subst ho;rcases J3 d l with h1|⟨h1,h2⟩
  exact b8 h1 f;exact .inl ⟨i,o0.sub θ,b i h1,by show(S.st.sub θ).bF i=_;rw[bg.x3,l];rfl,p4.ids b c h2⟩
variable {a:dv A3}{bb:Nat}{e:TypeId}{j kv off:Nat}{rows:cu eX}{t:TypeId}{ti:nk}{v:bX}{z:Nat}{θ:Nat->bX}
inductive tT
 |own (slot:Nat) (ck:nW)
 |wS (slot:Nat) (t:TypeId) (off:Nat)
 |yW (slot:Nat) (ck:List Nat)
def uD:cu (Nat×c7)->dv A3
 | []=>W
 | (a,.nH e z (.ey j) ck _ _ W)::_=>Z ⟨a,e,z,j,ck⟩
 |_::l=>uD l
def Dr(l:Nat)(j9:eX):dv A3->dv A3->Bool
 |none,W=>Y
 |some F,Z a=>zo a.ck F.ck&&match qC l j9 a.j with
  | .ey i=>aw i F.j
  |_=>U
 |_,_=>U
def aE4{l:Nat}{j9:eX}{b:dv A3}(h:Dr l j9 b a=Y)(θ:Nat->bX):r9 a (λi=>(qC l j9 i).sub θ)=r9 b θ/\(vg b θ->vg a (λi=>(qC l j9 i).sub θ)):=by
 cases b with
 |none=>cases a with
  |none=>exact⟨rfl,λ_=>trivial⟩
  |some _=>simp[Dr]at h
 |some F=>cases a with
  |none=>simp[Dr]at h
  |some c =>simp only[Dr,ab]at h;let ⟨h1,h2⟩:=h;split at h2;rename_i i a7;have e:=ae h2;subst e;have hc:=JZ h1;refine⟨by simp only[r9,a7,vl,hc],λ⟨rows,g1,g2⟩=>⟨rows,by simp only[a7];exact g1,by rw[hc];exact g2⟩⟩;cases h2
abbrev xq:=dv A3->qQ->bl->Nat->nf
variable (T:bY) (Φ:lv) (F:FuncId->dv Func) (H:Nat->dv Hint) (acts:Nat->dv tT)
def F2(a:dv A3)(k:xq):zu:=λe s bb=>match ow a s bb with
 |true=>k a e s bb
 |false=>.stuck
def VZ(T:bY)(M:A3)(kv:Nat)(t:TypeId)(off:Nat)(c:Nat×TypeId×Nat)(k:xq):zu:=λe s bb=>match s.st.bF M.a with
 |some (.nH g h (.ey i) b (.ey l) d (Z (.c8 m z2 f)))=>match s.st.bF m with
  |some (.fN n z3 f3)=>
   match aw g M.e&&aw h M.z&&aw i M.j&&zo b M.ck&&aw l kv&&aw d off&&aw z2 c.2.2&&aw n c.2.1&&aw z3 c.2.2&&aw f3 f&&uy (Gs s m) M.a { s with st:=s.st.del m }&&dI tY m&&ow W s bb&&s.ff bb&&cL f bb with
   |true=>.op (.rows [f]) bb (.b4 (.bool Y)) (.op (.za t M.e M.z (.ey M.j) (.ey kv) off (.ey f)) bb (.ey bb) (k (Z { M with j:=bb }) e (s.Cy M.a M.e M.z M.j bb M.ck m) (bb+1)))
   |false=>.stuck
  |_=>.stuck
 |_=>.stuck
def Mn(m:Nat)(id:Nat)(b:dv A3)(c:Code)(s:bl)(bb:Nat)(k:xq):nf:=match acts id with
 |none=>exec T Φ F H m tY c s bb (F2 b k)
 |some (.own hF ck)=>match b,s.get hF with
  |none,.c8 a z j=>match s.st.bF a with
   |some (.fN e d f)=>match aw f j&&aw d z&&uy (ta s) a s&&s.ff bb&&cL j bb&&ow (Z ⟨a,e,z,bb,ck⟩) (s.own a e z j bb ck) (bb+1)with
    |true=>.op (.Cd ck (.ey j)) bb (.ey bb) (exec T Φ F H m tY c (s.own a e z j bb ck) (bb+1) (F2 (Z ⟨a,e,z,bb,ck⟩) k))
    |false=>.stuck
   |_=>.stuck
  |_,_=>.stuck
 |some (.yW hF ck)=>match b,s.get hF with
  |none,.ms a _ _ _=>match s.st.bF a with
   |some (.row e z es)=>match uy (ta s) a s&&t_ (ta s) es&&ow W (s.yW a e z es ck) bb with
    |true=>exec T Φ F H m tY c (s.yW a e z es ck) bb (F2 W k)
    |false=>.stuck
   |_=>.stuck
  |_,_=>.stuck
 |some (.wS hF t off)=>match b,s.get hF with
  |some M,.ey kv=>match pw M.ck off,T t with
   |some tR,Z ti=>match !ti.isAgg&&aw ti.size 1&&uy (ta s) M.a s&&s.ff bb&&cL kv bb&&ow W (s.wS M.a M.e M.z M.j M.ck (.ey kv) off tR bb) (bb+1)with
    |true=>.op (.x4 t M.e M.z (.ey M.j) (.ey kv) off) bb (.ey bb) (exec T Φ F H m tY c (s.wS M.a M.e M.z M.j M.ck (.ey kv) off tR bb) (bb+1) (VZ T M kv t off tR k))
    |false=>.stuck
   |_,_=>.stuck
  |_,_=>.stuck
def uJ:Nat->dv A3->Code->bl->Nat->xq->nf
 | 0,_,_,_,_,_=>.stuck
 |m+1,g,c,s,bb,k=>match c with
  | .seq a b=>uJ m g a s bb λl e s' f=>match e with
   | .nr=>uJ m l b s' f k
   |e=>k l e s' f
  | .cond x a b=>match s.eval x with
   | .b4 (.bool t)=>uJ m g (ite t a b) s bb k
   | .ey i=>.test i (uJ m g a (s.mU (qp i Y)) bb k) (uJ m g b (s.mU (qp i U)) bb k)
   |_=>.stuck
  | .block id b=>uJ m g b s bb λl e s' f=>match e with
   | .oA j=>k l (ite (j=id) .nr <| .oA j) s' f
   |e=>k l e s' f
  | .scope b=>uJ m g b s bb k
  | .loop b=>match H (uX bb b s)with
   |some h=>match DD tY bb h s,h.state.ff (bb+h.k)&&ow (uD h.bF) h.state (bb+h.k)&&ow g s bb with
    |some inits,Y=>match Dr bb inits g (uD h.bF)with
     |true=>.loop bb h.k inits (uJ m (uD h.bF) b h.state (bb+h.k+1) λn e s' f=>match e with
      | .nr=>match DD tY bb h s' with
       |some j9=>match Dr bb j9 n (uD h.bF)&&ow n s' f with
        |true=>.again bb j9
        |false=>.stuck
       |none=>.stuck
      |e=>k n e s' f)
     |false=>.stuck
    |_,_=>.stuck
   |none=>.stuck
  | .region id ops d=>match ow g s bb with
   |true=>Mn T Φ F H acts m id g (.region id ops d) s bb k
   |false=>.stuck
  | .skip=>k g .nr s bb
  | .label _=>k g .nr s bb
  | .exit id=>k g (.oA id) s bb
  | .ret=>k g .ret s bb
  |_=>.stuck
def LJ(T:bY)(fn:Func):xq:=λb e s bb=>match b with
 |none=>match ow W s bb with
  |true=>JC T fn e s bb
  |false=>.stuck
 |some M=>match e with
  | .oA _=>.stuck
  |_=>match ow (Z M) s bb,fn.results.toList with
   |true,[.tmp t]=>match s.get t with
    | .c8 a z j=>match aw a M.a&&aw z M.z&&aw j M.j with
     |true=>.ret (.ey M.j) []
     |false=>.stuck
    |_=>.stuck
   |_,_=>.stuck
section
variable {P:Program} {T:bY} (cb:rk P T) {Φ:lv} (hΦ:Ak P Φ) {F:FuncId->dv Func} (dC:∀f fn,F f=Z fn->P.funcs[f]?=Z fn) (hm:P.follows .mixedOrders=Y) {Q:bX->Prop}
def Hp(T:bY)(Φ:lv)(Q:bX->Prop)(bb:Nat)(θ:Nat->bX)(A:Nat->eX->Prop)(k:xq)(e:Exit)(t:bl):Prop :=∃d a g c h b,e=qQ.qP d/\bb<=c/\Fit a/\(∀i,i<bb->a i=θ i)/\(∀l,l<bb->h l=A l)/\t=g.full b a/\vg b a/\mV T Φ Q (k b d g c) a h
include cb hΦ dC hm in
theorem Ry{H:Nat->dv Hint}{m:Nat}{c:Code}{S:bl}{k:zu}{A:Nat->eX->Prop}{n:cu (Nat×c7)}(hH:∀p∈n,p.1<tY/\rN p.2=Y){o:Nat}(r:ow W S o=Y)(q:Fit θ)
  (h:mV T Φ Q (exec T Φ F H m tY c S bb k) θ A) :
  j5 P 0 c (λe t=>∃d a g b j,e=qQ.qP d/\bb<=b/\Fit a/\(∀i,i<bb->a i=θ i)/\(∀l,l<bb->j l=A l)/\t=(g.sub a).nb n/\mV T Φ Q (k d g b) a j) ((S.sub θ).nb n):=by
 have s:=JR cb hΦ dC hm (H:=H) m tY c S bb k θ A q h;refine j5.mono (j5.lower (di tY) (by rw[bl.tM,zO];exact(Ol r:tY<=S.st.next)) (j5.frame (λp hp=>?_) s)) ?_;let ⟨h1,h2⟩:=hH p hp;exact⟨h1,h2,by rw[bl.ua,bg.x3,NR r h1];rfl⟩;rintro e t ⟨s',⟨d,a,g,b,j,rfl,fa,gb,kc,yF,rfl,mn⟩,rfl⟩;exact⟨d,a,g,b,j,rfl,fa,gb,kc,yF,rfl,mn⟩
theorem aI9{s:bl}(h:ow a s bb=Y):ow W s bb=Y:=by simp only[ow,ab]at h⊢;exact⟨h.1,trivial⟩
theorem bS6(cs:eX)(j:Nat)(v:bX)(h:j+1<=aa cs):qz cs j [v]=cs.set j v:=by apply dU;intro k;rw[Nz cs j [v] (by simpa using h) k,dx];by_cases e:j=k;subst e;rw[cr (by simp),cr rfl,cr (by omega)];simp;rw[cc (by simp;omega),cc e]
theorem aZ4(c:T t=Z ti)(a:ti.isAgg=U)(hj:θ j=.rs rows)(h:iv T Φ θ (.x4 t e z (.ey j) (.ey kv) off)=Z v):∃row,rows[nm (θ kv)]?=Z row/\row[off]?=Z v:=by
 have qJ:(tW e z (.rs rows)).bF 0=Z (.row e z rows):=by simp[tW,bg.x9,rowsOf]
 simp only[iv,vl,hj,py,qJ]at h;cases b:rows[nm (θ kv)]? with
 |none=>rw[b]at h;cases h
 |some row =>rw[b]at h;simp only[c,sj,a]at h;exact⟨row,rfl,by simpa using h⟩
theorem aX2(c:T t=Z ti){f:Nat}{xs:cu eX}(hj:θ j=.rs rows)(hf:θ f=.rs xs)(h:iv T Φ θ (.za t e z (.ey j) (.ey kv) off (.ey f))=Z v):v=.rs (sK rows (nm (θ kv)) off (.rs xs)):=by
 have qJ:(tW e z (.rs rows)).bF 0=Z (.row e z rows):=by simp[tW,bg.x9,rowsOf]
 simp only[iv,vl,hj,hf,sq,bX.cells,c,qJ]at h;cases b:rows[nm (θ kv)]? with
 |none=>rw[b]at h;cases h
 |some row =>rw[b]at h;simp only at h;split at h;rename_i σ a;split at a;rename_i hc;cases a;simp only[bg.x9,vE]at h;split at h;cases h;simp only[sK,b];rw[bS6 _ _ _ (by simpa using hc.2.1)];cases h;cases a;cases h
end
end
end Go.Ab
namespace Go.Ab
open Go
variable [nO]
variable {G:ca}{H:Nat->dv Hint}{S:bl}{acts:Nat->dv tT}{b:A3}{bb:Nat}{c:Code}{f:FuncId}{i:Nat}{k:xq}{m:Nat}{r:bX}{rows:cu eX}{w:World}{θ:Nat->bX}
section
variable {P:Program} {T:bY} (cb:rk P T) {Φ:lv} (hΦ:Ak P Φ) {F:FuncId->dv Func} (dC:∀f fn,F f=Z fn->P.funcs[f]?=Z fn) (hm:P.follows .mixedOrders=Y) {Q:bX->Prop}
include cb hΦ dC hm in
theorem Lm{a:dv A3}{A:Nat->eX->Prop}(i:ow a S bb=Y)(hw:vg a θ)(b:Fit θ)
  (h:mV T Φ Q (exec T Φ F H m tY c S bb (F2 a k)) θ A):j5 P 0 c (Hp T Φ Q bb θ A k) (S.full a θ):=by
 refine j5.mono (Ry cb hΦ dC hm (λp hp=>PV hw hp) (aI9 i) b h) ?_;rintro e t ⟨j,d,l,g,n,rfl,fa,gb,kc,yF,rfl,mn⟩;let ⟨g1,g2⟩:=W7 i kc;unfold F2 at mn;split at mn;exact⟨j,d,l,g,n,a,rfl,fa,gb,kc,yF,by simp only[bl.full,g1],g2 hw,mn⟩;exact mn.elim
theorem aU3{H:cu (Nat×c7)}(h:∀p∈H,p.1<tY/\rN p.2=Y)(q:Nat×c7->Bool):∀p∈H.filter q,p.1<tY/\rN p.2=Y:=λp hp=>h p (List.mem_filter.1 hp).1
include cb hΦ dC hm in
theorem aU6{id:Nat}{μ:dv A3}{s:bl}{A:Nat->eX->Prop}(hB:ow μ s bb=Y)(hw:vg μ θ)(C:Fit θ)
  (h:mV T Φ Q (Mn T Φ F H acts m id μ c s bb k) θ A):j5 P 0 c (Hp T Φ Q bb θ A k) (s.full μ θ):=by
 unfold Mn at h;split at h;exact Lm cb hΦ dC hm hB hw C h;rename_i hF ck G;split at h;rename_i a z j hsl;split at h;rename_i e z' I ho;split at h;rename_i hc;simp only[ab]at hc;obtain⟨⟨⟨⟨⟨c1,c2⟩,c3⟩,c4⟩,c5⟩,c6⟩:=hc;have e1:=ae c1;have e2:=ae c2;subst e1;subst e2;have D:I<bb:=by simpa[bP]using c5
 let ⟨q,g1,g2,g3,g4⟩:=h;have J:∃rows,θ I=.rs rows/\A5 ck rows=Y/\q bb=.rs (rows.map (rp ck 0)):=by simp only[iv,vl]at g3;split at g3;rename_i rows hr;split at g3;rename_i o;exact⟨rows,hr,o,(aJ g3).symm⟩;cases g3;cases g3
 let ⟨rows,hj,o,K⟩:=J;have hjt:q I=.rs rows:=by rw[g1 I D];exact hj
 let ⟨ι,g⟩:=bE4 g2 ho c3 hjt K o;have hpur:(bX.rs rows).kl=Y:=by have:=(C I).kl;rw[hj]at this;exact this
 have hw':vg (Z ⟨a,e,z',bb,ck⟩) q:=⟨_,K,(aE3 o hpur).1⟩;have qJ:s.full W θ=(s.sub q).nb []:=by show(s.sub θ).nb []=_;rw[bl.nL g1 c4]
 rw[qJ];have N:((s.own a e z' I bb ck).sub q).nb (ox ck 0 (rows.map (rp ck 0)))=(s.own a e z' I bb ck).full (Z ⟨a,e,z',bb,ck⟩) q:=by simp only[bl.full,r9,K,rowsOf]
 rw[N]at g;refine j5.conv g (j5.mono (Lm cb hΦ dC hm c6 hw' g2 g4) ?_);rintro e0 t ⟨e',r,S',fr',A',μ',rfl,fa,gb,kc,yF,rfl,mn⟩;exact⟨e',r,S',fr',A',μ',rfl,by omega,gb,λi a7=>(kc i (by omega)).trans (g1 i a7),λl hl=>yF l (by omega),rfl,mn⟩;exact h.elim;exact h.elim;exact h.elim;rename_i hF ck G;split at h;rename_i a _ _ _ hsl;split at h;rename_i e z es ho;split at h;rename_i hc;simp only[ab]at hc;let ⟨⟨c1,c2⟩,c3⟩:=hc;let ⟨ι,g⟩:=bo6 (ck:=ck) C ho c1 c2;exact j5.conv g (Lm cb hΦ dC hm c3 trivial C h);exact h.elim;exact h.elim;exact h.elim;rename_i hF t off G;split at h;rename_i M kv hsl;split at h;rename_i tR ti v hti;split at h;rename_i hc;simp only[ab]at hc;obtain⟨⟨⟨⟨⟨c1,c2⟩,c3⟩,c4⟩,c5⟩,c6⟩:=hc;have hagg:ti.isAgg=U:=by simpa using c1
 have hkf:kv<bb:=by simpa[bP]using c5
 have D:=RG hB;let ⟨rows,hj,w⟩:=hw;let ⟨u,g1,g2,g3,g4⟩:=h;let ⟨row,x,n⟩:=aZ4 hti hagg hj g3;let ⟨hcm,hc1⟩:=yp v;let ⟨xs,hxs⟩:=w.2.2.2 row (aH x) tR hcm;rw[hc1,n]at hxs;have hf1:u bb=.rs xs:=by simpa using hxs
 rw[vl,hf1]at n;have hj1:u M.j=.rs rows:=by rw[g1 _ D];exact hj
 have O:u kv=θ kv:=g1 kv hkf;let ⟨k0,off0,hobj⟩:=ay1 hB;let ⟨ι,g⟩:=bj3 (S:=s) g2 (kv:=.ey kv) (off:=off) (c:=tR) (f:=bb) hobj c3 (Ol hB) hj1 w (by rw[vl,O];exact x) v n hf1;have qJ:s.full (Z M) θ=(s.sub u).nb (ox M.ck 0 rows):=by simp only[bl.full,r9,hj,rowsOf];rw[bl.nL g1 c4]
 rw[qJ];refine j5.conv g ?_;have hfil:=aU3 (H:=ox M.ck 0 rows) (λp hp=>Jk w hp) (!Nat.beq ·.1 (hid (nm ((bX.ey kv).sub u)) off));refine j5.bf6 (j5.mono (Ry cb hΦ dC hm hfil c6 g2 g4) ?_);rintro e0 t0 ⟨e',r,S2,d,A2,rfl,fa,gb,kc,yF,rfl,mn⟩;unfold VZ at mn;split at mn;rename_i e1 nq j1 cols1 k1 off1 m1 z2 f1 ho1;split at mn;rename_i e3 z3 f3 ho3;split at mn;rename_i hc2;simp only[ab]at hc2;obtain⟨⟨⟨⟨⟨⟨⟨⟨⟨⟨⟨⟨⟨⟨d1,d2⟩,d3⟩,d4⟩,d5⟩,d6⟩,d7⟩,d8⟩,d9⟩,d10⟩,d11⟩,d12⟩,d13⟩,d14⟩,d15⟩:=hc2;rw[ae d1,ae d2,ae d3,JZ d4,ae d5,ae d6,ae d7]at ho1;rw[ae d8,ae d9,ae d10]at ho3;have hff:f1<d:=by simpa[bP]using d15
 let ⟨R,r1,r2,r3,b,s1,s2,s3,s4⟩:=mn;have hrs:∃ys,r f1=.rs ys:=by
  simp only[iv,bE,List.all_nil,Bool.and_true]at r3;cases hv:r f1 with
  |rs ys=>exact⟨ys,rfl⟩
  |_=>rw[hv]at r3;cases r3
 let ⟨ys,hys⟩:=hrs;have a3:∀i,i<d->b i=r i:=λi a7=>(s1 i a7).trans (r1 i a7);have b3:∀i,i<bb->b i=θ i:=λi a7=>(a3 i (by omega)).trans ((kc i (by omega)).trans (g1 i a7));have hj3:R M.j=.rs rows:=by rw[r1 _ (by omega),kc _ (by omega)];exact hj1
 have hf3:R f1=.rs ys:=by rw[r1 _ hff];exact hys
 have hk3:R kv=θ kv:=by rw[r1 _ (by omega),kc _ (by omega)];exact O
 have hj4:b M.j=.rs rows:=by rw[b3 _ D];exact hj
 have hf4:b f1=.rs ys:=by rw[a3 _ hff];exact hys
 have E:b kv=θ kv:=b3 _ hkf;have hv:=aX2 hti hj3 hf3 s3;rw[hk3]at hv;have B:b d=.rs (sK rows (nm (θ kv)) off (.rs ys)):=by simpa using hv
 let ⟨ι2,hren2⟩:=bR9 (S:=S2) (jc':=d) s2 (kv:=.ey kv) (off:=off) (c:=tR) ho1 ho3 d11 ⟨a_ d12,Ol d13⟩ hj4 w (by rw[vl,E];exact x) v n hf4 (by rw[vl,E];exact B);refine⟨ι2,_,?_,e',b,S2.Cy M.a M.e M.z M.j d M.ck m1,d+1,A2,Z { M with j:=d },rfl,by omega,s2,b3,λl hl=>yF l (by omega),rfl,?_,s4⟩;have hl:(S2.Cy M.a M.e M.z M.j d M.ck m1).full (Z { M with j:=d }) b=((S2.Cy M.a M.e M.z M.j d M.ck m1).sub b).nb (ox M.ck 0 (sK rows (nm ((bX.ey kv).sub b)) off (.rs ys))):=by simp only[bl.full,r9,B,rowsOf,vl,E]
 have hr:(S2.sub r).nb ((ox M.ck 0 rows).filter (!Nat.beq ·.1 (hid (nm ((bX.ey kv).sub u)) off)))=(S2.sub b).nb ((ox M.ck 0 rows).filter (!Nat.beq ·.1 (hid (nm ((bX.ey kv).sub b)) off))):=by rw[bl.nL a3 d14];simp only[vl,E,O]
 rw[hl,hr];exact hren2;refine⟨_,B,w.put ?_⟩;rw[<-hf4];exact(s2 f1).kl;exact mn.elim;exact mn.elim;exact mn.elim;exact h.elim;exact h.elim;exact h.elim
def aS0(P:Program)(T:bY)(Φ:lv)(Q:bX->Prop)(ex:dv A3->Code->bl->Nat->xq->nf):Prop :=∀a c s bb k θ A,Fit θ->vg a θ->mV T Φ Q (ex a c s bb k) θ A->j5 P 0 c (Hp T Φ Q bb θ A k) (s.full a θ)
theorem ag8{b:Bool}(h:θ i=.b4 (.bool b))(s:bl)(a:dv A3):(s.mU (qp i b)).full a θ=s.full a θ:=by simp only[bl.full,FY h]
theorem ah3(s:bl)(a:dv A3)(θ:Nat->bX)(x:Operand):(s.full a θ).eval x=(s.eval x).sub θ:=by rw[<-bl.sub_eval];cases x<;>rfl
include cb hΦ dC hm in
theorem O8{H:Nat->dv Hint}{acts:Nat->dv tT}:∀m,aS0 P T Φ Q (uJ T Φ F H acts m)
 | 0=>λz c s bb k θ A _ _ h=>by simp[uJ,mV]at h
 |m+1=>by
  intro z c s bb k θ A u hw h;have R:=O8 (H:=H) (acts:=acts) m;have self:∀e,mV T Φ Q (k z e s bb) θ A->Hp T Φ Q bb θ A k (qQ.qP e) (s.full z θ):=λe hh=>⟨e,θ,s,bb,A,z,rfl,ay _,u,λ_ _=>rfl,λ_ _=>rfl,rfl,hw,hh⟩;unfold uJ at h
  skip
  split at h;rename_i a b;refine j5.seq (j5.mono (R z a s bb _ θ A u hw h) ?_);rintro e s' ⟨e',d,M,o,N,r,rfl,fa,gb,kc,yF,rfl,oL,mn⟩;cases e' with
  |nr =>refine j5.mono (R r b M o k d N gb oL mn) ?_;rintro e2 s2 ⟨e2',g,S2,E,A2,w,rfl,r1,r2,r3,r4,r5,r6⟩;exact⟨e2',g,S2,E,A2,w,rfl,bD fa r1,r2,λi a7=>(r3 i (by omega)).trans (kc i a7),λl hl=>(r4 l (by omega)).trans (yF l hl),r5,r6⟩
  |oA j=>exact⟨.oA j,d,M,o,N,r,rfl,fa,gb,kc,yF,rfl,oL,mn⟩
  |ret=>exact⟨.ret,d,M,o,N,r,rfl,fa,gb,kc,yF,rfl,oL,mn⟩
  rename_i x a b;split at h;rename_i t hx;refine j5.cond (t:=t) (by rw[ah3,hx,pN]) ?_;exact R z _ s bb k θ A u hw h;rename_i i hx;have hev:∀t,θ i=.b4 (.bool t)->(s.full z θ).eval x=.b4 (.bool t):=λt ht=>by rw[ah3,hx,vl,ht]
  rcases h with⟨G,hh⟩|⟨G,hh⟩
  refine j5.cond (t:=Y) (hev Y G) ?_;have:=R z a _ bb k θ A u hw hh;rw[ag8 G]at this;exact this;refine j5.cond (t:=U) (hev U G) ?_;have:=R z b _ bb k θ A u hw hh;rw[ag8 G]at this;exact this;exact h.elim;rename_i id b;refine j5.block (j5.mono (R z b s bb _ θ A u hw h) ?_);rintro e s' ⟨e',d,M,o,N,r,rfl,fa,gb,kc,yF,rfl,oL,mn⟩;cases e' with
  |nr=>exact⟨.nr,d,M,o,N,r,rfl,fa,gb,kc,yF,rfl,oL,mn⟩
  |ret=>exact⟨.ret,d,M,o,N,r,rfl,fa,gb,kc,yF,rfl,oL,mn⟩
  |oA j =>simp only[qQ.qP,JB];simp only at mn;split;rename_i e;rw[cr e]at mn;exact⟨.nr,d,M,o,N,r,rfl,fa,gb,kc,yF,rfl,oL,mn⟩;rename_i e;rw[cc e]at mn;exact⟨.oA j,d,M,o,N,r,rfl,fa,gb,kc,yF,rfl,oL,mn⟩
  rename_i b;refine j5.scope (j5.mono (R z b s bb _ θ A u hw h) ?_);rintro e s' ⟨e',d,M,o,N,r,rfl,q⟩;exact⟨by cases e'<;>trivial,e',d,M,o,N,r,rfl,q⟩;rename_i b;split at h;rename_i hint hH;split at h;rename_i inits hmt hbd0;split at h;rename_i hfm;simp only[ab]at hbd0;let ⟨⟨hbd,hBh⟩,hB⟩:=hbd0;let ⟨I,⟨n1,hI0⟩,O⟩:=h;let ⟨v1,v2,v3,ι,hren⟩:=IJ u hmt;let ⟨f1,f2⟩:=aE4 hfm θ;have hlo0:∀(S:bl) (θ:Nat->bX) (fr0:Nat) (μ0:dv A3),ow μ0 S fr0=Y->∀i,i<tY->(S.sub θ).st.bF i=W:=λS θ fr0 μ0 G i a7=>by rw[bl.ua,bg.x3,NR G a7];rfl
  have J:=Ren.nb (H:=r9 z θ) hren (λp hp=>PV hw hp) (hlo0 s θ bb z hB);have hst0:(hint.state.sub (λi=>(qC bb inits i).sub θ)).nb (r9 z θ)=hint.state.full (uD hint.bF) (λi=>(qC bb inits i).sub θ):=by simp only[bl.full,f1]
  rw[hst0]at J;refine j5.conv J ?_;have B:∀(j9:eX) (d:Nat->bX) i,i<bb->(qC bb j9 i).sub d=d i:=λj9 d i a7=>by
   unfold qC;have:dI bb i=U:=by
    cases G:dI bb i with
    |false=>rfl
    |true=>have:=a_ G;omega
   rw[this];simp
  have C:∀(j9:eX) (d:Nat->bX) j (hj:j<aa j9),(qC bb j9 (bb+j)).sub d=(j9[j]).sub d:=λj9 d j hj=>by unfold qC;rw[Nat.ble_eq_true_of_le (aZ bb j)];simp[hj]
  have pad:∀(j9:eX) (d:Nat->bX),aa j9=hint.k->(∀i,i<bb->d i=θ i)->(∀j (hj:j<aa j9),d (bb+j)=j9[j])->Fit d->vg (uD hint.bF) d ->
    ∃g,(∀i,i<bb->g i=θ i)/\(∀j (hj:j<aa j9),g (bb+j)=j9[j])/\g (bb+hint.k)=.b4 (.bool U)/\Fit g/\vg (uD hint.bF) g/\hint.state.full (uD hint.bF) d=hint.state.full (uD hint.bF) g:=λj9 d q5 nj rM s_ xY=>by
   have hag:∀i,i<bb+hint.k->(λi=>ite (i=bb+hint.k) (bX.b4 (.bool U)) <|d i) i=d i:=λi a7=>by simp only[show ¬i=bb+hint.k by omega,l4]
   let ⟨w1,w2⟩:=W7 hBh hag;refine⟨λi=>ite (i=bb+hint.k) (.b4 (.bool U)) <|d i,λi a7=>?_,λj hj=>?_,by simp,λi=>?_,w2 xY,?_⟩;simp only[show ¬i=bb+hint.k by omega,l4];exact nj i a7;simp only[show ¬bb+j=bb+hint.k by omega,l4];exact rM j hj;show nN (ite (i=bb+hint.k) (.b4 (.bool U)) <|d i);split;trivial;exact s_ i;simp only[bl.full,w1];rw[bl.nL hag hbd]
  refine j5.loop (λk1 s1=>∃j9 d,I k1 j9/\aa j9=hint.k/\(∀v∈j9,nN v)/\(∀i,i<bb->d i=θ i)/\(∀j (hj:j<aa j9),d (bb+j)=j9[j])/\Fit d/\vg (uD hint.bF) d/\s1=hint.state.full (uD hint.bF) d) ?_ (k:=n1) ?_;rintro k1 s1 ⟨j9,θ0,g1,g2,g3,g40,g50,g60,g70,rfl⟩;let ⟨d,g4,g5,g5',g6,g6',g7⟩:=pad j9 θ0 g2 g40 g50 g60 g70;rw[g7];have G:=R (uD hint.bF) b hint.state (bb+hint.k+1) _ d _ g6 g6' (O k1 j9 g1 g2 g3 d g4 g5 g5' g6);refine j5.Va (j5.mono G ?_);rintro e s' ⟨e',g,S2,E,A2,w,rfl,fa,gb,kc,yF,rfl,oL,mn⟩;have hA2:A2 bb=λn=>∃m,m<k1/\I m n:=by rw[yF bb (by omega)];simp
  have hlo:∀i,i<bb->g i=θ i:=λi a7=>(kc i (by omega)).trans (g4 i a7);have hAlo:∀l,l<bb->A2 l=A l:=λl hl=>by rw[yF l (by omega)];simp[Nat.ne_of_lt hl]
  cases e' with
  |nr=>
   left;simp only at mn;split at mn;rename_i n hm';split at mn;rename_i D;simp only[ab]at D;let ⟨D,hB2⟩:=D;let ⟨w1,w2,w3,ι',hren'⟩:=IJ gb hm';let ⟨u1,u2⟩:=aE4 D g;have K:=Ren.nb (H:=r9 w g) hren' (λp hp=>PV oL hp) (hlo0 S2 g E w hB2);have hst2:(hint.state.sub (λi=>(qC bb n i).sub g)).nb (r9 w g)=hint.state.full (uD hint.bF) (λi=>(qC bb n i).sub g):=by simp only[bl.full,u1]
   rw[hst2]at K;refine⟨ι',_,K,?_⟩;simp only[qQ.qP,Cw];have wb:A2 bb (n.map (bX.sub g)):=mn;rw[hA2]at wb;let ⟨m1,hm1,hI1⟩:=wb;refine⟨m1,hm1,n.map (bX.sub g),_,hI1,by simpa using w1,λv hv=>?_,λi a7=>by rw[B];exact hlo i a7;exact a7,λj hj=>?_,w3,u2 oL,rfl⟩;obtain⟨v0,hv0,rfl⟩:=aN.1 hv;exact w2 v0 hv0;simp only[aI]at hj;rw[C n g j hj];simp;exact mn.elim;exact mn.elim
  |oA j=>right;exact⟨.oA j,g,S2,E,A2,w,rfl,by omega,gb,hlo,hAlo,rfl,oL,mn⟩
  |ret=>right;exact⟨.ret,g,S2,E,A2,w,rfl,by omega,gb,hlo,hAlo,rfl,oL,mn⟩
  refine⟨inits.map (bX.sub θ),_,hI0,by simpa using v1,λv hv=>?_,λi a7=>B _ _ i a7,λj hj=>?_,v3,f2 hw,rfl⟩;obtain⟨v0,hv0,rfl⟩:=aN.1 hv;exact v2 v0 hv0;simp only[aI]at hj;rw[C inits θ j hj];simp;exact h.elim;exact h.elim;exact h.elim;split at h;rename_i hB;exact aU6 cb hΦ dC hm hB hw u h;exact h.elim;exact j5.y4 (nw.skip (self .nr h));exact j5.y4 (nw.label (self .nr h));exact j5.y4 (nw.exit (self (.oA _) h));exact j5.y4 (nw.ret (self .ret h));exact h.elim
theorem am3{d:A3}(hj:θ d.j=.rs rows)(hw:xU d.ck rows){σ:bg}(pl:Nat->dv nt)
  (g:Rel G σ w) (x:∀i o,i<tY->(S.full (Z d) θ).st.bF i=Z o->σ.bF i=Z o)  (a7:i<aa rows) (z:i<aa (pd d.ck 0 rows)) :
  rows[i].length=(pd d.ck 0 rows)[i].length/\∀j (h:j<rows[i].length) (p:j<(pd d.ck 0 rows)[i].length) u0,eR G (pd d.ck 0 rows)[i][j] u0->eR (G.frozen σ w pl) rows[i][j] u0:=by
 have m:(S.full (Z d) θ).st=Go.Ab.nb (ox d.ck 0 rows) (S.st.sub θ):=by simp only[bl.full,r9,hj];rfl
 have q:(pd d.ck 0 rows)[i]?=Z (tj d.ck i 0 rows[i]):=by simp only[wy,bj,af a7,ai]
 have r:(pd d.ck 0 rows)[i]=tj d.ck i 0 rows[i]:=by rw[af z]at q;exact aJ q
 refine⟨by rw[r,ym],λj h p u0 hu=>?_⟩;have hc:(tj d.ck i 0 rows[i])[j]?=Z (wO d.ck i j rows[i][j]):=by rw[xz,af h];simp
 have B:(pd d.ck 0 rows)[i][j]=wO d.ck i j rows[i][j]:=by
  have:(pd d.ck 0 rows)[i][j]?=Z (wO d.ck i j rows[i][j]):=by rw[r];exact hc
  rw[af p]at this;exact aJ this
 rw[B,Bq]at hu;have e:=rY hw.2.2.1 i a7 j h;cases l:pw d.ck j with
 |none =>rw[l]at hu;exact rr (λb o s=>tc g s) hu e
 |some c=>
  rw[l]at hu;let ⟨t,n⟩:=yp l;have u:j<16:=by rw[<-n];exact hw.2.1 c t
  let ⟨xs,k⟩:=hw.2.2.2 rows[i] (au a7) c t;rw[n,af h]at k;have k:=aJ k;rw[k]at hu e⊢;have C:(S.full (Z d) θ).st.bF (hid i j)=Z (.row c.2.1 c.2.2 xs):=by rw[m,sJ,OZ hw.2.1 hw.1 (af a7) u,l];simp only[ai,vY,n,dA,af h,bM,k,rowsOf]
  simp only[rowsOf]at hu;refine Jj g pl hu (x _ _ (eZ _ (by decide)) C) (by omega) rfl (λa ha D=>?_);have E:xs[0+a]=xs[a]:=by congr 1;omega
  refine⟨by rw[E],λb s H J v=>?_⟩;have I:xs[0+a][b]=xs[a][b]:=by congr 1
  rw[I]at v;exact rr (λb o s=>tc g s) v (rY e a ha b s)
theorem aA5(h:ow (Z b) S bb=Y)(hj:θ b.j=.rs rows):tY<=b.a/\(S.full (Z b) θ).st.bF b.a=Z (.row b.e b.z (pd b.ck 0 rows)):=by
 let ⟨k,off,c⟩:=ay1 h;have ha:tY<=b.a:=by refine ll λg=>?_;rw[NR h g]at c;cases c
 have d:(S.full (Z b) θ).st=Go.Ab.nb (ox b.ck 0 rows) (S.st.sub θ):=by simp only[bl.full,r9,hj];rfl
 refine⟨ha,?_⟩;rw[d,sJ,O6 ha,bg.x3,c];simp only[ai,c7.sub,vl,hj,rowsOf,d_,ur]
theorem bZ1(e:ow (Z b) S bb=Y)(hj:θ b.j=.rs rows)(hw:xU b.ck rows){u:Value}(pl:Nat->dv nt)
  (c:Rel G (S.full (Z b) θ).st w) (g:eR G (.ms b.a b.z 0 (aa rows)) u):eR (G.frozen (S.full (Z b) θ).st w pl) (.rs rows) u:=by
 refine Jj c pl g (aA5 e hj).2 (by rw[zw];omega) rfl (λi a7 k=>?_);have l:(pd b.ck 0 rows)[0+i]=(pd b.ck 0 rows)[i]'(by omega):=by congr 1;omega
 let ⟨h1,h2⟩:=am3 (S:=S) hj hw pl c (λ_ _ _ h=>h) a7 (by omega);refine⟨by rw[l];exact h1,λj d m u0 hu=>h2 j d (by omega) u0 ?_⟩;have n:(pd b.ck 0 rows)[0+i][j]=((pd b.ck 0 rows)[i]'(by omega))[j]'(by omega):=by congr 1
 rw[<-n];exact hu
def B8(n:Nat)(a:eX):bl:={ bl.enter n a bg.none with st:={ (bl.enter n a bg.none).st with next:=tY } }
include cb hΦ dC hm in
theorem bj0     {fn:Func}  (J:F f=Z fn) (x:(fn.name== "runtime.NumGoroutine")=U) (K:fn.body=Z c) {d:eX} (hn:aa d<=fn.ntmps) (hp:q2 d=Y)
   (D:Fit θ)  (h:mV T Φ (·=r) (uJ T Φ F H acts m W c (B8 fn.ntmps d) bb (LJ T fn)) θ (λ_ _=>False)):oX P ⟨f,d.map (bX.sub θ),r⟩:=by
 refine oX.DS cb (dC f fn J) x K (by simpa using hn) (by rw[<-uv,<-pT];exact vH D d hp) ?_;refine j5.raise (k:=tY) (by simp[bl.enter,bg.none]) ?_;have hx:=O8 cb hΦ dC hm (Q:=λc=>c=r) (H:=H) (acts:=acts) m W c (B8 fn.ntmps d) bb (LJ T fn) θ _ D trivial h;have qJ:(B8 fn.ntmps d).full W θ={ bl.enter fn.ntmps (d.map (bX.sub θ)) bg.none with st:={ (bl.enter fn.ntmps (d.map (bX.sub θ)) bg.none).st with next:=tY } }:=by have N:(bl.enter fn.ntmps d bg.none).sub θ=bl.enter fn.ntmps (d.map (bX.sub θ)) bg.none:=FP ..;show({ (bl.enter fn.ntmps d bg.none).sub θ with st:={ ((bl.enter fn.ntmps d bg.none).sub θ).st with next:=tY } }:bl)=_;rw[N]
 rw[qJ]at hx;refine j5.mono hx ?_;rintro e s' ⟨E,i,n,B,O,R,rfl,_,f1,_,_,rfl,S,hl⟩;cases R with
 |none=>
  have s:mV T Φ (·=r) (match ow W n B with|true=>JC T fn E n B|false=>.stuck) i O:=hl;split at s;have fin:∀l,E=l->(l=.nr\/l=.ret)->(l.qP=.normal\/l.qP=.ret)/\∃v,pc T fn (n.sub i)=Z v/\∀G w u pl,Rel G (n.sub i).st w->eR G v u->eR (G.frozen (n.sub i).st w pl) r u:=by
   intro l he uG;subst he;refine⟨by rcases uG with rfl|rfl<;>simp[qQ.qP],?_⟩;have g:mV T Φ (·=r) (match pc T fn n with
    |some v=>match v.qA with
     |true=>.ret v.rJ []
     |false=>match pX n.st 50 v with
      |some c=>.ret c.rJ (pZ n.st.mZ)
      |none=>.stuck
    |none=>.stuck) i O:=by rcases uG with rfl|rfl<;>exact s
   split at g;rename_i v hv;refine⟨v.sub i,Db hv,?_⟩;intro G w u pl p hrep;split at g;rename_i hcp;let ⟨_,C⟩:=g;rw[<-C];exact BN v u (rr (λb o K=>tc p K) hrep (BB f1 v hcp));split at g;rename_i c hc;let ⟨q,C⟩:=g;rw[<-C];exact BN c u (DA f1 p pl (λid e z j ho=>q j (Bv ho)) (λid j ho=>q j (Bo ho)) 50 v c u hc hrep);exact g.elim;exact g.elim
  cases E with
  |oA j=>exact s.elim
  |nr=>exact fin .nr rfl (.inl rfl)
  |ret=>exact fin .ret rfl (.inr rfl)
  exact s.elim
 |some M=>
  let ⟨rows,hj,hwf⟩:=S;have fin:∀l,E=l->(l=.nr\/l=.ret)->(l.qP=.normal\/l.qP=.ret)/\∃v,pc T fn (n.full (Z M) i)=Z v/\∀G w u pl,Rel G (n.full (Z M) i).st w->eR G v u->eR (G.frozen (n.full (Z M) i).st w pl) r u:=by
   intro l he uG;subst he;refine⟨by rcases uG with rfl|rfl<;>simp[qQ.qP],?_⟩;have g:mV T Φ (·=r) (match ow (Z M) n B,fn.results.toList with
    |true,[.tmp t]=>match n.get t with
     | .c8 a z j=>match aw a M.a&&aw z M.z&&aw j M.j with
      |true=>.ret (.ey M.j) []
      |false=>.stuck
     |_=>.stuck
    |_,_=>.stuck) i O:=by rcases uG with rfl|rfl<;>exact hl
   split at g;rename_i t hB I;split at g;rename_i a z j k5;split at g;rename_i hc;simp only[ab]at hc;have N:=ae hc.1.1;have e2:=ae hc.1.2;have e3:=ae hc.2;subst N;subst e2;subst e3;let ⟨_,C⟩:=g;rw[vl,hj]at C;have hg:(n.full (Z M) i).get t=.ms M.a M.z 0 (aa rows):=by have:(n.full (Z M) i).get t=(n.sub i).get t:=rfl;rw[this,bl.tB,k5,rA,hj];rfl
   refine⟨.ms M.a M.z 0 (aa rows),?_,?_⟩;simp only[pc,I,uI,y3,hg];intro G w u pl p hrep;rw[<-C];exact bZ1 hB hj hwf pl p hrep;exact g.elim;exact g.elim;exact g.elim
  cases E with
  |oA j=>exact hl.elim
  |nr=>exact fin .nr rfl (.inl rfl)
  |ret=>exact fin .ret rfl (.inr rfl)
end
def H_(l:cu (Nat×tT))(i:Nat):dv tT:=match l with
 | []=>W
 | (j,a)::l=>match aw j i with
  |true=>Z a
  |false=>H_ l i
def JH(T:bY)(Φ:lv)(F:FuncId->dv Func)(H:cu (Nat×Hint))(acts:cu (Nat×tT))(m:Nat)(f:FuncId)(a:eX)(bb:Nat):nf :=
 match F f with
 |some fn=>match fn.body with
  |some c=>match !(fn.name== "runtime.NumGoroutine")&&dI (aa a) fn.ntmps&&q2 a with
   |true=>uJ T Φ F (Cs H) (H_ acts) m W c (B8 fn.ntmps a) bb (LJ T fn)
   |false=>.stuck
  |none=>.stuck
 |none=>.stuck
def bK1{P:Program}{T:bY}(cb:rk P T){Φ:lv}(b:Ak P Φ){F:FuncId->dv Func}(dC:∀f fn,F f=Z fn->P.funcs[f]?=Z fn)(hm:P.follows .mixedOrders=Y){H:cu (Nat×Hint)}{acts:cu (Nat×tT)}{a:eX}
   (d:Fit θ)  (h:mV T Φ (·=r) (JH T Φ F H acts m f a bb) θ (λ_ _=>False)):oX P ⟨f,a.map (bX.sub θ),r⟩:=by
 unfold JH at h;split at h;rename_i fn e;split at h;rename_i c g;split at h;rename_i hc;simp only[ab,dt]at hc;exact bj0 cb b dC hm e hc.1.1 g (a_ hc.1.2) hc.2 d h;exact h.elim;exact h.elim;exact h.elim
variable {P:Program}{S:Nat->dv dr}{a:eX}
def aY6{T:bY}{Φ:lv}{i:cu c9}(d:∀t∈i,t.Ok Φ){f:FuncId}{tree:nf}
  (c:∀θ,Fit θ->∀r,mV T Φ (·=r) tree θ (λ_ _=>False)->oX P ⟨f,a.map (bX.sub θ),r⟩)
   {mW:dr} {nu:dn} {g:mW.T->dv nu.T} (m:uW T i S mW nu a tree=g) {x:mW.T} {v:nu.T} (h:g x=Z v):oX P ⟨f,a6 mW x,enc nu v⟩:=by
 subst m;unfold uW at h;cases hp:su a mW []with
 |none=>simp only[hp]at h;cases h
 |some q=>
  let ⟨Γ,p⟩:=q;simp only[hp]at h;let ⟨vs,n,z,o⟩:=yy _ _ _ _ hp x ();have hl:=B3 d _ Γ [] (p x ()) () (λ_ _=>False) (λl s g hf=>by simp[y']at hf) h;have w:pF Γ (p x ())=vs++[]:=n;have j:ni (re Γ (p x ())) a=a6 mW x:=by
   have B:=o []
   grind[re,nB]
  rw[DC]at j;have b:∀u∈pF Γ (p x ()),nN u:=λu hu=>by grind
  rw[<-j];have e:=hl (by rw[nB]);have k:=e (λu hu=>b u (by simpa using hu));rw[vS,nB]at k;exact c _ (by have:=Fit.env (l:=(pF Γ (p x ())).reverse) (λu hu=>b u (by simpa using hu));rw[vS,nB]at this;exact this) _ k
def bQ6{T:bY}(cb:rk P T){F:FuncId->dv Func}(dC:∀f fn,F f=Z fn->P.funcs[f]?=Z fn)(hm:P.follows .mixedOrders=Y){ts d:cu c9}(hs:x' ts=Y)(b:∀t∈d,t.Ok (rC P ts)){t:c9}(e:t∈ts)(hf:cL t.f p9=Y)
  {H:cu (Nat×Hint)} {acts:cu (Nat×tT)} {m:Nat}  {bb:Nat}  (g:uW T d S t.mW t.nu a (JH T (rC P ts) F H acts m t.f a bb)=t.fn):t.Ok (rC P ts) :=
 tK hs e λx r i=>Good.vh (by simpa using hf) (aY6 b (λθ c r h=>bK1 cb (FV P ts) dC hm c h) g i)
end Go.Ab
namespace Go.Ab
open Go Go.RowKit Go.WideShapes Go.ChangeShapes Go.Proofs
variable {N:Nat}{P:Program}{t:TypeId}
def bj8{H:Type}{enc:TypeId×Value->H}{a:Assume}{C:Checked}{os:Os}{f:FuncId}{fn:Func}{s:ChangeSpec}{conds:cu PathCond}{apart fresh handsOn again:Bool}{X:World->Array Value->Prop}
  (r:∀(w w':World) (args:Array Value),w.heap=w'.heap->X w args->X w' args)
  (own:ownKnob C.prog.godebug=W) (started:os.Started) (c:C.prog.inits.idxOf? f=W) (m:C.prog.funcs[f]?=Z fn)
  (witness:∃(w:World) (tape:Tape) (i:Input),w.os=os/\(w.forCall tape i).Shaped C.prog/\i.vars=[]/\Input.okWide C.prog (w.forCall tape i) .any w.heap.size f i /\
   ((s.pre enc C.prog fn conds apart (w.forCall tape i).memory i.args/\X (w.forCall tape i).memory i.args)/\sizedMet enc C.prog fn (jO s) apart (w.forCall tape i).memory i.args)/\a.holds C.prog (lone (lV C.prog f i.args .normal) [] (w.forCall tape i)))
  (b:∀(kO:World) (base:Nat) (args:Array Value) (g gs:cu (DataW H)) (before:cu MemPlace),
   (∀(j:Nat) t v,fn.params[j]?=Z t->args[j]?=Z v->gZ C.prog kO .any base t v) ->
   DataW.Whole enc C.prog fn.params.toList s.vars apart kO args.toList g gs before ->
   conds.all (PathCond.test C.prog ⟨fn.params.toList,g,s.plain.varTypes C.prog,gs⟩)=Y ->
   (DataW.weightsEach C.prog (fn.params.toList++s.plain.varTypes C.prog) (g++gs)).all (·<=reachBytes)=Y->X kO args ->
   kO.ShapedOpen C.prog ->
   a.holds C.prog (lone (lV C.prog f args .normal) [] kO) ->
   Calls C.prog f args kO λe q=>∃v,e=.returned v/\s.post enc C.prog fn apart fresh handsOn again kO args v q) :
  ReturnsInHanded a C os f .any (λw args=>(s.pre enc C.prog fn conds apart w args/\X w args)/\sizedMet enc C.prog fn (jO s) apart w args) (s.post enc C.prog fn apart fresh handsOn again):=by
 refine returnsInHanded_of_calls own started c witness ?_;intro w tape i _ n _ o h d;let ⟨_,_,_,u,k,_,_,_,_,l⟩:=o;have e:=aJ (k.symm.trans m);subst e;let ⟨⟨⟨g,gs,before,hw,hc⟩,x⟩,hz⟩:=h;have p:=mB (w':=w.forCall tape i) (by rfl) hw;refine(b (w.forCall tape i) w.heap.size i.args g gs before l p hc (hz.weights hw) (r _ _ _ (by rfl) x) n d).mono λe q ⟨v,he,hp⟩=>?_;subst he;exact mH hp
variable [nO]
def An:cu dn->dr
 | []=>.nil
 | [s]=>.one s
 |s::s'::l=>.cons s (An (s'::l))
mutual
def Lq(N:Nat):(s:dn)->s.T->Prop
 | .int k,x=>(Lit.int k x).wf=Y
 | .str,x=>x.size<=N
 | .hF l,xs=>aa xs<=N/\∀x∈xs,Es N l x
 | .agg l,x=>Es N l x
 | .bool,_=>True
 | .ptr _,_=>True
 | .rH _,_=>True
 | .ed _,_=>True
 | .fn _ _,_=>True
 | .sF,_=>True
 | .nl,_=>True
def Es(N:Nat):(l:dr)->l.T->Prop
 | .nil,_=>True
 | .one s,x=>Lq N s x
 | .cons s l,x=>Lq N s x.1/\Es N l x.2
end
def vk(N:Nat):cu dn->eX->Prop
 | [],[]=>True
 |s::L,v::c=>(∃x:s.T,v=enc s x/\Lq N s x)/\vk N L c
 |_,_=>False
def vk.app:∀ {L M:cu dn} {c d:eX},vk N L c->vk N M d->vk N (L++M) (c++d)
 | [],_,[],_,_,h=>h
 | [],_,_::_,_,h,_=>by cases h
 |_::_,_,[],_,h,_=>by cases h
 |s::L,_,v::c,_,h,h'=>⟨h.1,vk.app h.2 h'⟩
def vk.mk:∀ {L:cu dn} {c:eX},vk N L c->∃x:(An L).T,c=a6 (An L) x/\Es N (An L) x
 | [],[],_=>⟨(),rfl,trivial⟩
 | [],_::_,h=>by cases h
 | [s],[v],h=>by let ⟨⟨x,a,b⟩,_⟩:=h;exact⟨x,by rw[a];rfl,b⟩
 | [s],[],h=>by cases h
 | [s],_::_::_,h=>by cases h.2
 |s::s'::L,[],h=>by cases h
 |s::s'::L,v::c,h=>by let ⟨⟨x,a,b⟩,h2⟩:=h;let ⟨y,d,hc⟩:=vk.mk (L:=s'::L) h2;exact⟨(x,y),by rw[a,d];rfl,b,hc⟩
def vt{α:Type}:cu (dv (cu α))->dv (cu α)
 | []=>Z []
 |some l::r=>(vt r).map (l++·)
 |none::_=>W
def yz(P:Program):Nat->TypeId->dv (cu dn)
 | 0,_=>W
 |k+1,t=>match P.underlying t with
  |some .bool=>Z [.bool]
  |some (.int a)=>Z [.int a]
  |some .string=>Z [.str]
  |some (.slice e)=>(yz P k e).map λL=>[.hF (An L)]
  |some (.struct fs)=>ite (uH P fs.toList 0 (P.cellsOf t)) (vt (fs.toList.map λf=>yz P k f.type)) <|none
  |_=>W
def Rv{L:cu dn}:∀ {es:cu eX},(∀c∈es,vk N L c)->∃xs:cu (An L).T,es=xs.map (a6 (An L))/\∀x∈xs,Es N (An L) x
 | [],_=>⟨[],rfl,λx h=>by cases h⟩
 |c::es,h=>by
  let ⟨x,e,f⟩:=vk.mk (h c (by simp));let ⟨xs,a,b⟩:=Rv (es:=es) λg hc=>h g (by simp[hc]);refine⟨x::xs,by rw[e,a];rfl,λy d=>?_⟩;rcases aG.1 d with rfl|d
  exact f;exact b y d
def Qp:∀(k:Nat) (t:TypeId) {c:eX} {L:cu dn},pU P N t c->yz P k t=Z L->vk N L c
 | 0,t,c,L,_,h=>by cases h
 |k+1,t,c,L,hs,h=>by
  unfold yz at h;split at h;rename_i i;cases h;cases hs with
  |bool b h2=>exact⟨⟨b,rfl,trivial⟩,trivial⟩
  |int h2=>rw[i]at h2;cases h2
  |str h2=>rw[i]at h2;cases h2
  |slice h2=>rw[i]at h2;cases h2
  |struct h2=>rw[i]at h2;cases h2
  rename_i v i;cases h;obtain⟨n,rfl,hw⟩:=hs.bl3 i;exact⟨⟨n,rfl,hw⟩,trivial⟩;rename_i i;cases h;obtain⟨s,rfl,hw⟩:=hs.bO5 i;exact⟨⟨s,rfl,hw⟩,trivial⟩;rename_i e i;obtain⟨es,rfl,hl,hes⟩:=hs.bM5 i;cases d:yz P k e with
  |none=>rw[d]at h;cases h
  |some M =>rw[d]at h;simp only[ai,ah]at h;subst h;obtain⟨xs,rfl,p⟩:=Rv λc hc=>Qp k e (hes c hc) d;exact⟨⟨xs,rfl,by simpa using hl,p⟩,trivial⟩
  rename_i fs i;split at h;rename_i j;let ⟨hlen,hf⟩:=hs.bO6 i;have key:∀(l:cu Field) (o:Nat) (L:cu dn),(∀f∈l,f∈fs.toList)->uH P l o (P.cellsOf t)=Y->vt (l.map λf=>yz P k f.type)=Z L->vk N L (c.drop o):=by
   intro l
   induction l with
   |nil =>intro o L _ ho d;have:=ae ho;cases d;rw[this,<-hlen,gX];trivial
   |cons f l q=>
    intro o L hm ho d;simp only[uH,ab]at ho;have m:=ae ho.1;simp only[aD]at d;cases h1:yz P k f.type with
    |none=>rw[h1]at d;cases d
    |some M=>
     rw[h1]at d;simp only[vt]at d;cases h2:vt (l.map λf=>yz P k f.type)with
     |none=>rw[h2]at d;cases d
     |some r =>
      rw[h2]at d;simp only[ai,ah]at d;subst d;have a:=Qp k f.type (hf f (hm f (by simp))) h1;have b:=q (o+P.cellsOf f.type) r (λg u=>hm g (by simp[u])) ho.2 h2;rw[m]at a;have e:c.drop o=(c.drop o).take (P.cellsOf f.type)++c.drop (o+P.cellsOf f.type):=by rw[<-gD,dJ]
      rw[e];exact a.app b
  have:=key fs.toList 0 L (λ_ h=>h) j h;simpa using this;cases h;cases h
section
variable {H:Type} {en:TypeId×Value->H} {P:Program} {w:World} {base:Nat} {spare:Nat->Bool} {held:Bool}
def v8(P:Program):Nat->TypeId->DataW H->dv (cu Value)
 | 0,_,_=>W
 |k+1,t,d=>match P.underlying t,d with
  |some (.int c),.lit (.int b n)=>Z [.int b n]
  |some (.array _ e),.agg a=>ite (aw (P.cellsOf t) (aa a*P.cellsOf e)) (vt (a.map λd=>v8 P k e d)) <|none
  |some (.struct fs),.agg a=>ite (uH P fs.toList 0 (P.cellsOf t)) (vt ((fs.toList.zip a).map λx=>v8 P k x.1.type x.2)) <|none
  |_,_=>W
def N8:∀(k:Nat) (t:TypeId) {fuel:Nat} {cs:cu Value} {d:DataW H} {p:cu MemPlace} {l:cu Value},DataW.trod en P w base spare held fuel t cs=Z (d,p)->v8 P k t d=Z l->cs=l
 | 0,t,_,_,_,_,_,_,h=>by cases h
 |k+1,t,fuel,cs,d,p,l,r,h=>by
  unfold v8 at h;split at h;rename_i E C n hu;obtain⟨m,rfl,e,_⟩:=DataW.trod_int hu r;cases h;cases e;rfl;rename_i n e D hu;obtain⟨xs,m,rfl,ex,hlen,s,g⟩:=DataW.trod_array hu r;obtain⟨rfl,_⟩:=ex;split at h;rename_i u;have u:=ae u;rw[aI,s]at u;have key:∀(j i:Nat) (l:cu Value),i+j=n->vt (((xs.map (·.1)).drop i).map λd=>v8 P k e d)=Z l->cs.drop (i*P.cellsOf e)=l:=by
   intro j
   induction j with
   |zero=>
    intro i l a7 hl;have:i=n:=by omega
    subst this;rw[fq (by simp[s])]at hl;cases hl;exact fq (by omega)
   |succ j v=>
    intro i l a7 hl;have c:i<aa xs:=by omega
    rw[bJ (by simpa using c)]at hl;simp only[aD,cK]at hl;cases h1:v8 P k e xs[i].1 with
    |none=>rw[h1]at hl;cases hl
    |some l2=>
     rw[h1]at hl;simp only[vt]at hl;cases h2:vt (((xs.map (·.1)).drop (i+1)).map λd=>v8 P k e d)with
     |none=>rw[h2]at hl;cases hl
     |some x8 =>rw[h2]at hl;simp only[ai,ah]at hl;subst hl;have f:=g i (by omega);rw[af c]at f;have a:=N8 k e (d:=xs[i].1) (p:=xs[i].2) f h1;have b:=v (i+1) x8 (by omega) h2;rw[cG,kE]at b;rw[<-a,<-b,<-gD,dJ]
  have:=key n 0 l (by omega) (by simpa using h);simpa using this;cases h;rename_i fs D hu;obtain⟨xs,m,rfl,ex,hlen,s,g⟩:=DataW.trod_struct hu r;obtain⟨rfl,_⟩:=ex;split at h;rename_i q;have key:∀(j i o:Nat) (l:cu Value),i+j=fs.size->uH P (fs.toList.drop i) o (P.cellsOf t)=Y->vt (((fs.toList.drop i).zip ((xs.map (·.1)).drop i)).map λx=>v8 P k x.1.type x.2)=Z l->cs.drop o=l:=by
   intro j
   induction j with
   |zero =>intro i o l a7 ho hl;rw[fq (by simp;omega)]at ho hl;have:=ae ho;cases hl;exact fq (by omega)
   |succ j v=>
    intro i o l a7 ho hl;have c:i<aa xs:=by omega
    have z:i<aa fs.toList:=by simp;omega
    rw[bJ z]at ho hl;rw[bJ (l:=xs.map (·.1)) (by simpa using c)]at hl;simp only[uH,ab]at ho;have B:=ae ho.1;simp only[List.zip_cons_cons,aD,cK]at hl;cases h1:v8 P k fs.toList[i].type xs[i].1 with
    |none=>rw[h1]at hl;cases hl
    |some l2=>
     rw[h1]at hl;simp only[vt]at hl;cases h2:vt (((fs.toList.drop (i+1)).zip ((xs.map (·.1)).drop (i+1))).map λx=>v8 P k x.1.type x.2)with
     |none=>rw[h2]at hl;cases hl
     |some x8 =>rw[h2]at hl;simp only[ai,ah]at hl;subst hl;have f:=g i fs.toList[i] (by simp);rw[af c]at f;have a:=N8 k _ (d:=xs[i].1) (p:=xs[i].2) f h1;have b:=v (i+1) (o+P.cellsOf fs.toList[i].type) x8 (by omega) ho.2 h2;rw[B]at a;rw[<-a,<-b,<-gD,dJ]
  have:=key fs.size 0 0 l (by omega) (by simpa using q) (by simpa using h);simpa using this;cases h;cases h
def bT8{n:String}{d:DataW Unit}{g:Nat}{k:Nat}{l:cu Value}(h:laidMetH P [(n,d)] w)(i:([(n,d)].all λx=>x.2.handleName?.isNone)=Y)(j:P.globalNamed n=Z g)(m:(P.globals[g]?).map (·.type)=Z t)(hl:v8 P k t d=Z l) :
  ∀o v,l[o]?=Z v->(ca.tv w).cell g o=Z v:=by
 rw[mI _ _ _ i]at h;let ⟨ps,⟨g0,t0,b,f0,p0,qN,a,c,f,tX,_⟩,_⟩:=h;obtain rfl:=aJ (j.symm.trans a);obtain rfl:=aJ (m.symm.trans c);have e:=N8 k t tX hl;intro o v ho;have hc:=World.var?_cell a f o;have h1:b[o]?=Z v:=by rw[<-Array.getElem?_toList,e];exact ho
 have h2:w.cell? ⟨g,o,W⟩=Z v:=by first|exact hc.trans h1|exact hc.symm.trans h1| (rw[h1]at hc;exact hc)| (simpa using hc)
 exact(IE h2).2
end
def bF9{kO:World}{base:Nat}{b:IntKind}{v:Value}(a:P.underlying t=Z (.int b))(hv:gZ P kO .any base t v):v.cells.toList=[v]:=by unfold gZ at hv;rw[a]at hv;simp only at hv;cases v<;>simp[Cell.okWide,Cell.ok,a]at hv<;>rfl
end Go.Ab
namespace Go.Ab
variable [nO]
open Go Go.Sort Go.Proofs Go.Shelf
variable {G:ca}{P:Program}{caps:eX}{cf:eX->eX->Int}{es:cu eX}{g:FuncId}{o:c7}{p:nt}{restv:eX}{vs:cu Value}{w w':World}{σ:bg}
def bS8{kO:World}(hs:kO.heap.size<=w'.heap.size)(a:∀b,b<kO.heap.size->w'.heap[b]?=kO.heap[b]?)(hd:kO.drawn<=w'.drawn)(ho:w'.os=kO.os)(h:w'.tape=kO.tape)(hp:w'.output=kO.output):∃q e,w'=grow (kO.drewN q) e:=by
 refine⟨w'.drawn-kO.drawn,w'.heap.extract kO.heap.size w'.heap.size,?_⟩;have i:w'.heap=kO.heap++w'.heap.extract kO.heap.size w'.heap.size:=by apply Array.ext_getElem?;intro k;by_cases hk:k<kO.heap.size;rw[dy hk,a k hk];rw[Array.getElem?_append_right (by omega),Array.getElem?_extract];by_cases j:k<w'.heap.size;rw[cr (by omega)];congr 1;omega;rw[cc (by omega),Array.getElem?_eq_none (by omega)]
 cases w' with
 |mk heap tape drawn os output=>
 cases kO with
 |mk f g d l c=>
 simp only at hs a hd ho h hp i;simp only[grow,World.drewN];congr 1;omega
def oX.VB   {fn:Func} (t:P.funcs[g]?=Z fn) (f:(fn.name== "runtime.NumGoroutine")=U) (i:fn.body.isNone=U) {args:eX} {v:Value} (hm:oX P ⟨g,args,.b4 v⟩)
   {kO:World}  (j:hE G args vs) (d:Rel G bg.none kO):Calls P g vs.toArray kO (λe w'=>e=.returned v/\∃q k,w'=grow (kO.drewN q) k):=by
 have n:(callFunc g vs.toArray).run P kO=.ok (.enter g vs.toArray) kO:=by simp only[callFunc,ax,run_program,ao,t,f,i,aF,l4,bd]
 have h:=hm bg.none G vs kO j d { (default:Oper)with dst:=Z 0 } ⟨#[undef],[]⟩ (λx w'=>x.tmps[0]?=Z v/\∃q k,w'=grow (kO.drewN q) k) (λ_ _ _=>False) (by
  rintro u B σ' G' w' r w a ⟨rfl,rfl⟩;cases w;refine⟨by simp[jx],?_⟩;have l:=λb z=>r.bb.same b z (λid o p h=>by rw[bg.sZ]at h;cases h);have m:=r.le.qs;exact bS8 r.bb.size l r.bb.drawn (by rw[a.os,m,d.os]) (by rw[a.tape,m,d.tape]) (by rw[a.output,m,d.output]))
 rw[n]at h;refine h.mono ?_;intro e w' s;cases e with
 |returned u =>simp only[jx]at s;let ⟨h1,h2⟩:=s;simp at h1;exact⟨by rw[h1],h2⟩
 |panicked c=>exact s.elim
 |outgrown=>let ⟨_,_,hf⟩:=s;exact hf.elim
def Rel.KM(h:Rel G σ w){id:Nat}{o':c7}(ho:σ.bF id=Z o)(hp:G.pl id=Z p)(hv:p.mX=U)(hs:w.heap.size<=w'.heap.size)(r:w'.os=w.os)(d:w'.tape=w.tape)(l:w'.output=w.output)(hd:w.drawn<=w'.drawn)
  (a:∀k,k<w.heap.size->k≠p.block->w'.heap[k]?=w.heap[k]?) (s:oq G p o' w'.heap[p.block]?):Rel G (σ.set id o') w'/\Fr G σ w G (σ.set id o') w':=by
 let ⟨m,t,_⟩:=h.real ho hp hv;refine⟨⟨r.trans h.os,d.trans h.tape,l.trans h.output,bD h.size hs,λb x g=>?_,h.fresh,λi x c=>?_,λi j oi oj pi pj h1 h2 n C v1 v2 D=>?_,h.qE⟩,⟨hs,λb g E=>a b g (E id o p ho hp hv ·.symm),λi x q h1 h2 n C=>?_,λ_ _ h=>.inl h,hd⟩⟩;rw[a b (h.lt g) (λe=>by rw[e,m]at g;cases g)];exact h.lo b x g;by_cases e:i=id;subst e;simp[bg.x9]at c;subst c;exact⟨p,hp,.inr ⟨hv,m,t,s⟩⟩;simp[bg.x9,e]at c;let ⟨q,u,hl⟩:=h.bF i x c;refine⟨q,u,?_⟩;rcases hl with hl|⟨f,v,z,B⟩
 exact .inl hl;refine .inr ⟨f,v,z,?_⟩;rw[a q.block (h.r_ c u f) (λH=>e (h.sep i id x o q p c ho u hp f hv H))];exact B;have aux:∀i x,(σ.set id o').bF i=Z x->∃y,σ.bF i=Z y:=λi x c=>by by_cases e:i=id;exact⟨o,by rw[e];exact ho⟩;exact⟨x,by simpa[bg.x9,e]using c⟩
 let ⟨I,J⟩:=aux i oi h1;let ⟨K,a2⟩:=aux j oj h2;exact h.sep i j I K pi pj J a2 n C v1 v2 D;by_cases e:i=id;subst e;exact⟨i,o,q,ho,h2,n,rfl⟩;exact⟨i,x,q,by simpa[bg.x9,e]using h1,h2,n,rfl⟩
def Rel.ay9(h:Rel G σ w){id:Nat}(ho:σ.bF id=Z o)(hp:G.pl id=Z p)(hv:p.mX=U)(hs:w.heap.size<=w'.heap.size)(n:w'.os=w.os)(c:w'.tape=w.tape)(l:w'.output=w.output)
  (a:∀k,k<w.heap.size->k≠p.block->w'.heap[k]?=w.heap[k]?):Rel G (σ.del id) w':=by
 let ⟨r,B,_⟩:=h.real ho hp hv;have back:∀i x,(σ.del id).bF i=Z x->i≠id/\σ.bF i=Z x:=λi x g=>by rw[bg.rK]at g;split at g;cases g;rename_i e;exact⟨e,g⟩
 refine⟨n.trans h.os,c.trans h.tape,l.trans h.output,bD h.size hs,λb x m=>?_,h.fresh,λi x g=>?_,λi j oi oj pi pj h1 h2 C D v1 v2 E=>h.sep i j oi oj pi pj (back _ _ h1).2 (back _ _ h2).2 C D v1 v2 E,h.qE⟩;rw[a b (h.lt m) (λe=>by rw[e,r]at m;cases m)];exact h.lo b x m;let ⟨s,d⟩:=back i x g;let ⟨q,t,hl⟩:=h.bF i x d;refine⟨q,t,?_⟩;rcases hl with hl|⟨f,u,v,z⟩
 exact .inl hl;refine .inr ⟨f,u,v,?_⟩;rw[a q.block (h.r_ d t f) (λH=>s (h.sep i id x o q p d ho t hp f hv H))];exact z
def Rel.Vr(h:Rel G σ w):Rel (G.frozen σ w (λ_=>W)) bg.none w :=
 ⟨h.os,h.tape,h.output,h.size,λb x a=>by
   simp only[ca.frozen]at a;split at a;exact a;exact h.lo b x a,λ_ _=>rfl,(λid o h=>by rw[bg.sZ]at h;cases h),(λi j oi oj pi pj h=>by rw[bg.sZ]at h;cases h),λb o v hv=>Nr h (h.qE b o v hv)⟩
def xc(es:cu eX)(i:Nat):eX:=(es[i]?).getD (es.headD [])
def tI(h:es≠[])(i:Nat):xc es i∈es:=by
 unfold xc;cases a7:es[i]? with
 |some r=>exact aH a7
 |none =>cases es;exact b8 rfl h;simp
def sk(cf:eX->eX->Int):cu eX->cu eX
 | []=>[]
 |r::l=>((pdq (ltOf (λi j=>cf (xc (r::l) i) (xc (r::l) j))) (bA (aa (r::l))) 0 (aa (r::l)) (eK (aa (r::l))) Y Y).toList).map (xc (r::l))
def Nj(h:es≠[]):sk cf es=((pdq (ltOf (λi j=>cf (xc es i) (xc es j))) (bA (aa es)) 0 (aa es) (eK (aa es)) Y Y).toList).map (xc es):=by cases es;exact b8 rfl h;rfl
def au1(hO:SWO (ltOf (λi j=>cf (xc es i) (xc es j)))) :
  PermIn 0 (aa es) (bA (aa es)) (pdq (ltOf (λi j=>cf (xc es i) (xc es j))) (bA (aa es)) 0 (aa es) (eK (aa es)) Y Y)/\SortedIn (ltOf (λi j=>cf (xc es i) (xc es j))) 0 (aa es) (pdq (ltOf (λi j=>cf (xc es i) (xc es j))) (bA (aa es)) 0 (aa es) (eK (aa es)) Y Y) :=
 pdq_sorts _ hO (bA (aa es)) 0 (aa es) (eK (aa es)) Y Y (di _) (by simp) (Or.inl rfl)
def E'{α:Type}[Inhabited α](enc:α->cu Value)(k:Nat)(w:World)(mb off m:Nat)(d:Array α)(os:Array Obj) :
  sortWorldK enc k w mb off m d os={ w with drawn:=w.drawn+m,heap:=w.heap.modify mb (onCells (putCells id off (flatK enc k d)))++os }:=rfl
def NI{f:Obj->Obj}{os:Array Obj}{mb k:Nat}(hk:k<w.heap.size)(a:k≠mb):(w.heap.modify mb f++os)[k]?=w.heap[k]?:=by rw[dy (by simpa using hk),fD,cc (Ne.symm a)]
def aB7{id:Nat}(d:Rel G σ w)(a:hE G restv vs)(l:∀G vs w,hE G restv vs->Rel G (σ.del id) w->hE (G.frozen (σ.del id) w (λ_=>W)) [.fn (.func g) [] caps] vs) :
  ∃cv:cu Value,vs=[.func (.func g) #[] cv.toArray]/\∀w',Rel G (σ.del id) w'->hE (G.frozen (σ.del id) w' (λ_=>W)) caps cv:=by
 have c:Rel G (σ.del id) w:=d.less rfl (λi o h=>by
  rw[bg.rK]at h;split at h;cases h;exact h)
 obtain⟨z,n,rfl,j,b⟩:=(l G vs w a c).cons_inv;obtain rfl:=b.tr;cases j with
 |fn _ _ _ fv cv h1 h2 B C=>
  have:fv=[]:=by simpa using h1
  subst this;refine⟨cv,rfl,λw' h'=>?_⟩;let ⟨p,r,s,e,f⟩:=(l G _ w' a h').cons_inv;have t:p=.func (.func g) #[] cv.toArray:=by have:=Ar gg s;simpa using this.symm
  subst t;generalize m:Value.func (.func g) #[] cv.toArray=q at e;cases e with
  |fn _ _ _ u k D v E x=>
   simp only[mJ,qj]at m;have:cv=k:=by have:=m.2;simpa using Ar Array.toList this
   subst this;exact⟨v,x⟩
def aR4  {ρ:e_} (L:lp P ρ) {f:FuncId} (hf:ρ.f 6=f) {S:Func} (hS:P.funcs[f]?=Z S) (hSn:(S.name== "runtime.NumGoroutine")=U) (hSb:S.body.isNone=U) {z:Nat} (hz:0<z) (aE:∀ w,(isAgg (ρ.t 24)).run P w=.ok Y w) (zE:∀ w,(lK (ρ.t 24)).run P w=.ok z w)
   {fnG:Func} (hG:P.funcs[g]?=Z fnG) (hGn:(fnG.name== "runtime.NumGoroutine")=U) (hGb:fnG.body.isNone=U) {e:TypeId}   
  (hlen:∀r∈es,aa r=z) (hone:∀r∈es,∀c∈r,c.one=Y) (hpur:∀r∈es,∀c∈r,c.kl=Y) (hn:aa es<4611686018427387904)
  (hcmp:∀x∈es,∀y∈es,oX P ⟨g,[.agg x,.agg y]++caps,Hq (cf x y)⟩) (hO:es≠[]->SWO (ltOf (λi j=>cf (xc es i) (xc es j))))
   {id:Nat} (ho:σ.bF id=Z (.row e z es))  (hr:∀G vs w,hE G restv vs->Rel G (σ.del id) w->hE (G.frozen (σ.del id) w (λ_=>W)) [.fn (.func g) [] caps] vs) :
  oO P f (.ms id z 0 (aa es)::restv) σ (λv σ'=>v=.ed []/\σ'=σ.set id (.row e z (sk cf es))):=by
 subst hf;refine oO.Cc hS hSn hSb ?_;intro G vs w u s;obtain⟨u1,vs1,rfl,hu1,u⟩:=u.cons_inv;obtain⟨cv,rfl,hcv⟩:=aB7 s u hr;by_cases hes:es=[]
 .
  subst hes;have hσ:∀i,(σ.set id (.row e z [])).bF i=σ.bF i:=λi=>by
   rw[bg.x9];split
   next ei=>rw[ei,ho]
   rfl
  obtain⟨q,c,rfl⟩:∃(q:dv Addr) (c:Nat),u1=.slice q 0 c:=by
   cases hu1 with
   |ms _ _ _ _ p hp hv hz' a c ha hoff hl hsp=>exact⟨Z a,c,rfl⟩
   |oh _ _ p hp hv=>exact⟨W,0,rfl⟩
  refine(jn L q c (.func (.func g) #[] cv.toArray) w).mono ?_;rintro e' w' ⟨rfl,rfl⟩;refine⟨_,.ed [],σ.set id (.row e z (sk cf [])),G,rfl,⟨.refl G,.refl _ G,ay _,Fr.less (λi o h=>by rw[<-hσ i];exact h)⟩,.ed [] [] rfl (λi h=>by simp at h),s.less rfl (λi o h=>by rw[<-hσ i];exact h),rfl,rfl⟩
 have D:=dB.2 hes;obtain⟨p,hp,hv,c,rfl,hc⟩:∃p,G.pl id=Z p/\p.mX=U/\∃c,u1=.slice (Z ⟨p.block,0,W⟩) (aa es) c/\aa es<=c:=by
  generalize hl0:aa es=n0 at hu1 D;cases hu1 with
  |ms _ _ _ _ p hp hv hz' a c ha hoff hl hsp=>refine⟨p,hp,hv,c,?_,hl⟩;rw[ha (by omega)];simp
  |oh _ _ p hp hv=>omega
 let ⟨him,hw0,cs,hcs,hpz,hcsz,hcap,hrows⟩:=s.real ho hp hv
 have E:=s.r_ ho hp hv;have hin:∀i j,i<aa es->j<z->i*z+j<cs.size:=λi j a7 hj=>by have h1:(i+1)*z<=p.cap*z:=Nat.mul_le_mul_right z (by omega);rw[cG,kE]at h1;omega
 let enc:Nat->cu Value:=λi=>(aT z).map λj=>cs[(ite (i<aa es) i 0)*z+j]!
 have hk:∀i,aa (enc i)=z:=λi=>by simp[enc]
 have hrep:∀i,hE G (xc es i) (enc i):=λi=>by
  have key:∀i,i<aa es->hE G (xc es i) ((aT z).map λj=>cs[i*z+j]!):=λi a7=>by
   have K:xc es i=es[i]:=by simp[xc,a7]
   rw[K];let ⟨r1,r2⟩:=hrows i a7;refine⟨by simp[r1],λj hj M=>?_⟩;have B:j<z:=by omega
   have:=r2 j hj (hin i j a7 B);simpa[hin i j a7 B]using this
  by_cases a7:i<aa es
  .have:=key i a7
   simp only[enc,a7];exact this
  have:=key 0 D;have e2:xc es i=xc es 0:=by
   unfold xc;rw[bB (by omega)];cases es with
   |nil=>simp at D
   |cons a l=>simp
  simp only[enc,a7];rw[e2];exact this
 have hone':∀i,∀v∈enc i,v.oneCell'=Y:=λi v hv'=>by obtain⟨j,hj,rfl⟩:=bk hv';have hr1:=(hrep i).1;have:=(hrep i).2 j (by omega) hj;exact eR.one (hone _ (tI hes i) _ (au _)) this
 have n:(bA (aa es)).size=aa es:=by simp
 have hH:HoldsK enc z w p.block 0 (bA (aa es)):=by
  intro j hj;rw[size_flatK,n]at hj;rw[get_flatK _ _ _ _ (by rw[n];exact hj)];have hjz:=(Nat.div_lt_iff_lt_mul hz).2 hj;have hjm:j%z<z:=eZ _ hz;have K:(bA (aa es))[j / z]! = j / z:=by simp[hjz]
  have e2:j / z*z+j%z=j:=by rw[fY];exact Nat.div_add_mod j z
  have hlt:j<cs.size:=by rw[<-e2];exact hin _ _ hjz hjm
  rw[K];constructor
  .simp only[im,hcs]
   simp only[enc,hjz];simp[hjm,e2,hlt]
  simp[jy,hcs]
 have N:∀(m:Nat) (J:Array Nat) (os:Array Obj) k,k<w.heap.size->k≠p.block->(sortWorldK enc z w p.block 0 m J os).heap[k]?=w.heap[k]?:=λm J os k hk hne=>by exact NI hk hne
 have H:∀(m:Nat) (J:Array Nat) (os:Array Obj),w.heap.size<=(sortWorldK enc z w p.block 0 m J os).heap.size:=λm J os=>by rw[E'];simp
 have hC:CmpLays P g cv.toArray enc z (λi j=>cf (xc es i) (xc es j)) p.block 0 (bA (aa es)).size w:=by
  intro m os J hdk x y;have C:=s.ay9 ho hp hv (H m J os) rfl rfl rfl (N m J os);have hmono:∀c v,c.kl=Y->eR G c v->eR (G.frozen (σ.del id) (sortWorldK enc z w p.block 0 m J os) (λ_=>W)) c v:=λc v hp' hr'=>rr (λb o hb=>tc C hb) hr' hp';have O:∀i,eR (G.frozen (σ.del id) (sortWorldK enc z w p.block 0 m J os) (λ_=>W)) (.agg (xc es i)) (.agg (enc i).toArray):=λi=>.agg _ _ (hrep i).1 (λj hj M=>hmono _ _ (hpur _ (tI hes i) _ (au _)) ((hrep i).2 j hj M));have hA :=((hE.nil _).cons (O y) |>.cons (O x)).append (hcv _ C);have:=oX.VB hG hGn hGb (hcmp _ (tI hes x) _ (tI hes y)) hA C.Vr;have K:([Value.agg (enc x).toArray,.agg (enc y).toArray]++cv).toArray=#[.agg (enc x).toArray,.agg (enc y).toArray]++cv.toArray:=by simp
  rw[K]at this;exact this
 have eg:∀args w,(callFunc g args).run P w=.ok (.enter g args) w:=λargs w=>by simp only[callFunc,ax,run_program,ao,hG,hGn,hGb,aF,l4,bd]
 have main:=AnyQ.slices_SortFunc_eq L z aE zE enc hk hone' (λi j=>cf (xc es i) (xc es j)) (hO hes) g cv.toArray p.block 0 c (bA (aa es)) w eg hC hH E (by rw[n];exact hn);rw[n]at main;refine main.mono ?_;rintro e' w' ⟨rfl,m,os,rfl⟩;let ⟨⟨yG,_,_⟩,_⟩:=au1 (hO hes);have Q:=Nj (cf:=cf) hes;generalize pdq (α:=Nat) _ _ _ _ _ _ _=d at *;have hdz:d.size=aa es:=by simpa using yG
 have hH2:=holdsK_sortWorldK enc z w p.block 0 m _ d os E hH (by rw[hdz,n]);have R:(sortWorldK enc z w p.block 0 m d os).heap[p.block]?=Z (.cells (putCells (λx:Value=>x) 0 (flatK enc z d) cs) e (0,0)):=by rw[E'];rw[dy (by simpa using E),fD,cr rfl,hcs];rfl
 have hlen':aa (sk cf es)=aa es:=by rw[Q];simp[hdz]
 have hok:oq G p (.row e z (sk cf es)) (sortWorldK enc z w p.block 0 m d os).heap[p.block]?:=by
  refine⟨_,R,hpz,by simp[putCells,hcsz],by rw[hlen'];exact hcap,λi a7=>?_⟩;have hi2:i<d.size:=by omega
  have K:(sk cf es)[i]=xc es d[i]:=by simp[Q]
  refine⟨by rw[K];exact hlen _ (tI hes _),λj hj M=>?_⟩;rw[K]at hj;have B:j<z:=by rw[hlen _ (tI hes _)]at hj;exact hj
  have I:=(HoldsK.cell hH2 hi2 B).1;simp only[im,R,bj]at I;have hval:(putCells (λx:Value=>x) 0 (flatK enc z d) cs)[i*z+j]=(enc d[i]!)[j]! := by have:=I;rw[Array.getElem?_eq_getElem M]at this;simpa using this
  rw[hval];have hr2:=(hrep d[i]).2 j hj (by rw[hk];exact B);have e2:(enc d[i]!)[j]! = (enc d[i])[j]'(by rw[hk];exact B):=by simp[hi2,hk,B]
  rw[e2];have e3:(sk cf es)[i][j]=(xc es d[i])[j]:=by simp only[K]
  rw[e3];exact hr2
 let ⟨hrelN,hfrN⟩:=s.KM ho hp hv (o':=.row e z (sk cf es)) (H m d os) rfl rfl rfl (aZ _ _) (N m d os) hok
 exact⟨_,.ed [],σ.set id (.row e z (sk cf es)),G,rfl,⟨.refl G,.refl _ G,ay _,hfrN⟩,.ed [] [] rfl (λi h=>by simp at h),hrelN,rfl,rfl⟩
def aH6 {P:Program} {ρ:e_} (L:lL P ρ) {f:FuncId} (hf:ρ.f 6=f) {N:Func} (hS:P.funcs[f]?=Z N) (hSn:(N.name== "runtime.NumGoroutine")=U) (hSb:N.body.isNone=U)
  {g:FuncId} {O:Func} (hG:P.funcs[g]?=Z O) (hGn:(O.name== "runtime.NumGoroutine")=U) (hGb:O.body.isNone=U) {e:TypeId} {es:cu eX} {caps:eX} {cf:eX->eX->Int}
  (hlen:∀r∈es,aa r=1) (hone:∀r∈es,∀c∈r,c.one=Y) (hpur:∀r∈es,∀c∈r,c.kl=Y) (hn:aa es<4611686018427387904)
  (hcmp:∀x∈es,∀y∈es,oX P ⟨g,(x++y)++caps,Hq (cf x y)⟩) (hO:es≠[]->SWO (ltOf (λi j=>cf (xc es i) (xc es j))))
  {σ:bg} {id:Nat} (ho:σ.bF id=Z (.row e 1 es)) {restv:eX} (hr:∀G vs w,hE G restv vs->Rel G (σ.del id) w->hE (G.frozen (σ.del id) w (λ_=>W)) [.fn (.func g) [] caps] vs) :
  oO P f (.ms id 1 0 (aa es)::restv) σ (λv σ'=>v=.ed []/\σ'=σ.set id (.row e 1 (sk cf es))):=by
 subst hf;refine oO.Cc hS hSn hSb ?_;intro G vs w t n;obtain⟨u1,vs1,rfl,Q,t⟩:=t.cons_inv;obtain⟨cv,rfl,hcv⟩:=aB7 n t hr;by_cases hes:es=[]
 .
  subst hes;have hσ:∀i,(σ.set id (.row e 1 [])).bF i=σ.bF i:=λi=>by
   rw[bg.x9];split
   next ei=>rw[ei,ho]
   rfl
  obtain⟨q,c,rfl⟩:∃(q:dv Addr) (c:Nat),u1=.slice q 0 c:=by
   cases Q with
   |ms _ _ _ _ p hp hv hz' a c ha hoff hl hsp=>exact⟨Z a,c,rfl⟩
   |oh _ _ p hp hv=>exact⟨W,0,rfl⟩
  refine(jn { L with } q c (.func (.func g) #[] cv.toArray) w).mono ?_;rintro e' w' ⟨rfl,rfl⟩;refine⟨_,.ed [],σ.set id (.row e 1 (sk cf [])),G,rfl,⟨.refl G,.refl _ G,ay _,Fr.less (λi o h=>by rw[<-hσ i];exact h)⟩,.ed [] [] rfl (λi h=>by simp at h),n.less rfl (λi o h=>by rw[<-hσ i];exact h),rfl,rfl⟩
 have B:=dB.2 hes;obtain⟨p,hp,hv,c,rfl,hc⟩:∃p,G.pl id=Z p/\p.mX=U/\∃c,u1=.slice (Z ⟨p.block,0,W⟩) (aa es) c/\aa es<=c:=by
  generalize hl0:aa es=n0 at Q B;cases Q with
  |ms _ _ _ _ p hp hv hz' a c ha hoff hl hsp=>refine⟨p,hp,hv,c,?_,hl⟩;rw[ha (by omega)];simp
  |oh _ _ p hp hv=>omega
 let ⟨him,hw0,cs,R,hpz,hcsz,hcap,S⟩:=n.real ho hp hv
 have I:=n.r_ ho hp hv;have hin:∀i,i<aa es->i<cs.size:=λi a7=>by omega
 let enc:Nat->Value:=λi=>cs[ite (i<aa es) i 0]!
 have hrep:∀i,hE G (xc es i) [enc i]:=λi=>by
  have key:∀i,i<aa es->hE G (xc es i) [cs[i]!]:=λi a7=>by
   have E:xc es i=es[i]:=by simp[xc,a7]
   rw[E];let ⟨r1,r2⟩:=S i a7;refine⟨by simp[r1],λj hj H=>?_⟩;have hj0:j=0:=by simp at H;omega
   subst hj0;have:=r2 0 hj (by simpa using hin i a7);simpa[hin i a7]using this
  by_cases a7:i<aa es
  .have:=key i a7
   simp only[enc,a7];exact this
  have:=key 0 B;have e2:xc es i=xc es 0:=by
   unfold xc;rw[bB (by omega)];cases es with
   |nil=>simp at B
   |cons a l=>simp
  simp only[enc,a7];rw[e2];exact this
 have hone':=λi=>by have hr1:=(hrep i).1;have:=(hrep i).2 0 (by simp at hr1;omega) (by simp);exact eR.one (hone _ (tI hes i) _ (au _)) this
 have s:(bA (aa es)).size=aa es:=by simp
 have hH:Holds enc w p.block 0 (bA (aa es)):=by
  intro j hj;rw[s]at hj;have E:(bA (aa es))[j]! = j:=by simp[hj]
  have hlt:=hin j hj;rw[E];constructor
  .simp only[im,R]
   simp only[enc,hj];simp[hlt]
  simp[jy,R]
 have C:∀(m:Nat) (z:Array Nat) (os:Array Obj),sortWorld enc w p.block 0 m z os={ w with drawn:=w.drawn+m,heap:=w.heap.modify p.block (onCells (putCells enc 0 z))++os }:=λ_ _ _=>rfl;have J:∀(m:Nat) (z:Array Nat) (os:Array Obj) k,k<w.heap.size->k≠p.block->(sortWorld enc w p.block 0 m z os).heap[k]?=w.heap[k]?:=λm z os k hk hne=>by exact NI hk hne
 have D:∀(m:Nat) (z:Array Nat) (os:Array Obj),w.heap.size<=(sortWorld enc w p.block 0 m z os).heap.size:=λm z os=>by rw[C];simp
 have hC:CmpLays1 P g cv.toArray enc (λi j=>cf (xc es i) (xc es j)) p.block 0 (bA (aa es)).size w:=by
  intro m os z hdk x y;have u:=n.ay9 ho hp hv (D m z os) rfl rfl rfl (J m z os);have K:∀i,hE (G.frozen (σ.del id) (sortWorld enc w p.block 0 m z os) (λ_=>W)) (xc es i) [enc i]:=λi=>⟨(hrep i).1,λj hj H=>rr (λb o hb=>tc u hb) ((hrep i).2 j hj H) (hpur _ (tI hes i) _ (au _))⟩;have hA:=((K x).append (K y)).append (hcv _ u);have:=oX.VB hG hGn hGb (hcmp _ (tI hes x) _ (tI hes y)) hA u.Vr;have E:([enc x]++[enc y]++cv).toArray=#[enc x,enc y]++cv.toArray:=by simp
  rw[E]at this;exact this
 have eg:∀args w,(callFunc g args).run P w=.ok (.enter g args) w:=λargs w=>by simp only[callFunc,ax,run_program,ao,hG,hGn,hGb,aF,l4,bd]
 have main:=Any.slices_SortFunc_eq L enc hone' (λi j=>cf (xc es i) (xc es j)) (hO hes) g cv.toArray p.block 0 c (bA (aa es)) w eg hC hH I (by rw[s];exact hn);rw[s]at main;refine main.mono ?_;rintro e' w' ⟨rfl,m,os,rfl⟩;let ⟨⟨yG,_,_⟩,_⟩:=au1 (hO hes);have M:=Nj (cf:=cf) hes;generalize pdq (α:=Nat) _ _ _ _ _ _ _=d at *;have hdz:d.size=aa es:=by simpa using yG
 have hobj:(sortWorld enc w p.block 0 m d os).heap[p.block]?=Z (.cells (putCells enc 0 d cs) e (0,0)):=by rw[C];rw[dy (by simpa using I),fD,cr rfl,R];rfl
 have hlen':aa (sk cf es)=aa es:=by rw[M];simp[hdz]
 have hok:oq G p (.row e 1 (sk cf es)) (sortWorld enc w p.block 0 m d os).heap[p.block]?:=by
  refine⟨_,hobj,hpz,by simp[putCells,hcsz],by rw[hlen'];exact hcap,λi a7=>?_⟩;have hi2:i<d.size:=by omega
  have E:(sk cf es)[i]=xc es d[i]:=by simp[M]
  refine⟨by rw[E];exact hlen _ (tI hes _),λj hj H=>?_⟩;rw[E]at hj;have hj0:j=0:=by rw[hlen _ (tI hes _)]at hj;omega
  subst hj0;have hval:(putCells enc 0 d cs)[i*1+0]=enc d[i]:=by simp[putCells,hi2]
  rw[hval];have e3:(sk cf es)[i][0]=(xc es d[i])[0]:=by simp only[E]
  rw[e3];exact(hrep d[i]).2 0 hj (by simp)
 let ⟨hrelN,hfrN⟩:=n.KM ho hp hv (o':=.row e 1 (sk cf es)) (D m d os) rfl rfl rfl (aZ _ _) (J m d os) hok
 exact⟨_,.ed [],σ.set id (.row e 1 (sk cf es)),G,rfl,⟨.refl G,.refl _ G,ay _,hfrN⟩,.ed [] [] rfl (λi h=>by simp at h),hrelN,rfl,rfl⟩
def xM(v:Int):eX:=[.b4 (.int .i64 v)]
def aM0 {P:Program} {ρ:e_} (L:lM P ρ) {f:FuncId} (hf:ρ.f 5=f) {t:Func} (hS:P.funcs[f]?=Z t) (R:(t.name== "runtime.NumGoroutine")=U) (S:t.body.isNone=U)
  {e:TypeId} {g:eD} (hn:aa g<4611686018427387904) {σ:bg} {id:Nat} (ho:σ.bF id=Z (.row e 1 (g.map xM))) :
  oO P f [.ms id 1 0 (aa (g.map xM))] σ (λv σ'=>v=.ed []/\σ'=σ.set id (.row e 1 ((g.mergeSort λa b=>No (a<=b)).map xM))):=by
 subst hf;refine oO.Cc hS R S ?_;intro G vs w l n;obtain⟨u1,vs1,rfl,r,l⟩:=l.cons_inv;obtain rfl:=l.tr;by_cases hes:g=[]
 .
  subst hes;have H:∀i,(σ.set id (.row e 1 [])).bF i=σ.bF i:=λi=>by grind[bg.x9]
  obtain⟨q,c,rfl⟩:∃(q:dv Addr) (c:Nat),u1=.slice q 0 c:=by
   cases r with
   |ms _ _ _ _ p hp hv hz' a c ha hoff hl hsp=>exact⟨Z a,c,rfl⟩
   |oh _ _ p hp hv=>exact⟨W,0,rfl⟩
  refine(AnyM.slices_Sort_int_none L q c w).mono ?_;rintro e' w' ⟨rfl,rfl⟩;refine⟨_,.ed [],σ.set id (.row e 1 []),G,rfl,⟨.refl G,.refl _ G,ay _,Fr.less (λi o h=>by rw[<-H i];exact h)⟩,.ed [] [] rfl (λi h=>by simp at h),n.less rfl (λi o h=>by rw[<-H i];exact h),rfl,by simp⟩
 have I:=dB.2 hes;obtain⟨p,hp,hv,c,rfl,hc⟩:∃p,G.pl id=Z p/\p.mX=U/\∃c,u1=.slice (Z ⟨p.block,0,W⟩) (aa g) c/\aa g<=c:=by
  rw[aI]at r;generalize hl0:aa g=n0 at r I;cases r with
  |ms _ _ _ _ p hp hv hz' a c ha hoff hl hsp=>grind
  |oh _ _ p hp hv=>omega
 let ⟨him,hw0,cs,hcs,hpz,J,K,u⟩:=n.real ho hp hv
 have s:=n.r_ ho hp hv;rw[aI]at K;have z:∀i,i<aa g->i<cs.size:=λi a7=>by omega
 have hcell:∀i (a7:i<aa g),cs[i]'(z i a7)=.int .i64 g[i]:=λi a7=>by
  let ⟨r1,r2⟩:=u i (by simpa using a7)
  have:=r2 0 (by simp[xM]) (by simpa using z i a7);simp at this;generalize cs[i]'(z i a7)=q at this;cases this;rfl
 have hH:Holds (bK .i64) w p.block 0 g.toArray:=by
  intro j hj
  grind[im,jy]
 refine(calls_of_every_depth λD=>AnySM.slices_Sort_int_in L D p.block 0 c g w hH s hn).mono ?_;rintro e' w' ⟨rfl,m,os,rfl⟩;generalize tX:(g.mergeSort λx y=>No (x<=y))=d;have hdz:aa d=aa g:=by grind[jP]
 have B:grow (putRow (bK .i64) (iB w m) p.block 0 d.toArray) os={ w with drawn:=w.drawn+m,heap:=w.heap.modify p.block (onCells (putCells (bK .i64) 0 d.toArray))++os }:=rfl;have M:∀k,k<w.heap.size->k≠p.block->(grow (putRow (bK .i64) (iB w m) p.block 0 d.toArray) os).heap[k]?=w.heap[k]?:=λk hk hne=>by grind
 have C:w.heap.size<=(grow (putRow (bK .i64) (iB w m) p.block 0 d.toArray) os).heap.size:=by simp
 have N:(grow (putRow (bK .i64) (iB w m) p.block 0 d.toArray) os).heap[p.block]?=Z (.cells (putCells (bK .i64) 0 d.toArray cs) e (0,0)):=by rw[B];rw[dy (by simpa using s),fD,cr rfl,hcs];rfl
 have hok:oq G p (.row e 1 (d.map xM)) (grow (putRow (bK .i64) (iB w m) p.block 0 d.toArray) os).heap[p.block]?:=by
  refine⟨_,N,hpz,by simp[putCells,J],by grind,λi a7=>?_⟩;have hi2:i<aa d:=by simpa using a7
  refine⟨by simp[xM],λj hj hj'=>?_⟩;have hj0:j=0:=by simp[xM]at hj;omega
  subst hj0;have O:(putCells (bK .i64) 0 d.toArray cs)[i*1+0]=.int .i64 d[i]:=by simp[putCells,hi2]
  rw[O];simp only[cK];exact .b4 _
 let ⟨E,Q⟩:=n.KM ho hp hv (o':=.row e 1 (d.map xM)) C rfl rfl rfl (aZ _ _) M hok
 exact⟨_,.ed [],σ.set id (.row e 1 (d.map xM)),G,rfl,⟨.refl G,.refl _ G,ay _,Q⟩,.ed [] [] rfl (λi h=>by simp at h),E,rfl,rfl⟩
open Go
def Nb {P:Program} {T:bY} (cb:rk P T) {f:FuncId} {fn:Func} {t elem:TypeId} {z b:Nat} {l:dr} (hf:P.funcs[f]?=Z fn) (g:(fn.name== "runtime.NumGoroutine")=U) (m:DR fn t=Y) (B:fn.resultTypes.toList=[t])
  (h1:(T t).map nk.j4=Z (.slice elem)) (h2:(T elem).map nk.size=Z z) (D:(T elem).map nk.bytes=Z b) (hz:0<z) (hl:∀v:l.T,aa (a6 l v)=z/\∀d∈a6 l v,bX.one d=Y) {x r:cu l.T}
  (Q:(2*aa x+1000)*b<=2^48) (R:aa x<=2^62) (E:r=x):uu P f (a6 (.one (.hF l)) x) (enc (.hF l) r):=by
 subst E;refine⟨r.map (a6 l),rfl,λG H k e ti n h I o J hu p σ=>?_⟩;have K:k=t:=by grind
 subst K;cases C:T k with
 |none=>rw[C]at h1;cases h1
 |some q=>
 have M:e=elem:=by
  have a:=h.j4 k ti J;have c:=cb.j4 k q C
  grind
 subst M;cases s:T e with
 |none=>rw[s]at h2;cases h2
 |some u=>
 rw[s]at h2 D;have s2:=aJ h2;let ⟨i,i1,i2,i3,_⟩:=h.info e n p;let ⟨j,N,S,j3,_⟩:=cb.info e u s;have O:=aJ (i1.symm.trans N);subst O;have ha:K6 G k [.rs (r.map (a6 l))] σ=Z (.ms (σ.next+5) n.size 0 (aa (r.map (a6 l))),({ σ with next:=σ.next+7 }:bg).set (σ.next+5) (.row e n.size (r.map (a6 l)))):=by
  let ⟨j4,size,zero,bytes,flat⟩:=ti;have w:=hu;subst w
  simp only[K6,oS];have hn:(bX.rs (r.map (a6 l))).isNil≠Z Y:=by cases r<;>simp[bX.isNil]
  grind
 exact(ca4 h hf g (aI8 m) ha).1
variable {G:ca}{H:cu (Nat×Hint)}{P:Program}{S:Nat->dv dr}{a:eX}{acts:cu (Nat×tT)}{args:eX}{bb:Nat}{c:Code}{d:cu c9}{elem:TypeId}{es:cu eX}{f:FuncId}{l:dr}{m:Nat}{mW:dr}{ts:cu c9}{w:World}{z:Nat}{θ:Nat->bX}{σ:bg}
def QT(s:bl)(v:bX)(elem:TypeId)(z:Nat)(es:cu eX):Prop :=
 (v=.b4 (.slice W 0 0)/\es=[])\/∃id a,v=.ms id z 0 (aa es)/\s.st.bF id=Z (.row elem z a)/\aa a=aa es /\
  ∀G w pl,Rel G s.st w->∀i (a7:i<aa es) (b:i<aa a),es[i].length=a[i].length/\∀j (hj:j<es[i].length) (c:j<a[i].length) u,eR G a[i][j] u->eR (G.frozen (s.st.del id) w pl) es[i][j] u
def Rel.ML(h:Rel G σ w)(id:Nat):Rel G (σ.del id) w:=h.less rfl λi o ho=>by rw[bg.rK]at ho;split at ho;cases ho;exact ho
def aT7(a:Rel G σ w){m:ca}{σ1 c:bg}{n:World}(D:ou 0 { G with pl:=λ_=>W } bg.none w m σ1 n)(d:Rel m σ1 n)(E:∀i o,c.bF i=Z o->σ1.bF i=Z o)(H:Rel m c n)
  {p:nt}    {f:Nat->dv nt} (I:f=λi=>ite (i=σ.next+5) (Z p) <|G.pl i)
  (hB:(p.mX=Y/\es=[])\/(p.mX=U/\m.lo p.block=W/\¬Live m c p.block/\w.heap.size<=p.block/\oq (m.frozen c n f) p (.row elem z es) n.heap[p.block]?)) :
  tb σ.next G σ w (m.frozen c n f) ({ σ with next:=σ.next+7 }.set (σ.next+5) (.row elem z es)) n/\Rel (m.frozen c n f) ({ σ with next:=σ.next+7 }.set (σ.next+5) (.row elem z es)) n:=by
 have u:∀i,({ σ with next:=σ.next+7 }.set (σ.next+5) (.row elem z es):bg).bF i=if i=σ.next+5 then Z (.row elem z es)else σ.bF i:=λi=>bg.x9 ..
 have J:=D.qs;have B:=λb t=>D.bb.same b t (λid o p h=>by rw[bg.sZ]at h;cases h);have k:∀b,¬ ∃id0 o0 p0,bg.none.bF id0=Z o0/\(W:dv nt)=Z p0/\p0.mX=U/\p0.block=b:=λb ⟨id,o0,p0,h,_⟩=>by rw[bg.sZ]at h;cases h
 have himm:∀b x,(m.frozen c n f).lo b=Z x->G.lo b=Z x\/w.heap.size<=b:=λb x C=>by
  simp only[ca.frozen]at C;split at C;rename_i hl;obtain⟨id,o1,p,h1,h2,r,rfl⟩:=hl;right;rcases cU p.block w.heap.size with l|l
  exact b8 (D.bb.live id o1 p (E _ _ h1) h2 r l) (k _);exact l;rcases D.bb.lo b x C with h1|h1|h1
  exact .inl h1;exact .inr h1;exact b8 h1 (k _)
 have N:G.pl (σ.next+5)=W:=a.fresh _ (by omega);have hle:G.le (m.frozen c n f):=⟨J,λb x t=>tc H (D.lo b x t),λi q Q=>by
  rw[I];show(ite (i=σ.next+5) (Z p) <|G.pl i)=Z q;rw[cc (λe=>by rw[e,N]at Q;cases Q)];exact Q⟩
 have g:∀i,i≠σ.next+5->(m.frozen c n f).pl i=G.pl i:=λi a7=>by show f i=_;rw[I];exact cc a7
 have s:(m.frozen c n f).pl (σ.next+5)=Z p:=by show f _=_;rw[I];exact cr rfl
 have K:p.mX=U->w.heap.size<=p.block:=λhv=>by
  rcases hB with⟨h1,_⟩|⟨_,_,_,l,_⟩
  rw[hv]at h1;cases h1;exact l
 refine⟨⟨hle,λi a7 hg=>?_,?_,⟨D.bb.size,λb t _=>B b t,λid x q h1 h2 r l=>?_,λb x t=>?_,D.bb.drawn⟩⟩,⟨d.os,d.tape,d.output,d.size,λb x t=>?_,λi a7=>?_,λid x C=>?_,λi j oi oj pi pj h1 h2 r l v1 v2 M=>?_,λb o v hv=>hle.cell (a.qE b o v hv)⟩⟩;rw[g i (by omega)];exact hg;show σ.next<=σ.next+7;omega;rw[u]at h1;split at h1;rename_i e;subst e;rw[s]at h2;cases h2;have:=K r;omega;rename_i e;rw[g _ e]at h2;exact⟨id,x,q,h1,h2,r,rfl⟩;rcases himm b x t with h1|h1
 exact .inl h1;exact .inr (.inl h1);simp only[ca.frozen]at t;split at t;exact t;exact d.lo b x t;have hi':σ.next+7<=i:=a7;rw[g i (by omega)];exact a.fresh i (by omega);rw[u]at C;split at C;rename_i e;subst e;cases C;refine⟨p,s,?_⟩;rcases hB with⟨h1,rfl⟩|⟨h1,h2,r,l,M⟩
 exact .inl ⟨h1,_,_,rfl⟩;refine .inr ⟨h1,?_,?_,M⟩;simp only[ca.frozen];rw[cc r];exact h2;have h6:m.qs.heap.size<=p.block:=by rw[J];exact bD a.size l
 exact h6;rename_i e;let ⟨q,O,hl⟩:=a.bF id x C;refine⟨q,by rw[g _ e];exact O,?_⟩;rcases hl with⟨h1,h2⟩|⟨h1,h2,r,l⟩
 exact .inl ⟨h1,h2⟩;have R:=a.r_ C O h1;refine .inr ⟨h1,?_,by show m.qs.heap.size<=_;rw[J];exact r,by rw[B _ R];exact l.mono hle⟩;cases a7:(m.frozen c n f).lo q.block with
 |none=>rfl
 |some y=>
  rcases himm _ _ a7 with M|M
  rw[h2]at M;cases M;omega
 rw[u]at h1 h2;split at h1;rename_i S;split at h2;omega;rename_i P;subst S;rw[s]at r;cases r;rw[g _ P]at l;have:=K v1;have:=a.r_ h2 l v2;omega;rename_i S;rw[g _ S]at r;split at h2;rename_i P;subst P;rw[s]at l;cases l;have:=K v2;have:=a.r_ h1 r v1;omega;rename_i P;rw[g _ P]at l;exact a.sep i j oi oj pi pj h1 h2 r l v1 v2 M
def uu.DS  {T:bY} (cb:rk P T)  {fn:Func}    {t:TypeId} {ti C:nk} (D:P.funcs[f]?=Z fn) (E:(fn.name== "runtime.NumGoroutine")=U) (hb:fn.body=Z c) (hn:aa args<=fn.ntmps)
  (hp:args.all bX.kl=Y) (O:fn.resultTypes.toList=[t]) (htt:T t=Z ti) (hu:ti.j4=.slice elem) (hei:T elem=Z C)
  (h:j5 P 0 c (λe s'=>(e=.normal\/e=.ret)/\∃v,pc T fn s'=Z v/\QT s' v elem C.size es) (bl.enter fn.ntmps args bg.none)):uu P f args (.rs es):=by
 refine⟨es,rfl,λT' fn' t' d ti' R S hf' l ht' hu' hei' σ=>?_⟩;have e0:=aJ (hf'.symm.trans D);subst e0;have e1:t'=t:=by rw[O]at l;exact(kK l).1.symm
 subst e1;have e2:d=elem:=by
  have a:=S.j4 t' ti' ht';have c:=cb.j4 t' ti htt
  grind
 subst e2;have e3:R.size=C.size:=by let ⟨i,i1,i2,i3,_⟩:=S.info d R hei';let ⟨j,j1,j2,j3,_⟩:=cb.info d C hei;have e3:=aJ (i1.symm.trans j1);subst e3;omega
 rw[e3];intro G vs w m g o a Kc Q hK;have hrun:(callFunc f vs.toArray).run P w=.ok (.enter f vs.toArray) w:=by simp only[callFunc,ax,run_program,ao,D,E,hb,Option.isNone_some,aF,l4,bd]
 rw[hrun];let G0:ca:={ G with pl:=λ_=>Option.none };have x:hE G0 args vs:=⟨m.1,λi h1 h2=>rr (G:=G) (G':=G0) (λ_ _ h=>h) (m.2 i h1 h2) (aj.1 hp _ (au h1))⟩;have H:Rel G0 bg.none w:=⟨g.os,g.tape,g.output,g.size,g.lo,λ_ _=>rfl,(λid o h=>by rw[bg.sZ]at h;cases h),(λi j oi oj pi pj h=>by rw[bg.sZ]at h;cases h),g.qE⟩;refine calls_of_wp D hb (wp_mono (h (di _) G0 _ w (zc.enter x H fn'.ntmps hn)) ?_);rintro e a' B ⟨s1,N,ht,b3,hex,v,hv,hd⟩;let ⟨y,hy,I⟩:=IF (P:=P) cb b3 hv;have b:=b3.rel;have fin:∀(r:bg) (p:nt),(∀i o,r.bF i=Z o->s1.st.bF i=Z o)->Rel N r B->(∀G':ca,G'.pl (σ.next+5)=Z p->eR G' (.ms (σ.next+5) C.size 0 (aa es)) y) ->
   (∀J,(p.mX=Y/\es=[])\/(p.mX=U/\N.lo p.block=W/\¬Live N r p.block/\w.heap.size<=p.block/\oq (N.frozen r B J) p (.row d C.size es) B.heap[p.block]?))->Kc (a.put o.dst y) B:=by
  intro r p h1 h2 h3 h4;let ⟨g1,g2⟩:=aT7 g ht b h1 h2 (p:=p) (elem:=d) (z:=C.size) (es:=es) rfl (h4 _);exact hK y _ _ _ B g1 (h3 _ (by show(ite (σ.next+5=σ.next+5) (Z p) _)=_;rw[cr rfl])) g2 ⟨rfl,rfl⟩
 have main:Kc (a.put o.dst y) B:=by
  rcases hd with⟨rfl,rfl⟩|⟨id,es0,rfl,ho,hlen,K⟩
  cases I;exact fin s1.st ⟨0,0,0,Y⟩ (λ_ _ h=>h) b (λG' hG=>.oh _ _ _ hG rfl) (λ_=>.inl ⟨rfl,rfl⟩);have s:∀i o,(s1.st.del id).bF i=Z o->s1.st.bF i=Z o:=λi o h=>by rw[bg.rK]at h;split at h;cases h;exact h
  have M:Rel N (s1.st.del id) B:=b.less rfl s;generalize hn0:aa es=n at I fin;cases I with
  |oh _ _ p u k =>have:=List.eq_nil_of_length_eq_zero hn0;subst this;exact fin s1.st p (λ_ _ h=>h) b (λG' hG=>.oh _ _ _ hG k) (λ_=>.inl ⟨k,rfl⟩)
  |ms _ _ _ _ p u k hz' ad cp hA hoff hl hsp=>
   refine fin (s1.st.del id) p s M (λG' hG=>.ms _ _ _ _ p hG k hz' ad cp hA hoff hl hsp) (λJ=>.inr ⟨k,?_,?_,?_,?_⟩);exact(b.real ho u k).1;rintro ⟨i,oi,q,fa,gb,kc,yF⟩;have hne:i≠id:=λe=>by subst e;rw[bg.rK,cr rfl]at fa;cases fa
   exact hne (b.sep i id oi _ q p (s _ _ fa) ho gb u kc k yF);rcases cU p.block w.heap.size with h4|h4
   let ⟨id0,o0,p0,g1,_⟩:=ht.bb.live id _ p ho u k h4;cases g1;exact h4;let ⟨_,_,cells,hb',hps,hcs,hcap,hrow⟩:=b.real ho u k;refine⟨cells,hb',hps,hcs,by omega,λi a7=>?_⟩;have hi0:i<aa es0:=by omega
   let ⟨k1,k2⟩:=K N B J b i a7 hi0;let ⟨m1,m2⟩:=hrow i hi0;exact⟨by omega,λj hj hj'=>k2 j hj (by omega) _ (m2 j (by omega) hj')⟩
 rcases hex with rfl|rfl
 exact⟨b3.defers,y,hy,main⟩;exact⟨b3.defers,y,hy,main⟩
def Ho(T:bY)(fn:Func)(elem:TypeId)(z:Nat)(e:qQ)(s:bl)(_:Nat):nf:=match e with
 | .oA _=>.stuck
 |_=>match pc T fn s with
  |some (.b4 (.slice W 0 0))=>.ret (.rs []) []
  |some (.c8 id a j)=>match s.st.bF id with
   |some (.fN b z2 c)=>match aw a z&&aw z2 z&&aw b elem&&aw j c with
    |true=>.ret (.ey j) [j]
    |false=>.stuck
   |_=>.stuck
  |some (.ms id a 0 n)=>match s.st.bF id with
   |some (.row b z2 es)=>match aw a z&&aw z2 z&&aw b elem&&aw n (aa es)&&yX es with
    |true=>.ret (.rs (Ax es)) []
    |false=>.stuck
   |_=>.stuck
  |_=>.stuck
def TO(T:bY)(fn:Func)(elem:TypeId)(z:Nat):xq:=λb e s bb=>match b with
 |none=>match ow W s bb with
  |true=>Ho T fn elem z e s bb
  |false=>.stuck
 |some M=>match e with
  | .oA _=>.stuck
  |_=>match ow (Z M) s bb,fn.results.toList with
   |true,[.tmp t]=>match s.get t with
    | .c8 a c j=>match aw a M.a&&aw c M.z&&aw j M.j&&aw M.e elem&&aw M.z z with
     |true=>.ret (.ey M.j) []
     |false=>.stuck
    |_=>.stuck
   |_,_=>.stuck
def aG1(h:yX es=Y):∀i (a7:i<aa es) j (hj:j<es[i].length),(es[i][j]).qA=Y:=by
 induction es with
 |nil=>intro i a7;simp at a7
 |cons r es b=>
  simp only[yX,ab]at h;intro i a7 j hj;cases i;have hl:∀(r:eX),q2 r=Y->∀j (hj:j<aa r),(r[j]).qA=Y:=λr=>by
   induction r with
   |nil=>intro _ j hj;simp at hj
   |cons c cs a =>intro h j hj;simp only[q2,ab]at h;cases j;exact h.1;rename_i j;exact a h.2 j (by simpa using hj)
  exact hl r h.1 j (by simpa using hj);rename_i i;exact b h.2 i (by simpa using a7) j (by simpa using hj)
def ar8{T:bY}{Φ:lv}{fn:Func}{S:bl}{A:Nat->eX->Prop}{e:qQ}{r:bX}(f:Fit θ)(h:mV T Φ (·=r) (Ho T fn elem z e S bb) θ A) :
  (e.qP=.normal\/e.qP=.ret)/\∃es v,r=.rs es/\pc T fn (S.sub θ)=Z v/\QT (S.sub θ) v elem z es:=by
 have hex:(e=.nr\/e=.ret):=by
  cases e with
  |oA j=>exact h.elim
  |nr=>exact .inl rfl
  |ret=>exact .inr rfl
 refine⟨by rcases hex with rfl|rfl<;>simp[qQ.qP],?_⟩;have h':mV T Φ (·=r) (match pc T fn S with
  |some (.b4 (.slice W 0 0))=>.ret (.rs []) []
  |some (.c8 id g j)=>match S.st.bF id with
   |some (.fN k z2 t)=>match aw g z&&aw z2 z&&aw k elem&&aw j t with
    |true=>.ret (.ey j) [j]
    |false=>.stuck
   |_=>.stuck
  |some (.ms id g 0 n)=>match S.st.bF id with
   |some (.row k z2 es)=>match aw g z&&aw z2 z&&aw k elem&&aw n (aa es)&&yX es with
    |true=>.ret (.rs (Ax es)) []
    |false=>.stuck
   |_=>.stuck
  |_=>.stuck) θ A:=by rcases hex with rfl|rfl<;>exact h
 split at h';rename_i hv;let ⟨_,c⟩:=h';refine⟨[],_,?_,Db hv,.inl ⟨by simp,rfl⟩⟩;rw[<-c];simp;rename_i id g j hv;split at h';rename_i k z2 t ho;split at h';rename_i hc;simp only[ab]at hc;let ⟨⟨⟨c1,c2⟩,l⟩,m⟩:=hc;rw[ae c1]at hv;rw[ae c2,ae l,<-ae m]at ho;let ⟨d,c⟩:=h';let ⟨es,hj⟩:=d j (by simp);rw[vl,hj]at c;refine⟨es,_,c.symm,Db hv,.inr ⟨id,es,by simp only[bX.sub,hj,rowsOf],?_,rfl,λG w pl a i a7 p=>⟨rfl,λq h1 h2 u hu=>?_⟩⟩⟩;rw[bl.ua,bg.x3,ho];simp only[ai,c7.sub,hj,rowsOf];have hp:(bX.rs es).kl=Y:=by have:=(f j).kl;rw[hj]at this;exact this
 exact rr (λb o s=>tc (a.ML _) s) hu (rY hp i a7 q h1);exact h'.elim;exact h'.elim;rename_i id g n hv;split at h';rename_i k z2 es ho;split at h';rename_i hc;simp only[ab]at hc;let ⟨⟨⟨⟨c1,c2⟩,l⟩,m⟩,x⟩:=hc;rw[ae c1,ae m]at hv;rw[ae c2,ae l]at ho;let ⟨_,c⟩:=h';have B:(bX.rs (Ax es)).sub θ=.rs (es.map (cD (λv=>(bX.rJ v).sub θ))):=by simp only[bX.sub,vQ,O',de];congr 1;simp
 rw[B]at c;refine⟨_,_,c.symm,Db hv,.inr ⟨id,es.map (cD (bX.sub θ)),by simp,?_,by simp,λG w pl a i a7 p=>⟨by simp,λq h1 h2 u hu=>?_⟩⟩⟩;rw[bl.ua,bg.x3,ho];simp only[ai,c7.sub];simp only[cK]at hu⊢;refine BN _ u (rr (λb o s=>tc (a.ML _) s) hu (BB f _ (aG1 x i (by simpa using a7) q (by simpa using h1))));exact h'.elim;exact h'.elim;exact h'.elim
section
variable {P:Program} {T:bY} (cb:rk P T) {Φ:lv} (hΦ:Ak P Φ) {F:FuncId->dv Func} (dC:∀f fn,F f=Z fn->P.funcs[f]?=Z fn) (hm:P.follows .mixedOrders=Y)
def KZ(T:bY)(fn:Func):dv (TypeId×Nat):=match fn.resultTypes.toList with
 | [t]=>match T t with
  |some { j4:=.slice elem,.. }=>match T elem with
   |some a=>Z (elem,a.size)
   |none=>W
  |_=>W
 |_=>W
include cb in
theorem ao4 {fn:Func}   (a:KZ T fn=Z (elem,z))     (g:P.funcs[f]?=Z fn) (b:(fn.name== "runtime.NumGoroutine")=U) (k:fn.body=Z c) (l:aa args<=fn.ntmps)
  (hp:args.all bX.kl=Y) (h:j5 P 0 c (λe s'=>(e=.normal\/e=.ret)/\∃v,pc T fn s'=Z v/\QT s' v elem z es) (bl.enter fn.ntmps args bg.none)):uu P f args (.rs es):=by
 unfold KZ at a;split at a;rename_i t d;split at a;rename_i i nq z2 z3 z4 m;split at a;rename_i n j;simp only[ah,iq]at a;obtain⟨rfl,rfl⟩:=a;exact uu.DS cb g b k l hp d m rfl j h;cases a;cases a;cases a
def JE(T:bY)(Φ:lv)(F:FuncId->dv Func)(H:cu (Nat×Hint))(m:Nat)(f:FuncId)(a:eX)(bb:Nat):nf :=
 match F f with
 |some fn=>match fn.body,KZ T fn with
  |some c,Z (elem,z)=>match !(fn.name== "runtime.NumGoroutine")&&dI (aa a) fn.ntmps&&q2 a with
   |true=>exec T Φ F (Cs H) m 0 c (bl.enter fn.ntmps a bg.none) bb (Ho T fn elem z)
   |false=>.stuck
  |_,_=>.stuck
 |none=>.stuck
include cb hΦ dC hm in
theorem bP4
   (b:Fit θ)  (h:mV T Φ (·=.rs es) (JE T Φ F H m f a bb) θ (λ_ _=>False)):uu P f (a.map (bX.sub θ)) (.rs es):=by
 unfold JE at h;split at h;rename_i fn g;split at h;rename_i c elem z j d;split at h;rename_i hc;simp only[ab,dt]at hc;have i:=JR cb hΦ dC hm (H:=Cs H) m 0 c _ bb _ θ _ b h;rw[FP]at i;refine ao4 cb d (dC f fn g) hc.1.1 j (by simpa using a_ hc.1.2) (by rw[<-uv,<-pT];exact vH b a hc.2) (j5.mono i ?_);rintro e s' ⟨q,k,r,l,s,rfl,_,f1,_,_,rfl,hl⟩;let ⟨h1,n,v,h2,o,p⟩:=ar8 f1 hl;cases h2;exact⟨h1,v,o,p⟩;exact h.elim;exact h.elim;exact h.elim
def Jn(T:bY)(Φ:lv)(F:FuncId->dv Func)(H:cu (Nat×Hint))(acts:cu (Nat×tT))(m:Nat)(f:FuncId)(a:eX)(bb:Nat):nf :=
 match F f with
 |some fn=>match fn.body,KZ T fn with
  |some c,Z (elem,z)=>match !(fn.name== "runtime.NumGoroutine")&&dI (aa a) fn.ntmps&&q2 a with
   |true=>uJ T Φ F (Cs H) (H_ acts) m W c (B8 fn.ntmps a) bb (TO T fn elem z)
   |false=>.stuck
  |_,_=>.stuck
 |none=>.stuck
include cb hΦ dC hm in
theorem bI0{b:eX}
   (q:Fit θ)  (h:mV T Φ (·=.rs es) (Jn T Φ F H acts m f b bb) θ (λ_ _=>False)):uu P f (b.map (bX.sub θ)) (.rs es):=by
 unfold Jn at h;split at h;rename_i fn C;split at h;rename_i c elem z hb r;split at h;rename_i hc;simp only[ab,dt]at hc;refine ao4 cb r (dC f fn C) hc.1.1 hb (by simpa using a_ hc.1.2) (by rw[<-uv,<-pT];exact vH q b hc.2) ?_;refine j5.raise (k:=tY) (by simp[bl.enter,bg.none]) ?_;have R:=O8 cb hΦ dC hm (Q:=λc=>c=.rs es) (H:=Cs H) (acts:=H_ acts) m W c (B8 fn.ntmps b) bb (TO T fn elem z) θ _ q trivial h;have qJ:(B8 fn.ntmps b).full W θ={ bl.enter fn.ntmps (b.map (bX.sub θ)) bg.none with st:={ (bl.enter fn.ntmps (b.map (bX.sub θ)) bg.none).st with next:=tY } }:=by have D:(bl.enter fn.ntmps b bg.none).sub θ=bl.enter fn.ntmps (b.map (bX.sub θ)) bg.none:=FP ..;show({ (bl.enter fn.ntmps b bg.none).sub θ with st:={ ((bl.enter fn.ntmps b bg.none).sub θ).st with next:=tY } }:bl)=_;rw[D]
 rw[qJ]at R;refine j5.mono R ?_;rintro e s' ⟨B,g,l,n,A1,E,rfl,_,f1,_,_,rfl,I,hl⟩;cases E with
 |none =>have p:mV T Φ (·=.rs es) (match ow W l n with|true=>Ho T fn elem z B l n|false=>.stuck) g A1:=hl;split at p;let ⟨h1,es1,v,h2,h3,h4⟩:=ar8 f1 p;cases h2;exact⟨h1,v,h3,h4⟩;exact p.elim
 |some M=>
  let ⟨rows,hj,J⟩:=I;have hex:B=.nr\/B=.ret:=by
   cases B with
   |oA j=>exact hl.elim
   |nr=>exact .inl rfl
   |ret=>exact .inr rfl
  have d:mV T Φ (·=.rs es) (match ow (Z M) l n,fn.results.toList with
   |true,[.tmp t]=>match l.get t with
    | .c8 a z' j=>match aw a M.a&&aw z' M.z&&aw j M.j&&aw M.e elem&&aw M.z z with
     |true=>.ret (.ey M.j) []
     |false=>.stuck
    |_=>.stuck
   |_,_=>.stuck) g A1:=by rcases hex with rfl|rfl<;>exact hl
  refine⟨by rcases hex with rfl|rfl<;>simp[qQ.qP],?_⟩;split at d;rename_i t hB K;split at d;rename_i a z' j k5;split at d;rename_i s;simp only[ab]at s;let ⟨⟨⟨⟨c1,c2⟩,c3⟩,c4⟩,c5⟩:=s;have D:=ae c1;have e2:=ae c2;have e3:=ae c3;have e4:=ae c4;have e5:=ae c5;subst D;subst e2;subst e3;subst e4;subst e5;let ⟨_,hq⟩:=d;rw[vl,hj]at hq;have N:rows=es:=by injection hq
  subst N;have hg:(l.full (Z M) g).get t=.ms M.a M.z 0 (aa rows):=by have:(l.full (Z M) g).get t=(l.sub g).get t:=rfl;rw[this,bl.tB,k5,rA,hj];rfl
  let ⟨hlt,u⟩:=aA5 hB hj;refine⟨.ms M.a M.z 0 (aa rows),by simp only[pc,K,uI,y3,hg],.inr ⟨M.a,_,rfl,u,by rw[zw],λG w pl x i a7 O=>?_⟩⟩;exact am3 (S:=l) hj J pl (x.ML _) (λi o a7 h=>by rw[bg.rK,cc (by omega)];exact h) a7 O;exact d.elim;exact d.elim;exact d.elim
 exact h.elim;exact h.elim;exact h.elim
end
theorem Rb{T:bY}{Φ:lv}{i:cu c9}(d:∀t∈i,t.Ok Φ){tree:nf}
  (c:∀θ,Fit θ->∀es,mV T Φ (·=.rs es) tree θ (λ_ _=>False)->uu P f (a.map (bX.sub θ)) (.rs es))
     {g:mW.T->dv (dn.hF l).T} (m:uW T i S mW (.hF l) a tree=g) {x:mW.T} {v:(dn.hF l).T} (h:g x=Z v):uu P f (a6 mW x) (enc (.hF l) v):=by
 subst m;unfold uW at h;cases hp:su a mW []with
 |none=>simp only[hp]at h;cases h
 |some q=>
  let ⟨Γ,p⟩:=q;simp only[hp]at h;let ⟨vs,n,w,o⟩:=yy _ _ _ _ hp x ();have hl:=B3 d _ Γ [] (p x ()) () (λ_ _=>False) (λl s g hf=>by simp[y']at hf) h;have r:pF Γ (p x ())=vs++[]:=n;have j:ni (re Γ (p x ())) a=a6 mW x:=by
   have z:=o []
   grind[re,nB]
  rw[DC]at j;have b:∀u∈pF Γ (p x ()),nN u:=λu hu=>by grind
  rw[<-j];have e:=hl (by rw[nB]);have k:=e (λu hu=>b u (by simpa using hu));rw[vS,nB]at k;exact c _ (by have:=Fit.env (l:=(pF Γ (p x ())).reverse) (λu hu=>b u (by simpa using hu));rw[vS,nB]at this;exact this) _ k
theorem UU{T:bY}(cb:rk P T){F:FuncId->dv Func}(dC:∀f fn,F f=Z fn->P.funcs[f]?=Z fn)(hm:P.follows .mixedOrders=Y)(hs:x' ts=Y)(b:∀t∈d,t.Ok (rC P ts)){fn:mW.T->dv (dn.hF l).T}(e:c9.mk (uj+f) mW (.hF l) fn∈ts)
       (g:uW T d S mW (.hF l) a (JE T (rC P ts) F H m f a bb)=fn):(c9.mk (uj+f) mW (.hF l) fn).Ok (rC P ts) :=
 tK hs e λx r i=>Good.row (Rb b (λθ c r h=>bP4 cb (FV P ts) dC hm c h) g i)
theorem aW0{T:bY}(cb:rk P T){F:FuncId->dv Func}(dC:∀f fn,F f=Z fn->P.funcs[f]?=Z fn)(hm:P.follows .mixedOrders=Y)(hs:x' ts=Y)(b:∀t∈d,t.Ok (rC P ts)){fn:mW.T->dv (dn.hF l).T}(e:c9.mk (uj+f) mW (.hF l) fn∈ts)
        (g:uW T d S mW (.hF l) a (Jn T (rC P ts) F H acts m f a bb)=fn):(c9.mk (uj+f) mW (.hF l) fn).Ok (rC P ts) :=
 tK hs e λx r i=>Good.row (Rb b (λθ c r h=>bI0 cb (FV P ts) dC hm c h) g i)
end Go.Ab
namespace Go.Ab
noncomputable section
open Go Go.Sort Go.Proofs Go.Shelf
variable {α:Type}{cmp:α->α->dv Int}{xs:cu α}
abbrev fk:dn:=.int .i64
def Ea:ByteArray:=bU #[0,1,2,2,3,3,3,3,4,4,4,4,4,4,4,4,5,5,5,5,5,5,5,5,5,5,5,5,5,5,5,5,6,6,6,6,6,6,6,6,6,6,6,6,6,6,6,6,6,6,6,6,6,6,6,6,6,6,6,6,6,6,6,6,7,7,7,7,7,7,7,7,7,7,7,7,7,7,7,7,7,7,7,7,7,7,7,7,7,7,7,7,7,7,7,7,7,7,7,7,7,7,7,7,7,7,7,7,7,7,7,7,7,7,7,7,7,7,7,7,7,7,7,7,7,7,7,7,8,8,8,8,8,8,8,8,8,8,8,8,8,8,8,8,8,8,8,8,8,8,8,8,8,8,8,8,8,8,8,8,8,8,8,8,8,8,8,8,8,8,8,8,8,8,8,8,8,8,8,8,8,8,8,8,8,8,8,8,8,8,8,8,8,8,8,8,8,8,8,8,8,8,8,8,8,8,8,8,8,8,8,8,8,8,8,8,8,8,8,8,8,8,8,8,8,8,8,8,8,8,8,8,8,8,8,8,8,8,8,8,8,8,8,8,8,8,8,8,8,8,8,8,8,8,8,8]
def zJ:b9->dv bs:=λx =>cond (0<=x.1&&0<=x.2.1&&(x.2.2=0||x.2.2=1)) (Z ((x.1+x.2.1+x.2.2)%18446744073709551616,(x.1+x.2.1+x.2.2) / 18446744073709551616)) W
def xp:eD->dv eD:=λx=>j6 8 [] x
def vo:eY->dv eY:=λx=>j6 16 [] x
def EH:gp->dv gp:=λx=>j6 24 [] x
def AJ:eY×Int->dv eY:=λx=>cond (x.2=2&&aa x.1<4611686018427387904) (Z x.1.reverse) W
def AU(a:Int):eD->eD
 | []=>[a]
 |b::l=>cond (a<=b) (a::b::l) <|b::AU a l
def GL:eD->eD
 | []=>[]
 |a::l=>AU a (GL l)
theorem Of(a:Int):∀l,(AU a l).Perm (a::l)
 | []=>.refl _
 |b::l=>by
  unfold AU;cases No (a<=b)with
  |true=>exact .refl _
  |false=>exact((Of a l).cons b).trans (.swap a b l)
theorem WB(a:Int):∀l:eD,l.Pairwise (·<=·)->(AU a l).Pairwise (·<=·)
 | [],_=>by simp[AU]
 |b::l,h=>by
  unfold AU;cases hc:No (a<=b)with
  |true =>rw[kA]at hc;exact .cons (λx c=>by rcases aG.1 c with rfl|c;exact hc;exact Int.le_trans hc (jo h c)) h
  |false=>
   rw[sG]at hc;refine .cons (λx c=>?_) (WB a l h.of_cons);rcases aG.1 ((Of a l).mem_iff.1 c)with rfl|c
   omega;exact jo h c
theorem aB3(l:eD):GL l=l.mergeSort λa b=>No (a<=b):=by
 have hp:(GL l).Perm l:=by
  induction l with
  |nil=>exact .refl _
  |cons a l d=>exact(Of a _).trans (d.cons a)
 have hs:(GL l).Pairwise (·<=·):=by
  clear hp
  induction l with
  |nil=>exact .nil
  |cons a l d=>exact WB a _ d
 refine List.Perm.eq_of_pairwise (le:=(·<=·)) (λa b _ _ h1 h2=>Int.le_antisymm h1 h2) hs ?_ (hp.trans (List.mergeSort_perm _ _).symm);exact(List.pairwise_mergeSort (le:=λa b:Int=>No (a<=b)) (λa b c h1 h2=>by simp at *;omega) (λa b=>by simp;omega) l).imp λh=>by simpa using h
def C5:eD×Int->dv eD:=λx=>cond (x.2=1&&aa x.1<4611686018427387904) (Z (GL x.1)) W
def nV{α:Type}(r:α)(es:cu α)(i:Nat):α:=(es[i]?).getD r
def oy{α:Type}(cf:α->α->Int):cu α->cu α
 | []=>[]
 |r::l=>((pdq (ltOf (λi j=>cf (nV r (r::l) i) (nV r (r::l) j))) (bA (aa (r::l))) 0 (aa (r::l)) (eK (aa (r::l))) Y Y).toList).map (nV r (r::l))
def Ordered{α:Type}(cf:α->α->Int):cu α->Prop
 | []=>True
 |r::l=>SWO (ltOf (λi j=>cf (nV r (r::l) i) (nV r (r::l) j)))
theorem B'{r:α}{l:cu α}(i:Nat):nV r (r::l) i∈r::l:=by
 unfold nV;cases h:(r::l)[i]? with
 |none=>simp
 |some x=>exact aH h
def A6{α:Type}(cf:α->α->Int)(xs:cu α):Bool :=xs.all λx=>!decide (cf x x<0)&&xs.all λy=>xs.all λz=>(!(No (cf x y<0)&&No (cf y z<0))||No (cf x z<0))&&(!(!decide (cf x y<0)&&!decide (cf y z<0))||!decide (cf x z<0))
theorem ay4{cf:α->α->Int}:∀ {xs:cu α},A6 cf xs=Y↔Ordered cf xs
 | []=>by simp[A6,Ordered]
 |r::l=>by
  have d:∀x∈r::l,∃i,nV r (r::l) i=x:=λx e=>by obtain⟨i,a7,rfl⟩:=bk e;exact⟨i,by rw[nV,af a7];rfl⟩
  constructor;intro h;simp only[A6,aj,ab]at h;refine⟨λi=>?_,λi j k a b=>?_,λi j k a b=>?_⟩;have:=(h _ (B' i)).1;simpa[ltOf]using this;have:=((h _ (B' i)).2 _ (B' j) _ (B' k)).1;simp only[ltOf]at a b⊢;rw[a,b]at this;simpa using this;have:=((h _ (B' i)).2 _ (B' j) _ (B' k)).2;simp only[ltOf]at a b⊢;rw[a,b]at this;simpa using this;intro h;simp only[A6,aj,ab];intro x e;obtain⟨i,rfl⟩:=d x e;let ⟨s1,s2,g⟩:=h;refine⟨by have:=s1 i;simpa[ltOf]using this,λy m z hz=>?_⟩;obtain⟨j,rfl⟩:=d y m;obtain⟨k,rfl⟩:=d z hz;have h2:=s2 i j k;have f:=g i j k;simp only[ltOf]at h2 f;generalize No (cf (nV r (r::l) i) (nV r (r::l) j)<0)=a at *;generalize No (cf (nV r (r::l) j) (nV r (r::l) k)<0)=b at *;generalize No (cf (nV r (r::l) i) (nV r (r::l) k)<0)=c at *;revert h2 f;cases a<;>cases b<;>cases c<;>simp
def rE{α:Type}(cmp:α->α->dv Int)(xs:cu α):dv (cu α) :=cond ((xs.all λx=>xs.all λy=>(cmp x y).isSome)&&(A6 (λx y=>(cmp x y).getD 0) xs&&aa xs<4611686018427387904)) (Z (oy (λx y=>(cmp x y).getD 0) xs)) W
theorem bW0{r:cu α}(h:rE cmp xs=Z r):((∀x∈xs,∀y∈xs,(cmp x y).isSome=Y)/\Ordered (λx y=>(cmp x y).getD 0) xs/\aa xs<4611686018427387904)/\r=oy (λx y=>(cmp x y).getD 0) xs:=by
 unfold rE at h;cases hc:(xs.all λx=>xs.all λy=>(cmp x y).isSome)&&(A6 (λx y=>(cmp x y).getD 0) xs&&No (aa xs<4611686018427387904))with
 |false=>rw[hc]at h;cases h
 |true =>rw[hc]at h;simp only[ab,aj,kA,ay4]at hc;cases h;exact⟨hc,rfl⟩
theorem aN0(h1:∀x∈xs,∀y∈xs,(cmp x y).isSome=Y)(h2:Ordered (λx y=>(cmp x y).getD 0) xs)(a:aa xs<4611686018427387904):rE cmp xs=Z (oy (λx y=>(cmp x y).getD 0) xs):=by
 unfold rE;have hc:((xs.all λx=>xs.all λy=>(cmp x y).isSome)&&(A6 (λx y=>(cmp x y).getD 0) xs&&No (aa xs<4611686018427387904)))=Y:=by simp only[ab,aj,kA,ay4];exact⟨h1,h2,a⟩
 rw[hc];rfl
def strings_Contains:ByteArray×ByteArray->dv Bool:=λx=>cond (x.1.size<4294967281) (Z (Lib.contains x.1.data.toList x.2.data.toList)) W
def Vz:dv (Int×Int×Int×Int×Int×Int×Int×Int×Int×Int×Int×Int×Int×Int×Int×Int×Int×Int×Int×Int×Int×Int×Int×Int×Int×Int×Int×Int×Int×Int×Int×Int×Int×Int×Int×Int×b9):=Z (32,32,0,39,41,0,45,46,0,48,57,0,65,90,1,97,122,1,192,214,1,216,246,1,248,591,1,880,1023,2,1024,1279,3,1488,1514,4,19968,40959,5)
open Go
variable [Fuel]
def Il:yb->dv (eD×eD):=λx=>rounds (λg a=>cond (a.2<(aa x.1:Int)) (a8 (nth x.1 a.2) λf=>a8 (j6 8 a.1 [f.1]) λb=>g (b,ek (a.2+1))) (rounds (λh c=>cond (c.2<(aa x.2.1:Int)) (a8 (nth x.2.1 c.2) λd=>a8 (j6 8 c.1 [d.1]) λe=>h (e,ek (c.2+1))) (Z (a.1,c.1))) ([],0))) ([],0)
def C9:eD->dv Bool:=λx=>rounds (λd a=>cond (a<(aa x:Int)) (a8 (nth x (ek (a-1))) λb=>a8 (nth x a) λc=>cond (c<=b) (Z U) (d (ek (a+1)))) (Z Y)) 1
def Ii:Int->dv Bool:=λx=>cond (x<1) (Z Y) (Z (No (1073741824<x)))
def G9:eD×(Unit)->dv Bool:=λx=>rounds (λd a=>cond (a<(aa x.1:Int)) (a8 (nth x.1 a) λb=>a8 (Ii b) λc=>cond c (Z (No (0<=a))) (d (ek (a+1)))) (Z U)) 0
def C7:eD->dv Bool:=λx=>a8 (G9 (x,())) λa=>Z (!a)
def C8:bs->dv Bool:=λx=>cond (x.1<(-1048576)) (Z Y) (cond (1048576<x.1) (Z Y) (cond (x.2<(-1048576)) (Z Y) (Z (No (1048576<x.2)))))
def G5:eY×(Unit)->dv Bool:=λx=>rounds (λd a=>cond (a<(aa x.1:Int)) (a8 (nth x.1 a) λb=>a8 (C8 b) λc=>cond c (Z (No (0<=a))) (d (ek (a+1)))) (Z U)) 0
def IM:yb->dv Bool:=λx=>rounds (λg d=>cond (d<(aa x.1:Int)) (a8 (nth x.1 d) λe=>a8 (C8 e.2) λa=>cond a (Z U) (g (ek (d+1)))) (rounds (λh f=>cond (f<(aa x.2.1:Int)) (a8 (nth x.2.1 f) λb=>a8 (G5 (b.2.2.2.1,())) λc=>cond c (Z U) (h (ek (f+1)))) (Z Y)) 0)) 0
def E0:eD×Int->dv Int:=λx=>rounds (λc a=>cond (a<(aa x.1:Int)) (a8 (nth x.1 a) λb=>cond (x.2=b) (Z a) (c (ek (a+1)))) (Z (-1))) 0
def wo:eD×Int->dv Bool:=λx=>a8 (E0 x) λa=>Z (No (0<=a))
def Is:yb×eD->dv Int:=λx=>rounds (λn k=>cond (k<(aa x.1.1:Int)) (a8 (nth x.1.1 k) λf=>a8 (tx x.1.1 W (Z k)) λd=>rounds (λc b=>cond (b<(aa d:Int)) (a8 (nth d b) λa=>cond (f.2.1=a.2.1&&f.2.2=a.2.2) (Z 8) (c (ek (b+1)))) (n (ek (k+1)))) 0) (rounds (λo l=>cond (l<(aa x.1.2.1:Int)) (a8 (nth x.1.2.1 l) λe=>a8 (wo (x.2,e.2.1)) λg=>cond (!g) (Z 7) (a8 (wo (x.2,e.2.2.1)) λh=>cond (!h) (Z 7) (o (ek (l+1))))) (rounds (λc b=>cond (b<(aa x.1.2.1:Int)) (a8 (nth x.1.2.1 b) λa=>let m:=(cond (!decide (a.2.2.2.2.2=0)) (a8 (wo (x.1.2.2,a.2.2.2.2.2)) λi=>cond (!i) (Z 12) (c (ek (b+1)))) (c (ek (b+1)))); bif !decide (a.2.2.2.2.1=0)then a8 (wo (x.1.2.2,a.2.2.2.2.1)) λj=>cond (!j) (Z 12) (m)else(m)) (Z 0)) 0)) 0)) 0
def BP:yb×Int->dv (ct×Bool):=λx=>rounds (λd c=>cond (c<(aa x.1.2.1:Int)) (a8 (nth x.1.2.1 c) λa=>cond (a.1=x.2) (a8 (vo a.2.2.2.1) λb=>Z ((a.1,a.2.1,a.2.2.1,b,a.2.2.2.2.1,a.2.2.2.2.2),Y)) (d (ek (c+1)))) (Z ((0,0,0,[],0,0),U))) 0
def xt:yb×Int->dv (b9×Bool):=λx=>rounds (λc b=>cond (b<(aa x.1.1:Int)) (a8 (nth x.1.1 b) λa=>cond (a.1=x.2) (Z (a,Y)) (c (ek (b+1)))) (Z ((0,0,0),U))) 0
def wE:yb×Int->dv (eY×Int):=λx=>a8 (BP x) λa=>a8 (xt (x.1,a.1.2.1)) λb=>a8 (xt (x.1,a.1.2.2.1)) λc=>cond (!(a.2)) (Z ([],7)) (cond (!(b.2)) (Z ([],7)) (cond (!(c.2)) (Z ([],7)) (a8 (Z (ek (1+(aa a.1.2.2.2.1:Int)))) λf=>cond (f<0) (W) (a8 (Z (ek (f+1))) λd=>cond (d<0) (W) (cond (d<0) (W) (a8 (Z (ek (d-0))) λg=>cond (0<g) (a8 (GZ 16 ((0,0):Int×Int) g) λh=>a8 (j6 16 [] [b.1.2]) λe=>a8 (j6 16 e a.1.2.2.2.1) λi=>a8 (j6 16 i [c.1.2]) λj=>Z (j,0)) (a8 (j6 16 [b.1.2] a.1.2.2.2.1) λh=>a8 (j6 16 h [c.1.2]) λe=>Z (e,0))))))))
def uh:((Int×Int×Int×eY×Int×Int×eY)×Int)->dv (bs×bs):=λx=>a8 (Z x.1) λc=>a8 (nth c.2.2.2.2.2.2 x.2) λd=>a8 (Z x.1) λa=>a8 (nth a.2.2.2.2.2.2 (ek (x.2+1))) λb=>Z (d,b)
def yj:((Int×Int×Int×eY×Int×Int×eY)×Int)->dv Int:=λx=>a8 (uh x) λa=>Z (bf w6 a.1.1 [a.2.1])
def Ey:Int->dv Bool:=λx =>Z (!decide (x=x))
def CG:Int×Int->dv Int:=λx=>a8 (Ey x.1) λb=>a8 (Ey x.2) λa=>cond b (cond a (Z 0) (Z (-1))) (cond a (Z 1) (cond (x.1<x.2) (Z (-1)) (cond (x.2<x.1) (Z 1) (Z 0))))
def Iw:((Int×Int×Int×eY×Int×Int×eY)×Int)×((Int×Int×Int×eY×Int×Int×eY)×Int)->dv Int:=λx=>a8 (yj x.1) λa=>a8 (yj x.2) λb=>a8 (CG (a,b)) λc=>Z c
def G8:cu ((Int×Int×Int×eY×Int×Int×eY)×Int)×Int×(Unit)->dv (cu ((Int×Int×Int×eY×Int×Int×eY)×Int)):=λx=>cond (x.2.1=2) (rE (λa b=>Iw (a,b)) x.1) W
def EY:((Int×Int×Int×eY×Int×Int×eY)×Int)->dv Int:=λx=>a8 (uh x) λa=>Z (bf qG a.1.1 [a.2.1])
def vJ:eY->dv Bool:=λx=>rounds (λc b=>cond (b<(aa x:Int)) (a8 (nth x b) λa=>cond (a.1<(-2097152)) (Z U) (cond (2097152<a.1) (Z U) (cond (a.2<(-2097152)) (Z U) (cond (2097152<a.2) (Z U) (c (ek (b+1))))))) (Z Y)) 0
def xy:bs×bs×bs->dv Int:=λx =>Z (ek ((ek ((ek (x.2.1.1-x.1.1))*(ek (x.2.2.2-x.1.2))))-(ek ((ek (x.2.1.2-x.1.2))*(ek (x.2.2.1-x.1.1))))))
def qV:bs×bs×bs->dv Bool:=λx=>a8 (vJ [x.1,x.2.1,x.2.2]) λa=>cond (!a) (Z U) (a8 (xy x) λb=>cond (!decide (b=0)) (Z U) (cond ((bf w6 x.1.1 [x.2.1.1])<=x.2.2.1) (cond (x.2.2.1<=(bf qG x.1.1 [x.2.1.1])) (cond ((bf w6 x.1.2 [x.2.1.2])<=x.2.2.2) (Z (No (x.2.2.2<=(bf qG x.1.2 [x.2.1.2])))) (Z U)) (Z U)) (Z U)))
def yd:((Int×Int×Int×eY×Int×Int×eY)×Int)->dv Bool:=λx =>Z (No (x.2=0))
def wq:((Int×Int×Int×eY×Int×Int×eY)×Int)->dv Bool:=λx=>a8 (Z x.1) λa=>Z (No (x.2=(ek ((aa a.2.2.2.2.2.2:Int)-2))))
def IZ:bs×bs×bs->dv Int:=λx=>a8 (vJ [x.1,x.2.1,x.2.2]) λa=>cond (!a) (Z 0) (a8 (xy x) λb=>Z b)
def qR:bs×bs×bs->dv Int:=λx=>a8 (IZ x) λa=>cond (0<a) (Z 1) (cond (a<0) (Z (-1)) (Z 0))
def pb:bs×bs->dv Bool:=λx=>cond (x.1.1<x.2.1) (Z Y) (cond (x.1.1=x.2.1) (Z (No (x.1.2<x.2.2))) (Z U))
def Fx:bs×bs×bs×bs->dv Int:=λx=>a8 (pb (x.2.1,x.1)) λe=>let f:=(cond (x.2.2.1.1=x.2.2.2.1&&x.2.2.1.2=x.2.2.2.2) (Z 1) (a8 (pb x.2.2) λa=>cond a (Z 2) (Z 0))); let g:=(cond (x.2.2.2.1=x.2.2.1.1&&x.2.2.2.2=x.2.2.1.2) (Z 1) (a8 (pb (x.2.2.2,x.2.2.1)) λa=>cond a (Z 2) (Z 0))); bif e then a8 (pb (x.2.2.2,x.2.2.1)) λd=>let h:=(cond (x.2.1.1=x.1.1&&x.2.1.2=x.1.2) (Z 1) (a8 (pb (x.2.1,x.1)) λa=>cond a (Z 2) (Z 0))); bif d then a8 (pb (x.2.1,x.2.2.2)) λc=>cond c (a8 (pb (x.2.2.1,x.1)) λb=>cond b (g) (cond (x.2.2.2.1=x.1.1&&x.2.2.2.2=x.1.2) (Z 1) (a8 (pb (x.2.2.2,x.1)) λa=>cond a (Z 2) (Z 0)))) (a8 (pb (x.2.2.1,x.1)) λb=>cond b (cond (x.2.1.1=x.2.2.1.1&&x.2.1.2=x.2.2.1.2) (Z 1) (a8 (pb (x.2.1,x.2.2.1)) λa=>cond a (Z 2) (Z 0))) (h))else a8 (pb (x.2.1,x.2.2.1)) λc=>cond c (a8 (pb (x.2.2.2,x.1)) λb=>cond b (f) (cond (x.2.2.1.1=x.1.1&&x.2.2.1.2=x.1.2) (Z 1) (a8 (pb (x.2.2.1,x.1)) λa=>cond a (Z 2) (Z 0)))) (a8 (pb (x.2.2.2,x.1)) λb=>cond b (cond (x.2.1.1=x.2.2.2.1&&x.2.1.2=x.2.2.2.2) (Z 1) (a8 (pb (x.2.1,x.2.2.2)) λa=>cond a (Z 2) (Z 0))) (h))else a8 (pb (x.2.2.2,x.2.2.1)) λd=>let i:=(cond (x.1.1=x.2.1.1&&x.1.2=x.2.1.2) (Z 1) (a8 (pb (x.1,x.2.1)) λa=>cond a (Z 2) (Z 0))); bif d then a8 (pb (x.1,x.2.2.2)) λc=>
 cond c (a8 (pb (x.2.2.1,x.2.1)) λb=>cond b (g) (cond (x.2.2.2.1=x.2.1.1&&x.2.2.2.2=x.2.1.2) (Z 1) (a8 (pb (x.2.2.2,x.2.1)) λa=>cond a (Z 2) (Z 0)))) (a8 (pb (x.2.2.1,x.2.1)) λb=>cond b (cond (x.1.1=x.2.2.1.1&&x.1.2=x.2.2.1.2) (Z 1) (a8 (pb (x.1,x.2.2.1)) λa=>cond a (Z 2) (Z 0))) (i))else a8 (pb (x.1,x.2.2.1)) λc=>cond c (a8 (pb (x.2.2.2,x.2.1)) λb=>cond b (f) (cond (x.2.2.1.1=x.2.1.1&&x.2.2.1.2=x.2.1.2) (Z 1) (a8 (pb (x.2.2.1,x.2.1)) λa=>cond a (Z 2) (Z 0)))) (a8 (pb (x.2.2.2,x.2.1)) λb=>cond b (cond (x.1.1=x.2.2.2.1&&x.1.2=x.2.2.2.2) (Z 1) (a8 (pb (x.1,x.2.2.2)) λa=>cond a (Z 2) (Z 0))) (i))
def FQ:bs×bs×bs×bs->dv Int:=λx=>a8 (vJ [x.1,x.2.1,x.2.2.1,x.2.2.2]) λh=>cond (!h) (Z 0) (cond (x.1.1=x.2.1.1&&x.1.2=x.2.1.2) (a8 (qV (x.2.2.1,x.2.2.2,x.1)) λc=>cond c (Z 1) (Z 0)) (cond (x.2.2.1.1=x.2.2.2.1&&x.2.2.1.2=x.2.2.2.2) (a8 (qV (x.1,x.2.1,x.2.2.1)) λa=>cond a (Z 1) (Z 0)) (a8 (qR (x.1,x.2.1,x.2.2.1)) λa=>let i:=(a8 (qR (x.1,x.2.1,x.2.2.1)) λb=>a8 (qR (x.1,x.2.1,x.2.2.2)) λd=>cond ((ek (b*d))<=0) (a8 (qR (x.2.2.1,x.2.2.2,x.1)) λe=>a8 (qR (x.2.2.1,x.2.2.2,x.2.1)) λf=>cond ((ek (e*f))<=0) (Z 1) (Z 0)) (Z 0)); bif No (a=0)then a8 (qR (x.1,x.2.1,x.2.2.2)) λg=>cond (g=0) (a8 (Fx x) λb=>Z b) (i)else(i))))
def E_:((Int×Int×Int×eY×Int×Int×eY)×Int)×((Int×Int×Int×eY×Int×Int×eY)×Int)×cu (Int×bs)->dv Bool:=λx=>a8 (uh x.1) λd=>a8 (uh x.2.1) λe=>a8 (FQ (d.1,d.2,e.1,e.2)) λc=>a8 (Z x.1.1) λp=>a8 (Z x.2.1.1) λq=>cond (p.1=q.1) (cond (x.2.1.2<x.1.2) (cond ((ek (x.2.1.2+1))=x.1.2) (Z (No (c=1))) (a8 (Z x.2.1.1) λf=>a8 (Z x.2.1.1) λg=>cond (f.2.1=g.2.2.1) (a8 (yd x.2.1) λh=>cond h (a8 (wq x.1) λi=>cond i (Z (No (c=1))) (Z (No (c=0)))) (Z (No (c=0)))) (Z (No (c=0))))) (cond ((ek (x.1.2+1))=x.2.1.2) (Z (No (c=1))) (a8 (Z x.1.1) λf=>a8 (Z x.1.1) λg=>cond (f.2.1=g.2.2.1) (a8 (yd x.1) λh=>cond h (a8 (wq x.2.1) λi=>cond i (Z (No (c=1))) (Z (No (c=0)))) (Z (No (c=0)))) (Z (No (c=0)))))) (cond (!decide (c=1)) (Z (No (c=0))) (a8 (Z x.1.1) λj=>a8 (Z x.1.1) λk=>a8 (oD (fh (λ(a b:Int)=>No (a=b)) j.2.1 x.2.2) (Z (0,0))) λn=>a8 (Z x.2.1.1) λr=>let v:=(a8 (oD (fh (λ(a b:Int)=>No (a=b)) k.2.2.1 x.2.2) (Z (0,0))) λo=>a8 (Z x.2.1.1) λs=>let w:=(a8 (qV (d.1,d.2,o)) λl=>cond l (a8 (qV (e.1,e.2,o)) λt=>cond t (Z Y) (Z U)) (Z U)); bif No (k.2.2.1=s.2.1)then(w)else a8 (Z x.2.1.1) λl=>
 cond (k.2.2.1=l.2.2.1) (w) (Z U)); let z:=(a8 (qV (d.1,d.2,n)) λm=>cond m (a8 (qV (e.1,e.2,n)) λu=>cond u (Z Y) (v)) (v)); bif No (j.2.1=r.2.1)then(z)else a8 (Z x.2.1.1) λm=>cond (j.2.1=m.2.2.1) (z) (v)))
def II:yb->dv Bool:=λx=>rounds (λK q=>cond (q.2<(aa x.2.1:Int)) (a8 (nth x.2.1 q.2) λf=>a8 (wE (x,f.1)) λd=>cond (!decide (d.2=0)) (Z U) (let H:=(rounds (λD h=>cond (h.2<(ek ((aa d.1:Int)-1))) (a8 (nth d.1 h.2) λg=>a8 (nth d.1 (ek (h.2+1))) λi=>cond (g.1=i.1&&g.2=i.2) (Z U) (a8 (j6 16 h.1 [((f.1,f.2.1,f.2.2.1,f.2.2.2.1,f.2.2.2.2.1,f.2.2.2.2.2,d.1),h.2)]) λr=>D (r,ek (h.2+1)))) (K (h.1,ek (q.2+1)))) (q.1,0)); bif No (f.2.1=f.2.2.1)then(cond ((aa d.1:Int)<4) (Z U) (H))else(H))) (rounds (λM s=>cond (s.1<(aa x.1:Int)) (a8 (nth x.1 s.1) λe=>M (ek (s.1+1),(wC (λ(a b:Int)=>No (a=b)) e.1 e.2 s.2))) (a8 (G8 (q.1,2,())) λe=>rounds (λE l=>cond (l<(aa e:Int)) (a8 (nth e l) λc=>a8 (tx e (Z (ek (l+1))) W) λm=>rounds (λG o=>let I:=(rounds (λp j=>cond (j<(aa x.1:Int)) (a8 (nth x.1 j) λk=>a8 (uh c) λn=>a8 (qV (n.1,n.2,k.2)) λt=>cond t (a8 (yd c) λu=>let J:=(a8 (wq c) λv=>cond v (a8 (Z c.1) λw=>cond (!(w.2.2.1=k.1)) (Z U) (p (ek (j+1)))) (Z U)); bif u then a8 (Z c.1) λz=>
 cond (!(z.2.1=k.1)) (J) (p (ek (j+1)))else(J)) (p (ek (j+1)))) (E (ek (l+1)))) 0); bif No (o<(aa m:Int))then a8 (nth m o) λg=>a8 (yj g) λB=>a8 (EY c) λi=>cond (i<B) (I) (a8 (E_ (c,g,s.2)) λC=>cond (!C) (Z U) (G (ek (o+1))))else(I)) 0) (Z Y)) 0)) (0,[]))) ([],0)
def IV:yb->dv Int:=λx=>cond ((256:Int)<x.1.length) (Z 3) (cond ((256:Int)<x.2.1.length) (Z 3) (cond ((64:Int)<x.2.2.length) (Z 3) (rounds (λl c=>cond (c<(aa x.2.1:Int)) (a8 (nth x.2.1 c) λa=>cond ((64:Int)<a.2.2.2.1.length) (Z 3) (l (ek (c+1)))) (a8 (Il x) λa=>a8 (C9 a.1) λd=>cond (!d) (Z 10) (a8 (C9 a.2) λe=>cond (!e) (Z 10) (a8 (C9 x.2.2) λf=>cond (!f) (Z 10) (a8 (C7 a.1) λg=>cond (!g) (Z 2) (a8 (C7 a.2) λh=>cond (!h) (Z 2) (a8 (C7 x.2.2) λi=>cond (!i) (Z 2) (a8 (IM x) λj=>cond (!j) (Z 2) (a8 (Is (x,a.1)) λb=>cond (!decide (b=0)) (Z b) (a8 (II x) λk=>cond (!k) (Z 11) (Z 0))))))))))) 0)))
def Bn:bs×bs->dv Bool:=λx=>cond (x.2.2<x.1.2) (Z Y) (cond (x.2.2=x.1.2) (Z (No (x.2.1<x.1.1))) (Z U))
def BC:bs×bs×bs->dv Bool:=λx=>a8 (vJ [x.1,x.2.1,x.2.2]) λd=>cond (!d) (Z U) (cond (x.2.1.1=x.1.1&&x.2.1.2=x.1.2) (Z U) (cond (x.2.2.1=x.1.1&&x.2.2.2=x.1.2) (Z U) (a8 (Bn (x.1,x.2.1)) λb=>a8 (Bn (x.1,x.2.2)) λc=>cond (!(b==c)) (a8 (Bn (x.1,x.2.2)) λa=>Z a) (a8 (xy x) λa=>Z (No (0<a))))))
def Bf:Int×Int×b9×(cu (Int×bs))->dv Int:=λx=>a8 (oD (fh (λ(a b:Int)=>No (a=b)) x.1 x.2.2.2) (Z (0,0))) λg=>a8 (oD (fh (λ(a b:Int)=>No (a=b)) x.2.1 x.2.2.2) (Z (0,0))) λh=>a8 (BC (x.2.2.1.2,g,h)) λc=>cond c (Z (-1)) (a8 (oD (fh (λ(a b:Int)=>No (a=b)) x.2.1 x.2.2.2) (Z (0,0))) λd=>a8 (oD (fh (λ(a b:Int)=>No (a=b)) x.1 x.2.2.2) (Z (0,0))) λe=>a8 (BC (x.2.2.1.2,d,e)) λf=>cond f (Z 1) (Z 0))
def L5:eD×Int×(b9×(cu (Int×bs)))->dv eD:=λx=>cond (x.2.1=1) (rE (λa b=>Bf (a,b,x.2.2.1,x.2.2.2)) x.1) W
def Fp:yb×Int->dv eD:=λx=>a8 (xt x) λi=>cond (!(i.2)) (Z []) (rounds (λf d=>cond (d.1<(aa x.1.2.1:Int)) (a8 (nth x.1.2.1 d.1) λc=>let o:=(a8 (wE (x.1,c.1)) λe=>cond (!decide (e.2=0)) (f (ek (d.1+1),d.2.1,d.2.2)) (cond (c.2.1=x.2) (a8 (nth e.1 1) λj=>a8 (j6 8 d.2.1 [c.1]) λg=>a8 (Z (wC (λ(a b:Int)=>No (a=b)) c.1 j d.2.2)) λh=>cond (c.2.2.1=x.2) (a8 (nth e.1 (ek ((aa e.1:Int)-2))) λk=>a8 (j6 8 g [ek (0-c.1)]) λl=>f (ek (d.1+1),l,(wC (λ(a b:Int)=>No (a=b)) (ek (0-c.1)) k h))) (f (ek (d.1+1),g,h))) (cond (c.2.2.1=x.2) (a8 (nth e.1 (ek ((aa e.1:Int)-2))) λm=>a8 (j6 8 d.2.1 [ek (0-c.1)]) λn=>f (ek (d.1+1),n,(wC (λ(a b:Int)=>No (a=b)) (ek (0-c.1)) m d.2.2))) (f (ek (d.1+1),d.2.1,d.2.2))))); bif !decide (c.2.1=x.2)then(cond (!decide (c.2.2.1=x.2)) (f (ek (d.1+1),d.2.1,d.2.2)) (o))else(o)) (a8 (L5 (d.2.1,1,(i.1,d.2.2))) λc=>Z c)) (0,[],[]))
def Fb:eD×Int->dv Int:=λx=>a8 (E0 x) λa=>cond (a<0) (Z 0) (a8 (cond ((aa x.1:Int)=0) W <|some ((ek ((ek (a+(aa x.1:Int)))-1)).tmod (aa x.1:Int))) λb=>a8 (nth x.1 b) λc=>Z c)
def Bm:yb->dv (cu eD×Int):=λx=>a8 (IV x) λk=>cond (!decide (k=0)) (Z ([],k)) (rounds (α:=eD×Int×eY) (λv j=>cond (j.2.1<x.1.length) (a8 (nth x.1 j.2.1) λe=>a8 (Fp (x,e.1)) λg=>rounds (α:=eD×Int×eY) (λt f=>cond (f.2.1<g.length) (a8 (nth g f.2.1) λh=>a8 (j6 8 f.1 [h]) λl=>a8 (Fb (g,h)) λm=>t (l,ek (f.2.1+1),(wC (λ(a b:Int)=>No (a=b)) (ek (0-h)) m f.2.2))) (v (f.1,ek (j.2.1+1),f.2.2))) (j.1,0,j.2.2)) (a8 (C5 (j.1,1)) λe=>rounds (α:=Int×cu eD×cu (Int×Bool)) (λn c=>cond (c.1<e.length) (a8 (cond (0<=c.1&&c.1<e.length) (Z ()) W) λi=>a8 ((e[c.1.toNat]?).map (λx=>x)) λi=>a8 (oD (fh (λ(a b:Int)=>No (a=b)) i c.2.2) (Z U)) λo=>cond (!o) (rounds (α:=Int×eD×cu (Int×Bool)) (λu d=>a8 (oD (fh (λ(a b:Int)=>No (a=b)) d.1 d.2.2) (Z U)) λp=>cond (!p) (a8 (j6 8 d.2.1 [d.1]) λq=>a8 (oD (fh (λ(a b:Int)=>No (a=b)) d.1 j.2.2) (Z 0)) λr=>u (r,q,(wC (λ(a b:Int)=>No (a=b)) d.1 Y d.2.2))) (a8 (j6 24 c.2.1 [d.2.1]) λs=>n (ek (c.1+1),s,d.2.2))) (i,[],c.2.2)) (n (ek (c.1+1),c.2.1,c.2.2))) (Z (c.2.1,0))) (0,[],[]))) ([],0,[]))
def E4:yb->dv (cu (Int×eY)):=λx=>rounds (λf d=>cond (d.1<(aa x.2.1:Int)) (a8 (nth x.2.1 d.1) λe=>a8 (wE (x,e.1)) λc=>cond (c.2=0) (f (ek (d.1+1),(wC (λ(a b:Int)=>No (a=b)) e.1 c.1 d.2))) (f (ek (d.1+1),d.2))) (Z d.2)) (0,[])
def FA:yb×Int->dv (ct×Bool):=λx=>cond (x.2=0) (Z ((0,0,0,[],0,0),U)) (cond (x.2=(-9223372036854775808)) (Z ((0,0,0,[],0,0),U)) (a8 (BP (x.1,(bf qG x.2 [ek (0-x.2)]))) λa=>Z a))
def Bs:yb×eD->dv Int:=λx=>cond ((512:Int)<x.2.length) (Z 0) (rounds (λk d=>cond (d.2<(aa x.2:Int)) (a8 (nth x.2 d.2) λc=>a8 (FA (x.1,c)) λe=>cond (!(e.2)) (Z 0) (a8 (wE (x.1,(bf qG c [ek (0-c)]))) λa=>cond (!decide (a.2=0)) (Z 0) (rounds (λj b=>cond (b.2<(ek ((aa a.1:Int)-1))) (a8 (nth a.1 b.2) λf=>a8 (nth a.1 (ek (b.2+1))) λg=>a8 (nth a.1 (ek (b.2+1))) λh=>a8 (nth a.1 b.2) λi=>j (ek (b.1+(ek ((ek (f.1*g.2))-(ek (h.1*i.2))))),ek (b.2+1))) (cond (c<0) (k (ek (d.1+(ek (0-b.1))),ek (d.2+1))) (k (ek (d.1+b.1),ek (d.2+1))))) (0,0)))) (Z d.1)) (0,0))
def AK:cu (Int×eY)×eD×bs->dv Bool:=λx=>rounds (λn i=>cond (i.1<(aa x.2.1:Int)) (a8 (nth x.2.1 i.1) λh=>a8 (oD (fh (λ(a b:Int)=>No (a=b)) (bf qG h [ek (0-h)]) x.1) W) λg=>rounds (λf c=>cond (c.1<(aa g:Int)) (a8 (nth g (ek (c.1-1))) λd=>a8 (nth g c.1) λe=>a8 (qV (d,e,x.2.2)) λj=>cond j (f (ek (c.1+1),c.2.1,Y)) (let m:=(cond (e.2<=x.2.2.2) (cond (x.2.2.2<d.2) (a8 (qR (d,e,x.2.2)) λk=>cond (k<0) (f (ek (c.1+1),(!(c.2.1)),c.2.2)) (f (ek (c.1+1),c.2.1,c.2.2))) (f (ek (c.1+1),c.2.1,c.2.2))) (f (ek (c.1+1),c.2.1,c.2.2))); bif No (d.2<=x.2.2.2)then(cond (x.2.2.2<e.2) (a8 (qR (d,e,x.2.2)) λl=>cond (0<l) (f (ek (c.1+1),(!(c.2.1)),c.2.2)) (m)) (m))else(m))) (n (ek (i.1+1),c.2.2,c.2.1))) (1,i.2.2,i.2.1)) (cond i.2.2 (Z (!(i.2.1))) (Z U))) (0,U,U)
def Df:yb×Int->dv Int:=λx=>rounds (λd a=>cond (a.1<(aa x.1.2.1:Int)) (a8 (nth x.1.2.1 a.1) λc=>cond (c.2.1=x.2) (a8 (Z (ek (a.2+1))) λb=>cond (c.2.2.1=x.2) (d (ek (a.1+1),ek (b+1))) (d (ek (a.1+1),b))) (cond (c.2.2.1=x.2) (d (ek (a.1+1),ek (a.2+1))) (d (ek (a.1+1),a.2)))) (Z a.2)) (0,0)
def Be:yb×cu eD×cu (Int×eY)->dv (cu zy):=λx=>rounds (α:=cu eD×Int×Bool×cu (Int×eD×Unit×Unit)) (λC n=>cond (n.2.1<x.2.1.length) (a8 (nth x.2.1 n.2.1) λk=>a8 (Bs (x.1,k)) λp=>cond (0<p) (a8 (j6 80 n.2.2.2 [(p,k,(),())]) λo=>C (n.1,ek (n.2.1+1),U,o)) (a8 (j6 24 n.1 [k]) λo=>C (o,ek (n.2.1+1),U,n.2.2.2))) (a8 (zs (λx=>(x.1,x.2.1,[],[])) n.2.2.2) λk=>rounds (α:=Int×cu zy) (λB e=>cond (e.1<n.1.length) (a8 (cond (0<=e.1&&e.1<n.1.length) (Z ()) W) λm=>a8 ((n.1[e.1.toNat]?).map (λx=>x)) λm=>a8 (nth m 0) λs=>a8 (nth m 0) λt=>a8 (oD (fh (λ(a b:Int)=>No (a=b)) (bf qG s [ek (0-t)]) x.2.2) W) λl=>a8 (nth l 0) λu=>rounds (α:=Int×Int) (λq c=>cond (c.1<e.2.length) (let D:=(a8 (cond (0<=c.1&&c.1<e.2.length) (Z ()) W) λh=>a8 ((e.2[c.1.toNat]?).map (·.2.1)) λh=>a8 (AK (x.2.2,h,u)) λg=>cond g (q (ek (c.1+1),c.1)) (q (ek (c.1+1),c.2))); bif No (c.2=0)then(D)else a8 (cond (0<=c.1&&c.1<e.2.length) (Z ()) W) λh=>a8 ((e.2[c.1.toNat]?).map (·.1)) λh=>a8 (cond (0<=c.2&&c.2<e.2.length) (Z ()) W) λg=>a8 ((e.2[c.2.toNat]?).map (·.1)) λg=>cond (h<g) (D) (q (ek (c.1+1),c.2))) (a8 ((e.2[c.2.toNat]?).map (·.2.2.1)) λv=>
 a8 (cond (0<=c.2&&c.2<e.2.length) (Z ()) W) λh=>a8 (uM e.2 c.2) λh=>a8 (j6 24 v [m]) λh=>a8 (cond (0<=c.2&&c.2<e.2.length) (Z ()) W) λg=>a8 (uM e.2 c.2) λg=>a8 (qI e.2 c.2.toNat (λx y=>(x.1,x.2.1,y,x.2.2.2)) h) λg=>B (ek (e.1+1),g))) (1,0)) (rounds (α:=Int×cu zy) (λw f=>cond (f.1<x.1.1.length) (a8 (nth x.1.1 f.1) λl=>a8 (Df (x.1,l.1)) λz=>cond (z=0) (rounds (α:=Int×Int) (λr d=>cond (d.1<f.2.length) (let E:=(a8 (cond (0<=d.1&&d.1<f.2.length) (Z ()) W) λi=>a8 ((f.2[d.1.toNat]?).map (·.2.1)) λi=>a8 (AK (x.2.2,i,l.2)) λj=>cond j (r (ek (d.1+1),d.1)) (r (ek (d.1+1),d.2))); bif No (d.2=0)then(E)else a8 (cond (0<=d.1&&d.1<f.2.length) (Z ()) W) λi=>a8 ((f.2[d.1.toNat]?).map (·.1)) λi=>a8 (cond (0<=d.2&&d.2<f.2.length) (Z ()) W) λj=>a8 ((f.2[d.2.toNat]?).map (·.1)) λj=>cond (i<j) (E) (r (ek (d.1+1),d.2))) (a8 ((f.2[d.2.toNat]?).map (·.2.2.2)) λg=>a8 (cond (0<=d.2&&d.2<f.2.length) (Z ()) W) λi=>a8 (uM f.2 d.2) λi=>a8 (j6 8 g [l.1]) λi=>a8 (cond (0<=d.2&&d.2<f.2.length) (Z ()) W) λj=>a8 (uM f.2 d.2) λj=>a8 (qI f.2 d.2.toNat (λx y=>(x.1,x.2.1,x.2.2.1,y)) i) λj=>
 w (ek (f.1+1),j))) (1,0)) (w (ek (f.1+1),f.2))) (Z f.2)) (0,e.2))) (0,k))) ([],0,U,[(0,[],(),())])
def Bu:yb×Int->dv Int:=λx=>a8 (FA x) λa=>cond (!(a.2)) (Z 0) (cond (0<x.2) (Z a.1.2.2.2.2.1) (Z a.1.2.2.2.2.2))
def CZ:zy->dv (cu eD):=λx=>a8 (j6 24 [x.2.1] x.2.2.1) λa=>Z a
def Fg:yb×cu zy->dv (eD×Bool):=λx=>rounds (λs h=>cond (h.2.1<(aa x.2:Int)) (a8 (nth x.2 h.2.1) λi=>cond (0<h.2.1) (a8 (nth i.2.1 0) λg=>a8 (Bu (x.1,g)) λe=>cond (e=0) (Z ([],U)) (a8 (oD (fh (λ(a b:Int)=>No (a=b)) e h.2.2) (Z U)) λm=>cond m (Z ([],U)) (a8 (CZ i) λc=>rounds (λj f=>cond (f<(aa c:Int)) (a8 (nth c f) λd=>rounds (λq k=>cond (k<(aa d:Int)) (a8 (nth d k) λn=>a8 (Bu (x.1,n)) λo=>cond (!decide (o=e)) (Z ([],U)) (q (ek (k+1)))) (j (ek (f+1)))) 0) (a8 (j6 8 h.1 [e]) λd=>s (d,ek (h.2.1+1),(wC (λ(a b:Int)=>No (a=b)) e Y h.2.2)))) 0))) (a8 (CZ i) λg=>rounds (λr l=>cond (l<(aa g:Int)) (a8 (nth g l) λc=>rounds (λj f=>cond (f<(aa c:Int)) (a8 (nth c f) λd=>a8 (Bu (x.1,d)) λp=>cond (!decide (p=0)) (Z ([],U)) (j (ek (f+1)))) (r (ek (l+1)))) 0) (a8 (j6 8 h.1 [0]) λc=>s (c,ek (h.2.1+1),h.2.2))) 0)) (Z (h.1,No ((aa h.2.2:Int)=(aa x.1.2.2:Int))))) ([],0,[])
def IB:yb->dv Int:=λx=>a8 (Bm x) λa=>cond (!decide (a.2=0)) (Z a.2) (a8 (E4 x) λb=>a8 (Be (x,a.1,b)) λc=>a8 (Fg (x,c)) λd=>cond (!(d.2)) (Z 12) (Z 0))
def Vy:AL->dv Bool:=λx =>Z (No ((64:Int)<x.2.2.2.2.length))
def Lb:Au×(Unit)->dv Bool:=λx=>rounds (λd b=>cond (b<(aa x.1:Int)) (a8 (nth x.1 b) λc=>a8 (Vy c) λa=>cond a (Z (No (0<=b))) (d (ek (b+1)))) (Z U)) 0
def MN:AL->dv Bool:=λx=>cond (x.1<1) (Z Y) (cond (1073741824<x.1) (Z Y) (cond (x.2.2.1<1) (Z Y) (Z (No (9<x.2.2.1)))))
def La:Au×(Unit)->dv Bool:=λx=>rounds (λd b=>cond (b<(aa x.1:Int)) (a8 (nth x.1 b) λc=>a8 (MN c) λa=>cond a (Z (No (0<=b))) (d (ek (b+1)))) (Z U)) 0
def wv:Int->dv Int:=λx=>cond (x=1) (Z 1) (cond (x=2) (Z 1) (cond (x=8) (Z 1) (cond (x=3) (Z 2) (cond (x=4) (Z 2) (cond (x=5) (Z 3) (cond (x=6) (Z 3) (cond (x=7) (Z 3) (Z 0))))))))
def MI:AL->dv Bool:=λx=>a8 (wv x.2.1) λa=>Z (No (a=0))
def K_:Au×(Unit)->dv Bool:=λx=>rounds (λd b=>cond (b<(aa x.1:Int)) (a8 (nth x.1 b) λc=>a8 (MI c) λa=>cond a (Z (No (0<=b))) (d (ek (b+1)))) (Z U)) 0
def Fe:Int->dv Int:=λx=>cond (x<0) (Z (-1)) (cond (1114111<x) (Z (-1)) (a8 Vz λ_=>rounds (λc b=>cond (b<13) (a8 (nth [(32,32,0),(39,41,0),(45,46,0),(48,57,0),(65,90,1),(97,122,1),(192,214,1),(216,246,1),(248,591,1),(880,1023,2),(1024,1279,3),(1488,1514,4),(19968,40959,5)] b) λa=>cond (a.1<=(lE.wrap x)) (cond ((lE.wrap x)<=a.2.1) (Z a.2.2) (c (ek (b+1)))) (c (ek (b+1)))) (Z (-1))) 0))
def Bj:ByteArray->dv (eD×Int):=λx=>rounds (λe c=>cond (c.2.toNat<x.size) (a8 (Cu x c.2) λa=>a8 (Fe (ek a.2.1)) λd=>cond (d<0) (Z ([],4)) (a8 (j6 8 c.1 [ek a.2.1]) λb=>e (b,a.2.2))) (Z (c.1,0))) ([],0)
def FO:ByteArray->dv (eD×Int):=λx=>cond (x.toList==(bU #[]).toList) (Z ([],14)) (cond ((40:Int)<x.size) (Z ([],3)) (a8 (Bj x) λa=>cond (!decide (a.2=0)) (Z ([],a.2)) (a8 (pE x 0) λg=>cond (g=32) (Z ([],14)) (a8 (pE x (ek ((x.size:Int)-1))) λc=>cond (c=32) (Z ([],14)) (a8 (strings_Contains (x,(bU #[32,32]))) λd=>cond d (Z ([],14)) (rounds (λh b=>cond (b<(aa a.1:Int)) (a8 (nth a.1 b) λe=>a8 (Fe e) λf=>cond (!decide (f=0)) (Z (a.1,0)) (h (ek (b+1)))) (Z ([],14))) 0))))))
def Bp:ByteArray->dv Int:=λx=>a8 (FO x) λa=>Z a.2
def MH:AL->dv Bool:=λx=>cond (!(x.2.2.2.1.toList==(bU #[]).toList)) (a8 (Bp x.2.2.2.1) λa=>Z (!decide (a=0))) (Z U)
def Lc:Au×(Unit)->dv Bool:=λx=>rounds (λd b=>cond (b<(aa x.1:Int)) (a8 (nth x.1 b) λc=>a8 (MH c) λa=>cond a (Z (No (0<=b))) (d (ek (b+1)))) (Z U)) 0
def MQ:AL->dv Bool:=λx=>cond ((aa x.2.2.2.2:Int)=0) (Z Y) (a8 (wv x.2.1) λa=>cond (a=1) (Z (No ((1:Int)<x.2.2.2.2.length))) (Z U))
def K7:Au×(Unit)->dv Bool:=λx=>rounds (λd b=>cond (b<(aa x.1:Int)) (a8 (nth x.1 b) λc=>a8 (MQ c) λa=>cond a (Z (No (0<=b))) (d (ek (b+1)))) (Z U)) 0
def Oj:eD×Int->dv Bool:=λx=>a8 (wo x) λa=>Z a
def H9:Int×AL×yb->dv Bool:=λx=>a8 (wv x.2.1.2.1) λa=>cond (a=1) (a8 (xt (x.2.2,x.1)) λb=>Z (!(b.2))) (cond (a=2) (a8 (BP (x.2.2,x.1)) λc=>Z (!(c.2))) (cond (a=3) (a8 (Oj (x.2.2.2.2,x.1)) λd=>Z (!d)) (Z Y)))
def Lv:eD×(AL×yb)->dv Bool:=λx=>rounds (λd a=>cond (a<(aa x.1:Int)) (a8 (nth x.1 a) λb=>a8 (H9 (b,x.2.1,x.2.2)) λc=>cond c (Z (No (0<=a))) (d (ek (a+1)))) (Z U)) 0
def Ij:yb×AL->dv Bool:=λx=>a8 (Lv (x.2.2.2.2.2,(x.2,x.1))) λa=>Z a
def MS:AL×BX->dv Bool:=λx=>a8 (Ij ((x.2.1,x.2.2.1,x.2.2.2.1),x.1)) λa=>Z a
def K8:Au×BX->dv Bool:=λx=>rounds (λd b=>cond (b<(aa x.1:Int)) (a8 (nth x.1 b) λc=>a8 (MS (c,x.2)) λa=>cond a (Z (No (0<=b))) (d (ek (b+1)))) (Z U)) 0
def IG:eD->dv Bool:=λx=>rounds (λd a=>cond (a<(aa x:Int)) (a8 (nth x (ek (a-1))) λb=>a8 (nth x a) λc=>cond (c<=b) (Z U) (d (ek (a+1)))) (Z Y)) 1
def xr:BX->dv Int:=λx=>a8 (IB (x.1,x.2.1,x.2.2.1)) λn=>cond (!decide (n=0)) (Z n) (cond ((128:Int)<x.2.2.2.length) (Z 3) (a8 (Lb (x.2.2.2,())) λv=>cond v (Z 3) (rounds (λw g=>let z:=(a8 (La (x.2.2.2,())) λo=>cond o (Z 2) (a8 (K_ (x.2.2.2,())) λp=>cond p (Z 9) (a8 (Lc (x.2.2.2,())) λq=>cond q (Z 14) (a8 (K7 (x.2.2.2,())) λr=>cond r (Z 1) (a8 (K8 (x.2.2.2,x)) λs=>cond s (Z 7) (rounds (λl e=>cond (e.1<(aa x.2.2.2:Int)) (a8 (nth x.2.2.2 e.1) λd=>a8 (wv d.2.1) λj=>cond (j=2) (l (ek (e.1+1),e.2)) (cond (j=3) (rounds (λm c=>cond (c.1<(aa d.2.2.2.2:Int)) (a8 (nth d.2.2.2.2 c.1) λf=>a8 (oD (fh (λ(a b:Int×Int)=>(No (a.1=b.1)&&No (a.2=b.2))) (d.2.1,f) c.2) (Z U)) λh=>cond h (cond (0<=e.1) (Z 13) (Z 0)) (m (ek (c.1+1),(wC (λ(a b:Int×Int)=>(No (a.1=b.1)&&No (a.2=b.2))) (d.2.1,f) Y c.2)))) (l (ek (e.1+1),c.2))) (0,e.2)) (rounds (λm c=>cond (c.1<(aa d.2.2.2.2:Int)) (a8 (nth d.2.2.2.2 c.1) λf=>a8 (oD (fh (λ(a b:Int×Int)=>(No (a.1=b.1)&&No (a.2=b.2))) (0,f) c.2) (Z U)) λh=>cond h (cond (0<=e.1) (Z 13) (Z 0)) (m (ek (c.1+1),(wC (λ(a b:Int×Int)=>
 (No (a.1=b.1)&&No (a.2=b.2))) (0,f) Y c.2)))) (l (ek (e.1+1),c.2))) (0,e.2)))) (Z 0)) (0,[]))))))); bif No (g.1<(aa x.2.2.2:Int))then a8 (nth x.2.2.2 g.1) λk=>a8 (Z (ek (g.2+1))) λi=>let B:=(cond (0<=g.1) (Z 10) (z)); let C:=(a8 (IG k.2.2.2.2) λt=>cond (!t) (B) (w (ek (g.1+1),i))); bif No (1<i)then a8 (nth x.2.2.2 (ek (i-2))) λu=>cond (k.1<=u.1) (B) (C)else(C)else(z)) (0,0))))
def N1(n v:Int):dv Int :=
 a8 (Z (fu.wrap v)) λa=>
 a8 (pE Ea a) λb=>
 a8 (Z (ek b)) λc=>
 a8 (Z (ek (n+c))) λd=>
 Z d
def len8(n v:Int):dv Int :=
 a8 (Z (No (256<=v))) λa=>
 cond a (
 a8 (cond ((8:Int)<0) W <|some (v.fdiv (2^(min (8:Int).toNat ak.bits)))) λb=>
 N1 (n+8) b) (
 N1 n v)
def LW(n v:Int):dv Int :=
 a8 (Z (No (65536<=v))) λa=>
 cond a (
 a8 (cond ((16:Int)<0) W <|some (v.fdiv (2^(min (16:Int).toNat ak.bits)))) λb=>
 len8 (n+16) b) (
 len8 n v)
def Fy:Int->dv Int:=λx=>a8 (Z (No (4294967296<=x))) λa=>cond a (a8 (cond ((32:Int)<0) W <|some (x.fdiv (2^(min (32:Int).toNat ak.bits)))) λb=>LW 32 b) (LW 0 x)
def DH:(Int×b9)×bs->dv Bool:=λx=>cond (x.1.1<=x.2.1) (cond (x.2.1<=x.1.2.2.1) (cond (x.1.2.1<=x.2.2) (Z (No (x.2.2<=x.1.2.2.2))) (Z U)) (Z U)) (Z U)
def vD:bs×bs->dv Int:=λx =>Z (ek ((ek ((ek (x.2.1-x.1.1))*(ek (x.2.1-x.1.1))))+(ek ((ek (x.2.2-x.1.2))*(ek (x.2.2-x.1.2))))))
def rU:Int->dv Int:=λx=>a8 (Z (No (x<0))) λb=>cond b (a8 (Z (an ak x)) λa=>a8 (Z (an ak (0-a))) λc=>Z c) (a8 (Z (an ak x)) λa=>Z a)
def zI:Int×Int->dv bs:=λx=>a8 (Z (an ak (aW ak.bits x.1 &&& aW ak.bits (4294967295:Int)).toNat)) λa=>a8 (cond ((32:Int)<0) W <|some (x.1.fdiv (2^(min (32:Int).toNat ak.bits)))) λb=>a8 (Z (an ak (aW ak.bits x.2 &&& aW ak.bits (4294967295:Int)).toNat)) λc=>a8 (cond ((32:Int)<0) W <|some (x.2.fdiv (2^(min (32:Int).toNat ak.bits)))) λd=>a8 (Z (an ak (a*c))) λo=>a8 (Z (an ak (b*c))) λp=>a8 (cond ((32:Int)<0) W <|some (o.fdiv (2^(min (32:Int).toNat ak.bits)))) λq=>a8 (Z (an ak (p+q))) λe=>a8 (Z (an ak (aW ak.bits e &&& aW ak.bits (4294967295:Int)).toNat)) λf=>a8 (cond ((32:Int)<0) W <|some (e.fdiv (2^(min (32:Int).toNat ak.bits)))) λg=>a8 (Z (an ak (a*d))) λh=>a8 (Z (an ak (f+h))) λi=>a8 (Z (an ak (b*d))) λj=>a8 (Z (an ak (j+g))) λk=>a8 (cond ((32:Int)<0) W <|some (i.fdiv (2^(min (32:Int).toNat ak.bits)))) λl=>a8 (Z (an ak (k+l))) λm=>a8 (Z (an ak (x.1*x.2))) λn=>Z (m,n)
def H5:Int->dv Int:=λx=>a8 (Fy x) λa=>a8 (Z (ek (64-a))) λb=>Z b
def Fw(a e b c d q:Int):dv bs :=
 a8 (cond (a<0) W <|some ((an ak (an ak (an ak (d*4294967296)+b)-an ak (q*e))).fdiv (2^(min a.toNat ak.bits)))) λr=>
 Z (an ak (an ak (c*4294967296)+q),r)
def MP(f g b h c d a:Int):dv bs :=
 a8 (cond (b=0) W <|some (an ak (a.tdiv b))) λe=>
 rounds (λk x=>
 cond (4294967296<=x.2) (
 cond ((4294967296:Int)<=an ak (x.1+b)) (Fw f g c d a (an ak (x.2-1))) (k (an ak (x.1+b),an ak (x.2-1)))) (
 cond (an ak (an ak (4294967296*x.1)+c)<an ak (x.2*h)) (
 cond ((4294967296:Int)<=an ak (x.1+b)) (Fw f g c d a (an ak (x.2-1))) (k (an ak (x.1+b),an ak (x.2-1)))) (Fw f g c d a x.2))) (an ak (a-an ak (e*b)),e)
def MO(f a g b c d e q:Int):dv bs:=MP f a g b e q (an ak (an ak (an ak (c*4294967296)+d)-an ak (q*a)))
def IY:b9->dv bs:=λx=>a8 (Z (No (x.2.2=(0:Int)))) λq=>cond q (W) (a8 (Z (No (x.2.2<=x.1))) λr=>cond r (W) (a8 (Z (No (x.1=(0:Int)))) λs=>cond s (a8 (cond (x.2.2=0) W <|some (an ak (x.2.1.tdiv x.2.2))) λl=>a8 (cond (x.2.2=0) W <|some (x.2.1.tmod x.2.2)) λa=>Z (l,a)) (a8 (H5 x.2.2) λl=>a8 (Z (an ak l)) λa=>a8 (cond (a<0) W <|some (an ak (x.2.2*2^(min a.toNat ak.bits)))) λf=>a8 (cond ((32:Int)<0) W <|some (f.fdiv (2^(min (32:Int).toNat ak.bits)))) λb=>a8 (Z (an ak (aW ak.bits f &&& aW ak.bits (4294967295:Int)).toNat)) λd=>a8 (cond (a<0) W <|some (an ak (x.1*2^(min a.toNat ak.bits)))) λm=>a8 (Z (an ak ((64:Int)-a))) λg=>a8 (cond (g<0) W <|some (x.2.1.fdiv (2^(min g.toNat ak.bits)))) λn=>a8 (Z (an ak (aW ak.bits m |||aW ak.bits n).toNat)) λc=>a8 (cond (a<0) W <|some (an ak (x.2.1*2^(min a.toNat ak.bits)))) λh=>a8 (cond ((32:Int)<0) W <|some (h.fdiv (2^(min (32:Int).toNat ak.bits)))) λe=>
 a8 (Z (an ak (aW ak.bits h &&& aW ak.bits (4294967295:Int)).toNat)) λi=>a8 (cond (b=0) W <|some (an ak (c.tdiv b))) λj=>a8 (Z (an ak (j*b))) λo=>a8 (Z (an ak (c-o))) λp=>rounds (λk x=>let t:=(cond ((4294967296:Int)<=an ak (x.2+b)) (MO a f b d c e i (an ak (x.1-(1:Int)))) ((k (an ak (x.1-(1:Int)),an ak (x.2+b))))); bif No (4294967296<=x.1)then(t)else(cond (an ak (an ak ((4294967296:Int)*x.2)+e)<an ak (x.1*d)) (t) (MO a f b d c e i x.1))) (j,p))))
def xx:Int×Bool->dv (Int×Bool):=λx=>cond x.2 (a8 (Z (No (9223372036854775808<x.1))) λa=>cond a (Z (0,U)) (a8 (Z (an ak (0-x.1))) λb=>a8 (Z (ek b)) λc=>Z (c,Y))) (a8 (Z (No (9223372036854775807<x.1))) λa=>cond a (Z (0,U)) (a8 (Z (ek x.1)) λb=>Z (b,Y)))
def FD:b9->dv bs:=λx=>a8 (Z (No (x.2.2=0))) λl=>cond l (Z (0,21)) (a8 (Z (No (x.1<0))) λm=>a8 (Z (No (x.2.1<0))) λn=>a8 (Z (!(m==n))) λo=>a8 (Z (No (x.2.2<0))) λp=>a8 (Z (!(o==p))) λq=>a8 (rU x.1) λr=>a8 (rU x.2.1) λg=>a8 (zI (r,g)) λe=>a8 (rU x.2.2) λh=>a8 (Z (No (h<=e.1))) λi=>cond i (Z (0,15)) (a8 (rU x.2.2) λj=>a8 (IY (e.1,e.2,j)) λa=>cond q (a8 (Z (!decide (a.2=0))) λb=>cond b (a8 (Z (No (a.1=18446744073709551615))) λc=>cond c (Z (0,15)) (a8 (Z (an ak (a.1+1))) λf=>a8 (xx (f,Y)) λd=>a8 (Z (!(d.2))) λk=>cond k (Z (0,15)) (Z (d.1,0)))) (a8 (xx (a.1,Y)) λc=>a8 (Z (!(c.2))) λd=>cond d (Z (0,15)) (Z (c.1,0)))) (a8 (xx (a.1,U)) λb=>a8 (Z (!(b.2))) λf=>cond f (Z (0,15)) (Z (b.1,0)))))
def Bk:Int×Int->dv Int:=λx=>rounds (λd a=>a8 (Z (!decide (a.2=0))) λb=>cond b (a8 (cond (a.2=0) W <|some (a.1.tmod a.2)) λc=>d (a.2,c)) (Z a.1)) x
def DK:Int×Int->dv Int:=λx=>a8 (rU x.1) λa=>a8 (rU x.2) λb=>a8 (Bk (a,b)) λc=>a8 (xx (c,U)) λd=>Z d.1
def yw:bs×bs×bs->dv bs:=λx=>a8 (vJ [x.1,x.2.1,x.2.2]) λE=>a8 (Z (!E)) λG=>cond G (Z (0,0)) (a8 (vD (x.1,x.2.1)) λd=>a8 (Z (ek (x.2.1.1-x.1.1))) λH=>a8 (Z (ek (x.2.2.1-x.1.1))) λj=>a8 (Z (ek (H*j))) λk=>a8 (Z (ek (x.2.1.2-x.1.2))) λl=>a8 (Z (ek (x.2.2.2-x.1.2))) λm=>a8 (Z (ek (l*m))) λn=>a8 (Z (ek (k+n))) λg=>a8 (Z (No (g<=0))) λo=>cond o (a8 (vD (x.1,x.2.2)) λe=>Z (e,1)) (a8 (Z (No (d<=g))) λe=>cond e (a8 (vD x.2) λa=>Z (a,1)) (a8 (xy x) λa=>a8 (FD (a,a,d)) λc=>a8 (Z (ek (a*a))) λp=>a8 (Z (ek (c.1*d))) λq=>a8 (Z (ek (p-q))) λh=>a8 (DK (h,d)) λb=>a8 (Z (an ak c.1)) λr=>a8 (cond (b=0) W <|some (ek (d.tdiv b))) λs=>a8 (Z (an ak s)) λt=>a8 (zI (r,t)) λi=>a8 (cond (b=0) W <|some (ek (h.tdiv b))) λu=>a8 (Z (an ak u)) λv=>a8 (zJ (i.2,v,0)) λf=>a8 (Z (an ak (i.1+f.2))) λw=>a8 (Z (No (0<w))) λz=>cond z (Z (c.1,1)) (a8 (Z (No (9223372036854775807<f.1))) λB=>cond B (Z (c.1,1)) (a8 (Z (ek f.1)) λC=>a8 (cond (b=0) W <|some (ek (d.tdiv b))) λD=>
 Z (C,D))))))
def HM:yb->dv Bool:=λx=>rounds (λc a=>cond (a<(aa x.2.1:Int)) (a8 (nth x.2.1 a) λb=>cond ((64:Int)<b.2.2.2.1.length) (Z Y) (c (ek (a+1)))) (cond ((256:Int)<x.1.length) (Z Y) (cond ((256:Int)<x.2.1.length) (Z Y) (Z (No ((64:Int)<x.2.2.length)))))) 0
def zm:yb×Bool->dv eD:=λx=>rounds (λk c=>cond (c.2<(aa x.1.1:Int)) (cond (!(x.2)) (a8 (nth x.1.1 c.2) λd=>a8 (j6 8 c.1 [d.1]) λe=>k (e,ek (c.2+1))) (rounds (λj a=>cond (a.2.2.1<(aa x.1.2.1:Int)) (cond a.1 (a8 (nth x.1.2.1 a.2.2.1) λf=>a8 (j6 8 a.2.1 [f.1]) λg=>j (Y,g,ek (a.2.2.1+1),a.2.2.2)) (Z a.2.1)) (Z a.2.1)) (x.2,c.1,0,x.2))) (rounds (λl b=>cond (b.2.2<(aa x.1.2.1:Int)) (cond b.1 (a8 (nth x.1.2.1 b.2.2) λh=>a8 (j6 8 b.2.1 [h.1]) λi=>l (Y,i,ek (b.2.2+1))) (Z b.2.1)) (Z b.2.1)) (x.2,c.1,0))) ([],0)
def CI:eD->dv Bool:=λx=>rounds (λd a=>cond (a<(aa x:Int)) (a8 (nth x (ek (a-1))) λb=>a8 (nth x a) λc=>cond (c<=b) (Z U) (d (ek (a+1)))) (Z Y)) 1
def HK:yb->dv eY:=λx=>rounds (λg a=>cond (a.2<(aa x.1:Int)) (a8 (nth x.1 a.2) λf=>a8 (j6 16 a.1 [f.2]) λb=>g (b,ek (a.2+1))) (rounds (λh c=>cond (c.2<(aa x.2.1:Int)) (a8 (nth x.2.1 c.2) λd=>a8 (j6 16 c.1 d.2.2.2.1) λe=>h (e,ek (c.2+1))) (Z c.1)) (a.1,0))) ([],0)
def HO:bs->dv Bool:=λx=>cond ((-1048576:Int)<=x.1) (cond (x.1<=1048576) (cond ((-1048576:Int)<=x.2) (Z (No (x.2<=1048576))) (Z U)) (Z U)) (Z U)
def HI:yb->dv Bool:=λx=>a8 (zm (x,U)) λh=>a8 (zm (x,Y)) λi=>a8 (j6 8 h i) λj=>a8 (j6 8 j x.2.2) λb=>rounds (λl c=>cond (c<(aa b:Int)) (a8 (cond (0<=c&&c<b.length) (Z ()) W) λa=>a8 ((b[c.toNat]?).map (λx=>x)) λa=>cond (a<1) (Z U) (a8 (cond (0<=c&&c<b.length) (Z ()) W) λd=>a8 ((b[c.toNat]?).map (λx=>x)) λd=>cond (1073741824<d) (Z U) (l (ek (c+1))))) (a8 (HK x) λa=>rounds (λk e=>cond (e<(aa a:Int)) (a8 (nth a e) λf=>a8 (HO f) λg=>cond (!g) (Z U) (k (ek (e+1)))) (Z Y)) 0)) 0
def HS:yb->dv Bool:=λx=>rounds (λe c=>cond (c<(aa x.1:Int)) (rounds (λf d=>cond (d<c) (a8 (nth x.1 c) λa=>a8 (nth x.1 d) λb=>cond (a.2.1=b.2.1&&a.2.2=b.2.2) (Z Y) (f (ek (d+1)))) (e (ek (c+1)))) 0) (Z U)) 0
def AR:yb×Int->dv (b9×Bool):=λx=>rounds (λd b=>cond (b<(aa x.1.1:Int)) (a8 (nth x.1.1 b) λc=>cond (c.1=x.2) (a8 (nth x.1.1 b) λa=>Z (a,Y)) (d (ek (b+1)))) (Z ((0,0,0),U))) 0
def ya:yb×ct->dv (eY×Bool):=λx=>a8 (AR (x.1,x.2.2.1)) λc=>a8 (AR (x.1,x.2.2.2.1)) λa=>a8 (j6 16 [c.1.2] x.2.2.2.2.1) λd=>a8 (j6 16 d [a.1.2]) λb=>cond c.2 (Z (b,a.2)) (Z (b,U))
def ER:yb×Int->dv Bool:=λx=>rounds (λc a=>cond (a<(aa x.1.2.2:Int)) (a8 (nth x.1.2.2 a) λb=>cond (b=x.2) (Z Y) (c (ek (a+1)))) (Z (No (x.2=0)))) 0
def EA:yb->dv (cu (Int×Int×Int×eY×Int×Int×Int×Int×Int×b9)):=λx=>rounds (λj f=>cond (f.2<(aa x.2.1:Int)) (a8 (nth x.2.1 f.2) λh=>a8 (ya (x,h)) λc=>rounds (λi b=>cond ((ek (b.2+1))<(aa c.1:Int)) (a8 (nth x.2.1 f.2) λa=>a8 (nth c.1 b.2) λd=>a8 (nth c.1 (ek (b.2+1))) λe=>a8 (j6 112 b.1 [(a.1,a.2.1,a.2.2.1,a.2.2.2.1,a.2.2.2.2.1,a.2.2.2.2.2,b.2,ek ((aa c.1:Int)-1),d.1,d.2,e.1,e.2)]) λg=>i (g,ek (b.2+1))) (j (b.1,ek (f.2+1)))) (f.1,0)) (Z f.1)) ([],0)
def CV:eY->dv Bool:=λx=>rounds (λf a=>cond (a<(aa x:Int)) (a8 (nth x a) λd=>cond (d.1<(-2097152)) (Z U) (a8 (nth x a) λe=>cond (2097152<e.1) (Z U) (a8 (nth x a) λb=>cond (b.2<(-2097152)) (Z U) (a8 (nth x a) λc=>cond (2097152<c.2) (Z U) (f (ek (a+1))))))) (Z Y)) 0
def we:bs×bs×bs×bs->dv Int:=λx =>Z (ek ((ek ((ek (x.2.1.1-x.1.1))*(ek (x.2.2.2.2-x.2.2.1.2))))-(ek ((ek (x.2.1.2-x.1.2))*(ek (x.2.2.2.1-x.2.2.1.1))))))
def Ic:bs×bs×bs×bs->dv Int:=λx =>Z (ek ((ek ((ek (x.2.1.1-x.1.1))*(ek (x.2.2.2.1-x.2.2.1.1))))+(ek ((ek (x.2.1.2-x.1.2))*(ek (x.2.2.2.2-x.2.2.1.2))))))
def yk:bs×bs×bs->dv Bool:=λx=>a8 (CV [x.1,x.2.1,x.2.2]) λa=>cond a (a8 (we (x.1,x.2.1,x.1,x.2.2)) λb=>cond (b=0) (a8 (Ic (x.1,x.2.2,x.2.1,x.2.2)) λc=>Z (No (c<=0))) (Z U)) (Z U)
def EM:yb×(Int×Int×Int×eY×Int×Int×Int×Int×Int×b9)->dv Bool:=λx=>rounds (λc a=>cond (a<(aa x.1.1:Int)) (a8 (nth x.1.1 a) λb=>let e:=(a8 (yk ((x.2.2.2.2.2.2.2.2.2.1,x.2.2.2.2.2.2.2.2.2.2.1),x.2.2.2.2.2.2.2.2.2.2.2,b.2)) λd=>cond d (Z U) (c (ek (a+1)))); let f:=(cond (x.2.2.2.2.2.2.2.1=(ek (x.2.2.2.2.2.2.2.2.1-1))) (cond (!(x.2.2.2.1=b.1)) (e) (c (ek (a+1)))) (e)); bif No (x.2.2.2.2.2.2.2.1=0)then(cond (x.2.2.1=b.1) (c (ek (a+1))) (f))else(f)) (cond (!(x.2.2.2.2.2.2.2.2.2.1=x.2.2.2.2.2.2.2.2.2.2.2.1&&x.2.2.2.2.2.2.2.2.2.2.1=x.2.2.2.2.2.2.2.2.2.2.2.2)) (cond (!decide (x.2.2.1=x.2.2.2.1)) (Z Y) (Z (No (3<=x.2.2.2.2.2.2.2.2.1)))) (Z U))) 0
def o9:bs×bs->dv Bool:=λx=>cond (x.1.1<x.2.1) (Z Y) (cond (x.1.1=x.2.1) (Z (No (x.1.2<x.2.2))) (Z U))
def HH:bs×bs×bs×bs->dv Int:=λx=>a8 (o9 (x.2.1,x.1)) λe=>let f:=(cond (x.2.2.1.1=x.2.2.2.1&&x.2.2.1.2=x.2.2.2.2) (Z 1) (a8 (o9 x.2.2) λa=>cond a (Z 2) (Z 0))); let g:=(cond (x.2.2.2.1=x.2.2.1.1&&x.2.2.2.2=x.2.2.1.2) (Z 1) (a8 (o9 (x.2.2.2,x.2.2.1)) λa=>cond a (Z 2) (Z 0))); bif e then a8 (o9 (x.2.2.2,x.2.2.1)) λd=>let h:=(cond (x.2.1.1=x.1.1&&x.2.1.2=x.1.2) (Z 1) (a8 (o9 (x.2.1,x.1)) λa=>cond a (Z 2) (Z 0))); bif d then a8 (o9 (x.2.1,x.2.2.2)) λc=>cond c (a8 (o9 (x.2.2.1,x.1)) λb=>cond b (g) (cond (x.2.2.2.1=x.1.1&&x.2.2.2.2=x.1.2) (Z 1) (a8 (o9 (x.2.2.2,x.1)) λa=>cond a (Z 2) (Z 0)))) (a8 (o9 (x.2.2.1,x.1)) λb=>cond b (cond (x.2.1.1=x.2.2.1.1&&x.2.1.2=x.2.2.1.2) (Z 1) (a8 (o9 (x.2.1,x.2.2.1)) λa=>cond a (Z 2) (Z 0))) (h))else a8 (o9 (x.2.1,x.2.2.1)) λc=>cond c (a8 (o9 (x.2.2.2,x.1)) λb=>cond b (f) (cond (x.2.2.1.1=x.1.1&&x.2.2.1.2=x.1.2) (Z 1) (a8 (o9 (x.2.2.1,x.1)) λa=>cond a (Z 2) (Z 0)))) (a8 (o9 (x.2.2.2,x.1)) λb=>cond b (cond (x.2.1.1=x.2.2.2.1&&x.2.1.2=x.2.2.2.2) (Z 1) (a8 (o9 (x.2.1,x.2.2.2)) λa=>cond a (Z 2) (Z 0))) (h))else a8 (o9 (x.2.2.2,x.2.2.1)) λd=>let i:=(cond (x.1.1=x.2.1.1&&x.1.2=x.2.1.2) (Z 1) (a8 (o9 (x.1,x.2.1)) λa=>cond a (Z 2) (Z 0))); bif d then a8 (o9 (x.1,x.2.2.2)) λc=>
 cond c (a8 (o9 (x.2.2.1,x.2.1)) λb=>cond b (g) (cond (x.2.2.2.1=x.2.1.1&&x.2.2.2.2=x.2.1.2) (Z 1) (a8 (o9 (x.2.2.2,x.2.1)) λa=>cond a (Z 2) (Z 0)))) (a8 (o9 (x.2.2.1,x.2.1)) λb=>cond b (cond (x.1.1=x.2.2.1.1&&x.1.2=x.2.2.1.2) (Z 1) (a8 (o9 (x.1,x.2.2.1)) λa=>cond a (Z 2) (Z 0))) (i))else a8 (o9 (x.1,x.2.2.1)) λc=>cond c (a8 (o9 (x.2.2.2,x.2.1)) λb=>cond b (f) (cond (x.2.2.1.1=x.2.1.1&&x.2.2.1.2=x.2.1.2) (Z 1) (a8 (o9 (x.2.2.1,x.2.1)) λa=>cond a (Z 2) (Z 0)))) (a8 (o9 (x.2.2.2,x.2.1)) λb=>cond b (cond (x.1.1=x.2.2.2.1&&x.1.2=x.2.2.2.2) (Z 1) (a8 (o9 (x.1,x.2.2.2)) λa=>cond a (Z 2) (Z 0))) (i))
def AP:bs×bs×bs×bs->dv Int:=λx=>a8 (CV [x.1,x.2.1,x.2.2.1,x.2.2.2]) λh=>cond (!h) (Z 0) (let i:=(a8 (we x) λa=>cond (a=0) (a8 (we (x.1,x.2.1,x.1,x.2.2.1)) λb=>cond (!decide (b=0)) (Z 0) (a8 (we (x.1,x.2.1,x.1,x.2.2.2)) λd=>cond (!decide (d=0)) (Z 0) (a8 (we (x.2.2.1,x.2.2.2,x.2.2.1,x.1)) λe=>cond (!decide (e=0)) (Z 0) (a8 (we (x.2.2.1,x.2.2.2,x.2.2.1,x.2.1)) λf=>cond (!decide (f=0)) (Z 0) (a8 (HH x) λg=>Z g))))) (a8 (we (x.1,x.2.2.1,x.2.2.1,x.2.2.2)) λb=>a8 (we (x.1,x.2.2.1,x.1,x.2.1)) λc=>cond (a<0) (cond ((0:Int)<=(ek (0-b))) (cond ((ek (0-b))<=(ek (0-a))) (cond ((0:Int)<=(ek (0-c))) (cond ((ek (0-c))<=(ek (0-a))) (Z 1) (Z 0)) (Z 0)) (Z 0)) (Z 0)) (cond (0<=b) (cond (b<=a) (cond (0<=c) (cond (c<=a) (Z 1) (Z 0)) (Z 0)) (Z 0)) (Z 0)))); bif No (x.1.1=x.2.1.1)&&No (x.1.2=x.2.1.2)then(cond (x.2.2.1.1=x.2.2.2.1&&x.2.2.1.2=x.2.2.2.2) (cond (!(x.1.1=x.2.2.1.1&&x.1.2=x.2.2.1.2)) (Z 0) (i)) (i))else(i))
def CS:(Int×Int×Int×eY×Int×Int×Int×Int×Int×b9)×(Int×Int×Int×eY×Int×Int×Int×Int×Int×b9)->dv Bool:=λx=>a8 (AP ((x.1.2.2.2.2.2.2.2.2.1,x.1.2.2.2.2.2.2.2.2.2.1),x.1.2.2.2.2.2.2.2.2.2.2,(x.2.2.2.2.2.2.2.2.2.1,x.2.2.2.2.2.2.2.2.2.2.1),x.2.2.2.2.2.2.2.2.2.2.2)) λa=>cond (x.2.2.2.2.2.2.2.1=(ek (x.1.2.2.2.2.2.2.1+1))) (Z (No (a=1))) (cond (x.1.2.2.2.2.2.2.1=0) (cond (x.2.2.2.2.2.2.2.1=(ek (x.2.2.2.2.2.2.2.2.1-1))) (cond (x.1.2.1=x.1.2.2.1) (Z (No (a=1))) (Z (No (a=0)))) (Z (No (a=0)))) (Z (No (a=0))))
def AQ:ct×Int->dv Bool:=λx=>cond (x.1.2.1=x.2) (Z Y) (Z (No (x.1.2.2.1=x.2)))
def CO:yb×(Int×Int×Int×eY×Int×Int×Int×Int×Int×b9)×(Int×Int×Int×eY×Int×Int×Int×Int×Int×b9)->dv Bool:=λx=>a8 (AP ((x.2.1.2.2.2.2.2.2.2.2.1,x.2.1.2.2.2.2.2.2.2.2.2.1),x.2.1.2.2.2.2.2.2.2.2.2.2,(x.2.2.2.2.2.2.2.2.2.2.1,x.2.2.2.2.2.2.2.2.2.2.2.1),x.2.2.2.2.2.2.2.2.2.2.2.2)) λd=>cond (!decide (d=1)) (Z (No (d=0))) (rounds (λc b=>cond (b<(aa x.1.1:Int)) (a8 (nth x.1.1 b) λa=>a8 (AQ ((x.2.1.1,x.2.1.2.1,x.2.1.2.2.1,x.2.1.2.2.2.1,x.2.1.2.2.2.2.1,x.2.1.2.2.2.2.2.1),a.1)) λe=>cond e (a8 (AQ ((x.2.2.1,x.2.2.2.1,x.2.2.2.2.1,x.2.2.2.2.2.1,x.2.2.2.2.2.2.1,x.2.2.2.2.2.2.2.1),a.1)) λf=>cond f (a8 (yk ((x.2.1.2.2.2.2.2.2.2.2.1,x.2.1.2.2.2.2.2.2.2.2.2.1),x.2.1.2.2.2.2.2.2.2.2.2.2,a.2)) λg=>cond g (a8 (yk ((x.2.2.2.2.2.2.2.2.2.2.1,x.2.2.2.2.2.2.2.2.2.2.2.1),x.2.2.2.2.2.2.2.2.2.2.2.2,a.2)) λh=>cond h (Z Y) (c (ek (b+1)))) (c (ek (b+1)))) (c (ek (b+1)))) (c (ek (b+1)))) (Z U)) 0)
def HG:yb->dv Bool:=λx=>a8 (EA x) λa=>rounds (λr c=>cond (c<(aa a:Int)) (a8 (nth a c) λp=>a8 (EM (x,p)) λg=>cond (!g) (Z U) (rounds (λh b=>cond (b<c) (a8 (nth a b) λi=>a8 (nth a c) λj=>let q:=(a8 (nth a b) λk=>a8 (nth a c) λl=>cond (!decide (k.1=l.1)) (a8 (nth a b) λd=>a8 (nth a c) λe=>a8 (CO (x,d,e)) λf=>cond (!f) (Z U) (h (ek (b+1)))) (h (ek (b+1)))); bif No (i.1=j.1)then a8 (nth a b) λm=>a8 (nth a c) λn=>a8 (CS (m,n)) λo=>cond (!o) (Z U) (q)else(q)) (r (ek (c+1)))) 0)) (Z Y)) 0
def EP:yb->dv Int:=λx=>a8 (HM x) λl=>cond l (Z 3) (a8 (zm (x,U)) λm=>a8 (CI m) λn=>cond (!n) (Z 10) (a8 (zm (x,Y)) λo=>a8 (CI o) λp=>cond (!p) (Z 10) (a8 (CI x.2.2) λd=>cond (!d) (Z 10) (a8 (HI x) λe=>cond (!e) (Z 2) (a8 (HS x) λf=>cond f (Z 8) (rounds (λq c=>cond (c<(aa x.2.1:Int)) (a8 (nth x.2.1 c) λg=>a8 (ya (x,g)) λh=>cond (!(h.2)) (Z 7) (q (ek (c+1)))) (rounds (λr b=>cond (b<(aa x.2.1:Int)) (a8 (nth x.2.1 b) λa=>a8 (ER (x,a.2.2.2.2.1)) λi=>cond (!i) (Z 12) (a8 (nth x.2.1 b) λj=>a8 (ER (x,j.2.2.2.2.2)) λk=>cond (!k) (Z 12) (r (ek (b+1))))) (a8 (HG x) λa=>cond (!a) (Z 11) (Z 0))) 0)) 0))))))
def AX:yb×Int->dv (ct×Bool):=λx=>rounds (λe c=>cond (c<(aa x.1.2.1:Int)) (a8 (nth x.1.2.1 c) λd=>cond (d.1=x.2) (a8 (nth x.1.2.1 c) λa=>a8 (j6 16 [] a.2.2.2.1) λb=>Z ((a.1,a.2.1,a.2.2.1,b,a.2.2.2.2.1,a.2.2.2.2.2),Y)) (e (ek (c+1)))) (Z ((0,0,0,[],0,0),U))) 0
def CU:yb×Int->dv (eY×Int):=λx=>a8 (AX x) λb=>cond (!(b.2)) (Z ([],7)) (a8 (ya (x.1,b.1)) λa=>cond (!(a.2)) (Z ([],7)) (Z (a.1,0)))
def ES:yb×Int->dv eY:=λx=>cond (0<x.2) (a8 (CU x) λe=>Z e.1) (a8 (CU (x.1,ek (0-x.2))) λb=>rounds (λf a=>cond (0<=a.2) (a8 (nth b.1 a.2) λc=>a8 (j6 16 a.1 [c]) λd=>f (d,ek (a.2-1))) (Z a.1)) ([],ek ((aa b.1:Int)-1)))
def EK:yb×Int->dv bs:=λx=>a8 (ES x) λa=>cond ((aa a:Int)<2) (Z (0,0)) (a8 (nth a 1) λb=>Z b)
def EB:bs×bs->dv Int:=λx=>a8 (Z (ek (x.2.1-x.1.1))) λa=>a8 (Z (ek (x.2.2-x.1.2))) λb=>let c:=(cond (a<=0) (cond (0<b) (Z 1) (cond (a<0) (Z 2) (Z 3))) (cond (a<0) (Z 2) (Z 3))); bif No (0<a)then(cond (0<=b) (Z 0) (c))else(c)
def ET:bs×bs×bs->dv Bool:=λx=>a8 (CV [x.1,x.2.1,x.2.2]) λd=>cond (!d) (Z U) (cond (x.2.1.1=x.1.1&&x.2.1.2=x.1.2) (Z U) (cond (x.2.2.1=x.1.1&&x.2.2.2=x.1.2) (Z U) (a8 (EB (x.1,x.2.1)) λa=>a8 (EB (x.1,x.2.2)) λb=>cond (a<b) (Z Y) (cond (a=b) (a8 (we (x.1,x.2.1,x.1,x.2.2)) λc=>Z (No (0<c))) (Z U)))))
def CP:yb×Int->dv eD:=λx=>a8 (AR x) λl=>cond (!(l.2)) (Z []) (rounds (α:=Int×eD) (λu b=>cond (b.1<x.1.2.1.length) (a8 (nth x.1.2.1 b.1) λm=>cond (m.2.1=x.2) (a8 (nth x.1.2.1 b.1) λf=>a8 (j6 8 b.2 [f.1]) λi=>a8 (nth x.1.2.1 b.1) λg=>cond (g.2.2.1=x.2) (a8 (nth x.1.2.1 b.1) λa=>a8 (j6 8 i [ek (0-a.1)]) λn=>u (ek (b.1+1),n)) (u (ek (b.1+1),i))) (a8 (nth x.1.2.1 b.1) λf=>cond (f.2.2.1=x.2) (a8 (nth x.1.2.1 b.1) λg=>a8 (j6 8 b.2 [ek (0-g.1)]) λa=>u (ek (b.1+1),a)) (u (ek (b.1+1),b.2)))) (rounds (α:=eY×Int) (λv c=>cond (c.2<b.2.length) (a8 (cond (0<=c.2&&c.2<b.2.length) (Z ()) W) λj=>a8 ((b.2[c.2.toNat]?).map (λx=>x)) λj=>a8 (EK (x.1,j)) λo=>a8 (j6 16 c.1 [o]) λp=>v (p,ek (c.2+1))) (rounds (α:=eD) (λq h=>cond ((aa h:Int)<(aa b.2:Int)) (rounds (α:=Int) (λw d=>cond (d<b.2.length) (rounds (α:=Int×Int) (λr e=>cond (e.1<b.2.length) (a8 (cond (0<=e.1&&e.1<c.1.length) (Z ()) W) λk=>a8 ((c.1[e.1.toNat]?).map (λx=>x)) λk=>a8 (cond (0<=d&&d<c.1.length) (Z ()) W) λa=>a8 ((c.1[d.toNat]?).map (λx=>x)) λa=>a8 (ET (l.1.2,k,a)) λs=>
 cond s (r (ek (e.1+1),ek (e.2+1))) (r (ek (e.1+1),e.2))) (cond (e.2=h.length) (a8 (cond (0<=d&&d<b.2.length) (Z ()) W) λa=>a8 ((b.2[d.toNat]?).map (λx=>x)) λa=>a8 (j6 8 h [a]) λt=>q t) (cond (d=(ek ((aa b.2:Int)-1))) (Z []) (w (ek (d+1)))))) (0,0)) (q h)) 0) (Z h)) [])) ([],0))) (0,[]))
def Hv:yb->dv (eD×eD):=λx=>rounds (λk c=>cond (c.2.2<(aa x.1:Int)) (a8 (nth x.1 c.2.2) λi=>a8 (CP (x,i.1)) λa=>rounds (λj b=>cond (b.2.2<(aa a:Int)) (a8 (cond ((aa a:Int)=0) W <|some ((ek (b.2.2+1)).tmod (aa a:Int))) λd=>a8 (nth a d) λe=>a8 (j6 8 b.1 [ek (0-e)]) λf=>a8 (nth a b.2.2) λg=>a8 (j6 8 b.2.1 [g]) λh=>j (f,h,ek (b.2.2+1))) (k (b.1,b.2.1,ek (c.2.2+1)))) (c.1,c.2.1,0)) (Z (c.1,c.2.1))) ([],[],0)
def HQ:yb->dv eD:=λx=>rounds (λg a=>cond (0<=a.2) (a8 (nth x.2.1 a.2) λf=>a8 (j6 8 a.1 [ek (0-f.1)]) λb=>g (b,ek (a.2-1))) (rounds (λh c=>cond (c.2<(aa x.2.1:Int)) (a8 (nth x.2.1 c.2) λd=>a8 (j6 8 c.1 [d.1]) λe=>h (e,ek (c.2+1))) (Z c.1)) (a.1,0))) ([],ek ((aa x.2.1:Int)-1))
def Ib:eD×Int->dv Bool:=λx=>rounds (λc a=>cond (a<(aa x.1:Int)) (a8 (nth x.1 a) λb=>cond (b=x.2) (Z Y) (c (ek (a+1)))) (Z U)) 0
def HW:eD×eD×Int->dv eD:=λx=>rounds (λi d=>cond ((aa d.2:Int)<=(aa x.1:Int)) (rounds (λh b=>cond (b.1<(aa x.1:Int)) (a8 (nth x.1 b.1) λe=>a8 (Z (ek ((aa d.2:Int)-1))) λa=>a8 (cond (0<=a&&a<d.2.length) (Z ()) W) λc=>a8 ((d.2[a.toNat]?).map (λx=>x)) λc=>cond (e=c) (a8 (nth x.2.1 b.1) λf=>h (ek (b.1+1),f)) (h (ek (b.1+1),b.2))) (cond (b.2=x.2.2) (Z d.2) (a8 (j6 8 d.2 [b.2]) λg=>i (U,g)))) (0,0)) (Z d.2)) (U,[x.2.2])
def EI:yb->dv (cu eD×Int):=λx=>a8 (EP x) λd=>cond (!decide (d=0)) (Z ([],d)) (a8 (Hv x) λe=>a8 (HQ x) λc=>rounds (λk a=>cond (a.2.2<(aa c:Int)) (a8 (nth c a.2.2) λf=>a8 (Ib (a.2.1,f)) λg=>cond g (k (a.1,a.2.1,ek (a.2.2+1))) (a8 (nth c a.2.2) λh=>a8 (HW (e.1,e.2,h)) λb=>a8 (j6 8 a.2.1 b) λi=>a8 (j6 24 a.1 [b]) λj=>k (j,i,ek (a.2.2+1)))) (Z (a.1,0))) ([],[],0))
def H':yb×Int->dv (ct×Bool×Bool):=λx=>rounds (λe b=>cond (b<(aa x.1.2.1:Int)) (a8 (nth x.1.2.1 b) λd=>cond (d.1=x.2) (a8 (nth x.1.2.1 b) λa=>Z (a,U,Y)) (a8 (nth x.1.2.1 b) λa=>cond (a.1=(ek (0-x.2))) (a8 (nth x.1.2.1 b) λc=>Z (c,Y,Y)) (e (ek (b+1))))) (Z ((0,0,0,[],0,0),U,U))) 0
def HR:yb×Int->dv Bool:=λx=>a8 (H' x) λa=>cond a.2.2 (Z (!decide (x.2=0))) (Z U)
def xh:yb×eD->dv Int:=λx=>cond ((512:Int)<x.2.length) (Z 0) (rounds (λl c=>cond (c.2<(aa x.2:Int)) (a8 (nth x.2 c.2) λd=>a8 (HR (x.1,d)) λe=>cond (!e) (Z 0) (a8 (nth x.2 c.2) λf=>a8 (ES (x.1,f)) λa=>rounds (λk b=>cond (b.2<(aa a:Int)) (a8 (nth a (ek (b.2-1))) λg=>a8 (nth a b.2) λh=>a8 (nth a b.2) λi=>a8 (nth a (ek (b.2-1))) λj=>k (ek ((ek (b.1+(ek (g.1*h.2))))-(ek (i.1*j.2))),ek (b.2+1))) (l (b.1,ek (c.2+1)))) (c.1,1))) (Z c.1)) (0,0))
def zi:Int->dv Int:=λx =>Z (bf qG x [ek (0-x)])
def EF:Int×Int->dv Bool:=λx=>a8 (zi x.1) λa=>a8 (zi x.2) λb=>cond (a<b) (Z Y) (a8 (zi x.1) λc=>a8 (zi x.2) λd=>cond (c=d) (Z (No (x.2<x.1))) (Z U))
def C0:eD->dv Int:=λx=>a8 (nth x 0) λb=>rounds (λf a=>cond (a.1<(aa x:Int)) (a8 (nth x a.1) λc=>a8 (EF (c,a.2)) λd=>cond d (a8 (nth x a.1) λe=>f (ek (a.1+1),e)) (f (ek (a.1+1),a.2))) (Z a.2)) (0,b)
def EJ:yb->dv (cu eD):=λx=>a8 (EI x) λd=>rounds (λr e=>cond (e.2<(aa d.1:Int)) (a8 (nth d.1 e.2) λi=>a8 (xh (x,i)) λj=>cond (j<=0) (r (e.1,ek (e.2+1))) (a8 (nth d.1 e.2) λk=>a8 (j6 24 e.1 [k]) λl=>rounds (λq a=>let s:=(a8 (nth d.1 e.2) λb=>a8 (cond (0<=a.2&&a.2<a.1.length) (Z ()) W) λc=>a8 (qI a.1 a.2.toNat (λx y=>y) b) λc=>r (c,ek (e.2+1))); bif No (0<a.2)then a8 (nth d.1 e.2) λm=>a8 (C0 m) λn=>a8 (Z (ek (a.2-1))) λf=>a8 (cond (0<=f&&f<a.1.length) (Z ()) W) λg=>a8 ((a.1[f.toNat]?).map (λx=>x)) λg=>a8 (C0 g) λo=>a8 (EF (n,o)) λp=>cond p (a8 (Z (ek (a.2-1))) λb=>a8 (cond (0<=b&&b<a.1.length) (Z ()) W) λc=>a8 ((a.1[b.toNat]?).map (λx=>x)) λc=>a8 (cond (0<=a.2&&a.2<a.1.length) (Z ()) W) λh=>a8 (qI a.1 a.2.toNat (λx y=>y) c) λh=>q (h,ek (a.2-1))) (s)else(s)) (l,(aa e.1:Int)))) (Z e.1)) ([],0)
def CW:yb×Int->dv eY:=λx=>a8 (zi x.2) λe=>a8 (CU (x.1,e)) λb=>cond (0<x.2) (Z b.1) (rounds (λf a=>cond (0<=a.2) (a8 (nth b.1 a.2) λc=>a8 (j6 16 a.1 [c]) λd=>f (d,ek (a.2-1))) (Z a.1)) ([],ek ((aa b.1:Int)-1)))
def zh:bs×bs×bs->dv Int:=λx=>a8 (Z (ek ((ek ((ek (x.2.1.1-x.1.1))*(ek (x.2.2.2-x.1.2))))-(ek ((ek (x.2.2.1-x.1.1))*(ek (x.2.1.2-x.1.2))))))) λa=>cond (0<a) (Z 1) (cond (a<0) (Z (-1)) (Z 0))
def EZ:bs×bs×bs->dv Bool:=λx=>a8 (zh x) λa=>cond (a=0) (cond ((bf w6 x.1.1 [x.2.1.1])<=x.2.2.1) (cond (x.2.2.1<=(bf qG x.1.1 [x.2.1.1])) (cond ((bf w6 x.1.2 [x.2.1.2])<=x.2.2.2) (Z (No (x.2.2.2<=(bf qG x.1.2 [x.2.1.2])))) (Z U)) (Z U)) (Z U)) (Z U)
def CN:yb×eD×bs->dv Bool:=λx=>rounds (λj g=>cond (g.2<(aa x.2.1:Int)) (a8 (nth x.2.1 g.2) λh=>a8 (CW (x.1,h)) λe=>rounds (λd a=>cond (a.1<(aa e:Int)) (a8 (nth e (ek (a.1-1))) λb=>a8 (nth e a.1) λc=>a8 (EZ (b,c,x.2.2)) λi=>cond i (Z U) (cond (c.2<b.2) (cond (c.2<=x.2.2.2) (cond (x.2.2.2<b.2) (a8 (zh (c,b,x.2.2)) λf=>cond (0<f) (d (ek (a.1+1),(!(a.2)))) (d (ek (a.1+1),a.2))) (d (ek (a.1+1),a.2))) (d (ek (a.1+1),a.2))) (cond (b.2<=x.2.2.2) (cond (x.2.2.2<c.2) (a8 (zh (b,c,x.2.2)) λf=>cond (0<f) (d (ek (a.1+1),(!(a.2)))) (d (ek (a.1+1),a.2))) (d (ek (a.1+1),a.2))) (d (ek (a.1+1),a.2))))) (j (a.2,ek (g.2+1)))) (1,g.1)) (Z g.1)) (U,0)
def AM:yb×cu eD×bs->dv Int:=λx=>rounds (λh a=>cond (a.1<(aa x.2.1:Int)) (a8 (nth x.2.1 a.1) λb=>a8 (CN (x.1,b,x.2.2)) λc=>cond c (cond (a.2<0) (h (ek (a.1+1),a.1)) (a8 (nth x.2.1 a.1) λd=>a8 (xh (x.1,d)) λe=>a8 (nth x.2.1 a.2) λf=>a8 (xh (x.1,f)) λg=>cond (e<g) (h (ek (a.1+1),a.1)) (h (ek (a.1+1),a.2)))) (h (ek (a.1+1),a.2))) (Z a.2)) (0,(-1))
def HL:yb×Int->dv Int:=λx=>rounds (λd b=>cond (b.1<(aa x.1.2.1:Int)) (a8 (nth x.1.2.1 b.1) λe=>cond (e.2.1=x.2) (a8 (Z (ek (b.2+1))) λa=>a8 (nth x.1.2.1 b.1) λc=>cond (c.2.2.1=x.2) (d (ek (b.1+1),ek (a+1))) (d (ek (b.1+1),a))) (a8 (nth x.1.2.1 b.1) λa=>cond (a.2.2.1=x.2) (d (ek (b.1+1),ek (b.2+1))) (d (ek (b.1+1),b.2)))) (Z b.2)) (0,0)
def CL:yb->dv (cu zy):=λx=>a8 (EJ x) λm=>rounds (λD n=>cond (n.2.1<(aa m:Int)) (a8 (nth m n.2.1) λe=>a8 (j6 80 n.2.2 [(0,e,(),())]) λo=>D (U,ek (n.2.1+1),o)) (a8 (EI x) λe=>a8 (zs (λx=>(x.1,x.2.1,[],[])) n.2.2) λp=>rounds (λq a=>cond (a.1<(aa e.1:Int)) (a8 (nth e.1 a.1) λr=>a8 (xh (x,r)) λs=>cond (s<=0) (a8 (nth e.1 a.1) λt=>a8 (nth t 0) λu=>a8 (CW (x,u)) λg=>a8 (nth g 0) λv=>a8 (AM (x,m,v)) λh=>a8 (Z (ek (1+h))) λc=>a8 ((a.2[c.toNat]?).map (·.2.2.1)) λi=>a8 (cond (0<=c&&c<a.2.length) (Z ()) W) λj=>a8 (uM a.2 c) λj=>a8 (nth e.1 a.1) λj=>a8 (j6 24 i [j]) λw=>a8 (cond (0<=c&&c<a.2.length) (Z ()) W) λf=>a8 (uM a.2 c) λf=>a8 (qI a.2 c.toNat (λx y=>(x.1,x.2.1,y,x.2.2.2)) w) λf=>q (ek (a.1+1),f)) (q (ek (a.1+1),a.2))) (rounds (λz b=>cond (b.1<(aa x.1:Int)) (a8 (nth x.1 b.1) λg=>a8 (HL (x,g.1)) λh=>cond (h=0) (a8 (nth x.1 b.1) λi=>a8 (AM (x,m,i.2)) λf=>a8 (Z (ek (1+f))) λd=>a8 ((b.2[d.toNat]?).map (·.2.2.2)) λB=>a8 (cond (0<=d&&d<b.2.length) (Z ()) W) λk=>a8 (uM b.2 d) λk=>a8 (nth x.1 b.1) λk=>a8 (j6 8 B [k.1]) λC=>
 a8 (cond (0<=d&&d<b.2.length) (Z ()) W) λl=>a8 (uM b.2 d) λl=>a8 (qI b.2 d.toNat (λx y=>(x.1,x.2.1,x.2.2.1,y)) C) λl=>z (ek (b.1+1),l)) (z (ek (b.1+1),b.2))) (Z b.2)) (0,a.2))) (0,p))) (U,0,[(0,[],(),())])
def AT:yb×Int->dv Int:=λx=>cond (0<x.2) (a8 (AX x) λa=>Z a.1.2.2.2.2.1) (cond ((0:Int)<(ek (0-x.2))) (a8 (AX (x.1,ek (0-x.2))) λb=>Z b.1.2.2.2.2.2) (Z 0))
def Ia:eD×Int->dv Bool:=λx=>rounds (λc a=>cond (a<(aa x.1:Int)) (a8 (nth x.1 a) λb=>cond (b=x.2) (Z Y) (c (ek (a+1)))) (Z U)) 0
def zf:yb×eD×Int->dv Bool:=λx=>rounds (λd b=>cond (b<(aa x.2.1:Int)) (a8 (nth x.2.1 b) λc=>a8 (AT (x.1,c)) λa=>cond (!decide (a=x.2.2)) (Z U) (d (ek (b+1)))) (Z Y)) 0
def H4:eD×Int->dv eD:=λx=>a8 (Ia x) λf=>cond f (Z x.1) (rounds (λj a=>let i:=(a8 (tx x.1 W (Z a)) λg=>a8 (j6 8 [] g) λb=>a8 (j6 8 b [x.2]) λc=>a8 (tx x.1 (Z a) W) λd=>a8 (j6 8 c d) λe=>Z e); bif No (a<x.1.length)then a8 (nth x.1 a) λh=>cond (h<x.2) (j (ek (a+1))) (i)else(i)) 0)
def EG:eD->dv eD:=λx=>rounds (λd a=>cond (a.2<(aa x:Int)) (a8 (nth x a.2) λb=>a8 (H4 (a.1,b)) λc=>d (c,ek (a.2+1))) (Z a.1)) ([],0)
def HZ:eD×eD->dv Bool:=λx=>cond (!decide ((aa x.1:Int)=(aa x.2:Int))) (Z U) (rounds (λd b=>cond (b<(aa x.1:Int)) (a8 (nth x.1 b) λc=>a8 (nth x.2 b) λa=>cond (!decide (c=a)) (Z U) (d (ek (b+1)))) (Z Y)) 0)
def EN:yb->dv (cu zy×Bool):=λx=>a8 (CL x) λv=>rounds (α:=Int×cu zy×eD) (λB a=>cond (a.1<a.2.1.length) (cond (0<a.1) (a8 (cond (0<=a.1&&a.1<a.2.1.length) (Z ()) W) λc=>a8 ((a.2.1[a.1.toNat]?).map (·.2.1)) λc=>a8 (nth c 0) λf=>a8 (AT (x,f)) λi=>a8 (cond (0<=a.1&&a.1<a.2.1.length) (Z ()) W) λb=>a8 (qI a.2.1 a.1.toNat (λx y=>(y,x.2.1,x.2.2.1,x.2.2.2)) i) λb=>a8 (cond (0<=a.1&&a.1<b.length) (Z ()) W) λk=>a8 ((b[a.1.toNat]?).map (·.1)) λk=>cond (k=0) (Z ([],U)) (a8 (cond (0<=a.1&&a.1<b.length) (Z ()) W) λd=>a8 ((b[a.1.toNat]?).map (·.1)) λd=>a8 (Ia (a.2.2,d)) λr=>cond r (Z ([],U)) (a8 (cond (0<=a.1&&a.1<b.length) (Z ()) W) λl=>a8 ((b[a.1.toNat]?).map (·.1)) λl=>a8 (j6 8 a.2.2 [l]) λg=>a8 (cond (0<=a.1&&a.1<b.length) (Z ()) W) λh=>a8 ((b[a.1.toNat]?).map (·.2.1)) λh=>a8 (cond (0<=a.1&&a.1<b.length) (Z ()) W) λe=>a8 ((b[a.1.toNat]?).map (·.1)) λe=>a8 (zf (x,h,e)) λj=>cond (!j) (Z ([],U)) (rounds (α:=Int) (λw p=>a8 (cond (0<=a.1&&a.1<b.length) (Z ()) W) λm=>a8 ((b[a.1.toNat]?).map (·.2.2.1)) λm=>cond (p<m.length) (a8 (cond (0<=a.1&&a.1<b.length) (Z ()) W) λn=>a8 ((b[a.1.toNat]?).map (·.2.2.1)) λn=>
 a8 (nth n p) λs=>a8 (cond (0<=a.1&&a.1<b.length) (Z ()) W) λo=>a8 ((b[a.1.toNat]?).map (·.1)) λo=>a8 (zf (x,s,o)) λt=>cond (!t) (Z ([],U)) (w (ek (p+1)))) (B (ek (a.1+1),b,g))) 0)))) (a8 (cond (0<=a.1&&a.1<a.2.1.length) (Z ()) W) λc=>a8 ((a.2.1[a.1.toNat]?).map (·.2.1)) λc=>a8 (cond (0<=a.1&&a.1<a.2.1.length) (Z ()) W) λf=>a8 ((a.2.1[a.1.toNat]?).map (·.1)) λf=>a8 (zf (x,c,f)) λi=>cond (!i) (Z ([],U)) (rounds (α:=Int) (λz q=>a8 (cond (0<=a.1&&a.1<a.2.1.length) (Z ()) W) λd=>a8 ((a.2.1[a.1.toNat]?).map (·.2.2.1)) λd=>cond (q<d.length) (a8 (cond (0<=a.1&&a.1<a.2.1.length) (Z ()) W) λg=>a8 ((a.2.1[a.1.toNat]?).map (·.2.2.1)) λg=>a8 (nth g q) λh=>a8 (cond (0<=a.1&&a.1<a.2.1.length) (Z ()) W) λe=>a8 ((a.2.1[a.1.toNat]?).map (·.1)) λe=>a8 (zf (x,h,e)) λj=>cond (!j) (Z ([],U)) (z (ek (q+1)))) (B (ek (a.1+1),a.2.1,a.2.2))) 0))) (a8 (EG a.2.2) λu=>a8 (HZ (u,x.2.2)) λc=>Z (a.2.1,c))) (0,v,[])
def EO:yb->dv Int:=λx=>a8 (EP x) λa=>cond (!decide (a=0)) (Z a) (a8 (EN x) λb=>cond (!(b.2)) (Z 12) (Z 0))
def Ex:eD->dv Bool:=λx=>rounds (λd a=>cond (a<(aa x:Int)) (a8 (nth x (ek (a-1))) λb=>a8 (nth x a) λc=>cond (c<=b) (Z U) (d (ek (a+1)))) (Z Y)) 1
def wj:Int->dv Int:=λx=>cond (x=1) (Z 1) (cond (x=2) (Z 1) (cond (x=8) (Z 1) (cond (x=3) (Z 2) (cond (x=4) (Z 2) (cond (x=5) (Z 3) (cond (x=6) (Z 3) (cond (x=7) (Z 3) (Z 0))))))))
def HY:ByteArray->dv Int:=λx=>cond ((x.size:Int)=(1:Int)) (a8 (pE x (0:Int)) λg=>Z (ek g)) (cond ((x.size:Int)=(2:Int)) (a8 (pE x (0:Int)) λb=>a8 (cond ((32:Int)=0) W <|some ((ek b).tmod (32:Int))) λc=>a8 (pE x (1:Int)) λd=>a8 (cond ((64:Int)=0) W <|some ((ek d).tmod (64:Int))) λa=>Z (ek ((ek (c*(64:Int)))+a))) (a8 (pE x (0:Int)) λb=>a8 (cond ((16:Int)=0) W <|some ((ek b).tmod (16:Int))) λc=>a8 (pE x (1:Int)) λd=>a8 (cond ((64:Int)=0) W <|some ((ek d).tmod (64:Int))) λa=>a8 (pE x (2:Int)) λe=>a8 (cond ((64:Int)=0) W <|some ((ek e).tmod (64:Int))) λf=>Z (ek ((ek ((ek (c*(4096:Int)))+(ek (a*(64:Int)))))+f))))
def Mm:Int->dv Bool:=λx=>cond (48<=x) (Z (No (x<=57))) (Z U)
def Cj(a b v x:Int)(k:dv Int):dv Int:=cond (a<=x) (cond (x<=b) (Z v) k) k
def EE:Int->dv Int:=λx=>cond (x=32) (Z 0) (cond (x=39) (Z 0) (cond (x=40) (Z 0) (cond (x=41) (Z 0) (cond (x=45) (Z 0) (cond (x=46) (Z 0) (a8 (Mm x) λa=>cond a (Z 0) (Cj 65 90 1 x (Cj 97 122 1 x ((λk=>cond (192<=x) (cond (x<=591) (cond (!decide (x=215)) (cond (!decide (x=247)) (Z 1) k) k) k) k) (Cj 880 1023 2 x (Cj 1024 1279 3 x (Cj 1488 1514 4 x (Cj 19968 40959 5 x (Z (-1)))))))))))))))
def H7:Int->dv ByteArray:=λx=>cond (x<(128:Int)) (Z (zP [fu.wrap x])) (cond (x<(2048:Int)) (a8 (cond ((64:Int)=0) W <|some (ek (x.tdiv (64:Int)))) λa=>a8 (cond ((64:Int)=0) W <|some (x.tmod (64:Int))) λb=>Z (zP [fu.wrap (ek ((192:Int)+a)),(fu.wrap (ek ((128:Int)+b)))])) (a8 (cond ((4096:Int)=0) W <|some (ek (x.tdiv (4096:Int)))) λa=>a8 (cond ((64:Int)=0) W <|some (ek (x.tdiv (64:Int)))) λb=>a8 (cond ((64:Int)=0) W <|some (b.tmod (64:Int))) λd=>a8 (cond ((64:Int)=0) W <|some (x.tmod (64:Int))) λc=>Z (zP [fu.wrap (ek ((224:Int)+a)),fu.wrap (ek ((128:Int)+d)),(fu.wrap (ek ((128:Int)+c)))])))
def HJ:ByteArray->dv (eD×Int):=λx=>rounds (λk c=>cond (c.2<(x.size:Int)) (rounds (λi a=>let j:=(cond (a.2.2=0) (Z ([],4)) (k (a.2.1,ek (c.2+a.2.2)))); bif No (a.1<=3)then(cond ((ek (c.2+a.1))<=(x.size:Int)) (cond (a.2.2=0) (a8 (D8 x (Z c.2) (Z (ek (c.2+a.1)))) λd=>a8 (HY d) λb=>a8 (EE b) λe=>cond (0<=e) (a8 (H7 b) λf=>a8 (D8 x (Z c.2) (Z (ek (c.2+a.1)))) λg=>cond (f.toList==g.toList) (a8 (j6 8 a.2.1 [b]) λh=>i (ek (a.1+1),h,a.1)) (i (ek (a.1+1),a.2.1,a.2.2))) (i (ek (a.1+1),a.2.1,a.2.2))) (j)) (j))else(j)) (1,c.1,0)) (Z (c.1,0))) ([],0)
def HF:eD->dv Bool:=λx=>a8 (nth x 0) λd=>cond (d=32) (Z Y) (a8 (nth x (ek ((aa x:Int)-1))) λe=>cond (e=32) (Z Y) (rounds (λf a=>cond (a<(aa x:Int)) (a8 (nth x a) λb=>cond (b=32) (a8 (nth x (ek (a-1))) λc=>cond (c=32) (Z Y) (f (ek (a+1)))) (f (ek (a+1)))) (Z U)) 1))
def HE:eD->dv Bool:=λx=>rounds (λd a=>cond (a<(aa x:Int)) (a8 (nth x a) λb=>a8 (EE b) λc=>cond (!decide (c=0)) (Z U) (d (ek (a+1)))) (Z Y)) 0
def HX:ByteArray->dv Int:=λx=>cond (x.toList==(bU #[]).toList) (Z 14) (cond ((40:Int)<x.size) (Z 3) (a8 (HJ x) λa=>cond (!decide (a.2=0)) (Z a.2) (cond ((aa a.1:Int)=0) (Z 14) (a8 (HF a.1) λc=>cond c (Z 14) (a8 (HE a.1) λb=>cond b (Z 14) (Z 0))))))
def EW:eD×Int->dv Bool:=λx=>rounds (λc a=>cond (a<(aa x.1:Int)) (a8 (nth x.1 a) λb=>cond (b=x.2) (Z Y) (c (ek (a+1)))) (Z U)) 0
def HA:yb×Int×Int->dv Bool:=λx=>cond (x.2.1=1) (a8 (AR (x.1,x.2.2)) λb=>Z b.2) (cond (x.2.1=2) (a8 (AX (x.1,x.2.2)) λa=>Z a.2) (a8 (EW (x.1.2.2,x.2.2)) λa=>Z a))
def Ez:yb×AL->dv Bool:=λx=>rounds (λe d=>cond (d<(aa x.2.2.2.2.2:Int)) (a8 (wj x.2.2.1) λa=>a8 (nth x.2.2.2.2.2 d) λb=>a8 (HA (x.1,a,b)) λc=>cond (!c) (Z U) (e (ek (d+1)))) (Z Y)) 0
def wi:BX×AL×Int->dv Bool:=λx=>cond (x.2.2=3) (Z (No ((64:Int)<x.2.1.2.2.2.2.length))) (cond (x.2.2=10) (a8 (Ex x.2.1.2.2.2.2) λb=>Z (!b)) (cond (x.2.2=2) (cond (x.2.1.1<1) (Z Y) (cond (1073741824<x.2.1.1) (Z Y) (cond (x.2.1.2.2.1<1) (Z Y) (Z (No (9<x.2.1.2.2.1)))))) (cond (x.2.2=9) (a8 (wj x.2.1.2.1) λc=>Z (No (c=0))) (cond (x.2.2=14) (cond (!(x.2.1.2.2.2.1.toList==(bU #[]).toList)) (a8 (HX x.2.1.2.2.2.1) λa=>Z (!decide (a=0))) (Z U)) (cond (x.2.2=1) (cond ((aa x.2.1.2.2.2.2:Int)=0) (Z Y) (a8 (wj x.2.1.2.1) λd=>cond (d=1) (Z (No ((1:Int)<x.2.1.2.2.2.2.length))) (Z U))) (a8 (Ez ((x.1.1,x.1.2.1,x.1.2.2.1),x.2.1)) λa=>Z (!a)))))))
def xk:BX×Int->dv Bool:=λx=>rounds (λd b=>cond (b<(aa x.1.2.2.2:Int)) (a8 (nth x.1.2.2.2 b) λc=>a8 (wi (x.1,c,x.2)) λa=>cond a (Z Y) (d (ek (b+1)))) (Z U)) 0
def EL:AL×AL->dv Bool:=λx=>a8 (wj x.1.2.1) λb=>cond (b=2) (Z U) (a8 (wj x.1.2.1) λc=>a8 (wj x.2.2.1) λd=>cond (!decide (c=d)) (Z U) (a8 (wj x.1.2.1) λe=>let i:=(rounds (λh a=>cond (a<(aa x.1.2.2.2.2:Int)) (a8 (nth x.1.2.2.2.2 a) λf=>a8 (EW (x.2.2.2.2.2,f)) λg=>cond g (Z Y) (h (ek (a+1)))) (Z U)) 0); bif No (e=3)then(cond (!decide (x.1.2.1=x.2.2.1)) (Z U) (i))else(i)))
def H8:BX->dv Bool:=λx=>rounds (λf d=>cond (d<(aa x.2.2.2:Int)) (rounds (λg e=>cond (e<d) (a8 (nth x.2.2.2 d) λa=>a8 (nth x.2.2.2 e) λb=>a8 (EL (a,b)) λc=>cond c (Z Y) (g (ek (e+1)))) (f (ek (d+1)))) 0) (Z U)) 0
def HU:BX->dv Int:=λx=>a8 (EO (x.1,x.2.1,x.2.2.1)) λc=>cond (!decide (c=0)) (Z c) (cond ((128:Int)<x.2.2.2.length) (Z 3) (rounds (λl d=>cond (d.2<(aa x.2.2.2:Int)) (a8 (nth x.2.2.2 d.2) λa=>a8 (j6 8 d.1 [a.1]) λb=>l (b,ek (d.2+1))) (a8 (xk (x,3)) λa=>cond a (Z 3) (a8 (xk (x,10)) λe=>cond e (Z 10) (a8 (Ex d.1) λf=>cond (!f) (Z 10) (a8 (xk (x,2)) λg=>cond g (Z 2) (a8 (xk (x,9)) λb=>cond b (Z 9) (a8 (xk (x,14)) λh=>cond h (Z 14) (a8 (xk (x,1)) λi=>cond i (Z 1) (a8 (xk (x,7)) λj=>cond j (Z 7) (a8 (H8 x) λk=>cond k (Z 13) (Z 0))))))))))) ([],0)))
def DW:Int×Int->dv Int:=λx=>rounds (α:=Int×Int) (β:=Int) (λc a=>cond ((0:Int)<a.2) (a8 ((cond (a.2=0) W <|some (a.1.tmod a.2))) λb=>c (a.2,b)) (Z a.1)) (x.1,x.2)
def Hx:Int×Int->dv Int:=λx=>rounds (α:=b9) (β:=Int) (λj d=>cond ((0:Int)<d.2.2) (a8 (Z (ek ((2:Int)*d.1))) λe=>a8 (Z (ek ((2:Int)*d.2.1))) λc=>cond (!decide ((ek (aW du.bits x.1 &&& aW du.bits d.2.2).toNat)=(0:Int))) (a8 ((cond (x.2=0) W <|some (ek (x.1.tdiv x.2)))) λb=>a8 ((cond (x.2=0) W <|some (x.1.tmod x.2))) λa=>a8 ((cond (x.2=0) W <|some (ek ((ek (c+a)).tdiv x.2)))) λf=>a8 ((cond (x.2=0) W <|some ((ek (c+a)).tmod x.2))) λg=>a8 ((cond ((2:Int)=0) W <|some (ek (d.2.2.tdiv (2:Int))))) λh=>j ((ek ((ek (e+b))+f)),g,h)) (a8 ((cond (x.2=0) W <|some (ek (c.tdiv x.2)))) λb=>a8 ((cond (x.2=0) W <|some (c.tmod x.2))) λa=>a8 ((cond ((2:Int)=0) W <|some (ek (d.2.2.tdiv (2:Int))))) λi=>j ((ek (e+b)),a,i))) (Z d.1)) ((0:Int),(0:Int),(70368744177664:Int))
def F1:bs×bs×bs->dv (bs):=λx=>a8 (Z ()) λl=>a8 (CV [(x.1.1,x.1.2),(x.2.1.1,x.2.1.2),(x.2.2.1,x.2.2.2)]) λl=>cond (!(l)) (Z ((0:Int),(0:Int))) (a8 (Ic ((x.1.1,x.1.2),(x.2.1.1,x.2.1.2),(x.1.1,x.1.2),(x.2.1.1,x.2.1.2))) λh=>a8 (Ic ((x.1.1,x.1.2),(x.2.1.1,x.2.1.2),(x.1.1,x.1.2),(x.2.2.1,x.2.2.2))) λm=>cond (m<=(0:Int)) (a8 (Ic ((x.1.1,x.1.2),(x.2.2.1,x.2.2.2),(x.1.1,x.1.2),(x.2.2.1,x.2.2.2))) λn=>Z (n,(1:Int))) (cond (h<=m) (a8 (Ic ((x.2.1.1,x.2.1.2),(x.2.2.1,x.2.2.2),(x.2.1.1,x.2.1.2),(x.2.2.1,x.2.2.2))) λa=>Z (a,(1:Int))) (a8 (we ((x.1.1,x.1.2),(x.2.1.1,x.2.1.2),(x.1.1,x.1.2),(x.2.2.1,x.2.2.2))) λa=>cond (a<(0:Int)) (a8 (Z (ek (0-a))) λd=>cond (d=(0:Int)) (Z ((0:Int),(1:Int))) (a8 (DW (d,h)) λb=>a8 ((cond (b=0) W <|some (ek (h.tdiv b)))) λe=>a8 (DW (d,e)) λc=>a8 ((cond (b=0) W <|some (ek (d.tdiv b)))) λf=>a8 ((cond (c=0) W <|some (ek (d.tdiv c)))) λi=>a8 ((cond (b=0) W <|some (ek (h.tdiv b)))) λj=>a8 ((cond (c=0) W <|some (ek (j.tdiv c)))) λk=>a8 ((cond (i=0) W <|some (ek ((9223372036854775807:Int).tdiv i)))) λo=>cond (o<f) (a8 (Hx (d,h)) λp=>Z (p,(1:Int))) (Z ((ek (f*i)),k)))) (cond (a=(0:Int)) (Z ((0:Int),(1:Int))) (a8 (DW (a,h)) λg=>
 a8 ((cond (g=0) W <|some (ek (h.tdiv g)))) λb=>a8 (DW (a,b)) λe=>a8 ((cond (g=0) W <|some (ek (a.tdiv g)))) λc=>a8 ((cond (e=0) W <|some (ek (a.tdiv e)))) λf=>a8 ((cond (g=0) W <|some (ek (h.tdiv g)))) λi=>a8 ((cond (e=0) W <|some (ek (i.tdiv e)))) λj=>a8 ((cond (f=0) W <|some (ek ((9223372036854775807:Int).tdiv f)))) λk=>cond (k<c) (a8 (Hx (a,h)) λq=>Z (q,(1:Int))) (Z ((ek (c*f)),j)))))))
def DP:Int->dv Int:=λx=>cond (x<(0:Int)) (Z (an ak (0-(an ak x)))) (Z (an ak x))
def NT:Int×Int->dv ((Int×Int×Bool)):=λx=>a8 (DP x.1) λe=>a8 (DP x.2) λc=>a8 ((cond (c=0) W <|some (an ak (e.tdiv c)))) λa=>a8 (DP x.1) λf=>a8 (DP x.2) λd=>a8 ((cond (d=0) W <|some (f.tmod d))) λb=>cond (x.1<(0:Int)) (cond ((0:Int)<x.2) (Z (a,b,Y)) (cond ((0:Int)<x.1) (Z (a,b,(No (x.2<(0:Int))))) (Z (a,b,U)))) (cond ((0:Int)<x.1) (Z (a,b,(No (x.2<(0:Int))))) (Z (a,b,U)))
def Ji:Bool×Int->dv (bs):=λx=>cond ((9223372036854775808:Int)<x.2) (Z ((0:Int),(15:Int))) (cond (x.2=(9223372036854775808:Int)) (cond (!(x.1)) (Z ((0:Int),(15:Int))) (cond x.1 (Z ((ek (an ak (0-x.2))),(0:Int))) (Z ((ek x.2),(0:Int))))) (cond x.1 (Z ((ek (an ak (0-x.2))),(0:Int))) (Z ((ek x.2),(0:Int)))))
def J_:Int×Int->dv (bs):=λx=>cond (x.2=(0:Int)) (Z ((0:Int),(21:Int))) (a8 (NT (x.1,x.2)) λa=>cond a.2.2 (cond ((0:Int)<a.2.1) (a8 (Ji (Y,(an ak (a.1+(1:Int))))) λb=>Z (b.1,b.2)) (a8 (Ji (Y,a.1)) λc=>Z (c.1,c.2))) (a8 (Ji (U,a.1)) λd=>Z (d.1,d.2)))
end
end Go.Ab
namespace Go.Ab
noncomputable section
open Go
variable {S:Type}{i:Nat}{α:Type}{rest:cu α}{x:α}{xs:cu α}{β:Type}
@[simp] theorem bT  (a:α) (f:α->dv β):a8 (Z a) f=f a:=rfl
@[simp] theorem cf2  (f:α->dv β):a8 W f=W:=rfl
theorem zV:2^100<=many:=Classical.choose_spec (⟨2^100,ay _⟩:∃n:Nat,2^100<=n)
theorem aL7:1000000000<=many:=bD (by decide) zV
theorem RN{F:(α->dv β)->α->dv β}(I:α->Prop)(a:α->Nat)(P:α->dv β->Prop)(h:∀rec x,I x->(∀y,I y->a y<a x->P y (rec y))->P x (F rec x)):∀(n:Nat) (x:α),I x->a x<n->P x (iter F n x)
 | 0,x,_,hm=>b8 hm (Nat.not_lt_zero _)
 |n+1,x,a7,hm=>h _ x a7 λy b c=>RN I a P h n y b (by omega)
theorem bI2{F:(α->dv β)->α->dv β}(I:α->Prop)(a:α->Nat)(P:α->dv β->Prop)(h:∀rec x,I x->(∀y,I y->a y<a x->P y (rec y))->P x (F rec x))(b:I x)(hm:a x<2^100):P x (rounds F x):=RN I a P h many x b (gH hm zV)
theorem V5{F:(α->dv β)->α->dv β}(I:α->Prop)(a:α->Nat)(P:dv β->Prop)(h:∀rec x,I x->(∀y,I y->a y<a x->P (rec y))->P (F rec x))(b:I x)(hm:a x<2^100):P (rounds F x):=bI2 I a (λ_=>P) h b hm
theorem Fq{F:(α->dv β)->α->dv β}(I:α->Prop)(a:α->Nat)(g:α->dv β)(h:∀rec x,I x->(∀y,I y->a y<a x->rec y=g y)->F rec x=g x)(b:I x)(hm:a x<2^100):rounds F x=g x:=bI2 I a (λx o=>o=g x) h b hm
theorem Dh{F:(α->dv β)->α->dv β}{v:dv β}(h:∀rec,F rec x=v):rounds F x=v :=Fq (·=x) (λ_=>0) (λ_=>v) (λrec y a _=>by rw[a];exact h rec) rfl (by omega)
theorem PB{A:Type}(xs:cu α){F:(S->dv β)->S->dv β}(st:Nat->A->S)(P:A->cu α->dv β->Prop)(I:Nat->A->Prop)(hl:aa xs<2^100)
  (c:∀rec a,I (aa xs) a->P a [] (F rec (st (aa xs) a))) (b:∀rec i a x rest,i<aa xs->I i a->xs.drop i=x::rest->(∀d,I (i+1) d->P d rest (rec (st (i+1) d)))->P a (x::rest) (F rec (st i a))) (a:A) (ha:I 0 a):P a xs (rounds F (st 0 a)):=by
 have key:∀(k i n:Nat) (a:A),i<=aa xs->k=aa xs-i->k<n->I i a->P a (xs.drop i) (iter F n (st i a)):=by
  intro k
  induction k with
  |zero=>
   intro i n a a7 hk h f;have:i=aa xs:=by omega
   subst this;cases n;omega;rename_i n;rw[gX];exact c _ a f
  |succ k j=>
   intro i n a a7 hk h f;cases n;omega;rename_i n;have e:i<aa xs:=by omega
   have hd:xs.drop i=xs[i]::xs.drop (i+1):=bJ e;rw[hd];exact b _ i a xs[i] _ e f hd λd g=>j (i+1) n d (by omega) (by omega) (by omega) g
 have:=key (aa xs) 0 many a (di _) (by omega) (gH hl zV) ha;rw[List.drop_zero]at this;exact this
theorem mP{A:Type}(xs:cu α){F:(S->dv β)->S->dv β}(st:Nat->A->S)(g:A->cu α->dv β)(hl:aa xs<2^100)
  (c:∀rec a,F rec (st (aa xs) a)=g a []) (b:∀rec i a x rest,i<aa xs->xs.drop i=x::rest->(∀d,rec (st (i+1) d)=g d rest)->F rec (st i a)=g a (x::rest)) (a:A):rounds F (st 0 a)=g a xs:=PB xs st (λa r o=>o=g a r) (λ_ _=>True) hl (λrec a _=>c rec a) (λrec i a x rest a7 _ hd e=>b rec i a x rest a7 hd λd=>e d trivial) a trivial
theorem vF{A:Type}(xs:cu α){F:(S->dv β)->S->dv β}(st:Nat->A->S)(g:A->cu α->dv β)(I:Nat->A->Prop)(hl:aa xs<2^100)
  (c:∀rec a,I (aa xs) a->F rec (st (aa xs) a)=g a []) (b:∀rec i a x rest,i<aa xs->I i a->xs.drop i=x::rest->(∀d,I (i+1) d->rec (st (i+1) d)=g d rest)->F rec (st i a)=g a (x::rest)) (a:A) (ha:I 0 a):rounds F (st 0 a)=g a xs:=PB xs st (λa r o=>o=g a r) I hl c b a ha
theorem vB{A:Type}(xs:cu α){F:(S->dv β)->S->dv β}(st:Nat->A->S)(P:dv β->Prop)(I:Nat->A->Prop)(hl:aa xs<2^100)
  (c:∀rec a,I (aa xs) a->P (F rec (st (aa xs) a))) (b:∀rec i a x rest,i<aa xs->I i a->xs.drop i=x::rest->(∀d,I (i+1) d->P (rec (st (i+1) d)))->P (F rec (st i a))) (a:A) (ha:I 0 a):P (rounds F (st 0 a)):=PB xs st (λ_ _=>P) I hl c b a ha
theorem zB(xs:cu α)(i:Nat):nth xs (i:Int)=xs[i]?:=by unfold nth;simp
theorem oU(h:xs.drop i=x::rest):xs[i]?=Z x:=by grind[gg,eA]
theorem fm(h:xs.drop i=x::rest):nth xs (i:Int)=Z x:=by grind[zB,gg,eA]
theorem aD4{i:Int}(a:0<=i):nth xs i=xs[i.toNat]?:=by unfold nth;simp[a]
theorem fx{n:Int}(h1:-9223372036854775808<=n:=by omega)(h2:n<=9223372036854775807:=by omega):ek n=n:=IntWalk.i64_in n ⟨h1,h2⟩
theorem m9{b:Nat}{ys:cu α}(a:b<=1000:=by omega)(h:aa xs+aa ys<=1000000000:=by first|omega| (simp;omega)):j6 b xs ys=Z (xs++ys):=by
 unfold j6;have h1:(2*(aa xs+aa ys)+1000)*b<=2^48:=by have:(2*(aa xs+aa ys)+1000)*b<=(2*1000000000+1000)*1000:=Nat.mul_le_mul (by omega) a;omega
 grind
theorem N0(h:i<=aa xs):tx xs W (Z (i:Int))=Z (xs.take i):=by unfold tx yi;simp[h]
theorem af1{i:Int}(a:0<=i)(h:i<=aa xs):tx xs (Z i) W=Z (xs.drop i.toNat):=by unfold tx yi;simp[a,h]
open Go Go.Sort Go.Proofs Go.Shelf
variable {α:Type}{cf:α->α->Int}{l:cu α}{r:α}
theorem z1(i:Nat):nV r (r::l) i∈r::l:=by
 unfold nV
 grind
theorem IW(cf:α->α->Int)(r:α)(l:cu α):oy cf (r::l)=((pdq (ltOf (λi j=>cf (nV r (r::l) i) (nV r (r::l) j))) (bA (aa (r::l))) 0 (aa (r::l)) (eK (aa (r::l))) Y Y).toList).map (nV r (r::l)):=rfl
theorem bJ8(cf:α->α->Int)(r:α)(l:cu α):Ordered cf (r::l)=SWO (ltOf (λi j=>cf (nV r (r::l) i) (nV r (r::l) j))):=rfl
theorem av3(hO:Ordered cf (r::l)) :
  PermIn 0 (aa (r::l)) (bA (aa (r::l))) (pdq (ltOf (λi j=>cf (nV r (r::l) i) (nV r (r::l) j))) (bA (aa (r::l))) 0 (aa (r::l)) (eK (aa (r::l))) Y Y)/\SortedIn (ltOf (λi j=>cf (nV r (r::l) i) (nV r (r::l) j))) 0 (aa (r::l)) (pdq (ltOf (λi j=>cf (nV r (r::l) i) (nV r (r::l) j))) (bA (aa (r::l))) 0 (aa (r::l)) (eK (aa (r::l))) Y Y) :=
 pdq_sorts _ hO (bA (aa (r::l))) 0 (aa (r::l)) (eK (aa (r::l))) Y Y (di _) (by simp) (Or.inl rfl)
theorem tG:∀ {xs:cu α},Ordered cf xs->(oy cf xs).Perm xs
 | [],_=>kp _
 |r::l,hO=>by
  let ⟨⟨h1,_,b⟩,_⟩:=av3 hO;rw[IW];generalize hes:r::l=es at *;generalize pdq (α:=Nat) _ _ _ _ _ _ _=d at *;have c:d.extract 0 (aa es)=d:=by grind
  have e:(bA (aa es)).extract 0 (aa es)=bA (aa es):=by grind
  rw[c,e]at b;refine(b.map (nV r es)).trans ?_;have:(bA (aa es)).toList.map (nV r es)=es:=by
   apply dU;intro k;rw[aS];by_cases hk:k<aa es;have a:(bA (aa es)).toList[k]?=Z k:=by simp[hk]
   rw[a];simp[nV,hk]
   grind
  rw[this]
theorem Da:∀ {xs:cu α},Ordered cf xs->(oy cf xs).Pairwise (λa b=>¬cf b a<0)
 | [],_=>jY
 |r::l,hO=>by
  let ⟨⟨h1,_,_⟩,hs⟩:=av3 hO;rw[IW];generalize hes:r::l=es at *;generalize pdq (α:=Nat) _ _ _ _ _ _ _=d at *;rw[List.pairwise_map];rw[List.pairwise_iff_getElem];intro i j a7 hj c;have e:d.size=aa es:=by simpa using h1
  have f:i<d.size:=by simpa using a7
  have g:j<d.size:=by simpa using hj
  have:=hs i j (di _) c (by omega)
  grind[ltOf,decide_eq_false_iff_not]
theorem IX:∀ {xs:cu α},(∀x∈xs,¬cf x x<0)->(∀x∈xs,∀y∈xs,∀z∈xs,cf x y<0->cf y z<0->cf x z<0)->(∀x∈xs,∀y∈xs,∀z∈xs,¬cf x y<0->¬cf y z<0->¬cf x z<0)->Ordered cf xs
 | [],_,_,_=>trivial
 |r::l,h1,h2,c=>by
  refine⟨λi=>?_,λi j k a b=>?_,λi j k a b=>?_⟩
  grind[ltOf,decide_eq_false_iff_not,z1]
  grind[ltOf,z1]
  grind[ltOf,decide_eq_false_iff_not,z1]
theorem Jw{cmp:α->α->dv Int}{xs:cu α}(hc:∀x∈xs,∀y∈xs,cmp x y=Z (cf x y))(hO:Ordered cf xs)(hl:aa xs<4611686018427387904):rE cmp xs=Z (oy cf xs):=by
 have f:∀x∈xs,∀y∈xs,(cmp x y).getD 0=cf x y:=λx a y b=>by rw[hc x a y b];rfl
 have d:∀(r:α) (l:cu α),xs=r::l->(λi j=>(cmp (nV r (r::l) i) (nV r (r::l) j)).getD 0)=(λi j=>cf (nV r (r::l) i) (nV r (r::l) j)):=λr l e=>by grind[z1]
 have c:Ordered (λx y=>(cmp x y).getD 0) xs:=by
  cases xs;trivial;rename_i r l
  grind[bJ8]
 rw[aN0 (λx a y b=>by rw[hc x a y b];rfl) c hl];cases xs;rfl;rename_i r l
 grind[IW]
variable [Fuel]
def Lo:eY->dv ((Int×b9)):=λx=>cond ((aa (x):Int)=(0:Int)) (Z ((0:Int),(0:Int),(-1:Int),(-1:Int))) (a8 (nth x (0:Int)) λf=>a8 (nth x (0:Int)) λg=>a8 (nth x (0:Int)) λh=>a8 (nth x (0:Int)) λi=>rounds (α:=Int×Int×b9) (β:=(Int×b9)) (λj a=>cond (a.1<(aa (x):Int)) (a8 (nth x a.1) λb=>a8 (nth x a.1) λc=>a8 (nth x a.1) λd=>a8 (nth x a.1) λe=>j ((ek (a.1+(1:Int))),(bf w6 a.2.1 [b.1]),(bf w6 a.2.2.1 [c.2]),(bf qG a.2.2.2.1 [d.1]),(bf qG a.2.2.2.2 [e.2]))) (Z a.2)) ((1:Int),f.1,g.2,h.1,i.2))
def MK:yb->dv Bool:=λx=>cond ((30:Int)<(aa (x.1):Int)) (Z U) (cond ((30:Int)<(aa (x.2.1):Int)) (Z U) (cond ((30:Int)<(aa (x.2.2):Int)) (Z U) (rounds (α:=eY×Int) (β:=Bool) (λj c=>cond (c.2<(aa (x.1):Int)) (a8 (nth x.1 c.2) λd=>a8 (j6 16 c.1 [d.2]) λe=>j (e,(ek (c.2+(1:Int))))) (rounds (α:=eY×Int) (β:=Bool) (λi b=>cond (b.2<(aa (x.2.1):Int)) (a8 (nth x.2.1 b.2) λf=>cond ((180:Int)<(ek ((aa (b.1):Int)+(aa (f.2.2.2.1):Int)))) (Z U) (a8 (nth x.2.1 b.2) λg=>a8 (j6 16 b.1 g.2.2.2.1) λh=>i (h,(ek (b.2+(1:Int)))))) (a8 (Lo b.1) λa=>cond ((-1073741824:Int)<=a.1) (cond ((-1073741824:Int)<=a.2.1) (cond (a.2.2.1<=(1073741824:Int)) (cond (a.2.2.2<=(1073741824:Int)) (cond ((ek (a.2.2.1-a.1))<=(3000:Int)) (Z (No ((ek (a.2.2.2-a.2.1))<=(3000:Int)))) (Z U)) (Z U)) (Z U)) (Z U)) (Z U))) (c.1,(0:Int)))) (([]:eY),(0:Int)))))
def Nn:BX->dv Bool:=λx=>a8 (MK (x.1,x.2.1,x.2.2.1)) λd=>cond (!(d)) (Z U) (cond ((20:Int)<(aa (x.2.2.2):Int)) (Z U) (rounds (α:=Int) (β:=Bool) (λe c=>cond (c<(aa (x.2.2.2):Int)) (a8 (nth x.2.2.2 c) λa=>cond ((40:Int)<(aa (a.2.2.2.2):Int)) (Z U) (a8 (nth x.2.2.2 c) λb=>cond ((100:Int)<((b.2.2.2.1).size:Int)) (Z U) (e (ek (c+(1:Int)))))) (Z Y)) (0:Int)))
def Ri:Unit->dv ((Int×Int×Int×b9)):=λx=>Z ((1:Int),(9:Int),(0:Int),(0:Int),(0:Int),(128:Int))
def Ro:Unit->dv BX:=λx=>Z ([((1:Int),(0:Int),(0:Int)),((2:Int),(1:Int),(1:Int))],([]:hI),([]:eD),[((7:Int),(1:Int),(1:Int),(bU #[]),[(1:Int)]),((8:Int),(1:Int),(1:Int),(bU #[]),[(2:Int)])])
def xW:b9->dv Bool:=λx=>cond (x.2.1<=x.1) (Z (No (x.1<=x.2.2))) (Z U)
def pM:(Int×Int×Int×b9)->dv Int:=λx=>a8 (xW (x.1,(1:Int),(1073741824:Int))) λe=>cond (!(e)) (Z (2:Int)) (a8 (xW (x.2.1,(1:Int),(9:Int))) λf=>cond (!(f)) (Z (2:Int)) (a8 (xW (x.2.2.1,(0:Int),(4398046511104:Int))) λa=>cond (!(a)) (Z (2:Int)) (a8 (xW (x.2.2.2.1,(0:Int),(4398046511104:Int))) λb=>cond (!(b)) (Z (2:Int)) (a8 (xW (x.2.2.2.2.1,(0:Int),(64:Int))) λc=>cond (!(c)) (Z (2:Int)) (a8 (xW (x.2.2.2.2.2,(0:Int),(128:Int))) λd=>cond (!(d)) (Z (2:Int)) (Z (0:Int)))))))
def OU:BX×Int->dv ((AL×Bool)):=λx=>rounds (α:=Int) (β:=(AL×Bool)) (λd c=>cond (c<(aa (x.1.2.2.2):Int)) (a8 (nth x.1.2.2.2 c) λa=>cond (a.1=x.2) (a8 (xp a.2.2.2.2) λb=>Z ((a.1,a.2.1,a.2.2.1,a.2.2.2.1,b),Y)) (d (ek (c+(1:Int))))) (Z (((0:Int),(0:Int),(0:Int),(bU #[]),([]:eD)),U))) (0:Int)
def H2:BX×Int->dv Int:=λx=>a8 (OU x) λe=>cond (!(e.2)) (Z (0:Int)) (a8 (wv e.1.2.1) λh=>cond (!decide (h=(3:Int))) (Z (0:Int)) (a8 (IV (x.1.1,x.1.2.1,x.1.2.2.1)) λi=>cond (!decide (i=(0:Int))) (Z (0:Int)) (rounds (α:=Int×Int) (β:=Int) (λg a=>cond (a.2<(aa (x.1.2.1):Int)) (a8 (nth x.1.2.1 a.2) λd=>a8 (wo (e.1.2.2.2.2,d.2.2.2.2.1)) λj=>a8 (wo (e.1.2.2.2.2,d.2.2.2.2.2)) λf=>cond (j==f) (g (a.1,(ek (a.2+(1:Int))))) (a8 (wE ((x.1.1,x.1.2.1,x.1.2.2.1),d.1)) λc=>rounds (α:=Int×Int) (β:=Int) (λo b=>cond (b.2<(aa (c.1):Int)) (a8 (nth c.1 (ek (b.2-(1:Int)))) λk=>a8 (nth c.1 b.2) λl=>a8 (nth c.1 b.2) λm=>a8 (nth c.1 (ek (b.2-(1:Int)))) λn=>o ((ek (b.1+(ek ((ek (k.1*l.2))-(ek (m.1*n.2)))))),(ek (b.2+(1:Int))))) (cond f (g ((ek (a.1+(ek (0-b.1)))),(ek (a.2+(1:Int))))) (g ((ek (a.1+b.1)),(ek (a.2+(1:Int))))))) ((0:Int),(1:Int)))) (Z a.1)) ((0:Int),(0:Int)))))
def AS:bs->dv Bool:=λx=>a8 (DH (((-1048576:Int),(-1048576:Int),(1048576:Int),(1048576:Int)),x)) λa=>Z a
def NB:ct×ct->dv Bool:=λx=>let a:=(cond (x.1.2.1=x.2.2.2.1) (cond (!decide (x.1.1=x.2.1)) (cond ((aa (x.1.2.2.2.1):Int)=(0:Int)) (Z (No (x.1.2.2.1=x.2.2.1))) (Z U)) (Z U)) (cond (!decide (x.1.1=x.2.1)) (cond ((aa (x.1.2.2.2.1):Int)=(0:Int)) (Z U) (Z U)) (Z U))); bif No (x.1.2.1=x.2.2.1)then(cond (x.1.2.2.1=x.2.2.2.1) (cond (!decide (x.1.1=x.2.1)) (cond ((aa (x.1.2.2.2.1):Int)=(0:Int)) (Z Y) (Z U)) (Z U)) (a))else(a)
def Rf:hI×ct->dv Bool:=λx=>rounds (α:=Int) (β:=Bool) (λd c=>cond (c<(aa (x.1):Int)) (a8 (nth x.1 c) λa=>a8 (NB (a,x.2)) λb=>cond b (Z (No ((0:Int)<=c))) (d (ek (c+(1:Int))))) (Z U)) (0:Int)
def HV:yb×ct->dv Bool:=λx=>a8 (Rf (x.1.2.1,x.2)) λa=>Z a
def Jf(a b c p:Int×Int)(s:Int)(go:dv Bool):dv Bool :=
 cond (!(p.1=a.1&&p.2=a.2)) (
 cond (!(p.1=b.1&&p.2=b.2)) (
 cond (!(p.1=c.1&&p.2=c.2)) (
 a8 (DH ((bf w6 a.1 [b.1,c.1],bf w6 a.2 [b.2,c.2],bf qG a.1 [b.1,c.1],bf qG a.2 [b.2,c.2]),p)) λe=>
 cond (!e) (go) (
 cond (s=(0:Int)) (
 a8 (qV (a,b,p)) λd=>
 cond d (Z U) (
 a8 (qV (b,c,p)) λf=>
 cond f (Z U) (
 a8 (qV (c,a,p)) λg=>
 cond g (Z U) (go)))) (
 a8 (qR (a,b,p)) λd=>
 cond ((0:Int)<=ek (s*d)) (
 a8 (qR (b,c,p)) λh=>
 cond ((0:Int)<=ek (s*h)) (
 a8 (qR (c,a,p)) λi=>
 cond ((0:Int)<=ek (s*i)) (Z U) (go)) (go)) (go)))) (go)) (go)) (go)
def Q1(al:gp)(ag:hI)(a b c:Int×Int):dv Bool :=
 a8 (qR (a,b,c)) λs=>
 rounds (α:=Int) (β:=Bool) (λk x=>
 cond (x<(aa al:Int)) (
 a8 (nth al x) λv=>
 Jf a b c v.2 s (k (ek (x+(1:Int))))) (
 rounds (α:=Int) (β:=Bool) (λk x=>
 cond (x<(aa ag:Int)) (
 a8 (nth ag x) λw=>
 rounds (α:=Int) (β:=Bool) (λd y=>
 cond (y<(aa w.2.2.2.1:Int)) (
 a8 (nth w.2.2.2.1 y) λv=>
 Jf a b c v s (d (ek (y+(1:Int))))) (
 k (ek (x+(1:Int))))) (0:Int)) (
 Z Y)) (0:Int))) (0:Int)
def OM:yb×ct×eY×Int->dv Bool:=λx=>a8 (nth x.2.2.1 x.2.2.2) λa=>a8 (nth x.2.2.1 (ek (x.2.2.2+(1:Int)))) λb=>a8 (nth x.2.2.1 (ek (x.2.2.2+(2:Int)))) λc=>a8 (AS a) λd=>cond (!(d)) (Z U) (a8 (AS b) λe=>cond (!(e)) (Z U) (a8 (AS c) λf=>cond (!(f)) (Z U) (let h:=(cond ((aa (x.2.1.2.2.2.1):Int)=(1:Int)) (a8 (HV (x.1,x.2.1)) λg=>cond g (Z U) (( Q1 x.1.1 x.1.2.1 a b c))) (( Q1 x.1.1 x.1.2.1 a b c))); bif No (x.2.1.2.1=x.2.1.2.2.1)then(cond ((aa (x.2.1.2.2.2.1):Int)<(3:Int)) (Z U) (h))else(h))))
def BE:yb×Int×Int->dv Bool:=λx=>a8 (BP (x.1,x.2.1)) λb=>cond (!(b.2)) (Z U) (cond (x.2.2<(0:Int)) (Z U) (cond ((aa (b.1.2.2.2.1):Int)<=x.2.2) (Z U) (a8 (wE (x.1,x.2.1)) λa=>cond (a.2=(0:Int)) (a8 (OM (x.1,b.1,a.1,x.2.2)) λc=>Z c) (Z U))))
def O1:Int×Int->dv Int:=λx=>cond (x.2=(0:Int)) (Z (21:Int)) (cond (x.1=(-9223372036854775808:Int)) (cond (x.2=(-1:Int)) (Z (15:Int)) (Z (0:Int))) (Z (0:Int)))
def Ir:Int×Int->dv bs:=λx=>a8 (O1 x) λb=>cond (!decide (b=(0:Int))) (Z ((0:Int),b)) (a8 ((cond (x.2=0) W <|some (ek (x.1.tdiv x.2)))) λa=>a8 ((cond (x.2=0) W <|some (x.1.tmod x.2))) λc=>cond (!decide (c=(0:Int))) (cond (!((No (c<(0:Int)))==(No (x.2<(0:Int))))) (Z ((ek (a-(1:Int))),(0:Int))) (Z (a,(0:Int)))) (Z (a,(0:Int))))
def N2:yb×Int×bs×Int->dv Int:=λx=>a8 (wE (x.1,x.2.1)) λc=>rounds (α:=Int×Int) (β:=Int) (λg a=>cond (a.1<(aa (c.1):Int)) (a8 (nth c.1 (ek (a.1-(1:Int)))) λd=>a8 (nth c.1 a.1) λe=>a8 (yw (d,e,x.2.2.1)) λf=>a8 (Ir f) λb=>cond (b.2=(0:Int)) (g ((ek (a.1+(1:Int))),(bf w6 a.2 [b.1]))) (g ((ek (a.1+(1:Int))),a.2))) (Z a.2)) ((1:Int),x.2.2.2)
def Rs:AL×ct->dv Bool:=λx=>a8 (wv x.1.2.1) λa=>cond (a=(2:Int)) (a8 (wo (x.1.2.2.2.2,x.2.1)) λb=>Z b) (cond (a=(3:Int)) (a8 (wo (x.1.2.2.2.2,x.2.2.2.2.2.1)) λc=>a8 (wo (x.1.2.2.2.2,x.2.2.2.2.2.2)) λd=>Z (!(c==d))) (Z U))
def LQ:Au×ct->dv Bool:=λx=>rounds (α:=Int) (β:=Bool) (λd c=>cond (c<(aa (x.1):Int)) (a8 (nth x.1 c) λa=>a8 (Rs (a,x.2)) λb=>cond b (Z (No ((0:Int)<=c))) (d (ek (c+(1:Int))))) (Z U)) (0:Int)
def NX:BX->dv eD:=λx=>rounds (α:=Int×eD) (β:=eD) (λe a=>cond (a.1<(aa (x.2.1):Int)) (a8 (nth x.2.1 a.1) λb=>a8 (LQ (x.2.2.2,b)) λc=>cond (!(c)) (a8 (j6 8 a.2 [b.1]) λd=>e ((ek (a.1+(1:Int))),d)) (e ((ek (a.1+(1:Int))),a.2))) (Z a.2)) ((0:Int),([]:eD))
def H0:BX->dv eD:=λx=>a8 (xr x) λa=>cond (!decide (a=(0:Int))) (Z ([]:eD)) (a8 (NX x) λb=>Z b)
def NS:eD->dv Int:=λx=>rounds (α:=Int) (β:=Int) (λc b=>cond (b<(aa (x):Int)) (a8 (nth x b) λa=>cond (!decide (a=(0:Int))) (Z a) (c (ek (b+(1:Int))))) (Z (0:Int))) (0:Int)
def HT:(Int×b9)×(Int×b9)->dv Int:=λx=>a8 (CG (x.1.1,x.2.1)) λc=>a8 (CG (x.1.2.1,x.2.2.1)) λd=>a8 (CG (x.1.2.2.1,x.2.2.2.1)) λa=>a8 (NS [c,d,a]) λb=>Z b
def Em:cu (Int×b9)×Int×(Unit)->dv (cu (Int×b9)):=λx=>cond (x.2.1=4) (rE (λa b=>HT (a,b)) x.1) W
def qH:BX×(Int×Int×Int×b9)->dv ((cu (Int×b9)×Int)):=λx=>a8 (pM x.2) λz=>cond (!decide (z=(0:Int))) (Z (([]:cu (Int×b9)),z)) (a8 (xr x.1) λB=>cond (!decide (B=(0:Int))) (Z (([]:cu (Int×b9)),B)) (rounds (α:=Int×cu (Int×b9)) (β:=(cu (Int×b9)×Int)) (λH h=>cond (h.1<(aa (x.1.2.2.2):Int)) (a8 (nth x.1.2.2.2 h.1) λs=>a8 (wv s.2.1) λa=>cond (!decide (a=(3:Int))) (H ((ek (h.1+(1:Int))),h.2)) (a8 (H2 (x.1,s.1)) λC=>cond (C<x.2.2.2.1) (a8 (j6 32 h.2 [((1:Int),s.1,(0:Int),(ek (x.2.2.2.1-C)))]) λN=>H ((ek (h.1+(1:Int))),N)) (H ((ek (h.1+(1:Int))),h.2)))) (rounds (α:=Int×cu (Int×b9)) (β:=(cu (Int×b9)×Int)) (λI i=>cond (i.1<(aa (x.1.2.1):Int)) (a8 (nth x.1.2.1 i.1) λa=>a8 (wE ((x.1.1,x.1.2.1,x.1.2.2.1),a.1)) λd=>cond (!decide (d.2=(0:Int))) (I ((ek (i.1+(1:Int))),i.2)) (rounds (α:=Int×Int) (β:=(cu (Int×b9)×Int)) (λJ c=>cond (c.1<(aa (a.2.2.2.1):Int)) (a8 (nth d.1 c.1) λO=>a8 (nth d.1 (ek (c.1+(1:Int)))) λP=>a8 (nth d.1 (ek (c.1+(2:Int)))) λp=>a8 (IZ (O,P,p)) λb=>a8 (Z (bf qG b [(ek (0-b))])) λk=>cond (k<c.2) (a8 (BE ((x.1.1,x.1.2.1,x.1.2.2.1),a.1,c.1)) λQ=>
 cond Q (J ((ek (c.1+(1:Int))),k)) (J ((ek (c.1+(1:Int))),c.2))) (J ((ek (c.1+(1:Int))),c.2))) (cond (c.2<x.2.2.2.2.1) (a8 (j6 32 i.2 [((2:Int),a.1,(0:Int),(ek (x.2.2.2.2.1-c.2)))]) λl=>I ((ek (i.1+(1:Int))),l)) (I ((ek (i.1+(1:Int))),i.2)))) ((0:Int),x.2.2.2.2.1))) (a8 (Z (ek (x.2.2.2.2.2.1*x.2.2.2.2.2.1))) λa=>rounds (α:=Int×gp) (β:=(cu (Int×b9)×Int)) (λR j=>cond (j.1<(aa (x.1.1):Int)) (a8 (nth x.1.1 j.1) λd=>a8 (Df ((x.1.1,x.1.2.1,x.1.2.2.1),d.1)) λS=>cond (S=(0:Int)) (a8 (j6 24 j.2 [d]) λe=>R ((ek (j.1+(1:Int))),e)) (R ((ek (j.1+(1:Int))),j.2))) (rounds (α:=Int×cu (Int×b9)) (β:=(cu (Int×b9)×Int)) (λK g=>cond (g.1<(aa (x.1.2.2.2):Int)) (a8 (nth x.1.2.2.2 g.1) λe=>a8 (wv e.2.1) λl=>cond (!decide (l=(1:Int))) (K ((ek (g.1+(1:Int))),g.2)) (a8 (nth e.2.2.2.2 (0:Int)) λzz42=>a8 (Df ((x.1.1,x.1.2.1,x.1.2.2.1),zz42)) λzz43=>cond ((0:Int)<zz43) (K ((ek (g.1+(1:Int))),g.2)) (a8 (nth e.2.2.2.2 (0:Int)) λzz45=>a8 (xt ((x.1.1,x.1.2.1,x.1.2.2.1),zz45)) λb=>rounds (α:=Int×cu (Int×b9)) (β:=(cu (Int×b9)×Int)) (λk51 o=>cond (o.1<(aa (x.1.2.1):Int)) (a8 (nth x.1.2.1 o.1) λq=>a8 (N2 ((x.1.1,x.1.2.1,x.1.2.2.1),q.1,b.1.2,a)) λD=>cond (D<a) (a8 (j6 32 o.2 [((3:Int),e.1,q.1,(ek (a-D)))]) λr=>
 k51 ((ek (o.1+(1:Int))),r)) (k51 ((ek (o.1+(1:Int))),o.2))) (rounds (α:=Int×cu (Int×b9)) (β:=(cu (Int×b9)×Int)) (λM f=>cond (f.1<(aa (j.2):Int)) (a8 ((cond (0<=f.1&&f.1<aa (j.2)) (Z ()) W)) λm=>a8 (((j.2)[(f.1).toNat]?).map (λx=>x)) λm=>a8 (Z (ek (m.2.1-b.1.2.1))) λE=>a8 (Z (ek (m.2.2-b.1.2.2))) λr=>a8 (Z (ek ((ek (E*E))+(ek (r*r))))) λG=>cond (!decide (m.1=b.1.1)) (cond (G<a) (a8 (j6 32 f.2 [((3:Int),e.1,(ek (0-m.1)),(ek (a-G)))]) λzz72=>M ((ek (f.1+(1:Int))),zz72)) (M ((ek (f.1+(1:Int))),f.2))) (M ((ek (f.1+(1:Int))),f.2))) (K ((ek (g.1+(1:Int))),f.2))) ((0:Int),o.2))) ((0:Int),g.2)))) (rounds (α:=Int×Int) (β:=(cu (Int×b9)×Int)) (λk36 n=>cond (n.1<(aa (x.1.2.2.2):Int)) (a8 (nth x.1.2.2.2 n.1) λl=>cond (x.2.2.1<l.2.2.1) (k36 ((ek (n.1+(1:Int))),(ek (n.2+(1:Int))))) (k36 ((ek (n.1+(1:Int))),n.2))) (a8 (Z (ek (n.2+(bf qG (ek ((ek ((aa (x.1.2.2.2):Int)-n.2))-x.2.2.2.2.2.2)) [(0:Int)])))) λp=>cond ((0:Int)<p) (a8 (j6 32 g.2 [((4:Int),(0:Int),(0:Int),(ek (p*(257:Int))))]) λzz47=>a8 (H0 x.1) λk=>rounds (α:=Int×cu (Int×b9)) (β:=(cu (Int×b9)×Int)) (λk50 t=>cond (t.1<(aa (k):Int)) (a8 (nth k t.1) λu=>a8 (j6 32 t.2 [((5:Int),u,(0:Int),(1:Int))]) λq=>
 k50 ((ek (t.1+(1:Int))),q)) (a8 (Em (t.2,(4:Int),())) λu=>Z (u,(0:Int)))) ((0:Int),zz47)) (a8 (H0 x.1) λb=>rounds (α:=Int×cu (Int×b9)) (β:=(cu (Int×b9)×Int)) (λk48 v=>cond (v.1<(aa (b):Int)) (a8 (nth b v.1) λw=>a8 (j6 32 v.2 [((5:Int),w,(0:Int),(1:Int))]) λzz53=>k48 ((ek (v.1+(1:Int))),zz53)) (a8 (Em (v.2,(4:Int),())) λw=>Z (w,(0:Int)))) ((0:Int),g.2)))) ((0:Int),(0:Int)))) ((0:Int),i.2))) ((0:Int),([]:gp)))) ((0:Int),h.2))) ((0:Int),([]:cu (Int×b9)))))
def HD:cu (Int×b9)×cu (Int×b9)->dv Bool:=λx=>cond (!decide ((aa (x.1):Int)=(aa (x.2):Int))) (Z U) (rounds (α:=Int) (β:=Bool) (λf d=>cond (d<(aa (x.1):Int)) (a8 (nth x.1 d) λe=>a8 (nth x.2 d) λc=>cond (!((λ(a b:Int×b9)=>(No (a.1=b.1)&&(No (a.2.1=b.2.1)&&(No (a.2.2.1=b.2.2.1)&&No (a.2.2.2=b.2.2.2))))) e c)) (Z U) (f (ek (d+(1:Int))))) (Z Y)) (0:Int))
def OX:cu (Int×b9)->dv Int:=λx=>rounds (α:=Int×Int) (β:=Int) (λd b=>cond (b.2<(aa (x):Int)) (a8 (nth x b.2) λc=>a8 (Z (bf qG c.2.2.2 [(0:Int)])) λa=>cond ((ek ((4611686018427387904:Int)-b.1))<a) (Z (4611686018427387904:Int)) (d ((ek (b.1+a)),(ek (b.2+(1:Int)))))) (Z b.1)) ((0:Int),(0:Int))
def RD:cu (Int×b9)×cu (Int×b9)->dv Bool:=λx=>a8 (OX x.2) λa=>a8 (OX x.1) λb=>Z (No (b<a))
def DT:Unit->dv Bool:=λx=>a8 (Ri ()) λa=>a8 (Ro ()) λk=>a8 (qH (k,(a.1,a.2.1,a.2.2.1,a.2.2.2.1,(2:Int),a.2.2.2.2.2))) λb=>a8 (Ro ()) λd=>a8 (Ri ()) λe=>a8 (qH (d,e)) λc=>cond (b.2=(0:Int)) (a8 (HD (b.1,[((3:Int),(7:Int),(-2:Int),(2:Int)),((3:Int),(8:Int),(-1:Int),(2:Int))])) λf=>cond f (cond (c.2=(0:Int)) (cond ((aa (c.1):Int)=(0:Int)) (a8 (pM (a.1,a.2.1,a.2.2.1,a.2.2.2.1,(65:Int),a.2.2.2.2.2)) λg=>cond (g=(2:Int)) (a8 (OX [((0:Int),(0:Int),(0:Int),(5:Int)),((0:Int),(0:Int),(0:Int),(-3:Int)),((0:Int),(0:Int),(0:Int),(2:Int))]) λh=>cond (h=(7:Int)) (a8 (RD (([]:cu (Int×b9)),b.1)) λi=>cond i (a8 (RD (b.1,b.1)) λj=>Z (!(j))) (Z U)) (Z U)) (Z U)) (Z U)) (Z U)) (Z U)) (Z U)
def xj:b9->dv Bool:=λx=>cond (x.2.1<=x.1) (Z (No (x.1<=x.2.2))) (Z U)
def LY:(Int×Int×Int×b9)->dv Int:=λx=>a8 (xj (x.1,(1:Int),(1073741824:Int))) λc=>cond c (a8 (xj (x.2.1,(1:Int),(9:Int))) λd=>cond d (a8 (xj (x.2.2.1,(0:Int),(4398046511104:Int))) λe=>cond e (a8 (xj (x.2.2.2.1,(0:Int),(4398046511104:Int))) λf=>cond f (a8 (xj (x.2.2.2.2.1,(0:Int),(64:Int))) λa=>cond a (a8 (xj (x.2.2.2.2.2,(0:Int),(128:Int))) λb=>cond b (Z (0:Int)) (Z (2:Int))) (Z (2:Int))) (Z (2:Int))) (Z (2:Int))) (Z (2:Int))) (Z (2:Int))
def Nu:BX×Int->dv ((AL×Bool)):=λx=>rounds (α:=Int) (β:=(AL×Bool)) (λe c=>cond (c<(aa (x.1.2.2.2):Int)) (a8 (nth x.1.2.2.2 c) λd=>cond (d.1=x.2) (a8 (nth x.1.2.2.2 c) λa=>a8 (j6 8 ([]:eD) a.2.2.2.2) λb=>Z ((a.1,a.2.1,a.2.2.1,a.2.2.2.1,b),Y)) (e (ek (c+(1:Int))))) (Z (((0:Int),(0:Int),(0:Int),(bU #[]),([]:eD)),U))) (0:Int)
def DV:eY->dv Int:=λx=>rounds (α:=Int×Int) (β:=Int) (λf a=>cond ((ek (a.2+(1:Int)))<(aa (x):Int)) (a8 (nth x a.2) λe=>a8 (nth x (ek (a.2+(1:Int)))) λb=>a8 (nth x (ek (a.2+(1:Int)))) λc=>a8 (nth x a.2) λd=>f ((ek ((ek (a.1+(ek (e.1*b.2))))-(ek (c.1*d.2)))),(ek (a.2+(1:Int))))) (Z a.1)) ((0:Int),(0:Int))
def HB:BX×Int->dv Int:=λx=>a8 (Nu x) λd=>cond (!(d.2)) (Z (0:Int)) (a8 (wj d.1.2.1) λh=>cond (!decide (h=(3:Int))) (Z (0:Int)) (a8 (EP (x.1.1,x.1.2.1,x.1.2.2.1)) λi=>cond (!decide (i=(0:Int))) (Z (0:Int)) (rounds (α:=Int×Int) (β:=Int) (λg a=>cond (a.1<(aa (x.1.2.1):Int)) (a8 (nth x.1.2.1 a.1) λb=>a8 (CU ((x.1.1,x.1.2.1,x.1.2.2.1),b.1)) λe=>a8 (EW (d.1.2.2.2.2,b.2.2.2.2.1)) λj=>cond j (a8 (DV e.1) λf=>a8 (Z (ek (a.2+f))) λc=>a8 (EW (d.1.2.2.2.2,b.2.2.2.2.2)) λk=>cond k (a8 (DV e.1) λl=>g ((ek (a.1+(1:Int))),(ek (c-l)))) (g ((ek (a.1+(1:Int))),c))) (a8 (EW (d.1.2.2.2.2,b.2.2.2.2.2)) λf=>cond f (a8 (DV e.1) λc=>g ((ek (a.1+(1:Int))),(ek (a.2-c)))) (g ((ek (a.1+(1:Int))),a.2)))) (Z a.2)) ((0:Int),(0:Int)))))
def Hf:BX×(Int×Int×Int×b9)->dv (cu (Int×b9)):=λx=>rounds (α:=Int×cu (Int×b9)) (β:=cu (Int×b9)) (λc a=>cond (a.1<(aa (x.1.2.2.2):Int)) (a8 (nth x.1.2.2.2 a.1) λb=>a8 (wj b.2.1) λd=>cond (d=(3:Int)) (a8 (HB (x.1,b.1)) λe=>cond (e<x.2.2.2.1) (a8 (HB (x.1,b.1)) λf=>a8 (j6 32 a.2 [((1:Int),b.1,(0:Int),(ek (x.2.2.2.1-f)))]) λg=>c ((ek (a.1+(1:Int))),g)) (c ((ek (a.1+(1:Int))),a.2))) (c ((ek (a.1+(1:Int))),a.2))) (Z a.2)) ((0:Int),([]:cu (Int×b9)))
def zx:bs×bs×bs->dv Int:=λx=>a8 (CV [x.1,x.2.1,x.2.2]) λa=>cond (!(a)) (Z (0:Int)) (a8 (we (x.1,x.2.1,x.1,x.2.2)) λb=>Z b)
def MX:yb×Int×Int->dv ((eY×Bool)):=λx=>a8 (AX (x.1,x.2.1)) λb=>a8 (CU (x.1,x.2.1)) λa=>cond (!(b.2)) (Z (([]:eY),U)) (cond (!decide (a.2=(0:Int))) (Z (([]:eY),U)) (cond (x.2.2<(0:Int)) (Z (([]:eY),U)) (cond ((aa (b.1.2.2.2.1):Int)<=x.2.2) (Z (([]:eY),U)) (a8 (tx a.1 (Z x.2.2) (Z (ek (x.2.2+(3:Int))))) λc=>Z (c,Y)))))
def zZ:bs×bs×bs->dv Int:=λx=>a8 (zx x) λa=>cond ((0:Int)<a) (Z (1:Int)) (cond (a<(0:Int)) (Z (-1:Int)) (Z (0:Int)))
def DG:eY×bs->dv Bool:=λx=>a8 (nth x.1 (0:Int)) λo=>a8 (nth x.1 (1:Int)) λp=>a8 (yk (o,p,x.2)) λq=>cond q (Z Y) (a8 (nth x.1 (1:Int)) λr=>a8 (nth x.1 (2:Int)) λc=>a8 (yk (r,c,x.2)) λd=>cond d (Z Y) (a8 (nth x.1 (2:Int)) λe=>a8 (nth x.1 (0:Int)) λf=>a8 (yk (e,f,x.2)) λg=>cond g (Z Y) (a8 (nth x.1 (0:Int)) λh=>a8 (nth x.1 (1:Int)) λi=>a8 (zZ (h,i,x.2)) λa=>a8 (nth x.1 (1:Int)) λj=>a8 (nth x.1 (2:Int)) λk=>a8 (zZ (j,k,x.2)) λb=>a8 (nth x.1 (2:Int)) λl=>a8 (nth x.1 (0:Int)) λm=>a8 (zZ (l,m,x.2)) λn=>cond (!decide (a=(0:Int))) (cond (a=b) (Z (No (b=n))) (Z U)) (Z U))))
def Gp:yb×ct->dv Bool:=λx=>rounds (α:=Int) (β:=Bool) (λc b=>cond (b<(aa (x.1.2.1):Int)) (a8 (nth x.1.2.1 b) λa=>cond (!decide (a.1=x.2.1)) (cond ((aa (a.2.2.2.1):Int)=(0:Int)) (let d:=(cond (a.2.1=x.2.2.2.1) (cond (a.2.2.1=x.2.2.1) (Z Y) (c (ek (b+(1:Int))))) (c (ek (b+(1:Int))))); bif No (a.2.1=x.2.2.1)then(cond (a.2.2.1=x.2.2.2.1) (Z Y) (d))else(d)) (c (ek (b+(1:Int))))) (c (ek (b+(1:Int))))) (Z U)) (0:Int)
def DU:yb×Int×Int->dv Bool:=λx=>a8 (MX x) λe=>cond (!(e.2)) (Z U) (a8 (nth e.1 (0:Int)) λt=>a8 (HO t) λi=>cond (!(i)) (Z U) (a8 (nth e.1 (1:Int)) λj=>a8 (HO j) λk=>cond (!(k)) (Z U) (a8 (nth e.1 (2:Int)) λl=>a8 (HO l) λm=>cond (!(m)) (Z U) (a8 (HK x.1) λf=>rounds (α:=Int) (β:=Bool) (λh d=>cond (d<(aa (f):Int)) (a8 (nth f d) λc=>a8 (nth e.1 (0:Int)) λn=>cond (!((λ(a b:Int×Int)=>(No (a.1=b.1)&&No (a.2=b.2))) c n)) (a8 (nth f d) λo=>a8 (nth e.1 (1:Int)) λp=>cond (!((λ(a b:Int×Int)=>(No (a.1=b.1)&&No (a.2=b.2))) o p)) (a8 (nth f d) λg=>a8 (nth e.1 (2:Int)) λq=>cond (!((λ(a b:Int×Int)=>(No (a.1=b.1)&&No (a.2=b.2))) g q)) (a8 (nth f d) λr=>a8 (DG (e.1,r)) λs=>cond s (Z U) (h (ek (d+(1:Int))))) (h (ek (d+(1:Int))))) (h (ek (d+(1:Int))))) (h (ek (d+(1:Int))))) (a8 (AX (x.1,x.2.1)) λc=>let u:=(cond (!decide ((aa (c.1.2.2.2.1):Int)=(1:Int))) (Z Y) (a8 (Gp (x.1,c.1)) λg=>Z (!(g)))); bif !decide (c.1.2.1=c.1.2.2.1)then(u)else(cond ((3:Int)<=(aa (c.1.2.2.2.1):Int)) (u) (Z U)))) (0:Int)))))
def Nw:BX×(Int×Int×Int×b9)->dv (cu (Int×b9)):=λx=>rounds (α:=Int×cu (Int×b9)) (β:=cu (Int×b9)) (λf b=>cond (b.1<(aa (x.1.2.1):Int)) (a8 (nth x.1.2.1 b.1) λc=>a8 (CU ((x.1.1,x.1.2.1,x.1.2.2.1),c.1)) λd=>rounds (α:=Int×Int) (β:=cu (Int×b9)) (λg a=>cond (a.1<(aa (c.2.2.2.1):Int)) (a8 (nth d.1 a.1) λh=>a8 (nth d.1 (ek (a.1+(1:Int)))) λi=>a8 (nth d.1 (ek (a.1+(2:Int)))) λj=>a8 (zx (h,i,j)) λe=>a8 (DU ((x.1.1,x.1.2.1,x.1.2.2.1),c.1,a.1)) λk=>cond k (g ((ek (a.1+(1:Int))),(bf w6 a.2 [(bf qG e [(ek (0-e))])]))) (g ((ek (a.1+(1:Int))),a.2))) (cond (a.2<x.2.2.2.2.1) (a8 (j6 32 b.2 [((2:Int),c.1,(0:Int),(ek (x.2.2.2.2.1-a.2)))]) λl=>f ((ek (b.1+(1:Int))),l)) (f ((ek (b.1+(1:Int))),b.2)))) ((0:Int),x.2.2.2.2.1)) (Z b.2)) ((0:Int),([]:cu (Int×b9)))
def HN:BX×Int->dv Bool:=λx=>a8 (HL ((x.1.1,x.1.2.1,x.1.2.2.1),x.2)) λa=>Z (No (a=(0:Int)))
def Ld:eY×bs->dv Int:=λx=>rounds (α:=Int×Int) (β:=Int) (λf a=>cond (a.2<(aa (x.1):Int)) (a8 (nth x.1 (ek (a.2-(1:Int)))) λe=>a8 (nth x.1 a.2) λb=>a8 (F1 (e,b,x.2)) λc=>a8 (J_ c) λd=>f ((bf w6 a.1 [d.1]),(ek (a.2+(1:Int))))) (Z a.1)) ((1152921504606846976:Int),(1:Int))
def LA:BX×(Int×Int×Int×b9)×AL->dv (cu (Int×b9)):=λx=>a8 (nth x.2.2.2.2.2.2 (0:Int)) λi=>a8 (AR ((x.1.1,x.1.2.1,x.1.2.2.1),i)) λd=>rounds (α:=Int×cu (Int×b9)) (β:=cu (Int×b9)) (λg a=>cond ((0:Int)<=a.1) (a8 (nth x.1.1 a.1) λb=>a8 (Z (ek (b.2.1-d.1.2.1))) λe=>a8 (Z (ek (b.2.2-d.1.2.2))) λf=>cond (!decide (b.1=d.1.1)) (a8 (HN (x.1,b.1)) λj=>cond j (cond ((ek ((ek (e*e))+(ek (f*f))))<(ek (x.2.1.2.2.2.2.1*x.2.1.2.2.2.2.1))) (a8 (j6 32 a.2 [((3:Int),x.2.2.1,(ek (0-b.1)),(ek ((ek ((ek (x.2.1.2.2.2.2.1*x.2.1.2.2.2.2.1))-(ek (e*e))))-(ek (f*f)))))]) λk=>g ((ek (a.1-(1:Int))),k)) (g ((ek (a.1-(1:Int))),a.2))) (g ((ek (a.1-(1:Int))),a.2))) (g ((ek (a.1-(1:Int))),a.2))) (rounds (α:=Int×cu (Int×b9)) (β:=cu (Int×b9)) (λl c=>cond (c.1<(aa (x.1.2.1):Int)) (a8 (nth x.1.2.1 c.1) λm=>a8 (CU ((x.1.1,x.1.2.1,x.1.2.2.1),m.1)) λn=>a8 (Ld (n.1,d.1.2)) λh=>cond (h<(ek (x.2.1.2.2.2.2.1*x.2.1.2.2.2.2.1))) (a8 (nth x.1.2.1 c.1) λo=>a8 (j6 32 c.2 [((3:Int),x.2.2.1,o.1,(ek ((ek (x.2.1.2.2.2.2.1*x.2.1.2.2.2.2.1))-h)))]) λp=>l ((ek (c.1+(1:Int))),p)) (l ((ek (c.1+(1:Int))),c.2))) (Z c.2)) ((0:Int),a.2))) ((ek ((aa (x.1.1):Int)-(1:Int))),([]:cu (Int×b9)))
def NJ:BX×(Int×Int×Int×b9)->dv (cu (Int×b9)):=λx=>rounds (α:=Int×cu (Int×b9)) (β:=cu (Int×b9)) (λc a=>cond (a.1<(aa (x.1.2.2.2):Int)) (a8 (nth x.1.2.2.2 a.1) λb=>a8 (wj b.2.1) λd=>cond (d=(1:Int)) (a8 (nth b.2.2.2.2 (0:Int)) λe=>a8 (HN (x.1,e)) λf=>cond f (a8 (LA (x.1,x.2,b)) λg=>a8 (j6 32 a.2 g) λh=>c ((ek (a.1+(1:Int))),h)) (c ((ek (a.1+(1:Int))),a.2))) (c ((ek (a.1+(1:Int))),a.2))) (Z a.2)) ((0:Int),([]:cu (Int×b9)))
def Lj:BX×(Int×Int×Int×b9)->dv Int:=λx=>rounds (α:=Int×Int) (β:=Int) (λb a=>cond (a.1<(aa (x.1.2.2.2):Int)) (a8 (nth x.1.2.2.2 a.1) λc=>cond (x.2.2.1<c.2.2.1) (b ((ek (a.1+(1:Int))),(ek (a.2+(1:Int))))) (b ((ek (a.1+(1:Int))),a.2))) (Z (ek (a.2+(bf qG (0:Int) [(ek ((ek ((aa (x.1.2.2.2):Int)-a.2))-x.2.2.2.2.2.2))]))))) ((0:Int),(0:Int))
def G_:BX×ct->dv Bool:=λx=>rounds (α:=Int) (β:=Bool) (λd b=>cond (b<(aa (x.1.2.2.2):Int)) (a8 (nth x.1.2.2.2 b) λa=>a8 (wj a.2.1) λc=>let h:=(cond (c=(3:Int)) (a8 (Ia (a.2.2.2.2,x.2.2.2.2.2.1)) λe=>a8 (Ia (a.2.2.2.2,x.2.2.2.2.2.2)) λf=>cond (!(e==f)) (Z U) (d (ek (b+(1:Int))))) (d (ek (b+(1:Int))))); bif No (c=(2:Int))then a8 (Ia (a.2.2.2.2,x.2.1)) λg=>cond g (Z U) (h)else(h)) (Z Y)) (0:Int)
def G6:BX->dv eD:=λx=>a8 (HU x) λf=>cond (!decide (f=(0:Int))) (Z ([]:eD)) (rounds (α:=Int×eD) (β:=eD) (λg a=>cond (a.1<(aa (x.2.1):Int)) (a8 (nth x.2.1 a.1) λb=>a8 (G_ (x,b)) λc=>cond c (a8 (nth x.2.1 a.1) λd=>a8 (j6 8 a.2 [d.1]) λe=>g ((ek (a.1+(1:Int))),e)) (g ((ek (a.1+(1:Int))),a.2))) (Z a.2)) ((0:Int),([]:eD)))
def yL:BX×(Int×Int×Int×b9)->dv ((cu (Int×b9)×Int)):=λx=>a8 (LY x.2) λa=>let t:=(a8 (Hf x) λi=>a8 (Nw x) λj=>a8 (j6 32 i j) λk=>a8 (NJ x) λl=>a8 (j6 32 k l) λd=>a8 (Lj x) λe=>cond ((0:Int)<e) (a8 (j6 32 d [((4:Int),(0:Int),(0:Int),(ek (e*(257:Int))))]) λm=>a8 (G6 x.1) λf=>rounds (α:=cu (Int×b9)×Int) (β:=(cu (Int×b9)×Int)) (λr b=>cond (b.2<(aa (f):Int)) (a8 (nth f b.2) λn=>a8 (j6 32 b.1 [((5:Int),n,(0:Int),(1:Int))]) λo=>r (o,(ek (b.2+(1:Int))))) (Z (b.1,(0:Int)))) (m,(0:Int))) (a8 (G6 x.1) λg=>rounds (α:=cu (Int×b9)×Int) (β:=(cu (Int×b9)×Int)) (λs c=>cond (c.2<(aa (g):Int)) (a8 (nth g c.2) λp=>a8 (j6 32 c.1 [((5:Int),p,(0:Int),(1:Int))]) λq=>s (q,(ek (c.2+(1:Int))))) (Z (c.1,(0:Int)))) (d,(0:Int)))); bif No (a=(0:Int))then a8 (HU x.1) λh=>cond (!decide (h=(0:Int))) (Z (([]:cu (Int×b9)),h)) (t)else(cond (!decide (a=(0:Int))) (Z (([]:cu (Int×b9)),a)) (t))
def KW:BX×(Int×Int×Int×b9)->dv Bool:=λx=>a8 (Nn x.1) λc=>cond (!(c)) (a8 (DT ()) λa=>Z a) (a8 (qH x) λa=>a8 (yL x) λb=>a8 (DT ()) λd=>cond d (a8 (HD (a.1,b.1)) λe=>cond e (Z (No (a.2=b.2))) (Z U)) (Z U))
end
end Go.Ab
namespace Go.Ab
open Go Go.Sort Go.Proofs Go.Shelf
variable [nO]
variable {P:Program}{α:Type}{a:α->eX}{b:α->α->Int}{cf:eX->eX->Int}{cl:dr}{d:Func}{f g:FuncId}{k l:Func}{r xs:cu α}{z:Nat}
theorem OA{b:Nat}(h:j6 b [] xs=Z r):r=xs/\(2*aa xs+1000)*b<=2^48/\aa xs<=2^62:=by unfold j6 at h;by_cases c1:(2*aa xs+1000)*b<=2^48;by_cases c2:aa xs<=2^62;simp[c1,c2]at h;exact⟨h.symm,c1,c2⟩;simp[c2]at h;simp[c1]at h
theorem bV3  {j:e_} (L:Lays.n144 P j)  (hf:j.f 144=f)  (p:P.funcs[f]?=Z d) (k:(d.name== "runtime.NumGoroutine")=U) (l:d.body.isNone=U)
  {b:Nat} (q:j.g 1=b) {m:Int} (hm:nO.cell b 0=Z (.int .i64 m)) {x:ByteArray×ByteArray} {r:Bool} (h:strings_Contains x=Z r):oX P ⟨f,a6 (.cons .str (.one .str)) x,enc .bool r⟩:=by
 subst hf q;unfold strings_Contains at h;by_cases hs:x.1.size<4294967281;simp only[hs,l6,b6,ah]at h;subst h;intro σ;refine oO.Cc p k l ?_;intro G vs w a c;obtain⟨u,s,rfl,n,a⟩:=a.cons_inv;obtain⟨v,t,rfl,o,a⟩:=a.cons_inv;obtain rfl:=a.tr;cases n;cases o;have i:=c.cell (c.qE _ _ _ hm);refine(Any.strings_Contains L x.1 x.2 m w hs i).mono ?_;rintro e w' ⟨rfl,rfl⟩;exact⟨_,_,σ,G,rfl,.refl _ _ _ _,.b4 _,c,rfl,rfl⟩;simp[hs]at h
def zY{T:bY}(cb:rk P T){t:TypeId}(h:(T t).map (λti=>(ti.isAgg,ti.size))=Z (Y,z)):(∀w,(isAgg t).run P w=.ok Y w)/\∀w,(lK t).run P w=.ok z w:=by
 cases a:T t with
 |none=>rw[a]at h;cases h
 |some ti =>rw[a]at h;simp only[ai,ah,iq]at h;exact⟨λw=>by rw[FR cb a w,h.1],λw=>by rw[rj cb a w,h.2]⟩
def F5{ts:cu c9}{t:c9}(h:t.Ok (rC P ts))(hf:t.f<p9){x:t.mW.T}{r:t.nu.T}(a:t.fn x=Z r):oX P ⟨t.f,a6 t.mW x,enc t.nu r⟩:=by let ⟨φ,h1,h2⟩:=h x r a;exact(FV P ts).vh t.f φ hf h1 _ _ h2
def FK{r:α}{l:cu α}(i:Nat):xc ((r::l).map a) i=a (nV r (r::l) i):=by unfold xc nV;rw[aS];cases(r::l)[i]?<;>rfl
def V0:∀ {xs:cu α},(∀x∈xs,∀y∈xs,cf (a x) (a y)=b x y)->sk cf (xs.map a)=(oy b xs).map a
 | [],_=>rfl
 |r::l,h=>by
  have e:(λi j=>cf (xc ((r::l).map a) i) (xc ((r::l).map a) j))=λi j=>b (nV r (r::l) i) (nV r (r::l) j):=by funext i j;rw[FK,FK];exact h _ (z1 i) _ (z1 j)
  rw[Nj (by simp),e,IW,de,aI];exact cw λi _=>FK i
def Ra(h:∀x∈xs,∀y∈xs,cf (a x) (a y)=b x y)(hO:Ordered b xs)(c:xs.map a≠[]):SWO (ltOf (λi j=>cf (xc (xs.map a) i) (xc (xs.map a) j))):=by
 cases xs;simp at c;rename_i r l;have e:(λi j=>cf (xc ((r::l).map a) i) (xc ((r::l).map a) j))=λi j=>b (nV r (r::l) i) (nV r (r::l) j):=by funext i j;rw[FK,FK];exact h _ (z1 i) _ (z1 j)
 rw[e];exact hO
noncomputable def Dc{α:Type}(c:α->eX)(d:α->α->Int)(a b:eX):Int :=open Classical in if h:∃p:α×α,c p.1=a/\c p.2=b then d h.choose.1 h.choose.2 else 0
def aD2(a7:∀x y,a x=a y->x=y)(b:α->α->Int)(x y:α):Dc a b (a x) (a y)=b x y:=by have hex:∃p:α×α,a p.1=a x/\a p.2=a y:=⟨(x,y),rfl,rfl⟩;unfold Dc;rw[dif_pos hex];let ⟨h1,h2⟩:=hex.choose_spec;rw[a7 _ _ h1,a7 _ _ h2]
def ah5{cmp:α->α->dv Int}(h:rE cmp xs=Z r):(∀x∈xs,∀y∈xs,cmp x y=Z ((cmp x y).getD 0))/\Ordered (λx y=>(cmp x y).getD 0) xs/\aa xs<4611686018427387904/\r=oy (λx y=>(cmp x y).getD 0) xs:=by
 obtain⟨hc,rfl⟩:=bW0 h;refine⟨λx a y b=>?_,hc.2.1,hc.2.2,rfl⟩;have:=hc.1 x a y b;cases he:cmp x y with
 |none=>rw[he]at this;cases this
 |some v=>rfl
def NL  {p:e_} (L:lp P p)  (hf:p.f 6=f)  (H:P.funcs[f]?=Z k) (q:(k.name== "runtime.NumGoroutine")=U) (s:k.body.isNone=U)
  {el:dr}  (hz:0<z) (u:el.len=z) (B:el.cells=Y) (I:∀w,(isAgg (p.t 24)).run P w=.ok Y w) (J:∀w,(lK (p.t 24)).run P w=.ok z w)
    (K:P.funcs[g]?=Z l) (C:(l.name== "runtime.NumGoroutine")=U) (D:l.body.isNone=U)  (c:cl.T)
  {cmp:el.T->el.T->dv Int} {x r:cu el.T} (n:∀a∈x,∀b∈x,∀v,cmp a b=Z v->oX P ⟨g,[.agg (a6 el a),.agg (a6 el b)]++a6 cl c,Hq v⟩) (h:rE cmp x=Z r) :
  Dz P f [.rs (x.map (a6 el)),.b4 (.int .i64 z),.fn (.func g) [] (a6 cl c)] (.rs (r.map (a6 el))):=by
 obtain⟨h1,hO,M,rfl⟩:=ah5 h;intro v N rest i;simp only[cW,bX.b4.injEq,gx]at i;obtain⟨rfl,o,rfl⟩:=i;have o:N=z:=by omega
 subst o;have m:∀a∈x,∀b∈x,Dc (a6 el) (λa b=>(cmp a b).getD 0) (a6 el a) (a6 el b)=(cmp a b).getD 0:=λa _ b _=>aD2 (xE el) _ a b;refine⟨_,_,rfl,rfl,?_,?_⟩;simp only[aI];exact(tG hO).length_eq;intro σ id e restv ho O;have hm:∀j∈x.map (a6 el),∃a∈x,j=a6 el a:=λj h=>by let ⟨a,ha,e⟩:=aN.1 h;exact⟨a,ha,e.symm⟩
 have:=aR4 L hf H q s hz I J K C D (e:=e) (es:=x.map (a6 el)) (caps:=a6 cl c) (cf:=Dc (a6 el) (λa b=>(cmp a b).getD 0))
  (λj h=>by obtain⟨a,_,rfl⟩:=hm j h;rw[ui,u])
  (λj h d hd=>by obtain⟨a,_,rfl⟩:=hm j h;exact aj.1 (Jc B a) d hd)
  (λj h d hd=>by obtain⟨a,_,rfl⟩:=hm j h;exact aj.1 (yB el a) d hd)
  (by simpa using M)
  (λj h E h'=>by
   obtain⟨a,ha,rfl⟩:=hm j h;obtain⟨b,G,rfl⟩:=hm E h';rw[m a ha b G];exact n a ha b G _ (h1 a ha b G))
  (Ra m hO ·) ho (restv:=restv) O
 rw[V0 m]at this;exact this
def bX1  {C:e_} (L:lL P C)  (hf:C.f 6=f)  (D:P.funcs[f]?=Z k) (p:(k.name== "runtime.NumGoroutine")=U) (q:k.body.isNone=U)
  {s:dn} (t:s.Fi=Y)   (E:P.funcs[g]?=Z l) (u:(l.name== "runtime.NumGoroutine")=U) (w:l.body.isNone=U)  (c:cl.T)
  {cmp:s.T->s.T->dv Int} {x r:cu s.T} (n:∀a∈x,∀b∈x,∀v,cmp a b=Z v->oX P ⟨g,[enc s a,enc s b]++a6 cl c,Hq v⟩) (h:rE cmp x=Z r) :
  Dz P f [.rs (x.map (a6 (.one s))),.b4 (.int .i64 1),.fn (.func g) [] (a6 cl c)] (.rs (r.map (a6 (.one s)))):=by
 obtain⟨h1,hO,G,rfl⟩:=ah5 h;intro v H rest i;simp only[cW,bX.b4.injEq,gx]at i;obtain⟨rfl,o,rfl⟩:=i;have o:H=1:=by omega
 subst o;have m:∀a∈x,∀b∈x,Dc (a6 (.one s)) (λa b=>(cmp a b).getD 0) (a6 (.one s) a) (a6 (.one s) b)=(cmp a b).getD 0:=λa _ b _=>aD2 (xE (.one s)) _ a b;refine⟨_,_,rfl,rfl,?_,?_⟩;simp only[aI];exact(tG hO).length_eq;intro σ id e restv ho I;have hm:∀j∈x.map (a6 (.one s)),∃a∈x,j=a6 (.one s) a:=λj h=>by let ⟨a,ha,e⟩:=aN.1 h;exact⟨a,ha,e.symm⟩
 have:=aH6 L hf D p q E u w (e:=e) (es:=x.map (a6 (.one s))) (caps:=a6 cl c) (cf:=Dc (a6 (.one s)) (λa b=>(cmp a b).getD 0))
  (λj h=>by obtain⟨a,_,rfl⟩:=hm j h;rfl)
  (λj h d hd=>by
   obtain⟨a,_,rfl⟩:=hm j h;simp only[a6,bz]at hd;rw[hd];exact OG t a)
  (λj h d hd=>by obtain⟨a,_,rfl⟩:=hm j h;exact aj.1 (yB (.one s) a) d hd)
  (by simpa using G)
  (λj h z h'=>by
   obtain⟨a,ha,rfl⟩:=hm j h;obtain⟨b,B,rfl⟩:=hm z h';rw[m a ha b B];exact n a ha b B _ (h1 a ha b B))
  (Ra m hO ·) ho (restv:=restv) I
 rw[V0 m]at this;exact this
def bV2  {q:e_} (L:lM P q)  (hf:q.f 5=f)  (s:P.funcs[f]?=Z d) (k:(d.name== "runtime.NumGoroutine")=U) (l:d.body.isNone=U)
  {x:eD×Int} {r:eD} (h:C5 x=Z r):Dz P f (a6 (.cons (.hF (.one (.int .i64))) (.one (.int .i64))) x) (enc (.hF (.one (.int .i64))) r):=by
 unfold C5 at h;cases hc:(No (x.2=1)&&No (aa x.1<4611686018427387904))with
 |false=>rw[hc]at h;cases h
 |true=>
  rw[hc,aB3]at h;simp only[b6,ah]at h;subst h;simp only[ab,kA]at hc;intro v t rest a;simp only[a6,enc,cW,bX.b4.injEq,gx]at a;obtain⟨rfl,j,rfl⟩:=a;have j:t=1:=by omega
  subst j;refine⟨x.1.map xM,_,rfl,rfl,?_,?_⟩;simp only[aI];exact jP ..;intro σ id e restv ho u;intro G vs w a c;obtain⟨B,m,rfl,z,b⟩:=a.cons_inv;have g:Rel G (σ.del id) w:=c.less rfl (λi o h=>by
   rw[bg.rK]at h;split at h;cases h;exact h)
  have n:=(u G m w b g).tr;have p:restv=[]:=by have:=b.1;rw[n]at this;exact List.length_eq_zero_iff.1 (show aa restv=0 from this.symm)
  subst p;exact aM0 L hf s k l hc.2 ho G _ w a c
def bU9(a:∀args w,(callFunc f args).run P w=((add64Entry args).run P w).andThen λv w'=>.ok (.value v) w'){x:b9}{r:Int×Int}(h:zJ x=Z r) :
  oX P ⟨f,a6 (.cons (.int .u64) (.cons (.int .u64) (.one (.int .u64)))) x,enc (.ed (.cons (.int .u64) (.one (.int .u64)))) r⟩:=by
 intro σ;unfold zJ at h;cases hc:(No (0<=x.1)&&No (0<=x.2.1)&&(No (x.2.2=0)||No (x.2.2=1)))with
 |false=>rw[hc]at h;cases h
 |true =>rw[hc]at h;simp only[b6,ah]at h;subst h;simp only[ab,bx,kA]at hc;refine(cc7 a (σ:=σ) (σ':=σ) (v:=enc (.ed (.cons (.int .u64) (.one (.int .u64)))) ((x.1+x.2.1+x.2.2)%18446744073709551616,(x.1+x.2.1+x.2.2) / 18446744073709551616)) ?_).1;show KR [.b4 (.int .u64 x.1),.b4 (.int .u64 x.2.1),.b4 (.int .u64 x.2.2)] σ=_;unfold KR;dsimp only;rw[cr ⟨hc.1.1,hc.1.2,hc.2⟩];rfl
variable {P:Program}{elem:TypeId}{f:FuncId}{t:TypeId}
def bH0  {T:bY} (cb:rk P T)  {fn:Func}  (hf:P.funcs[f]?=Z fn) (a:(fn.name== "runtime.NumGoroutine")=U) (c:DR fn t=Y) (b:fn.resultTypes.toList=[t])
  (h1:(T t).map nk.j4=Z (.slice elem)) (h2:(T elem).map nk.size=Z 2) (g:(T elem).map nk.bytes=Z 16) {x r:eY} (h:j6 16 [] x=Z r) :
  uu P f (a6 (.one (.hF (.cons (.int .i64) (.one (.int .i64))))) x) (enc (.hF (.cons (.int .i64) (.one (.int .i64)))) r):=by
 let ⟨e,i,j⟩:=OA h;exact Nb cb hf a c b h1 h2 g (by decide) (l:=.cons (.int .i64) (.one (.int .i64))) (λv=>⟨rfl,λd hd=>by
  simp only[a6,aG,List.not_mem_nil,or_false]at hd;rcases hd with rfl|rfl<;>rfl⟩) i j e
def bI7  {T:bY} (cb:rk P T)  {fn:Func}  (hf:P.funcs[f]?=Z fn) (a:(fn.name== "runtime.NumGoroutine")=U) (c:DR fn t=Y) (b:fn.resultTypes.toList=[t])
  (h1:(T t).map nk.j4=Z (.slice elem)) (h2:(T elem).map nk.size=Z 1) (g:(T elem).map nk.bytes=Z 8) {x r:eD} (h:j6 8 [] x=Z r) :
  uu P f (a6 (.one (.hF (.one (.int .i64)))) x) (enc (.hF (.one (.int .i64))) r):=by
 let ⟨e,i,j⟩:=OA h;exact Nb cb hf a c b h1 h2 g (by decide) (l:=.one (.int .i64)) (λv=>⟨rfl,λd hd=>by
  simp only[a6,bz]at hd;rw[hd];rfl⟩) i j e
end Go.Ab
