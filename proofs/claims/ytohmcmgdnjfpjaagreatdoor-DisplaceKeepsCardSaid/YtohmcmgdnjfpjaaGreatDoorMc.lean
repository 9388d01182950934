/- A part of the proof; its readable source lies in wip of the prover's repo (squeezed here for the limit of bytes). -/
import Derived.Test.YtohmcmgdnjfpjaaGreatDoorMb
import Derived.HandedShaped
import Derived.OpenShut
import Derived.MakeChecks
import Derived.Shelf.Vars
import Derived.Shelf.SlSortCmp.NoneTotal
import Derived.Sort.EveryDepth
import Derived.Shelf.SortM.AssemblyIn
import Derived.Shelf.SortM.SortNone
import Derived.Shelf.SlicesQ.Reverse
import Derived.Lib.IndexMore
set_option linter.all false
open Array renaming getElem?_append_left->cV,getElem?_eq_getElem->bj,getElem?_modify->dQ,range->ba
open BitVec renaming ofInt->bO
open Bool renaming and_eq_true->ab,false_eq_true->aG,not_eq_true'->cT,or_eq_true->bC,true->No,false->N2
open ByteArray renaming mk->bW
open Decidable renaming decide->Eo
open Go renaming sizeOf->kV
open Go.Act renaming put->iO
open Go.ChangeSpec renaming post_blind->lK
open Go.DataW.Whole renaming of_heap->lG
open Go.Frame renaming enter->lg
open Go.IntKind renaming i32->kQ,i64->aa,u64->an,u8->fq
open Go.Lib renaming bitLen->eA
open Go.MakeChecks renaming laidMetH_plain->lL
open Go.OpenSpec renaming ofChange->jf
open Go.Proofs.AnyF renaming slices_SortFunc_none->iI
open Go.Result renaming andThen_ok->aq
open Go.Sem renaming run_bind->aA,run_pure->bd
open Go.Shelf renaming Ren->dZ
open Go.Sort renaming ahead->gS
open Go.Sort.HoldsK renaming cell->kU
open Go.Utf8 renaming decode->bI
open Go.Value renaming int->bH,okWide->gy
open Go.Value.bool renaming injEq->iW
open Go.Value.func renaming injEq->lM
open Go.Value.int renaming injEq->fR
open Go.Value.string renaming injEq->lA
open Go.World renaming cell?->fF,frozen?->gJ
open List renaming all_cons->bU,all_eq_true->aj,cons_append->cL,drop_drop->fZ,drop_eq_getElem_cons->bq,drop_eq_nil_of_le->eQ,drop_length->fD,drop_succ_cons->gB,drop_zero->jn,ext_getElem?->eH,find?_isSome->jY,foldl->bK,getD_eq_getElem?_getD->dt,getElem?_eq_getElem->af,getElem?_eq_none->bo,getElem?_eq_some_iff->ak,getElem?_map->aO,getElem?_set->dG,getElem_map->b_,getElem_mem->ay,getElem_of_mem->aT,head?->jD,length->eP,length_append->aS,length_map->aI,length_pos_iff->cH,map->cm,map_cons->au,map_map->bZ,mem_cons->aD,mem_map->aM,mem_of_getElem?->aH,range->aN,rel_of_pairwise_cons->iJ,replicate->cq,take_append_drop->dE,take_succ_cons->jC
open List.Pairwise renaming nil->ko
open List.Perm renaming refl->jH
open List.cons renaming injEq->cN
open Nat renaming add_left_cancel->il,add_mul->cn,beq->ax,beq_refl->eZ,ble->dD,blt->cM,blt_eq->bP,div_add_mod->gN,div_lt_iff_lt_mul->fz,eq_of_beq_eq_true->ae,le_add_right->aV,le_of_ble_eq_true->aZ,le_of_not_lt->kD,le_refl->aB,le_trans->bz,lt_of_lt_of_le->dL,lt_or_ge->cR,mod_lt->d_,mul_add->lF,mul_assoc->lf,mul_comm->eU,mul_le_mul_right->bS,not_lt->gZ,one_mul->iA,zero_add->a_,zero_le->c_
open Option renaming getD_some->cA,map_none->dU,map_some->ai,some->Q1,none->Ld
open Option.some renaming inj->aQ,injEq->ah
open Prod renaming ext->eJ
namespace Go.Ab
noncomputable section
open Go
variable [nO]
variable {K:dn}{b:Bool}{c:ar}{ck:nW}{el:TypeId}{g:K.T->List Int}{i ix:ar}{j m n off:Nat}{p:ar}{Γ:List dn}{r:mR Γ}{s:dn}{t:TypeId}{u x:ar}{z:Nat}
def uK:(l:dr)->Option (l.T->List Int)
 | .one (.int .i64)=>Q1 λa=>[a]
 | .cons (.int .i64) l=>match uK l with
  |some g=>Q1 λa=>a.1::g a.2
  |none=>Ld
 |_=>Ld
theorem KU:∀(l:dr) (g:l.T->List Int),uK l=Q1 g->∀x,ar.vf (a6 l x)=Q1 (g x)/\(g x).length=l.len
 | .nil,g,h=>by simp[uK]at h
 | .one s,g,h=>by
  cases s with
  |int k=>
   cases k<;>simp only[uK]at h<;>try (cases h;done)
   cases h;exact λx=>⟨rfl,rfl⟩
  |_=>simp[uK]at h
 | .cons s l,g,h=>by
  cases s with
  |int k=>
   cases k<;>simp only[uK]at h<;>try (cases h;done)
   split at h;rename_i a b;cases h;intro x;have:=KU l a b x.2;exact⟨by simp only[a6,enc,ar.vf,this.1],by simp[dr.len,this.2]⟩;cases h
  |_=>simp[uK]at h
def sx:(K:dn)->Option (Bool×(K.T->List Int))
 | .int .i64=>Q1 (N2,λn=>[n])
 | .agg l=>match uK l with
  |some g=>Q1 (No,g)
  |none=>Ld
 |_=>Ld
def Dq:(K:dn)->Option (K.T->K.T->Bool)
 | .int .i64=>Q1 λa b=>Eo (a=b)
 | .agg l=>xb l
 |_=>Ld
def Ca(h:sx K=Q1 (b,g))(x:K.T):(enc K x).key=Q1 (b,g x):=by cases K<;>grind[sx,enc,ar.key,KU]
def aC6:∀(l:dr) (g:l.T->List Int) (q:l.T->l.T->Bool),uK l=Q1 g->xb l=Q1 q->∀a b,(g a==g b)=q a b
 | .nil,g,q,h,_=>by simp[uK]at h
 | .one s,g,q,h,h2=>by
  cases s with
  |int k=>
   cases k<;>simp only[uK]at h<;>try (cases h;done)
   cases h2
   grind
  |_=>simp[uK]at h
 | .cons s l,g,q,h,h2=>by
  cases s with
  |int k=>
   cases k<;>simp only[uK]at h<;>try (cases h;done)
   split at h;rename_i c d;simp only[xb]at h2;split at h2;rename_i e f;cases h2;intro a b;have:=aC6 l c e d f a.2 b.2
   grind
   cases h2;cases h
  |_=>simp[uK]at h
def TK{q:K.T->K.T->Bool}(h:sx K=Q1 (b,g))(h2:Dq K=Q1 q)(x y:K.T):tl b (g x) (g y)=q x y:=by
 cases K with
 |int k=>grind[sx,Dq,tl]
 |agg l =>simp only[sx]at h;split at h;rename_i c a;cases h;exact aC6 l _ q a h2 x y;cases h
 |_=>simp[sx]at h
def fh{K V:Type}(q:K->K->Bool)(k:K):List (K×V)->Option V
 | []=>Ld
 |p::C=>bif q k p.1 then Q1 p.2 else fh q k C
def mI{K V:Type}(q:K->K->Bool)(k:K)(v:V):List (K×V)->List (K×V)
 | []=>[(k,v)]
 |p::C=>bif q k p.1 then(k,v)::C else p::mI q k v C
section
variable {K V:dn} {b:Bool} {g:K.T->List Int} {q:K.T->K.T->Bool}
def O9(hk:sx K=Q1 (b,g))(j:Nat)(p:K.T×V.T):oW j (a6 (.cons K (.one V)) p)=(g p.1,enc V p.2,j):=by simp only[a6,oW,Ca hk]
def QF(hk:sx K=Q1 (b,g))(a:Dq K=Q1 q)(k:K.T):∀(C:List (K.T×V.T)) (j i:Nat),(nX b (g k) (nT j (C.map (a6 (.cons K (.one V))))) i).map (·.2)=(fh q k C).map (enc V)
 | [],j,i=>rfl
 |p::C,j,i=>by
  have c:=QF hk a k C (j+1) (i+1);simp only[au,nT,O9 hk,nX,TK hk a,fh];cases q k p.1 with
  |true=>rfl
  |false=>simpa using c
def Yi(hk:sx K=Q1 (b,g))(a:Dq K=Q1 q)(k:K.T)(v:V.T):∀C:List (K.T×V.T),tf (enc K k) (enc V v) b (g k) (C.map (a6 (.cons K (.one V))))=(mI q k v C).map (a6 (.cons K (.one V)))
 | []=>by simp[tf,mI,a6]
 |p::C=>by
  have c:=Yi hk a k v C;simp only[au,tf,KV,O9 hk,TK hk a,mI];cases q k p.1 with
  |true=>simp[a6]
  |false=>simp[c]
theorem Qa(hk:sx K=Q1 (b,g))(C:List (K.T×V.T)):rZ (C.map (a6 (.cons K (.one V))))=b\/C=[]:=by cases C;exact .inr rfl;simp[rZ,a6,Ca hk]
def av1(hk:sx K=Q1 (b,g))(a:∀x,(g x).length=n):∀(C:List (K.T×V.T)) (j:Nat),((nT j (C.map (a6 (.cons K (.one V))))).all λe=>e.1.length==n)=No
 | [],_=>rfl
 |p::C,j=>by simp only[au,nT,O9 hk,bU,a,beq_self_eq_true];exact av1 hk a C (j+1)
def bW1(hk:sx K=Q1 (b,g))(C:List (K.T×V.T)):((C.map (a6 (.cons K (.one V)))).all vO)=No:=by simp[vO,a6,Ca hk]
end
def FJ(T:cy)(a:TypeId):dn->Bool
 | .int .i64=>match T a with
  |some { j4:=.int _,.. }=>No
  |_=>N2
 | .agg l=>match T a with
  |some ti=>match ti.flat with
   |some n=>ax n l.len
   |none=>N2
  |none=>N2
 |_=>N2
def JP{T:cy}{a:TypeId}{V:dn}(h:sx K=Q1 (b,g))(hf:FJ T a K=No)(k:K.T)(C:List (K.T×V.T))(j:Nat):tS T a b (g k) (nT j (C.map (a6 (.cons K (.one V)))))=No:=by
 cases K with
 |int i=>grind[sx,FJ,tS]
 |agg l =>have cu:=h;simp only[sx]at h;split at h;rename_i m c;cases h;simp only[FJ]at hf;split at hf;rename_i ti d;split at hf;rename_i n e;have f:=ae hf;simp only[tS,d,e,f,(KU l g c k).2,beq_self_eq_true];exact av1 cu (λx=>(KU l g c x).2) C j;cases hf;cases hf;cases h
 |_=>simp[sx]at h
mutual
def rf:ar->(s:dn)->Option s.T
 | .b4 v,s=>KL v s
 | .agg cs,.agg l=>wk cs l
 |_,_=>Ld
def wk:List ar->(l:dr)->Option l.T
 | [],.nil=>Q1 ()
 | [a],.one s=>rf a s
 |a::az,.cons s l=>match rf a s with
  |some x=>match wk az l with
   |some y=>Q1 (x,y)
   |none=>Ld
  |none=>Ld
 |_,_=>Ld
end
mutual
theorem Ac:∀(a:ar) (s:dn) (x:s.T),rf a s=Q1 x->a=enc s x
 | .b4 v,s,x,h=>by simp only[rf]at h;exact R2 h
 | .agg cs,s,x,h=>by
  cases s<;>simp only[rf]at h<;>try (cases h;done)
  simp only[enc,P1 cs _ _ h]
 | .any,s,x,h=>by cases s<;>simp only[rf]at h<;>cases h
 | .rs _,s,x,h=>by cases s<;>simp only[rf]at h<;>cases h
 | .fT _,s,x,h=>by cases s<;>simp only[rf]at h<;>cases h
 | .ms _ _ _ _,s,x,h=>by cases s<;>simp only[rf]at h<;>cases h
 | .mp _ _ _,s,x,h=>by cases s<;>simp only[rf]at h<;>cases h
 | .mm _,s,x,h=>by cases s<;>simp only[rf]at h<;>cases h
 | .it _,s,x,h=>by cases s<;>simp only[rf]at h<;>cases h
 | .fn _ _ _,s,x,h=>by cases s<;>simp only[rf]at h<;>cases h
 | .ed _,s,x,h=>by cases s<;>simp only[rf]at h<;>cases h
 | .ey _,s,x,h=>by cases s<;>simp only[rf]at h<;>cases h
 | .c8 _ _ _,s,x,h=>by cases s<;>simp only[rf]at h<;>cases h
 | .ps _ _ _,s,x,h=>by cases s<;>simp only[rf]at h<;>cases h
 | .mY _,s,x,h=>by cases s<;>simp only[rf]at h<;>cases h
theorem P1:∀(az:List ar) (l:dr) (x:l.T),wk az l=Q1 x->az=a6 l x
 | [],l,x,h=>by(cases l<;>simp only[wk]at h<;>try (cases h;done));rfl
 | [a],l,x,h=>by
  cases l with
  |nil=>simp only[wk]at h;cases h
  |one s=>simp only[wk]at h;simp only[a6];rw[Ac a s x h]
  |cons s l =>simp only[wk]at h;split at h;rename_i y c;split at h;rename_i z hz;cases h;have:=P1 [] l z (by simpa only[wk]using hz);simp only[a6];rw[Ac a s y c,<-this];cases h;cases h
 |a::b::az,l,x,h=>by
  cases l with
  |nil=>simp only[wk]at h;cases h
  |one s=>simp only[wk]at h;cases h
  |cons s l =>simp only[wk]at h;split at h;rename_i y c;split at h;rename_i z hz;cases h;simp only[a6];rw[Ac a s y c,<-P1 (b::az) l z hz];cases h;cases h
end
def oD{α:Type}:Option α->Option α->Option α
 |some a,_=>Q1 a
 |none,z=>z
def KQ(T:cy)(Γ:List dn)(t:TypeId)(ix:ar)(ok:Bool)(K V:dn)(fc:Env Γ->List (K.T×V.T)):Option (mR Γ):=match T t with
 |some { j4:=.map c d,.. }=>match T d with
  |some a=>match sx K with
   |some _=>match Dq K with
    |some q=>match FJ T c K with
     |true=>match mq Γ ix K with
      |some b=>match ok with
       |false=>Q1 ⟨V,λe=>oD (fh q (b e) (fc e)) (rf a.x_ V)⟩
       |true=>Q1 ⟨.ed (.cons V (.one .bool)),λe=>match fh q (b e) (fc e)with
        |some v=>Q1 (v,No)
        |none=>match rf a.x_ V with
         |some z=>Q1 (z,N2)
         |none=>Ld⟩
      |none=>Ld
     |false=>Ld
    |none=>Ld
   |none=>Ld
  |none=>Ld
 |_=>Ld
def ar6{m:Option (Nat×ar)}{V:dn}{o:Option V.T}{z:ar}{ok:Bool}{w:ar}(h:m.map (·.2)=o.map (enc V))
  (hs:∀v,o=Q1 v->w=(if ok then .ed [enc V v,.b4 (.bool No)]else enc V v)) (a:o=Ld->w=(if ok then .ed [z,.b4 (.bool N2)]else z)) :
  Q1 (if ok=No then ar.ed [(match m with|some (_,c)=>(c,No)|none=>(z,N2)).1,.b4 (.bool (match m with|some (_,c)=>(c,No)|none=>(z,N2)).2)]else(match m with|some (_,c)=>(c,No)|none=>(z,N2)).1)=Q1 w:=by
 cases m with
 |none=>cases o with
  |none=>rw[a rfl]
  |some v=>cases h
 |some p=>cases o with
  |none=>cases h
  |some v=>grind
def bn3(T:cy)(Γ:List dn)(t:TypeId)(c ix:ar):Option dn:=match oa Γ c with
 |some s=>Q1 s
 |none=>match T t,oa Γ ix with
  |some { j4:=.map _ a,.. },Q1 K=>match T a with
   |some b=>match b.x_ with
    | .b4 (.bool _)=>Q1 (.hF (.cons K (.one .bool)))
    | .b4 (.int k _)=>Q1 (.hF (.cons K (.one (.int k))))
    |_=>Ld
   |none=>Ld
  |_,_=>Ld
def LO(T:cy)(Γ:List dn)(t:TypeId)(c ix:ar)(ok:Bool):Option (mR Γ):=match bn3 T Γ t c ix with
 |some (.hF (.cons K (.one V)))=>match mq Γ c (.hF (.cons K (.one V)))with
  |some fc=>KQ T Γ t ix ok K V fc
  |none=>Ld
 |_=>Ld
def Q4(T:cy)(Γ:List dn)(t:TypeId)(c ix:ar)(ok:Bool):Option (mR Γ):=match oa Γ c with
 |some (.rH (.cons K (.one V)))=>match mq Γ c (.rH (.cons K (.one V)))with
  |some fc=>KQ T Γ t ix ok K V fc
  |none=>Ld
 |_=>Ld
def aO1{T:cy}{Φ:lv}{ok:Bool}(h:LO T Γ t c ix ok=Q1 r):r.Ok T Φ (.look t c ix ok):=by
 intro e v hv;unfold LO at h;split at h;rename_i K V _;split at h;rename_i fc d;unfold KQ at h;split at h;rename_i l s _ _ _ _ m;split at h;rename_i u f;split at h;rename_i n hk;obtain⟨b,g⟩:=n;split at h;rename_i q o;split at h;rename_i hf;split at h;rename_i k i;have hc:c.sub (re Γ e)=.rs ((fc e).map (a6 (.cons K (.one V)))):=mM _ _ _ d e;have j:=mM _ _ _ i e;have mH:(tm (.rs ((fc e).map (a6 (.cons K (.one V)))))).bF 0=Q1 (qY (.rs ((fc e).map (a6 (.cons K (.one V)))))):=by simp[tm,bg.mQ]
 have p:∀es,rowsOf (.rs es)=es:=λ_=>rfl;have a:(rZ ((fc e).map (a6 (.cons K (.one V))))=b\/(nT 0 ((fc e).map (a6 (.cons K (.one V))))).isEmpty=No)/\tS T l b (g (k e)) (nT 0 ((fc e).map (a6 (.cons K (.one V)))))=No:=by
  refine⟨?_,JP hk hf _ _ _⟩;rcases Qa (V:=V) hk (fc e)with h1|h1
  exact .inl h1;rw[h1];right;rfl
 simp only[iv,hc,j,qk,m,Ca hk,f,mH,qY,p];rw[cr a];refine ar6 (QF (V:=V) hk o (k e) (fc e) 0 0) (λw hl=>?_) (λhl=>?_);cases ok;cases h;simp only[hl]at hv;cases hv;rfl;cases h;simp only[hl]at hv;cases hv;rfl;cases ok;cases h;simp only[hl]at hv;exact(Ac _ _ _ hv).symm;cases h
 grind[enc,a6,Ac]
 cases h;cases h;cases h;cases h;cases h;cases h;cases h;cases h
def cd5{T:cy}{Φ:lv}{ok:Bool}(h:Q4 T Γ t c ix ok=Q1 r):r.Ok T Φ (.xS t c ix ok):=by
 intro e v hv;unfold Q4 at h;split at h;rename_i K V _;split at h;rename_i fc d;unfold KQ at h;split at h;rename_i l p _ _ _ _ m;split at h;rename_i s f;split at h;rename_i n hk;obtain⟨b,g⟩:=n;split at h;rename_i q o;split at h;rename_i hf;split at h;rename_i k i;have hc:c.sub (re Γ e)=.mY (.rs ((fc e).map (a6 (.cons K (.one V))))):=mM _ _ _ d e;have j:=mM _ _ _ i e;have a:(rZ ((fc e).map (a6 (.cons K (.one V))))=b\/((fc e).map (a6 (.cons K (.one V)))).isEmpty=No)/\tS T l b (g (k e)) (nT 0 ((fc e).map (a6 (.cons K (.one V)))))=No/\((fc e).map (a6 (.cons K (.one V)))).all vO=No:=by
  refine⟨?_,JP hk hf _ _ _,bW1 hk _⟩
  grind[Qa]
 simp only[iv,hc,j,qk,m,Ca hk,f];rw[cr a];refine ar6 (QF (V:=V) hk o (k e) (fc e) 0 0) (λw hl=>?_) (λhl=>?_);cases ok;cases h;simp only[hl]at hv;cases hv;rfl;cases h;simp only[hl]at hv;cases hv;rfl;cases ok;cases h;simp only[hl]at hv;exact(Ac _ _ _ hv).symm;cases h
 grind[enc,a6,Ac]
 cases h;cases h;cases h;cases h;cases h;cases h;cases h;cases h
def LI(T:cy)(Γ:List dn)(t:TypeId)(c ix v:ar):Option (mR Γ):=match T t with
 |some { j4:=.map a _,.. }=>match oa Γ ix with
  |some K=>match oa Γ v with
   |some V=>match sx K with
    |some _=>match Dq K with
     |some q=>match FJ T a K with
      |true=>match mq Γ c (.hF (.cons K (.one V)))with
       |some fc=>match mq Γ ix K with
        |some b=>match mq Γ v V with
         |some fv=>Q1 ⟨.hF (.cons K (.one V)),λe=>Q1 (mI q (b e) (fv e) (fc e))⟩
         |none=>Ld
        |none=>Ld
       |none=>Ld
      |false=>Ld
     |none=>Ld
    |none=>Ld
   |none=>Ld
  |none=>Ld
 |_=>Ld
def aN7{T:cy}{Φ:lv}(h:LI T Γ t c ix u=Q1 r):r.Ok T Φ (.qe t c ix u):=by
 intro e v hv;unfold LI at h;split at h;rename_i m _ _ _ _ _ j;split at h;rename_i K _;split at h;rename_i V _;split at h;rename_i n hk;split at h;rename_i q k;split at h;rename_i hf;split at h;rename_i fc a;split at h;rename_i b d;split at h;rename_i fv f;cases h;cases hv;have hc:c.sub (re Γ e)=.rs ((fc e).map (a6 (.cons K (.one V)))):=mM _ _ _ a e;have g:=mM _ _ _ d e;have i:=mM _ _ _ f e;have mH:(tm (.rs ((fc e).map (a6 (.cons K (.one V)))))).bF 0=Q1 (qY (.rs ((fc e).map (a6 (.cons K (.one V)))))):=by simp[tm,bg.mQ]
 have l:∀es,rowsOf (.rs es)=es:=λ_=>rfl;have hu:∃σ,si T (tm (.rs ((fc e).map (a6 (.cons K (.one V)))))) t (.mm 0) (enc K (b e)) (enc V (fv e))=Q1 σ:=by
  simp only[si,j,Ca hk,mH,qY];have h1:=JP (V:=V) hk hf (b e) (fc e) 0;have cu:=JP (V:=V) hk hf (b e) [] 0;rcases Qa (V:=V) hk (fc e)with h2|h2
  split;exact⟨_,rfl⟩;rw[cr ⟨h2,h1⟩];exact⟨_,rfl⟩;rw[cr ⟨by rw[h2];rfl,cu⟩];exact⟨_,rfl⟩
 obtain⟨σ,hu⟩:=hu;simp only[iv,hc,g,i,hu,Ca hk,l,Yi hk k];rfl;cases h;cases h;cases h;cases h;cases h;cases h;cases h;cases h;cases h
def Ma(T:cy)(Γ:List dn)(t:TypeId)(c:ar):Option (mR Γ):=match T t with
 |some { j4:=.map _ _,.. }=>match oa Γ c with
  |some (.hF l)=>match mq Γ c (.hF l)with
   |some fc=>Q1 ⟨.int .i64,λe=>Q1 ((fc e).length:Int)⟩
   |none=>Ld
  |_=>Ld
 |_=>Ld
def aJ9{T:cy}{Φ:lv}(h:Ma T Γ t c=Q1 r):r.Ok T Φ (.B_ t c):=by
 intro e v hv;unfold Ma at h;split at h;rename_i b;split at h;split at h;rename_i fc a;cases h;cases hv;have mH:∀c,(tm c).bF 0=Q1 (qY c):=λc=>by simp[tm,bg.mQ]
 have d:∀es,rowsOf (.rs es)=es:=λ_=>rfl;simp only[iv,p3,b,mH,qY,Bc,mM _ _ _ a e,enc,d,aI,goInt];cases h;cases h;cases h
def Ql(Γ:List dn)(x:ar):Option (mR Γ):=match oa Γ x with
 |some (.ptr l)=>match mq Γ x (.ptr l)with
  |some _=>Q1 ⟨.sF,λ_=>Q1 ()⟩
  |none=>Ld
 |_=>Ld
def aX5{T:cy}{Φ:lv}(h:Ql Γ x=Q1 r):r.Ok T Φ (.B0 x):=by intro e v hv;unfold Ql at h;split at h;split at h;rename_i f hf;cases h;simp only[iv,mM _ _ _ hf e,enc];cases h;cases h
def Qt(Γ:List dn)(n:Nat)(x:ar):Option (mR Γ):=match oa Γ x with
 |some (.ptr l)=>match mq Γ x (.ptr l)with
  |some f=>match ax l.len n with
   |true=>Q1 ⟨.ptr l,λe=>Q1 (f e)⟩
   |false=>Ld
  |none=>Ld
 |_=>Ld
def aW2{T:cy}{Φ:lv}(h:Qt Γ n x=Q1 r):r.Ok T Φ (.As n x):=by
 intro e v hv;unfold Qt at h;split at h;split at h;split at h;cases h
 grind[iv,mM,enc,ui]
 cases h;cases h;cases h
def PZ(T:cy):Nat->TypeId->Option (List dn)
 | 0,_=>Ld
 |n+1,t=>match T t with
  |some { j4:=.int k,.. }=>Q1 [.int k]
  |some { j4:=.bool,.. }=>Q1 [.bool]
  |some { j4:=.string,.. }=>Q1 [.str]
  |some { j4:=.array m e,.. }=>match PZ T n e with
   |some l=>Q1 (cq m l).flatten
   |none=>Ld
  |some { j4:=.struct fields,.. }=>fields.toList.foldr (λf acc=>match PZ T n f.type,acc with
   |some a,Q1 b=>Q1 (a++b)
   |_,_=>Ld) (Q1 [])
  |_=>Ld
def bM2(T:cy)(t:TypeId):Option dn:=match T t with
 |some { j4:=.int k,.. }=>Q1 (.int k)
 |some { j4:=.bool,.. }=>Q1 .bool
 |some { j4:=.string,.. }=>Q1 .str
 |some ti=>match ti.isAgg,PZ T 6 t with
  |true,Q1 l=>Q1 (.agg (dr.ofList l))
  |_,_=>Ld
 |_=>Ld
def Qg(T:cy)(Γ:List dn)(t:TypeId)(g:Nat):Option (mR Γ):=match bM2 T t with
 |some s=>Q1 ⟨s,λ_=>match GY T t g with
  |some a=>rf a s
  |none=>Ld⟩
 |none=>Ld
def bP2{T:cy}{Φ:lv}{g:Nat}(h:Qg T Γ t g=Q1 r):r.Ok T Φ (.BR t g):=by
 intro e v hv;unfold Qg at h;split at h;cases h
 grind[iv,Ac]
 cases h
def Qk(T:cy)(Γ:List dn)(t:TypeId)(c i:ar):Option (mR Γ):=match T t with
 |some { j4:=.slice el,.. }=>match T el with
  |some _=>match oa Γ c with
   |some (.hF l)=>match mq Γ c (.hF l)with
    |some fc=>match oa Γ i with
     |some (.int k)=>match mq Γ i (.int k)with
      |some a=>Q1 ⟨.sF,λe=>bif Eo (0<=a e)&&Eo (a e<(fc e).length)then Q1 ()else Ld⟩
      |none=>Ld
     |_=>Ld
    |none=>Ld
   |_=>Ld
  |none=>Ld
 |_=>Ld
def aT5{T:cy}{Φ:lv}(h:Qk T Γ t c i=Q1 r):r.Ok T Φ (.z7 t c i):=by
 intro e v hv;unfold Qk at h;split at h;split at h;split at h;split at h;rename_i fc a;split at h;split at h;rename_i d b;cases h;simp only at hv;cases f:(Eo (0<=d e)&&Eo (d e<(fc e).length))with
 |false=>rw[f]at hv;cases hv
 |true=>
  have g:∀es,rowsOf (.rs es)=es:=λ_=>rfl;simp only[iv,mM _ _ _ a e,mM _ _ _ b e,enc,sH]
  grind
 cases h;cases h;cases h;cases h;cases h;cases h
def dr.at:(l:dr)->Nat->Option ((s:dn)×(l.T->s.T))
 | .nil,_=>Ld
 | .one s,j=>match j with
  | 0=>Q1 ⟨s,λx=>x⟩
  |_+1=>Ld
 | .cons s l,j=>match j with
  | 0=>Q1 ⟨s,λx=>x.1⟩
  |j+1=>match l.at j with
   |some ⟨s',f⟩=>Q1 ⟨s',λx=>f x.2⟩
   |none=>Ld
variable {l:dr}
theorem LR:∀(l:dr) (j:Nat) (q:(s:dn)×(l.T->s.T)),l.at j=Q1 q->∀x,(a6 l x)[j]?=Q1 (enc q.1 (q.2 x))
 | .nil,j,q,h=>by simp[dr.at]at h
 | .one s,0,q,h=>by simp only[dr.at]at h;cases h;exact λx=>rfl
 | .one s,j+1,q,h=>by simp[dr.at]at h
 | .cons s l,0,q,h=>by simp only[dr.at]at h;cases h;exact λx=>rfl
 | .cons s l,j+1,q,h=>by simp only[dr.at]at h;split at h;rename_i s' f hf;cases h;intro x;have:=LR l j _ hf x.2;simpa[a6]using this;cases h
def dr.x3:(l:dr)->Nat->Option ((a:dr)×(l.T->a.T))
 |_,0=>Q1 ⟨.nil,λ_=>()⟩
 | .nil,_+1=>Ld
 | .one s,n+1=>match n with
  | 0=>Q1 ⟨.one s,λx=>x⟩
  |_+1=>Ld
 | .cons s l,n+1=>match n with
  | 0=>Q1 ⟨.one s,λx=>x.1⟩
  |n+1=>match l.x3 (n+1)with
   |some ⟨a,f⟩=>Q1 ⟨.cons s a,λx=>(x.1,f x.2)⟩
   |none=>Ld
def LP:∀(l:dr) (n:Nat) (q:(a:dr)×(l.T->a.T)),l.x3 n=Q1 q->∀x,(a6 l x).take n=a6 q.1 (q.2 x)/\n<=l.len
 |l,0,q,h=>by cases l<;>(simp only[dr.x3]at h;cases h;exact λx=>⟨by simp[a6],c_ _⟩)
 | .nil,n+1,q,h=>by simp[dr.x3]at h
 | .one s,1,q,h=>by simp only[dr.x3]at h;cases h;exact λx=>⟨rfl,aB _⟩
 | .one s,n+2,q,h=>by simp[dr.x3]at h
 | .cons s l,1,q,h=>by simp only[dr.x3]at h;cases h;exact λx=>⟨rfl,by simp[dr.len]⟩
 | .cons s l,n+2,q,h=>by simp only[dr.x3]at h;split at h;rename_i a f hf;cases h;intro x;have:=LP l (n+1) _ hf x.2;exact⟨by simp only[a6,jC,this.1],by simp[dr.len];omega⟩;cases h
def dr.zU:(l:dr)->Nat->Option ((a:dr)×(l.T->a.T))
 |l,0=>Q1 ⟨l,λx=>x⟩
 | .cons _ l,n+1=>match l.zU n with
  |some ⟨a,f⟩=>Q1 ⟨a,λx=>f x.2⟩
  |none=>Ld
 |_,_+1=>Ld
def LG:∀(l:dr) (n:Nat) (q:(a:dr)×(l.T->a.T)),l.zU n=Q1 q->∀x,(a6 l x).drop n=a6 q.1 (q.2 x)/\q.1.len+n=l.len
 |l,0,q,h=>by cases l<;>(simp only[dr.zU]at h;cases h;exact λx=>⟨rfl,by simp⟩)
 | .nil,n+1,q,h=>by simp[dr.zU]at h
 | .one s,n+1,q,h=>by simp[dr.zU]at h
 | .cons s l,n+1,q,h=>by simp only[dr.zU]at h;split at h;rename_i a f hf;cases h;intro x;have:=LG l n _ hf x.2;have h2:=this.2;exact⟨by simp only[a6,gB,this.1],by simp only[dr.len]at h2⊢;omega⟩;cases h
def NZ(ti:nk)(l:dr)(off:Nat):Option ((s:dn)×(l.T->s.T)):=match ti.isAgg with
 |true=>match l.zU off with
  |some ⟨l2,f1⟩=>match l2.x3 ti.size with
   |some ⟨mi,f2⟩=>Q1 ⟨.agg mi,λx=>f2 (f1 x)⟩
   |none=>Ld
  |none=>Ld
 |false=>l.at off
def bm9{ti:nk}{q:(s:dn)×(l.T->s.T)}(h:NZ ti l off=Q1 q)(x:l.T):sj ti (a6 l x) off=Q1 (enc q.1 (q.2 x)):=by
 unfold NZ at h;split at h;split at h;rename_i l2 f1 h1;split at h;rename_i mi f2 h2;cases h;obtain⟨a,a2⟩:=LG l off _ h1 x;obtain⟨b,c⟩:=LP l2 ti.size _ h2 (f1 x)
 grind[sj,ui,enc]
 cases h;cases h
 grind[sj,LR]
def Qy(T:cy)(Γ:List dn)(t:TypeId)(c i:ar)(off:Nat):Option (mR Γ):=match T t with
 |some ti=>match oa Γ c with
  |some (.hF l)=>match mq Γ c (.hF l)with
   |some fc=>match oa Γ i with
    |some (.int k)=>match mq Γ i (.int k)with
     |some a=>match NZ ti l off with
      |some ⟨s,f⟩=>Q1 ⟨s,λe=>((fc e)[(a e).toNat]?).map f⟩
      |none=>Ld
     |none=>Ld
    |_=>Ld
   |none=>Ld
  |_=>Ld
 |none=>Ld
def aX0{T:cy}{Φ:lv}(h:Qy T Γ t c i off=Q1 r):r.Ok T Φ (.x4 t el z c i off):=by
 intro e v hv;unfold Qy at h;split at h;rename_i ti g;split at h;split at h;rename_i fc a;split at h;split at h;rename_i j b;split at h;rename_i s f hf;cases h;simp only at hv;have mH:∀c,(tW el z c).bF 0=Q1 (.row el z (rowsOf c)):=λc=>by simp[tW,bg.mQ]
 have k:∀es,rowsOf (.rs es)=es:=λ_=>rfl;simp only[iv,mM _ _ _ a e,mM _ _ _ b e,enc,py,mH,k,nm,aO,g];cases d:(fc e)[(j e).toNat]? with
 |none=>rw[d]at hv;cases hv
 |some x =>rw[d]at hv;cases hv;exact bm9 hf x
 cases h;cases h;cases h;cases h;cases h;cases h
def dr.w_:(l:dr)->(a:dr)->Option (l.T->a.T->l.T)
 |_,.nil=>Q1 λx _=>x
 | .one s,.one s'=>match h:s'.nR s with
  |true=>Q1 λ_ y=>Cl h y
  |false=>Ld
 | .cons s _,.one s'=>match h:s'.nR s with
  |true=>Q1 λx y=>(Cl h y,x.2)
  |false=>Ld
 | .cons s l,.cons s' a=>match h:s'.nR s with
  |true=>match l.w_ a with
   |some f=>Q1 λx y=>(Cl h y.1,f x.2 y.2)
   |none=>Ld
  |false=>Ld
 |_,_=>Ld
def TV:∀(l a:dr) (f:l.T->a.T->l.T),l.w_ a=Q1 f->∀x y,a6 l (f x y)=a6 a y++(a6 l x).drop a.len/\a.len<=l.len
 |l,.nil,f,h=>by cases l<;>(simp only[dr.w_]at h;cases h;exact λx y=>⟨by simp[a6,dr.len],c_ _⟩)
 | .nil,.one s',f,h=>by simp[dr.w_]at h
 | .nil,.cons s' a,f,h=>by simp[dr.w_]at h
 | .one s,.one s',f,h=>by unfold dr.w_ at h;split at h;rename_i b;cases h;exact λx y=>⟨by simp[a6,Dj,dr.len],aB _⟩;cases h
 | .one s,.cons s' a,f,h=>by simp[dr.w_]at h
 | .cons s l,.one s',f,h=>by unfold dr.w_ at h;split at h;rename_i b;cases h;exact λx y=>⟨by simp[a6,Dj,dr.len],by simp[dr.len]⟩;cases h
 | .cons s l,.cons s' a,f,h=>by unfold dr.w_ at h;split at h;rename_i b;split at h;rename_i c hf;cases h;intro x y;obtain⟨h1,h2⟩:=TV l a c hf x.2 y.2;exact⟨by simp only[a6,Dj,dr.len,gB,h1,cL],by simp[dr.len];exact h2⟩;cases h;cases h
def dr.Cz:(l:dr)->Nat->(a:dr)->Option (l.T->a.T->l.T)
 |l,0,a=>l.w_ a
 | .cons _ l,n+1,a=>match l.Cz n a with
  |some f=>Q1 λx y=>(x.1,f x.2 y)
  |none=>Ld
 |_,_+1,_=>Ld
def aA4:∀(l:dr) (n:Nat) (a:dr) (f:l.T->a.T->l.T),l.Cz n a=Q1 f->∀x y,a6 l (f x y)=qz (a6 l x) n (a6 a y)/\n+a.len<=l.len
 |l,0,a,f,h=>by
  intro x y;have h':l.w_ a=Q1 f:=by cases l<;>simpa only[dr.Cz]using h
  obtain⟨h1,h2⟩:=TV l a f h' x y;exact⟨by simp[qz,h1,ui],by simpa using h2⟩
 | .nil,n+1,a,f,h=>by simp[dr.Cz]at h
 | .one s,n+1,a,f,h=>by simp[dr.Cz]at h
 | .cons s l,n+1,a,f,h=>by
  simp only[dr.Cz]at h;split at h;rename_i b hf;cases h;intro x y;obtain⟨h1,h2⟩:=aA4 l n a b hf x.2 y;refine⟨?_,by simp[dr.len];omega⟩;simp only[a6,qz,jC,cL];have e:n+1+(a6 a y).length=(n+(a6 a y).length)+1:=by omega
  rw[e,gB,h1,qz];cases h
def MA:(s:dn)->Option ((l:dr)×(s.T->l.T))
 | .agg l=>match l.cells with
  |true=>Q1 ⟨l,λx=>x⟩
  |false=>Ld
 |s=>match s.cell with
  |true=>Q1 ⟨.one s,λx=>x⟩
  |false=>Ld
def aX8{q:(l:dr)×(s.T->l.T)}(h:MA s=Q1 q)(x:s.T):(enc s x).cells=Q1 (a6 q.1 (q.2 x))/\(a6 q.1 (q.2 x)).all ar.one=No:=by
 cases s<;>simp only[MA]at h<;>first
  | (cases h;done)
  | (cases h;exact⟨rfl,rfl⟩)
  | (split at h;rename_i a;cases h;exact⟨rfl,Jc a x⟩;cases h)
def qI{α β:Type}(xs:List α)(i:Nat)(f:α->β->α)(y:β):Option (List α):=match xs[i]? with
 |some x=>Q1 (xs.set i (f x y))
 |none=>Ld
def Qz(T:cy)(Γ:List dn)(t:TypeId)(c i:ar)(off:Nat)(v:ar):Option (mR Γ):=match T t with
 |some ti=>match oa Γ c with
  |some (.hF l)=>match mq Γ c (.hF l)with
   |some fc=>match oa Γ i with
    |some (.int k)=>match mq Γ i (.int k)with
     |some b=>match oa Γ v with
      |some s=>match mq Γ v s with
       |some fv=>match MA s with
        |some ⟨a,g⟩=>match l.Cz off a with
         |some f=>match ax a.len ti.size with
          |true=>Q1 ⟨.hF l,λe=>qI (fc e) (b e).toNat f (g (fv e))⟩
          |false=>Ld
         |none=>Ld
        |none=>Ld
       |none=>Ld
      |none=>Ld
     |none=>Ld
    |_=>Ld
   |none=>Ld
  |_=>Ld
 |none=>Ld
def aS4{T:cy}{Φ:lv}(h:Qz T Γ t c i off u=Q1 r):r.Ok T Φ (.za t el z c i off u):=by
 intro e v hv;unfold Qz at h;split at h;rename_i ti m;split at h;rename_i l _;split at h;rename_i fc a;split at h;split at h;rename_i n b;split at h;split at h;rename_i fv d;split at h;rename_i o g p;split at h;rename_i f hf;split at h;rename_i j;have j:=ae j;cases h;simp only[qI]at hv;have mH:∀c,(tW el z c).bF 0=Q1 (.row el z (rowsOf c)):=λc=>by simp[tW,bg.mQ]
 have q:∀es,rowsOf (.rs es)=es:=λ_=>rfl;have hc:=mM _ _ _ a e;obtain⟨c1,c2⟩:=aX8 p (fv e);simp only[iv,hc,mM _ _ _ b e,mM _ _ _ d e,sq,enc,nm,c1,m,mH,q,aO];cases k:(fc e)[(n e).toNat]? with
 |none=>rw[k]at hv;cases hv
 |some x =>rw[k]at hv;cases hv;obtain⟨s,w⟩:=aA4 l off o f hf x (g (fv e));simp only[ai];rw[cr ⟨by rw[ui,j],by rw[ui,ui];exact w,c2⟩];simp only[bg.mQ,me,List.length_set,eZ];rw[<-s,List.map_set]
 cases h;cases h;cases h;cases h;cases h;cases h;cases h;cases h;cases h;cases h
def aC8:(n:Nat)->Option ((l:dr)×l.T)
 | 0=>Ld
 | 1=>Q1 ⟨.one (.int .i64),(0:Int)⟩
 |n+2=>match aC8 (n+1)with
  |some ⟨l,z⟩=>Q1 ⟨.cons (.int .i64) l,((0:Int),z)⟩
  |none=>Ld
def GZ{α:Type}(bytes:Nat)(z:α)(n:Int):Option (List α):=bif Eo (aa.wrap n=n)&&(Eo (0<n)&&(Eo ((2*n.toNat+1000)*bytes<=2^48)&&Eo (n.toNat<=2^62)))then Q1 (cq n.toNat z)else Ld
def Eu:List ar->List ar->Bool
 | [],[]=>No
 | .b4 (.int .i64 a)::az,.b4 (.int .i64 b)::fA=>Eo (a=b)&&Eu az fA
 |_,_=>N2
def at1:∀ {az fA:List ar},Eu az fA=No->az=fA
 | [],[],_=>rfl
 | [],b::fA,h=>by simp[Eu]at h
 |a::az,fA,h=>by unfold Eu at h;split at h;rename_i h2;cases h2;rename_i e c f d h1;cases h1;simp only[ab,kA]at h;rw[h.1,at1 h.2];cases h
def QA(T:cy)(Γ:List dn)(sT:TypeId)(x:ar):Option (mR Γ):=match T sT with
 |some { j4:=.slice el,.. }=>match T el with
  |some a=>match aC8 a.size with
   |some ⟨l,z⟩=>match Eu a.zeroCells (a6 l z)&&cM 0 a.size with
    |true=>match oa Γ x with
     |some (.int k)=>match mq Γ x (.int k)with
      |some b=>Q1 ⟨.hF l,λe=>GZ a.bytes z (b e)⟩
      |none=>Ld
     |_=>Ld
    |false=>Ld
   |none=>Ld
  |none=>Ld
 |_=>Ld
def aS6{T:cy}{Φ:lv}{sT:TypeId}(h:QA T Γ sT x=Q1 r):r.Ok T Φ (.CE sT x):=by
 intro e v hv;unfold QA at h;split at h;rename_i f;split at h;rename_i g b;split at h;split at h;rename_i c;simp only[ab,bP]at c;split at h;split at h;rename_i a d;cases h;simp only[GZ]at hv;cases hc:(Eo (aa.wrap (a e)=a e)&&(Eo (0<a e)&&(Eo ((2*(a e).toNat+1000)*g.bytes<=2^48)&&Eo ((a e).toNat<=2^62))))with
 |false=>rw[hc]at hv;cases hv
 |true =>rw[hc]at hv;simp only[ab,kA]at hc;cases hv;simp only[iv,Mc,f,b,mM _ _ _ d e,enc];rw[cr ⟨hc.1,hc.2.1,hc.2.2.1,hc.2.2.2,c.2⟩,at1 c.1];simp
 cases h;cases h;cases h;cases h;cases h;cases h
def Qm(Γ:List dn)(x:ar):Option (mR Γ):=match mq Γ x .str with
 |some _=>Q1 ⟨.sF,λ_=>Q1 ()⟩
 |none=>Ld
def aX6{T:cy}{Φ:lv}(h:Qm Γ x=Q1 r):r.Ok T Φ (.B1 x):=by intro e v hv;unfold Qm at h;split at h;rename_i f hf;cases h;simp only[iv,mM _ _ _ hf e,enc];cases h
def Mb(Γ:List dn)(x p:ar):Option (mR Γ):=match mq Γ x .str with
 |some a=>match mq Γ p (.int .i64)with
  |some b=>Q1 ⟨.bool,λe=>Q1 (Eo ((b e).toNat<(a e).size))⟩
  |none=>Ld
 |none=>Ld
def aR1{T:cy}{Φ:lv}(h:Mb Γ x p=Q1 r):r.Ok T Φ (.more x p):=by intro e v hv;unfold Mb at h;split at h;rename_i c a;split at h;rename_i d b;cases h;cases hv;simp only[iv,mM _ _ _ a e,mM _ _ _ b e,enc];cases h;cases h
def Cu(b:ByteArray)(n:Int):Option (Int×Int×Int):=bif Eo (n.toNat<b.size)then Q1 ((n.toNat:Int),((bI b n.toNat).1:Int),((n.toNat+(bI b n.toNat).2:Nat):Int))else Ld
def LB(Γ:List dn)(x p:ar):Option (mR Γ):=match mq Γ x .str with
 |some a=>match mq Γ p (.int .i64)with
  |some b=>Q1 ⟨.ed (.cons (.int .i64) (.cons (.int .i32) (.one (.int .i64)))),λe=>Cu (a e) (b e)⟩
  |none=>Ld
 |none=>Ld
def aN3{T:cy}{Φ:lv}(h:LB Γ x p=Q1 r):r.Ok T Φ (.Cm x p):=by
 intro e v hv;unfold LB at h;split at h;rename_i c a;split at h;rename_i d b;cases h;simp only[Cu]at hv;cases hc:Eo ((d e).toNat<(c e).size)with
 |false=>rw[hc]at hv;cases hv
 |true =>rw[hc]at hv;cases hv;simp only[iv,mM _ _ _ a e,mM _ _ _ b e,enc,a6,hc]
 cases h;cases h
def ap4(T:cy):Nat->TypeId->Option dn
 | 0,_=>Ld
 |k+1,t=>match T t with
  |some { j4:=.int k,.. }=>Q1 (.int k)
  |some { j4:=.bool,.. }=>Q1 .bool
  |some { j4:=.string,.. }=>Q1 .str
  |some { j4:=.slice e,.. }=>match ap4 T k e with
   |some s=>Q1 (.hF (.one s))
   |none=>Ld
  |_=>Ld
def JY(T:cy)(ck:nW)(j:Nat)(s:dn):Option ((s':dn)×(s.T->s'.T)):=match pw ck j with
 |some c=>match ap4 T 4 c.2.1 with
  |some s'=>Q1 ⟨.hF (.one s'),λ_=>[]⟩
  |none=>Ld
 |none=>Q1 ⟨s,λx=>x⟩
def Sa{T:cy}{r:(s':dn)×(s.T->s'.T)}(h:JY T ck j s=Q1 r)(x:s.T):zW ck j (enc s x)=enc r.1 (r.2 x):=by unfold JY at h;unfold zW;split at h;rename_i c hc;split at h;cases h;rw[hc];rfl;cases h;rename_i hc;cases h;rw[hc]
def DZ(T:cy)(ck:nW):Nat->(l:dr)->Option ((a:dr)×(l.T->a.T))
 |_,.nil=>Q1 ⟨.nil,λx=>x⟩
 |j,.one s=>match JY T ck j s with
  |some ⟨s',f⟩=>Q1 ⟨.one s',f⟩
  |none=>Ld
 |j,.cons s l=>match JY T ck j s with
  |some ⟨s',f⟩=>match DZ T ck (j+1) l with
   |some ⟨a,g⟩=>Q1 ⟨.cons s' a,λx=>(f x.1,g x.2)⟩
   |none=>Ld
  |none=>Ld
def TC{T:cy}:∀(j:Nat) (l:dr) (r:(a:dr)×(l.T->a.T)),DZ T ck j l=Q1 r->∀x,rp ck j (a6 l x)=a6 r.1 (r.2 x)
 |_,.nil,r,h,x=>by simp only[DZ]at h;cases h;rfl
 |j,.one s,r,h,x=>by simp only[DZ]at h;split at h;rename_i s' f hf;cases h;simp only[a6,rp,Sa hf x];cases h
 |j,.cons s l,r,h,x=>by simp only[DZ]at h;split at h;rename_i s' f hf;split at h;rename_i a g b;cases h;simp only[a6,rp,Sa hf x.1,TC (j+1) l _ b x.2];cases h;cases h
def Ow(l:dr)(j:Nat):Bool:=match l.at j with
 |some ⟨.nl,_⟩=>No
 |_=>N2
def aX1(h:Ow l j=No)(x:l.T):(a6 l x)[j]?=Q1 (.b4 (.slice Ld 0 0)):=by unfold Ow at h;split at h;rename_i f hf;exact LR l j _ hf x;cases h
def zs{α β:Type}(f:α->β)(xs:List α):Option (List β):=bif Eo (16*xs.length<=mB)then Q1 (xs.map f)else Ld
def L7(T:cy)(Γ:List dn)(ck:nW)(x:ar):Option (mR Γ):=match oa Γ x with
 |some (.hF l)=>match mq Γ x (.hF l),DZ T ck 0 l,ck.all (λc=>cM c.1 16&&Ow l c.1)with
  |some a,Q1 ⟨b,f⟩,No=>Q1 ⟨.hF b,λe=>zs f (a e)⟩
  |_,_,_=>Ld
 |_=>Ld
def aG9{T:cy}{Φ:lv}(h:L7 T Γ ck x=Q1 r):r.Ok T Φ (.Cd ck x):=by
 intro e v hv;unfold L7 at h;split at h;rename_i l hl;split at h;rename_i i k f g hf hc;cases h;simp only[zs]at hv;have a:Eo (16*(i e).length<=mB)=No:=by grind
 rw[a]at hv;cases hv;have b:A5 ck ((i e).map (a6 l))=No:=by
  simp only[A5,ab,aI,aj];refine⟨⟨a,λc d=>?_⟩,λr j c d=>?_⟩
  grind
  obtain⟨y,_,rfl⟩:=aM.1 j;have:=aj.1 hc c d;simp only[ab]at this;rw[aX1 this.2 y];rfl
 simp only[iv,mM _ _ _ g e,enc,b,bZ];congr 2;refine List.map_congr_left λy _=>?_;exact TC 0 l _ hf y;cases h;cases h
def uM{α:Type}(xs:List α)(i:Int):Option Unit:=(xs[i.toNat]?).map λ_=>()
def Qx(Γ:List dn)(c i:ar)(off:Nat):Option (mR Γ):=match oa Γ c with
 |some (.hF l)=>match mq Γ c (.hF l),oa Γ i with
  |some fc,Q1 (.int k)=>match mq Γ i (.int k),cM off l.len with
   |some a,No=>Q1 ⟨.sF,λe=>uM (fc e) (a e)⟩
   |_,_=>Ld
  |_,_=>Ld
 |_=>Ld
def bb2{T:cy}{Φ:lv}(h:Qx Γ c i off=Q1 r):r.Ok T Φ (.AG c i off):=by
 intro e v hv;unfold Qx at h;split at h;split at h;rename_i fc k a _;split at h;rename_i f b g;cases h;simp only[uM]at hv;cases d:(fc e)[(f e).toNat]? with
 |none=>rw[d]at hv;cases hv
 |some y=>simp only[iv,mM _ _ _ a e,mM _ _ _ b e,enc,rowsOf,nm,aO,d,ai,ui,g]
 cases h;cases h;cases h
def U_{a b:dr}(h:a.nR b=No)(x:a.T):b.T:=(dr.sR a b h)▸x
def aG2{a b:dr}(h:a.nR b=No)(x:a.T):a6 b (U_ h x)=a6 a x:=by have:=dr.sR a b h;subst this;rfl
def Io(l:dr)(m i:Nat):Option ((a:dr)×(l.T->a.T)):=match l.zU (i*m)with
 |some ⟨l2,f1⟩=>match l2.x3 m with
  |some ⟨mi,f2⟩=>Q1 ⟨mi,λx=>f2 (f1 x)⟩
  |none=>Ld
 |none=>Ld
def aV4{i:Nat}{q:(a:dr)×(l.T->a.T)}(h:Io l m i=Q1 q)(x:l.T):((a6 l x).drop (i*m)).take m=a6 q.1 (q.2 x)/\i*m+m<=(a6 l x).length:=by
 unfold Io at h;split at h;rename_i l2 f1 h1;split at h;rename_i mi f2 h2;cases h;obtain⟨b,a2⟩:=LG _ _ _ h1 x;obtain⟨c,d⟩:=LP _ _ _ h2 (f1 x)
 grind[ui]
 cases h;cases h
def Fj(m:Nat)(s:dr)(l:dr):Nat->Nat->Option (l.T->List s.T)
 | 0,_=>Q1 λ_=>[]
 |k+1,i=>match Io l m i with
  |some ⟨mi,f⟩=>match h:mi.nR s with
   |true=>match Fj m s l k (i+1)with
    |some g=>Q1 λx=>U_ h (f x)::g x
    |none=>Ld
   |false=>Ld
  |none=>Ld
def R'{s:dr}:∀(k i:Nat) (g:l.T->List s.T),Fj m s l k i=Q1 g->∀x,(g x).length=k/\∀j y,(g x)[j]?=Q1 y->((a6 l x).drop ((i+j)*m)).take m=a6 s y/\(i+j)*m+m<=(a6 l x).length
 | 0,i,g,h,x=>by grind[Fj]
 |k+1,i,g,h,x=>by
  unfold Fj at h;split at h;rename_i mi f h2;split at h;split at h;rename_i b c;cases h;obtain⟨d,e⟩:=R' k (i+1) b c x;refine⟨by simp[d],λj y a=>?_⟩;cases j;simp only[List.getElem?_cons_zero,ah]at a;subst a;rw[aG2];exact aV4 h2 x
  grind
  cases h;cases h;cases h
def F4(T:cy)(Γ:List dn)(t:TypeId)(x i:ar):Option (mR Γ):=match oa Γ i with
 |some (.int k)=>match mq Γ i (.int k)with
  |some b=>match T t with
   |some { j4:=.array len el,.. }=>match T el with
    |some a=>match oa Γ x with
     |some (.agg l)=>match mq Γ x (.agg l)with
      |some c=>match Io l a.size 0 with
       |some ⟨s,_⟩=>match Fj a.size s l len 0 with
        |some g=>match a.isAgg with
         |true=>Q1 ⟨.agg s,λe=>nth (g (c e)) (b e)⟩
         |false=>Ld
        |none=>Ld
       |none=>Ld
      |none=>Ld
     |_=>Ld
    |none=>Ld
   |_=>Ld
  |none=>Ld
 |_=>Ld
def bW9{T:cy}{Φ:lv}(h:F4 T Γ t x i=Q1 r):r.Ok T Φ (.index t x i):=by
 intro e v hv;unfold F4 at h;split at h;split at h;rename_i d b;split at h;rename_i len el _ _ _ _ f;split at h;rename_i m he;split at h;split at h;rename_i j c;split at h;split at h;rename_i g k;split at h;rename_i a;cases h;simp only[nth]at hv;by_cases cu:0<=d e;simp only[cu]at hv;obtain⟨n,l⟩:=R' _ _ _ k (j e);have h1:d e<(len:Int):=by grind
 have:=l _ _ hv;rw[a_]at this;simp only[iv,mM _ _ _ c e,mM _ _ _ b e,enc,vZ,f,he,cu,h1,and_self,me,Ay,sj,a];rw[cr this.2,this.1];simp[cu]at hv;cases h;cases h;cases h;cases h;cases h;cases h;cases h;cases h;cases h
variable {nu:dn}{v:nu.T}{Γ:List dn}
def orElse'{α:Type}:Option α->Option α->Option α
 |some a,_=>Q1 a
 |none,b=>b
def GN(T:cy)(a:List c9)(Γ:List dn):nU->Option (mR Γ)
 | .bin o t x y=>Qc T Γ o t x y
 | .un o x=>Qw Γ o x
 | .conv s d x=>L0 T Γ s d x
 | .idx t x i=>Qj T Γ t x i
 | .index t x i=>orElse' (DN T Γ t x i) (F4 T Γ t x i)
 | .Cq t x b7 a7=>Qu T Γ t x b7 a7
 | .len t x=>Qo T Γ t x
 | .pP l=>Qr Γ l
 | .yT l=>Qq Γ l
 | .cat sT xT x y=>Qd T Γ sT xT x y
 | .call f args b=>GU Γ f args b a
 | .rows l=>LS Γ l
 | .look t c ix ok=>LO T Γ t c ix ok
 | .xS t c ix ok=>Q4 T Γ t c ix ok
 | .qe t c ix v=>LI T Γ t c ix v
 | .B_ t c=>Ma T Γ t c
 | .Aq=>Q1 ⟨.sF,λ_=>Q1 ()⟩
 | .z7 t c i=>Qk T Γ t c i
 | .x4 t _ _ c i off=>Qy T Γ t c i off
 | .za t _ _ c i off v=>Qz T Γ t c i off v
 | .B0 x=>Ql Γ x
 | .As n x=>Qt Γ n x
 | .CE t x=>QA T Γ t x
 | .BR t g=>Qg T Γ t g
 | .B1 x=>Qm Γ x
 | .more x p=>Mb Γ x p
 | .Cm x p=>LB Γ x p
 | .Cd ck x=>L7 T Γ ck x
 | .AG c i off=>Qx Γ c i off
def bP7{T:cy}{Φ:lv}{b:List c9}(j:∀t∈b,t.Ok Φ){o:nU}{r:mR Γ}(h:GN T b Γ o=Q1 r):r.Ok T Φ o:=by
 cases o with
 |bin o t x y=>exact ba8 h
 |un o x=>exact bQ0 h
 |conv s d x=>exact aR3 h
 |idx t x i=>exact aT0 h
 |index t x i=>
  cases h1:DN T Γ t x i with
  |some a=>rw[show GN T b Γ (.index t x i)=orElse' (DN T Γ t x i) (F4 T Γ t x i)from rfl,h1]at h;cases h;exact cb0 h1
  |none=>rw[show GN T b Γ (.index t x i)=orElse' (DN T Γ t x i) (F4 T Γ t x i)from rfl,h1]at h;exact bW9 h
 |Cq t x b7 a7=>exact aX7 h
 |len t x=>exact ba4 h
 |pP l=>exact bP6 h
 |yT l=>exact bP5 h
 |cat sT xT x y=>exact bb4 h
 |call f args k=>exact ax1 b j h
 |rows l=>exact aR0 h
 |look t c ix ok=>exact aO1 h
 |xS t c ix ok=>exact cd5 h
 |qe t c ix v=>exact aN7 h
 |B_ t c=>exact aJ9 h
 |Aq=>cases h;exact λe v _=>rfl
 |z7 t c i=>exact aT5 h
 |x4 t _ _ c i off=>exact aX0 h
 |za t _ _ c i off v=>exact aS4 h
 |B0 x=>exact aX5 h
 |As n x=>exact aW2 h
 |CE t x=>exact aS6 h
 |BR t g=>exact bP2 h
 |B1 x=>exact aX6 h
 |more x p=>exact aR1 h
 |Cm x p=>exact aN3 h
 |Cd ck x=>exact aG9 h
 |AG c i off=>exact bb2 h
def a8{α β:Type}:Option α->(α->Option β)->Option β
 |some a,f=>f a
 |none,_=>Ld
omit [nO]in
def aG7{α β:Type}{x:Option α}{f:α->Option β}{v:β}(h:a8 x f=Q1 v):∃a,x=Q1 a/\f a=Q1 v:=by cases x;cases h;rename_i a;exact⟨a,rfl,h⟩
def iter{α β:Type}(F:(α->Option β)->α->Option β):Nat->α->Option β
 | 0,_=>Ld
 |n+1,x=>F (iter F n) x
def many:Nat:=Classical.choose (⟨2^100,aB _⟩:∃n:Nat,2^100<=n)
class Fuel where
 n:Nat
instance ce9:Fuel:=⟨many⟩
def rounds[Fuel]{α β:Type}(F:(α->Option β)->α->Option β)(x:α):Option β:=iter F Fuel.n x
abbrev LCtx:=List (Nat×dr)
@[reducible] def Hs (R:Type):LCtx->Type
 | []=>Unit
 | (_,s)::C=>(s.T->Option R)×Hs R C
def y'(R:Type):(C:LCtx)->Nat->Option ((s:dr)×(Hs R C->s.T->Option R))
 | [],_=>Ld
 | (l,s)::C,a=>match ax l a with
  |true=>Q1 ⟨s,λκ=>κ.1⟩
  |false=>match y' R C a with
   |some ⟨s',g⟩=>Q1 ⟨s',λκ=>g κ.2⟩
   |none=>Ld
def sW:(l:dr)->(Γ:List dn)->(Γ':List dn)×(l.T->Env Γ->Env Γ')
 | .nil,Γ=>⟨Γ,λ_ e=>e⟩
 | .one s,Γ=>⟨s::Γ,λx e=>(x,e)⟩
 | .cons s l,Γ=>match sW l (s::Γ)with
  |⟨Γ',p⟩=>⟨Γ',λx e=>p x.2 (x.1,e)⟩
def aw1:∀(l:dr) (Γ:List dn) (x:l.T) (e:Env Γ),pF (sW l Γ).1 ((sW l Γ).2 x e)=(a6 l x).reverse++pF Γ e
 | .nil,_,_,_=>rfl
 | .one _,_,_,_=>rfl
 | .cons s l,Γ,x,e=>by have:=aw1 l (s::Γ) x.2 (x.1,e);simp only[sW,this,a6,List.reverse_cons,List.append_assoc,pF,List.singleton_append]
def M_(H:Nat->Option dr)(Γ:List dn)(l:Nat)(inits:List ar):Nat->Option dr
 | 0=>Ld
 |m+1=>match H l with
  |some ls=>match q1 Γ inits ls with
   |some _=>Q1 ls
   |none=>M_ H Γ (l+1000) inits m
  |none=>Ld
def den(T:cy)(d:List c9)(H:Nat->Option dr)(nu:dn):nf->(Γ:List dn)->(C:LCtx)->Env Γ->Hs nu.T C->Option nu.T
 | .stuck,_,_=>λ_ _=>Ld
 | .ret c l,Γ,C=>match l.all (DF Γ)with
  |true=>match mq Γ c nu with
   |some f=>λe _=>Q1 (f e)
   |none=>λ_ _=>Ld
  |false=>λ_ _=>Ld
 | .op o bb pat r,Γ,C=>match ax bb Γ.length with
  |true=>match GN T d Γ o with
   |some ⟨s,g⟩=>match rG pat s Γ with
    |some ⟨Γ',p⟩=>λe κ=>a8 (g e) λv=>den T d H nu r Γ' C (p v e) κ
    |none=>λ_ _=>Ld
   |none=>λ_ _=>Ld
  |false=>λ_ _=>Ld
 | .test i a b,Γ,C=>match A9 Γ i .bool with
  |some f=>λe κ=>bif f e then den T d H nu a Γ C e κ else den T d H nu b Γ C e κ
  |none=>λ_ _=>Ld
 | .loop l k inits body,Γ,C=>match M_ H Γ l inits 4 with
  |some ls=>match ax l Γ.length&&(ax ls.len k&&body.ff (l+k+1))with
   |true=>match q1 Γ inits ls with
    |some h=>λe κ=>rounds (λrec x=>den T d H nu body (.bool::(sW ls Γ).1) ((l,ls)::C) (N2,(sW ls Γ).2 x e) (rec,κ)) (h e)
    |none=>λ_ _=>Ld
   |false=>λ_ _=>Ld
  |none=>λ_ _=>Ld
 | .again l j9,Γ,C=>match y' nu.T C l with
  |some ⟨s,g⟩=>match q1 Γ j9 s with
   |some f=>λe κ=>g κ (f e)
   |none=>λ_ _=>Ld
  |none=>λ_ _=>Ld
def aL1{l:List Nat}(h:l.all (DF Γ)=No)(e:Env Γ):∀j∈l,∃es,re Γ e j=.rs es:=λj hj=>aB0 (aj.1 h j hj) e
def B3{T:cy}{Φ:lv}{G:List c9}(u:∀t∈G,t.Ok Φ){H:Nat->Option dr}:∀(r:nf) (Γ:List dn) (C:LCtx) (e:Env Γ) (κ:Hs nu.T C) (A:Nat->List ar->Prop),
  (∀l s g,y' nu.T C l=Q1 ⟨s,g⟩->∀x,g κ x=Q1 v->A l (a6 s x))->den T G H nu r Γ C e κ=Q1 v->sN T Φ (λc=>c=enc nu v) r Γ.length (pF Γ e) A
 | .stuck,Γ,C,e,κ,A,d,h=>by simp[den]at h
 | .ret c l,Γ,C,e,κ,A,d,h=>by
  simp only[den]at h;cases hl:l.all (DF Γ)with
  |false=>simp only[hl]at h;cases h
  |true=>
   simp only[hl]at h;cases hf:mq Γ c nu with
   |none=>simp only[hf]at h;cases h
   |some f =>simp only[hf]at h;cases h;exact sN.Py (λj hj=>aL1 hl e j hj) (mM _ _ _ hf e)
 | .op o bb pat r,Γ,C,e,κ,A,d,h=>by
  simp only[den]at h;cases I:ax bb Γ.length with
  |false=>simp only[I]at h;cases h
  |true=>
   simp only[I]at h;have I:=ae I;subst I;cases ho:GN T G Γ o with
   |none=>simp only[ho]at h;cases h
   |some ap2=>
    obtain⟨s,g⟩:=ap2;simp only[ho]at h;cases hp:rG pat s Γ with
    |none=>simp only[hp]at h;cases h
    |some x=>
     obtain⟨Γ',p⟩:=x;simp only[hp]at h;obtain⟨w,h1,h2⟩:=aG7 h;obtain⟨vs,b1,b2,b3⟩:=JK _ _ _ _ hp w e;have J:=B3 u r Γ' C (p w e) κ A d h2;have P:=bP7 u ho e w h1;have hlen:Γ'.length=Γ.length+vs.length:=by have:=lU eP b1;simp only[sg,aS]at this;omega
     have Q:=b1;rw[hlen,Q]at J;refine sN.OV vs ?_ b2 J;have:=b3 [];simp only[List.nil_append,aS,sg]at this;rw[Nat.add_comm,this];exact P
 | .test i a b,Γ,C,e,κ,A,d,h=>by
  simp only[den]at h;cases hf:A9 Γ i .bool with
  |none=>simp only[hf]at h;cases h
  |some f =>simp only[hf]at h;refine sN.test (f e) (PO hf e) (λR=>?_) (λR=>?_);rw[R]at h;exact B3 u a Γ C e κ A d h;rw[R]at h;exact B3 u b Γ C e κ A d h
 | .loop l k inits body,Γ,C,e,κ,A,d,h=>by
  simp only[den]at h;cases K:M_ H Γ l inits 4 with
  |none=>simp only[K]at h;cases h
  |some ls=>
   simp only[K]at h;cases N:(ax l Γ.length&&(ax ls.len k&&body.ff (l+k+1)))with
   |false=>simp only[N]at h;cases h
   |true=>
    simp only[N]at h;simp only[ab,Nat.beq_eq]at N;obtain⟨rfl,hk,M⟩:=N;cases z:q1 Γ inits ls with
    |none=>simp only[z]at h;cases h
    |some fi=>
     simp only[z]at h;refine sN.loop (λn j9=>∃x,j9=a6 ls x/\iter (λrec x=>den T G H nu body (.bool::(sW ls Γ).1) ((Γ.length,ls)::C) (N2,(sW ls Γ).2 x e) (rec,κ)) n x=Q1 v) M many ?_ ?_;refine⟨fi e,?_,h⟩;have:=xB _ _ _ z e;rw[DC]at this;exact this;rintro n j9 ⟨x,rfl,hx⟩ hlen;cases n;cases hx;rename_i n;have J:=B3 u body (.bool::(sW ls Γ).1) ((Γ.length,ls)::C) (N2,(sW ls Γ).2 x e) (iter (λrec x=>den T G H nu body (.bool::(sW ls Γ).1) ((Γ.length,ls)::C) (N2,(sW ls Γ).2 x e) (rec,κ)) n,κ)
      (λB=>if B=Γ.length then(λD=>∃m',m'<n+1/\∃x,D=a6 ls x/\iter (λrec x=>den T G H nu body (.bool::(sW ls Γ).1) ((Γ.length,ls)::C) (N2,(sW ls Γ).2 x e) (rec,κ)) m' x=Q1 v)else A B)
      (λB s g hf y hy=>by
       simp only[y']at hf;cases m:ax Γ.length B with
       |true =>simp only[m]at hf;have m:=ae m;subst m;cases hf;simp only;exact⟨n,Nat.lt_succ_self _,y,rfl,hy⟩
       |false=>
        simp only[m]at hf;have S:B≠Γ.length:=λhe=>by rw[he,eZ]at m;cases m
        cases E:y' nu.T C B with
        |none=>simp only[E]at hf;cases hf
        |some q=>
         simp only[E]at hf;cases hf;simp only[S];exact d B _ _ E y hy) hx
     have O:=aw1 ls Γ x e;have e2:(dn.bool::(sW ls Γ).1).length=Γ.length+k+1:=by have:=lU eP O;simp only[sg,aS,List.length_reverse]at this;simp only[List.length_cons];omega
     rw[e2]at J;have e3:pF (dn.bool::(sW ls Γ).1) (N2,(sW ls Γ).2 x e)=.b4 (.bool N2)::((a6 ls x).reverse++pF Γ e):=by rw[<-O];rfl
     rw[e3]at J;exact J
 | .again l j9,Γ,C,e,κ,A,d,h=>by
  simp only[den]at h;cases E:y' nu.T C l with
  |none=>simp only[E]at h;cases h
  |some q=>
   obtain⟨s,g⟩:=q;simp only[E]at h;cases hf:q1 Γ j9 s with
   |none=>simp only[hf]at h;cases h
   |some f=>
    simp only[hf]at h;have:=d l s g E (f e) h;rw[<-xB _ _ _ hf e,DC]at this;intro I;have O:env (pF Γ e).reverse=re Γ e:=by rw[vS,sg];rfl
    intro hL;rw[O];exact this
def uW(T:cy)(b:List c9)(H:Nat->Option dr)(mW:dr)(nu:dn)(a:List ar)(r:nf):mW.T->Option nu.T:=match su a mW []with
 |some ⟨Γ,p⟩=>λx=>den T b H nu r Γ [] (p x ()) ()
 |none=>λ_=>Ld
def GK:List (Nat×dr)->Nat->Option dr
 | [],_=>Ld
 | (g,s)::l,f=>match ax g f with
  |true=>Q1 s
  |false=>GK l f
def aZ6{P:Program}{T:cy}(cb:mz P T){Φ:lv}(d:Ak P Φ){F:FuncId->Option Func}(dC:∀f fn,F f=Q1 fn->P.funcs[f]?=Q1 fn)(hm:P.follows .mixedOrders=No){j:List c9}(e:∀t∈j,t.Ok Φ)
  {H:List (Nat×Hint)} {m:Nat} {f:FuncId} {a:List ar} {bb:Nat} {S:Nat->Option dr} {mW:dr}  {g:mW.T->Option nu.T} (o:uW T j S mW nu a (Gb T Φ F H m f a bb)=g) {x:mW.T}  (h:g x=Q1 v):oX P ⟨f,a6 mW x,enc nu v⟩:=by
 subst o;unfold uW at h;cases hp:su a mW []with
 |none=>simp only[hp]at h;cases h
 |some q=>
  obtain⟨Γ,p⟩:=q;simp only[hp]at h;obtain⟨vs,r,w,z⟩:=yy _ _ _ _ hp x ();have hl:=B3 e _ Γ [] (p x ()) () (λ_ _=>False) (λl s g hf=>by simp[y']at hf) h;have c:pF Γ (p x ())=vs++[]:=r;have k:ni (re Γ (p x ())) a=a6 mW x:=by have B:=z [];unfold re;rw[c,<-sg Γ (p x ()),c];exact B
  rw[DC]at k;have b:∀u∈pF Γ (p x ()),nN u:=λu hu=>by rw[c,List.append_nil]at hu;exact w u hu
  rw[<-k];have i:=hl (by rw[sg]);have n:=i (λu hu=>b u (by simpa using hu));rw[vS,sg]at n;exact bU7 cb d dC hm (by have:=Fit.env (l:=(pF Γ (p x ())).reverse) (λu hu=>b u (by simpa using hu));rw[vS,sg]at this;exact this) n
variable {P:Program}{args:List ar}{c:ar}{f g:FuncId}{t:c9}{ts:List c9}
def map_inj{α β:Type}{f:α->β}(hf:∀x y,f x=f y->x=y):∀ {xs ys:List α},xs.map f=ys.map f->xs=ys
 | [],[],_=>rfl
 | [],y::ys,h=>by simp at h
 |x::xs,[],h=>by simp at h
 |x::xs,y::ys,h=>by simp only[au,cN]at h;rw[hf x y h.1,map_inj hf h.2]
mutual
theorem aD1:∀(s:dn) (x y:s.T),enc s x=enc s y->x=y
 | .int _,x,y,h=>by simp only[enc,ar.b4.injEq,fR]at h;exact h.2
 | .bool,x,y,h=>by simp only[enc,ar.b4.injEq,iW]at h;exact h
 | .str,x,y,h=>by simp only[enc,ar.b4.injEq,lA]at h;exact h
 | .sF,x,y,_=>rfl
 | .nl,x,y,_=>rfl
 | .hF l,x,y,h=>by simp only[enc,ar.rs.injEq]at h;exact map_inj (xE l) h
 | .agg l,x,y,h=>by simp only[enc,ar.agg.injEq]at h;exact xE l x y h
 | .ptr l,x,y,h=>by simp only[enc,ar.fT.injEq]at h;exact xE l x y h
 | .rH l,x,y,h=>by simp only[enc,ar.mY.injEq,ar.rs.injEq]at h;exact map_inj (xE l) h
 | .ed l,x,y,h=>by simp only[enc,ar.ed.injEq]at h;exact xE l x y h
 | .fn g l,x,y,h=>by simp only[enc,ar.fn.injEq]at h;exact xE l x y h.2.2
theorem xE:∀(l:dr) (x y:l.T),a6 l x=a6 l y->x=y
 | .nil,_,_,_=>rfl
 | .one s,x,y,h=>by simp only[a6,cN,and_true]at h;exact aD1 s x y h
 | .cons s l,x,y,h=>by simp only[a6,cN]at h;exact eJ (aD1 s _ _ h.1) (xE l _ _ h.2)
end
mutual
def dn.sep:dn->dn->Bool
 | .fn g _,.fn a _=>!Nat.beq g a
 |_,_=>N2
def dr.sep:dr->dr->Bool
 | .one s,.one s'=>s.sep s'
 | .cons s l,.cons s' a=>s.sep s'||l.sep a
 |_,_=>N2
end
def dn.D7{s s':dn}(h:s.sep s'=No)(x:s.T)(y:s'.T):enc s x≠enc s' y:=by
 cases s<;>cases s'<;>simp only[dn.sep]at h<;>try (cases h;done)
 intro he;simp only[enc,ar.fn.injEq,Fn.func.injEq]at he;rw[he.1,eZ]at h;cases h
def dr.D7:∀ {l a:dr},l.sep a=No->∀(x:l.T) (y:a.T),a6 l x≠a6 a y
 | .nil,a,h,_,_=>by simp[dr.sep]at h
 | .one s,.nil,h,_,_=>by simp[dr.sep]at h
 | .one s,.one s',h,x,y=>by simp only[dr.sep]at h;intro he;simp only[a6,cN,and_true]at he;exact dn.D7 h x y he
 | .one s,.cons s' a,h,_,_=>by simp[dr.sep]at h
 | .cons s l,.nil,h,_,_=>by simp[dr.sep]at h
 | .cons s l,.one s',h,_,_=>by simp[dr.sep]at h
 | .cons s l,.cons s' a,h,x,y=>by
  simp only[dr.sep,bC]at h;intro he;simp only[a6,cN]at he;rcases h with h|h
  exact dn.D7 h _ _ he.1;exact dr.D7 h _ _ he.2
def Dz(P:Program)(f:FuncId)(args:List ar)(c:ar):Prop:=∀v z rest,args=v::.b4 (.int .i64 (z:Nat))::rest->∃es a,v=.rs es/\c=.rs a/\a.length=es.length /\
 ∀σ id e restv,σ.bF id=Q1 (.row e z es)->(∀G vs w,hE G restv vs->Rel G (σ.del id) w->hE (G.frozen (σ.del id) w (λ_=>Ld)) rest vs) ->
  oO P f (.ms id z 0 es.length::restv) σ (λv σ'=>v=.ed []/\σ'=σ.set id (.row e z a))
def uu(P:Program)(f:FuncId)(args:List ar)(c:ar):Prop:=∃es,c=.rs es/\∀T fn t elem ti a,mz P T->P.funcs[f]?=Q1 fn->fn.resultTypes.toList=[t]->T t=Q1 ti->ti.j4=.slice elem->T elem=Q1 a ->
 ∀σ:bg,oO P f args σ (λv σ'=>v=.ms (σ.next+5) a.size 0 es.length/\σ'={ σ with next:=σ.next+7 }.set (σ.next+5) (.row elem a.size es))
def Good(P:Program)(f:FuncId)(args:List ar)(c:ar):Prop:=(f<p9->oX P ⟨f,args,c⟩)/\(∀g,g<p9->f=p9+g->Dz P g args c)/\∀g,f=uj+g->uu P g args c
structure LH(P:Program)(ts:List c9)(f:FuncId)(args:List ar)(c:ar):Prop where
 xO:Good P f args c
 is:∃t∈ts,t.f=f/\∃x r,args=a6 t.mW x/\t.fn x=Q1 r/\c=enc t.nu r
def GV(P:Program)(ts:List c9)(f:FuncId)(args:List ar):Option ar :=open Classical in if h:∃c,LH P ts f args c then Q1 h.choose else Ld
def N3(h:GV P ts f args=Q1 c):LH P ts f args c:=by unfold GV at h;split at h;rename_i a;cases h;exact a.choose_spec;cases h
def Hn:List c9->FuncId->Bool
 | [],_=>N2
 |t::ts,f=>match ax t.f f with
  |true=>No
  |false=>Hn ts f
def rC(P:Program)(ts:List c9):lv:=λf=>match Hn ts f with
 |true=>Q1 (GV P ts f)
 |false=>Ld
def an4:∀ {ts:List c9} {t:c9},t∈ts->Hn ts t.f=No
 | [],_,h=>by simp at h
 |b::ts,t,h=>by
  unfold Hn;split;rfl;rename_i a;rcases aD.1 h with rfl|h
  rw[eZ]at a;cases a;exact an4 h
def FV(P:Program)(ts:List c9):Ak P (rC P ts):=by refine⟨λf φ hf h args c hc=>?_,λf φ hf h=>?_,λf φ h=>?_⟩;unfold rC at h;split at h;cases h;exact(N3 hc).xO.1 hf;cases h;unfold rC at h;split at h;cases h;intro v z rest c hc;exact(N3 hc).xO.2.1 f hf rfl v z rest rfl;cases h;unfold rC at h;split at h;cases h;intro args c hc;exact(N3 hc).xO.2.2 f rfl;cases h
def x':List c9->Bool
 | []=>No
 |t::ts=>(ts.all λa=>!Nat.beq t.f a.f||t.mW.sep a.mW)&&x' ts
def aA2:∀ {ts:List c9},x' ts=No->∀t∈ts,∀c∈ts,c.f=t.f->∀(x:t.mW.T) (d:c.mW.T),a6 c.mW d=a6 t.mW x->c=t
 | [],_,t,h,_,_,_,_,_,_=>by simp at h
 |a::ts,hs,t,g,c,e,hf,x,d,he=>by
  simp only[x',ab,aj,bC]at hs;rcases aD.1 g with h1|h1
  rcases aD.1 e with h2|h2
  rw[h1,h2];subst h1;rcases hs.1 c h2 with b|b
  rw[hf,eZ]at b;cases b;exact b8 he.symm (dr.D7 b x d);rcases aD.1 e with h2|h2
  subst h2;rcases hs.1 t h1 with b|b
  rw[hf,eZ]at b;cases b;exact b8 he (dr.D7 b d x);exact aA2 hs.2 t h1 c h2 hf x d he
def tK(hs:x' ts=No)(b:t∈ts)(h:∀x r,t.fn x=Q1 r->Good P t.f (a6 t.mW x) (enc t.nu r)):t.Ok (rC P ts):=by intro x r d;refine⟨GV P ts t.f,by unfold rC;rw[an4 b],?_⟩;have hex:∃c,LH P ts t.f (a6 t.mW x) c:=⟨_,h x r d,t,b,rfl,x,r,rfl,d,rfl⟩;unfold GV;rw[dif_pos hex];obtain⟨j,g,e,hf,i,k,he,a,hc⟩:=hex.choose_spec;have:=aA2 hs t b g e hf x i he.symm;subst this;have:=xE _ _ _ he;subst this;rw[d]at a;cases a;rw[hc]
def Good.w4(hf:f<p9)(h:oX P ⟨f,args,c⟩):Good P f args c:=by refine⟨λ_=>h,λg _ a=>?_,λg a=>?_⟩<;>exfalso;subst a;exact gZ.2 (aV p9 g) hf;subst a;exact gZ.2 (bz (by decide) (aV uj g)) hf
def Good.sort(h:Dz P g args c)(d:g<p9:=by decide):Good P (p9+g) args c:=by refine⟨λhf=>b8 hf (gZ.2 (aV p9 g)),λb _ a=>?_,λb a=>?_⟩;have:=il a;rw[<-this];exact h;exfalso;have e:@Eq Nat (1000000+g) (2000000+b):=a;have f:@LT.lt Nat _ g 1000000:=d;omega
def Good.row(h:uu P g args c):Good P (uj+g) args c:=by refine⟨λhf=>b8 hf (gZ.2 (bz (by decide) (aV uj g))),λb a he=>?_,λb a=>?_⟩;have e:@Eq Nat (2000000+g) (1000000+b):=he;have d:@LT.lt Nat _ b 1000000:=a;omega;have:=il a;rw[<-this];exact h
def bQ5{T:cy}(cb:mz P T){F:FuncId->Option Func}(dC:∀f fn,F f=Q1 fn->P.funcs[f]?=Q1 fn)(hm:P.follows .mixedOrders=No){c:List c9}(hs:x' ts=No)(b:∀t∈c,t.Ok (rC P ts))(d:t∈ts)(hf:cM t.f p9=No)
  {H:List (Nat×Hint)} {m:Nat} {a:List ar} {bb:Nat} {S:Nat->Option dr} (e:uW T c S t.mW t.nu a (Gb T (rC P ts) F H m t.f a bb)=t.fn):t.Ok (rC P ts) :=
 tK hs d λx r g=>Good.w4 (by simpa using hf) (aZ6 cb (FV P ts) dC hm b e g)
variable {H:List (Nat×c7)}{a bb:Nat}{c:Nat×TypeId×Nat}{ck:nW}{e:TypeId}{f i j:Nat}{kv:ar}{m off:Nat}{p:Nat->Bool}{rows xs:List (List ar)}{z:Nat}{θ:Nat->ar}{ι:Nat->Option (Option Nat)}
def e8.allI{α:Type}(p:Nat->α->Bool):Nat->Nat->e8 α->Bool
 |_,_,.leaf=>No
 |m,b,.node v l r=>(match v with|some x=>p b x|none=>No)&&(e8.allI p (2*m) (m+b) l&&e8.allI p (2*m) (2*m+b) r)
def e8.E6{α:Type}{p:Nat->α->Bool}:∀(t:e8 α) (m b k:Nat) (v:α),t.allI p m b=No->t.get k=Q1 v->p (m*k+b) v=No
 | .leaf,m,b,k,v,_,h=>by rw[e8.uF]at h;cases h
 | .node x l r,m,b,0,v,h,a=>by simp only[e8.get]at a;simp only[e8.allI,ab]at h;rw[a]at h;simpa using h.1
 | .node x l r,m,b,k+1,v,h,a=>by
  simp only[e8.allI,ab]at h;simp only[e8.get]at a;rcases Nat.mod_two_eq_zero_or_one k with e|e<;>rw[e]at a<;>simp only at a
  have:=e8.E6 l (2*m) (m+b) (k / 2) v h.2.1 a;have c:m*(k+1)+b=2*m*(k / 2)+(m+b):=by
   have:m*(k+1)=m*(2*(k / 2))+m:=by
    have:k+1=2*(k / 2)+1:=by omega
    rw[this,lF,Nat.mul_one]
   rw[this,eU 2 m,lf];omega
  rw[c];exact this;have:=e8.E6 r (2*m) (2*m+b) (k / 2) v h.2.2 a;have c:m*(k+1)+b=2*m*(k / 2)+(2*m+b):=by
   have:m*(k+1)=m*(2*(k / 2))+2*m:=by
    have:k+1=2*(k / 2)+2:=by omega
    rw[this,lF,eU 2 m]
   rw[this,eU 2 m,lf];omega
  rw[c];exact this
structure pk where
 a:Nat
 e:TypeId
 z:Nat
 j:Nat
 ck:nW
def r9(a:Option pk)(θ:Nat->ar):List (Nat×c7):=match a with
 |none=>[]
 |some F=>ox F.ck 0 (rowsOf (θ F.j))
def vg(a:Option pk)(θ:Nat->ar):Prop:=match a with
 |none=>True
 |some F=>∃rows,θ F.j=.rs rows/\xU F.ck rows
def bl.full(s:bl)(a:Option pk)(θ:Nat->ar):bl:=(s.sub θ).nb (r9 a θ)
variable {S s:bl}
def zo:nW->nW->Bool
 | [],[]=>No
 |c::cs,d::a=>ax c.1 d.1&&ax c.2.1 d.2.1&&ax c.2.2 d.2.2&&zo cs a
 |_,_=>N2
def JZ:∀ {a b:nW},zo a b=No->a=b
 | [],[],_=>rfl
 | [],_::_,h=>by simp[zo]at h
 |_::_,[],h=>by simp[zo]at h
 |c::cs,d::g,h=>by simp only[zo,ab]at h;obtain⟨⟨⟨h1,h2⟩,e⟩,f⟩:=h;rw[JZ f,show c=d from eJ (ae h1) (eJ (ae h2) (ae e))]
def ow(b:Option pk)(s:bl)(bb:Nat):Bool:=dD mB s.st.next&&s.st.mZ.allI (λi _=>dD mB i) 1 0&&match b with
 |none=>No
 |some F=>cM F.j bb&&match s.st.bF F.a with
  |some (.nH e z (.ey j) ck _ _ Ld)=>ax e F.e&&ax z F.z&&ax j F.j&&zo ck F.ck
  |_=>N2
def Ol{a:Option pk}(h:ow a s bb=No):mB<=s.st.next:=by simp only[ow,ab]at h;exact aZ h.1.1
def NR{a:Option pk}(h:ow a s bb=No)(a7:i<mB):s.st.bF i=Ld:=by
 simp only[ow,ab]at h;cases ho:s.st.bF i with
 |none=>rfl
 |some o =>have:=e8.E6 _ _ _ _ _ h.1.2 ho;have:=aZ this;omega
def RG{F:pk}(h:ow (Q1 F) s bb=No):F.j<bb:=by simp only[ow,ab]at h;have:=h.2.1;simpa using this
def ay1{F:pk}(h:ow (Q1 F) s bb=No):∃k off,s.st.bF F.a=Q1 (.nH F.e F.z (.ey F.j) F.ck k off Ld):=by simp only[ow,ab]at h;have:=h.2.2;split at this;rename_i e z j ck k off heq;simp only[ab]at this;obtain⟨⟨⟨h1,h2⟩,b⟩,c⟩:=this;rw[heq,ae h1,ae h2,ae b,JZ c];exact⟨k,off,rfl⟩;cases this
def PV{a:Option pk}(h:vg a θ){p:Nat×c7}(hp:p∈r9 a θ):p.1<mB/\rN p.2=No:=by
 cases a with
 |none=>simp[r9]at hp
 |some F =>obtain⟨rows,h1,h2⟩:=h;simp only[r9,h1]at hp;exact Jk h2 hp
def W7{b:Option pk}{a:Nat->ar}(c:ow b s bb=No)(h:∀i,i<bb->a i=θ i):r9 b a=r9 b θ/\(vg b θ->vg b a):=by
 cases b with
 |none=>exact⟨rfl,λ_=>trivial⟩
 |some F =>have:=h F.j (RG c);exact⟨by simp only[r9,this],λ⟨rows,h1,h2⟩=>⟨rows,by rw[this];exact h1,h2⟩⟩
def Ren.nb{s':bl}(h:Ren ι mB s' s)(hH:∀p∈H,p.1<mB/\rN p.2=No)(e:∀i,i<mB->s.st.bF i=Ld):Ren ι 0 (s'.nb H) (s.nb H):=by
 have a:∀i o,(s'.nb H).st.bF i=Q1 o->(k5 H i=Q1 o/\i<mB/\rN o=No)\/s'.st.bF i=Q1 o:=λi o ho=>by
  rw[bl.tM,sJ]at ho;cases f:k5 H i with
  |some o'=>rw[f]at ho;simp only[ah]at ho;subst ho;exact .inl ⟨rfl,hH _ (wI f)⟩
  |none=>rw[f]at ho;exact .inr ho
 have c:∀i k o,s'.st.bF i=Q1 o->ι i=Q1 (Q1 k)->mB<=k:=λi k o ho hk=>by
  rcases h.bF i o ho with⟨t,o',h1,h2,_⟩|⟨h1,_⟩
  rw[h1]at hk;cases hk;refine kD λg=>?_;rw[e _ g]at h2;cases h2;rw[h1]at hk;cases hk
 refine⟨h.JO,λi a7=>by omega,λi k hk=>by rw[bl.tM,zO];exact h.mW i k hk,c_ _,λi j k oi oj h1 h2 l n=>?_,h.wc,h.beyond,λi o ho=>?_⟩;rcases a i oi l with⟨_,b,_⟩|b<;>rcases a j oj n with⟨_,c1,_⟩|c1
 have d:=h.low i b;have m:=h.low j c1;rw[h1]at d;rw[h2]at m;cases d;cases m;rfl;have d:=h.low i b;rw[h1]at d;cases d;have:=c j _ oj c1 h2;omega;have d:=h.low j c1;rw[h2]at d;cases d;have:=c i _ oi b h1;omega;exact h.inj i j k oi oj h1 h2 b c1;rcases a i o ho with⟨q,b,r⟩|b
 exact .inl ⟨i,o,h.low i b,by rw[bl.tM,sJ,q],p4.rN r⟩;rcases h.bF i o b with⟨k,o',h1,h2,l⟩|h1
 refine .inl ⟨k,o',h1,?_,l⟩;rw[bl.tM,sJ];cases f:k5 H k with
 |none=>exact h2
 |some o2=>have:=(hH _ (wI f)).1;rw[e _ this]at h2;cases h2
 exact .inr h1
def GR(a z j b:Nat)(p:Nat->Bool)(v:ar):ar:=match v with
 | .c8 c d i=>match ax c a&&ax i j&&ax d z with
  |true=>.c8 a z b
  |false=>match v.ids p with
   |true=>v
   |false=>.any
 |v=>match v.ids p with
  |true=>v
  |false=>.any
def bl.act(S:bl)(a z j b:Nat)(p:Nat->Bool)(σ:bg):bl:={ n:=S.n,mZ:=S.mZ.map (GR a z j b p),st:=σ }
def uy(p:Nat->Bool)(a:Nat)(S:bl):Bool:=S.mZ.allI (λi _=>cM i S.n) 1 0&&S.st.mZ.allI (λi o=>ax i a||(p i&&o.ids p)) 1 0&&p a
def J3(h:uy p a S=No){o:c7}(ho:S.st.bF i=Q1 o):i=a\/(p i=No/\o.ids p=No):=by
 simp only[uy,ab]at h;have:=e8.E6 _ _ _ _ _ h.1.2 ho;simp only[iA,bC,ab]at this;rcases this with h1|h1
 exact .inl (ae h1);exact .inr h1
def Av(h:uy p a S=No):p a=No:=by simp only[uy,ab]at h;exact h.2
def aB1(S:bl)(a z j b:Nat)(p:Nat->Bool)(σ:bg)(t:Nat):(S.act a z j b p σ).get t=GR a z j b p (S.get t):=by
 simp only[bl.act,bl.get,e8.sY];cases S.mZ.get t with
 |none=>simp[GR,ar.ids]
 |some v=>simp
def J4(l:Fit θ){d:Nat}{σ σ0:bg}{m:List (Nat×c7)}(hp:∀i,p i=No->ι i=Q1 (Q1 i))(b:uy p a { S with st:=σ0 }=No)(hlen:(rowsOf (θ d)).length=(rowsOf (θ j)).length)
  (f:∀i k,ι i=Q1 k->i<σ.next) (g:∀i j k,ι i=Q1 (Q1 k)->ι j=Q1 (Q1 k)->i=j)
  (c:∀i o,(((S.act a z j d p σ).sub θ).nb m).st.bF i=Q1 o->(∃k o',ι i=Q1 (Q1 k)/\((S.sub θ).nb H).st.bF k=Q1 o'/\p4 ι o o')\/(ι i=Q1 Ld/\∃e z,o=.row e z [])) :
  Ren ι 0 (((S.act a z j d p σ).sub θ).nb m) ((S.sub θ).nb H):=by
 refine⟨rfl,λi a7=>by omega,λi k hk=>by rw[bl.tM,zO];exact f i k hk,c_ _,λi j k oi oj h1 h2 _ _=>g i j k h1 h2,λt q=>?_,λt q=>?_,c⟩;show nI ι (((S.act a z j d p σ).sub θ).get t) ((S.sub θ).get t);rw[bl.tB,bl.tB,aB1];have gen:∀v:ar,nI ι ((match v.ids p with|true=>v|false=>.any).sub θ) (v.sub θ):=λv=>by
  cases hv:v.ids p with
  |true=>exact nI.ids hp (DJ l p v hv)
  |false=>intro G u _;exact .any u
 unfold GR;split;rename_i C D i he;split;rename_i h;simp only[ab]at h;have r:=ae h.1.1;have s:=ae h.1.2;have w:=ae h.2;subst r;subst s;subst w;rw[he];simp only[rA,hlen];exact nI.ids hp (p:=p) (by simp only[ar.ids];exact Av b);exact gen _;exact gen _;show((S.act a z j d p σ).sub θ).get t=.b4 undef;rw[bl.tB,aB1];have x:S.mZ.get t=Ld:=by
  cases B:S.mZ.get t with
  |none=>rfl
  |some v=>
   simp only[uy,ab]at b;have:=e8.E6 _ _ _ _ _ b.1.1 B;have h1:t<S.n:=by simpa using this
   have h2:S.n<=t:=q;omega
 simp only[bl.get,x,Option.getD_none,GR,ar.ids,ar.sub]
def aq7{v:ar}(h:isNil v=No):v=.b4 (.slice Ld 0 0):=by unfold isNil at h;split at h;rfl;cases h
def aE3(h:A5 ck rows=No)(e:(ar.rs rows).kl=No):xU ck (rows.map (rp ck 0))/\∀r∈rows,∀g x,(pw ck g).isSome->r[g]?=Q1 x->x=.b4 (.slice Ld 0 0):=by
 simp only[A5,ab,kA,aj]at h;obtain⟨⟨h1,h2⟩,m⟩:=h;have d:∀r∈rows,∀c∈ck,r[c.1]?=Q1 (.b4 (.slice Ld 0 0)):=λr a c hc=>by have:=m r a c hc;split at this;rename_i v hv;rw[hv,aq7 this];cases this
 refine⟨⟨by rw[aI];exact h1,λc hc=>by have:=h2 c hc;simpa using this,?_,λr a c hc=>?_⟩,λr a g x hs l=>?_⟩;have key:∀rows:List (List ar),sB rows=No->sB (rows.map (rp ck 0))=No:=by
  have row:∀(r:List ar) (j:Nat),sa r=No->sa (rp ck j r)=No:=by
   intro r
   induction r with
   |nil=>intro _ _;rfl
   |cons v vs i =>intro j a;simp only[sa,ab]at a;simp only[rp,sa,ab];refine⟨?_,i _ a.2⟩;unfold zW;split;rfl;exact a.1
  intro rows
  induction rows with
  |nil=>intro _;rfl
  |cons r rs i =>intro a;simp only[sB,ab]at a;simp only[au,sB,ab];exact⟨row r 0 a.1,i a.2⟩
 exact key rows (by simpa only[ar.kl]using e);obtain⟨n,k,rfl⟩:=aM.1 a;refine⟨[],?_⟩;rw[IQ,d n k c hc];simp only[ai,a_,zW];have f:(pw ck c.1).isSome=No:=by rw[pw,jY];exact⟨c,hc,by simp⟩
 cases b:pw ck c.1 with
 |none=>rw[b]at f;cases f
 |some _=>rfl
 cases b:pw ck g with
 |none=>rw[b]at hs;cases hs
 |some c =>obtain⟨o,p⟩:=yp b;subst p;have:=d r a c o;rw[this]at l;cases l;rfl
def ta(S:bl)(i:Nat):Bool:=dD mB i&&cM i S.st.next
def Cb(h:ta S i=No):mB<=i/\i<S.st.next:=by simp only[ta,ab]at h;exact⟨aZ h.1,by simpa using h.2⟩
def bl.own(S:bl)(a:Nat)(e:TypeId)(z j b:Nat)(ck:nW):bl:=S.act a z j b (ta S) (S.st.set a (.nH e z (.ey b) ck (.ey b) mB Ld))
def bE4(g:Fit θ)(ha:S.st.bF a=Q1 (.fN e z j))(d:uy (ta S) a S=No)(hj:θ j=.rs rows)(p:θ m=.rs (rows.map (rp ck 0)))(q:A5 ck rows=No) :
  ∃ι,Ren ι 0 (((S.own a e z j m ck).sub θ).nb (ox ck 0 (rows.map (rp ck 0)))) ((S.sub θ).nb []):=by
 have f:(ar.rs rows).kl=No:=by have:=(g j).kl;rw[hj]at this;exact this
 obtain⟨J,s⟩:=aE3 q f;obtain⟨H,I⟩:=Cb (Av d);let ι:Nat->Option (Option Nat):=λi=>if i<mB then Q1 Ld else if i<S.st.next then Q1 (Q1 i)else Ld
 have t:∀i,i<mB->ι i=Q1 Ld:=λi a7=>by simp only[ι,cr a7]
 have b:∀i,ta S i=No->ι i=Q1 (Q1 i):=λi a7=>by obtain⟨fa,gb⟩:=Cb a7;simp only[ι,cc (gZ.2 fa),cr gb]
 refine⟨ι,J4 g b d (by rw[hj,p];simp[rowsOf]) (λi k hk=>?_) (λi j k h1 h2=>?_) (λi o ho=>?_)⟩;simp only[ι]at hk;show i<S.st.next;split at hk;omega;split at hk;assumption;cases hk;have n:∀i,ι i=Q1 (Q1 k)->i=k:=λi a7=>by simp only[ι]at a7;split at a7;cases a7;split at a7;cases a7;rfl;cases a7
 rw[n i h1,n j h2];rw[bl.tM,sJ]at ho;cases n:k5 (ox ck 0 (rows.map (rp ck 0))) i with
 |some o' =>
  rw[n]at ho;simp only[ah]at ho;subst ho;obtain⟨r,row,c,fa,gb,lb⟩:=Jq (wI n);cases lb;refine .inr ⟨t _ (xQ _ _),c.2.1,c.2.2,?_⟩;rw[aO]at fa;cases B:rows[r]? with
  |none=>rw[B]at fa;cases fa
  |some u=>
   rw[B]at fa;simp only[ai,ah]at fa;subst fa;have v:(pw ck c.1).isSome=No:=by rw[pw,jY];exact⟨c,gb,by simp⟩
   simp only[vY,dt,IQ,a_];cases u[c.1]? with
   |none=>rfl
   |some x=>
    simp only[ai,zW];cases h:pw ck c.1 with
    |none=>rw[h]at v;cases v
    |some _=>rfl
 |none=>
  rw[n]at ho;have ho:((S.own a e z j m ck).st.sub θ).bF i=Q1 o:=ho;rw[bg.mT]at ho;have w:(S.own a e z j m ck).st.bF i=if i=a then Q1 (.nH e z (.ey m) ck (.ey m) mB Ld)else S.st.bF i:=bg.mQ _ _ _ _
  rw[w]at ho;by_cases l:i=a;subst l;rw[cr rfl]at ho;simp only[ai,ah]at ho;subst ho;refine .inl ⟨i,(c7.fN e z j).sub θ,b i (Av d),by rw[bl.tM];show(S.st.sub θ).bF i=_;rw[bg.mT,ha];rfl,?_⟩;simp only[c7.sub,mK,hj,p,rowsOf,dU,ur];refine p4.cells (by rw[zw,aI]) (λr M K g1 g2=>?_);rw[wy,aO,g2]at g1;simp only[ai,ah]at g1;subst g1;refine⟨by rw[ym,VF],λD x y g3 g4=>?_⟩;rw[xz,IQ,g4]at g3;simp only[ai,ah,a_]at g3;subst g3;have E:=aH g2;rw[Bq];unfold zW;cases h:pw ck D with
  |none =>obtain⟨B,rfl⟩:=ak.1 g2;obtain⟨G,rfl⟩:=ak.1 g4;exact nI.kl (rY f r B D G)
  |some c =>rw[s K E D y (by rw[h];rfl) g4];exact nI.bo0 (t _ (xQ _ _))
  rw[cc l]at ho;cases C:S.st.bF i with
  |none=>rw[C]at ho;cases ho
  |some o0=>
   rw[C]at ho;simp only[ai,ah]at ho;subst ho;rcases J3 d C with h1|⟨h1,h2⟩
   exact b8 h1 l;exact .inl ⟨i,o0.sub θ,b i h1,by rw[bl.tM];show(S.st.sub θ).bF i=_;rw[bg.mT,C];rfl,p4.ids b g h2⟩
def bl.wS(S:bl)(a:Nat)(e:TypeId)(z j:Nat)(ck:nW)(kv:ar)(off:Nat)(c:Nat×TypeId×Nat)(f:Nat):bl :=S.act a z j j (ta S) { (S.st.set a (.nH e z (.ey j) ck kv off (Q1 (.c8 S.st.next c.2.2 f)))).set S.st.next (.fN c.2.1 c.2.2 f)with next:=S.st.next+1 }
def aG8(S:bl)(a:Nat)(e:TypeId)(z j:Nat)(ck:nW)(kv:ar)(off:Nat)(c:Nat×TypeId×Nat)(f i:Nat):(S.wS a e z j ck kv off c f).st.bF i=if i=S.st.next then Q1 (.fN c.2.1 c.2.2 f)else if i=a then Q1 (.nH e z (.ey j) ck kv off (Q1 (.c8 S.st.next c.2.2 f)))else S.st.bF i:=by show((S.st.set a (.nH e z (.ey j) ck kv off (Q1 (.c8 S.st.next c.2.2 f)))).set S.st.next (.fN c.2.1 c.2.2 f)).bF i=_;rw[bg.mQ,bg.mQ]
def bj3(M:Fit θ){N:Nat}{k0:ar}{B:Nat}(ha:S.st.bF a=Q1 (.nH e z (.ey N) ck k0 B Ld))(u:uy (ta S) a S=No)(hnx:mB<=S.st.next)
   (hjc:θ N=.rs rows) (hw:xU ck rows)
  {row:List ar}  (b:rows[nm (kv.sub θ)]?=Q1 row) (D:pw ck off=Q1 c) (g:row[off]?=Q1 (.rs xs)) (hf:θ f=.rs xs) :
  ∃ι,Ren ι 0 (((S.wS a e z N ck kv off c f).sub θ).nb ((ox ck 0 rows).filter (λq=>!Nat.beq q.1 (hid (nm (kv.sub θ)) off)))) ((S.sub θ).nb (ox ck 0 rows)):=by
 obtain⟨hlen,hc,p,O⟩:=hw;generalize hk:nm (kv.sub θ)=k at *;obtain⟨hcm,P⟩:=yp D;have hoff:off<16:=by rw[<-P];exact hc c hcm
 have hkl:=(ak.1 b).1;have hhk:hid k off<mB:=xQ _ _;generalize hm:S.st.next=m at *;let ι:Nat->Option (Option Nat):=λi=>if i=m then Q1 (Q1 (hid k off))else if i=hid k off then Ld else if i<m+1 then Q1 (Q1 i)else Ld
 have s:∀i,i≠m->i≠hid k off->i<m+1->ι i=Q1 (Q1 i):=λi fa gb lb=>by simp only[ι,cc fa,cc gb,cr lb]
 have h:∀i,ta S i=No->ι i=Q1 (Q1 i):=λi a7=>by obtain⟨fa,gb⟩:=Cb a7;exact s i (by omega) (by omega) (by omega)
 have Q:ι m=Q1 (Q1 (hid k off)):=by simp[ι]
 refine⟨ι,?_⟩;refine J4 (σ0:=S.st) M h u rfl (λi q K=>?_) (λi j q fa gb=>?_) (λi o ho=>?_);simp only[ι]at K;show i<S.st.next+1;rw[hm];split at K;omega;split at K;cases K;split at K;assumption;cases K;have l:∀i,ι i=Q1 (Q1 q)->(i=m/\q=hid k off)\/(i=q/\i≠hid k off):=λi a7=>by simp only[ι]at a7;split at a7;rename_i e1;cases a7;exact .inl ⟨e1,rfl⟩;split at a7;cases a7;rename_i e2;split at a7;cases a7;exact .inr ⟨rfl,e2⟩;cases a7
 rcases l i fa with⟨x1,x2⟩|⟨x1,x2⟩<;>rcases l j gb with⟨y1,y2⟩|⟨y1,y2⟩<;>omega
 rw[bl.tM,sJ,IL]at ho;have hold:∀i o,k5 (ox ck 0 rows) i=Q1 o->((S.sub θ).nb (ox ck 0 rows)).st.bF i=Q1 o:=λi o l=>by rw[bl.tM,sJ,l]
 have t:∀i o,mB<=i->(S.sub θ).st.bF i=Q1 o->((S.sub θ).nb (ox ck 0 rows)).st.bF i=Q1 o:=λi o a7 l=>by rw[bl.tM,sJ,O6 a7];exact l
 cases l:(if i=hid k off then Ld else k5 (ox ck 0 rows) i)with
 |some o' =>rw[l]at ho;simp only[ah]at ho;subst ho;split at l;cases l;rename_i E;have G:=Jk ⟨hlen,hc,p,O⟩ (wI l);exact .inl ⟨i,o',s i (by have:=G.1;simp only at this;omega) E (by have:=G.1;simp only at this;omega),hold i o' l,p4.rN G.2⟩
 |none=>
  rw[l]at ho;have ho:((S.wS a e z N ck kv off c f).st.sub θ).bF i=Q1 o:=ho;rw[bg.mT,aG8,hm]at ho;have hpa:=Cb (Av u);by_cases C:i=m
  case neg=>
   rw[cc C]at ho;by_cases H:i=a
   case neg=>
    rw[cc H]at ho;cases hS:S.st.bF i with
    |none=>rw[hS]at ho;cases ho
    |some o0=>
     rw[hS]at ho;simp only[ai,ah]at ho;subst ho;rcases J3 u hS with h1|⟨h1,h2⟩
     exact b8 h1 H;exact .inl ⟨i,o0.sub θ,h i h1,t i _ (Cb h1).1 (by rw[bl.ua,bg.mT,hS];rfl),p4.ids h M h2⟩
   case pos=>
    subst H;rw[cr rfl]at ho;simp only[ai,ah]at ho;subst ho;refine .inl ⟨i,(c7.nH e z (.ey N) ck k0 B Ld).sub θ,h i (Av u),t i _ hpa.1 (by rw[bl.ua,bg.mT,ha];rfl),?_⟩;simp only[c7.sub,mK,hjc,rowsOf,ai,rA,hf,hk];have hfl:(ur (pd ck 0 rows) k off (Q1 (.ms m c.2.2 0 xs.length))).length=(pd ck 0 rows).length:=by simp only[ur];split;simp;rfl
    refine p4.cells (by simpa[ur]using hfl) (λr ra rb g1 g2=>?_);have d:(pd ck 0 rows)[r]?=Q1 rb:=g2;rw[Fu]at g1;simp only[d,ai]at g1;rw[wy]at d;cases R:rows[r]? with
    |none=>rw[R]at d;cases d
    |some row1=>
     rw[R]at d;simp only[ai,ah]at d;have hrl:=(ak.1 R).1;have same:∀n y,rb[n]?=Q1 y->(r=k->n≠off)->nI ι y y:=λn y g4 E=>by
      rw[<-d,xz]at g4;cases hx:row1[n]? with
      |none=>rw[hx]at g4;cases g4
      |some x=>
       rw[hx]at g4;simp only[ai,ah,a_]at g4;subst g4;rw[Bq];cases hcj:pw ck n with
       |none =>obtain⟨I,rfl⟩:=ak.1 R;obtain⟨J,rfl⟩:=ak.1 hx;exact nI.kl (rY p r I n J)
       |some cj=>
        obtain⟨w1,w2⟩:=yp hcj;have hj16:n<16:=by rw[<-w2];exact hc cj w1
        have hne2:=λe=>by obtain⟨e1,e2⟩:=PQ (ck:=ck) hlen hrl hkl hj16 hoff e;exact E e1 e2
        have:=xQ r n;exact nI.ms (s _ (by omega) hne2 (by omega))
     by_cases v:r=k;rw[cr v]at g1;simp only[ah]at g1;refine⟨by rw[<-g1];simp,λn x y g3 g4=>?_⟩;rw[<-g1,dG]at g3;by_cases w:off=n;rw[cr w]at g3;split at g3;cases g3;subst w;subst v;rw[R]at b;cases b;rw[<-d,xz,g]at g4;simp only[ai,ah,a_]at g4;rw[<-g4,Bq,D];exact nI.ms Q;cases g3;rw[cc w,g4]at g3;cases g3;exact same n x g4 (λ_=>λe=>w e.symm);rw[cc v]at g1;simp only[ah]at g1;subst g1;exact⟨rfl,λn x y g3 g4=>by rw[g4]at g3;cases g3;exact same n x g4 (λe=>b8 e v)⟩
  case pos =>subst C;rw[cr rfl]at ho;simp only[ai,ah]at ho;subst ho;refine .inl ⟨hid k off,.row c.2.1 c.2.2 xs,Q,hold _ _ ?_,?_⟩;rw[OZ hc hlen b hoff,D];simp only[ai,vY,P,dt,g,cA,rowsOf];simp only[c7.sub,hf,rowsOf];refine p4.rN ?_;obtain⟨I,rfl⟩:=ak.1 b;obtain⟨J,he⟩:=ak.1 g;have:=rY p k I off J;rw[he]at this;simpa only[rN,ar.kl]using this
def Gs(S:bl)(m i:Nat):Bool:=ta S i&&!Nat.beq i m
def Qh(h:Gs S m i=No):mB<=i/\i<S.st.next/\i≠m:=by simp only[Gs,ab]at h;obtain⟨fa,gb⟩:=Cb h.1;exact⟨fa,gb,λe=>by rw[e,eZ]at h;cases h.2⟩
def bl.Cy(S:bl)(a:Nat)(e:TypeId)(z j b:Nat)(ck:nW)(m:Nat):bl:=S.act a z j b (Gs S m) ((S.st.del m).set a (.nH e z (.ey b) ck (.ey b) mB Ld))
def aM3(S:bl)(a:Nat)(e:TypeId)(z j b:Nat)(ck:nW)(m i:Nat):(S.Cy a e z j b ck m).st.bF i=if i=a then Q1 (.nH e z (.ey b) ck (.ey b) mB Ld)else if i=m then Ld else S.st.bF i:=by show((S.st.del m).set a (.nH e z (.ey b) ck (.ey b) mB Ld)).bF i=_;rw[bg.mQ,bg.rK]
def bR9(I:Fit θ){jc jc':Nat}(ha:S.st.bF a=Q1 (.nH e z (.ey jc) ck kv off (Q1 (.c8 m c.2.2 f))))(hm:S.st.bF m=Q1 (.fN c.2.1 c.2.2 f))(B:uy (Gs S m) a { S with st:=S.st.del m }=No)(hnx:mB<=m/\mB<=S.st.next)
   (hjc:θ jc=.rs rows) (hw:xU ck rows)
  {row:List ar} {ys:List (List ar)} (b:rows[nm (kv.sub θ)]?=Q1 row) (J:pw ck off=Q1 c) (K:row[off]?=Q1 (.rs ys)) (hf:θ f=.rs xs) (D:θ jc'=.rs (sK rows (nm (kv.sub θ)) off (.rs xs))) :
  ∃ι,Ren ι 0 (((S.Cy a e z jc jc' ck m).sub θ).nb (ox ck 0 (sK rows (nm (kv.sub θ)) off (.rs xs)))) ((S.sub θ).nb ((ox ck 0 rows).filter (λq=>!Nat.beq q.1 (hid (nm (kv.sub θ)) off)))):=by
 have hxs:(ar.rs xs).kl=No:=by rw[<-hf];exact(I f).kl
 have hw':=hw.put (k:=nm (kv.sub θ)) (off:=off) hxs;obtain⟨hlen,hc,E,hown⟩:=hw;generalize hk:nm (kv.sub θ)=k at *;obtain⟨hcm,hc1⟩:=yp J;have hoff:off<16:=by rw[<-hc1];exact hc c hcm
 have M:=(ak.1 b).1;have hhk:hid k off<mB:=xQ _ _;have G:=(ak.1 K).1;let ι:Nat->Option (Option Nat):=λi=>if i=hid k off then Q1 (Q1 m)else if i=m then Ld else if i<S.st.next then Q1 (Q1 i)else Ld
 have l:∀i,i≠m->i≠hid k off->i<S.st.next->ι i=Q1 (Q1 i):=λi fa gb lb=>by simp only[ι,cc fa,cc gb,cr lb]
 have n:=λi a7=>by obtain⟨fa,gb,lb⟩:=Qh a7;exact l i lb (by omega) gb
 have him:ι (hid k off)=Q1 (Q1 m):=by simp[ι]
 have d:∀r,(sK rows k off (.rs xs))[r]?=if r=k then Q1 (row.set off (.rs xs))else rows[r]?:=Ws b
 refine⟨ι,?_⟩;refine J4 (σ0:=S.st.del m) I n B (by rw[hjc,D];simp[rowsOf,E3]) (λi q hq=>?_) (λi j q fa gb=>?_) (λi o ho=>?_);simp only[ι]at hq;show i<S.st.next;split at hq;omega;split at hq;cases hq;split at hq;assumption;cases hq;have g:∀i,ι i=Q1 (Q1 q)->(i=hid k off/\q=m)\/(i=q/\i≠m):=λi a7=>by simp only[ι]at a7;split at a7;rename_i e1;cases a7;exact .inl ⟨e1,rfl⟩;split at a7;cases a7;rename_i e2;split at a7;cases a7;exact .inr ⟨rfl,e2⟩;cases a7
 rcases g i fa with⟨x1,x2⟩|⟨x1,x2⟩<;>rcases g j gb with⟨y1,y2⟩|⟨y1,y2⟩<;>omega
 rw[bl.tM,sJ]at ho;have hold:∀i o,i≠hid k off->k5 (ox ck 0 rows) i=Q1 o->((S.sub θ).nb ((ox ck 0 rows).filter (λq=>!Nat.beq q.1 (hid k off)))).st.bF i=Q1 o:=λi o N g=>by rw[bl.tM,sJ,IL,cc N,g]
 have h:∀i o,mB<=i->(S.sub θ).st.bF i=Q1 o->((S.sub θ).nb ((ox ck 0 rows).filter (λq=>!Nat.beq q.1 (hid k off)))).st.bF i=Q1 o:=λi o a7 g=>by rw[bl.tM,sJ,IL,cc (by omega),O6 a7];exact g
 cases g:k5 (ox ck 0 (sK rows k off (.rs xs))) i with
 |some o' =>
  rw[g]at ho;simp only[ah]at ho;subst ho;have hpr:=Jk hw' (wI g);by_cases C:i=hid k off;subst C;rw[OZ hc (by rw[E3];exact hlen) (row:=row.set off (.rs xs)) (by rw[d,cr rfl]) hoff,J]at g;simp only[ai,vY,hc1,dt,dG,G,ah]at g;subst g;refine .inl ⟨m,_,him,h m ((c7.fN c.2.1 c.2.2 f).sub θ) hnx.1 (by rw[bl.ua,bg.mT,hm];rfl),?_⟩;simp only[c7.sub,hf];exact p4.rN hpr.2;have hh2:k5 (ox ck 0 rows) i=Q1 o':=by
   rw[Jo hc _ _ _ (by rw[E3];simpa using hlen)]at g;rw[Jo hc _ _ _ (by simpa using hlen),<-g];simp only[ Nat.sub_zero,d];by_cases H:i / 16=k;rw[cr H,H,b];cases t:pw ck (i%16)with
   |none=>rfl
   |some cj =>obtain⟨w1,w2⟩:=yp t;have N:off≠cj.1:=λe2=>C (by rw[Gv hoff (by omega)];omega);simp only[ai,vY,dt,dG,cc N]
   rw[cc H]
  exact .inl ⟨i,o',l i (by omega) C (by omega),hold i o' C hh2,p4.rN hpr.2⟩
 |none=>
  rw[g]at ho;have ho:((S.Cy a e z jc jc' ck m).st.sub θ).bF i=Q1 o:=ho;rw[bg.mT,aM3]at ho;have hpa:=Qh (Av B);by_cases O:i=a
  case neg=>
   rw[cc O]at ho;by_cases u:i=m;rw[cr u]at ho;cases ho;rw[cc u]at ho;cases hS:S.st.bF i with
   |none=>rw[hS]at ho;cases ho
   |some o0=>
    rw[hS]at ho;simp only[ai,ah]at ho;subst ho;have hS':(S.st.del m).bF i=Q1 o0:=by rw[bg.rK,cc u,hS]
    rcases J3 (S:={ S with st:=S.st.del m }) B hS' with h1|⟨h1,h2⟩
    exact b8 h1 O;exact .inl ⟨i,o0.sub θ,n i h1,h i _ (Qh h1).1 (by rw[bl.ua,bg.mT,hS];rfl),p4.ids n I h2⟩
  case pos=>
   subst O;rw[cr rfl]at ho;simp only[ai,ah]at ho;subst ho;refine .inl ⟨i,(c7.nH e z (.ey jc) ck kv off (Q1 (.c8 m c.2.2 f))).sub θ,n i (Av B),h i _ hpa.1 (by rw[bl.ua,bg.mT,ha];rfl),?_⟩;simp only[c7.sub,mK,hjc,D,rowsOf,ai,rA,hf,hk];have hfl:(ur (pd ck 0 rows) k off (Q1 (.ms m c.2.2 0 xs.length))).length=rows.length:=by simp only[ur];split;simp[zw];exact zw _ _ _
   refine p4.cells (by rw[hfl];simp[ur,zw,E3]) (λr ra rb g1 g2=>?_);have p:(pd ck 0 (sK rows k off (.rs xs)))[r]?=Q1 ra:=g1;rw[wy,d]at p;rw[Fu,wy]at g2;by_cases P:r=k;subst P;simp only[me,ai,ah,b]at p g2;subst p;subst g2;refine⟨by simp[ym],λs x y g3 g4=>?_⟩;rw[xz,dG]at g3;rw[dG,ym]at g4;by_cases Q:off=s;subst Q;simp only[me,G,ai,ah,a_]at g3 g4;rw[<-g3,<-g4,Bq,J];exact nI.ms him;rw[cc Q]at g3 g4;rw[xz]at g4;rw[g4]at g3;cases g3;cases R:row[s]? with
   |none=>rw[R]at g4;cases g4
   |some x0=>
    rw[R]at g4;simp only[ai,ah,a_]at g4;rw[<-g4,Bq];cases t:pw ck s with
    |none =>obtain⟨hr1,rfl⟩:=ak.1 b;obtain⟨hjj,rfl⟩:=ak.1 R;exact nI.kl (rY E r hr1 s hjj)
    |some cj=>
     obtain⟨w1,w2⟩:=yp t;have v:s<16:=by rw[<-w2];exact hc cj w1
     have w:=λe=>by obtain⟨e1,e2⟩:=PQ (ck:=ck) hlen M M v hoff e;exact Q e2.symm
     have:=xQ r s;exact nI.ms (l _ (by omega) w (by omega))
   simp only[cc P]at p g2;rw[g2]at p;cases p;refine⟨rfl,λs x y g3 g4=>?_⟩;rw[g4]at g3;cases g3;cases H:rows[r]? with
   |none=>rw[H]at g2;cases g2
   |some row1=>
    rw[H]at g2;simp only[ai,ah]at g2;subst g2;have hrl:=(ak.1 H).1;rw[xz]at g4;cases R:row1[s]? with
    |none=>rw[R]at g4;cases g4
    |some x0=>
     rw[R]at g4;simp only[ai,ah,a_]at g4;rw[<-g4,Bq];cases t:pw ck s with
     |none =>obtain⟨hr1,rfl⟩:=ak.1 H;obtain⟨hjj,rfl⟩:=ak.1 R;exact nI.kl (rY E r hr1 s hjj)
     |some cj=>
      obtain⟨w1,w2⟩:=yp t;have v:s<16:=by rw[<-w2];exact hc cj w1
      have w:=λe=>by obtain⟨e1,e2⟩:=PQ (ck:=ck) hlen hrl M v hoff e;exact P e1
      have:=xQ r s;exact nI.ms (l _ (by omega) w (by omega))
def P4(ck:List Nat)(j:Nat)(v:ar):ar:=match ck.any (ax j)&&isNil v with
 |true=>.rs []
 |false=>v
def yJ(ck:List Nat):Nat->List ar->List ar
 |_,[]=>[]
 |j,v::vs=>P4 ck j v::yJ ck (j+1) vs
def Xf(ck:List Nat):∀(row:List ar) (a j:Nat),(yJ ck a row)[j]?=(row[j]?).map (P4 ck (a+j))
 | [],a,j=>by simp[yJ]
 |v::vs,a,0=>by simp[yJ]
 |v::vs,a,j+1=>by simp only[yJ,List.getElem?_cons_succ];rw[Xf ck vs (a+1) j];congr 2;omega
def VU(ck:List Nat):∀(row:List ar) (a:Nat),(yJ ck a row).length=row.length
 | [],_=>rfl
 |_::vs,a=>by simp[yJ,VU ck vs]
def bl.yW(S:bl)(a:Nat)(e:TypeId)(z:Nat)(es:List (List ar))(ck:List Nat):bl:=S.act a z 0 0 (ta S) (S.st.set a (.row e z (es.map (yJ ck 0))))
def bo6(c:Fit θ){es:List (List ar)}{ck:List Nat}(ha:S.st.bF a=Q1 (.row e z es))(d:uy (ta S) a S=No)(hes:t_ (ta S) es=No) :
  ∃ι,Ren ι 0 (((S.yW a e z es ck).sub θ).nb []) ((S.sub θ).nb []):=by
 let ι:Nat->Option (Option Nat):=λi=>if i<S.st.next then Q1 (Q1 i)else Ld
 have b:∀i,ta S i=No->ι i=Q1 (Q1 i):=λi a7=>by obtain⟨fa,gb⟩:=Cb a7;simp only[ι,cr gb]
 refine⟨ι,J4 c b d rfl (λi k hk=>?_) (λi j k h1 h2=>?_) (λi o ho=>?_)⟩;simp only[ι]at hk;split at hk;assumption;cases hk;have n:∀i,ι i=Q1 (Q1 k)->i=k:=λi a7=>by simp only[ι]at a7;split at a7;cases a7;rfl;cases a7
 rw[n i h1,n j h2];have ho:((S.yW a e z es ck).st.sub θ).bF i=Q1 o:=ho;rw[bg.mT]at ho;have g:(S.yW a e z es ck).st.bF i=if i=a then Q1 (.row e z (es.map (yJ ck 0)))else S.st.bF i:=bg.mQ _ _ _ _
 rw[g]at ho;by_cases f:i=a;subst f;rw[cr rfl]at ho;simp only[ai,ah]at ho;subst ho;refine .inl ⟨i,(c7.row e z es).sub θ,b i (Av d),by show(S.st.sub θ).bF i=_;rw[bg.mT,ha];rfl,?_⟩;refine p4.cells (by simp) (λr s t g1 g2=>?_);rw[aO,aO]at g1;rw[aO]at g2;cases h:es[r]? with
 |none=>rw[h]at g2;cases g2
 |some row=>
  rw[h]at g1 g2;simp only[ai,ah]at g1 g2;subst g1;subst g2;refine⟨by simp[VU],λq x y g3 g4=>?_⟩;rw[aO,Xf]at g3;rw[aO]at g4;cases m:row[q]? with
  |none=>rw[m]at g4;cases g4
  |some v =>rw[m]at g3 g4;simp only[ai,ah]at g3 g4;subst g3;subst g4;unfold P4;split;rename_i p;simp only[ab]at p;rw[aq7 p.2];intro G u h;cases h;exact .q9;have hv:=wJ (DB hes row (aH h)) v (aH m);exact nI.ids b (DJ c _ v hv)
 rw[cc f]at ho;cases l:S.st.bF i with
 |none=>rw[l]at ho;cases ho
 |some o0=>
  rw[l]at ho;simp only[ai,ah]at ho;subst ho;rcases J3 d l with h1|⟨h1,h2⟩
  exact b8 h1 f;exact .inl ⟨i,o0.sub θ,b i h1,by show(S.st.sub θ).bF i=_;rw[bg.mT,l];rfl,p4.ids b c h2⟩
variable {a:Option pk}{bb:Nat}{e:TypeId}{j kv off:Nat}{rows:List (List ar)}{t:TypeId}{ti:nk}{v:ar}{z:Nat}{θ:Nat->ar}
inductive wg
 |own (slot:Nat) (ck:nW)
 |wS (slot:Nat) (t:TypeId) (off:Nat)
 |yW (slot:Nat) (ck:List Nat)
def uD:List (Nat×c7)->Option pk
 | []=>Ld
 | (a,.nH e z (.ey j) ck _ _ Ld)::_=>Q1 ⟨a,e,z,j,ck⟩
 |_::l=>uD l
def Dr(l:Nat)(j9:List ar):Option pk->Option pk->Bool
 |none,Ld=>No
 |some F,Q1 a=>zo a.ck F.ck&&match qC l j9 a.j with
  | .ey i=>ax i F.j
  |_=>N2
 |_,_=>N2
def aE4{l:Nat}{j9:List ar}{b:Option pk}(h:Dr l j9 b a=No)(θ:Nat->ar):r9 a (λi=>(qC l j9 i).sub θ)=r9 b θ/\(vg b θ->vg a (λi=>(qC l j9 i).sub θ)):=by
 cases b with
 |none=>cases a with
  |none=>exact⟨rfl,λ_=>trivial⟩
  |some _=>simp[Dr]at h
 |some F=>cases a with
  |none=>simp[Dr]at h
  |some c =>simp only[Dr,ab]at h;obtain⟨h1,h2⟩:=h;split at h2;rename_i i a7;have e:=ae h2;subst e;have hc:=JZ h1;refine⟨by simp only[r9,a7,mK,hc],λ⟨rows,g1,g2⟩=>⟨rows,by simp only[a7];exact g1,by rw[hc];exact g2⟩⟩;cases h2
abbrev xq:=Option pk->qQ->bl->Nat->nf
variable (T:cy) (Φ:lv) (F:FuncId->Option Func) (H:Nat->Option Hint) (acts:Nat->Option wg)
def F2(a:Option pk)(k:xq):zu:=λe s bb=>match ow a s bb with
 |true=>k a e s bb
 |false=>.stuck
def VZ(T:cy)(M:pk)(kv:Nat)(t:TypeId)(off:Nat)(c:Nat×TypeId×Nat)(k:xq):zu:=λe s bb=>match s.st.bF M.a with
 |some (.nH g h (.ey i) b (.ey l) d (Q1 (.c8 m z2 f)))=>match s.st.bF m with
  |some (.fN n z3 f3)=>
   match ax g M.e&&ax h M.z&&ax i M.j&&zo b M.ck&&ax l kv&&ax d off&&ax z2 c.2.2&&ax n c.2.1&&ax z3 c.2.2&&ax f3 f&&uy (Gs s m) M.a { s with st:=s.st.del m }&&dD mB m&&ow Ld s bb&&s.ff bb&&cM f bb with
   |true=>.op (.rows [f]) bb (.b4 (.bool No)) (.op (.za t M.e M.z (.ey M.j) (.ey kv) off (.ey f)) bb (.ey bb) (k (Q1 { M with j:=bb }) e (s.Cy M.a M.e M.z M.j bb M.ck m) (bb+1)))
   |false=>.stuck
  |_=>.stuck
 |_=>.stuck
def Mn(m:Nat)(id:Nat)(b:Option pk)(c:Code)(s:bl)(bb:Nat)(k:xq):nf:=match acts id with
 |none=>exec T Φ F H m mB c s bb (F2 b k)
 |some (.own hF ck)=>match b,s.get hF with
  |none,.c8 a z j=>match s.st.bF a with
   |some (.fN e d f)=>match ax f j&&ax d z&&uy (ta s) a s&&s.ff bb&&cM j bb&&ow (Q1 ⟨a,e,z,bb,ck⟩) (s.own a e z j bb ck) (bb+1)with
    |true=>.op (.Cd ck (.ey j)) bb (.ey bb) (exec T Φ F H m mB c (s.own a e z j bb ck) (bb+1) (F2 (Q1 ⟨a,e,z,bb,ck⟩) k))
    |false=>.stuck
   |_=>.stuck
  |_,_=>.stuck
 |some (.yW hF ck)=>match b,s.get hF with
  |none,.ms a _ _ _=>match s.st.bF a with
   |some (.row e z es)=>match uy (ta s) a s&&t_ (ta s) es&&ow Ld (s.yW a e z es ck) bb with
    |true=>exec T Φ F H m mB c (s.yW a e z es ck) bb (F2 Ld k)
    |false=>.stuck
   |_=>.stuck
  |_,_=>.stuck
 |some (.wS hF t off)=>match b,s.get hF with
  |some M,.ey kv=>match pw M.ck off,T t with
   |some tR,Q1 ti=>match !ti.isAgg&&ax ti.size 1&&uy (ta s) M.a s&&s.ff bb&&cM kv bb&&ow Ld (s.wS M.a M.e M.z M.j M.ck (.ey kv) off tR bb) (bb+1)with
    |true=>.op (.x4 t M.e M.z (.ey M.j) (.ey kv) off) bb (.ey bb) (exec T Φ F H m mB c (s.wS M.a M.e M.z M.j M.ck (.ey kv) off tR bb) (bb+1) (VZ T M kv t off tR k))
    |false=>.stuck
   |_,_=>.stuck
  |_,_=>.stuck
def uJ:Nat->Option pk->Code->bl->Nat->xq->nf
 | 0,_,_,_,_,_=>.stuck
 |m+1,g,c,s,bb,k=>match c with
  | .seq a b=>uJ m g a s bb λl e s' f=>match e with
   | .nr=>uJ m l b s' f k
   |e=>k l e s' f
  | .cond x a b=>match s.eval x with
   | .b4 (.bool t)=>uJ m g (if t then a else b) s bb k
   | .ey i=>.test i (uJ m g a (s.mU (qp i No)) bb k) (uJ m g b (s.mU (qp i N2)) bb k)
   |_=>.stuck
  | .block id b=>uJ m g b s bb λl e s' f=>match e with
   | .oA j=>k l (if j=id then .nr else .oA j) s' f
   |e=>k l e s' f
  | .scope b=>uJ m g b s bb k
  | .loop b=>match H (uX bb b s)with
   |some h=>match DD mB bb h s,h.state.ff (bb+h.k)&&ow (uD h.bF) h.state (bb+h.k)&&ow g s bb with
    |some inits,No=>match Dr bb inits g (uD h.bF)with
     |true=>.loop bb h.k inits (uJ m (uD h.bF) b h.state (bb+h.k+1) λn e s' f=>match e with
      | .nr=>match DD mB bb h s' with
       |some j9=>match Dr bb j9 n (uD h.bF)&&ow n s' f with
        |true=>.again bb j9
        |false=>.stuck
       |none=>.stuck
      |e=>k n e s' f)
     |false=>.stuck
    |_,_=>.stuck
   |none=>.stuck
  | .region id ops d=>match ow g s bb with
   |true=>Mn T Φ F H acts m id g (.region id ops d) s bb k
   |false=>.stuck
  | .skip=>k g .nr s bb
  | .label _=>k g .nr s bb
  | .exit id=>k g (.oA id) s bb
  | .ret=>k g .ret s bb
  |_=>.stuck
def LJ(T:cy)(fn:Func):xq:=λb e s bb=>match b with
 |none=>match ow Ld s bb with
  |true=>JC T fn e s bb
  |false=>.stuck
 |some M=>match e with
  | .oA _=>.stuck
  |_=>match ow (Q1 M) s bb,fn.results.toList with
   |true,[.tmp t]=>match s.get t with
    | .c8 a z j=>match ax a M.a&&ax z M.z&&ax j M.j with
     |true=>.ret (.ey M.j) []
     |false=>.stuck
    |_=>.stuck
   |_,_=>.stuck
section
variable {P:Program} {T:cy} (cb:mz P T) {Φ:lv} (hΦ:Ak P Φ) {F:FuncId->Option Func} (dC:∀f fn,F f=Q1 fn->P.funcs[f]?=Q1 fn) (hm:P.follows .mixedOrders=No) {Q:ar->Prop}
def Hp(T:cy)(Φ:lv)(Q:ar->Prop)(bb:Nat)(θ:Nat->ar)(A:Nat->List ar->Prop)(k:xq)(e:Exit)(t:bl):Prop :=∃d a g c h b,e=qQ.qP d/\bb<=c/\Fit a/\(∀i,i<bb->a i=θ i)/\(∀l,l<bb->h l=A l)/\t=g.full b a/\vg b a/\mV T Φ Q (k b d g c) a h
include cb hΦ dC hm in
theorem Ry{H:Nat->Option Hint}{m:Nat}{c:Code}{S:bl}{k:zu}{A:Nat->List ar->Prop}{n:List (Nat×c7)}(hH:∀p∈n,p.1<mB/\rN p.2=No){o:Nat}(r:ow Ld S o=No)(q:Fit θ)
  (h:mV T Φ Q (exec T Φ F H m mB c S bb k) θ A) :
  j5 P 0 c (λe t=>∃d a g b j,e=qQ.qP d/\bb<=b/\Fit a/\(∀i,i<bb->a i=θ i)/\(∀l,l<bb->j l=A l)/\t=(g.sub a).nb n/\mV T Φ Q (k d g b) a j) ((S.sub θ).nb n):=by
 have s:=JR cb hΦ dC hm (H:=H) m mB c S bb k θ A q h;refine j5.mono (j5.lower (c_ mB) (by rw[bl.tM,zO];exact(Ol r:mB<=S.st.next)) (j5.frame (λp hp=>?_) s)) ?_;obtain⟨h1,h2⟩:=hH p hp;exact⟨h1,h2,by rw[bl.ua,bg.mT,NR r h1];rfl⟩;rintro e t ⟨s',⟨d,a,g,b,j,rfl,fa,gb,lb,mN,rfl,mn⟩,rfl⟩;exact⟨d,a,g,b,j,rfl,fa,gb,lb,mN,rfl,mn⟩
theorem aI9{s:bl}(h:ow a s bb=No):ow Ld s bb=No:=by simp only[ow,ab]at h⊢;exact⟨h.1,trivial⟩
theorem bS6(cs:List ar)(j:Nat)(v:ar)(h:j+1<=cs.length):qz cs j [v]=cs.set j v:=by apply eH;intro k;rw[Nz cs j [v] (by simpa using h) k,dG];by_cases e:j=k;subst e;rw[cr (by simp),cr rfl,cr (by omega)];simp;rw[cc (by simp;omega),cc e]
theorem aZ4(c:T t=Q1 ti)(a:ti.isAgg=N2)(hj:θ j=.rs rows)(h:iv T Φ θ (.x4 t e z (.ey j) (.ey kv) off)=Q1 v):∃row,rows[nm (θ kv)]?=Q1 row/\row[off]?=Q1 v:=by
 have mH:(tW e z (.rs rows)).bF 0=Q1 (.row e z rows):=by simp[tW,bg.mQ,rowsOf]
 simp only[iv,mK,hj,py,mH]at h;cases b:rows[nm (θ kv)]? with
 |none=>rw[b]at h;cases h
 |some row =>rw[b]at h;simp only[c,sj,a]at h;exact⟨row,rfl,by simpa using h⟩
theorem aX2(c:T t=Q1 ti){f:Nat}{xs:List (List ar)}(hj:θ j=.rs rows)(hf:θ f=.rs xs)(h:iv T Φ θ (.za t e z (.ey j) (.ey kv) off (.ey f))=Q1 v):v=.rs (sK rows (nm (θ kv)) off (.rs xs)):=by
 have mH:(tW e z (.rs rows)).bF 0=Q1 (.row e z rows):=by simp[tW,bg.mQ,rowsOf]
 simp only[iv,mK,hj,hf,sq,ar.cells,c,mH]at h;cases b:rows[nm (θ kv)]? with
 |none=>rw[b]at h;cases h
 |some row =>rw[b]at h;simp only at h;split at h;rename_i σ a;split at a;rename_i hc;cases a;simp only[bg.mQ,me]at h;split at h;cases h;simp only[sK,b];rw[bS6 _ _ _ (by simpa using hc.2.1)];cases h;cases a;cases h
end
end
end Go.Ab
namespace Go.Ab
open Go
variable [nO]
variable {G:ca}{H:Nat->Option Hint}{S:bl}{acts:Nat->Option wg}{b:pk}{bb:Nat}{c:Code}{f:FuncId}{i:Nat}{k:xq}{m:Nat}{r:ar}{rows:List (List ar)}{w:World}{θ:Nat->ar}
section
variable {P:Program} {T:cy} (cb:mz P T) {Φ:lv} (hΦ:Ak P Φ) {F:FuncId->Option Func} (dC:∀f fn,F f=Q1 fn->P.funcs[f]?=Q1 fn) (hm:P.follows .mixedOrders=No) {Q:ar->Prop}
include cb hΦ dC hm in
theorem Lm{a:Option pk}{A:Nat->List ar->Prop}(i:ow a S bb=No)(hw:vg a θ)(b:Fit θ)
  (h:mV T Φ Q (exec T Φ F H m mB c S bb (F2 a k)) θ A):j5 P 0 c (Hp T Φ Q bb θ A k) (S.full a θ):=by
 refine j5.mono (Ry cb hΦ dC hm (λp hp=>PV hw hp) (aI9 i) b h) ?_;rintro e t ⟨j,d,l,g,n,rfl,fa,gb,lb,mN,rfl,mn⟩;obtain⟨g1,g2⟩:=W7 i lb;unfold F2 at mn;split at mn;exact⟨j,d,l,g,n,a,rfl,fa,gb,lb,mN,by simp only[bl.full,g1],g2 hw,mn⟩;exact mn.elim
theorem aU3{H:List (Nat×c7)}(h:∀p∈H,p.1<mB/\rN p.2=No)(q:Nat×c7->Bool):∀p∈H.filter q,p.1<mB/\rN p.2=No:=λp hp=>h p (List.mem_filter.1 hp).1
include cb hΦ dC hm in
theorem aU6{id:Nat}{μ:Option pk}{s:bl}{A:Nat->List ar->Prop}(hB:ow μ s bb=No)(hw:vg μ θ)(D:Fit θ)
  (h:mV T Φ Q (Mn T Φ F H acts m id μ c s bb k) θ A):j5 P 0 c (Hp T Φ Q bb θ A k) (s.full μ θ):=by
 unfold Mn at h;split at h;exact Lm cb hΦ dC hm hB hw D h;rename_i hF ck I;split at h;rename_i a z j hsl;split at h;rename_i e z' J ho;split at h;rename_i hc;simp only[ab]at hc;obtain⟨⟨⟨⟨⟨c1,c2⟩,c3⟩,c4⟩,c5⟩,c6⟩:=hc;have e1:=ae c1;have e2:=ae c2;subst e1;subst e2;have E:J<bb:=by simpa[bP]using c5
 obtain⟨r,g1,g2,g3,g4⟩:=h;have K:∃rows,θ J=.rs rows/\A5 ck rows=No/\r bb=.rs (rows.map (rp ck 0)):=by simp only[iv,mK]at g3;split at g3;rename_i rows hr;split at g3;rename_i o;exact⟨rows,hr,o,(aQ g3).symm⟩;cases g3;cases g3
 obtain⟨rows,hj,o,N⟩:=K;have hjt:r J=.rs rows:=by rw[g1 J E];exact hj
 obtain⟨ι,g⟩:=bE4 g2 ho c3 hjt N o;have hpur:(ar.rs rows).kl=No:=by have:=(D J).kl;rw[hj]at this;exact this
 have hw':vg (Q1 ⟨a,e,z',bb,ck⟩) r:=⟨_,N,(aE3 o hpur).1⟩;have mH:s.full Ld θ=(s.sub r).nb []:=by show(s.sub θ).nb []=_;rw[bl.k6 g1 c4]
 rw[mH];have O:((s.own a e z' J bb ck).sub r).nb (ox ck 0 (rows.map (rp ck 0)))=(s.own a e z' J bb ck).full (Q1 ⟨a,e,z',bb,ck⟩) r:=by simp only[bl.full,r9,N,rowsOf]
 rw[O]at g;refine j5.conv g (j5.mono (Lm cb hΦ dC hm c6 hw' g2 g4) ?_);rintro e0 t ⟨e',u,S',fr',A',μ',rfl,fa,gb,lb,mN,rfl,mn⟩;exact⟨e',u,S',fr',A',μ',rfl,by omega,gb,λi a7=>(lb i (by omega)).trans (g1 i a7),λl hl=>mN l (by omega),rfl,mn⟩;exact h.elim;exact h.elim;exact h.elim;rename_i hF ck I;split at h;rename_i a _ _ _ hsl;split at h;rename_i e z es ho;split at h;rename_i hc;simp only[ab]at hc;obtain⟨⟨c1,c2⟩,c3⟩:=hc;obtain⟨ι,g⟩:=bo6 (ck:=ck) D ho c1 c2;exact j5.conv g (Lm cb hΦ dC hm c3 trivial D h);exact h.elim;exact h.elim;exact h.elim;rename_i hF t off I;split at h;rename_i M kv hsl;split at h;rename_i tR ti w hti;split at h;rename_i hc;simp only[ab]at hc;obtain⟨⟨⟨⟨⟨c1,c2⟩,c3⟩,c4⟩,c5⟩,c6⟩:=hc;have hagg:ti.isAgg=N2:=by simpa using c1
 have hkf:kv<bb:=by simpa[bP]using c5
 have E:=RG hB;obtain⟨rows,hj,x⟩:=hw;obtain⟨v,g1,g2,g3,g4⟩:=h;obtain⟨row,B,n⟩:=aZ4 hti hagg hj g3;obtain⟨hcm,hc1⟩:=yp w;obtain⟨xs,hxs⟩:=x.2.2.2 row (aH B) tR hcm;rw[hc1,n]at hxs;have hf1:v bb=.rs xs:=by simpa using hxs
 rw[mK,hf1]at n;have hj1:v M.j=.rs rows:=by rw[g1 _ E];exact hj
 have R:v kv=θ kv:=g1 kv hkf;obtain⟨k0,off0,hobj⟩:=ay1 hB;obtain⟨ι,g⟩:=bj3 (S:=s) g2 (kv:=.ey kv) (off:=off) (c:=tR) (f:=bb) hobj c3 (Ol hB) hj1 x (by rw[mK,R];exact B) w n hf1;have mH:s.full (Q1 M) θ=(s.sub v).nb (ox M.ck 0 rows):=by simp only[bl.full,r9,hj,rowsOf];rw[bl.k6 g1 c4]
 rw[mH];refine j5.conv g ?_;have hfil:=aU3 (H:=ox M.ck 0 rows) (λp hp=>Jk x hp) (λq=>!Nat.beq q.1 (hid (nm ((ar.ey kv).sub v)) off));refine j5.bf6 (j5.mono (Ry cb hΦ dC hm hfil c6 g2 g4) ?_);rintro e0 t0 ⟨e',u,S2,d,A2,rfl,fa,gb,lb,mN,rfl,mn⟩;unfold VZ at mn;split at mn;rename_i e1 nq j1 cols1 k1 off1 m1 z2 f1 ho1;split at mn;rename_i e3 z3 f3 ho3;split at mn;rename_i hc2;simp only[ab]at hc2;obtain⟨⟨⟨⟨⟨⟨⟨⟨⟨⟨⟨⟨⟨⟨d1,d2⟩,d3⟩,d4⟩,d5⟩,d6⟩,d7⟩,d8⟩,d9⟩,d10⟩,d11⟩,d12⟩,d13⟩,d14⟩,d15⟩:=hc2;rw[ae d1,ae d2,ae d3,JZ d4,ae d5,ae d6,ae d7]at ho1;rw[ae d8,ae d9,ae d10]at ho3;have hff:f1<d:=by simpa[bP]using d15
 obtain⟨θ3,r1,r2,r3,b,s1,s2,s3,s4⟩:=mn;have hrs:∃ys,u f1=.rs ys:=by
  simp only[iv,bU,List.all_nil,Bool.and_true]at r3;cases hv:u f1 with
  |rs ys=>exact⟨ys,rfl⟩
  |_=>rw[hv]at r3;cases r3
 obtain⟨ys,hys⟩:=hrs;have a3:∀i,i<d->b i=u i:=λi a7=>(s1 i a7).trans (r1 i a7);have b3:∀i,i<bb->b i=θ i:=λi a7=>(a3 i (by omega)).trans ((lb i (by omega)).trans (g1 i a7));have hj3:θ3 M.j=.rs rows:=by rw[r1 _ (by omega),lb _ (by omega)];exact hj1
 have hf3:θ3 f1=.rs ys:=by rw[r1 _ hff];exact hys
 have hk3:θ3 kv=θ kv:=by rw[r1 _ (by omega),lb _ (by omega)];exact R
 have hj4:b M.j=.rs rows:=by rw[b3 _ E];exact hj
 have hf4:b f1=.rs ys:=by rw[a3 _ hff];exact hys
 have G:b kv=θ kv:=b3 _ hkf;have hv:=aX2 hti hj3 hf3 s3;rw[hk3]at hv;have C:b d=.rs (sK rows (nm (θ kv)) off (.rs ys)):=by simpa using hv
 obtain⟨ι2,hren2⟩:=bR9 (S:=S2) (jc':=d) s2 (kv:=.ey kv) (off:=off) (c:=tR) ho1 ho3 d11 ⟨aZ d12,Ol d13⟩ hj4 x (by rw[mK,G];exact B) w n hf4 (by rw[mK,G];exact C);refine⟨ι2,_,?_,e',b,S2.Cy M.a M.e M.z M.j d M.ck m1,d+1,A2,Q1 { M with j:=d },rfl,by omega,s2,b3,λl hl=>mN l (by omega),rfl,?_,s4⟩;have hl:(S2.Cy M.a M.e M.z M.j d M.ck m1).full (Q1 { M with j:=d }) b=((S2.Cy M.a M.e M.z M.j d M.ck m1).sub b).nb (ox M.ck 0 (sK rows (nm ((ar.ey kv).sub b)) off (.rs ys))):=by simp only[bl.full,r9,C,rowsOf,mK,G]
 have hr:(S2.sub u).nb ((ox M.ck 0 rows).filter (λq=>!Nat.beq q.1 (hid (nm ((ar.ey kv).sub v)) off)))=(S2.sub b).nb ((ox M.ck 0 rows).filter (λq=>!Nat.beq q.1 (hid (nm ((ar.ey kv).sub b)) off))):=by rw[bl.k6 a3 d14];simp only[mK,G,R]
 rw[hl,hr];exact hren2;refine⟨_,C,x.put ?_⟩;rw[<-hf4];exact(s2 f1).kl;exact mn.elim;exact mn.elim;exact mn.elim;exact h.elim;exact h.elim;exact h.elim
def aS0(P:Program)(T:cy)(Φ:lv)(Q:ar->Prop)(ex:Option pk->Code->bl->Nat->xq->nf):Prop :=∀a c s bb k θ A,Fit θ->vg a θ->mV T Φ Q (ex a c s bb k) θ A->j5 P 0 c (Hp T Φ Q bb θ A k) (s.full a θ)
theorem ag8{b:Bool}(h:θ i=.b4 (.bool b))(s:bl)(a:Option pk):(s.mU (qp i b)).full a θ=s.full a θ:=by simp only[bl.full,FY h]
theorem ah3(s:bl)(a:Option pk)(θ:Nat->ar)(x:Operand):(s.full a θ).eval x=(s.eval x).sub θ:=by rw[<-bl.sub_eval];cases x<;>rfl
include cb hΦ dC hm in
theorem O8{H:Nat->Option Hint}{acts:Nat->Option wg}:∀m,aS0 P T Φ Q (uJ T Φ F H acts m)
 | 0=>λz c s bb k θ A _ _ h=>by simp[uJ,mV]at h
 |m+1=>by
  intro z c s bb k θ A u hw h;have R:=O8 (H:=H) (acts:=acts) m;have self:∀e,mV T Φ Q (k z e s bb) θ A->Hp T Φ Q bb θ A k (qQ.qP e) (s.full z θ):=λe hh=>⟨e,θ,s,bb,A,z,rfl,aB _,u,λ_ _=>rfl,λ_ _=>rfl,rfl,hw,hh⟩;unfold uJ at h
  skip
  split at h;rename_i a b;refine j5.seq (j5.mono (R z a s bb _ θ A u hw h) ?_);rintro e s' ⟨e',d,M,o,N,r,rfl,fa,gb,lb,mN,rfl,oL,mn⟩;cases e' with
  |nr =>refine j5.mono (R r b M o k d N gb oL mn) ?_;rintro e2 s2 ⟨e2',g,S2,E,A2,w,rfl,r1,r2,r3,r4,r5,r6⟩;exact⟨e2',g,S2,E,A2,w,rfl,bz fa r1,r2,λi a7=>(r3 i (by omega)).trans (lb i a7),λl hl=>(r4 l (by omega)).trans (mN l hl),r5,r6⟩
  |oA j=>exact⟨.oA j,d,M,o,N,r,rfl,fa,gb,lb,mN,rfl,oL,mn⟩
  |ret=>exact⟨.ret,d,M,o,N,r,rfl,fa,gb,lb,mN,rfl,oL,mn⟩
  rename_i x a b;split at h;rename_i t hx;refine j5.cond (t:=t) (by rw[ah3,hx,pN]) ?_;exact R z _ s bb k θ A u hw h;rename_i i hx;have hev:∀t,θ i=.b4 (.bool t)->(s.full z θ).eval x=.b4 (.bool t):=λt ht=>by rw[ah3,hx,mK,ht]
  rcases h with⟨G,hh⟩|⟨G,hh⟩
  refine j5.cond (t:=No) (hev No G) ?_;have:=R z a _ bb k θ A u hw hh;rw[ag8 G]at this;exact this;refine j5.cond (t:=N2) (hev N2 G) ?_;have:=R z b _ bb k θ A u hw hh;rw[ag8 G]at this;exact this;exact h.elim;rename_i id b;refine j5.block (j5.mono (R z b s bb _ θ A u hw h) ?_);rintro e s' ⟨e',d,M,o,N,r,rfl,fa,gb,lb,mN,rfl,oL,mn⟩;cases e' with
  |nr=>exact⟨.nr,d,M,o,N,r,rfl,fa,gb,lb,mN,rfl,oL,mn⟩
  |ret=>exact⟨.ret,d,M,o,N,r,rfl,fa,gb,lb,mN,rfl,oL,mn⟩
  |oA j =>simp only[qQ.qP,JB];simp only at mn;split;rename_i e;rw[cr e]at mn;exact⟨.nr,d,M,o,N,r,rfl,fa,gb,lb,mN,rfl,oL,mn⟩;rename_i e;rw[cc e]at mn;exact⟨.oA j,d,M,o,N,r,rfl,fa,gb,lb,mN,rfl,oL,mn⟩
  rename_i b;refine j5.scope (j5.mono (R z b s bb _ θ A u hw h) ?_);rintro e s' ⟨e',d,M,o,N,r,rfl,q⟩;exact⟨by cases e'<;>trivial,e',d,M,o,N,r,rfl,q⟩;rename_i b;split at h;rename_i hint hH;split at h;rename_i inits hmt hbd0;split at h;rename_i hfm;simp only[ab]at hbd0;obtain⟨⟨hbd,hBh⟩,hB⟩:=hbd0;obtain⟨I,⟨n1,hI0⟩,O⟩:=h;obtain⟨v1,v2,v3,ι,hren⟩:=IJ u hmt;obtain⟨f1,f2⟩:=aE4 hfm θ;have hlo0:∀(S:bl) (θ:Nat->ar) (fr0:Nat) (μ0:Option pk),ow μ0 S fr0=No->∀i,i<mB->(S.sub θ).st.bF i=Ld:=λS θ fr0 μ0 G i a7=>by rw[bl.ua,bg.mT,NR G a7];rfl
  have J:=Ren.nb (H:=r9 z θ) hren (λp hp=>PV hw hp) (hlo0 s θ bb z hB);have hst0:(hint.state.sub (λi=>(qC bb inits i).sub θ)).nb (r9 z θ)=hint.state.full (uD hint.bF) (λi=>(qC bb inits i).sub θ):=by simp only[bl.full,f1]
  rw[hst0]at J;refine j5.conv J ?_;have B:∀(j9:List ar) (d:Nat->ar) i,i<bb->(qC bb j9 i).sub d=d i:=λj9 d i a7=>by
   unfold qC;have:dD bb i=N2:=by
    cases G:dD bb i with
    |false=>rfl
    |true=>have:=aZ G;omega
   rw[this];simp
  have C:∀(j9:List ar) (d:Nat->ar) j (hj:j<j9.length),(qC bb j9 (bb+j)).sub d=(j9[j]).sub d:=λj9 d j hj=>by unfold qC;rw[Nat.ble_eq_true_of_le (aV bb j)];simp[hj]
  have pad:∀(j9:List ar) (d:Nat->ar),j9.length=hint.k->(∀i,i<bb->d i=θ i)->(∀j (hj:j<j9.length),d (bb+j)=j9[j])->Fit d->vg (uD hint.bF) d ->
    ∃g,(∀i,i<bb->g i=θ i)/\(∀j (hj:j<j9.length),g (bb+j)=j9[j])/\g (bb+hint.k)=.b4 (.bool N2)/\Fit g/\vg (uD hint.bF) g/\hint.state.full (uD hint.bF) d=hint.state.full (uD hint.bF) g:=λj9 d mJ nj rM s_ xY=>by
   have hag:∀i,i<bb+hint.k->(λi=>if i=bb+hint.k then ar.b4 (.bool N2)else d i) i=d i:=λi a7=>by simp only[show ¬i=bb+hint.k by omega,l4]
   obtain⟨w1,w2⟩:=W7 hBh hag;refine⟨λi=>if i=bb+hint.k then .b4 (.bool N2)else d i,λi a7=>?_,λj hj=>?_,by simp,λi=>?_,w2 xY,?_⟩;simp only[show ¬i=bb+hint.k by omega,l4];exact nj i a7;simp only[show ¬bb+j=bb+hint.k by omega,l4];exact rM j hj;show nN (if i=bb+hint.k then .b4 (.bool N2)else d i);split;trivial;exact s_ i;simp only[bl.full,w1];rw[bl.k6 hag hbd]
  refine j5.loop (λk1 s1=>∃j9 d,I k1 j9/\j9.length=hint.k/\(∀v∈j9,nN v)/\(∀i,i<bb->d i=θ i)/\(∀j (hj:j<j9.length),d (bb+j)=j9[j])/\Fit d/\vg (uD hint.bF) d/\s1=hint.state.full (uD hint.bF) d) ?_ (k:=n1) ?_;rintro k1 s1 ⟨j9,θ0,g1,g2,g3,g40,g50,g60,g70,rfl⟩;obtain⟨d,g4,g5,g5',g6,g6',g7⟩:=pad j9 θ0 g2 g40 g50 g60 g70;rw[g7];have G:=R (uD hint.bF) b hint.state (bb+hint.k+1) _ d _ g6 g6' (O k1 j9 g1 g2 g3 d g4 g5 g5' g6);refine j5.Va (j5.mono G ?_);rintro e s' ⟨e',g,S2,E,A2,w,rfl,fa,gb,lb,mN,rfl,oL,mn⟩;have hA2:A2 bb=λn=>∃m,m<k1/\I m n:=by rw[mN bb (by omega)];simp
  have hlo:∀i,i<bb->g i=θ i:=λi a7=>(lb i (by omega)).trans (g4 i a7);have hAlo:∀l,l<bb->A2 l=A l:=λl hl=>by rw[mN l (by omega)];simp[Nat.ne_of_lt hl]
  cases e' with
  |nr=>
   left;simp only at mn;split at mn;rename_i n hm';split at mn;rename_i D;simp only[ab]at D;obtain⟨D,hB2⟩:=D;obtain⟨w1,w2,w3,ι',hren'⟩:=IJ gb hm';obtain⟨u1,u2⟩:=aE4 D g;have K:=Ren.nb (H:=r9 w g) hren' (λp hp=>PV oL hp) (hlo0 S2 g E w hB2);have hst2:(hint.state.sub (λi=>(qC bb n i).sub g)).nb (r9 w g)=hint.state.full (uD hint.bF) (λi=>(qC bb n i).sub g):=by simp only[bl.full,u1]
   rw[hst2]at K;refine⟨ι',_,K,?_⟩;simp only[qQ.qP,Cw];have wb:A2 bb (n.map (ar.sub g)):=mn;rw[hA2]at wb;obtain⟨m1,hm1,hI1⟩:=wb;refine⟨m1,hm1,n.map (ar.sub g),_,hI1,by simpa using w1,λv hv=>?_,λi a7=>by rw[B];exact hlo i a7;exact a7,λj hj=>?_,w3,u2 oL,rfl⟩;obtain⟨v0,hv0,rfl⟩:=aM.1 hv;exact w2 v0 hv0;simp only[aI]at hj;rw[C n g j hj];simp;exact mn.elim;exact mn.elim
  |oA j=>right;exact⟨.oA j,g,S2,E,A2,w,rfl,by omega,gb,hlo,hAlo,rfl,oL,mn⟩
  |ret=>right;exact⟨.ret,g,S2,E,A2,w,rfl,by omega,gb,hlo,hAlo,rfl,oL,mn⟩
  refine⟨inits.map (ar.sub θ),_,hI0,by simpa using v1,λv hv=>?_,λi a7=>B _ _ i a7,λj hj=>?_,v3,f2 hw,rfl⟩;obtain⟨v0,hv0,rfl⟩:=aM.1 hv;exact v2 v0 hv0;simp only[aI]at hj;rw[C inits θ j hj];simp;exact h.elim;exact h.elim;exact h.elim;split at h;rename_i hB;exact aU6 cb hΦ dC hm hB hw u h;exact h.elim;exact j5.y4 (nw.skip (self .nr h));exact j5.y4 (nw.label (self .nr h));exact j5.y4 (nw.exit (self (.oA _) h));exact j5.y4 (nw.ret (self .ret h));exact h.elim
theorem am3{d:pk}(hj:θ d.j=.rs rows)(hw:xU d.ck rows){σ:bg}(pl:Nat->Option nt)
  (g:Rel G σ w) (x:∀i o,i<mB->(S.full (Q1 d) θ).st.bF i=Q1 o->σ.bF i=Q1 o)  (a7:i<rows.length) (z:i<(pd d.ck 0 rows).length) :
  rows[i].length=(pd d.ck 0 rows)[i].length/\∀j (h:j<rows[i].length) (p:j<(pd d.ck 0 rows)[i].length) u0,eR G (pd d.ck 0 rows)[i][j] u0->eR (G.frozen σ w pl) rows[i][j] u0:=by
 have m:(S.full (Q1 d) θ).st=Go.Ab.nb (ox d.ck 0 rows) (S.st.sub θ):=by simp only[bl.full,r9,hj];rfl
 have q:(pd d.ck 0 rows)[i]?=Q1 (tj d.ck i 0 rows[i]):=by simp only[wy,a_,af a7,ai]
 have r:(pd d.ck 0 rows)[i]=tj d.ck i 0 rows[i]:=by rw[af z]at q;exact aQ q
 refine⟨by rw[r,ym],λj h p u0 hu=>?_⟩;have hc:(tj d.ck i 0 rows[i])[j]?=Q1 (wO d.ck i j rows[i][j]):=by rw[xz,af h];simp
 have B:(pd d.ck 0 rows)[i][j]=wO d.ck i j rows[i][j]:=by
  have:(pd d.ck 0 rows)[i][j]?=Q1 (wO d.ck i j rows[i][j]):=by rw[r];exact hc
  rw[af p]at this;exact aQ this
 rw[B,Bq]at hu;have e:=rY hw.2.2.1 i a7 j h;cases l:pw d.ck j with
 |none =>rw[l]at hu;exact rr (λb o s=>tc g s) hu e
 |some c=>
  rw[l]at hu;obtain⟨t,n⟩:=yp l;have u:j<16:=by rw[<-n];exact hw.2.1 c t
  obtain⟨xs,k⟩:=hw.2.2.2 rows[i] (ay a7) c t;rw[n,af h]at k;have k:=aQ k;rw[k]at hu e⊢;have C:(S.full (Q1 d) θ).st.bF (hid i j)=Q1 (.row c.2.1 c.2.2 xs):=by rw[m,sJ,OZ hw.2.1 hw.1 (af a7) u,l];simp only[ai,vY,n,dt,af h,cA,k,rowsOf]
  simp only[rowsOf]at hu;refine Jj g pl hu (x _ _ (d_ _ (by decide)) C) (by omega) rfl (λa ha D=>?_);have E:xs[0+a]=xs[a]:=by congr 1;omega
  refine⟨by rw[E],λb s H J v=>?_⟩;have I:xs[0+a][b]=xs[a][b]:=by congr 1
  rw[I]at v;exact rr (λb o s=>tc g s) v (rY e a ha b s)
theorem aA5(h:ow (Q1 b) S bb=No)(hj:θ b.j=.rs rows):mB<=b.a/\(S.full (Q1 b) θ).st.bF b.a=Q1 (.row b.e b.z (pd b.ck 0 rows)):=by
 obtain⟨k,off,c⟩:=ay1 h;have ha:mB<=b.a:=by refine kD λg=>?_;rw[NR h g]at c;cases c
 have d:(S.full (Q1 b) θ).st=Go.Ab.nb (ox b.ck 0 rows) (S.st.sub θ):=by simp only[bl.full,r9,hj];rfl
 refine⟨ha,?_⟩;rw[d,sJ,O6 ha,bg.mT,c];simp only[ai,c7.sub,mK,hj,rowsOf,dU,ur]
theorem bZ1(e:ow (Q1 b) S bb=No)(hj:θ b.j=.rs rows)(hw:xU b.ck rows){u:Value}(pl:Nat->Option nt)
  (c:Rel G (S.full (Q1 b) θ).st w) (g:eR G (.ms b.a b.z 0 rows.length) u):eR (G.frozen (S.full (Q1 b) θ).st w pl) (.rs rows) u:=by
 refine Jj c pl g (aA5 e hj).2 (by rw[zw];omega) rfl (λi a7 k=>?_);have l:(pd b.ck 0 rows)[0+i]=(pd b.ck 0 rows)[i]'(by omega):=by congr 1;omega
 obtain⟨h1,h2⟩:=am3 (S:=S) hj hw pl c (λ_ _ _ h=>h) a7 (by omega);refine⟨by rw[l];exact h1,λj d m u0 hu=>h2 j d (by omega) u0 ?_⟩;have n:(pd b.ck 0 rows)[0+i][j]=((pd b.ck 0 rows)[i]'(by omega))[j]'(by omega):=by congr 1
 rw[<-n];exact hu
def B8(n:Nat)(a:List ar):bl:={ bl.enter n a bg.none with st:={ (bl.enter n a bg.none).st with next:=mB } }
include cb hΦ dC hm in
theorem bj0     {fn:Func}  (J:F f=Q1 fn) (x:(fn.name== "runtime.NumGoroutine")=N2) (K:fn.body=Q1 c) {d:List ar} (hn:d.length<=fn.ntmps) (hp:q2 d=No)
   (D:Fit θ)  (h:mV T Φ (λc=>c=r) (uJ T Φ F H acts m Ld c (B8 fn.ntmps d) bb (LJ T fn)) θ (λ_ _=>False)):oX P ⟨f,d.map (ar.sub θ),r⟩:=by
 refine oX.DS cb (dC f fn J) x K (by simpa using hn) (by rw[<-uv,<-pT];exact vH D d hp) ?_;refine j5.raise (k:=mB) (by simp[bl.enter,bg.none]) ?_;have hx:=O8 cb hΦ dC hm (Q:=λc=>c=r) (H:=H) (acts:=acts) m Ld c (B8 fn.ntmps d) bb (LJ T fn) θ _ D trivial h;have mH:(B8 fn.ntmps d).full Ld θ={ bl.enter fn.ntmps (d.map (ar.sub θ)) bg.none with st:={ (bl.enter fn.ntmps (d.map (ar.sub θ)) bg.none).st with next:=mB } }:=by have N:(bl.enter fn.ntmps d bg.none).sub θ=bl.enter fn.ntmps (d.map (ar.sub θ)) bg.none:=FP ..;show({ (bl.enter fn.ntmps d bg.none).sub θ with st:={ ((bl.enter fn.ntmps d bg.none).sub θ).st with next:=mB } }:bl)=_;rw[N]
 rw[mH]at hx;refine j5.mono hx ?_;rintro e s' ⟨E,i,n,B,O,R,rfl,_,f1,_,_,rfl,S,hl⟩;cases R with
 |none=>
  have s:mV T Φ (λc=>c=r) (match ow Ld n B with|true=>JC T fn E n B|false=>.stuck) i O:=hl;split at s;have fin:∀l,E=l->(l=.nr\/l=.ret)->(l.qP=.normal\/l.qP=.ret)/\∃v,pc T fn (n.sub i)=Q1 v/\∀G w u pl,Rel G (n.sub i).st w->eR G v u->eR (G.frozen (n.sub i).st w pl) r u:=by
   intro l he uG;subst he;refine⟨by rcases uG with rfl|rfl<;>simp[qQ.qP],?_⟩;have g:mV T Φ (λc=>c=r) (match pc T fn n with
    |some v=>match v.qA with
     |true=>.ret v.rJ []
     |false=>match pX n.st 50 v with
      |some c=>.ret c.rJ (pZ n.st.mZ)
      |none=>.stuck
    |none=>.stuck) i O:=by rcases uG with rfl|rfl<;>exact s
   split at g;rename_i v hv;refine⟨v.sub i,Db hv,?_⟩;intro G w u pl p hrep;split at g;rename_i hcp;obtain⟨_,C⟩:=g;rw[<-C];exact BN v u (rr (λb o K=>tc p K) hrep (BB f1 v hcp));split at g;rename_i c hc;obtain⟨q,C⟩:=g;rw[<-C];exact BN c u (DA f1 p pl (λid e z j ho=>q j (Bv ho)) (λid j ho=>q j (Bo ho)) 50 v c u hc hrep);exact g.elim;exact g.elim
  cases E with
  |oA j=>exact s.elim
  |nr=>exact fin .nr rfl (.inl rfl)
  |ret=>exact fin .ret rfl (.inr rfl)
  exact s.elim
 |some M=>
  obtain⟨rows,hj,hwf⟩:=S;have fin:∀l,E=l->(l=.nr\/l=.ret)->(l.qP=.normal\/l.qP=.ret)/\∃v,pc T fn (n.full (Q1 M) i)=Q1 v/\∀G w u pl,Rel G (n.full (Q1 M) i).st w->eR G v u->eR (G.frozen (n.full (Q1 M) i).st w pl) r u:=by
   intro l he uG;subst he;refine⟨by rcases uG with rfl|rfl<;>simp[qQ.qP],?_⟩;have g:mV T Φ (λc=>c=r) (match ow (Q1 M) n B,fn.results.toList with
    |true,[.tmp t]=>match n.get t with
     | .c8 a z j=>match ax a M.a&&ax z M.z&&ax j M.j with
      |true=>.ret (.ey M.j) []
      |false=>.stuck
     |_=>.stuck
    |_,_=>.stuck) i O:=by rcases uG with rfl|rfl<;>exact hl
   split at g;rename_i t hB I;split at g;rename_i a z j k5;split at g;rename_i hc;simp only[ab]at hc;have N:=ae hc.1.1;have e2:=ae hc.1.2;have e3:=ae hc.2;subst N;subst e2;subst e3;obtain⟨_,C⟩:=g;rw[mK,hj]at C;have hg:(n.full (Q1 M) i).get t=.ms M.a M.z 0 rows.length:=by have:(n.full (Q1 M) i).get t=(n.sub i).get t:=rfl;rw[this,bl.tB,k5,rA,hj];rfl
   refine⟨.ms M.a M.z 0 rows.length,?_,?_⟩;simp only[pc,I,uI,y3,hg];intro G w u pl p hrep;rw[<-C];exact bZ1 hB hj hwf pl p hrep;exact g.elim;exact g.elim;exact g.elim
  cases E with
  |oA j=>exact hl.elim
  |nr=>exact fin .nr rfl (.inl rfl)
  |ret=>exact fin .ret rfl (.inr rfl)
end
def H_(l:List (Nat×wg))(i:Nat):Option wg:=match l with
 | []=>Ld
 | (j,a)::l=>match ax j i with
  |true=>Q1 a
  |false=>H_ l i
def JH(T:cy)(Φ:lv)(F:FuncId->Option Func)(H:List (Nat×Hint))(acts:List (Nat×wg))(m:Nat)(f:FuncId)(a:List ar)(bb:Nat):nf :=
 match F f with
 |some fn=>match fn.body with
  |some c=>match !(fn.name== "runtime.NumGoroutine")&&dD a.length fn.ntmps&&q2 a with
   |true=>uJ T Φ F (Cs H) (H_ acts) m Ld c (B8 fn.ntmps a) bb (LJ T fn)
   |false=>.stuck
  |none=>.stuck
 |none=>.stuck
def bK1{P:Program}{T:cy}(cb:mz P T){Φ:lv}(b:Ak P Φ){F:FuncId->Option Func}(dC:∀f fn,F f=Q1 fn->P.funcs[f]?=Q1 fn)(hm:P.follows .mixedOrders=No){H:List (Nat×Hint)}{acts:List (Nat×wg)}{a:List ar}
   (d:Fit θ)  (h:mV T Φ (λc=>c=r) (JH T Φ F H acts m f a bb) θ (λ_ _=>False)):oX P ⟨f,a.map (ar.sub θ),r⟩:=by
 unfold JH at h;split at h;rename_i fn e;split at h;rename_i c g;split at h;rename_i hc;simp only[ab,cT]at hc;exact bj0 cb b dC hm e hc.1.1 g (aZ hc.1.2) hc.2 d h;exact h.elim;exact h.elim;exact h.elim
variable {P:Program}{S:Nat->Option dr}{a:List ar}
def aY6{T:cy}{Φ:lv}{j:List c9}(e:∀t∈j,t.Ok Φ){f:FuncId}{tree:nf}
  (d:∀θ,Fit θ->∀r,mV T Φ (λc=>c=r) tree θ (λ_ _=>False)->oX P ⟨f,a.map (ar.sub θ),r⟩)
   {mW:dr} {nu:dn} {g:mW.T->Option nu.T} (n:uW T j S mW nu a tree=g) {x:mW.T} {v:nu.T} (h:g x=Q1 v):oX P ⟨f,a6 mW x,enc nu v⟩:=by
 subst n;unfold uW at h;cases hp:su a mW []with
 |none=>simp only[hp]at h;cases h
 |some q=>
  obtain⟨Γ,p⟩:=q;simp only[hp]at h;obtain⟨vs,o,B,w⟩:=yy _ _ _ _ hp x ();have hl:=B3 e _ Γ [] (p x ()) () (λ_ _=>False) (λl s g hf=>by simp[y']at hf) h;have z:pF Γ (p x ())=vs++[]:=o;have k:ni (re Γ (p x ())) a=a6 mW x:=by
   have C:=w []
   grind[re,sg]
  rw[DC]at k;have b:∀u∈pF Γ (p x ()),nN u:=λu hu=>by grind
  rw[<-k];have i:=hl (by rw[sg]);have m:=i (λu hu=>b u (by simpa using hu));rw[vS,sg]at m;exact d _ (by have:=Fit.env (l:=(pF Γ (p x ())).reverse) (λu hu=>b u (by simpa using hu));rw[vS,sg]at this;exact this) _ m
def bQ6{T:cy}(cb:mz P T){F:FuncId->Option Func}(dC:∀f fn,F f=Q1 fn->P.funcs[f]?=Q1 fn)(hm:P.follows .mixedOrders=No){ts d:List c9}(hs:x' ts=No)(b:∀t∈d,t.Ok (rC P ts)){t:c9}(e:t∈ts)(hf:cM t.f p9=No)
  {H:List (Nat×Hint)} {acts:List (Nat×wg)} {m:Nat}  {bb:Nat}  (g:uW T d S t.mW t.nu a (JH T (rC P ts) F H acts m t.f a bb)=t.fn):t.Ok (rC P ts) :=
 tK hs e λx r i=>Good.w4 (by simpa using hf) (aY6 b (λθ c r h=>bK1 cb (FV P ts) dC hm c h) g i)
end Go.Ab
namespace Go.Ab
open Go Go.RowKit Go.WideShapes Go.ChangeShapes Go.Proofs
variable {N:Nat}{P:Program}{t:TypeId}
def bj8{H:Type}{enc:TypeId×Value->H}{a:Assume}{C:Checked}{os:Os}{f:FuncId}{fn:Func}{s:ChangeSpec}{conds:List PathCond}{apart fresh handsOn again:Bool}{X:World->Array Value->Prop}
  (r:∀(w w':World) (args:Array Value),w.heap=w'.heap->X w args->X w' args)
  (own:ownKnob C.prog.godebug=Ld) (started:os.Started) (c:C.prog.inits.idxOf? f=Ld) (m:C.prog.funcs[f]?=Q1 fn)
  (witness:∃(w:World) (tape:Tape) (i:Input),w.os=os/\(w.forCall tape i).Shaped C.prog/\i.vars=[]/\Input.okWide C.prog (w.forCall tape i) .any w.heap.size f i /\
   ((s.pre enc C.prog fn conds apart (w.forCall tape i).memory i.args/\X (w.forCall tape i).memory i.args)/\sizedMet enc C.prog fn (jf s) apart (w.forCall tape i).memory i.args)/\a.holds C.prog (lone (lg C.prog f i.args .normal) [] (w.forCall tape i)))
  (b:∀(W:World) (base:Nat) (args:Array Value) (g gs:List (DataW H)) (before:List MemPlace),
   (∀(j:Nat) t v,fn.params[j]?=Q1 t->args[j]?=Q1 v->gy C.prog W .any base t v) ->
   DataW.Whole enc C.prog fn.params.toList s.vars apart W args.toList g gs before ->
   conds.all (PathCond.test C.prog ⟨fn.params.toList,g,s.plain.varTypes C.prog,gs⟩)=No ->
   (DataW.weightsEach C.prog (fn.params.toList++s.plain.varTypes C.prog) (g++gs)).all (·<=reachBytes)=No->X W args ->
   W.ShapedOpen C.prog ->
   a.holds C.prog (lone (lg C.prog f args .normal) [] W) ->
   Calls C.prog f args W λe q=>∃v,e=.returned v/\s.post enc C.prog fn apart fresh handsOn again W args v q) :
  ReturnsInHanded a C os f .any (λw args=>(s.pre enc C.prog fn conds apart w args/\X w args)/\sizedMet enc C.prog fn (jf s) apart w args) (s.post enc C.prog fn apart fresh handsOn again):=by
 refine returnsInHanded_of_calls own started c witness ?_;intro w tape i _ n _ o h d;obtain⟨_,_,_,u,k,_,_,_,_,l⟩:=o;have e:=aQ (k.symm.trans m);subst e;obtain⟨⟨⟨g,gs,before,hw,hc⟩,x⟩,hz⟩:=h;have p:=lG (w':=w.forCall tape i) (by rfl) hw;refine(b (w.forCall tape i) w.heap.size i.args g gs before l p hc (hz.weights hw) (r _ _ _ (by rfl) x) n d).mono λe q ⟨v,he,hp⟩=>?_;subst he;exact lK hp
variable [nO]
def An:List dn->dr
 | []=>.nil
 | [s]=>.one s
 |s::s'::l=>.cons s (An (s'::l))
mutual
def Lq(N:Nat):(s:dn)->s.T->Prop
 | .int k,x=>(Lit.int k x).wf=No
 | .str,x=>x.size<=N
 | .hF l,xs=>xs.length<=N/\∀x∈xs,Es N l x
 | .agg l,x=>Es N l x
 | .bool,_=>True
 | .ptr _,_=>True
 | .rH _,_=>True
 | .ed _,_=>True
 | .fn _ _,_=>True
 | .sF,_=>True
 | .nl,_=>True
def Es(N:Nat):(l:dr)->l.T->Prop
 | .nil,_=>True
 | .one s,x=>Lq N s x
 | .cons s l,x=>Lq N s x.1/\Es N l x.2
end
def vk(N:Nat):List dn->List ar->Prop
 | [],[]=>True
 |s::L,v::c=>(∃x:s.T,v=enc s x/\Lq N s x)/\vk N L c
 |_,_=>False
def vk.app:∀ {L M:List dn} {c d:List ar},vk N L c->vk N M d->vk N (L++M) (c++d)
 | [],_,[],_,_,h=>h
 | [],_,_::_,_,h,_=>by cases h
 |_::_,_,[],_,h,_=>by cases h
 |s::L,_,v::c,_,h,h'=>⟨h.1,vk.app h.2 h'⟩
def vk.mk:∀ {L:List dn} {c:List ar},vk N L c->∃x:(An L).T,c=a6 (An L) x/\Es N (An L) x
 | [],[],_=>⟨(),rfl,trivial⟩
 | [],_::_,h=>by cases h
 | [s],[v],h=>by obtain⟨⟨x,a,b⟩,_⟩:=h;exact⟨x,by rw[a];rfl,b⟩
 | [s],[],h=>by cases h
 | [s],_::_::_,h=>by cases h.2
 |s::s'::L,[],h=>by cases h
 |s::s'::L,v::c,h=>by obtain⟨⟨x,a,b⟩,h2⟩:=h;obtain⟨y,d,hc⟩:=vk.mk (L:=s'::L) h2;exact⟨(x,y),by rw[a,d];rfl,b,hc⟩
def vt{α:Type}:List (Option (List α))->Option (List α)
 | []=>Q1 []
 |some l::r=>(vt r).map (l++·)
 |none::_=>Ld
def yz(P:Program):Nat->TypeId->Option (List dn)
 | 0,_=>Ld
 |k+1,t=>match P.underlying t with
  |some .bool=>Q1 [.bool]
  |some (.int a)=>Q1 [.int a]
  |some .string=>Q1 [.str]
  |some (.slice e)=>(yz P k e).map λL=>[.hF (An L)]
  |some (.struct fs)=>if uH P fs.toList 0 (P.cellsOf t)then vt (fs.toList.map λf=>yz P k f.type)else Ld
  |_=>Ld
def Rv{L:List dn}:∀ {es:List (List ar)},(∀c∈es,vk N L c)->∃xs:List (An L).T,es=xs.map (a6 (An L))/\∀x∈xs,Es N (An L) x
 | [],_=>⟨[],rfl,λx h=>by cases h⟩
 |c::es,h=>by
  obtain⟨x,e,f⟩:=vk.mk (h c (by simp));obtain⟨xs,a,b⟩:=Rv (es:=es) λg hc=>h g (by simp[hc]);refine⟨x::xs,by rw[e,a];rfl,λy d=>?_⟩;rcases aD.1 d with rfl|d
  exact f;exact b y d
def Qp:∀(k:Nat) (t:TypeId) {c:List ar} {L:List dn},pU P N t c->yz P k t=Q1 L->vk N L c
 | 0,t,c,L,_,h=>by cases h
 |k+1,t,c,L,hs,h=>by
  unfold yz at h;split at h;rename_i i;cases h;cases hs with
  |bool b h2=>exact⟨⟨b,rfl,trivial⟩,trivial⟩
  |int h2=>rw[i]at h2;cases h2
  |str h2=>rw[i]at h2;cases h2
  |slice h2=>rw[i]at h2;cases h2
  |struct h2=>rw[i]at h2;cases h2
  rename_i v i;cases h;obtain⟨n,rfl,hw⟩:=hs.bl3 i;exact⟨⟨n,rfl,hw⟩,trivial⟩;rename_i i;cases h;obtain⟨s,rfl,hw⟩:=hs.bO5 i;exact⟨⟨s,rfl,hw⟩,trivial⟩;rename_i e i;obtain⟨es,rfl,hl,hes⟩:=hs.bM5 i;cases d:yz P k e with
  |none=>rw[d]at h;cases h
  |some M =>rw[d]at h;simp only[ai,ah]at h;subst h;obtain⟨xs,rfl,p⟩:=Rv λc hc=>Qp k e (hes c hc) d;exact⟨⟨xs,rfl,by simpa using hl,p⟩,trivial⟩
  rename_i fs i;split at h;rename_i j;obtain⟨hlen,hf⟩:=hs.bO6 i;have key:∀(l:List Field) (o:Nat) (L:List dn),(∀f∈l,f∈fs.toList)->uH P l o (P.cellsOf t)=No->vt (l.map λf=>yz P k f.type)=Q1 L->vk N L (c.drop o):=by
   intro l
   induction l with
   |nil =>intro o L _ ho d;have:=ae ho;cases d;rw[this,<-hlen,fD];trivial
   |cons f l q=>
    intro o L hm ho d;simp only[uH,ab]at ho;have m:=ae ho.1;simp only[au]at d;cases h1:yz P k f.type with
    |none=>rw[h1]at d;cases d
    |some M=>
     rw[h1]at d;simp only[vt]at d;cases h2:vt (l.map λf=>yz P k f.type)with
     |none=>rw[h2]at d;cases d
     |some r =>
      rw[h2]at d;simp only[ai,ah]at d;subst d;have a:=Qp k f.type (hf f (hm f (by simp))) h1;have b:=q (o+P.cellsOf f.type) r (λg u=>hm g (by simp[u])) ho.2 h2;rw[m]at a;have e:c.drop o=(c.drop o).take (P.cellsOf f.type)++c.drop (o+P.cellsOf f.type):=by rw[<-fZ,dE]
      rw[e];exact a.app b
  have:=key fs.toList 0 L (λ_ h=>h) j h;simpa using this;cases h;cases h
section
variable {H:Type} {en:TypeId×Value->H} {P:Program} {w:World} {base:Nat} {spare:Nat->Bool} {held:Bool}
def v8(P:Program):Nat->TypeId->DataW H->Option (List Value)
 | 0,_,_=>Ld
 |k+1,t,d=>match P.underlying t,d with
  |some (.int c),.lit (.int b n)=>Q1 [.int b n]
  |some (.array _ e),.agg a=>if ax (P.cellsOf t) (a.length*P.cellsOf e)then vt (a.map λd=>v8 P k e d)else Ld
  |some (.struct fs),.agg a=>if uH P fs.toList 0 (P.cellsOf t)then vt ((fs.toList.zip a).map λx=>v8 P k x.1.type x.2)else Ld
  |_,_=>Ld
def N8:∀(k:Nat) (t:TypeId) {fuel:Nat} {cs:List Value} {d:DataW H} {p:List MemPlace} {l:List Value},DataW.trod en P w base spare held fuel t cs=Q1 (d,p)->v8 P k t d=Q1 l->cs=l
 | 0,t,_,_,_,_,_,_,h=>by cases h
 |k+1,t,fuel,cs,d,p,l,r,h=>by
  unfold v8 at h;split at h;rename_i E C n hu;obtain⟨m,rfl,e,_⟩:=DataW.trod_int hu r;cases h;cases e;rfl;rename_i n e D hu;obtain⟨xs,m,rfl,ex,hlen,s,g⟩:=DataW.trod_array hu r;obtain⟨rfl,_⟩:=ex;split at h;rename_i u;have u:=ae u;rw[aI,s]at u;have key:∀(j i:Nat) (l:List Value),i+j=n->vt (((xs.map (·.1)).drop i).map λd=>v8 P k e d)=Q1 l->cs.drop (i*P.cellsOf e)=l:=by
   intro j
   induction j with
   |zero=>
    intro i l a7 hl;have:i=n:=by omega
    subst this;rw[eQ (by simp[s])]at hl;cases hl;exact eQ (by omega)
   |succ j v=>
    intro i l a7 hl;have c:i<xs.length:=by omega
    rw[bq (by simpa using c)]at hl;simp only[au,b_]at hl;cases h1:v8 P k e xs[i].1 with
    |none=>rw[h1]at hl;cases hl
    |some l2=>
     rw[h1]at hl;simp only[vt]at hl;cases h2:vt (((xs.map (·.1)).drop (i+1)).map λd=>v8 P k e d)with
     |none=>rw[h2]at hl;cases hl
     |some mi =>rw[h2]at hl;simp only[ai,ah]at hl;subst hl;have f:=g i (by omega);rw[af c]at f;have a:=N8 k e (d:=xs[i].1) (p:=xs[i].2) f h1;have b:=v (i+1) mi (by omega) h2;rw[cn,iA]at b;rw[<-a,<-b,<-fZ,dE]
  have:=key n 0 l (by omega) (by simpa using h);simpa using this;cases h;rename_i fs D hu;obtain⟨xs,m,rfl,ex,hlen,s,g⟩:=DataW.trod_struct hu r;obtain⟨rfl,_⟩:=ex;split at h;rename_i q;have key:∀(j i o:Nat) (l:List Value),i+j=fs.size->uH P (fs.toList.drop i) o (P.cellsOf t)=No->vt (((fs.toList.drop i).zip ((xs.map (·.1)).drop i)).map λx=>v8 P k x.1.type x.2)=Q1 l->cs.drop o=l:=by
   intro j
   induction j with
   |zero =>intro i o l a7 ho hl;rw[eQ (by simp;omega)]at ho hl;have:=ae ho;cases hl;exact eQ (by omega)
   |succ j v=>
    intro i o l a7 ho hl;have c:i<xs.length:=by omega
    have z:i<fs.toList.length:=by simp;omega
    rw[bq z]at ho hl;rw[bq (l:=xs.map (·.1)) (by simpa using c)]at hl;simp only[uH,ab]at ho;have B:=ae ho.1;simp only[List.zip_cons_cons,au,b_]at hl;cases h1:v8 P k fs.toList[i].type xs[i].1 with
    |none=>rw[h1]at hl;cases hl
    |some l2=>
     rw[h1]at hl;simp only[vt]at hl;cases h2:vt (((fs.toList.drop (i+1)).zip ((xs.map (·.1)).drop (i+1))).map λx=>v8 P k x.1.type x.2)with
     |none=>rw[h2]at hl;cases hl
     |some mi =>rw[h2]at hl;simp only[ai,ah]at hl;subst hl;have f:=g i fs.toList[i] (by simp);rw[af c]at f;have a:=N8 k _ (d:=xs[i].1) (p:=xs[i].2) f h1;have b:=v (i+1) (o+P.cellsOf fs.toList[i].type) mi (by omega) ho.2 h2;rw[B]at a;rw[<-a,<-b,<-fZ,dE]
  have:=key fs.size 0 0 l (by omega) (by simpa using q) (by simpa using h);simpa using this;cases h;cases h
def bT8{n:String}{d:DataW Unit}{g:Nat}{k:Nat}{l:List Value}(h:laidMetH P [(n,d)] w)(i:([(n,d)].all λx=>x.2.handleName?.isNone)=No)(j:P.globalNamed n=Q1 g)(m:(P.globals[g]?).map (·.type)=Q1 t)(hl:v8 P k t d=Q1 l) :
  ∀o v,l[o]?=Q1 v->(ca.tv w).cell g o=Q1 v:=by
 rw[lL _ _ _ i]at h;obtain⟨p,⟨g0,t0,b,f0,p0,qN,a,c,f,tX,_⟩,_⟩:=h;obtain rfl:=aQ (j.symm.trans a);obtain rfl:=aQ (m.symm.trans c);have e:=N8 k t tX hl;intro o v ho;have hc:=World.var?_cell a f o;have h1:b[o]?=Q1 v:=by rw[<-Array.getElem?_toList,e];exact ho
 have h2:w.cell? ⟨g,o,Ld⟩=Q1 v:=by first|exact hc.trans h1|exact hc.symm.trans h1| (rw[h1]at hc;exact hc)| (simpa using hc)
 exact(IE h2).2
end
def bF9{W:World}{base:Nat}{b:IntKind}{v:Value}(a:P.underlying t=Q1 (.int b))(hv:gy P W .any base t v):v.cells.toList=[v]:=by unfold gy at hv;rw[a]at hv;simp only at hv;cases v<;>simp[Cell.okWide,Cell.ok,a]at hv<;>rfl
end Go.Ab
namespace Go.Ab
variable [nO]
open Go Go.Sort Go.Proofs Go.Shelf
variable {G:ca}{P:Program}{caps:List ar}{cf:List ar->List ar->Int}{es:List (List ar)}{g:FuncId}{o:c7}{p:nt}{restv:List ar}{vs:List Value}{w w':World}{σ:bg}
def bS8{W:World}(hs:W.heap.size<=w'.heap.size)(a:∀b,b<W.heap.size->w'.heap[b]?=W.heap[b]?)(hd:W.drawn<=w'.drawn)(ho:w'.os=W.os)(h:w'.tape=W.tape)(hp:w'.output=W.output):∃q e,w'=grow (W.drewN q) e:=by
 refine⟨w'.drawn-W.drawn,w'.heap.extract W.heap.size w'.heap.size,?_⟩;have i:w'.heap=W.heap++w'.heap.extract W.heap.size w'.heap.size:=by apply Array.ext_getElem?;intro k;by_cases hk:k<W.heap.size;rw[cV hk,a k hk];rw[Array.getElem?_append_right (by omega),Array.getElem?_extract];by_cases j:k<w'.heap.size;rw[cr (by omega)];congr 1;omega;rw[cc (by omega),Array.getElem?_eq_none (by omega)]
 cases w' with
 |mk heap tape drawn os output=>
 cases W with
 |mk f g d l c=>
 simp only at hs a hd ho h hp i;simp only[grow,World.drewN];congr 1;omega
def oX.VB   {fn:Func} (t:P.funcs[g]?=Q1 fn) (f:(fn.name== "runtime.NumGoroutine")=N2) (i:fn.body.isNone=N2) {args:List ar} {v:Value} (hm:oX P ⟨g,args,.b4 v⟩)
   {W:World}  (j:hE G args vs) (d:Rel G bg.none W):Calls P g vs.toArray W (λe w'=>e=.returned v/\∃q k,w'=grow (W.drewN q) k):=by
 have n:(callFunc g vs.toArray).run P W=.ok (.enter g vs.toArray) W:=by simp only[callFunc,aA,run_program,aq,t,f,i,aG,l4,bd]
 have h:=hm bg.none G vs W j d { (default:Oper)with dst:=Q1 0 } ⟨#[undef],[]⟩ (λx w'=>x.tmps[0]?=Q1 v/\∃q k,w'=grow (W.drewN q) k) (λ_ _ _=>False) (by
  rintro u B σ' G' w' r w a ⟨rfl,rfl⟩;cases w;refine⟨by simp[iO],?_⟩;have l:=λb z=>r.bb.same b z (λid o p h=>by rw[bg.sZ]at h;cases h);have m:=r.le.mu;exact bS8 r.bb.size l r.bb.drawn (by rw[a.os,m,d.os]) (by rw[a.tape,m,d.tape]) (by rw[a.output,m,d.output]))
 rw[n]at h;refine h.mono ?_;intro e w' s;cases e with
 |returned u =>simp only[iO]at s;obtain⟨h1,h2⟩:=s;simp at h1;exact⟨by rw[h1],h2⟩
 |panicked c=>exact s.elim
 |outgrown=>obtain⟨_,_,hf⟩:=s;exact hf.elim
def Rel.KM(h:Rel G σ w){id:Nat}{o':c7}(ho:σ.bF id=Q1 o)(hp:G.pl id=Q1 p)(hv:p.mX=N2)(hs:w.heap.size<=w'.heap.size)(r:w'.os=w.os)(d:w'.tape=w.tape)(l:w'.output=w.output)(hd:w.drawn<=w'.drawn)
  (a:∀k,k<w.heap.size->k≠p.block->w'.heap[k]?=w.heap[k]?) (s:oq G p o' w'.heap[p.block]?):Rel G (σ.set id o') w'/\Fr G σ w G (σ.set id o') w':=by
 obtain⟨m,t,_⟩:=h.real ho hp hv;refine⟨⟨r.trans h.os,d.trans h.tape,l.trans h.output,bz h.size hs,λb x g=>?_,h.fresh,λi x c=>?_,λi j oi oj pi pj h1 h2 n C v1 v2 D=>?_,h.qE⟩,⟨hs,λb g E=>a b g (λe=>E id o p ho hp hv e.symm),λi x q h1 h2 n C=>?_,λ_ _ h=>.inl h,hd⟩⟩;rw[a b (h.lt g) (λe=>by rw[e,m]at g;cases g)];exact h.lo b x g;by_cases e:i=id;subst e;simp[bg.mQ]at c;subst c;exact⟨p,hp,.inr ⟨hv,m,t,s⟩⟩;simp[bg.mQ,e]at c;obtain⟨q,u,hl⟩:=h.bF i x c;refine⟨q,u,?_⟩;rcases hl with hl|⟨f,v,z,B⟩
 exact .inl hl;refine .inr ⟨f,v,z,?_⟩;rw[a q.block (h.r_ c u f) (λH=>e (h.sep i id x o q p c ho u hp f hv H))];exact B;have aux:∀i x,(σ.set id o').bF i=Q1 x->∃y,σ.bF i=Q1 y:=λi x c=>by by_cases e:i=id;exact⟨o,by rw[e];exact ho⟩;exact⟨x,by simpa[bg.mQ,e]using c⟩
 obtain⟨I,J⟩:=aux i oi h1;obtain⟨K,a2⟩:=aux j oj h2;exact h.sep i j I K pi pj J a2 n C v1 v2 D;by_cases e:i=id;subst e;exact⟨i,o,q,ho,h2,n,rfl⟩;exact⟨i,x,q,by simpa[bg.mQ,e]using h1,h2,n,rfl⟩
def Rel.ay9(h:Rel G σ w){id:Nat}(ho:σ.bF id=Q1 o)(hp:G.pl id=Q1 p)(hv:p.mX=N2)(hs:w.heap.size<=w'.heap.size)(n:w'.os=w.os)(c:w'.tape=w.tape)(l:w'.output=w.output)
  (a:∀k,k<w.heap.size->k≠p.block->w'.heap[k]?=w.heap[k]?):Rel G (σ.del id) w':=by
 obtain⟨r,B,_⟩:=h.real ho hp hv;have back:∀i x,(σ.del id).bF i=Q1 x->i≠id/\σ.bF i=Q1 x:=λi x g=>by rw[bg.rK]at g;split at g;cases g;rename_i e;exact⟨e,g⟩
 refine⟨n.trans h.os,c.trans h.tape,l.trans h.output,bz h.size hs,λb x m=>?_,h.fresh,λi x g=>?_,λi j oi oj pi pj h1 h2 C D v1 v2 E=>h.sep i j oi oj pi pj (back _ _ h1).2 (back _ _ h2).2 C D v1 v2 E,h.qE⟩;rw[a b (h.lt m) (λe=>by rw[e,r]at m;cases m)];exact h.lo b x m;obtain⟨s,d⟩:=back i x g;obtain⟨q,t,hl⟩:=h.bF i x d;refine⟨q,t,?_⟩;rcases hl with hl|⟨f,u,v,z⟩
 exact .inl hl;refine .inr ⟨f,u,v,?_⟩;rw[a q.block (h.r_ d t f) (λH=>s (h.sep i id x o q p d ho t hp f hv H))];exact z
def Rel.Vr(h:Rel G σ w):Rel (G.frozen σ w (λ_=>Ld)) bg.none w :=
 ⟨h.os,h.tape,h.output,h.size,λb x a=>by
   simp only[ca.frozen]at a;split at a;exact a;exact h.lo b x a,λ_ _=>rfl,(λid o h=>by rw[bg.sZ]at h;cases h),(λi j oi oj pi pj h=>by rw[bg.sZ]at h;cases h),λb o v hv=>Nr h (h.qE b o v hv)⟩
def mO(es:List (List ar))(i:Nat):List ar:=(es[i]?).getD (es.headD [])
def tI(h:es≠[])(i:Nat):mO es i∈es:=by
 unfold mO;cases a7:es[i]? with
 |some r=>exact aH a7
 |none =>cases es;exact b8 rfl h;simp
def sk(cf:List ar->List ar->Int):List (List ar)->List (List ar)
 | []=>[]
 |r::l=>((pdq (ltOf (λi j=>cf (mO (r::l) i) (mO (r::l) j))) (ba (r::l).length) 0 (r::l).length (eA (r::l).length) No No).toList).map (mO (r::l))
def Nj(h:es≠[]):sk cf es=((pdq (ltOf (λi j=>cf (mO es i) (mO es j))) (ba es.length) 0 es.length (eA es.length) No No).toList).map (mO es):=by cases es;exact b8 rfl h;rfl
def au1(hO:SWO (ltOf (λi j=>cf (mO es i) (mO es j)))) :
  PermIn 0 es.length (ba es.length) (pdq (ltOf (λi j=>cf (mO es i) (mO es j))) (ba es.length) 0 es.length (eA es.length) No No)/\SortedIn (ltOf (λi j=>cf (mO es i) (mO es j))) 0 es.length (pdq (ltOf (λi j=>cf (mO es i) (mO es j))) (ba es.length) 0 es.length (eA es.length) No No) :=
 pdq_sorts _ hO (ba es.length) 0 es.length (eA es.length) No No (c_ _) (by simp) (Or.inl rfl)
def E'{α:Type}[Inhabited α](enc:α->List Value)(k:Nat)(w:World)(a off m:Nat)(d:Array α)(os:Array Obj) :
  sortWorldK enc k w a off m d os={ w with drawn:=w.drawn+m,heap:=w.heap.modify a (onCells (putCells id off (flatK enc k d)))++os }:=rfl
def NI{f:Obj->Obj}{os:Array Obj}{a k:Nat}(hk:k<w.heap.size)(b:k≠a):(w.heap.modify a f++os)[k]?=w.heap[k]?:=by rw[cV (by simpa using hk),dQ,cc (Ne.symm b)]
def aB7{id:Nat}(d:Rel G σ w)(a:hE G restv vs)(l:∀G vs w,hE G restv vs->Rel G (σ.del id) w->hE (G.frozen (σ.del id) w (λ_=>Ld)) [.fn (.func g) [] caps] vs) :
  ∃cv:List Value,vs=[.func (.func g) #[] cv.toArray]/\∀w',Rel G (σ.del id) w'->hE (G.frozen (σ.del id) w' (λ_=>Ld)) caps cv:=by
 have c:Rel G (σ.del id) w:=d.less rfl (λi o h=>by
  rw[bg.rK]at h;split at h;cases h;exact h)
 obtain⟨z,n,rfl,j,b⟩:=(l G vs w a c).cons_inv;obtain rfl:=b.tr;cases j with
 |fn _ _ _ fv cv h1 h2 B C=>
  have:fv=[]:=by simpa using h1
  subst this;refine⟨cv,rfl,λw' h'=>?_⟩;obtain⟨p,r,s,e,f⟩:=(l G _ w' a h').cons_inv;have t:p=.func (.func g) #[] cv.toArray:=by have:=lU jD s;simpa using this.symm
  subst t;generalize m:Value.func (.func g) #[] cv.toArray=q at e;cases e with
  |fn _ _ _ u k D v E x=>
   simp only[lM,qj]at m;have:cv=k:=by have:=m.2;simpa using lU Array.toList this
   subst this;exact⟨v,x⟩
def aR4  {ρ:dZ} (L:SlLaysF0.n6 P ρ) {f:FuncId} (hf:ρ.f 6=f) {S:Func} (hS:P.funcs[f]?=Q1 S) (hSn:(S.name== "runtime.NumGoroutine")=N2) (hSb:S.body.isNone=N2) {z:Nat} (hz:0<z) (aE:∀ w,(isAgg (ρ.t 24)).run P w=.ok No w) (zE:∀ w,(kV (ρ.t 24)).run P w=.ok z w)
   {fnG:Func} (hG:P.funcs[g]?=Q1 fnG) (hGn:(fnG.name== "runtime.NumGoroutine")=N2) (hGb:fnG.body.isNone=N2) {e:TypeId}   
  (hlen:∀r∈es,r.length=z) (hone:∀r∈es,∀c∈r,c.one=No) (hpur:∀r∈es,∀c∈r,c.kl=No) (hn:es.length<4611686018427387904)
  (hcmp:∀x∈es,∀y∈es,oX P ⟨g,[.agg x,.agg y]++caps,Hq (cf x y)⟩) (hO:es≠[]->SWO (ltOf (λi j=>cf (mO es i) (mO es j))))
   {id:Nat} (ho:σ.bF id=Q1 (.row e z es))  (hr:∀G vs w,hE G restv vs->Rel G (σ.del id) w->hE (G.frozen (σ.del id) w (λ_=>Ld)) [.fn (.func g) [] caps] vs) :
  oO P f (.ms id z 0 es.length::restv) σ (λv σ'=>v=.ed []/\σ'=σ.set id (.row e z (sk cf es))):=by
 subst hf;refine oO.Cc hS hSn hSb ?_;intro G vs w u s;obtain⟨u1,vs1,rfl,hu1,u⟩:=u.cons_inv;obtain⟨cv,rfl,hcv⟩:=aB7 s u hr;by_cases hes:es=[]
 .
  subst hes;have hσ:∀i,(σ.set id (.row e z [])).bF i=σ.bF i:=λi=>by
   rw[bg.mQ];split
   next ei=>rw[ei,ho]
   rfl
  obtain⟨q,c,rfl⟩:∃(q:Option Addr) (c:Nat),u1=.slice q 0 c:=by
   cases hu1 with
   |ms _ _ _ _ p hp hv hz' a c ha hoff hl hsp=>exact⟨Q1 a,c,rfl⟩
   |oh _ _ p hp hv=>exact⟨Ld,0,rfl⟩
  refine(iI L q c (.func (.func g) #[] cv.toArray) w).mono ?_;rintro e' w' ⟨rfl,rfl⟩;refine⟨_,.ed [],σ.set id (.row e z (sk cf [])),G,rfl,⟨.refl G,.refl _ G,aB _,Fr.less (λi o h=>by rw[<-hσ i];exact h)⟩,.ed [] [] rfl (λi h=>by simp at h),s.less rfl (λi o h=>by rw[<-hσ i];exact h),rfl,rfl⟩
 have D:=cH.2 hes;obtain⟨p,hp,hv,c,rfl,hc⟩:∃p,G.pl id=Q1 p/\p.mX=N2/\∃c,u1=.slice (Q1 ⟨p.block,0,Ld⟩) es.length c/\es.length<=c:=by
  generalize hl0:es.length=n0 at hu1 D;cases hu1 with
  |ms _ _ _ _ p hp hv hz' a c ha hoff hl hsp=>refine⟨p,hp,hv,c,?_,hl⟩;rw[ha (by omega)];simp
  |oh _ _ p hp hv=>omega
 obtain⟨him,hw0,cs,hcs,hpz,hcsz,hcap,hrows⟩:=s.real ho hp hv;have E:=s.r_ ho hp hv;have hin:∀i j,i<es.length->j<z->i*z+j<cs.size:=λi j a7 hj=>by have h1:(i+1)*z<=p.cap*z:=bS z (by omega);rw[cn,iA]at h1;omega
 let enc:Nat->List Value:=λi=>(aN z).map λj=>cs[(if i<es.length then i else 0)*z+j]!
 have hk:∀i,(enc i).length=z:=λi=>by simp[enc]
 have hrep:∀i,hE G (mO es i) (enc i):=λi=>by
  have key:∀i,i<es.length->hE G (mO es i) ((aN z).map λj=>cs[i*z+j]!):=λi a7=>by
   have K:mO es i=es[i]:=by simp[mO,a7]
   rw[K];obtain⟨r1,r2⟩:=hrows i a7;refine⟨by simp[r1],λj hj M=>?_⟩;have B:j<z:=by omega
   have:=r2 j hj (hin i j a7 B);simpa[hin i j a7 B]using this
  by_cases a7:i<es.length
  .have:=key i a7
   simp only[enc,a7];exact this
  have:=key 0 D;have e2:mO es i=mO es 0:=by
   unfold mO;rw[bo (by omega)];cases es with
   |nil=>simp at D
   |cons a l=>simp
  simp only[enc,a7];rw[e2];exact this
 have hone':∀i,∀v∈enc i,v.oneCell'=No:=λi v hv'=>by obtain⟨j,hj,rfl⟩:=aT hv';have hr1:=(hrep i).1;have:=(hrep i).2 j (by omega) hj;exact eR.one (hone _ (tI hes i) _ (ay _)) this
 have n:(ba es.length).size=es.length:=by simp
 have hH:HoldsK enc z w p.block 0 (ba es.length):=by
  intro j hj;rw[size_flatK,n]at hj;rw[get_flatK _ _ _ _ (by rw[n];exact hj)];have hjz:=(fz hz).2 hj;have hjm:j%z<z:=d_ _ hz;have K:(ba es.length)[j / z]! = j / z:=by simp[hjz]
  have e2:j / z*z+j%z=j:=by rw[eU];exact gN j z
  have hlt:j<cs.size:=by rw[<-e2];exact hin _ _ hjz hjm
  rw[K];constructor
  .simp only[fF,hcs]
   simp only[enc,hjz];simp[hjm,e2,hlt]
  simp[gJ,hcs]
 have N:∀(m:Nat) (J:Array Nat) (os:Array Obj) k,k<w.heap.size->k≠p.block->(sortWorldK enc z w p.block 0 m J os).heap[k]?=w.heap[k]?:=λm J os k hk hne=>by exact NI hk hne
 have H:∀(m:Nat) (J:Array Nat) (os:Array Obj),w.heap.size<=(sortWorldK enc z w p.block 0 m J os).heap.size:=λm J os=>by rw[E'];simp
 have hC:CmpLays P g cv.toArray enc z (λi j=>cf (mO es i) (mO es j)) p.block 0 (ba es.length).size w:=by
  intro m os J hdk x y;have C:=s.ay9 ho hp hv (H m J os) rfl rfl rfl (N m J os);have hmono:∀c v,c.kl=No->eR G c v->eR (G.frozen (σ.del id) (sortWorldK enc z w p.block 0 m J os) (λ_=>Ld)) c v:=λc v hp' hr'=>rr (λb o hb=>tc C hb) hr' hp';have O:∀i,eR (G.frozen (σ.del id) (sortWorldK enc z w p.block 0 m J os) (λ_=>Ld)) (.agg (mO es i)) (.agg (enc i).toArray):=λi=>.agg _ _ (hrep i).1 (λj hj M=>hmono _ _ (hpur _ (tI hes i) _ (ay _)) ((hrep i).2 j hj M));have hA :=((hE.nil _).cons (O y) |>.cons (O x)).append (hcv _ C);have:=oX.VB hG hGn hGb (hcmp _ (tI hes x) _ (tI hes y)) hA C.Vr;have K:([Value.agg (enc x).toArray,.agg (enc y).toArray]++cv).toArray=#[.agg (enc x).toArray,.agg (enc y).toArray]++cv.toArray:=by simp
  rw[K]at this;exact this
 have eg:∀args w,(callFunc g args).run P w=.ok (.enter g args) w:=λargs w=>by simp only[callFunc,aA,run_program,aq,hG,hGn,hGb,aG,l4,bd]
 have main:=AnyQ.slices_SortFunc_eq L z aE zE enc hk hone' (λi j=>cf (mO es i) (mO es j)) (hO hes) g cv.toArray p.block 0 c (ba es.length) w eg hC hH E (by rw[n];exact hn);rw[n]at main;refine main.mono ?_;rintro e' w' ⟨rfl,m,os,rfl⟩;obtain⟨⟨yG,_,_⟩,_⟩:=au1 (hO hes);have Q:=Nj (cf:=cf) hes;generalize pdq (α:=Nat) _ _ _ _ _ _ _=d at *;have hdz:d.size=es.length:=by simpa using yG
 have hH2:=holdsK_sortWorldK enc z w p.block 0 m _ d os E hH (by rw[hdz,n]);have R:(sortWorldK enc z w p.block 0 m d os).heap[p.block]?=Q1 (.cells (putCells (λx:Value=>x) 0 (flatK enc z d) cs) e (0,0)):=by rw[E'];rw[cV (by simpa using E),dQ,cr rfl,hcs];rfl
 have hlen':(sk cf es).length=es.length:=by rw[Q];simp[hdz]
 have hok:oq G p (.row e z (sk cf es)) (sortWorldK enc z w p.block 0 m d os).heap[p.block]?:=by
  refine⟨_,R,hpz,by simp[putCells,hcsz],by rw[hlen'];exact hcap,λi a7=>?_⟩;have hi2:i<d.size:=by omega
  have K:(sk cf es)[i]=mO es d[i]:=by simp[Q]
  refine⟨by rw[K];exact hlen _ (tI hes _),λj hj M=>?_⟩;rw[K]at hj;have B:j<z:=by rw[hlen _ (tI hes _)]at hj;exact hj
  have I:=(kU hH2 hi2 B).1;simp only[fF,R,a_]at I;have hval:(putCells (λx:Value=>x) 0 (flatK enc z d) cs)[i*z+j]=(enc d[i]!)[j]! := by have:=I;rw[bj M]at this;simpa using this
  rw[hval];have hr2:=(hrep d[i]).2 j hj (by rw[hk];exact B);have e2:(enc d[i]!)[j]! = (enc d[i])[j]'(by rw[hk];exact B):=by simp[hi2,hk,B]
  rw[e2];have e3:(sk cf es)[i][j]=(mO es d[i])[j]:=by simp only[K]
  rw[e3];exact hr2
 obtain⟨hrelN,hfrN⟩:=s.KM ho hp hv (o':=.row e z (sk cf es)) (H m d os) rfl rfl rfl (aV _ _) (N m d os) hok;exact⟨_,.ed [],σ.set id (.row e z (sk cf es)),G,rfl,⟨.refl G,.refl _ G,aB _,hfrN⟩,.ed [] [] rfl (λi h=>by simp at h),hrelN,rfl,rfl⟩
def aH6 {P:Program} {ρ:dZ} (L:SlLaysF.n6 P ρ) {f:FuncId} (hf:ρ.f 6=f) {N:Func} (hS:P.funcs[f]?=Q1 N) (hSn:(N.name== "runtime.NumGoroutine")=N2) (hSb:N.body.isNone=N2)
  {g:FuncId} {O:Func} (hG:P.funcs[g]?=Q1 O) (hGn:(O.name== "runtime.NumGoroutine")=N2) (hGb:O.body.isNone=N2) {e:TypeId} {es:List (List ar)} {caps:List ar} {cf:List ar->List ar->Int}
  (hlen:∀r∈es,r.length=1) (hone:∀r∈es,∀c∈r,c.one=No) (hpur:∀r∈es,∀c∈r,c.kl=No) (hn:es.length<4611686018427387904)
  (hcmp:∀x∈es,∀y∈es,oX P ⟨g,(x++y)++caps,Hq (cf x y)⟩) (hO:es≠[]->SWO (ltOf (λi j=>cf (mO es i) (mO es j))))
  {σ:bg} {id:Nat} (ho:σ.bF id=Q1 (.row e 1 es)) {restv:List ar} (hr:∀G vs w,hE G restv vs->Rel G (σ.del id) w->hE (G.frozen (σ.del id) w (λ_=>Ld)) [.fn (.func g) [] caps] vs) :
  oO P f (.ms id 1 0 es.length::restv) σ (λv σ'=>v=.ed []/\σ'=σ.set id (.row e 1 (sk cf es))):=by
 subst hf;refine oO.Cc hS hSn hSb ?_;intro G vs w t n;obtain⟨u1,vs1,rfl,Q,t⟩:=t.cons_inv;obtain⟨cv,rfl,hcv⟩:=aB7 n t hr;by_cases hes:es=[]
 .
  subst hes;have hσ:∀i,(σ.set id (.row e 1 [])).bF i=σ.bF i:=λi=>by
   rw[bg.mQ];split
   next ei=>rw[ei,ho]
   rfl
  obtain⟨q,c,rfl⟩:∃(q:Option Addr) (c:Nat),u1=.slice q 0 c:=by
   cases Q with
   |ms _ _ _ _ p hp hv hz' a c ha hoff hl hsp=>exact⟨Q1 a,c,rfl⟩
   |oh _ _ p hp hv=>exact⟨Ld,0,rfl⟩
  refine(iI { L with } q c (.func (.func g) #[] cv.toArray) w).mono ?_;rintro e' w' ⟨rfl,rfl⟩;refine⟨_,.ed [],σ.set id (.row e 1 (sk cf [])),G,rfl,⟨.refl G,.refl _ G,aB _,Fr.less (λi o h=>by rw[<-hσ i];exact h)⟩,.ed [] [] rfl (λi h=>by simp at h),n.less rfl (λi o h=>by rw[<-hσ i];exact h),rfl,rfl⟩
 have B:=cH.2 hes;obtain⟨p,hp,hv,c,rfl,hc⟩:∃p,G.pl id=Q1 p/\p.mX=N2/\∃c,u1=.slice (Q1 ⟨p.block,0,Ld⟩) es.length c/\es.length<=c:=by
  generalize hl0:es.length=n0 at Q B;cases Q with
  |ms _ _ _ _ p hp hv hz' a c ha hoff hl hsp=>refine⟨p,hp,hv,c,?_,hl⟩;rw[ha (by omega)];simp
  |oh _ _ p hp hv=>omega
 obtain⟨him,hw0,cs,R,hpz,hcsz,hcap,S⟩:=n.real ho hp hv;have I:=n.r_ ho hp hv;have hin:∀i,i<es.length->i<cs.size:=λi a7=>by omega
 let enc:Nat->Value:=λi=>cs[if i<es.length then i else 0]!
 have hrep:∀i,hE G (mO es i) [enc i]:=λi=>by
  have key:∀i,i<es.length->hE G (mO es i) [cs[i]!]:=λi a7=>by
   have E:mO es i=es[i]:=by simp[mO,a7]
   rw[E];obtain⟨r1,r2⟩:=S i a7;refine⟨by simp[r1],λj hj H=>?_⟩;have hj0:j=0:=by simp at H;omega
   subst hj0;have:=r2 0 hj (by simpa using hin i a7);simpa[hin i a7]using this
  by_cases a7:i<es.length
  .have:=key i a7
   simp only[enc,a7];exact this
  have:=key 0 B;have e2:mO es i=mO es 0:=by
   unfold mO;rw[bo (by omega)];cases es with
   |nil=>simp at B
   |cons a l=>simp
  simp only[enc,a7];rw[e2];exact this
 have hone':=λi=>by have hr1:=(hrep i).1;have:=(hrep i).2 0 (by simp at hr1;omega) (by simp);exact eR.one (hone _ (tI hes i) _ (ay _)) this
 have s:(ba es.length).size=es.length:=by simp
 have hH:Holds enc w p.block 0 (ba es.length):=by
  intro j hj;rw[s]at hj;have E:(ba es.length)[j]! = j:=by simp[hj]
  have hlt:=hin j hj;rw[E];constructor
  .simp only[fF,R]
   simp only[enc,hj];simp[hlt]
  simp[gJ,R]
 have C:∀(m:Nat) (z:Array Nat) (os:Array Obj),sortWorld enc w p.block 0 m z os={ w with drawn:=w.drawn+m,heap:=w.heap.modify p.block (onCells (putCells enc 0 z))++os }:=λ_ _ _=>rfl;have J:∀(m:Nat) (z:Array Nat) (os:Array Obj) k,k<w.heap.size->k≠p.block->(sortWorld enc w p.block 0 m z os).heap[k]?=w.heap[k]?:=λm z os k hk hne=>by exact NI hk hne
 have D:∀(m:Nat) (z:Array Nat) (os:Array Obj),w.heap.size<=(sortWorld enc w p.block 0 m z os).heap.size:=λm z os=>by rw[C];simp
 have hC:CmpLays1 P g cv.toArray enc (λi j=>cf (mO es i) (mO es j)) p.block 0 (ba es.length).size w:=by
  intro m os z hdk x y;have u:=n.ay9 ho hp hv (D m z os) rfl rfl rfl (J m z os);have K:∀i,hE (G.frozen (σ.del id) (sortWorld enc w p.block 0 m z os) (λ_=>Ld)) (mO es i) [enc i]:=λi=>⟨(hrep i).1,λj hj H=>rr (λb o hb=>tc u hb) ((hrep i).2 j hj H) (hpur _ (tI hes i) _ (ay _))⟩;have hA:=((K x).append (K y)).append (hcv _ u);have:=oX.VB hG hGn hGb (hcmp _ (tI hes x) _ (tI hes y)) hA u.Vr;have E:([enc x]++[enc y]++cv).toArray=#[enc x,enc y]++cv.toArray:=by simp
  rw[E]at this;exact this
 have eg:∀args w,(callFunc g args).run P w=.ok (.enter g args) w:=λargs w=>by simp only[callFunc,aA,run_program,aq,hG,hGn,hGb,aG,l4,bd]
 have main:=Any.slices_SortFunc_eq L enc hone' (λi j=>cf (mO es i) (mO es j)) (hO hes) g cv.toArray p.block 0 c (ba es.length) w eg hC hH I (by rw[s];exact hn);rw[s]at main;refine main.mono ?_;rintro e' w' ⟨rfl,m,os,rfl⟩;obtain⟨⟨yG,_,_⟩,_⟩:=au1 (hO hes);have M:=Nj (cf:=cf) hes;generalize pdq (α:=Nat) _ _ _ _ _ _ _=d at *;have hdz:d.size=es.length:=by simpa using yG
 have hobj:(sortWorld enc w p.block 0 m d os).heap[p.block]?=Q1 (.cells (putCells enc 0 d cs) e (0,0)):=by rw[C];rw[cV (by simpa using I),dQ,cr rfl,R];rfl
 have hlen':(sk cf es).length=es.length:=by rw[M];simp[hdz]
 have hok:oq G p (.row e 1 (sk cf es)) (sortWorld enc w p.block 0 m d os).heap[p.block]?:=by
  refine⟨_,hobj,hpz,by simp[putCells,hcsz],by rw[hlen'];exact hcap,λi a7=>?_⟩;have hi2:i<d.size:=by omega
  have E:(sk cf es)[i]=mO es d[i]:=by simp[M]
  refine⟨by rw[E];exact hlen _ (tI hes _),λj hj H=>?_⟩;rw[E]at hj;have hj0:j=0:=by rw[hlen _ (tI hes _)]at hj;omega
  subst hj0;have hval:(putCells enc 0 d cs)[i*1+0]=enc d[i]:=by simp[putCells,hi2]
  rw[hval];have e3:(sk cf es)[i][0]=(mO es d[i])[0]:=by simp only[E]
  rw[e3];exact(hrep d[i]).2 0 hj (by simp)
 obtain⟨hrelN,hfrN⟩:=n.KM ho hp hv (o':=.row e 1 (sk cf es)) (D m d os) rfl rfl rfl (aV _ _) (J m d os) hok;exact⟨_,.ed [],σ.set id (.row e 1 (sk cf es)),G,rfl,⟨.refl G,.refl _ G,aB _,hfrN⟩,.ed [] [] rfl (λi h=>by simp at h),hrelN,rfl,rfl⟩
def xM(v:Int):List ar:=[.b4 (.int .i64 v)]
def aM0 {P:Program} {ρ:dZ} (L:SlLaysM.n5 P ρ) {f:FuncId} (hf:ρ.f 5=f) {t:Func} (hS:P.funcs[f]?=Q1 t) (R:(t.name== "runtime.NumGoroutine")=N2) (S:t.body.isNone=N2)
  {e:TypeId} {g:List Int} (hn:g.length<4611686018427387904) {σ:bg} {id:Nat} (ho:σ.bF id=Q1 (.row e 1 (g.map xM))) :
  oO P f [.ms id 1 0 (g.map xM).length] σ (λv σ'=>v=.ed []/\σ'=σ.set id (.row e 1 ((g.mergeSort λa b=>Eo (a<=b)).map xM))):=by
 subst hf;refine oO.Cc hS R S ?_;intro G vs w l n;obtain⟨u1,vs1,rfl,r,l⟩:=l.cons_inv;obtain rfl:=l.tr;by_cases hes:g=[]
 .
  subst hes;have H:∀i,(σ.set id (.row e 1 [])).bF i=σ.bF i:=λi=>by grind[bg.mQ]
  obtain⟨q,c,rfl⟩:∃(q:Option Addr) (c:Nat),u1=.slice q 0 c:=by
   cases r with
   |ms _ _ _ _ p hp hv hz' a c ha hoff hl hsp=>exact⟨Q1 a,c,rfl⟩
   |oh _ _ p hp hv=>exact⟨Ld,0,rfl⟩
  refine(AnyM.slices_Sort_int_none L q c w).mono ?_;rintro e' w' ⟨rfl,rfl⟩;refine⟨_,.ed [],σ.set id (.row e 1 []),G,rfl,⟨.refl G,.refl _ G,aB _,Fr.less (λi o h=>by rw[<-H i];exact h)⟩,.ed [] [] rfl (λi h=>by simp at h),n.less rfl (λi o h=>by rw[<-H i];exact h),rfl,by simp⟩
 have I:=cH.2 hes;obtain⟨p,hp,hv,c,rfl,hc⟩:∃p,G.pl id=Q1 p/\p.mX=N2/\∃c,u1=.slice (Q1 ⟨p.block,0,Ld⟩) g.length c/\g.length<=c:=by
  rw[aI]at r;generalize hl0:g.length=n0 at r I;cases r with
  |ms _ _ _ _ p hp hv hz' a c ha hoff hl hsp=>grind
  |oh _ _ p hp hv=>omega
 obtain⟨him,hw0,cs,hcs,hpz,J,K,u⟩:=n.real ho hp hv;have s:=n.r_ ho hp hv;rw[aI]at K;have z:∀i,i<g.length->i<cs.size:=λi a7=>by omega
 have hcell:∀i (a7:i<g.length),cs[i]'(z i a7)=.int .i64 g[i]:=λi a7=>by obtain⟨r1,r2⟩:=u i (by simpa using a7);have:=r2 0 (by simp[xM]) (by simpa using z i a7);simp at this;generalize cs[i]'(z i a7)=q at this;cases this;rfl
 have hH:Holds (bH .i64) w p.block 0 g.toArray:=by
  intro j hj
  grind[fF,gJ]
 refine(calls_of_every_depth λD=>AnySM.slices_Sort_int_in L D p.block 0 c g w hH s hn).mono ?_;rintro e' w' ⟨rfl,m,os,rfl⟩;generalize tX:(g.mergeSort λx y=>Eo (x<=y))=d;have hdz:d.length=g.length:=by grind[List.length_mergeSort]
 have B:grow (putRow (bH .i64) (gS w m) p.block 0 d.toArray) os={ w with drawn:=w.drawn+m,heap:=w.heap.modify p.block (onCells (putCells (bH .i64) 0 d.toArray))++os }:=rfl;have M:∀k,k<w.heap.size->k≠p.block->(grow (putRow (bH .i64) (gS w m) p.block 0 d.toArray) os).heap[k]?=w.heap[k]?:=λk hk hne=>by grind
 have C:w.heap.size<=(grow (putRow (bH .i64) (gS w m) p.block 0 d.toArray) os).heap.size:=by simp
 have N:(grow (putRow (bH .i64) (gS w m) p.block 0 d.toArray) os).heap[p.block]?=Q1 (.cells (putCells (bH .i64) 0 d.toArray cs) e (0,0)):=by rw[B];rw[cV (by simpa using s),dQ,cr rfl,hcs];rfl
 have hok:oq G p (.row e 1 (d.map xM)) (grow (putRow (bH .i64) (gS w m) p.block 0 d.toArray) os).heap[p.block]?:=by
  refine⟨_,N,hpz,by simp[putCells,J],by grind,λi a7=>?_⟩;have hi2:i<d.length:=by simpa using a7
  refine⟨by simp[xM],λj hj hj'=>?_⟩;have hj0:j=0:=by simp[xM]at hj;omega
  subst hj0;have O:(putCells (bH .i64) 0 d.toArray cs)[i*1+0]=.int .i64 d[i]:=by simp[putCells,hi2]
  rw[O];simp only[b_];exact .b4 _
 obtain⟨E,Q⟩:=n.KM ho hp hv (o':=.row e 1 (d.map xM)) C rfl rfl rfl (aV _ _) M hok;exact⟨_,.ed [],σ.set id (.row e 1 (d.map xM)),G,rfl,⟨.refl G,.refl _ G,aB _,Q⟩,.ed [] [] rfl (λi h=>by simp at h),E,rfl,rfl⟩
def aF9(w:World):grow w #[]=w:=by simp[grow]
def aT1 {P:Program} {ρ:dZ} (L:SlLaysE0.n35 P ρ) {f:FuncId} (hf:ρ.f 35=f) {I:Func} (hS:P.funcs[f]?=Q1 I) (hSn:(I.name== "runtime.NumGoroutine")=N2) (hSb:I.body.isNone=N2) {z:Nat} (hz:0<z) (aE:∀ w,(isAgg (ρ.t 23)).run P w=.ok No w) (zE:∀ w,(kV (ρ.t 23)).run P w=.ok z w)
  {e:TypeId} {es:List (List ar)} (hlen:∀r∈es,r.length=z) (hone:∀r∈es,∀c∈r,c.one=No) (hn:es.length<4611686018427387904)
  {σ:bg} {id:Nat} (ho:σ.bF id=Q1 (.row e z es)) :
  oO P f [.ms id z 0 es.length] σ (λv σ'=>v=.ed []/\σ'=σ.set id (.row e z es.reverse)):=by
 subst hf;refine oO.Cc hS hSn hSb ?_;intro G vs w g s;obtain⟨u1,vs1,rfl,J,g⟩:=g.cons_inv;obtain rfl:=g.tr;by_cases hes:es=[];subst hes;have hσ:∀i,(σ.set id (.row e z [])).bF i=σ.bF i:=λi=>by rw[bg.mQ];split;rename_i ei;rw[ei,ho];rfl
 obtain⟨q,c,rfl⟩:∃(q:Option Addr) (c:Nat),u1=.slice q 0 c:=by
  cases J with
  |ms _ _ _ _ p hp hv hz' a c ha hoff hl hsp=>exact⟨Q1 a,c,rfl⟩
  |oh _ _ p hp hv=>exact⟨Ld,0,rfl⟩
 refine(AnyQ.slices_Reverse_empty L q c w).mono ?_;rintro e' w' ⟨rfl,rfl⟩;refine⟨_,.ed [],σ.set id (.row e z (([]:List (List ar)).reverse)),G,rfl,⟨.refl G,.refl _ G,aB _,Fr.less (λi o h=>by rw[<-hσ i];exact h)⟩,.ed [] [] rfl (λi h=>by simp at h),s.less rfl (λi o h=>by rw[<-hσ i];exact h),rfl,rfl⟩;have u:0<es.length:=cH.2 hes;obtain⟨p,hp,hv,c,rfl,hc⟩:∃p,G.pl id=Q1 p/\p.mX=N2/\∃c,u1=.slice (Q1 ⟨p.block,0,Ld⟩) es.length c/\es.length<=c:=by
  generalize hl0:es.length=n0 at J u;cases J with
  |ms _ _ _ _ p hp hv hz' a c ha hoff hl hsp =>refine⟨p,hp,hv,c,?_,hl⟩;rw[ha (by omega)];simp
  |oh _ _ p hp hv=>omega
 obtain⟨him,hw0,cs,K,hpz,D,hcap,M⟩:=s.real ho hp hv;have E:p.block<w.heap.size:=s.r_ ho hp hv;have N:∀i j,i<es.length->j<z->i*z+j<cs.size:=λi j a7 hj=>by rw[D];have h1:(i+1)*z<=p.cap*z:=bS z (by omega);rw[cn,iA]at h1;omega
 let enc:Nat->List Value:=λi=>(aN z).map λj=>cs[(if i<es.length then i else 0)*z+j]!
 have hk:∀i,(enc i).length=z:=λi=>by simp[enc]
 have hrep:∀i,hE G (mO es i) (enc i):=λi=>by
  have key:∀i,i<es.length->hE G (mO es i) ((aN z).map λj=>cs[i*z+j]!):=λi a7=>by
   have O:mO es i=es[i]:=by simp[mO,a7]
   rw[O];obtain⟨r1,r2⟩:=M i a7;refine⟨by simp[r1],λj hj hj'=>?_⟩;have n:j<z:=by omega
   have:=r2 j hj (N i j a7 n);simpa[N i j a7 n]using this
  by_cases a7:i<es.length;have:=key i a7;simp only[enc,a7,me];exact this;have:=key 0 u;have e2:mO es i=mO es 0:=by unfold mO;rw[bo (by omega)];cases es;simp at u;rename_i a l;simp
  simp only[enc,a7,l4];rw[e2];exact this
 have Q:∀i,∀v∈enc i,v.oneCell'=No:=λi v hv'=>by obtain⟨j,hj,rfl⟩:=aT hv';have hr1:=(hrep i).1;have:=(hrep i).2 j (by omega) hj;exact eR.one (hone _ (tI hes i) _ (ay _)) this
 have b:(ba es.length).size=es.length:=by simp
 have hH:HoldsK enc z w p.block 0 (ba es.length):=by
  intro j hj;rw[size_flatK,b]at hj;rw[get_flatK _ _ _ _ (by rw[b];exact hj)];have R:j / z<es.length:=(fz hz).2 hj;have hjm:j%z<z:=d_ _ hz;have O:(ba es.length)[j / z]! = j / z:=by simp[R]
  have e2:j / z*z+j%z=j:=by rw[eU];exact gN j z
  have hlt:j<cs.size:=by rw[<-e2];exact N _ _ R hjm
  rw[O];constructor;simp only[fF,K,a_];simp only[enc,R,me];simp[hjm,e2,hlt];simp[gJ,K]
 have hoth:∀(m:Nat) (dk:Array Nat) (os:Array Obj) k,k<w.heap.size->k≠p.block->(sortWorldK enc z w p.block 0 m dk os).heap[k]?=w.heap[k]?:=λm dk os k hk hne=>by rw[E'];exact NI hk hne
 have S:∀(m:Nat) (dk:Array Nat) (os:Array Obj),w.heap.size<=(sortWorldK enc z w p.block 0 m dk os).heap.size:=λm dk os=>by rw[E'];simp
 have main:=AnyQ.slices_Reverse L z aE zE enc hk Q p.block 0 c (ba es.length) w hH (by rw[b];omega);rw[b]at main;refine main.mono ?_;rintro e' w' ⟨rfl,m,hw'⟩;have hw2:w'=sortWorldK enc z w p.block 0 m (ba es.length).reverse #[]:=by rw[hw'];unfold sortWorldK;rw[aF9]
 subst hw2;have hat:∀(i:Nat) (h:i<(ba es.length).reverse.size),(ba es.length).reverse[i]=es.length-1-i:=λi h=>by simp
 have hdz:(ba es.length).reverse.size=es.length:=by simp
 generalize(ba es.length).reverse=d at *;have hes':∀(i:Nat) (a7:i<es.reverse.length) (h:i<d.size),es.reverse[i]=mO es d[i]:=λi a7 h=>by
  have C:i<es.length:=by simpa using a7
  rw[hat i h,List.getElem_reverse];have:es.length-1-i<es.length:=by omega
  simp[mO,this]
 have hH2:HoldsK enc z (sortWorldK enc z w p.block 0 m d #[]) p.block 0 d:=holdsK_sortWorldK enc z w p.block 0 m _ d #[] E hH (by rw[hdz,b]);have H:(sortWorldK enc z w p.block 0 m d #[]).heap[p.block]?=Q1 (.cells (putCells (λx:Value=>x) 0 (flatK enc z d) cs) e (0,0)):=by rw[E'];simp only;rw[cV (by simpa using E),dQ,cr rfl,K];rfl
 have hlen':(es.reverse).length=es.length:=by simp
 have hok:oq G p (.row e z (es.reverse)) (sortWorldK enc z w p.block 0 m d #[]).heap[p.block]?:=by
  refine⟨_,H,hpz,by simp[putCells,D],by rw[hlen'];exact hcap,λi a7=>?_⟩;have C:i<d.size:=by omega
  have O:(es.reverse)[i]=mO es d[i]:=hes' i a7 C;refine⟨by rw[O];exact hlen _ (tI hes _),λj hj hj'=>?_⟩;rw[O]at hj;have n:j<z:=by rw[hlen _ (tI hes _)]at hj;exact hj
  have B:=(kU hH2 C n).1;simp only[fF,H,a_]at B;have hval:(putCells (λx:Value=>x) 0 (flatK enc z d) cs)[i*z+j]=(enc d[i]!)[j]! := by have:=B;rw[bj hj']at this;simpa using this
  rw[hval];have hr2:=(hrep d[i]).2 j hj (by rw[hk];exact n);have e2:(enc d[i]!)[j]! = (enc d[i])[j]'(by rw[hk];exact n):=by simp[C,hk,n]
  rw[e2];have e3:(es.reverse)[i][j]=(mO es d[i])[j]:=by simp only[O]
  rw[e3];exact hr2
 obtain⟨hrelN,hfrN⟩:=s.KM ho hp hv (o':=.row e z (es.reverse)) (S m d #[]) rfl rfl rfl (aV _ _) (hoth m d #[]) hok;exact⟨_,.ed [],σ.set id (.row e z (es.reverse)),G,rfl,⟨.refl G,.refl _ G,aB _,hfrN⟩,.ed [] [] rfl (λi h=>by simp at h),hrelN,rfl,rfl⟩
open Go
def Nb {P:Program} {T:cy} (cb:mz P T) {f:FuncId} {fn:Func} {t elem:TypeId} {z b:Nat} {l:dr} (hf:P.funcs[f]?=Q1 fn) (g:(fn.name== "runtime.NumGoroutine")=N2) (m:DR fn t=No) (B:fn.resultTypes.toList=[t])
  (h1:(T t).map nk.j4=Q1 (.slice elem)) (h2:(T elem).map nk.size=Q1 z) (D:(T elem).map nk.bytes=Q1 b) (hz:0<z) (hl:∀v:l.T,(a6 l v).length=z/\∀d∈a6 l v,ar.one d=No) {x r:List l.T}
  (Q:(2*x.length+1000)*b<=2^48) (R:x.length<=2^62) (E:r=x):uu P f (a6 (.one (.hF l)) x) (enc (.hF l) r):=by
 subst E;refine⟨r.map (a6 l),rfl,λG H k e ti n h I o J hu p σ=>?_⟩;have K:k=t:=by grind
 subst K;cases C:T k with
 |none=>rw[C]at h1;cases h1
 |some q=>
 have M:e=elem:=by
  have a:=h.j4 k ti J;have c:=cb.j4 k q C
  grind
 subst M;cases s:T e with
 |none=>rw[s]at h2;cases h2
 |some u=>
 rw[s]at h2 D;have s2:=aQ h2;obtain⟨i,i1,i2,i3,_⟩:=h.info e n p;obtain⟨j,N,S,j3,_⟩:=cb.info e u s;have O:=aQ (i1.symm.trans N);subst O;have ha:K6 G k [.rs (r.map (a6 l))] σ=Q1 (.ms (σ.next+5) n.size 0 (r.map (a6 l)).length,({ σ with next:=σ.next+7 }:bg).set (σ.next+5) (.row e n.size (r.map (a6 l)))):=by
  obtain⟨j4,size,zero,bytes,flat⟩:=ti;have w:=hu;subst w;simp only[K6,oS];have hn:(ar.rs (r.map (a6 l))).isNil≠Q1 No:=by cases r<;>simp[ar.isNil]
  grind
 exact(ca4 h hf g (aI8 m) ha).1
variable {G:ca}{H:List (Nat×Hint)}{P:Program}{S:Nat->Option dr}{a:List ar}{acts:List (Nat×wg)}{args:List ar}{bb:Nat}{c:Code}{d:List c9}{elem:TypeId}{es:List (List ar)}{f:FuncId}{l:dr}{m:Nat}{mW:dr}{ts:List c9}{w:World}{z:Nat}{θ:Nat->ar}{σ:bg}
def QT(s:bl)(v:ar)(elem:TypeId)(z:Nat)(es:List (List ar)):Prop :=
 (v=.b4 (.slice Ld 0 0)/\es=[])\/∃id a,v=.ms id z 0 es.length/\s.st.bF id=Q1 (.row elem z a)/\a.length=es.length /\
  ∀G w pl,Rel G s.st w->∀i (a7:i<es.length) (b:i<a.length),es[i].length=a[i].length/\∀j (hj:j<es[i].length) (c:j<a[i].length) u,eR G a[i][j] u->eR (G.frozen (s.st.del id) w pl) es[i][j] u
def Rel.ML(h:Rel G σ w)(id:Nat):Rel G (σ.del id) w:=h.less rfl λi o ho=>by rw[bg.rK]at ho;split at ho;cases ho;exact ho
def aT7(a:Rel G σ w){m:ca}{σ1 c:bg}{n:World}(D:ou 0 { G with pl:=λ_=>Ld } bg.none w m σ1 n)(d:Rel m σ1 n)(E:∀i o,c.bF i=Q1 o->σ1.bF i=Q1 o)(H:Rel m c n)
  {p:nt}    {f:Nat->Option nt} (I:f=λi=>if i=σ.next+5 then Q1 p else G.pl i)
  (hB:(p.mX=No/\es=[])\/(p.mX=N2/\m.lo p.block=Ld/\¬Live m c p.block/\w.heap.size<=p.block/\oq (m.frozen c n f) p (.row elem z es) n.heap[p.block]?)) :
  tb σ.next G σ w (m.frozen c n f) ({ σ with next:=σ.next+7 }.set (σ.next+5) (.row elem z es)) n/\Rel (m.frozen c n f) ({ σ with next:=σ.next+7 }.set (σ.next+5) (.row elem z es)) n:=by
 have u:∀i,({ σ with next:=σ.next+7 }.set (σ.next+5) (.row elem z es):bg).bF i=if i=σ.next+5 then Q1 (.row elem z es)else σ.bF i:=λi=>bg.mQ ..
 have J:=D.mu;have B:=λb t=>D.bb.same b t (λid o p h=>by rw[bg.sZ]at h;cases h);have k:∀b,¬ ∃id0 o0 p0,bg.none.bF id0=Q1 o0/\(Ld:Option nt)=Q1 p0/\p0.mX=N2/\p0.block=b:=λb ⟨id,o0,p0,h,_⟩=>by rw[bg.sZ]at h;cases h
 have himm:∀b x,(m.frozen c n f).lo b=Q1 x->G.lo b=Q1 x\/w.heap.size<=b:=λb x C=>by
  simp only[ca.frozen]at C;split at C;rename_i hl;obtain⟨id,o1,p,h1,h2,r,rfl⟩:=hl;right;rcases cR p.block w.heap.size with l|l
  exact b8 (D.bb.live id o1 p (E _ _ h1) h2 r l) (k _);exact l;rcases D.bb.lo b x C with h1|h1|h1
  exact .inl h1;exact .inr h1;exact b8 h1 (k _)
 have N:G.pl (σ.next+5)=Ld:=a.fresh _ (by omega);have hle:G.le (m.frozen c n f):=⟨J,λb x t=>tc H (D.lo b x t),λi q Q=>by
  rw[I];show(if i=σ.next+5 then Q1 p else G.pl i)=Q1 q;rw[cc (λe=>by rw[e,N]at Q;cases Q)];exact Q⟩
 have g:∀i,i≠σ.next+5->(m.frozen c n f).pl i=G.pl i:=λi a7=>by show f i=_;rw[I];exact cc a7
 have s:(m.frozen c n f).pl (σ.next+5)=Q1 p:=by show f _=_;rw[I];exact cr rfl
 have K:p.mX=N2->w.heap.size<=p.block:=λhv=>by
  rcases hB with⟨h1,_⟩|⟨_,_,_,l,_⟩
  rw[hv]at h1;cases h1;exact l
 refine⟨⟨hle,λi a7 hg=>?_,?_,⟨D.bb.size,λb t _=>B b t,λid x q h1 h2 r l=>?_,λb x t=>?_,D.bb.drawn⟩⟩,⟨d.os,d.tape,d.output,d.size,λb x t=>?_,λi a7=>?_,λid x C=>?_,λi j oi oj pi pj h1 h2 r l v1 v2 M=>?_,λb o v hv=>hle.cell (a.qE b o v hv)⟩⟩;rw[g i (by omega)];exact hg;show σ.next<=σ.next+7;omega;rw[u]at h1;split at h1;rename_i e;subst e;rw[s]at h2;cases h2;have:=K r;omega;rename_i e;rw[g _ e]at h2;exact⟨id,x,q,h1,h2,r,rfl⟩;rcases himm b x t with h1|h1
 exact .inl h1;exact .inr (.inl h1);simp only[ca.frozen]at t;split at t;exact t;exact d.lo b x t;have hi':σ.next+7<=i:=a7;rw[g i (by omega)];exact a.fresh i (by omega);rw[u]at C;split at C;rename_i e;subst e;cases C;refine⟨p,s,?_⟩;rcases hB with⟨h1,rfl⟩|⟨h1,h2,r,l,M⟩
 exact .inl ⟨h1,_,_,rfl⟩;refine .inr ⟨h1,?_,?_,M⟩;simp only[ca.frozen];rw[cc r];exact h2;have h6:m.mu.heap.size<=p.block:=by rw[J];exact bz a.size l
 exact h6;rename_i e;obtain⟨q,O,hl⟩:=a.bF id x C;refine⟨q,by rw[g _ e];exact O,?_⟩;rcases hl with⟨h1,h2⟩|⟨h1,h2,r,l⟩
 exact .inl ⟨h1,h2⟩;have R:=a.r_ C O h1;refine .inr ⟨h1,?_,by show m.mu.heap.size<=_;rw[J];exact r,by rw[B _ R];exact l.mono hle⟩;cases a7:(m.frozen c n f).lo q.block with
 |none=>rfl
 |some y=>
  rcases himm _ _ a7 with M|M
  rw[h2]at M;cases M;omega
 rw[u]at h1 h2;split at h1;rename_i S;split at h2;omega;rename_i P;subst S;rw[s]at r;cases r;rw[g _ P]at l;have:=K v1;have:=a.r_ h2 l v2;omega;rename_i S;rw[g _ S]at r;split at h2;rename_i P;subst P;rw[s]at l;cases l;have:=K v2;have:=a.r_ h1 r v1;omega;rename_i P;rw[g _ P]at l;exact a.sep i j oi oj pi pj h1 h2 r l v1 v2 M
def uu.DS  {T:cy} (cb:mz P T)  {fn:Func}    {t:TypeId} {ti C:nk} (D:P.funcs[f]?=Q1 fn) (E:(fn.name== "runtime.NumGoroutine")=N2) (hb:fn.body=Q1 c) (hn:args.length<=fn.ntmps)
  (hp:args.all ar.kl=No) (O:fn.resultTypes.toList=[t]) (htt:T t=Q1 ti) (hu:ti.j4=.slice elem) (hei:T elem=Q1 C)
  (h:j5 P 0 c (λe s'=>(e=.normal\/e=.ret)/\∃v,pc T fn s'=Q1 v/\QT s' v elem C.size es) (bl.enter fn.ntmps args bg.none)):uu P f args (.rs es):=by
 refine⟨es,rfl,λT' fn' t' d ti' R S hf' l ht' hu' hei' σ=>?_⟩;have e0:=aQ (hf'.symm.trans D);subst e0;have e1:t'=t:=by rw[O]at l;exact(List.cons.inj l).1.symm
 subst e1;have e2:d=elem:=by
  have a:=S.j4 t' ti' ht';have c:=cb.j4 t' ti htt
  grind
 subst e2;have e3:R.size=C.size:=by obtain⟨i,i1,i2,i3,_⟩:=S.info d R hei';obtain⟨j,j1,j2,j3,_⟩:=cb.info d C hei;have e3:=aQ (i1.symm.trans j1);subst e3;omega
 rw[e3];intro G vs w m g o a Kc Q hK;have hrun:(callFunc f vs.toArray).run P w=.ok (.enter f vs.toArray) w:=by simp only[callFunc,aA,run_program,aq,D,E,hb,Option.isNone_some,aG,l4,bd]
 rw[hrun];let G0:ca:={ G with pl:=λ_=>Option.none };have x:hE G0 args vs:=⟨m.1,λi h1 h2=>rr (G:=G) (G':=G0) (λ_ _ h=>h) (m.2 i h1 h2) (aj.1 hp _ (ay h1))⟩;have H:Rel G0 bg.none w:=⟨g.os,g.tape,g.output,g.size,g.lo,λ_ _=>rfl,(λid o h=>by rw[bg.sZ]at h;cases h),(λi j oi oj pi pj h=>by rw[bg.sZ]at h;cases h),g.qE⟩;refine calls_of_wp D hb (wp_mono (h (c_ _) G0 _ w (lZ.enter x H fn'.ntmps hn)) ?_);rintro e a' B ⟨s1,N,ht,b3,hex,v,hv,hd⟩;obtain⟨y,hy,I⟩:=IF (P:=P) cb b3 hv;have b:=b3.rel;have fin:∀(r:bg) (p:nt),(∀i o,r.bF i=Q1 o->s1.st.bF i=Q1 o)->Rel N r B->(∀G':ca,G'.pl (σ.next+5)=Q1 p->eR G' (.ms (σ.next+5) C.size 0 es.length) y) ->
   (∀J,(p.mX=No/\es=[])\/(p.mX=N2/\N.lo p.block=Ld/\¬Live N r p.block/\w.heap.size<=p.block/\oq (N.frozen r B J) p (.row d C.size es) B.heap[p.block]?))->Kc (a.put o.dst y) B:=by
  intro r p h1 h2 h3 h4;obtain⟨g1,g2⟩:=aT7 g ht b h1 h2 (p:=p) (elem:=d) (z:=C.size) (es:=es) rfl (h4 _);exact hK y _ _ _ B g1 (h3 _ (by show(if σ.next+5=σ.next+5 then Q1 p else _)=_;rw[cr rfl])) g2 ⟨rfl,rfl⟩
 have main:Kc (a.put o.dst y) B:=by
  rcases hd with⟨rfl,rfl⟩|⟨id,es0,rfl,ho,hlen,K⟩
  cases I;exact fin s1.st ⟨0,0,0,No⟩ (λ_ _ h=>h) b (λG' hG=>.oh _ _ _ hG rfl) (λ_=>.inl ⟨rfl,rfl⟩);have s:∀i o,(s1.st.del id).bF i=Q1 o->s1.st.bF i=Q1 o:=λi o h=>by rw[bg.rK]at h;split at h;cases h;exact h
  have M:Rel N (s1.st.del id) B:=b.less rfl s;generalize hn0:es.length=n at I fin;cases I with
  |oh _ _ p u k =>have:=List.eq_nil_of_length_eq_zero hn0;subst this;exact fin s1.st p (λ_ _ h=>h) b (λG' hG=>.oh _ _ _ hG k) (λ_=>.inl ⟨k,rfl⟩)
  |ms _ _ _ _ p u k hz' ad cp hA hoff hl hsp=>
   refine fin (s1.st.del id) p s M (λG' hG=>.ms _ _ _ _ p hG k hz' ad cp hA hoff hl hsp) (λJ=>.inr ⟨k,?_,?_,?_,?_⟩);exact(b.real ho u k).1;rintro ⟨i,oi,q,fa,gb,lb,mN⟩;have hne:i≠id:=λe=>by subst e;rw[bg.rK,cr rfl]at fa;cases fa
   exact hne (b.sep i id oi _ q p (s _ _ fa) ho gb u lb k mN);rcases cR p.block w.heap.size with h4|h4
   obtain⟨id0,o0,p0,g1,_⟩:=ht.bb.live id _ p ho u k h4;cases g1;exact h4;obtain⟨_,_,cells,hb',hps,hcs,hcap,hrow⟩:=b.real ho u k;refine⟨cells,hb',hps,hcs,by omega,λi a7=>?_⟩;have hi0:i<es0.length:=by omega
   obtain⟨k1,k2⟩:=K N B J b i a7 hi0;obtain⟨m1,m2⟩:=hrow i hi0;exact⟨by omega,λj hj hj'=>k2 j hj (by omega) _ (m2 j (by omega) hj')⟩
 rcases hex with rfl|rfl
 exact⟨b3.defers,y,hy,main⟩;exact⟨b3.defers,y,hy,main⟩
def Ho(T:cy)(fn:Func)(elem:TypeId)(z:Nat)(e:qQ)(s:bl)(_:Nat):nf:=match e with
 | .oA _=>.stuck
 |_=>match pc T fn s with
  |some (.b4 (.slice Ld 0 0))=>.ret (.rs []) []
  |some (.c8 id a j)=>match s.st.bF id with
   |some (.fN b z2 c)=>match ax a z&&ax z2 z&&ax b elem&&ax j c with
    |true=>.ret (.ey j) [j]
    |false=>.stuck
   |_=>.stuck
  |some (.ms id a 0 n)=>match s.st.bF id with
   |some (.row b z2 es)=>match ax a z&&ax z2 z&&ax b elem&&ax n es.length&&yX es with
    |true=>.ret (.rs (Ax es)) []
    |false=>.stuck
   |_=>.stuck
  |_=>.stuck
def TO(T:cy)(fn:Func)(elem:TypeId)(z:Nat):xq:=λb e s bb=>match b with
 |none=>match ow Ld s bb with
  |true=>Ho T fn elem z e s bb
  |false=>.stuck
 |some M=>match e with
  | .oA _=>.stuck
  |_=>match ow (Q1 M) s bb,fn.results.toList with
   |true,[.tmp t]=>match s.get t with
    | .c8 a c j=>match ax a M.a&&ax c M.z&&ax j M.j&&ax M.e elem&&ax M.z z with
     |true=>.ret (.ey M.j) []
     |false=>.stuck
    |_=>.stuck
   |_,_=>.stuck
def aG1(h:yX es=No):∀i (a7:i<es.length) j (hj:j<es[i].length),(es[i][j]).qA=No:=by
 induction es with
 |nil=>intro i a7;simp at a7
 |cons r es b=>
  simp only[yX,ab]at h;intro i a7 j hj;cases i;have hl:∀(r:List ar),q2 r=No->∀j (hj:j<r.length),(r[j]).qA=No:=λr=>by
   induction r with
   |nil=>intro _ j hj;simp at hj
   |cons c cs a =>intro h j hj;simp only[q2,ab]at h;cases j;exact h.1;rename_i j;exact a h.2 j (by simpa using hj)
  exact hl r h.1 j (by simpa using hj);rename_i i;exact b h.2 i (by simpa using a7) j (by simpa using hj)
def ar8{T:cy}{Φ:lv}{fn:Func}{S:bl}{A:Nat->List ar->Prop}{e:qQ}{r:ar}(g:Fit θ)(h:mV T Φ (λc=>c=r) (Ho T fn elem z e S bb) θ A) :
  (e.qP=.normal\/e.qP=.ret)/\∃es v,r=.rs es/\pc T fn (S.sub θ)=Q1 v/\QT (S.sub θ) v elem z es:=by
 have hex:(e=.nr\/e=.ret):=by
  cases e with
  |oA j=>exact h.elim
  |nr=>exact .inl rfl
  |ret=>exact .inr rfl
 refine⟨by rcases hex with rfl|rfl<;>simp[qQ.qP],?_⟩;have h':mV T Φ (λc=>c=r) (match pc T fn S with
  |some (.b4 (.slice Ld 0 0))=>.ret (.rs []) []
  |some (.c8 id k j)=>match S.st.bF id with
   |some (.fN l z2 x)=>match ax k z&&ax z2 z&&ax l elem&&ax j x with
    |true=>.ret (.ey j) [j]
    |false=>.stuck
   |_=>.stuck
  |some (.ms id k 0 n)=>match S.st.bF id with
   |some (.row l z2 es)=>match ax k z&&ax z2 z&&ax l elem&&ax n es.length&&yX es with
    |true=>.ret (.rs (Ax es)) []
    |false=>.stuck
   |_=>.stuck
  |_=>.stuck) θ A:=by rcases hex with rfl|rfl<;>exact h
 split at h';rename_i hv;obtain⟨_,d⟩:=h';refine⟨[],_,?_,Db hv,.inl ⟨by simp,rfl⟩⟩;rw[<-d];simp;rename_i id k j hv;split at h';rename_i l z2 x ho;split at h';rename_i hc;simp only[ab]at hc;obtain⟨⟨⟨c1,c2⟩,m⟩,p⟩:=hc;rw[ae c1]at hv;rw[ae c2,ae m,<-ae p]at ho;obtain⟨f,d⟩:=h';obtain⟨es,hj⟩:=f j (by simp);rw[mK,hj]at d;refine⟨es,_,d.symm,Db hv,.inr ⟨id,es,by simp only[ar.sub,hj,rowsOf],?_,rfl,λG w pl a i a7 q=>⟨rfl,λs h1 h2 u hu=>?_⟩⟩⟩;rw[bl.ua,bg.mT,ho];simp only[ai,c7.sub,hj,rowsOf];have hp:(ar.rs es).kl=No:=by have:=(g j).kl;rw[hj]at this;exact this
 exact rr (λb o t=>tc (a.ML _) t) hu (rY hp i a7 s h1);exact h'.elim;exact h'.elim;rename_i id k n hv;split at h';rename_i l z2 es ho;split at h';rename_i hc;simp only[ab]at hc;obtain⟨⟨⟨⟨c1,c2⟩,m⟩,p⟩,B⟩:=hc;rw[ae c1,ae p]at hv;rw[ae c2,ae m]at ho;obtain⟨_,d⟩:=h';have C:(ar.rs (Ax es)).sub θ=.rs (es.map (cm (λv=>(ar.rJ v).sub θ))):=by simp only[ar.sub,vQ,O',bZ];congr 1;simp
 rw[C]at d;refine⟨_,_,d.symm,Db hv,.inr ⟨id,es.map (cm (ar.sub θ)),by simp,?_,by simp,λG w pl a i a7 q=>⟨by simp,λs h1 h2 u hu=>?_⟩⟩⟩;rw[bl.ua,bg.mT,ho];simp only[ai,c7.sub];simp only[b_]at hu⊢;refine BN _ u (rr (λb o t=>tc (a.ML _) t) hu (BB g _ (aG1 B i (by simpa using a7) s (by simpa using h1))));exact h'.elim;exact h'.elim;exact h'.elim
section
variable {P:Program} {T:cy} (cb:mz P T) {Φ:lv} (hΦ:Ak P Φ) {F:FuncId->Option Func} (dC:∀f fn,F f=Q1 fn->P.funcs[f]?=Q1 fn) (hm:P.follows .mixedOrders=No)
def KZ(T:cy)(fn:Func):Option (TypeId×Nat):=match fn.resultTypes.toList with
 | [t]=>match T t with
  |some { j4:=.slice elem,.. }=>match T elem with
   |some a=>Q1 (elem,a.size)
   |none=>Ld
  |_=>Ld
 |_=>Ld
include cb in
theorem ao4 {fn:Func}   (a:KZ T fn=Q1 (elem,z))     (g:P.funcs[f]?=Q1 fn) (b:(fn.name== "runtime.NumGoroutine")=N2) (k:fn.body=Q1 c) (l:args.length<=fn.ntmps)
  (hp:args.all ar.kl=No) (h:j5 P 0 c (λe s'=>(e=.normal\/e=.ret)/\∃v,pc T fn s'=Q1 v/\QT s' v elem z es) (bl.enter fn.ntmps args bg.none)):uu P f args (.rs es):=by
 unfold KZ at a;split at a;rename_i t d;split at a;rename_i i nq z2 z3 z4 m;split at a;rename_i n j;simp only[ah,Prod.mk.injEq]at a;obtain⟨rfl,rfl⟩:=a;exact uu.DS cb g b k l hp d m rfl j h;cases a;cases a;cases a
def JE(T:cy)(Φ:lv)(F:FuncId->Option Func)(H:List (Nat×Hint))(m:Nat)(f:FuncId)(a:List ar)(bb:Nat):nf :=
 match F f with
 |some fn=>match fn.body,KZ T fn with
  |some c,Q1 (elem,z)=>match !(fn.name== "runtime.NumGoroutine")&&dD a.length fn.ntmps&&q2 a with
   |true=>exec T Φ F (Cs H) m 0 c (bl.enter fn.ntmps a bg.none) bb (Ho T fn elem z)
   |false=>.stuck
  |_,_=>.stuck
 |none=>.stuck
include cb hΦ dC hm in
theorem bP4
   (b:Fit θ)  (h:mV T Φ (λc=>c=.rs es) (JE T Φ F H m f a bb) θ (λ_ _=>False)):uu P f (a.map (ar.sub θ)) (.rs es):=by
 unfold JE at h;split at h;rename_i fn g;split at h;rename_i c elem z j d;split at h;rename_i hc;simp only[ab,cT]at hc;have i:=JR cb hΦ dC hm (H:=Cs H) m 0 c _ bb _ θ _ b h;rw[FP]at i;refine ao4 cb d (dC f fn g) hc.1.1 j (by simpa using aZ hc.1.2) (by rw[<-uv,<-pT];exact vH b a hc.2) (j5.mono i ?_);rintro e s' ⟨q,k,r,l,s,rfl,_,f1,_,_,rfl,hl⟩;obtain⟨h1,n,v,h2,o,p⟩:=ar8 f1 hl;cases h2;exact⟨h1,v,o,p⟩;exact h.elim;exact h.elim;exact h.elim
def Jn(T:cy)(Φ:lv)(F:FuncId->Option Func)(H:List (Nat×Hint))(acts:List (Nat×wg))(m:Nat)(f:FuncId)(a:List ar)(bb:Nat):nf :=
 match F f with
 |some fn=>match fn.body,KZ T fn with
  |some c,Q1 (elem,z)=>match !(fn.name== "runtime.NumGoroutine")&&dD a.length fn.ntmps&&q2 a with
   |true=>uJ T Φ F (Cs H) (H_ acts) m Ld c (B8 fn.ntmps a) bb (TO T fn elem z)
   |false=>.stuck
  |_,_=>.stuck
 |none=>.stuck
include cb hΦ dC hm in
theorem bI0{b:List ar}
   (q:Fit θ)  (h:mV T Φ (λc=>c=.rs es) (Jn T Φ F H acts m f b bb) θ (λ_ _=>False)):uu P f (b.map (ar.sub θ)) (.rs es):=by
 unfold Jn at h;split at h;rename_i fn C;split at h;rename_i c elem z hb r;split at h;rename_i hc;simp only[ab,cT]at hc;refine ao4 cb r (dC f fn C) hc.1.1 hb (by simpa using aZ hc.1.2) (by rw[<-uv,<-pT];exact vH q b hc.2) ?_;refine j5.raise (k:=mB) (by simp[bl.enter,bg.none]) ?_;have R:=O8 cb hΦ dC hm (Q:=λc=>c=.rs es) (H:=Cs H) (acts:=H_ acts) m Ld c (B8 fn.ntmps b) bb (TO T fn elem z) θ _ q trivial h;have mH:(B8 fn.ntmps b).full Ld θ={ bl.enter fn.ntmps (b.map (ar.sub θ)) bg.none with st:={ (bl.enter fn.ntmps (b.map (ar.sub θ)) bg.none).st with next:=mB } }:=by have D:(bl.enter fn.ntmps b bg.none).sub θ=bl.enter fn.ntmps (b.map (ar.sub θ)) bg.none:=FP ..;show({ (bl.enter fn.ntmps b bg.none).sub θ with st:={ ((bl.enter fn.ntmps b bg.none).sub θ).st with next:=mB } }:bl)=_;rw[D]
 rw[mH]at R;refine j5.mono R ?_;rintro e s' ⟨B,g,l,n,A1,E,rfl,_,f1,_,_,rfl,I,hl⟩;cases E with
 |none =>have p:mV T Φ (λc=>c=.rs es) (match ow Ld l n with|true=>Ho T fn elem z B l n|false=>.stuck) g A1:=hl;split at p;obtain⟨h1,es1,v,h2,h3,h4⟩:=ar8 f1 p;cases h2;exact⟨h1,v,h3,h4⟩;exact p.elim
 |some M=>
  obtain⟨rows,hj,J⟩:=I;have hex:B=.nr\/B=.ret:=by
   cases B with
   |oA j=>exact hl.elim
   |nr=>exact .inl rfl
   |ret=>exact .inr rfl
  have d:mV T Φ (λc=>c=.rs es) (match ow (Q1 M) l n,fn.results.toList with
   |true,[.tmp t]=>match l.get t with
    | .c8 a z' j=>match ax a M.a&&ax z' M.z&&ax j M.j&&ax M.e elem&&ax M.z z with
     |true=>.ret (.ey M.j) []
     |false=>.stuck
    |_=>.stuck
   |_,_=>.stuck) g A1:=by rcases hex with rfl|rfl<;>exact hl
  refine⟨by rcases hex with rfl|rfl<;>simp[qQ.qP],?_⟩;split at d;rename_i t hB K;split at d;rename_i a z' j k5;split at d;rename_i s;simp only[ab]at s;obtain⟨⟨⟨⟨c1,c2⟩,c3⟩,c4⟩,c5⟩:=s;have D:=ae c1;have e2:=ae c2;have e3:=ae c3;have e4:=ae c4;have e5:=ae c5;subst D;subst e2;subst e3;subst e4;subst e5;obtain⟨_,hq⟩:=d;rw[mK,hj]at hq;have N:rows=es:=by injection hq
  subst N;have hg:(l.full (Q1 M) g).get t=.ms M.a M.z 0 rows.length:=by have:(l.full (Q1 M) g).get t=(l.sub g).get t:=rfl;rw[this,bl.tB,k5,rA,hj];rfl
  obtain⟨hlt,u⟩:=aA5 hB hj;refine⟨.ms M.a M.z 0 rows.length,by simp only[pc,K,uI,y3,hg],.inr ⟨M.a,_,rfl,u,by rw[zw],λG w pl x i a7 O=>?_⟩⟩;exact am3 (S:=l) hj J pl (x.ML _) (λi o a7 h=>by rw[bg.rK,cc (by omega)];exact h) a7 O;exact d.elim;exact d.elim;exact d.elim
 exact h.elim;exact h.elim;exact h.elim
end
theorem Rb{T:cy}{Φ:lv}{j:List c9}(e:∀t∈j,t.Ok Φ){tree:nf}
  (d:∀θ,Fit θ->∀es,mV T Φ (λc=>c=.rs es) tree θ (λ_ _=>False)->uu P f (a.map (ar.sub θ)) (.rs es))
     {g:mW.T->Option (dn.hF l).T} (n:uW T j S mW (.hF l) a tree=g) {x:mW.T} {v:(dn.hF l).T} (h:g x=Q1 v):uu P f (a6 mW x) (enc (.hF l) v):=by
 subst n;unfold uW at h;cases hp:su a mW []with
 |none=>simp only[hp]at h;cases h
 |some q=>
  obtain⟨Γ,p⟩:=q;simp only[hp]at h;obtain⟨vs,o,z,r⟩:=yy _ _ _ _ hp x ();have hl:=B3 e _ Γ [] (p x ()) () (λ_ _=>False) (λl s g hf=>by simp[y']at hf) h;have w:pF Γ (p x ())=vs++[]:=o;have k:ni (re Γ (p x ())) a=a6 mW x:=by
   have B:=r []
   grind[re,sg]
  rw[DC]at k;have b:∀u∈pF Γ (p x ()),nN u:=λu hu=>by grind
  rw[<-k];have i:=hl (by rw[sg]);have m:=i (λu hu=>b u (by simpa using hu));rw[vS,sg]at m;exact d _ (by have:=Fit.env (l:=(pF Γ (p x ())).reverse) (λu hu=>b u (by simpa using hu));rw[vS,sg]at this;exact this) _ m
theorem bQ7{T:cy}(cb:mz P T){F:FuncId->Option Func}(dC:∀f fn,F f=Q1 fn->P.funcs[f]?=Q1 fn)(hm:P.follows .mixedOrders=No)(hs:x' ts=No)(b:∀t∈d,t.Ok (rC P ts)){fn:mW.T->Option (dn.hF l).T}(e:c9.mk (uj+f) mW (.hF l) fn∈ts)
       (g:uW T d S mW (.hF l) a (JE T (rC P ts) F H m f a bb)=fn):(c9.mk (uj+f) mW (.hF l) fn).Ok (rC P ts) :=
 tK hs e λx r i=>Good.row (Rb b (λθ c r h=>bP4 cb (FV P ts) dC hm c h) g i)
theorem aW0{T:cy}(cb:mz P T){F:FuncId->Option Func}(dC:∀f fn,F f=Q1 fn->P.funcs[f]?=Q1 fn)(hm:P.follows .mixedOrders=No)(hs:x' ts=No)(b:∀t∈d,t.Ok (rC P ts)){fn:mW.T->Option (dn.hF l).T}(e:c9.mk (uj+f) mW (.hF l) fn∈ts)
        (g:uW T d S mW (.hF l) a (Jn T (rC P ts) F H acts m f a bb)=fn):(c9.mk (uj+f) mW (.hF l) fn).Ok (rC P ts) :=
 tK hs e λx r i=>Good.row (Rb b (λθ c r h=>bI0 cb (FV P ts) dC hm c h) g i)
end Go.Ab
namespace Go.Ab
noncomputable section
open Go Go.Sort Go.Proofs Go.Shelf
variable {α:Type}{cmp:α->α->Option Int}{xs:List α}
abbrev fk:dn:=.int .i64
abbrev qy:=(List (Int×Int×Int)×List (Int×Int×Int×List (Int×Int)×Int×Int)×List (Int)×List (Int×Int×Int×ByteArray×List (Int)))
abbrev mL:=(List (Int×Int×Int)×List (Int×Int×Int×List (Int×Int)×Int×Int)×List (Int))
abbrev ce3:=List (Int×Int×Int×List (Int×Int)×Int×Int)
abbrev C6:=List (Int×Int×Int×ByteArray×List (Int))
abbrev wC:=(Int×List (Int)×List (List (Int))×List (Int))
abbrev Ml:=List (Int×List (Int×Int))
abbrev zB:=(Int×Int×Int×List (Int×Int)×Int×Int)
abbrev qX:=(Int×Int×Int×ByteArray×List (Int))
abbrev ny:=List (Int×Int)
def Ea:ByteArray:=bW #[0,1,2,2,3,3,3,3,4,4,4,4,4,4,4,4,5,5,5,5,5,5,5,5,5,5,5,5,5,5,5,5,6,6,6,6,6,6,6,6,6,6,6,6,6,6,6,6,6,6,6,6,6,6,6,6,6,6,6,6,6,6,6,6,7,7,7,7,7,7,7,7,7,7,7,7,7,7,7,7,7,7,7,7,7,7,7,7,7,7,7,7,7,7,7,7,7,7,7,7,7,7,7,7,7,7,7,7,7,7,7,7,7,7,7,7,7,7,7,7,7,7,7,7,7,7,7,7,8,8,8,8,8,8,8,8,8,8,8,8,8,8,8,8,8,8,8,8,8,8,8,8,8,8,8,8,8,8,8,8,8,8,8,8,8,8,8,8,8,8,8,8,8,8,8,8,8,8,8,8,8,8,8,8,8,8,8,8,8,8,8,8,8,8,8,8,8,8,8,8,8,8,8,8,8,8,8,8,8,8,8,8,8,8,8,8,8,8,8,8,8,8,8,8,8,8,8,8,8,8,8,8,8,8,8,8,8,8,8,8,8,8,8,8,8,8,8,8,8,8,8,8,8,8,8,8]
def zJ:Int×Int×Int->Option (Int×Int):=λx =>bif Eo (0<=x.1)&&Eo (0<=x.2.1)&&(Eo (x.2.2=0)||Eo (x.2.2=1))then Q1 ((x.1+x.2.1+x.2.2)%18446744073709551616,(x.1+x.2.1+x.2.2) / 18446744073709551616)else Ld
def xp:List Int->Option (List Int):=λx=>j6 8 [] x
def vo:List (Int×Int)->Option (List (Int×Int)):=λx=>j6 16 [] x
def EH:List (Int×Int×Int)->Option (List (Int×Int×Int)):=λx=>j6 24 [] x
def AJ:List (Int×Int)×Int->Option (List (Int×Int)):=λx=>bif Eo (x.2=2)&&Eo (x.1.length<4611686018427387904)then Q1 x.1.reverse else Ld
def AU(a:Int):List Int->List Int
 | []=>[a]
 |b::l=>bif Eo (a<=b)then a::b::l else b::AU a l
def GL:List Int->List Int
 | []=>[]
 |a::l=>AU a (GL l)
theorem Of(a:Int):∀l,(AU a l).Perm (a::l)
 | []=>.refl _
 |b::l=>by
  unfold AU;cases Eo (a<=b)with
  |true=>exact .refl _
  |false=>exact((Of a l).cons b).trans (.swap a b l)
theorem WB(a:Int):∀l:List Int,l.Pairwise (·<=·)->(AU a l).Pairwise (·<=·)
 | [],_=>by simp[AU]
 |b::l,h=>by
  unfold AU;cases hc:Eo (a<=b)with
  |true =>rw[kA]at hc;exact .cons (λx c=>by rcases aD.1 c with rfl|c;exact hc;exact Int.le_trans hc (iJ h c)) h
  |false=>
   rw[sG]at hc;refine .cons (λx c=>?_) (WB a l h.of_cons);rcases aD.1 ((Of a l).mem_iff.1 c)with rfl|c
   omega;exact iJ h c
theorem aB3(l:List Int):GL l=l.mergeSort λa b=>Eo (a<=b):=by
 have hp:(GL l).Perm l:=by
  induction l with
  |nil=>exact .refl _
  |cons a l d=>exact(Of a _).trans (d.cons a)
 have hs:(GL l).Pairwise (·<=·):=by
  clear hp
  induction l with
  |nil=>exact .nil
  |cons a l d=>exact WB a _ d
 refine List.Perm.eq_of_pairwise (le:=(·<=·)) (λa b _ _ h1 h2=>Int.le_antisymm h1 h2) hs ?_ (hp.trans (List.mergeSort_perm _ _).symm);exact(List.pairwise_mergeSort (le:=λa b:Int=>Eo (a<=b)) (λa b c h1 h2=>by simp at *;omega) (λa b=>by simp;omega) l).imp λh=>by simpa using h
def C5:List Int×Int->Option (List Int):=λx=>bif Eo (x.2=1)&&Eo (x.1.length<4611686018427387904)then Q1 (GL x.1)else Ld
def nV{α:Type}(r:α)(es:List α)(i:Nat):α:=(es[i]?).getD r
def oy{α:Type}(cf:α->α->Int):List α->List α
 | []=>[]
 |r::l=>((pdq (ltOf (λi j=>cf (nV r (r::l) i) (nV r (r::l) j))) (ba (r::l).length) 0 (r::l).length (eA (r::l).length) No No).toList).map (nV r (r::l))
def Ordered{α:Type}(cf:α->α->Int):List α->Prop
 | []=>True
 |r::l=>SWO (ltOf (λi j=>cf (nV r (r::l) i) (nV r (r::l) j)))
theorem B'{r:α}{l:List α}(i:Nat):nV r (r::l) i∈r::l:=by
 unfold nV;cases h:(r::l)[i]? with
 |none=>simp
 |some x=>exact aH h
def A6{α:Type}(cf:α->α->Int)(xs:List α):Bool :=xs.all λx=>!decide (cf x x<0)&&xs.all λy=>xs.all λz=>(!(Eo (cf x y<0)&&Eo (cf y z<0))||Eo (cf x z<0))&&(!(!decide (cf x y<0)&&!decide (cf y z<0))||!decide (cf x z<0))
theorem ay4{cf:α->α->Int}:∀ {xs:List α},A6 cf xs=No↔Ordered cf xs
 | []=>by simp[A6,Ordered]
 |r::l=>by
  have d:∀x∈r::l,∃i,nV r (r::l) i=x:=λx e=>by obtain⟨i,a7,rfl⟩:=aT e;exact⟨i,by rw[nV,af a7];rfl⟩
  constructor;intro h;simp only[A6,aj,ab]at h;refine⟨λi=>?_,λi j k a b=>?_,λi j k a b=>?_⟩;have:=(h _ (B' i)).1;simpa[ltOf]using this;have:=((h _ (B' i)).2 _ (B' j) _ (B' k)).1;simp only[ltOf]at a b⊢;rw[a,b]at this;simpa using this;have:=((h _ (B' i)).2 _ (B' j) _ (B' k)).2;simp only[ltOf]at a b⊢;rw[a,b]at this;simpa using this;intro h;simp only[A6,aj,ab];intro x e;obtain⟨i,rfl⟩:=d x e;obtain⟨s1,s2,g⟩:=h;refine⟨by have:=s1 i;simpa[ltOf]using this,λy m z hz=>?_⟩;obtain⟨j,rfl⟩:=d y m;obtain⟨k,rfl⟩:=d z hz;have h2:=s2 i j k;have f:=g i j k;simp only[ltOf]at h2 f;generalize Eo (cf (nV r (r::l) i) (nV r (r::l) j)<0)=a at *;generalize Eo (cf (nV r (r::l) j) (nV r (r::l) k)<0)=b at *;generalize Eo (cf (nV r (r::l) i) (nV r (r::l) k)<0)=c at *;revert h2 f;cases a<;>cases b<;>cases c<;>simp
def rE{α:Type}(cmp:α->α->Option Int)(xs:List α):Option (List α) :=bif (xs.all λx=>xs.all λy=>(cmp x y).isSome)&&(A6 (λx y=>(cmp x y).getD 0) xs&&Eo (xs.length<4611686018427387904))then Q1 (oy (λx y=>(cmp x y).getD 0) xs)else Ld
theorem bW0{r:List α}(h:rE cmp xs=Q1 r):((∀x∈xs,∀y∈xs,(cmp x y).isSome=No)/\Ordered (λx y=>(cmp x y).getD 0) xs/\xs.length<4611686018427387904)/\r=oy (λx y=>(cmp x y).getD 0) xs:=by
 unfold rE at h;cases hc:(xs.all λx=>xs.all λy=>(cmp x y).isSome)&&(A6 (λx y=>(cmp x y).getD 0) xs&&Eo (xs.length<4611686018427387904))with
 |false=>rw[hc]at h;cases h
 |true =>rw[hc]at h;simp only[ab,aj,kA,ay4]at hc;cases h;exact⟨hc,rfl⟩
theorem aN0(h1:∀x∈xs,∀y∈xs,(cmp x y).isSome=No)(h2:Ordered (λx y=>(cmp x y).getD 0) xs)(a:xs.length<4611686018427387904):rE cmp xs=Q1 (oy (λx y=>(cmp x y).getD 0) xs):=by
 unfold rE;have hc:((xs.all λx=>xs.all λy=>(cmp x y).isSome)&&(A6 (λx y=>(cmp x y).getD 0) xs&&Eo (xs.length<4611686018427387904)))=No:=by simp only[ab,aj,kA,ay4];exact⟨h1,h2,a⟩
 rw[hc];rfl
def strings_Contains:ByteArray×ByteArray->Option (Bool):=λx=>bif Eo (x.1.size<4294967281)then Q1 (Lib.contains x.1.data.toList x.2.data.toList)else Ld
def Vz:Option (Int×Int×Int×Int×Int×Int×Int×Int×Int×Int×Int×Int×Int×Int×Int×Int×Int×Int×Int×Int×Int×Int×Int×Int×Int×Int×Int×Int×Int×Int×Int×Int×Int×Int×Int×Int×Int×Int×Int):=Q1 (32,32,0,39,41,0,45,46,0,48,57,0,65,90,1,97,122,1,192,214,1,216,246,1,248,591,1,880,1023,2,1024,1279,3,1488,1514,4,19968,40959,5)
open Go
variable [Fuel]
def HV:mL->Option (Bool):=λx=>bif Eo ((40:Int)<x.1.length)then Q1 N2 else bif Eo ((40:Int)<x.2.1.length)then Q1 N2 else bif Eo ((80:Int)<x.2.2.length)then Q1 N2 else rounds (λd a=>bif Eo (a.2<(x.2.1.length:Int))then a8 (nth x.2.1 a.2) λb=>bif Eo ((300:Int)<b.2.2.2.1.length)then Q1 N2 else a8 (nth x.2.1 a.2) λc=>d (aa.wrap (a.1+(c.2.2.2.1.length:Int)),aa.wrap (a.2+1))else Q1 (Eo (a.1<=300))) (0,0)
def HN:qy->Option (Bool):=λx=>a8 (HV (x.1,x.2.1,x.2.2.1)) λd=>bif !d then Q1 N2 else bif Eo ((20:Int)<x.2.2.2.length)then Q1 N2 else rounds (λe c=>bif Eo (c<(x.2.2.2.length:Int))then a8 (nth x.2.2.2 c) λa=>bif Eo ((70:Int)<a.2.2.2.2.length)then Q1 N2 else a8 (nth x.2.2.2 c) λb=>bif Eo ((200:Int)<b.2.2.2.1.size)then Q1 N2 else e (aa.wrap (c+1))else Q1 No) 0
def CQ:Int×(Int×Int)->Option qy:=λx =>Q1 ([(1,0,0),(2,x.2.1,x.2.2)],[(1,1,1,[(x.1,0),(x.1,x.1),(0,x.1)],1,0)],[1],[(7,1,1,(bW #[]),[2])])
def Il:mL->Option (List Int×List Int):=λx=>rounds (λg a=>bif Eo (a.2<(x.1.length:Int))then a8 (nth x.1 a.2) λf=>a8 (j6 8 a.1 [f.1]) λb=>g (b,aa.wrap (a.2+1))else rounds (λh c=>bif Eo (c.2<(x.2.1.length:Int))then a8 (nth x.2.1 c.2) λd=>a8 (j6 8 c.1 [d.1]) λe=>h (e,aa.wrap (c.2+1))else Q1 (a.1,c.1)) ([],0)) ([],0)
def C9:List Int->Option (Bool):=λx=>rounds (λd a=>bif Eo (a<(x.length:Int))then a8 (nth x (aa.wrap (a-1))) λb=>a8 (nth x a) λc=>bif Eo (c<=b)then Q1 N2 else d (aa.wrap (a+1))else Q1 No) 1
def Ii:Int->Option (Bool):=λx=>bif Eo (x<1)then Q1 No else Q1 (Eo (1073741824<x))
def G9:List Int×(Unit)->Option (Bool):=λx=>rounds (λd a=>bif Eo (a<(x.1.length:Int))then a8 (nth x.1 a) λb=>a8 (Ii b) λc=>bif c then Q1 (Eo (0<=a))else d (aa.wrap (a+1))else Q1 N2) 0
def C7:List Int->Option (Bool):=λx=>a8 (G9 (x,())) λa=>Q1 (!a)
def C8:(Int×Int)->Option (Bool):=λx=>bif Eo (x.1<(-1048576))then Q1 No else bif Eo (1048576<x.1)then Q1 No else bif Eo (x.2<(-1048576))then Q1 No else Q1 (Eo (1048576<x.2))
def G5:ny×(Unit)->Option (Bool):=λx=>rounds (λd a=>bif Eo (a<(x.1.length:Int))then a8 (nth x.1 a) λb=>a8 (C8 b) λc=>bif c then Q1 (Eo (0<=a))else d (aa.wrap (a+1))else Q1 N2) 0
def IM:mL->Option (Bool):=λx=>rounds (λg d=>bif Eo (d<(x.1.length:Int))then a8 (nth x.1 d) λe=>a8 (C8 e.2) λa=>bif a then Q1 N2 else g (aa.wrap (d+1))else rounds (λh f=>bif Eo (f<(x.2.1.length:Int))then a8 (nth x.2.1 f) λb=>a8 (G5 (b.2.2.2.1,())) λc=>bif c then Q1 N2 else h (aa.wrap (f+1))else Q1 No) 0) 0
def E0:List Int×Int->Option (Int):=λx=>rounds (λc a=>bif Eo (a<(x.1.length:Int))then a8 (nth x.1 a) λb=>bif Eo (x.2=b)then Q1 a else c (aa.wrap (a+1))else Q1 (-1)) 0
def wo:List Int×Int->Option (Bool):=λx=>a8 (E0 x) λa=>Q1 (Eo (0<=a))
def Is:mL×List Int->Option (Int):=λx=>rounds (λn k=>bif Eo (k<(x.1.1.length:Int))then a8 (nth x.1.1 k) λf=>a8 (tx x.1.1 Ld (Q1 k)) λd=>rounds (λc b=>bif Eo (b<(d.length:Int))then a8 (nth d b) λa=>bif Eo (f.2.1=a.2.1)&&Eo (f.2.2=a.2.2)then Q1 8 else c (aa.wrap (b+1))else n (aa.wrap (k+1))) 0 else rounds (λo l=>bif Eo (l<(x.1.2.1.length:Int))then a8 (nth x.1.2.1 l) λe=>a8 (wo (x.2,e.2.1)) λg=>bif !g then Q1 7 else a8 (wo (x.2,e.2.2.1)) λh=>bif !h then Q1 7 else o (aa.wrap (l+1))else rounds (λc b=>bif Eo (b<(x.1.2.1.length:Int))then a8 (nth x.1.2.1 b) λa=>let m:=(bif !decide (a.2.2.2.2.2=0)then a8 (wo (x.1.2.2,a.2.2.2.2.2)) λi=>bif !i then Q1 12 else c (aa.wrap (b+1))else c (aa.wrap (b+1))); bif !decide (a.2.2.2.2.1=0)then a8 (wo (x.1.2.2,a.2.2.2.2.1)) λj=>bif !j then Q1 12 else(m)else(m)else Q1 0) 0) 0) 0
def BP:mL×Int->Option (zB×Bool):=λx=>rounds (λd c=>bif Eo (c<(x.1.2.1.length:Int))then a8 (nth x.1.2.1 c) λa=>bif Eo (a.1=x.2)then a8 (vo a.2.2.2.1) λb=>Q1 ((a.1,a.2.1,a.2.2.1,b,a.2.2.2.2.1,a.2.2.2.2.2),No)else d (aa.wrap (c+1))else Q1 ((0,0,0,[],0,0),N2)) 0
def xt:mL×Int->Option ((Int×Int×Int)×Bool):=λx=>rounds (λc b=>bif Eo (b<(x.1.1.length:Int))then a8 (nth x.1.1 b) λa=>bif Eo (a.1=x.2)then Q1 (a,No)else c (aa.wrap (b+1))else Q1 ((0,0,0),N2)) 0
def wE:mL×Int->Option (ny×Int):=λx=>a8 (BP x) λa=>a8 (xt (x.1,a.1.2.1)) λb=>a8 (xt (x.1,a.1.2.2.1)) λc=>bif !(a.2)then Q1 ([],7)else bif !(b.2)then Q1 ([],7)else bif !(c.2)then Q1 ([],7)else a8 (Q1 (aa.wrap (1+(a.1.2.2.2.1.length:Int)))) λf=>bif Eo (f<0)then Ld else a8 (Q1 (aa.wrap (f+1))) λd=>bif Eo (d<0)then Ld else bif Eo (d<0)then Ld else a8 (Q1 (aa.wrap (d-0))) λg=>bif Eo (0<g)then a8 (GZ 16 ((0,0):Int×Int) g) λh=>a8 (j6 16 [] [b.1.2]) λe=>a8 (j6 16 e a.1.2.2.2.1) λi=>a8 (j6 16 i [c.1.2]) λj=>Q1 (j,0)else a8 (j6 16 [b.1.2] a.1.2.2.2.1) λh=>a8 (j6 16 h [c.1.2]) λe=>Q1 (e,0)
def uh:((Int×Int×Int×ny×Int×Int×ny)×Int)->Option ((Int×Int)×(Int×Int)):=λx=>a8 (Q1 x.1) λc=>a8 (nth c.2.2.2.2.2.2 x.2) λd=>a8 (Q1 x.1) λa=>a8 (nth a.2.2.2.2.2.2 (aa.wrap (x.2+1))) λb=>Q1 (d,b)
def yj:((Int×Int×Int×ny×Int×Int×ny)×Int)->Option (Int):=λx=>a8 (uh x) λa=>Q1 (bK w6 a.1.1 [a.2.1])
def Ey:Int->Option (Bool):=λx =>Q1 (!decide (x=x))
def CG:Int×Int->Option (Int):=λx=>a8 (Ey x.1) λb=>a8 (Ey x.2) λa=>bif b then bif a then Q1 0 else Q1 (-1)else bif a then Q1 1 else bif Eo (x.1<x.2)then Q1 (-1)else bif Eo (x.2<x.1)then Q1 1 else Q1 0
def Iw:((Int×Int×Int×ny×Int×Int×ny)×Int)×((Int×Int×Int×ny×Int×Int×ny)×Int)->Option (Int):=λx=>a8 (yj x.1) λa=>a8 (yj x.2) λb=>a8 (CG (a,b)) λc=>Q1 c
def G8:List ((Int×Int×Int×ny×Int×Int×ny)×Int)×Int×(Unit)->Option (List ((Int×Int×Int×ny×Int×Int×ny)×Int)):=λx=>bif Eo (x.2.1=2)then rE (λa b=>Iw (a,b)) x.1 else Ld
def EY:((Int×Int×Int×ny×Int×Int×ny)×Int)->Option (Int):=λx=>a8 (uh x) λa=>Q1 (bK qG a.1.1 [a.2.1])
def vJ:ny->Option (Bool):=λx=>rounds (λc b=>bif Eo (b<(x.length:Int))then a8 (nth x b) λa=>bif Eo (a.1<(-2097152))then Q1 N2 else bif Eo (2097152<a.1)then Q1 N2 else bif Eo (a.2<(-2097152))then Q1 N2 else bif Eo (2097152<a.2)then Q1 N2 else c (aa.wrap (b+1))else Q1 No) 0
def xy:(Int×Int)×(Int×Int)×(Int×Int)->Option (Int):=λx =>Q1 (aa.wrap ((aa.wrap ((aa.wrap (x.2.1.1-x.1.1))*(aa.wrap (x.2.2.2-x.1.2))))-(aa.wrap ((aa.wrap (x.2.1.2-x.1.2))*(aa.wrap (x.2.2.1-x.1.1))))))
def qV:(Int×Int)×(Int×Int)×(Int×Int)->Option (Bool):=λx=>a8 (vJ [x.1,x.2.1,x.2.2]) λa=>bif !a then Q1 N2 else a8 (xy x) λb=>bif !decide (b=0)then Q1 N2 else bif Eo ((bK w6 x.1.1 [x.2.1.1])<=x.2.2.1)then bif Eo (x.2.2.1<=(bK qG x.1.1 [x.2.1.1]))then bif Eo ((bK w6 x.1.2 [x.2.1.2])<=x.2.2.2)then Q1 (Eo (x.2.2.2<=(bK qG x.1.2 [x.2.1.2])))else Q1 N2 else Q1 N2 else Q1 N2
def yd:((Int×Int×Int×ny×Int×Int×ny)×Int)->Option (Bool):=λx =>Q1 (Eo (x.2=0))
def wq:((Int×Int×Int×ny×Int×Int×ny)×Int)->Option (Bool):=λx=>a8 (Q1 x.1) λa=>Q1 (Eo (x.2=(aa.wrap ((a.2.2.2.2.2.2.length:Int)-2))))
def IZ:(Int×Int)×(Int×Int)×(Int×Int)->Option (Int):=λx=>a8 (vJ [x.1,x.2.1,x.2.2]) λa=>bif !a then Q1 0 else a8 (xy x) λb=>Q1 b
def qR:(Int×Int)×(Int×Int)×(Int×Int)->Option (Int):=λx=>a8 (IZ x) λa=>bif Eo (0<a)then Q1 1 else bif Eo (a<0)then Q1 (-1)else Q1 0
def pb:(Int×Int)×(Int×Int)->Option (Bool):=λx=>bif Eo (x.1.1<x.2.1)then Q1 No else bif Eo (x.1.1=x.2.1)then Q1 (Eo (x.1.2<x.2.2))else Q1 N2
def Fx:(Int×Int)×(Int×Int)×(Int×Int)×(Int×Int)->Option (Int):=λx=>a8 (pb (x.2.1,x.1)) λe=>let f:=(bif Eo (x.2.2.1.1=x.2.2.2.1)&&Eo (x.2.2.1.2=x.2.2.2.2)then Q1 1 else a8 (pb x.2.2) λa=>bif a then Q1 2 else Q1 0); let g:=(bif Eo (x.2.2.2.1=x.2.2.1.1)&&Eo (x.2.2.2.2=x.2.2.1.2)then Q1 1 else a8 (pb (x.2.2.2,x.2.2.1)) λa=>bif a then Q1 2 else Q1 0); bif e then a8 (pb (x.2.2.2,x.2.2.1)) λd=>let h:=(bif Eo (x.2.1.1=x.1.1)&&Eo (x.2.1.2=x.1.2)then Q1 1 else a8 (pb (x.2.1,x.1)) λa=>bif a then Q1 2 else Q1 0); bif d then a8 (pb (x.2.1,x.2.2.2)) λc=>bif c then a8 (pb (x.2.2.1,x.1)) λb=>bif b then(g)else bif Eo (x.2.2.2.1=x.1.1)&&Eo (x.2.2.2.2=x.1.2)then Q1 1 else a8 (pb (x.2.2.2,x.1)) λa=>bif a then Q1 2 else Q1 0 else a8 (pb (x.2.2.1,x.1)) λb=>bif b then bif Eo (x.2.1.1=x.2.2.1.1)&&Eo (x.2.1.2=x.2.2.1.2)then Q1 1 else a8 (pb (x.2.1,x.2.2.1)) λa=>bif a then Q1 2 else Q1 0 else(h)else a8 (pb (x.2.1,x.2.2.1)) λc=>bif c then a8 (pb (x.2.2.2,x.1)) λb=>bif b then(f)else bif Eo (x.2.2.1.1=x.1.1)&&Eo (x.2.2.1.2=x.1.2)then Q1 1 else a8 (pb (x.2.2.1,x.1)) λa=>bif a then Q1 2 else Q1 0 else a8 (pb (x.2.2.2,x.1)) λb=>bif b then bif Eo (x.2.1.1=x.2.2.2.1)&&Eo (x.2.1.2=x.2.2.2.2)then Q1 1 else a8 (pb (x.2.1,x.2.2.2)) λa=>
 bif a then Q1 2 else Q1 0 else(h)else a8 (pb (x.2.2.2,x.2.2.1)) λd=>let i:=(bif Eo (x.1.1=x.2.1.1)&&Eo (x.1.2=x.2.1.2)then Q1 1 else a8 (pb (x.1,x.2.1)) λa=>bif a then Q1 2 else Q1 0); bif d then a8 (pb (x.1,x.2.2.2)) λc=>bif c then a8 (pb (x.2.2.1,x.2.1)) λb=>bif b then(g)else bif Eo (x.2.2.2.1=x.2.1.1)&&Eo (x.2.2.2.2=x.2.1.2)then Q1 1 else a8 (pb (x.2.2.2,x.2.1)) λa=>bif a then Q1 2 else Q1 0 else a8 (pb (x.2.2.1,x.2.1)) λb=>bif b then bif Eo (x.1.1=x.2.2.1.1)&&Eo (x.1.2=x.2.2.1.2)then Q1 1 else a8 (pb (x.1,x.2.2.1)) λa=>bif a then Q1 2 else Q1 0 else(i)else a8 (pb (x.1,x.2.2.1)) λc=>bif c then a8 (pb (x.2.2.2,x.2.1)) λb=>bif b then(f)else bif Eo (x.2.2.1.1=x.2.1.1)&&Eo (x.2.2.1.2=x.2.1.2)then Q1 1 else a8 (pb (x.2.2.1,x.2.1)) λa=>bif a then Q1 2 else Q1 0 else a8 (pb (x.2.2.2,x.2.1)) λb=>bif b then bif Eo (x.1.1=x.2.2.2.1)&&Eo (x.1.2=x.2.2.2.2)then Q1 1 else a8 (pb (x.1,x.2.2.2)) λa=>bif a then Q1 2 else Q1 0 else(i)
def FQ:(Int×Int)×(Int×Int)×(Int×Int)×(Int×Int)->Option (Int):=λx=>a8 (vJ [x.1,x.2.1,x.2.2.1,x.2.2.2]) λh=>bif !h then Q1 0 else bif Eo (x.1.1=x.2.1.1)&&Eo (x.1.2=x.2.1.2)then a8 (qV (x.2.2.1,x.2.2.2,x.1)) λc=>bif c then Q1 1 else Q1 0 else bif Eo (x.2.2.1.1=x.2.2.2.1)&&Eo (x.2.2.1.2=x.2.2.2.2)then a8 (qV (x.1,x.2.1,x.2.2.1)) λa=>bif a then Q1 1 else Q1 0 else a8 (qR (x.1,x.2.1,x.2.2.1)) λa=>let i:=(a8 (qR (x.1,x.2.1,x.2.2.1)) λb=>a8 (qR (x.1,x.2.1,x.2.2.2)) λd=>bif Eo ((aa.wrap (b*d))<=0)then a8 (qR (x.2.2.1,x.2.2.2,x.1)) λe=>a8 (qR (x.2.2.1,x.2.2.2,x.2.1)) λf=>bif Eo ((aa.wrap (e*f))<=0)then Q1 1 else Q1 0 else Q1 0); bif Eo (a=0)then a8 (qR (x.1,x.2.1,x.2.2.2)) λg=>bif Eo (g=0)then a8 (Fx x) λb=>Q1 b else(i)else(i)
def E_:((Int×Int×Int×ny×Int×Int×ny)×Int)×((Int×Int×Int×ny×Int×Int×ny)×Int)×List (Int×(Int×Int))->Option (Bool):=λx=>a8 (uh x.1) λd=>a8 (uh x.2.1) λe=>a8 (FQ (d.1,d.2,e.1,e.2)) λc=>a8 (Q1 x.1.1) λp=>a8 (Q1 x.2.1.1) λq=>bif Eo (p.1=q.1)then bif Eo (x.2.1.2<x.1.2)then bif Eo ((aa.wrap (x.2.1.2+1))=x.1.2)then Q1 (Eo (c=1))else a8 (Q1 x.2.1.1) λf=>a8 (Q1 x.2.1.1) λg=>bif Eo (f.2.1=g.2.2.1)then a8 (yd x.2.1) λh=>bif h then a8 (wq x.1) λi=>bif i then Q1 (Eo (c=1))else Q1 (Eo (c=0))else Q1 (Eo (c=0))else Q1 (Eo (c=0))else bif Eo ((aa.wrap (x.1.2+1))=x.2.1.2)then Q1 (Eo (c=1))else a8 (Q1 x.1.1) λf=>a8 (Q1 x.1.1) λg=>bif Eo (f.2.1=g.2.2.1)then a8 (yd x.1) λh=>bif h then a8 (wq x.2.1) λi=>bif i then Q1 (Eo (c=1))else Q1 (Eo (c=0))else Q1 (Eo (c=0))else Q1 (Eo (c=0))else bif !decide (c=1)then Q1 (Eo (c=0))else a8 (Q1 x.1.1) λj=>a8 (Q1 x.1.1) λk=>a8 (oD (fh (λ(a b:Int)=>Eo (a=b)) j.2.1 x.2.2) (Q1 (0,0))) λn=>a8 (Q1 x.2.1.1) λr=>let v:=(a8 (oD (fh (λ(a b:Int)=>Eo (a=b)) k.2.2.1 x.2.2) (Q1 (0,0))) λo=>a8 (Q1 x.2.1.1) λs=>let w:=(a8 (qV (d.1,d.2,o)) λl=>bif l then a8 (qV (e.1,e.2,o)) λt=>
 bif t then Q1 No else Q1 N2 else Q1 N2); bif Eo (k.2.2.1=s.2.1)then(w)else a8 (Q1 x.2.1.1) λl=>bif Eo (k.2.2.1=l.2.2.1)then(w)else Q1 N2); let z:=(a8 (qV (d.1,d.2,n)) λm=>bif m then a8 (qV (e.1,e.2,n)) λu=>bif u then Q1 No else(v)else(v)); bif Eo (j.2.1=r.2.1)then(z)else a8 (Q1 x.2.1.1) λm=>bif Eo (j.2.1=m.2.2.1)then(z)else(v)
def II:mL->Option (Bool):=λx=>rounds (λK q=>bif Eo (q.2<(x.2.1.length:Int))then a8 (nth x.2.1 q.2) λf=>a8 (wE (x,f.1)) λd=>bif !decide (d.2=0)then Q1 N2 else(let H:=(rounds (λD h=>bif Eo (h.2<(aa.wrap ((d.1.length:Int)-1)))then a8 (nth d.1 h.2) λg=>a8 (nth d.1 (aa.wrap (h.2+1))) λi=>bif Eo (g.1=i.1)&&Eo (g.2=i.2)then Q1 N2 else a8 (j6 16 h.1 [((f.1,f.2.1,f.2.2.1,f.2.2.2.1,f.2.2.2.2.1,f.2.2.2.2.2,d.1),h.2)]) λr=>D (r,aa.wrap (h.2+1))else K (h.1,aa.wrap (q.2+1))) (q.1,0)); bif Eo (f.2.1=f.2.2.1)then bif Eo ((d.1.length:Int)<4)then Q1 N2 else(H)else(H))else rounds (λM s=>bif Eo (s.1<(x.1.length:Int))then a8 (nth x.1 s.1) λe=>M (aa.wrap (s.1+1),(mI (λ(a b:Int)=>Eo (a=b)) e.1 e.2 s.2))else a8 (G8 (q.1,2,())) λe=>rounds (λE l=>bif Eo (l<(e.length:Int))then a8 (nth e l) λc=>a8 (tx e (Q1 (aa.wrap (l+1))) Ld) λm=>rounds (λG o=>let I:=(rounds (λp j=>bif Eo (j<(x.1.length:Int))then a8 (nth x.1 j) λk=>a8 (uh c) λn=>a8 (qV (n.1,n.2,k.2)) λt=>bif t then a8 (yd c) λu=>let J:=(a8 (wq c) λv=>bif v then a8 (Q1 c.1) λw=>
 bif !(Eo (w.2.2.1=k.1))then Q1 N2 else p (aa.wrap (j+1))else Q1 N2); bif u then a8 (Q1 c.1) λz=>bif !(Eo (z.2.1=k.1))then(J)else p (aa.wrap (j+1))else(J)else p (aa.wrap (j+1))else E (aa.wrap (l+1))) 0); bif Eo (o<(m.length:Int))then a8 (nth m o) λg=>a8 (yj g) λB=>a8 (EY c) λi=>bif Eo (i<B)then(I)else a8 (E_ (c,g,s.2)) λC=>bif !C then Q1 N2 else G (aa.wrap (o+1))else(I)) 0 else Q1 No) 0) (0,[])) ([],0)
def IV:mL->Option (Int):=λx=>bif Eo ((256:Int)<x.1.length)then Q1 3 else bif Eo ((256:Int)<x.2.1.length)then Q1 3 else bif Eo ((64:Int)<x.2.2.length)then Q1 3 else rounds (λl c=>bif Eo (c<(x.2.1.length:Int))then a8 (nth x.2.1 c) λa=>bif Eo ((64:Int)<a.2.2.2.1.length)then Q1 3 else l (aa.wrap (c+1))else a8 (Il x) λa=>a8 (C9 a.1) λd=>bif !d then Q1 10 else a8 (C9 a.2) λe=>bif !e then Q1 10 else a8 (C9 x.2.2) λf=>bif !f then Q1 10 else a8 (C7 a.1) λg=>bif !g then Q1 2 else a8 (C7 a.2) λh=>bif !h then Q1 2 else a8 (C7 x.2.2) λi=>bif !i then Q1 2 else a8 (IM x) λj=>bif !j then Q1 2 else a8 (Is (x,a.1)) λb=>bif !decide (b=0)then Q1 b else a8 (II x) λk=>bif !k then Q1 11 else Q1 0) 0
def Bn:(Int×Int)×(Int×Int)->Option (Bool):=λx=>bif Eo (x.2.2<x.1.2)then Q1 No else bif Eo (x.2.2=x.1.2)then Q1 (Eo (x.2.1<x.1.1))else Q1 N2
def BC:(Int×Int)×(Int×Int)×(Int×Int)->Option (Bool):=λx=>a8 (vJ [x.1,x.2.1,x.2.2]) λd=>bif !d then Q1 N2 else bif Eo (x.2.1.1=x.1.1)&&Eo (x.2.1.2=x.1.2)then Q1 N2 else bif Eo (x.2.2.1=x.1.1)&&Eo (x.2.2.2=x.1.2)then Q1 N2 else a8 (Bn (x.1,x.2.1)) λb=>a8 (Bn (x.1,x.2.2)) λc=>bif !(b==c)then a8 (Bn (x.1,x.2.2)) λa=>Q1 a else a8 (xy x) λa=>Q1 (Eo (0<a))
def Bf:Int×Int×(Int×Int×Int)×(List (Int×(Int×Int)))->Option (Int):=λx=>a8 (oD (fh (λ(a b:Int)=>Eo (a=b)) x.1 x.2.2.2) (Q1 (0,0))) λg=>a8 (oD (fh (λ(a b:Int)=>Eo (a=b)) x.2.1 x.2.2.2) (Q1 (0,0))) λh=>a8 (BC (x.2.2.1.2,g,h)) λc=>bif c then Q1 (-1)else a8 (oD (fh (λ(a b:Int)=>Eo (a=b)) x.2.1 x.2.2.2) (Q1 (0,0))) λd=>a8 (oD (fh (λ(a b:Int)=>Eo (a=b)) x.1 x.2.2.2) (Q1 (0,0))) λe=>a8 (BC (x.2.2.1.2,d,e)) λf=>bif f then Q1 1 else Q1 0
def L5:List Int×Int×((Int×Int×Int)×(List (Int×(Int×Int))))->Option (List Int):=λx=>bif Eo (x.2.1=1)then rE (λa b=>Bf (a,b,x.2.2.1,x.2.2.2)) x.1 else Ld
def Fp:mL×Int->Option (List Int):=λx=>a8 (xt x) λi=>bif !(i.2)then Q1 []else rounds (λf d=>bif Eo (d.1<(x.1.2.1.length:Int))then a8 (nth x.1.2.1 d.1) λc=>let o:=(a8 (wE (x.1,c.1)) λe=>bif !decide (e.2=0)then f (aa.wrap (d.1+1),d.2.1,d.2.2)else bif Eo (c.2.1=x.2)then a8 (nth e.1 1) λj=>a8 (j6 8 d.2.1 [c.1]) λg=>a8 (Q1 (mI (λ(a b:Int)=>Eo (a=b)) c.1 j d.2.2)) λh=>bif Eo (c.2.2.1=x.2)then a8 (nth e.1 (aa.wrap ((e.1.length:Int)-2))) λk=>a8 (j6 8 g [aa.wrap (0-c.1)]) λl=>f (aa.wrap (d.1+1),l,(mI (λ(a b:Int)=>Eo (a=b)) (aa.wrap (0-c.1)) k h))else f (aa.wrap (d.1+1),g,h)else bif Eo (c.2.2.1=x.2)then a8 (nth e.1 (aa.wrap ((e.1.length:Int)-2))) λm=>a8 (j6 8 d.2.1 [aa.wrap (0-c.1)]) λn=>f (aa.wrap (d.1+1),n,(mI (λ(a b:Int)=>Eo (a=b)) (aa.wrap (0-c.1)) m d.2.2))else f (aa.wrap (d.1+1),d.2.1,d.2.2)); bif !decide (c.2.1=x.2)then bif !decide (c.2.2.1=x.2)then f (aa.wrap (d.1+1),d.2.1,d.2.2)else(o)else(o)else a8 (L5 (d.2.1,1,(i.1,d.2.2))) λc=>Q1 c) (0,[],[])
def Fb:List Int×Int->Option (Int):=λx=>a8 (E0 x) λa=>bif Eo (a<0)then Q1 0 else a8 (bif Eo ((x.1.length:Int)=0)then Ld else Q1 ((aa.wrap ((aa.wrap (a+(x.1.length:Int)))-1)).tmod (x.1.length:Int))) λb=>a8 (nth x.1 b) λc=>Q1 c
def Bm:mL->Option (List (List Int)×Int):=λx=>a8 (IV x) λk=>bif !decide (k=0)then Q1 ([],k)else rounds (α:=List (Int)×Int×List (Int×Int)) (λv j=>bif Eo (j.2.1<x.1.length)then a8 (nth x.1 j.2.1) λe=>a8 (Fp (x,e.1)) λg=>rounds (α:=List (Int)×Int×List (Int×Int)) (λt f=>bif Eo (f.2.1<g.length)then a8 (nth g f.2.1) λh=>a8 (j6 8 f.1 [h]) λl=>a8 (Fb (g,h)) λm=>t (l,aa.wrap (f.2.1+1),(mI (λ(a b:Int)=>Eo (a=b)) (aa.wrap (0-h)) m f.2.2))else v (f.1,aa.wrap (j.2.1+1),f.2.2)) (j.1,0,j.2.2)else a8 (C5 (j.1,1)) λe=>rounds (α:=Int×List (List (Int))×List (Int×Bool)) (λn c=>bif Eo (c.1<e.length)then a8 (bif Eo (0<=c.1)&&Eo (c.1<e.length)then Q1 ()else Ld) λi=>a8 ((e[c.1.toNat]?).map (λx=>x)) λi=>a8 (oD (fh (λ(a b:Int)=>Eo (a=b)) i c.2.2) (Q1 N2)) λo=>bif !o then rounds (α:=Int×List (Int)×List (Int×Bool)) (λu d=>a8 (oD (fh (λ(a b:Int)=>Eo (a=b)) d.1 d.2.2) (Q1 N2)) λp=>bif !p then a8 (j6 8 d.2.1 [d.1]) λq=>a8 (oD (fh (λ(a b:Int)=>Eo (a=b)) d.1 j.2.2) (Q1 0)) λr=>u (r,q,(mI (λ(a b:Int)=>Eo (a=b)) d.1 No d.2.2))else a8 (j6 24 c.2.1 [d.2.1]) λs=>
 n (aa.wrap (c.1+1),s,d.2.2)) (i,[],c.2.2)else n (aa.wrap (c.1+1),c.2.1,c.2.2)else Q1 (c.2.1,0)) (0,[],[])) ([],0,[])
def E4:mL->Option (Ml):=λx=>rounds (λf d=>bif Eo (d.1<(x.2.1.length:Int))then a8 (nth x.2.1 d.1) λe=>a8 (wE (x,e.1)) λc=>bif Eo (c.2=0)then f (aa.wrap (d.1+1),(mI (λ(a b:Int)=>Eo (a=b)) e.1 c.1 d.2))else f (aa.wrap (d.1+1),d.2)else Q1 d.2) (0,[])
def FA:mL×Int->Option (zB×Bool):=λx=>bif Eo (x.2=0)then Q1 ((0,0,0,[],0,0),N2)else bif Eo (x.2=(-9223372036854775808))then Q1 ((0,0,0,[],0,0),N2)else a8 (BP (x.1,(bK qG x.2 [aa.wrap (0-x.2)]))) λa=>Q1 a
def Bs:mL×List Int->Option (Int):=λx=>bif Eo ((512:Int)<x.2.length)then Q1 0 else rounds (λk d=>bif Eo (d.2<(x.2.length:Int))then a8 (nth x.2 d.2) λc=>a8 (FA (x.1,c)) λe=>bif !(e.2)then Q1 0 else a8 (wE (x.1,(bK qG c [aa.wrap (0-c)]))) λa=>bif !decide (a.2=0)then Q1 0 else rounds (λj b=>bif Eo (b.2<(aa.wrap ((a.1.length:Int)-1)))then a8 (nth a.1 b.2) λf=>a8 (nth a.1 (aa.wrap (b.2+1))) λg=>a8 (nth a.1 (aa.wrap (b.2+1))) λh=>a8 (nth a.1 b.2) λi=>j (aa.wrap (b.1+(aa.wrap ((aa.wrap (f.1*g.2))-(aa.wrap (h.1*i.2))))),aa.wrap (b.2+1))else bif Eo (c<0)then k (aa.wrap (d.1+(aa.wrap (0-b.1))),aa.wrap (d.2+1))else k (aa.wrap (d.1+b.1),aa.wrap (d.2+1))) (0,0)else Q1 d.1) (0,0)
def AK:Ml×List Int×(Int×Int)->Option (Bool):=λx=>rounds (λn i=>bif Eo (i.1<(x.2.1.length:Int))then a8 (nth x.2.1 i.1) λh=>a8 (oD (fh (λ(a b:Int)=>Eo (a=b)) (bK qG h [aa.wrap (0-h)]) x.1) Ld) λg=>rounds (λf c=>bif Eo (c.1<(g.length:Int))then a8 (nth g (aa.wrap (c.1-1))) λd=>a8 (nth g c.1) λe=>a8 (qV (d,e,x.2.2)) λj=>bif j then f (aa.wrap (c.1+1),c.2.1,No)else(let m:=(bif Eo (e.2<=x.2.2.2)then bif Eo (x.2.2.2<d.2)then a8 (qR (d,e,x.2.2)) λk=>bif Eo (k<0)then f (aa.wrap (c.1+1),(!(c.2.1)),c.2.2)else f (aa.wrap (c.1+1),c.2.1,c.2.2)else f (aa.wrap (c.1+1),c.2.1,c.2.2)else f (aa.wrap (c.1+1),c.2.1,c.2.2)); bif Eo (d.2<=x.2.2.2)then bif Eo (x.2.2.2<e.2)then a8 (qR (d,e,x.2.2)) λl=>bif Eo (0<l)then f (aa.wrap (c.1+1),(!(c.2.1)),c.2.2)else(m)else(m)else(m))else n (aa.wrap (i.1+1),c.2.2,c.2.1)) (1,i.2.2,i.2.1)else bif i.2.2 then Q1 (!(i.2.1))else Q1 N2) (0,N2,N2)
def Df:mL×Int->Option (Int):=λx=>rounds (λd a=>bif Eo (a.1<(x.1.2.1.length:Int))then a8 (nth x.1.2.1 a.1) λc=>bif Eo (c.2.1=x.2)then a8 (Q1 (aa.wrap (a.2+1))) λb=>bif Eo (c.2.2.1=x.2)then d (aa.wrap (a.1+1),aa.wrap (b+1))else d (aa.wrap (a.1+1),b)else bif Eo (c.2.2.1=x.2)then d (aa.wrap (a.1+1),aa.wrap (a.2+1))else d (aa.wrap (a.1+1),a.2)else Q1 a.2) (0,0)
def Be:mL×List (List Int)×Ml->Option (List wC):=λx=>rounds (α:=List (List (Int))×Int×Bool×List (Int×List (Int)×Unit×Unit)) (λC n=>bif Eo (n.2.1<x.2.1.length)then a8 (nth x.2.1 n.2.1) λk=>a8 (Bs (x.1,k)) λp=>bif Eo (0<p)then a8 (j6 80 n.2.2.2 [(p,k,(),())]) λo=>C (n.1,aa.wrap (n.2.1+1),N2,o)else a8 (j6 24 n.1 [k]) λo=>C (o,aa.wrap (n.2.1+1),N2,n.2.2.2)else a8 (zs (λx=>(x.1,x.2.1,[],[])) n.2.2.2) λk=>rounds (α:=Int×List (Int×List (Int)×List (List (Int))×List (Int))) (λB e=>bif Eo (e.1<n.1.length)then a8 (bif Eo (0<=e.1)&&Eo (e.1<n.1.length)then Q1 ()else Ld) λm=>a8 ((n.1[e.1.toNat]?).map (λx=>x)) λm=>a8 (nth m 0) λs=>a8 (nth m 0) λt=>a8 (oD (fh (λ(a b:Int)=>Eo (a=b)) (bK qG s [aa.wrap (0-t)]) x.2.2) Ld) λl=>a8 (nth l 0) λu=>rounds (α:=Int×Int) (λq c=>bif Eo (c.1<e.2.length)then(let D:=(a8 (bif Eo (0<=c.1)&&Eo (c.1<e.2.length)then Q1 ()else Ld) λh=>a8 ((e.2[c.1.toNat]?).map (λx=>x.2.1)) λh=>a8 (AK (x.2.2,h,u)) λg=>bif g then q (aa.wrap (c.1+1),c.1)else q (aa.wrap (c.1+1),c.2)); bif Eo (c.2=0)then(D)else a8 (bif Eo (0<=c.1)&&Eo (c.1<e.2.length)then Q1 ()else Ld) λh=>a8 ((e.2[c.1.toNat]?).map (λx=>
 x.1)) λh=>a8 (bif Eo (0<=c.2)&&Eo (c.2<e.2.length)then Q1 ()else Ld) λg=>a8 ((e.2[c.2.toNat]?).map (λx=>x.1)) λg=>bif Eo (h<g)then(D)else q (aa.wrap (c.1+1),c.2))else a8 ((e.2[c.2.toNat]?).map (λx=>x.2.2.1)) λv=>a8 (bif Eo (0<=c.2)&&Eo (c.2<e.2.length)then Q1 ()else Ld) λh=>a8 (uM e.2 c.2) λh=>a8 (j6 24 v [m]) λh=>a8 (bif Eo (0<=c.2)&&Eo (c.2<e.2.length)then Q1 ()else Ld) λg=>a8 (uM e.2 c.2) λg=>a8 (qI e.2 c.2.toNat (λx y=>(x.1,x.2.1,y,x.2.2.2)) h) λg=>B (aa.wrap (e.1+1),g)) (1,0)else rounds (α:=Int×List (Int×List (Int)×List (List (Int))×List (Int))) (λw f=>bif Eo (f.1<x.1.1.length)then a8 (nth x.1.1 f.1) λl=>a8 (Df (x.1,l.1)) λz=>bif Eo (z=0)then rounds (α:=Int×Int) (λr d=>bif Eo (d.1<f.2.length)then(let E:=(a8 (bif Eo (0<=d.1)&&Eo (d.1<f.2.length)then Q1 ()else Ld) λi=>a8 ((f.2[d.1.toNat]?).map (λx=>x.2.1)) λi=>a8 (AK (x.2.2,i,l.2)) λj=>bif j then r (aa.wrap (d.1+1),d.1)else r (aa.wrap (d.1+1),d.2)); bif Eo (d.2=0)then(E)else a8 (bif Eo (0<=d.1)&&Eo (d.1<f.2.length)then Q1 ()else Ld) λi=>a8 ((f.2[d.1.toNat]?).map (λx=>x.1)) λi=>
 a8 (bif Eo (0<=d.2)&&Eo (d.2<f.2.length)then Q1 ()else Ld) λj=>a8 ((f.2[d.2.toNat]?).map (λx=>x.1)) λj=>bif Eo (i<j)then(E)else r (aa.wrap (d.1+1),d.2))else a8 ((f.2[d.2.toNat]?).map (λx=>x.2.2.2)) λg=>a8 (bif Eo (0<=d.2)&&Eo (d.2<f.2.length)then Q1 ()else Ld) λi=>a8 (uM f.2 d.2) λi=>a8 (j6 8 g [l.1]) λi=>a8 (bif Eo (0<=d.2)&&Eo (d.2<f.2.length)then Q1 ()else Ld) λj=>a8 (uM f.2 d.2) λj=>a8 (qI f.2 d.2.toNat (λx y=>(x.1,x.2.1,x.2.2.1,y)) i) λj=>w (aa.wrap (f.1+1),j)) (1,0)else w (aa.wrap (f.1+1),f.2)else Q1 f.2) (0,e.2)) (0,k)) ([],0,N2,[(0,[],(),())])
def Bu:mL×Int->Option (Int):=λx=>a8 (FA x) λa=>bif !(a.2)then Q1 0 else bif Eo (0<x.2)then Q1 a.1.2.2.2.2.1 else Q1 a.1.2.2.2.2.2
def CZ:wC->Option (List (List Int)):=λx=>a8 (j6 24 [x.2.1] x.2.2.1) λa=>Q1 a
def Fg:mL×List wC->Option (List Int×Bool):=λx=>rounds (λs h=>bif Eo (h.2.1<(x.2.length:Int))then a8 (nth x.2 h.2.1) λi=>bif Eo (0<h.2.1)then a8 (nth i.2.1 0) λg=>a8 (Bu (x.1,g)) λe=>bif Eo (e=0)then Q1 ([],N2)else a8 (oD (fh (λ(a b:Int)=>Eo (a=b)) e h.2.2) (Q1 N2)) λm=>bif m then Q1 ([],N2)else a8 (CZ i) λc=>rounds (λj f=>bif Eo (f<(c.length:Int))then a8 (nth c f) λd=>rounds (λq k=>bif Eo (k<(d.length:Int))then a8 (nth d k) λn=>a8 (Bu (x.1,n)) λo=>bif !decide (o=e)then Q1 ([],N2)else q (aa.wrap (k+1))else j (aa.wrap (f+1))) 0 else a8 (j6 8 h.1 [e]) λd=>s (d,aa.wrap (h.2.1+1),(mI (λ(a b:Int)=>Eo (a=b)) e No h.2.2))) 0 else a8 (CZ i) λg=>rounds (λr l=>bif Eo (l<(g.length:Int))then a8 (nth g l) λc=>rounds (λj f=>bif Eo (f<(c.length:Int))then a8 (nth c f) λd=>a8 (Bu (x.1,d)) λp=>bif !decide (p=0)then Q1 ([],N2)else j (aa.wrap (f+1))else r (aa.wrap (l+1))) 0 else a8 (j6 8 h.1 [0]) λc=>s (c,aa.wrap (h.2.1+1),h.2.2)) 0 else Q1 (h.1,Eo ((h.2.2.length:Int)=(x.1.2.2.length:Int)))) ([],0,[])
def IB:mL->Option (Int):=λx=>a8 (Bm x) λa=>bif !decide (a.2=0)then Q1 a.2 else a8 (E4 x) λb=>a8 (Be (x,a.1,b)) λc=>a8 (Fg (x,c)) λd=>bif !(d.2)then Q1 12 else Q1 0
def Vy:qX->Option (Bool):=λx =>Q1 (Eo ((64:Int)<x.2.2.2.2.length))
def Lb:C6×(Unit)->Option (Bool):=λx=>rounds (λd b=>bif Eo (b<(x.1.length:Int))then a8 (nth x.1 b) λc=>a8 (Vy c) λa=>bif a then Q1 (Eo (0<=b))else d (aa.wrap (b+1))else Q1 N2) 0
def MN:qX->Option (Bool):=λx=>bif Eo (x.1<1)then Q1 No else bif Eo (1073741824<x.1)then Q1 No else bif Eo (x.2.2.1<1)then Q1 No else Q1 (Eo (9<x.2.2.1))
def La:C6×(Unit)->Option (Bool):=λx=>rounds (λd b=>bif Eo (b<(x.1.length:Int))then a8 (nth x.1 b) λc=>a8 (MN c) λa=>bif a then Q1 (Eo (0<=b))else d (aa.wrap (b+1))else Q1 N2) 0
def wv:Int->Option (Int):=λx=>bif Eo (x=1)then Q1 1 else bif Eo (x=2)then Q1 1 else bif Eo (x=8)then Q1 1 else bif Eo (x=3)then Q1 2 else bif Eo (x=4)then Q1 2 else bif Eo (x=5)then Q1 3 else bif Eo (x=6)then Q1 3 else bif Eo (x=7)then Q1 3 else Q1 0
def MI:qX->Option (Bool):=λx=>a8 (wv x.2.1) λa=>Q1 (Eo (a=0))
def K_:C6×(Unit)->Option (Bool):=λx=>rounds (λd b=>bif Eo (b<(x.1.length:Int))then a8 (nth x.1 b) λc=>a8 (MI c) λa=>bif a then Q1 (Eo (0<=b))else d (aa.wrap (b+1))else Q1 N2) 0
def Fe:Int->Option (Int):=λx=>bif Eo (x<0)then Q1 (-1)else bif Eo (1114111<x)then Q1 (-1)else(a8 Vz λ_=>rounds (λc b=>bif Eo (b<13)then a8 (nth [(32,32,0),(39,41,0),(45,46,0),(48,57,0),(65,90,1),(97,122,1),(192,214,1),(216,246,1),(248,591,1),(880,1023,2),(1024,1279,3),(1488,1514,4),(19968,40959,5)] b) λa=>bif Eo (a.1<=(kQ.wrap x))then bif Eo ((kQ.wrap x)<=a.2.1)then Q1 a.2.2 else c (aa.wrap (b+1))else c (aa.wrap (b+1))else Q1 (-1)) 0)
def Bj:ByteArray->Option (List Int×Int):=λx=>rounds (λe c=>bif Eo (c.2.toNat<x.size)then a8 (Cu x c.2) λa=>a8 (Fe (aa.wrap a.2.1)) λd=>bif Eo (d<0)then Q1 ([],4)else a8 (j6 8 c.1 [aa.wrap a.2.1]) λb=>e (b,a.2.2)else Q1 (c.1,0)) ([],0)
def FO:ByteArray->Option (List Int×Int):=λx=>bif (x.toList==(bW #[]).toList)then Q1 ([],14)else bif Eo ((40:Int)<x.size)then Q1 ([],3)else a8 (Bj x) λa=>bif !decide (a.2=0)then Q1 ([],a.2)else a8 (pE x 0) λg=>bif Eo (g=32)then Q1 ([],14)else a8 (pE x (aa.wrap ((x.size:Int)-1))) λc=>bif Eo (c=32)then Q1 ([],14)else a8 (strings_Contains (x,(bW #[32,32]))) λd=>bif d then Q1 ([],14)else rounds (λh b=>bif Eo (b<(a.1.length:Int))then a8 (nth a.1 b) λe=>a8 (Fe e) λf=>bif !decide (f=0)then Q1 (a.1,0)else h (aa.wrap (b+1))else Q1 ([],14)) 0
def Bp:ByteArray->Option (Int):=λx=>a8 (FO x) λa=>Q1 a.2
def MH:qX->Option (Bool):=λx=>bif !(x.2.2.2.1.toList==(bW #[]).toList)then a8 (Bp x.2.2.2.1) λa=>Q1 (!decide (a=0))else Q1 N2
def Lc:C6×(Unit)->Option (Bool):=λx=>rounds (λd b=>bif Eo (b<(x.1.length:Int))then a8 (nth x.1 b) λc=>a8 (MH c) λa=>bif a then Q1 (Eo (0<=b))else d (aa.wrap (b+1))else Q1 N2) 0
def MQ:qX->Option (Bool):=λx=>bif Eo ((x.2.2.2.2.length:Int)=0)then Q1 No else a8 (wv x.2.1) λa=>bif Eo (a=1)then Q1 (Eo ((1:Int)<x.2.2.2.2.length))else Q1 N2
def K7:C6×(Unit)->Option (Bool):=λx=>rounds (λd b=>bif Eo (b<(x.1.length:Int))then a8 (nth x.1 b) λc=>a8 (MQ c) λa=>bif a then Q1 (Eo (0<=b))else d (aa.wrap (b+1))else Q1 N2) 0
def Oj:List Int×Int->Option (Bool):=λx=>a8 (wo x) λa=>Q1 a
def H9:Int×qX×mL->Option (Bool):=λx=>a8 (wv x.2.1.2.1) λa=>bif Eo (a=1)then a8 (xt (x.2.2,x.1)) λb=>Q1 (!(b.2))else bif Eo (a=2)then a8 (BP (x.2.2,x.1)) λc=>Q1 (!(c.2))else bif Eo (a=3)then a8 (Oj (x.2.2.2.2,x.1)) λd=>Q1 (!d)else Q1 No
def Lv:List Int×(qX×mL)->Option (Bool):=λx=>rounds (λd a=>bif Eo (a<(x.1.length:Int))then a8 (nth x.1 a) λb=>a8 (H9 (b,x.2.1,x.2.2)) λc=>bif c then Q1 (Eo (0<=a))else d (aa.wrap (a+1))else Q1 N2) 0
def Ij:mL×qX->Option (Bool):=λx=>a8 (Lv (x.2.2.2.2.2,(x.2,x.1))) λa=>Q1 a
def MS:qX×qy->Option (Bool):=λx=>a8 (Ij ((x.2.1,x.2.2.1,x.2.2.2.1),x.1)) λa=>Q1 a
def K8:C6×qy->Option (Bool):=λx=>rounds (λd b=>bif Eo (b<(x.1.length:Int))then a8 (nth x.1 b) λc=>a8 (MS (c,x.2)) λa=>bif a then Q1 (Eo (0<=b))else d (aa.wrap (b+1))else Q1 N2) 0
def IG:List Int->Option (Bool):=λx=>rounds (λd a=>bif Eo (a<(x.length:Int))then a8 (nth x (aa.wrap (a-1))) λb=>a8 (nth x a) λc=>bif Eo (c<=b)then Q1 N2 else d (aa.wrap (a+1))else Q1 No) 1
def xr:qy->Option (Int):=λx=>a8 (IB (x.1,x.2.1,x.2.2.1)) λn=>bif !decide (n=0)then Q1 n else bif Eo ((128:Int)<x.2.2.2.length)then Q1 3 else a8 (Lb (x.2.2.2,())) λv=>bif v then Q1 3 else rounds (λw g=>let z:=(a8 (La (x.2.2.2,())) λo=>bif o then Q1 2 else a8 (K_ (x.2.2.2,())) λp=>bif p then Q1 9 else a8 (Lc (x.2.2.2,())) λq=>bif q then Q1 14 else a8 (K7 (x.2.2.2,())) λr=>bif r then Q1 1 else a8 (K8 (x.2.2.2,x)) λs=>bif s then Q1 7 else rounds (λl e=>bif Eo (e.1<(x.2.2.2.length:Int))then a8 (nth x.2.2.2 e.1) λd=>a8 (wv d.2.1) λj=>bif Eo (j=2)then l (aa.wrap (e.1+1),e.2)else bif Eo (j=3)then rounds (λm c=>bif Eo (c.1<(d.2.2.2.2.length:Int))then a8 (nth d.2.2.2.2 c.1) λf=>a8 (oD (fh (λ(a b:Int×Int)=>(Eo (a.1=b.1)&&Eo (a.2=b.2))) (d.2.1,f) c.2) (Q1 N2)) λh=>bif h then bif Eo (0<=e.1)then Q1 13 else Q1 0 else m (aa.wrap (c.1+1),(mI (λ(a b:Int×Int)=>(Eo (a.1=b.1)&&Eo (a.2=b.2))) (d.2.1,f) No c.2))else l (aa.wrap (e.1+1),c.2)) (0,e.2)else rounds (λm c=>bif Eo (c.1<(d.2.2.2.2.length:Int))then a8 (nth d.2.2.2.2 c.1) λf=>a8 (oD (fh (λ(a b:Int×Int)=>(Eo (a.1=b.1)&&Eo (a.2=b.2))) (0,f) c.2) (Q1 N2)) λh=>
 bif h then bif Eo (0<=e.1)then Q1 13 else Q1 0 else m (aa.wrap (c.1+1),(mI (λ(a b:Int×Int)=>(Eo (a.1=b.1)&&Eo (a.2=b.2))) (0,f) No c.2))else l (aa.wrap (e.1+1),c.2)) (0,e.2)else Q1 0) (0,[])); bif Eo (g.1<(x.2.2.2.length:Int))then a8 (nth x.2.2.2 g.1) λk=>a8 (Q1 (aa.wrap (g.2+1))) λi=>let B:=(bif Eo (0<=g.1)then Q1 10 else(z)); let C:=(a8 (IG k.2.2.2.2) λt=>bif !t then(B)else w (aa.wrap (g.1+1),i)); bif Eo (1<i)then a8 (nth x.2.2.2 (aa.wrap (i-2))) λu=>bif Eo (k.1<=u.1)then(B)else(C)else(C)else(z)) (0,0)
def wu:Int->Option (ny×Int):=λx=>bif Eo (x<0)then Q1 ([],2)else bif Eo (64<x)then Q1 ([],2)else rounds (λj f=>bif Eo (f.2<x)then a8 (Q1 (aa.wrap (f.2+1))) λb=>rounds (λi c=>bif Eo (c.2<(aa.wrap ((aa.wrap (2*b))+1)))then rounds (λg a=>bif Eo (a.1<(aa.wrap ((aa.wrap (2*b))+1)))then a8 (Q1 (aa.wrap (a.1-b))) λd=>a8 (Q1 (aa.wrap (c.2-b))) λe=>bif Eo ((bK qG d [aa.wrap (0-d),e,(aa.wrap (0-e))])=b)then a8 (j6 16 a.2 [(d,e)]) λh=>g (aa.wrap (a.1+1),h)else g (aa.wrap (a.1+1),a.2)else i (a.2,aa.wrap (c.2+1))) (0,c.1)else j (c.1,aa.wrap (f.2+1))) (f.1,0)else Q1 (f.1,0)) ([],0)
def Ix:qy×Int×Int->Option (List Int):=λx=>bif Eo (x.2.1<1)then Q1 []else bif Eo (3<x.2.1)then Q1 []else rounds (λf b=>bif Eo (b.1<(x.1.2.2.2.length:Int))then a8 (nth x.1.2.2.2 b.1) λa=>a8 (wv a.2.1) λc=>bif Eo (c=x.2.1)then a8 (wo (a.2.2.2.2,x.2.2)) λd=>bif d then a8 (j6 8 b.2 [a.1]) λe=>f (aa.wrap (b.1+1),e)else f (aa.wrap (b.1+1),b.2)else f (aa.wrap (b.1+1),b.2)else Q1 b.2) (0,[])
def E2:qy×Int->Option (Bool):=λx=>a8 (Df ((x.1.1,x.1.2.1,x.1.2.2.1),x.2)) λa=>bif Eo (a=0)then a8 (Ix (x.1,1,x.2)) λb=>Q1 (Eo ((0:Int)<b.length))else Q1 N2
def N1(n v:Int):Option (Int) :=
 a8 (Q1 (fq.wrap v)) λa=>
 a8 (pE Ea a) λb=>
 a8 (Q1 (aa.wrap b)) λc=>
 a8 (Q1 (aa.wrap (n+c))) λd=>
 Q1 d
def len8(n v:Int):Option (Int) :=
 a8 (Q1 (Eo (256<=v))) λa=>
 bif a then(
 a8 (bif Eo ((8:Int)<0)then Ld else Q1 (v.fdiv (2^(min (8:Int).toNat an.bits)))) λb=>
 N1 (n+8) b)else(
 N1 n v)
def LW(n v:Int):Option (Int) :=
 a8 (Q1 (Eo (65536<=v))) λa=>
 bif a then(
 a8 (bif Eo ((16:Int)<0)then Ld else Q1 (v.fdiv (2^(min (16:Int).toNat an.bits)))) λb=>
 len8 (n+16) b)else(
 len8 n v)
def Fy:Int->Option (Int):=λx=>a8 (Q1 (Eo (4294967296<=x))) λa=>bif a then a8 (bif Eo ((32:Int)<0)then Ld else Q1 (x.fdiv (2^(min (32:Int).toNat an.bits)))) λb=>LW 32 b else(LW 0 x)
def at5:Int->Option (Int):=λx=>a8 (Fy x) λa=>Q1 a
def Im:wC×wC->Option (Int):=λx=>a8 (CG (x.1.1,x.2.1)) λa=>Q1 a
def G6:List wC×Int×(Unit)->Option (List wC):=λx=>bif Eo (x.2.1=4)then rE (λa b=>Im (a,b)) x.1 else Ld
def Ir:mL->Option (List wC×Int):=λx=>a8 (Bm x) λc=>bif !decide (c.2=0)then bif !decide (c.2=0)then Q1 ([],c.2)else a8 (at5 0) λd=>rounds (λj k=>Q1 ([],0)) ()else a8 (E4 x) λh=>a8 (Be (x,c.1,h)) λd=>a8 (Fg (x,d)) λe=>bif !(e.2)then Q1 ([],12)else rounds (λi b=>bif Eo (b.2<(d.length:Int))then a8 (nth d b.2) λa=>a8 (nth e.1 b.2) λf=>a8 (j6 80 b.1 [(f,a.2.1,a.2.2.1,a.2.2.2)]) λg=>i (g,aa.wrap (b.2+1))else a8 (G6 (b.1,4,())) λa=>Q1 (a,0)) ([],0)
def HT:(Int×Int×ny)×(Int×Int×ny)->Option (Int):=λx=>a8 (CG (x.1.2.1,x.2.2.1)) λa=>Q1 a
def KN:List (Int×Int×ny)×Int×(Unit)->Option (List (Int×Int×ny)):=λx=>bif Eo (x.2.1=3)then rE (λa b=>HT (a,b)) x.1 else Ld
def CY:mL->Option (List (Int×Int×Int×Int)×List (Int×Int×ny)):=λx=>rounds (λv m=>bif Eo (m.1<(x.2.1.length:Int))then a8 (nth x.2.1 m.1) λg=>a8 (wE (x,g.1)) λd=>rounds (λt h=>bif Eo (h.1<(d.1.length:Int))then a8 (nth d.1 (aa.wrap (h.1-1))) λf=>a8 (nth d.1 h.1) λk=>a8 (j6 32 h.2 [(f.1,f.2,k.1,k.2)]) λn=>t (aa.wrap (h.1+1),n)else a8 (vo d.1) λf=>a8 (AJ (f,2)) λo=>v (aa.wrap (m.1+1),h.2,(mI (λ(a b:Int)=>Eo (a=b)) (aa.wrap (0-g.1)) o (mI (λ(a b:Int)=>Eo (a=b)) g.1 d.1 m.2.2)))) (1,m.2.1)else a8 (Ir x) λg=>rounds (λp e=>bif Eo (e.1<(g.1.length:Int))then a8 (nth g.1 e.1) λc=>bif Eo ((c.2.1.length:Int)=0)then p (aa.wrap (e.1+1),e.2)else a8 (Bs (x,c.2.1)) λq=>rounds (λu i=>bif Eo (i.1<(c.2.1.length:Int))then a8 (nth c.2.1 i.1) λj=>a8 (oD (fh (λ(a b:Int)=>Eo (a=b)) j m.2.2) Ld) λl=>a8 (tx l Ld (Q1 (aa.wrap ((l.length:Int)-1)))) λr=>a8 (j6 16 i.2 r) λs=>u (aa.wrap (i.1+1),s)else a8 (j6 40 e.2 [(c.1,q,i.2)]) λj=>p (aa.wrap (e.1+1),j)) (0,[])else a8 (KN (e.2,3,())) λc=>Q1 (m.2.1,c)) (0,[])) (0,[],[])
def DH:(Int×Int×Int×Int)×(Int×Int)->Option (Bool):=λx=>bif Eo (x.1.1<=x.2.1)then bif Eo (x.2.1<=x.1.2.2.1)then bif Eo (x.1.2.1<=x.2.2)then Q1 (Eo (x.2.2<=x.1.2.2.2))else Q1 N2 else Q1 N2 else Q1 N2
def yl:(Int×Int×Int×Int)×(Int×Int)×Int->Option (Bool):=λx=>a8 (DH ((aa.wrap ((bK w6 x.1.1 [x.1.2.2.1])-x.2.2),aa.wrap ((bK w6 x.1.2.1 [x.1.2.2.2])-x.2.2),aa.wrap ((bK qG x.1.1 [x.1.2.2.1])+x.2.2),aa.wrap ((bK qG x.1.2.1 [x.1.2.2.2])+x.2.2)),x.2.1)) λa=>Q1 a
def vD:(Int×Int)×(Int×Int)->Option (Int):=λx =>Q1 (aa.wrap ((aa.wrap ((aa.wrap (x.2.1-x.1.1))*(aa.wrap (x.2.1-x.1.1))))+(aa.wrap ((aa.wrap (x.2.2-x.1.2))*(aa.wrap (x.2.2-x.1.2))))))
def rU:Int->Option (Int):=λx=>a8 (Q1 (Eo (x<0))) λb=>bif b then a8 (Q1 (an.wrap x)) λa=>a8 (Q1 (an.wrap (0-a))) λc=>Q1 c else a8 (Q1 (an.wrap x)) λa=>Q1 a
def zI:Int×Int->Option (Int×Int):=λx=>a8 (Q1 (an.wrap (bO an.bits x.1 &&& bO an.bits (4294967295:Int)).toNat)) λa=>a8 (bif Eo ((32:Int)<0)then Ld else Q1 (x.1.fdiv (2^(min (32:Int).toNat an.bits)))) λb=>a8 (Q1 (an.wrap (bO an.bits x.2 &&& bO an.bits (4294967295:Int)).toNat)) λc=>a8 (bif Eo ((32:Int)<0)then Ld else Q1 (x.2.fdiv (2^(min (32:Int).toNat an.bits)))) λd=>a8 (Q1 (an.wrap (a*c))) λo=>a8 (Q1 (an.wrap (b*c))) λp=>a8 (bif Eo ((32:Int)<0)then Ld else Q1 (o.fdiv (2^(min (32:Int).toNat an.bits)))) λq=>a8 (Q1 (an.wrap (p+q))) λe=>a8 (Q1 (an.wrap (bO an.bits e &&& bO an.bits (4294967295:Int)).toNat)) λf=>a8 (bif Eo ((32:Int)<0)then Ld else Q1 (e.fdiv (2^(min (32:Int).toNat an.bits)))) λg=>a8 (Q1 (an.wrap (a*d))) λh=>a8 (Q1 (an.wrap (f+h))) λi=>a8 (Q1 (an.wrap (b*d))) λj=>a8 (Q1 (an.wrap (j+g))) λk=>a8 (bif Eo ((32:Int)<0)then Ld else Q1 (i.fdiv (2^(min (32:Int).toNat an.bits)))) λl=>a8 (Q1 (an.wrap (k+l))) λm=>a8 (Q1 (an.wrap (x.1*x.2))) λn=>Q1 (m,n)
def H5:Int->Option (Int):=λx=>a8 (Fy x) λa=>a8 (Q1 (aa.wrap (64-a))) λb=>Q1 b
def Fw(a e b c d q:Int):Option (Int×Int) :=
 a8 (bif Eo (a<0)then Ld else Q1 ((an.wrap (an.wrap (an.wrap (d*4294967296)+b)-an.wrap (q*e))).fdiv (2^(min a.toNat an.bits)))) λr=>
 Q1 (an.wrap (an.wrap (c*4294967296)+q),r)
def MP(f g b h c d a:Int):Option (Int×Int) :=
 a8 (bif Eo (b=0)then Ld else Q1 (an.wrap (a.tdiv b))) λe=>
 rounds (λk x=>
 bif Eo (4294967296<=x.2)then(
 bif Eo ((4294967296:Int)<=an.wrap (x.1+b))then(Fw f g c d a (an.wrap (x.2-1)))else(k (an.wrap (x.1+b),an.wrap (x.2-1))))else(
 bif Eo (an.wrap (an.wrap (4294967296*x.1)+c)<an.wrap (x.2*h))then(
 bif Eo ((4294967296:Int)<=an.wrap (x.1+b))then(Fw f g c d a (an.wrap (x.2-1)))else(k (an.wrap (x.1+b),an.wrap (x.2-1))))else(Fw f g c d a x.2))) (an.wrap (a-an.wrap (e*b)),e)
def MO(f a g b c d e q:Int):Option (Int×Int):=MP f a g b e q (an.wrap (an.wrap (an.wrap (c*4294967296)+d)-an.wrap (q*a)))
def IY:Int×Int×Int->Option (Int×Int):=λx=>a8 (Q1 (Eo (x.2.2=(0:Int)))) λq=>bif q then Ld else a8 (Q1 (Eo (x.2.2<=x.1))) λr=>bif r then Ld else a8 (Q1 (Eo (x.1=(0:Int)))) λs=>bif s then a8 (bif Eo (x.2.2=0)then Ld else Q1 (an.wrap (x.2.1.tdiv x.2.2))) λl=>a8 (bif Eo (x.2.2=0)then Ld else Q1 (x.2.1.tmod x.2.2)) λa=>Q1 (l,a)else a8 (H5 x.2.2) λl=>a8 (Q1 (an.wrap l)) λa=>a8 (bif Eo (a<0)then Ld else Q1 (an.wrap (x.2.2*2^(min a.toNat an.bits)))) λf=>a8 (bif Eo ((32:Int)<0)then Ld else Q1 (f.fdiv (2^(min (32:Int).toNat an.bits)))) λb=>a8 (Q1 (an.wrap (bO an.bits f &&& bO an.bits (4294967295:Int)).toNat)) λd=>a8 (bif Eo (a<0)then Ld else Q1 (an.wrap (x.1*2^(min a.toNat an.bits)))) λm=>a8 (Q1 (an.wrap ((64:Int)-a))) λg=>a8 (bif Eo (g<0)then Ld else Q1 (x.2.1.fdiv (2^(min g.toNat an.bits)))) λn=>a8 (Q1 (an.wrap (bO an.bits m |||bO an.bits n).toNat)) λc=>a8 (bif Eo (a<0)then Ld else Q1 (an.wrap (x.2.1*2^(min a.toNat an.bits)))) λh=>a8 (bif Eo ((32:Int)<0)then Ld else Q1 (h.fdiv (2^(min (32:Int).toNat an.bits)))) λe=>
 a8 (Q1 (an.wrap (bO an.bits h &&& bO an.bits (4294967295:Int)).toNat)) λi=>a8 (bif Eo (b=0)then Ld else Q1 (an.wrap (c.tdiv b))) λj=>a8 (Q1 (an.wrap (j*b))) λo=>a8 (Q1 (an.wrap (c-o))) λp=>rounds (λk x=>let t:=(bif Eo ((4294967296:Int)<=an.wrap (x.2+b))then(MO a f b d c e i (an.wrap (x.1-(1:Int))))else((k (an.wrap (x.1-(1:Int)),an.wrap (x.2+b))))); bif Eo (4294967296<=x.1)then(t)else bif Eo (an.wrap (an.wrap ((4294967296:Int)*x.2)+e)<an.wrap (x.1*d))then(t)else(MO a f b d c e i x.1)) (j,p)
def xx:Int×Bool->Option (Int×Bool):=λx=>bif x.2 then a8 (Q1 (Eo (9223372036854775808<x.1))) λa=>bif a then Q1 (0,N2)else a8 (Q1 (an.wrap (0-x.1))) λb=>a8 (Q1 (aa.wrap b)) λc=>Q1 (c,No)else a8 (Q1 (Eo (9223372036854775807<x.1))) λa=>bif a then Q1 (0,N2)else a8 (Q1 (aa.wrap x.1)) λb=>Q1 (b,No)
def FD:Int×Int×Int->Option (Int×Int):=λx=>a8 (Q1 (Eo (x.2.2=0))) λl=>bif l then Q1 (0,21)else a8 (Q1 (Eo (x.1<0))) λm=>a8 (Q1 (Eo (x.2.1<0))) λn=>a8 (Q1 (!(m==n))) λo=>a8 (Q1 (Eo (x.2.2<0))) λp=>a8 (Q1 (!(o==p))) λq=>a8 (rU x.1) λr=>a8 (rU x.2.1) λg=>a8 (zI (r,g)) λe=>a8 (rU x.2.2) λh=>a8 (Q1 (Eo (h<=e.1))) λi=>bif i then Q1 (0,15)else a8 (rU x.2.2) λj=>a8 (IY (e.1,e.2,j)) λa=>bif q then a8 (Q1 (!decide (a.2=0))) λb=>bif b then a8 (Q1 (Eo (a.1=18446744073709551615))) λc=>bif c then Q1 (0,15)else a8 (Q1 (an.wrap (a.1+1))) λf=>a8 (xx (f,No)) λd=>a8 (Q1 (!(d.2))) λk=>bif k then Q1 (0,15)else Q1 (d.1,0)else a8 (xx (a.1,No)) λc=>a8 (Q1 (!(c.2))) λd=>bif d then Q1 (0,15)else Q1 (c.1,0)else a8 (xx (a.1,N2)) λb=>a8 (Q1 (!(b.2))) λf=>bif f then Q1 (0,15)else Q1 (b.1,0)
def Bk:Int×Int->Option (Int):=λx=>rounds (λd a=>a8 (Q1 (!decide (a.2=0))) λb=>bif b then a8 (bif Eo (a.2=0)then Ld else Q1 (a.1.tmod a.2)) λc=>d (a.2,c)else Q1 a.1) x
def DK:Int×Int->Option (Int):=λx=>a8 (rU x.1) λa=>a8 (rU x.2) λb=>a8 (Bk (a,b)) λc=>a8 (xx (c,N2)) λd=>Q1 d.1
def yw:(Int×Int)×(Int×Int)×(Int×Int)->Option (Int×Int):=λx=>a8 (vJ [x.1,x.2.1,x.2.2]) λE=>a8 (Q1 (!E)) λG=>bif G then Q1 (0,0)else a8 (vD (x.1,x.2.1)) λd=>a8 (Q1 (aa.wrap (x.2.1.1-x.1.1))) λH=>a8 (Q1 (aa.wrap (x.2.2.1-x.1.1))) λj=>a8 (Q1 (aa.wrap (H*j))) λk=>a8 (Q1 (aa.wrap (x.2.1.2-x.1.2))) λl=>a8 (Q1 (aa.wrap (x.2.2.2-x.1.2))) λm=>a8 (Q1 (aa.wrap (l*m))) λn=>a8 (Q1 (aa.wrap (k+n))) λg=>a8 (Q1 (Eo (g<=0))) λo=>bif o then a8 (vD (x.1,x.2.2)) λe=>Q1 (e,1)else a8 (Q1 (Eo (d<=g))) λe=>bif e then a8 (vD x.2) λa=>Q1 (a,1)else a8 (xy x) λa=>a8 (FD (a,a,d)) λc=>a8 (Q1 (aa.wrap (a*a))) λp=>a8 (Q1 (aa.wrap (c.1*d))) λq=>a8 (Q1 (aa.wrap (p-q))) λh=>a8 (DK (h,d)) λb=>a8 (Q1 (an.wrap c.1)) λr=>a8 (bif Eo (b=0)then Ld else Q1 (aa.wrap (d.tdiv b))) λs=>a8 (Q1 (an.wrap s)) λt=>a8 (zI (r,t)) λi=>a8 (bif Eo (b=0)then Ld else Q1 (aa.wrap (h.tdiv b))) λu=>a8 (Q1 (an.wrap u)) λv=>a8 (zJ (i.2,v,0)) λf=>a8 (Q1 (an.wrap (i.1+f.2))) λw=>a8 (Q1 (Eo (0<w))) λz=>
 bif z then Q1 (c.1,1)else a8 (Q1 (Eo (9223372036854775807<f.1))) λB=>bif B then Q1 (c.1,1)else a8 (Q1 (aa.wrap f.1)) λC=>a8 (bif Eo (b=0)then Ld else Q1 (aa.wrap (d.tdiv b))) λD=>Q1 (C,D)
def BE:(Int×Int)->Option (Bool):=λx=>bif Eo (0<x.2)then a8 (rU x.1) λa=>a8 (rU x.2) λb=>a8 (Bk (a,b)) λc=>Q1 (Eo (c=1))else Q1 N2
def wM:(Int×Int)×(Int×Int)->Option (Int):=λx=>a8 (BE x.1) λg=>bif !g then Q1 0 else a8 (BE x.2) λh=>bif !h then Q1 0 else bif !((Eo (x.1.1<0))==(Eo (x.2.1<0)))then bif Eo (x.1.1<0)then Q1 (-1)else Q1 1 else a8 (rU x.1.1) λc=>a8 (rU x.2.2) λd=>a8 (zI (c,d)) λa=>a8 (rU x.2.1) λe=>a8 (rU x.1.2) λf=>a8 (zI (e,f)) λb=>let i:=(bif Eo (b.1<a.1)then bif Eo (x.1.1<0)then Q1 (-1)else Q1 1 else bif Eo (a.1=b.1)then bif Eo (b.2<a.2)then bif Eo (x.1.1<0)then Q1 (-1)else Q1 1 else bif Eo (x.1.1<0)then Q1 1 else Q1 (-1)else bif Eo (x.1.1<0)then Q1 1 else Q1 (-1)); bif Eo (a.1=b.1)then bif Eo (a.2=b.2)then Q1 0 else(i)else(i)
def AS:(List (Int×Int×Int×Int)×List (Int×Int×ny))×(Int×Int)->Option (Int):=λx=>rounds (λi h=>bif Eo (h<(x.1.2.length:Int))then a8 (nth x.1.2 h) λe=>rounds (λb a=>bif Eo (a.1<(e.2.2.length:Int))then a8 (nth e.2.2 a.1) λc=>a8 (bif Eo ((e.2.2.length:Int)=0)then Ld else Q1 ((aa.wrap (a.1+1)).tmod (e.2.2.length:Int))) λg=>a8 (nth e.2.2 g) λd=>bif Eo (d.2<c.2)then bif Eo (d.2<=x.2.2)then bif Eo (x.2.2<c.2)then a8 (qR (d,c,x.2)) λf=>bif Eo (0<f)then b (aa.wrap (a.1+1),(!(a.2)))else b (aa.wrap (a.1+1),a.2)else b (aa.wrap (a.1+1),a.2)else b (aa.wrap (a.1+1),a.2)else bif Eo (c.2<=x.2.2)then bif Eo (x.2.2<d.2)then a8 (qR (c,d,x.2)) λf=>bif Eo (0<f)then b (aa.wrap (a.1+1),(!(a.2)))else b (aa.wrap (a.1+1),a.2)else b (aa.wrap (a.1+1),a.2)else b (aa.wrap (a.1+1),a.2)else bif a.2 then Q1 e.1 else i (aa.wrap (h+1))) (0,N2)else Q1 0) 0
def xj:(List (Int×Int×Int×Int)×List (Int×Int×ny))×List (Int×Int×Int)×(Int×Int×Int)×(Int×Int)×Int->Option (Bool):=λx=>a8 (DH (((-1048576),(-1048576),1048576,1048576),x.2.2.2.1)) λn=>bif !n then Q1 N2 else rounds (λg c=>bif Eo (c<(x.2.1.length:Int))then a8 (nth x.2.1 c) λb=>a8 (Q1 (aa.wrap (b.2.1-x.2.2.2.1.1))) λe=>a8 (Q1 (aa.wrap (b.2.2-x.2.2.2.1.2))) λf=>bif !decide (b.1=x.2.2.1.1)then bif Eo (b.2.1=x.2.2.2.1.1)&&Eo (b.2.2=x.2.2.2.1.2)then Q1 N2 else bif Eo ((aa.wrap ((aa.wrap (e*e))+(aa.wrap (f*f))))<(aa.wrap (x.2.2.2.2*x.2.2.2.2)))then Q1 N2 else g (aa.wrap (c+1))else g (aa.wrap (c+1))else rounds (λh d=>bif Eo (d<(x.1.1.length:Int))then a8 (nth x.1.1 d) λa=>a8 (yl (a,x.2.2.2.1,x.2.2.2.2)) λi=>bif !i then h (aa.wrap (d+1))else a8 (qV ((a.1,a.2.1),a.2.2,x.2.2.2.1)) λj=>bif j then Q1 N2 else a8 (yw ((a.1,a.2.1),a.2.2,x.2.2.2.1)) λk=>a8 (wM (k,(aa.wrap (x.2.2.2.2*x.2.2.2.2),1))) λl=>bif Eo (l<0)then Q1 N2 else h (aa.wrap (d+1))else a8 (AS (x.1,x.2.2.2.1)) λa=>a8 (AS (x.1,x.2.2.1.2)) λm=>Q1 (Eo (a=m))) 0) 0
def G_{β:Type}(j7:List (Int×Int×Int×Int))(l1:List (Int×Int×List (Int×Int)))(cur:List (Int×Int×Int))(id:Int)(offs:List (Int×Int))(gap:Int)(p:Option β)(q:List (Int×Int×Int)->Option β)(N:Option β):Option β :=
 rounds (λn a=>
 bif (Eo (a<(cur.length:Int)))then(
 a8 (bif Eo (0<=a)&&Eo (a<(cur.length:Int))then Q1 ()else Ld) λ_=>
 a8 ((cur[a.toNat]?).map (λx=>x)) λi=>
 bif (Eo (i.1=id))then(
 a8 (bif Eo (0<=a)&&Eo (a<(cur.length:Int))then Q1 ()else Ld) λ_=>
 a8 ((cur[a.toNat]?).map (λx=>x)) λb=>
 rounds (λj c=>
 bif (Eo (c.1<(j7.length:Int)))then(
 a8 (nth j7 c.1) λd=>
 a8 (yl (d,b.2,aa.wrap (2*gap))) λe=>
 bif e then(
 a8 (j6 32 c.2 [d]) λk=>
 j (aa.wrap (c.1+1),k))else(
 j (aa.wrap (c.1+1),c.2)))else(
 a8 (xj ((c.2,l1),cur,b,b.2,gap)) λd=>
 bif d then p else(
 rounds (λo h=>
 bif (Eo (h<(offs.length:Int)))then(
 a8 (nth offs h) λe=>
 a8 (Q1 (aa.wrap (b.2.1+e.1))) λf=>
 a8 (Q1 (aa.wrap (b.2.2+e.2))) λg=>
 a8 (xj ((c.2,l1),cur,b,(f,g),gap)) λl=>
 bif l then(
 a8 (bif Eo (0<=a)&&Eo (a<(cur.length:Int))then Q1 ()else Ld) λ_=>
 a8 (qI cur a.toNat (λx y=>(x.1,y.1,y.2)) (f,g)) λm=>q m)else(
 o (aa.wrap (h+1))))else p) 0))) (0,[]))else(
 n (aa.wrap (a+1))))else N) 0
def vz:qy×Int×Int->Option (qy×Bool×Int):=λx=>a8 (xr x.1) λg=>bif !decide (g=0)then Q1 (([],[],[],[]),N2,g)else a8 (wu x.2.2) λf=>bif !decide (f.2=0)then Q1 (([],[],[],[]),N2,f.2)else a8 (xt ((x.1.1,x.1.2.1,x.1.2.2.1),x.2.1)) λh=>bif !(h.2)then Q1 (([],[],[],[]),N2,7)else a8 (E2 (x.1,x.2.1)) λi=>bif !i then Q1 (([],[],[],[]),N2,13)else a8 (EH x.1.1) λe=>rounds (λn c=>bif Eo (c.1<(x.1.2.1.length:Int))then a8 (nth x.1.2.1 c.1) λb=>a8 (vo b.2.2.2.1) λa=>a8 (j6 64 c.2 [(b.1,b.2.1,b.2.2.1,a,b.2.2.2.2.1,b.2.2.2.2.2)]) λj=>n (aa.wrap (c.1+1),j)else a8 (xp x.1.2.2.1) λb=>rounds (λo d=>bif Eo (d.1<(x.1.2.2.2.length:Int))then a8 (nth x.1.2.2.2 d.1) λa=>a8 (xp a.2.2.2.2) λk=>a8 (j6 64 d.2 [(a.1,a.2.1,a.2.2.1,a.2.2.2.1,k)]) λl=>o (aa.wrap (d.1+1),l)else a8 (CY (x.1.1,x.1.2.1,x.1.2.2.1)) λa=>G_ a.1 a.2 e x.2.1 f.1 x.2.2 (Q1 ((e,c.2,b,d.2),N2,0)) (λm=>Q1 ((m,c.2,b,d.2),No,0)) Ld) (0,[])) (0,[])
def zx:qy×Int×(Int×Int)×Int->Option (Bool):=λx=>a8 (xr x.1) λe=>bif !decide (e=0)then Q1 N2 else bif Eo (x.2.2.2<0)then Q1 N2 else bif Eo (64<x.2.2.2)then Q1 N2 else a8 (xt ((x.1.1,x.1.2.1,x.1.2.2.1),x.2.1)) λa=>bif !(a.2)then Q1 N2 else a8 (Df ((x.1.1,x.1.2.1,x.1.2.2.1),x.2.1)) λb=>bif Eo (0<b)then Q1 N2 else a8 (CY (x.1.1,x.1.2.1,x.1.2.2.1)) λc=>a8 (xj (c,x.1.1,a.1,x.2.2.1,x.2.2.2)) λd=>Q1 d
def zd:Unit->Option (Bool):=λx=>a8 (CQ (10,(5,1))) λB=>a8 (vz (B,2,3)) λa=>a8 (CQ (4,(2,1))) λf=>a8 (vz (f,2,3)) λc=>a8 (wu 1) λb=>a8 (wu 65) λg=>a8 (CQ (4,(2,1))) λh=>a8 (vz (h,1,3)) λi=>a8 (Q1 (a.1.1.length:Int)) λj=>a8 (Q1 (!decide (j=2))) λk=>bif k then Q1 N2 else a8 (Q1 (b.1.length:Int)) λl=>a8 (Q1 (!decide (l=8))) λm=>bif m then Q1 N2 else bif a.2.1 then a8 (Q1 (Eo (a.2.2=0))) λn=>bif n then a8 (nth a.1.1 1) λd=>a8 (Q1 (Eo (d.2.1=3)&&Eo (d.2.2=3))) λo=>bif o then a8 (Q1 (!(c.2.1))) λp=>bif p then a8 (Q1 (Eo (c.2.2=0))) λq=>bif q then a8 (Q1 (Eo (b.2=0))) λr=>bif r then a8 (Q1 (Eo (g.2=2))) λs=>bif s then a8 (Q1 (Eo (i.2.2=13))) λt=>bif t then a8 (nth b.1 3) λe=>a8 (Q1 (Eo (e.1=(-1))&&Eo (e.2=0))) λu=>bif u then a8 (zx (a.1,2,(5,5),3)) λv=>bif v then a8 (zx (a.1,2,(5,2),3)) λw=>a8 (Q1 (!w)) λz=>Q1 z else Q1 N2 else Q1 N2 else Q1 N2 else Q1 N2 else Q1 N2 else Q1 N2 else Q1 N2 else Q1 N2 else Q1 N2 else Q1 N2
def Ba:qy×Int->Option (qy×Int):=λx=>a8 (xr x.1) λi=>bif !decide (i=0)then Q1 (([],[],[],[]),i)else a8 (wu x.2) λg=>bif !decide (g.2=0)then Q1 (([],[],[],[]),g.2)else a8 (EH x.1.1) λj=>rounds (λp d=>bif Eo (d.1<(x.1.2.1.length:Int))then a8 (nth x.1.2.1 d.1) λb=>a8 (vo b.2.2.2.1) λa=>a8 (j6 64 d.2 [(b.1,b.2.1,b.2.2.1,a,b.2.2.2.2.1,b.2.2.2.2.2)]) λk=>p (aa.wrap (d.1+1),k)else a8 (xp x.1.2.2.1) λb=>rounds (λq e=>bif Eo (e.1<(x.1.2.2.2.length:Int))then a8 (nth x.1.2.2.2 e.1) λa=>a8 (xp a.2.2.2.2) λl=>a8 (j6 64 e.2 [(a.1,a.2.1,a.2.2.1,a.2.2.2.1,l)]) λm=>q (aa.wrap (e.1+1),m)else a8 (CY (x.1.1,x.1.2.1,x.1.2.2.1)) λa=>rounds (λh c=>bif Eo (c.1<(x.1.1.length:Int))then a8 (nth x.1.1 c.1) λf=>a8 (E2 (x.1,f.1)) λn=>bif n then(G_ a.1 a.2 c.2 f.1 g.1 x.2 (h (aa.wrap (c.1+1),c.2)) (λo=>h (aa.wrap (c.1+1),o)) Ld)else h (aa.wrap (c.1+1),c.2)else Q1 ((c.2,d.2,b,e.2),0)) (0,j)) (0,[])) (0,[])
def HM:mL->Option (Bool):=λx=>rounds (λc a=>bif Eo (a<(x.2.1.length:Int))then a8 (nth x.2.1 a) λb=>bif Eo ((64:Int)<b.2.2.2.1.length)then Q1 No else c (aa.wrap (a+1))else bif Eo ((256:Int)<x.1.length)then Q1 No else bif Eo ((256:Int)<x.2.1.length)then Q1 No else Q1 (Eo ((64:Int)<x.2.2.length))) 0
def zm:mL×Bool->Option (List Int):=λx=>rounds (λk c=>bif Eo (c.2<(x.1.1.length:Int))then bif !(x.2)then a8 (nth x.1.1 c.2) λd=>a8 (j6 8 c.1 [d.1]) λe=>k (e,aa.wrap (c.2+1))else rounds (λj a=>bif Eo (a.2.2.1<(x.1.2.1.length:Int))then bif a.1 then a8 (nth x.1.2.1 a.2.2.1) λf=>a8 (j6 8 a.2.1 [f.1]) λg=>j (No,g,aa.wrap (a.2.2.1+1),a.2.2.2)else Q1 a.2.1 else Q1 a.2.1) (x.2,c.1,0,x.2)else rounds (λl b=>bif Eo (b.2.2<(x.1.2.1.length:Int))then bif b.1 then a8 (nth x.1.2.1 b.2.2) λh=>a8 (j6 8 b.2.1 [h.1]) λi=>l (No,i,aa.wrap (b.2.2+1))else Q1 b.2.1 else Q1 b.2.1) (x.2,c.1,0)) ([],0)
def CI:List Int->Option (Bool):=λx=>rounds (λd a=>bif Eo (a<(x.length:Int))then a8 (nth x (aa.wrap (a-1))) λb=>a8 (nth x a) λc=>bif Eo (c<=b)then Q1 N2 else d (aa.wrap (a+1))else Q1 No) 1
def HK:mL->Option (ny):=λx=>rounds (λg a=>bif Eo (a.2<(x.1.length:Int))then a8 (nth x.1 a.2) λf=>a8 (j6 16 a.1 [f.2]) λb=>g (b,aa.wrap (a.2+1))else rounds (λh c=>bif Eo (c.2<(x.2.1.length:Int))then a8 (nth x.2.1 c.2) λd=>a8 (j6 16 c.1 d.2.2.2.1) λe=>h (e,aa.wrap (c.2+1))else Q1 c.1) (a.1,0)) ([],0)
def HO:(Int×Int)->Option (Bool):=λx=>bif Eo ((-1048576:Int)<=x.1)then bif Eo (x.1<=1048576)then bif Eo ((-1048576:Int)<=x.2)then Q1 (Eo (x.2<=1048576))else Q1 N2 else Q1 N2 else Q1 N2
def HI:mL->Option (Bool):=λx=>a8 (zm (x,N2)) λh=>a8 (zm (x,No)) λi=>a8 (j6 8 h i) λj=>a8 (j6 8 j x.2.2) λb=>rounds (λl c=>bif Eo (c<(b.length:Int))then a8 (bif Eo (0<=c)&&Eo (c<b.length)then Q1 ()else Ld) λa=>a8 ((b[c.toNat]?).map (λx=>x)) λa=>bif Eo (a<1)then Q1 N2 else a8 (bif Eo (0<=c)&&Eo (c<b.length)then Q1 ()else Ld) λd=>a8 ((b[c.toNat]?).map (λx=>x)) λd=>bif Eo (1073741824<d)then Q1 N2 else l (aa.wrap (c+1))else a8 (HK x) λa=>rounds (λk e=>bif Eo (e<(a.length:Int))then a8 (nth a e) λf=>a8 (HO f) λg=>bif !g then Q1 N2 else k (aa.wrap (e+1))else Q1 No) 0) 0
def HS:mL->Option (Bool):=λx=>rounds (λe c=>bif Eo (c<(x.1.length:Int))then rounds (λf d=>bif Eo (d<c)then a8 (nth x.1 c) λa=>a8 (nth x.1 d) λb=>bif Eo (a.2.1=b.2.1)&&Eo (a.2.2=b.2.2)then Q1 No else f (aa.wrap (d+1))else e (aa.wrap (c+1))) 0 else Q1 N2) 0
def AR:mL×Int->Option ((Int×Int×Int)×Bool):=λx=>rounds (λd b=>bif Eo (b<(x.1.1.length:Int))then a8 (nth x.1.1 b) λc=>bif Eo (c.1=x.2)then a8 (nth x.1.1 b) λa=>Q1 (a,No)else d (aa.wrap (b+1))else Q1 ((0,0,0),N2)) 0
def ya:mL×zB->Option (ny×Bool):=λx=>a8 (AR (x.1,x.2.2.1)) λc=>a8 (AR (x.1,x.2.2.2.1)) λa=>a8 (j6 16 [c.1.2] x.2.2.2.2.1) λd=>a8 (j6 16 d [a.1.2]) λb=>bif c.2 then Q1 (b,a.2)else Q1 (b,N2)
def ER:mL×Int->Option (Bool):=λx=>rounds (λc a=>bif Eo (a<(x.1.2.2.length:Int))then a8 (nth x.1.2.2 a) λb=>bif Eo (b=x.2)then Q1 No else c (aa.wrap (a+1))else Q1 (Eo (x.2=0))) 0
def EA:mL->Option (List (Int×Int×Int×ny×Int×Int×Int×Int×Int×Int×Int×Int)):=λx=>rounds (λj f=>bif Eo (f.2<(x.2.1.length:Int))then a8 (nth x.2.1 f.2) λh=>a8 (ya (x,h)) λc=>rounds (λi b=>bif Eo ((aa.wrap (b.2+1))<(c.1.length:Int))then a8 (nth x.2.1 f.2) λa=>a8 (nth c.1 b.2) λd=>a8 (nth c.1 (aa.wrap (b.2+1))) λe=>a8 (j6 112 b.1 [(a.1,a.2.1,a.2.2.1,a.2.2.2.1,a.2.2.2.2.1,a.2.2.2.2.2,b.2,aa.wrap ((c.1.length:Int)-1),d.1,d.2,e.1,e.2)]) λg=>i (g,aa.wrap (b.2+1))else j (b.1,aa.wrap (f.2+1))) (f.1,0)else Q1 f.1) ([],0)
def CV:ny->Option (Bool):=λx=>rounds (λf a=>bif Eo (a<(x.length:Int))then a8 (nth x a) λd=>bif Eo (d.1<(-2097152))then Q1 N2 else a8 (nth x a) λe=>bif Eo (2097152<e.1)then Q1 N2 else a8 (nth x a) λb=>bif Eo (b.2<(-2097152))then Q1 N2 else a8 (nth x a) λc=>bif Eo (2097152<c.2)then Q1 N2 else f (aa.wrap (a+1))else Q1 No) 0
def we:(Int×Int)×(Int×Int)×(Int×Int)×(Int×Int)->Option (Int):=λx =>Q1 (aa.wrap ((aa.wrap ((aa.wrap (x.2.1.1-x.1.1))*(aa.wrap (x.2.2.2.2-x.2.2.1.2))))-(aa.wrap ((aa.wrap (x.2.1.2-x.1.2))*(aa.wrap (x.2.2.2.1-x.2.2.1.1))))))
def Ic:(Int×Int)×(Int×Int)×(Int×Int)×(Int×Int)->Option (Int):=λx =>Q1 (aa.wrap ((aa.wrap ((aa.wrap (x.2.1.1-x.1.1))*(aa.wrap (x.2.2.2.1-x.2.2.1.1))))+(aa.wrap ((aa.wrap (x.2.1.2-x.1.2))*(aa.wrap (x.2.2.2.2-x.2.2.1.2))))))
def yk:(Int×Int)×(Int×Int)×(Int×Int)->Option (Bool):=λx=>a8 (CV [x.1,x.2.1,x.2.2]) λa=>bif a then a8 (we (x.1,x.2.1,x.1,x.2.2)) λb=>bif Eo (b=0)then a8 (Ic (x.1,x.2.2,x.2.1,x.2.2)) λc=>Q1 (Eo (c<=0))else Q1 N2 else Q1 N2
def EM:mL×(Int×Int×Int×ny×Int×Int×Int×Int×Int×Int×Int×Int)->Option (Bool):=λx=>rounds (λc a=>bif Eo (a<(x.1.1.length:Int))then a8 (nth x.1.1 a) λb=>let e:=(a8 (yk ((x.2.2.2.2.2.2.2.2.2.1,x.2.2.2.2.2.2.2.2.2.2.1),x.2.2.2.2.2.2.2.2.2.2.2,b.2)) λd=>bif d then Q1 N2 else c (aa.wrap (a+1))); let f:=(bif Eo (x.2.2.2.2.2.2.2.1=(aa.wrap (x.2.2.2.2.2.2.2.2.1-1)))then bif !(Eo (x.2.2.2.1=b.1))then(e)else c (aa.wrap (a+1))else(e)); bif Eo (x.2.2.2.2.2.2.2.1=0)then bif Eo (x.2.2.1=b.1)then c (aa.wrap (a+1))else(f)else(f)else bif !(Eo (x.2.2.2.2.2.2.2.2.2.1=x.2.2.2.2.2.2.2.2.2.2.2.1)&&Eo (x.2.2.2.2.2.2.2.2.2.2.1=x.2.2.2.2.2.2.2.2.2.2.2.2))then bif !decide (x.2.2.1=x.2.2.2.1)then Q1 No else Q1 (Eo (3<=x.2.2.2.2.2.2.2.2.1))else Q1 N2) 0
def o9:(Int×Int)×(Int×Int)->Option (Bool):=λx=>bif Eo (x.1.1<x.2.1)then Q1 No else bif Eo (x.1.1=x.2.1)then Q1 (Eo (x.1.2<x.2.2))else Q1 N2
def HH:(Int×Int)×(Int×Int)×(Int×Int)×(Int×Int)->Option (Int):=λx=>a8 (o9 (x.2.1,x.1)) λe=>let f:=(bif Eo (x.2.2.1.1=x.2.2.2.1)&&Eo (x.2.2.1.2=x.2.2.2.2)then Q1 1 else a8 (o9 x.2.2) λa=>bif a then Q1 2 else Q1 0); let g:=(bif Eo (x.2.2.2.1=x.2.2.1.1)&&Eo (x.2.2.2.2=x.2.2.1.2)then Q1 1 else a8 (o9 (x.2.2.2,x.2.2.1)) λa=>bif a then Q1 2 else Q1 0); bif e then a8 (o9 (x.2.2.2,x.2.2.1)) λd=>let h:=(bif Eo (x.2.1.1=x.1.1)&&Eo (x.2.1.2=x.1.2)then Q1 1 else a8 (o9 (x.2.1,x.1)) λa=>bif a then Q1 2 else Q1 0); bif d then a8 (o9 (x.2.1,x.2.2.2)) λc=>bif c then a8 (o9 (x.2.2.1,x.1)) λb=>bif b then(g)else bif Eo (x.2.2.2.1=x.1.1)&&Eo (x.2.2.2.2=x.1.2)then Q1 1 else a8 (o9 (x.2.2.2,x.1)) λa=>bif a then Q1 2 else Q1 0 else a8 (o9 (x.2.2.1,x.1)) λb=>bif b then bif Eo (x.2.1.1=x.2.2.1.1)&&Eo (x.2.1.2=x.2.2.1.2)then Q1 1 else a8 (o9 (x.2.1,x.2.2.1)) λa=>bif a then Q1 2 else Q1 0 else(h)else a8 (o9 (x.2.1,x.2.2.1)) λc=>bif c then a8 (o9 (x.2.2.2,x.1)) λb=>bif b then(f)else bif Eo (x.2.2.1.1=x.1.1)&&Eo (x.2.2.1.2=x.1.2)then Q1 1 else a8 (o9 (x.2.2.1,x.1)) λa=>bif a then Q1 2 else Q1 0 else a8 (o9 (x.2.2.2,x.1)) λb=>bif b then bif Eo (x.2.1.1=x.2.2.2.1)&&Eo (x.2.1.2=x.2.2.2.2)then Q1 1 else a8 (o9 (x.2.1,x.2.2.2)) λa=>
 bif a then Q1 2 else Q1 0 else(h)else a8 (o9 (x.2.2.2,x.2.2.1)) λd=>let i:=(bif Eo (x.1.1=x.2.1.1)&&Eo (x.1.2=x.2.1.2)then Q1 1 else a8 (o9 (x.1,x.2.1)) λa=>bif a then Q1 2 else Q1 0); bif d then a8 (o9 (x.1,x.2.2.2)) λc=>bif c then a8 (o9 (x.2.2.1,x.2.1)) λb=>bif b then(g)else bif Eo (x.2.2.2.1=x.2.1.1)&&Eo (x.2.2.2.2=x.2.1.2)then Q1 1 else a8 (o9 (x.2.2.2,x.2.1)) λa=>bif a then Q1 2 else Q1 0 else a8 (o9 (x.2.2.1,x.2.1)) λb=>bif b then bif Eo (x.1.1=x.2.2.1.1)&&Eo (x.1.2=x.2.2.1.2)then Q1 1 else a8 (o9 (x.1,x.2.2.1)) λa=>bif a then Q1 2 else Q1 0 else(i)else a8 (o9 (x.1,x.2.2.1)) λc=>bif c then a8 (o9 (x.2.2.2,x.2.1)) λb=>bif b then(f)else bif Eo (x.2.2.1.1=x.2.1.1)&&Eo (x.2.2.1.2=x.2.1.2)then Q1 1 else a8 (o9 (x.2.2.1,x.2.1)) λa=>bif a then Q1 2 else Q1 0 else a8 (o9 (x.2.2.2,x.2.1)) λb=>bif b then bif Eo (x.1.1=x.2.2.2.1)&&Eo (x.1.2=x.2.2.2.2)then Q1 1 else a8 (o9 (x.1,x.2.2.2)) λa=>bif a then Q1 2 else Q1 0 else(i)
def AP:(Int×Int)×(Int×Int)×(Int×Int)×(Int×Int)->Option (Int):=λx=>a8 (CV [x.1,x.2.1,x.2.2.1,x.2.2.2]) λh=>bif !h then Q1 0 else(let i:=(a8 (we x) λa=>bif Eo (a=0)then a8 (we (x.1,x.2.1,x.1,x.2.2.1)) λb=>bif !decide (b=0)then Q1 0 else a8 (we (x.1,x.2.1,x.1,x.2.2.2)) λd=>bif !decide (d=0)then Q1 0 else a8 (we (x.2.2.1,x.2.2.2,x.2.2.1,x.1)) λe=>bif !decide (e=0)then Q1 0 else a8 (we (x.2.2.1,x.2.2.2,x.2.2.1,x.2.1)) λf=>bif !decide (f=0)then Q1 0 else a8 (HH x) λg=>Q1 g else a8 (we (x.1,x.2.2.1,x.2.2.1,x.2.2.2)) λb=>a8 (we (x.1,x.2.2.1,x.1,x.2.1)) λc=>bif Eo (a<0)then bif Eo ((0:Int)<=(aa.wrap (0-b)))then bif Eo ((aa.wrap (0-b))<=(aa.wrap (0-a)))then bif Eo ((0:Int)<=(aa.wrap (0-c)))then bif Eo ((aa.wrap (0-c))<=(aa.wrap (0-a)))then Q1 1 else Q1 0 else Q1 0 else Q1 0 else Q1 0 else bif Eo (0<=b)then bif Eo (b<=a)then bif Eo (0<=c)then bif Eo (c<=a)then Q1 1 else Q1 0 else Q1 0 else Q1 0 else Q1 0); bif Eo (x.1.1=x.2.1.1)&&Eo (x.1.2=x.2.1.2)then bif Eo (x.2.2.1.1=x.2.2.2.1)&&Eo (x.2.2.1.2=x.2.2.2.2)then bif !(Eo (x.1.1=x.2.2.1.1)&&Eo (x.1.2=x.2.2.1.2))then Q1 0 else(i)else(i)else(i))
def CS:(Int×Int×Int×ny×Int×Int×Int×Int×Int×Int×Int×Int)×(Int×Int×Int×ny×Int×Int×Int×Int×Int×Int×Int×Int)->Option (Bool):=λx=>a8 (AP ((x.1.2.2.2.2.2.2.2.2.1,x.1.2.2.2.2.2.2.2.2.2.1),x.1.2.2.2.2.2.2.2.2.2.2,(x.2.2.2.2.2.2.2.2.2.1,x.2.2.2.2.2.2.2.2.2.2.1),x.2.2.2.2.2.2.2.2.2.2.2)) λa=>bif Eo (x.2.2.2.2.2.2.2.1=(aa.wrap (x.1.2.2.2.2.2.2.1+1)))then Q1 (Eo (a=1))else bif Eo (x.1.2.2.2.2.2.2.1=0)then bif Eo (x.2.2.2.2.2.2.2.1=(aa.wrap (x.2.2.2.2.2.2.2.2.1-1)))then bif Eo (x.1.2.1=x.1.2.2.1)then Q1 (Eo (a=1))else Q1 (Eo (a=0))else Q1 (Eo (a=0))else Q1 (Eo (a=0))
def AQ:zB×Int->Option (Bool):=λx=>bif Eo (x.1.2.1=x.2)then Q1 No else Q1 (Eo (x.1.2.2.1=x.2))
def CO:mL×(Int×Int×Int×ny×Int×Int×Int×Int×Int×Int×Int×Int)×(Int×Int×Int×ny×Int×Int×Int×Int×Int×Int×Int×Int)->Option (Bool):=λx=>a8 (AP ((x.2.1.2.2.2.2.2.2.2.2.1,x.2.1.2.2.2.2.2.2.2.2.2.1),x.2.1.2.2.2.2.2.2.2.2.2.2,(x.2.2.2.2.2.2.2.2.2.2.1,x.2.2.2.2.2.2.2.2.2.2.2.1),x.2.2.2.2.2.2.2.2.2.2.2.2)) λd=>bif !decide (d=1)then Q1 (Eo (d=0))else rounds (λc b=>bif Eo (b<(x.1.1.length:Int))then a8 (nth x.1.1 b) λa=>a8 (AQ ((x.2.1.1,x.2.1.2.1,x.2.1.2.2.1,x.2.1.2.2.2.1,x.2.1.2.2.2.2.1,x.2.1.2.2.2.2.2.1),a.1)) λe=>bif e then a8 (AQ ((x.2.2.1,x.2.2.2.1,x.2.2.2.2.1,x.2.2.2.2.2.1,x.2.2.2.2.2.2.1,x.2.2.2.2.2.2.2.1),a.1)) λf=>bif f then a8 (yk ((x.2.1.2.2.2.2.2.2.2.2.1,x.2.1.2.2.2.2.2.2.2.2.2.1),x.2.1.2.2.2.2.2.2.2.2.2.2,a.2)) λg=>bif g then a8 (yk ((x.2.2.2.2.2.2.2.2.2.2.1,x.2.2.2.2.2.2.2.2.2.2.2.1),x.2.2.2.2.2.2.2.2.2.2.2.2,a.2)) λh=>bif h then Q1 No else c (aa.wrap (b+1))else c (aa.wrap (b+1))else c (aa.wrap (b+1))else c (aa.wrap (b+1))else Q1 N2) 0
def HG:mL->Option (Bool):=λx=>a8 (EA x) λa=>rounds (λr c=>bif Eo (c<(a.length:Int))then a8 (nth a c) λp=>a8 (EM (x,p)) λg=>bif !g then Q1 N2 else rounds (λh b=>bif Eo (b<c)then a8 (nth a b) λi=>a8 (nth a c) λj=>let q:=(a8 (nth a b) λk=>a8 (nth a c) λl=>bif !decide (k.1=l.1)then a8 (nth a b) λd=>a8 (nth a c) λe=>a8 (CO (x,d,e)) λf=>bif !f then Q1 N2 else h (aa.wrap (b+1))else h (aa.wrap (b+1))); bif Eo (i.1=j.1)then a8 (nth a b) λm=>a8 (nth a c) λn=>a8 (CS (m,n)) λo=>bif !o then Q1 N2 else(q)else(q)else r (aa.wrap (c+1))) 0 else Q1 No) 0
def EP:mL->Option (Int):=λx=>a8 (HM x) λl=>bif l then Q1 3 else a8 (zm (x,N2)) λm=>a8 (CI m) λn=>bif !n then Q1 10 else a8 (zm (x,No)) λo=>a8 (CI o) λp=>bif !p then Q1 10 else a8 (CI x.2.2) λd=>bif !d then Q1 10 else a8 (HI x) λe=>bif !e then Q1 2 else a8 (HS x) λf=>bif f then Q1 8 else rounds (λq c=>bif Eo (c<(x.2.1.length:Int))then a8 (nth x.2.1 c) λg=>a8 (ya (x,g)) λh=>bif !(h.2)then Q1 7 else q (aa.wrap (c+1))else rounds (λr b=>bif Eo (b<(x.2.1.length:Int))then a8 (nth x.2.1 b) λa=>a8 (ER (x,a.2.2.2.2.1)) λi=>bif !i then Q1 12 else a8 (nth x.2.1 b) λj=>a8 (ER (x,j.2.2.2.2.2)) λk=>bif !k then Q1 12 else r (aa.wrap (b+1))else a8 (HG x) λa=>bif !a then Q1 11 else Q1 0) 0) 0
def AX:mL×Int->Option (zB×Bool):=λx=>rounds (λe c=>bif Eo (c<(x.1.2.1.length:Int))then a8 (nth x.1.2.1 c) λd=>bif Eo (d.1=x.2)then a8 (nth x.1.2.1 c) λa=>a8 (j6 16 [] a.2.2.2.1) λb=>Q1 ((a.1,a.2.1,a.2.2.1,b,a.2.2.2.2.1,a.2.2.2.2.2),No)else e (aa.wrap (c+1))else Q1 ((0,0,0,[],0,0),N2)) 0
def CU:mL×Int->Option (ny×Int):=λx=>a8 (AX x) λb=>bif !(b.2)then Q1 ([],7)else a8 (ya (x.1,b.1)) λa=>bif !(a.2)then Q1 ([],7)else Q1 (a.1,0)
def ES:mL×Int->Option (ny):=λx=>bif Eo (0<x.2)then a8 (CU x) λe=>Q1 e.1 else a8 (CU (x.1,aa.wrap (0-x.2))) λb=>rounds (λf a=>bif Eo (0<=a.2)then a8 (nth b.1 a.2) λc=>a8 (j6 16 a.1 [c]) λd=>f (d,aa.wrap (a.2-1))else Q1 a.1) ([],aa.wrap ((b.1.length:Int)-1))
def EK:mL×Int->Option (Int×Int):=λx=>a8 (ES x) λa=>bif Eo ((a.length:Int)<2)then Q1 (0,0)else a8 (nth a 1) λb=>Q1 b
def EB:(Int×Int)×(Int×Int)->Option (Int):=λx=>a8 (Q1 (aa.wrap (x.2.1-x.1.1))) λa=>a8 (Q1 (aa.wrap (x.2.2-x.1.2))) λb=>let c:=(bif Eo (a<=0)then bif Eo (0<b)then Q1 1 else bif Eo (a<0)then Q1 2 else Q1 3 else bif Eo (a<0)then Q1 2 else Q1 3); bif Eo (0<a)then bif Eo (0<=b)then Q1 0 else(c)else(c)
def ET:(Int×Int)×(Int×Int)×(Int×Int)->Option (Bool):=λx=>a8 (CV [x.1,x.2.1,x.2.2]) λd=>bif !d then Q1 N2 else bif Eo (x.2.1.1=x.1.1)&&Eo (x.2.1.2=x.1.2)then Q1 N2 else bif Eo (x.2.2.1=x.1.1)&&Eo (x.2.2.2=x.1.2)then Q1 N2 else a8 (EB (x.1,x.2.1)) λa=>a8 (EB (x.1,x.2.2)) λb=>bif Eo (a<b)then Q1 No else bif Eo (a=b)then a8 (we (x.1,x.2.1,x.1,x.2.2)) λc=>Q1 (Eo (0<c))else Q1 N2
def CP:mL×Int->Option (List Int):=λx=>a8 (AR x) λl=>bif !(l.2)then Q1 []else rounds (α:=Int×List (Int)) (λu b=>bif Eo (b.1<x.1.2.1.length)then a8 (nth x.1.2.1 b.1) λm=>bif Eo (m.2.1=x.2)then a8 (nth x.1.2.1 b.1) λf=>a8 (j6 8 b.2 [f.1]) λi=>a8 (nth x.1.2.1 b.1) λg=>bif Eo (g.2.2.1=x.2)then a8 (nth x.1.2.1 b.1) λa=>a8 (j6 8 i [aa.wrap (0-a.1)]) λn=>u (aa.wrap (b.1+1),n)else u (aa.wrap (b.1+1),i)else a8 (nth x.1.2.1 b.1) λf=>bif Eo (f.2.2.1=x.2)then a8 (nth x.1.2.1 b.1) λg=>a8 (j6 8 b.2 [aa.wrap (0-g.1)]) λa=>u (aa.wrap (b.1+1),a)else u (aa.wrap (b.1+1),b.2)else rounds (α:=List (Int×Int)×Int) (λv c=>bif Eo (c.2<b.2.length)then a8 (bif Eo (0<=c.2)&&Eo (c.2<b.2.length)then Q1 ()else Ld) λj=>a8 ((b.2[c.2.toNat]?).map (λx=>x)) λj=>a8 (EK (x.1,j)) λo=>a8 (j6 16 c.1 [o]) λp=>v (p,aa.wrap (c.2+1))else rounds (α:=List (Int)) (λq h=>bif Eo ((h.length:Int)<(b.2.length:Int))then rounds (α:=Int) (λw d=>bif Eo (d<b.2.length)then rounds (α:=Int×Int) (λr e=>bif Eo (e.1<b.2.length)then a8 (bif Eo (0<=e.1)&&Eo (e.1<c.1.length)then Q1 ()else Ld) λk=>a8 ((c.1[e.1.toNat]?).map (λx=>x)) λk=>
 a8 (bif Eo (0<=d)&&Eo (d<c.1.length)then Q1 ()else Ld) λa=>a8 ((c.1[d.toNat]?).map (λx=>x)) λa=>a8 (ET (l.1.2,k,a)) λs=>bif s then r (aa.wrap (e.1+1),aa.wrap (e.2+1))else r (aa.wrap (e.1+1),e.2)else bif Eo (e.2=h.length)then a8 (bif Eo (0<=d)&&Eo (d<b.2.length)then Q1 ()else Ld) λa=>a8 ((b.2[d.toNat]?).map (λx=>x)) λa=>a8 (j6 8 h [a]) λt=>q t else bif Eo (d=(aa.wrap ((b.2.length:Int)-1)))then Q1 []else w (aa.wrap (d+1))) (0,0)else q h) 0 else Q1 h) []) ([],0)) (0,[])
def Hv:mL->Option (List Int×List Int):=λx=>rounds (λk c=>bif Eo (c.2.2<(x.1.length:Int))then a8 (nth x.1 c.2.2) λi=>a8 (CP (x,i.1)) λa=>rounds (λj b=>bif Eo (b.2.2<(a.length:Int))then a8 (bif Eo ((a.length:Int)=0)then Ld else Q1 ((aa.wrap (b.2.2+1)).tmod (a.length:Int))) λd=>a8 (nth a d) λe=>a8 (j6 8 b.1 [aa.wrap (0-e)]) λf=>a8 (nth a b.2.2) λg=>a8 (j6 8 b.2.1 [g]) λh=>j (f,h,aa.wrap (b.2.2+1))else k (b.1,b.2.1,aa.wrap (c.2.2+1))) (c.1,c.2.1,0)else Q1 (c.1,c.2.1)) ([],[],0)
def HQ:mL->Option (List Int):=λx=>rounds (λg a=>bif Eo (0<=a.2)then a8 (nth x.2.1 a.2) λf=>a8 (j6 8 a.1 [aa.wrap (0-f.1)]) λb=>g (b,aa.wrap (a.2-1))else rounds (λh c=>bif Eo (c.2<(x.2.1.length:Int))then a8 (nth x.2.1 c.2) λd=>a8 (j6 8 c.1 [d.1]) λe=>h (e,aa.wrap (c.2+1))else Q1 c.1) (a.1,0)) ([],aa.wrap ((x.2.1.length:Int)-1))
def Ib:List Int×Int->Option (Bool):=λx=>rounds (λc a=>bif Eo (a<(x.1.length:Int))then a8 (nth x.1 a) λb=>bif Eo (b=x.2)then Q1 No else c (aa.wrap (a+1))else Q1 N2) 0
def HW:List Int×List Int×Int->Option (List Int):=λx=>rounds (λi d=>bif Eo ((d.2.length:Int)<=(x.1.length:Int))then rounds (λh b=>bif Eo (b.1<(x.1.length:Int))then a8 (nth x.1 b.1) λe=>a8 (Q1 (aa.wrap ((d.2.length:Int)-1))) λa=>a8 (bif Eo (0<=a)&&Eo (a<d.2.length)then Q1 ()else Ld) λc=>a8 ((d.2[a.toNat]?).map (λx=>x)) λc=>bif Eo (e=c)then a8 (nth x.2.1 b.1) λf=>h (aa.wrap (b.1+1),f)else h (aa.wrap (b.1+1),b.2)else bif Eo (b.2=x.2.2)then Q1 d.2 else a8 (j6 8 d.2 [b.2]) λg=>i (N2,g)) (0,0)else Q1 d.2) (N2,[x.2.2])
def EI:mL->Option (List (List Int)×Int):=λx=>a8 (EP x) λd=>bif !decide (d=0)then Q1 ([],d)else a8 (Hv x) λe=>a8 (HQ x) λc=>rounds (λk a=>bif Eo (a.2.2<(c.length:Int))then a8 (nth c a.2.2) λf=>a8 (Ib (a.2.1,f)) λg=>bif g then k (a.1,a.2.1,aa.wrap (a.2.2+1))else a8 (nth c a.2.2) λh=>a8 (HW (e.1,e.2,h)) λb=>a8 (j6 8 a.2.1 b) λi=>a8 (j6 24 a.1 [b]) λj=>k (j,i,aa.wrap (a.2.2+1))else Q1 (a.1,0)) ([],[],0)
def H':mL×Int->Option (zB×Bool×Bool):=λx=>rounds (λe b=>bif Eo (b<(x.1.2.1.length:Int))then a8 (nth x.1.2.1 b) λd=>bif Eo (d.1=x.2)then a8 (nth x.1.2.1 b) λa=>Q1 (a,N2,No)else a8 (nth x.1.2.1 b) λa=>bif Eo (a.1=(aa.wrap (0-x.2)))then a8 (nth x.1.2.1 b) λc=>Q1 (c,No,No)else e (aa.wrap (b+1))else Q1 ((0,0,0,[],0,0),N2,N2)) 0
def HR:mL×Int->Option (Bool):=λx=>a8 (H' x) λa=>bif a.2.2 then Q1 (!decide (x.2=0))else Q1 N2
def xh:mL×List Int->Option (Int):=λx=>bif Eo ((512:Int)<x.2.length)then Q1 0 else rounds (λl c=>bif Eo (c.2<(x.2.length:Int))then a8 (nth x.2 c.2) λd=>a8 (HR (x.1,d)) λe=>bif !e then Q1 0 else a8 (nth x.2 c.2) λf=>a8 (ES (x.1,f)) λa=>rounds (λk b=>bif Eo (b.2<(a.length:Int))then a8 (nth a (aa.wrap (b.2-1))) λg=>a8 (nth a b.2) λh=>a8 (nth a b.2) λi=>a8 (nth a (aa.wrap (b.2-1))) λj=>k (aa.wrap ((aa.wrap (b.1+(aa.wrap (g.1*h.2))))-(aa.wrap (i.1*j.2))),aa.wrap (b.2+1))else l (b.1,aa.wrap (c.2+1))) (c.1,1)else Q1 c.1) (0,0)
def zi:Int->Option (Int):=λx =>Q1 (bK qG x [aa.wrap (0-x)])
def EF:Int×Int->Option (Bool):=λx=>a8 (zi x.1) λa=>a8 (zi x.2) λb=>bif Eo (a<b)then Q1 No else a8 (zi x.1) λc=>a8 (zi x.2) λd=>bif Eo (c=d)then Q1 (Eo (x.2<x.1))else Q1 N2
def C0:List Int->Option (Int):=λx=>a8 (nth x 0) λb=>rounds (λf a=>bif Eo (a.1<(x.length:Int))then a8 (nth x a.1) λc=>a8 (EF (c,a.2)) λd=>bif d then a8 (nth x a.1) λe=>f (aa.wrap (a.1+1),e)else f (aa.wrap (a.1+1),a.2)else Q1 a.2) (0,b)
def EJ:mL->Option (List (List Int)):=λx=>a8 (EI x) λd=>rounds (λr e=>bif Eo (e.2<(d.1.length:Int))then a8 (nth d.1 e.2) λi=>a8 (xh (x,i)) λj=>bif Eo (j<=0)then r (e.1,aa.wrap (e.2+1))else a8 (nth d.1 e.2) λk=>a8 (j6 24 e.1 [k]) λl=>rounds (λq a=>let s:=(a8 (nth d.1 e.2) λb=>a8 (bif Eo (0<=a.2)&&Eo (a.2<a.1.length)then Q1 ()else Ld) λc=>a8 (qI a.1 a.2.toNat (λx y=>y) b) λc=>r (c,aa.wrap (e.2+1))); bif Eo (0<a.2)then a8 (nth d.1 e.2) λm=>a8 (C0 m) λn=>a8 (Q1 (aa.wrap (a.2-1))) λf=>a8 (bif Eo (0<=f)&&Eo (f<a.1.length)then Q1 ()else Ld) λg=>a8 ((a.1[f.toNat]?).map (λx=>x)) λg=>a8 (C0 g) λo=>a8 (EF (n,o)) λp=>bif p then a8 (Q1 (aa.wrap (a.2-1))) λb=>a8 (bif Eo (0<=b)&&Eo (b<a.1.length)then Q1 ()else Ld) λc=>a8 ((a.1[b.toNat]?).map (λx=>x)) λc=>a8 (bif Eo (0<=a.2)&&Eo (a.2<a.1.length)then Q1 ()else Ld) λh=>a8 (qI a.1 a.2.toNat (λx y=>y) c) λh=>q (h,aa.wrap (a.2-1))else(s)else(s)) (l,(e.1.length:Int))else Q1 e.1) ([],0)
def CW:mL×Int->Option (ny):=λx=>a8 (zi x.2) λe=>a8 (CU (x.1,e)) λb=>bif Eo (0<x.2)then Q1 b.1 else rounds (λf a=>bif Eo (0<=a.2)then a8 (nth b.1 a.2) λc=>a8 (j6 16 a.1 [c]) λd=>f (d,aa.wrap (a.2-1))else Q1 a.1) ([],aa.wrap ((b.1.length:Int)-1))
def zh:(Int×Int)×(Int×Int)×(Int×Int)->Option (Int):=λx=>a8 (Q1 (aa.wrap ((aa.wrap ((aa.wrap (x.2.1.1-x.1.1))*(aa.wrap (x.2.2.2-x.1.2))))-(aa.wrap ((aa.wrap (x.2.2.1-x.1.1))*(aa.wrap (x.2.1.2-x.1.2))))))) λa=>bif Eo (0<a)then Q1 1 else bif Eo (a<0)then Q1 (-1)else Q1 0
def EZ:(Int×Int)×(Int×Int)×(Int×Int)->Option (Bool):=λx=>a8 (zh x) λa=>bif Eo (a=0)then bif Eo ((bK w6 x.1.1 [x.2.1.1])<=x.2.2.1)then bif Eo (x.2.2.1<=(bK qG x.1.1 [x.2.1.1]))then bif Eo ((bK w6 x.1.2 [x.2.1.2])<=x.2.2.2)then Q1 (Eo (x.2.2.2<=(bK qG x.1.2 [x.2.1.2])))else Q1 N2 else Q1 N2 else Q1 N2 else Q1 N2
def CN:mL×List Int×(Int×Int)->Option (Bool):=λx=>rounds (λj g=>bif Eo (g.2<(x.2.1.length:Int))then a8 (nth x.2.1 g.2) λh=>a8 (CW (x.1,h)) λe=>rounds (λd a=>bif Eo (a.1<(e.length:Int))then a8 (nth e (aa.wrap (a.1-1))) λb=>a8 (nth e a.1) λc=>a8 (EZ (b,c,x.2.2)) λi=>bif i then Q1 N2 else bif Eo (c.2<b.2)then bif Eo (c.2<=x.2.2.2)then bif Eo (x.2.2.2<b.2)then a8 (zh (c,b,x.2.2)) λf=>bif Eo (0<f)then d (aa.wrap (a.1+1),(!(a.2)))else d (aa.wrap (a.1+1),a.2)else d (aa.wrap (a.1+1),a.2)else d (aa.wrap (a.1+1),a.2)else bif Eo (b.2<=x.2.2.2)then bif Eo (x.2.2.2<c.2)then a8 (zh (b,c,x.2.2)) λf=>bif Eo (0<f)then d (aa.wrap (a.1+1),(!(a.2)))else d (aa.wrap (a.1+1),a.2)else d (aa.wrap (a.1+1),a.2)else d (aa.wrap (a.1+1),a.2)else j (a.2,aa.wrap (g.2+1))) (1,g.1)else Q1 g.1) (N2,0)
def AM:mL×List (List Int)×(Int×Int)->Option (Int):=λx=>rounds (λh a=>bif Eo (a.1<(x.2.1.length:Int))then a8 (nth x.2.1 a.1) λb=>a8 (CN (x.1,b,x.2.2)) λc=>bif c then bif Eo (a.2<0)then h (aa.wrap (a.1+1),a.1)else a8 (nth x.2.1 a.1) λd=>a8 (xh (x.1,d)) λe=>a8 (nth x.2.1 a.2) λf=>a8 (xh (x.1,f)) λg=>bif Eo (e<g)then h (aa.wrap (a.1+1),a.1)else h (aa.wrap (a.1+1),a.2)else h (aa.wrap (a.1+1),a.2)else Q1 a.2) (0,(-1))
def HL:mL×Int->Option (Int):=λx=>rounds (λd b=>bif Eo (b.1<(x.1.2.1.length:Int))then a8 (nth x.1.2.1 b.1) λe=>bif Eo (e.2.1=x.2)then a8 (Q1 (aa.wrap (b.2+1))) λa=>a8 (nth x.1.2.1 b.1) λc=>bif Eo (c.2.2.1=x.2)then d (aa.wrap (b.1+1),aa.wrap (a+1))else d (aa.wrap (b.1+1),a)else a8 (nth x.1.2.1 b.1) λa=>bif Eo (a.2.2.1=x.2)then d (aa.wrap (b.1+1),aa.wrap (b.2+1))else d (aa.wrap (b.1+1),b.2)else Q1 b.2) (0,0)
def CL:mL->Option (List wC):=λx=>a8 (EJ x) λm=>rounds (λD n=>bif Eo (n.2.1<(m.length:Int))then a8 (nth m n.2.1) λe=>a8 (j6 80 n.2.2 [(0,e,(),())]) λo=>D (N2,aa.wrap (n.2.1+1),o)else a8 (EI x) λe=>a8 (zs (λx=>(x.1,x.2.1,[],[])) n.2.2) λp=>rounds (λq a=>bif Eo (a.1<(e.1.length:Int))then a8 (nth e.1 a.1) λr=>a8 (xh (x,r)) λs=>bif Eo (s<=0)then a8 (nth e.1 a.1) λt=>a8 (nth t 0) λu=>a8 (CW (x,u)) λg=>a8 (nth g 0) λv=>a8 (AM (x,m,v)) λh=>a8 (Q1 (aa.wrap (1+h))) λc=>a8 ((a.2[c.toNat]?).map (λx=>x.2.2.1)) λi=>a8 (bif Eo (0<=c)&&Eo (c<a.2.length)then Q1 ()else Ld) λj=>a8 (uM a.2 c) λj=>a8 (nth e.1 a.1) λj=>a8 (j6 24 i [j]) λw=>a8 (bif Eo (0<=c)&&Eo (c<a.2.length)then Q1 ()else Ld) λf=>a8 (uM a.2 c) λf=>a8 (qI a.2 c.toNat (λx y=>(x.1,x.2.1,y,x.2.2.2)) w) λf=>q (aa.wrap (a.1+1),f)else q (aa.wrap (a.1+1),a.2)else rounds (λz b=>bif Eo (b.1<(x.1.length:Int))then a8 (nth x.1 b.1) λg=>a8 (HL (x,g.1)) λh=>bif Eo (h=0)then a8 (nth x.1 b.1) λi=>a8 (AM (x,m,i.2)) λf=>a8 (Q1 (aa.wrap (1+f))) λd=>a8 ((b.2[d.toNat]?).map (λx=>x.2.2.2)) λB=>
 a8 (bif Eo (0<=d)&&Eo (d<b.2.length)then Q1 ()else Ld) λk=>a8 (uM b.2 d) λk=>a8 (nth x.1 b.1) λk=>a8 (j6 8 B [k.1]) λC=>a8 (bif Eo (0<=d)&&Eo (d<b.2.length)then Q1 ()else Ld) λl=>a8 (uM b.2 d) λl=>a8 (qI b.2 d.toNat (λx y=>(x.1,x.2.1,x.2.2.1,y)) C) λl=>z (aa.wrap (b.1+1),l)else z (aa.wrap (b.1+1),b.2)else Q1 b.2) (0,a.2)) (0,p)) (N2,0,[(0,[],(),())])
def AT:mL×Int->Option (Int):=λx=>bif Eo (0<x.2)then a8 (AX x) λa=>Q1 a.1.2.2.2.2.1 else bif Eo ((0:Int)<(aa.wrap (0-x.2)))then a8 (AX (x.1,aa.wrap (0-x.2))) λb=>Q1 b.1.2.2.2.2.2 else Q1 0
def Ia:List Int×Int->Option (Bool):=λx=>rounds (λc a=>bif Eo (a<(x.1.length:Int))then a8 (nth x.1 a) λb=>bif Eo (b=x.2)then Q1 No else c (aa.wrap (a+1))else Q1 N2) 0
def zf:mL×List Int×Int->Option (Bool):=λx=>rounds (λd b=>bif Eo (b<(x.2.1.length:Int))then a8 (nth x.2.1 b) λc=>a8 (AT (x.1,c)) λa=>bif !decide (a=x.2.2)then Q1 N2 else d (aa.wrap (b+1))else Q1 No) 0
def H4:List Int×Int->Option (List Int):=λx=>a8 (Ia x) λf=>bif f then Q1 x.1 else rounds (λj a=>let i:=(a8 (tx x.1 Ld (Q1 a)) λg=>a8 (j6 8 [] g) λb=>a8 (j6 8 b [x.2]) λc=>a8 (tx x.1 (Q1 a) Ld) λd=>a8 (j6 8 c d) λe=>Q1 e); bif Eo (a<x.1.length)then a8 (nth x.1 a) λh=>bif Eo (h<x.2)then j (aa.wrap (a+1))else(i)else(i)) 0
def EG:List Int->Option (List Int):=λx=>rounds (λd a=>bif Eo (a.2<(x.length:Int))then a8 (nth x a.2) λb=>a8 (H4 (a.1,b)) λc=>d (c,aa.wrap (a.2+1))else Q1 a.1) ([],0)
def HZ:List Int×List Int->Option (Bool):=λx=>bif !decide ((x.1.length:Int)=(x.2.length:Int))then Q1 N2 else rounds (λd b=>bif Eo (b<(x.1.length:Int))then a8 (nth x.1 b) λc=>a8 (nth x.2 b) λa=>bif !decide (c=a)then Q1 N2 else d (aa.wrap (b+1))else Q1 No) 0
def EN:mL->Option (List wC×Bool):=λx=>a8 (CL x) λv=>rounds (α:=Int×List (Int×List (Int)×List (List (Int))×List (Int))×List (Int)) (λB a=>bif Eo (a.1<a.2.1.length)then bif Eo (0<a.1)then a8 (bif Eo (0<=a.1)&&Eo (a.1<a.2.1.length)then Q1 ()else Ld) λc=>a8 ((a.2.1[a.1.toNat]?).map (λx=>x.2.1)) λc=>a8 (nth c 0) λf=>a8 (AT (x,f)) λi=>a8 (bif Eo (0<=a.1)&&Eo (a.1<a.2.1.length)then Q1 ()else Ld) λb=>a8 (qI a.2.1 a.1.toNat (λx y=>(y,x.2.1,x.2.2.1,x.2.2.2)) i) λb=>a8 (bif Eo (0<=a.1)&&Eo (a.1<b.length)then Q1 ()else Ld) λk=>a8 ((b[a.1.toNat]?).map (λx=>x.1)) λk=>bif Eo (k=0)then Q1 ([],N2)else a8 (bif Eo (0<=a.1)&&Eo (a.1<b.length)then Q1 ()else Ld) λd=>a8 ((b[a.1.toNat]?).map (λx=>x.1)) λd=>a8 (Ia (a.2.2,d)) λr=>bif r then Q1 ([],N2)else a8 (bif Eo (0<=a.1)&&Eo (a.1<b.length)then Q1 ()else Ld) λl=>a8 ((b[a.1.toNat]?).map (λx=>x.1)) λl=>a8 (j6 8 a.2.2 [l]) λg=>a8 (bif Eo (0<=a.1)&&Eo (a.1<b.length)then Q1 ()else Ld) λh=>a8 ((b[a.1.toNat]?).map (λx=>x.2.1)) λh=>a8 (bif Eo (0<=a.1)&&Eo (a.1<b.length)then Q1 ()else Ld) λe=>a8 ((b[a.1.toNat]?).map (λx=>x.1)) λe=>a8 (zf (x,h,e)) λj=>
 bif !j then Q1 ([],N2)else rounds (α:=Int) (λw p=>a8 (bif Eo (0<=a.1)&&Eo (a.1<b.length)then Q1 ()else Ld) λm=>a8 ((b[a.1.toNat]?).map (λx=>x.2.2.1)) λm=>bif Eo (p<m.length)then a8 (bif Eo (0<=a.1)&&Eo (a.1<b.length)then Q1 ()else Ld) λn=>a8 ((b[a.1.toNat]?).map (λx=>x.2.2.1)) λn=>a8 (nth n p) λs=>a8 (bif Eo (0<=a.1)&&Eo (a.1<b.length)then Q1 ()else Ld) λo=>a8 ((b[a.1.toNat]?).map (λx=>x.1)) λo=>a8 (zf (x,s,o)) λt=>bif !t then Q1 ([],N2)else w (aa.wrap (p+1))else B (aa.wrap (a.1+1),b,g)) 0 else a8 (bif Eo (0<=a.1)&&Eo (a.1<a.2.1.length)then Q1 ()else Ld) λc=>a8 ((a.2.1[a.1.toNat]?).map (λx=>x.2.1)) λc=>a8 (bif Eo (0<=a.1)&&Eo (a.1<a.2.1.length)then Q1 ()else Ld) λf=>a8 ((a.2.1[a.1.toNat]?).map (λx=>x.1)) λf=>a8 (zf (x,c,f)) λi=>bif !i then Q1 ([],N2)else rounds (α:=Int) (λz q=>a8 (bif Eo (0<=a.1)&&Eo (a.1<a.2.1.length)then Q1 ()else Ld) λd=>a8 ((a.2.1[a.1.toNat]?).map (λx=>x.2.2.1)) λd=>bif Eo (q<d.length)then a8 (bif Eo (0<=a.1)&&Eo (a.1<a.2.1.length)then Q1 ()else Ld) λg=>a8 ((a.2.1[a.1.toNat]?).map (λx=>x.2.2.1)) λg=>a8 (nth g q) λh=>
 a8 (bif Eo (0<=a.1)&&Eo (a.1<a.2.1.length)then Q1 ()else Ld) λe=>a8 ((a.2.1[a.1.toNat]?).map (λx=>x.1)) λe=>a8 (zf (x,h,e)) λj=>bif !j then Q1 ([],N2)else z (aa.wrap (q+1))else B (aa.wrap (a.1+1),a.2.1,a.2.2)) 0 else a8 (EG a.2.2) λu=>a8 (HZ (u,x.2.2)) λc=>Q1 (a.2.1,c)) (0,v,[])
def EO:mL->Option (Int):=λx=>a8 (EP x) λa=>bif !decide (a=0)then Q1 a else a8 (EN x) λb=>bif !(b.2)then Q1 12 else Q1 0
def Ex:List Int->Option (Bool):=λx=>rounds (λd a=>bif Eo (a<(x.length:Int))then a8 (nth x (aa.wrap (a-1))) λb=>a8 (nth x a) λc=>bif Eo (c<=b)then Q1 N2 else d (aa.wrap (a+1))else Q1 No) 1
def wj:Int->Option (Int):=λx=>bif Eo (x=1)then Q1 1 else bif Eo (x=2)then Q1 1 else bif Eo (x=8)then Q1 1 else bif Eo (x=3)then Q1 2 else bif Eo (x=4)then Q1 2 else bif Eo (x=5)then Q1 3 else bif Eo (x=6)then Q1 3 else bif Eo (x=7)then Q1 3 else Q1 0
def HY:ByteArray->Option (Int):=λx=>bif Eo ((x.size:Int)=(1:Int))then a8 (pE x (0:Int)) λg=>Q1 (aa.wrap g)else bif Eo ((x.size:Int)=(2:Int))then a8 (pE x (0:Int)) λb=>a8 (bif Eo ((32:Int)=0)then Ld else Q1 ((aa.wrap b).tmod (32:Int))) λc=>a8 (pE x (1:Int)) λd=>a8 (bif Eo ((64:Int)=0)then Ld else Q1 ((aa.wrap d).tmod (64:Int))) λa=>Q1 (aa.wrap ((aa.wrap (c*(64:Int)))+a))else a8 (pE x (0:Int)) λb=>a8 (bif Eo ((16:Int)=0)then Ld else Q1 ((aa.wrap b).tmod (16:Int))) λc=>a8 (pE x (1:Int)) λd=>a8 (bif Eo ((64:Int)=0)then Ld else Q1 ((aa.wrap d).tmod (64:Int))) λa=>a8 (pE x (2:Int)) λe=>a8 (bif Eo ((64:Int)=0)then Ld else Q1 ((aa.wrap e).tmod (64:Int))) λf=>Q1 (aa.wrap ((aa.wrap ((aa.wrap (c*(4096:Int)))+(aa.wrap (a*(64:Int)))))+f))
def Mm:Int->Option (Bool):=λx=>bif Eo (48<=x)then Q1 (Eo (x<=57))else Q1 N2
def Cj(a b v x:Int)(k:Option Int):Option Int:=bif (Eo (a<=x))then(bif (Eo (x<=b))then Q1 v else k)else k
def EE:Int->Option (Int):=λx=>bif Eo (x=32)then Q1 0 else bif Eo (x=39)then Q1 0 else bif Eo (x=40)then Q1 0 else bif Eo (x=41)then Q1 0 else bif Eo (x=45)then Q1 0 else bif Eo (x=46)then Q1 0 else a8 (Mm x) λa=>bif a then Q1 0 else(Cj 65 90 1 x (Cj 97 122 1 x ((λk=>bif Eo (192<=x)then bif Eo (x<=591)then bif !decide (x=215)then bif !decide (x=247)then Q1 1 else k else k else k else k) (Cj 880 1023 2 x (Cj 1024 1279 3 x (Cj 1488 1514 4 x (Cj 19968 40959 5 x (Q1 (-1)))))))))
def H7:Int->Option (ByteArray):=λx=>bif Eo (x<(128:Int))then Q1 (zP [fq.wrap x])else bif Eo (x<(2048:Int))then a8 (bif Eo ((64:Int)=0)then Ld else Q1 (aa.wrap (x.tdiv (64:Int)))) λa=>a8 (bif Eo ((64:Int)=0)then Ld else Q1 (x.tmod (64:Int))) λb=>Q1 (zP [fq.wrap (aa.wrap ((192:Int)+a)),(fq.wrap (aa.wrap ((128:Int)+b)))])else a8 (bif Eo ((4096:Int)=0)then Ld else Q1 (aa.wrap (x.tdiv (4096:Int)))) λa=>a8 (bif Eo ((64:Int)=0)then Ld else Q1 (aa.wrap (x.tdiv (64:Int)))) λb=>a8 (bif Eo ((64:Int)=0)then Ld else Q1 (b.tmod (64:Int))) λd=>a8 (bif Eo ((64:Int)=0)then Ld else Q1 (x.tmod (64:Int))) λc=>Q1 (zP [fq.wrap (aa.wrap ((224:Int)+a)),fq.wrap (aa.wrap ((128:Int)+d)),(fq.wrap (aa.wrap ((128:Int)+c)))])
def HJ:ByteArray->Option (List Int×Int):=λx=>rounds (λk c=>bif Eo (c.2<(x.size:Int))then rounds (λi a=>let j:=(bif Eo (a.2.2=0)then Q1 ([],4)else k (a.2.1,aa.wrap (c.2+a.2.2))); bif Eo (a.1<=3)then bif Eo ((aa.wrap (c.2+a.1))<=(x.size:Int))then bif Eo (a.2.2=0)then a8 (D8 x (Q1 c.2) (Q1 (aa.wrap (c.2+a.1)))) λd=>a8 (HY d) λb=>a8 (EE b) λe=>bif Eo (0<=e)then a8 (H7 b) λf=>a8 (D8 x (Q1 c.2) (Q1 (aa.wrap (c.2+a.1)))) λg=>bif (f.toList==g.toList)then a8 (j6 8 a.2.1 [b]) λh=>i (aa.wrap (a.1+1),h,a.1)else i (aa.wrap (a.1+1),a.2.1,a.2.2)else i (aa.wrap (a.1+1),a.2.1,a.2.2)else(j)else(j)else(j)) (1,c.1,0)else Q1 (c.1,0)) ([],0)
def HF:List Int->Option (Bool):=λx=>a8 (nth x 0) λd=>bif Eo (d=32)then Q1 No else a8 (nth x (aa.wrap ((x.length:Int)-1))) λe=>bif Eo (e=32)then Q1 No else rounds (λf a=>bif Eo (a<(x.length:Int))then a8 (nth x a) λb=>bif Eo (b=32)then a8 (nth x (aa.wrap (a-1))) λc=>bif Eo (c=32)then Q1 No else f (aa.wrap (a+1))else f (aa.wrap (a+1))else Q1 N2) 1
def HE:List Int->Option (Bool):=λx=>rounds (λd a=>bif Eo (a<(x.length:Int))then a8 (nth x a) λb=>a8 (EE b) λc=>bif !decide (c=0)then Q1 N2 else d (aa.wrap (a+1))else Q1 No) 0
def HX:ByteArray->Option (Int):=λx=>bif (x.toList==(bW #[]).toList)then Q1 14 else bif Eo ((40:Int)<x.size)then Q1 3 else a8 (HJ x) λa=>bif !decide (a.2=0)then Q1 a.2 else bif Eo ((a.1.length:Int)=0)then Q1 14 else a8 (HF a.1) λc=>bif c then Q1 14 else a8 (HE a.1) λb=>bif b then Q1 14 else Q1 0
def EW:List Int×Int->Option (Bool):=λx=>rounds (λc a=>bif Eo (a<(x.1.length:Int))then a8 (nth x.1 a) λb=>bif Eo (b=x.2)then Q1 No else c (aa.wrap (a+1))else Q1 N2) 0
def HA:mL×Int×Int->Option (Bool):=λx=>bif Eo (x.2.1=1)then a8 (AR (x.1,x.2.2)) λb=>Q1 b.2 else bif Eo (x.2.1=2)then a8 (AX (x.1,x.2.2)) λa=>Q1 a.2 else a8 (EW (x.1.2.2,x.2.2)) λa=>Q1 a
def Ez:mL×qX->Option (Bool):=λx=>rounds (λe d=>bif Eo (d<(x.2.2.2.2.2.length:Int))then a8 (wj x.2.2.1) λa=>a8 (nth x.2.2.2.2.2 d) λb=>a8 (HA (x.1,a,b)) λc=>bif !c then Q1 N2 else e (aa.wrap (d+1))else Q1 No) 0
def wi:qy×qX×Int->Option (Bool):=λx=>bif Eo (x.2.2=3)then Q1 (Eo ((64:Int)<x.2.1.2.2.2.2.length))else bif Eo (x.2.2=10)then a8 (Ex x.2.1.2.2.2.2) λb=>Q1 (!b)else bif Eo (x.2.2=2)then bif Eo (x.2.1.1<1)then Q1 No else bif Eo (1073741824<x.2.1.1)then Q1 No else bif Eo (x.2.1.2.2.1<1)then Q1 No else Q1 (Eo (9<x.2.1.2.2.1))else bif Eo (x.2.2=9)then a8 (wj x.2.1.2.1) λc=>Q1 (Eo (c=0))else bif Eo (x.2.2=14)then bif !(x.2.1.2.2.2.1.toList==(bW #[]).toList)then a8 (HX x.2.1.2.2.2.1) λa=>Q1 (!decide (a=0))else Q1 N2 else bif Eo (x.2.2=1)then bif Eo ((x.2.1.2.2.2.2.length:Int)=0)then Q1 No else a8 (wj x.2.1.2.1) λd=>bif Eo (d=1)then Q1 (Eo ((1:Int)<x.2.1.2.2.2.2.length))else Q1 N2 else a8 (Ez ((x.1.1,x.1.2.1,x.1.2.2.1),x.2.1)) λa=>Q1 (!a)
def xk:qy×Int->Option (Bool):=λx=>rounds (λd b=>bif Eo (b<(x.1.2.2.2.length:Int))then a8 (nth x.1.2.2.2 b) λc=>a8 (wi (x.1,c,x.2)) λa=>bif a then Q1 No else d (aa.wrap (b+1))else Q1 N2) 0
def EL:qX×qX->Option (Bool):=λx=>a8 (wj x.1.2.1) λb=>bif Eo (b=2)then Q1 N2 else a8 (wj x.1.2.1) λc=>a8 (wj x.2.2.1) λd=>bif !decide (c=d)then Q1 N2 else a8 (wj x.1.2.1) λe=>let i:=(rounds (λh a=>bif Eo (a<(x.1.2.2.2.2.length:Int))then a8 (nth x.1.2.2.2.2 a) λf=>a8 (EW (x.2.2.2.2.2,f)) λg=>bif g then Q1 No else h (aa.wrap (a+1))else Q1 N2) 0); bif Eo (e=3)then bif !decide (x.1.2.1=x.2.2.1)then Q1 N2 else(i)else(i)
def H8:qy->Option (Bool):=λx=>rounds (λf d=>bif Eo (d<(x.2.2.2.length:Int))then rounds (λg e=>bif Eo (e<d)then a8 (nth x.2.2.2 d) λa=>a8 (nth x.2.2.2 e) λb=>a8 (EL (a,b)) λc=>bif c then Q1 No else g (aa.wrap (e+1))else f (aa.wrap (d+1))) 0 else Q1 N2) 0
def HU:qy->Option (Int):=λx=>a8 (EO (x.1,x.2.1,x.2.2.1)) λc=>bif !decide (c=0)then Q1 c else bif Eo ((128:Int)<x.2.2.2.length)then Q1 3 else rounds (λl d=>bif Eo (d.2<(x.2.2.2.length:Int))then a8 (nth x.2.2.2 d.2) λa=>a8 (j6 8 d.1 [a.1]) λb=>l (b,aa.wrap (d.2+1))else a8 (xk (x,3)) λa=>bif a then Q1 3 else a8 (xk (x,10)) λe=>bif e then Q1 10 else a8 (Ex d.1) λf=>bif !f then Q1 10 else a8 (xk (x,2)) λg=>bif g then Q1 2 else a8 (xk (x,9)) λb=>bif b then Q1 9 else a8 (xk (x,14)) λh=>bif h then Q1 14 else a8 (xk (x,1)) λi=>bif i then Q1 1 else a8 (xk (x,7)) λj=>bif j then Q1 7 else a8 (H8 x) λk=>bif k then Q1 13 else Q1 0) ([],0)
def HB:mL->Option (List wC×Int):=λx=>a8 (EO x) λd=>bif !decide (d=0)then Q1 ([],d)else a8 (EN x) λc=>a8 (nth c.1 0) λj=>rounds (λk b=>bif Eo (b.2<(x.2.2.length:Int))then rounds (λe a=>bif Eo (a.1<(c.1.length:Int))then a8 (nth c.1 a.1) λf=>a8 (nth x.2.2 b.2) λg=>bif Eo (f.1=g)then a8 (nth c.1 a.1) λh=>a8 (j6 80 a.2 [h]) λi=>e (aa.wrap (a.1+1),i)else e (aa.wrap (a.1+1),a.2)else k (a.2,aa.wrap (b.2+1))) (1,b.1)else Q1 (b.1,0)) ([j],0)
def m6:List Int×Int->Option (Bool):=λx=>rounds (λc a=>bif Eo (a<(x.1.length:Int))then a8 (nth x.1 a) λb=>bif Eo (b=x.2)then Q1 No else c (aa.wrap (a+1))else Q1 N2) 0
def CT:mL×Int->Option (List Int):=λx=>a8 (CP x) λd=>rounds (λn c=>bif Eo (c.2<(d.length:Int))then a8 (nth d c.2) λe=>a8 (AT (x.1,e)) λf=>a8 (nth d c.2) λa=>a8 (AT (x.1,aa.wrap (0-a))) λg=>a8 (j6 8 c.1 [f,g]) λh=>n (h,aa.wrap (c.2+1))else bif Eo ((0:Int)<c.1.length)then Q1 c.1 else a8 (HB x.1) λa=>rounds (λi b=>bif Eo (b.1<(a.1.length:Int))then a8 (nth a.1 b.1) λj=>a8 (m6 (j.2.2.2,x.2)) λk=>bif k then a8 (nth a.1 b.1) λl=>a8 (j6 8 b.2 [l.1]) λm=>i (aa.wrap (b.1+1),m)else i (aa.wrap (b.1+1),b.2)else Q1 b.2) (0,c.1)) ([],0)
def EV:List Int×List Int->Option (Bool):=λx=>rounds (λd a=>bif Eo (a<(x.2.length:Int))then a8 (nth x.2 a) λb=>a8 (m6 (x.1,b)) λc=>bif !c then Q1 N2 else d (aa.wrap (a+1))else Q1 No) 0
def AL:List Int×List Int->Option (Bool):=λx=>rounds (λd a=>bif Eo (a<(x.1.length:Int))then a8 (nth x.1 a) λb=>a8 (m6 (x.2,b)) λc=>bif c then Q1 No else d (aa.wrap (a+1))else Q1 N2) 0
def CJ:mL×List Int×List Int->Option (Bool):=λx=>a8 (AL x.2) λj=>bif j then Q1 N2 else rounds (λk c=>bif Eo (c<(x.1.2.1.length:Int))then a8 (nth x.1.2.1 c) λa=>a8 (nth x.1.2.1 c) λb=>a8 (m6 (x.2.1,a.2.2.2.2.1)) λd=>let l:=(a8 (m6 (x.2.1,b.2.2.2.2.2)) λe=>bif e then a8 (m6 (x.2.1,a.2.2.2.2.1)) λf=>bif !f then a8 (m6 (x.2.2,a.2.2.2.2.1)) λg=>bif !g then Q1 N2 else k (aa.wrap (c+1))else k (aa.wrap (c+1))else k (aa.wrap (c+1))); bif d then a8 (m6 (x.2.1,b.2.2.2.2.2)) λh=>bif !h then a8 (m6 (x.2.2,b.2.2.2.2.2)) λi=>bif !i then Q1 N2 else(l)else(l)else(l)else Q1 No) 0
def zg:mL×List Int->Option (List Int):=λx=>rounds (λg a=>bif Eo (a.1<(x.1.2.1.length:Int))then a8 (nth x.1.2.1 a.1) λf=>a8 (m6 (x.2,f.1)) λb=>bif b then a8 (nth x.1.2.1 a.1) λc=>a8 (nth x.1.2.1 a.1) λd=>a8 (j6 8 a.2 [c.2.1,d.2.2.1]) λe=>g (aa.wrap (a.1+1),e)else g (aa.wrap (a.1+1),a.2)else Q1 a.2) (0,[])
def CH:mL×List Int×List Int->Option (Bool):=λx=>rounds (λh b=>bif Eo (b<(x.1.2.1.length:Int))then a8 (nth x.1.2.1 b) λc=>a8 (nth x.1.2.1 b) λa=>a8 (m6 (x.2.1,c.2.2.2.2.1)) λd=>let i:=(a8 (m6 (x.2.1,a.2.2.2.2.2)) λe=>bif e then a8 (m6 (x.2.2,c.2.2.2.2.1)) λf=>bif f then Q1 No else h (aa.wrap (b+1))else h (aa.wrap (b+1))); bif d then a8 (m6 (x.2.2,a.2.2.2.2.2)) λg=>bif g then Q1 No else(i)else(i)else Q1 N2) 0
def xl:mL×qX×qX->Option (Bool):=λx=>a8 (zg (x.1,x.2.1.2.2.2.2)) λa=>a8 (zg (x.1,x.2.2.2.2.2.2)) λb=>a8 (AL (a,b)) λc=>Q1 c
def CK:mL×List Int×List Int->Option (Bool):=λx=>rounds (λg a=>bif Eo (a<(x.1.2.1.length:Int))then a8 (nth x.1.2.1 a) λh=>a8 (m6 (x.2.1,h.1)) λb=>bif b then a8 (nth x.1.2.1 a) λc=>a8 (m6 (x.2.2,c.2.2.2.2.1)) λd=>bif d then a8 (nth x.1.2.1 a) λe=>a8 (m6 (x.2.2,e.2.2.2.2.2)) λf=>bif f then Q1 No else g (aa.wrap (a+1))else g (aa.wrap (a+1))else g (aa.wrap (a+1))else Q1 N2) 0
def zc:qy×qX×qX->Option (Bool):=λx=>rounds (λl f=>bif f.2 then rounds (λm b=>bif Eo (b.2.2<(x.1.2.2.2.length:Int))then rounds (λd a=>bif Eo (a.1<(x.1.2.2.2.length:Int))then a8 (nth x.1.2.2.2 b.2.2) λe=>a8 (nth x.1.2.2.2 a.1) λc=>bif Eo (e.2.1=x.2.1.2.1)then bif Eo (c.2.1=x.2.1.2.1)then a8 (m6 (a.2.1,e.1)) λg=>bif g then a8 (m6 (a.2.1,c.1)) λh=>bif !h then a8 (xl ((x.1.1,x.1.2.1,x.1.2.2.1),e,c)) λi=>bif i then a8 (j6 8 a.2.1 [c.1]) λj=>d (aa.wrap (a.1+1),j,No)else d (aa.wrap (a.1+1),a.2.1,a.2.2)else d (aa.wrap (a.1+1),a.2.1,a.2.2)else d (aa.wrap (a.1+1),a.2.1,a.2.2)else d (aa.wrap (a.1+1),a.2.1,a.2.2)else d (aa.wrap (a.1+1),a.2.1,a.2.2)else m (a.2.1,a.2.2,aa.wrap (b.2.2+1))) (0,b.1,b.2.1)else l (b.1,b.2.1)) (f.1,N2,0)else a8 (m6 (f.1,x.2.2.1)) λk=>Q1 k) ([x.2.1.1],No)
def tY:qy×Int×qX×qX->Option (Bool):=λx=>a8 (wj x.2.2.1.2.1) λa=>a8 (wj x.2.2.2.2.1) λb=>a8 (Q1 (Eo (x.2.2.1.1<x.2.2.2.1))) λd=>bif Eo (x.2.1=1)then(let l:=(bif Eo (a=3)then bif Eo (b=3)then a8 (CJ ((x.1.1,x.1.2.1,x.1.2.2.1),x.2.2.1.2.2.2.2,x.2.2.2.2.2.2.2)) λe=>Q1 e else Q1 N2 else Q1 N2); bif Eo (a=1)then bif Eo (b=3)then a8 (nth x.2.2.1.2.2.2.2 0) λi=>a8 (CT ((x.1.1,x.1.2.1,x.1.2.2.1),i)) λf=>a8 (EV (x.2.2.2.2.2.2.2,f)) λc=>bif c then Q1 No else(l)else(l)else(l))else bif Eo (x.2.1=2)then bif Eo (a=1)then bif Eo (b=2)then a8 (zg ((x.1.1,x.1.2.1,x.1.2.2.1),x.2.2.2.2.2.2.2)) λf=>a8 (nth x.2.2.1.2.2.2.2 0) λc=>a8 (m6 (f,c)) λg=>Q1 g else Q1 N2 else Q1 N2 else bif Eo (x.2.1=3)then bif Eo (a=3)then bif Eo (b=3)then bif d then a8 (AL (x.2.2.1.2.2.2.2,x.2.2.2.2.2.2.2)) λc=>bif !c then a8 (CH ((x.1.1,x.1.2.1,x.1.2.2.1),x.2.2.1.2.2.2.2,x.2.2.2.2.2.2.2)) λh=>Q1 h else Q1 N2 else Q1 N2 else Q1 N2 else Q1 N2 else bif Eo (x.2.1=4)then bif Eo (a=3)then bif Eo (b=3)then bif d then a8 (AL (x.2.2.1.2.2.2.2,x.2.2.2.2.2.2.2)) λg=>Q1 g else Q1 N2 else Q1 N2 else Q1 N2 else bif Eo (x.2.1=5)then bif Eo (a=3)then bif Eo (b=3)then a8 (EV (x.2.2.2.2.2.2.2,x.2.2.1.2.2.2.2)) λh=>
 Q1 h else Q1 N2 else Q1 N2 else bif Eo (x.2.1=6)then bif Eo (a=2)then bif Eo (b=2)then bif d then a8 (xl ((x.1.1,x.1.2.1,x.1.2.2.1),x.2.2.1,x.2.2.2)) λe=>Q1 e else Q1 N2 else Q1 N2 else Q1 N2 else bif Eo (x.2.1=7)then bif Eo (a=2)then bif Eo (b=3)then a8 (CK ((x.1.1,x.1.2.1,x.1.2.2.1),x.2.2.1.2.2.2.2,x.2.2.2.2.2.2.2)) λj=>Q1 j else Q1 N2 else Q1 N2 else bif Eo (x.2.1=8)then bif Eo (a=2)then bif d then bif Eo (x.2.2.1.2.1=x.2.2.2.2.1)then a8 (zc (x.1,x.2.2.1,x.2.2.2)) λk=>Q1 k else Q1 N2 else Q1 N2 else Q1 N2 else Q1 N2
def Jf{β:Type}(x:(List (Int×Int×Int)×List (Int×Int×Int×List (Int×Int)×Int×Int)×List (Int)×List (Int×Int×Int×ByteArray×List (Int))))(k i:Int)(A:List (Int×Int×Int))(K:List (Int×Int×Int)->Option β):Option β :=
 rounds (λb a=>
 bif (Eo (a.1<(x.2.2.2.length:Int)))then(
 bif (!decide (i=a.1))then(
 a8 (nth x.2.2.2 i) λc=>
 a8 (nth x.2.2.2 a.1) λd=>
 a8 (tY (x,k,c,d)) λe=>
 bif e then(
 a8 (nth x.2.2.2 i) λf=>
 a8 (nth x.2.2.2 a.1) λg=>
 a8 (j6 24 a.2 [(k,f.1,g.1)]) λh=>
 b (aa.wrap (a.1+1),h))else(
 b (aa.wrap (a.1+1),a.2)))else(
 b (aa.wrap (a.1+1),a.2)))else(
 K a.2)) (0,A)
def yb{β:Type}(x:(List (Int×Int×Int)×List (Int×Int×Int×List (Int×Int)×Int×Int)×List (Int)×List (Int×Int×Int×ByteArray×List (Int))))(k:Int)(K:List (Int×Int×Int)×Int×Int×Int×Bool->Option β)(s:List (Int×Int×Int)×Int×Int×Int×Bool):Option β :=
 rounds (λb a=>
 bif (Eo (a.2.1<(x.2.2.2.length:Int)))then(
 Jf x k a.2.1 a.1 (λr=>b (r,aa.wrap (a.2.1+1),a.2.1,(x.2.2.2.length:Int),No)))else(
 K a)) s
def A3:qy->Option (List (Int×Int×Int)×Int):=λx=>a8 (HU x) λb=>bif !decide (b=0)then Q1 ([],b)else rounds (λh a=>bif Eo (a.2<(x.2.2.2.length:Int))then(Jf x 1 a.2 a.1 (λr=>h (r,aa.wrap (a.2+1))))else(yb x 2 (λs2=>yb x 3 (λc=>yb x 4 (λd=>yb x 5 (λe=>yb x 6 (λf=>yb x 7 (λg=>yb x 8 (λi=>Q1 (i.1,0)) (g.1,0,g.2.1,(x.2.2.2.length:Int),N2)) (f.1,0,f.2.1,(x.2.2.2.length:Int),N2)) (e.1,0,e.2.1,(x.2.2.2.length:Int),N2)) (d.1,0,d.2.1,(x.2.2.2.length:Int),N2)) (c.1,0,c.2.1,(x.2.2.2.length:Int),N2)) (s2.1,0,s2.2.1,(x.2.2.2.length:Int),N2)) (a.1,0,a.2,(x.2.2.2.length:Int),N2))) ([],0)
def H2:List (Int×Int×Int)×List (Int×Int×Int)->Option (Bool):=λx=>bif !decide ((x.1.length:Int)=(x.2.length:Int))then Q1 N2 else rounds (λf d=>bif Eo (d<(x.1.length:Int))then a8 (nth x.1 d) λe=>a8 (nth x.2 d) λc=>bif !((λ(a b:Int×Int×Int)=>(Eo (a.1=b.1)&&(Eo (a.2.1=b.2.1)&&Eo (a.2.2=b.2.2)))) e c)then Q1 N2 else f (aa.wrap (d+1))else Q1 No) 0
def Hx:ny×ny->Option (Bool):=λx=>bif !decide ((x.1.length:Int)=(x.2.length:Int))then Q1 N2 else rounds (λd c=>bif Eo (c<(x.1.length:Int))then a8 (nth x.1 c) λb=>a8 (nth x.2 c) λa=>bif !(Eo (b.1=a.1)&&Eo (b.2=a.2))then Q1 N2 else d (aa.wrap (c+1))else Q1 No) 0
def HD:zB×zB->Option (Bool):=λx=>bif Eo (x.1.1=x.2.1)then bif Eo (x.1.2.1=x.2.2.1)then bif Eo (x.1.2.2.1=x.2.2.2.1)then bif Eo (x.1.2.2.2.2.1=x.2.2.2.2.2.1)then bif Eo (x.1.2.2.2.2.2=x.2.2.2.2.2.2)then a8 (Hx (x.1.2.2.2.1,x.2.2.2.2.1)) λa=>Q1 a else Q1 N2 else Q1 N2 else Q1 N2 else Q1 N2 else Q1 N2
def H3:mL×mL->Option (Bool):=λx=>bif !decide ((x.1.1.length:Int)=(x.2.1.length:Int))then Q1 N2 else bif !decide ((x.1.2.1.length:Int)=(x.2.2.1.length:Int))then Q1 N2 else bif !decide ((x.1.2.2.length:Int)=(x.2.2.2.length:Int))then Q1 N2 else rounds (λm c=>bif Eo (c<(x.1.1.length:Int))then a8 (nth x.1.1 c) λf=>a8 (nth x.2.1 c) λg=>bif !((λ(a b:Int×Int×Int)=>(Eo (a.1=b.1)&&(Eo (a.2.1=b.2.1)&&Eo (a.2.2=b.2.2)))) f g)then Q1 N2 else m (aa.wrap (c+1))else rounds (λn d=>bif Eo (d<(x.1.2.1.length:Int))then a8 (nth x.1.2.1 d) λh=>a8 (nth x.2.2.1 d) λi=>a8 (HD (h,i)) λj=>bif !j then Q1 N2 else n (aa.wrap (d+1))else rounds (λo e=>bif Eo (e<(x.1.2.2.length:Int))then a8 (nth x.1.2.2 e) λk=>a8 (nth x.2.2.2 e) λl=>bif !decide (k=l)then Q1 N2 else o (aa.wrap (e+1))else Q1 No) 0) 0) 0
def Mk:List Int×List Int->Option (Bool):=λx=>bif !decide ((x.1.length:Int)=(x.2.length:Int))then Q1 N2 else rounds (λd b=>bif Eo (b<(x.1.length:Int))then a8 (nth x.1 b) λc=>a8 (nth x.2 b) λa=>bif !decide (c=a)then Q1 N2 else d (aa.wrap (b+1))else Q1 No) 0
def Hr:qX×qX->Option (Bool):=λx=>bif Eo (x.1.1=x.2.1)then bif Eo (x.1.2.1=x.2.2.1)then bif Eo (x.1.2.2.1=x.2.2.2.1)then bif (x.1.2.2.2.1.toList==x.2.2.2.2.1.toList)then a8 (Mk (x.1.2.2.2.2,x.2.2.2.2.2)) λa=>Q1 a else Q1 N2 else Q1 N2 else Q1 N2 else Q1 N2
def H0:qy×qy->Option (Bool):=λx=>a8 (H3 ((x.1.1,x.1.2.1,x.1.2.2.1),(x.2.1,x.2.2.1,x.2.2.2.1))) λe=>bif !e then Q1 N2 else bif !decide ((x.1.2.2.2.length:Int)=(x.2.2.2.2.length:Int))then Q1 N2 else rounds (λf a=>bif Eo (a<(x.1.2.2.2.length:Int))then a8 (nth x.1.2.2.2 a) λb=>a8 (nth x.2.2.2.2 a) λc=>a8 (Hr (b,c)) λd=>bif !d then Q1 N2 else f (aa.wrap (a+1))else Q1 No) 0
def Ev:qy×Int->Option (Bool):=λx=>a8 (HN x.1) λk=>bif !k then a8 (zd ()) λl=>Q1 l else bif Eo (6<x.2)then a8 (zd ()) λa=>Q1 a else a8 (Ba x) λa=>bif !decide (a.2=0)then a8 (zd ()) λc=>Q1 c else a8 (A3 x.1) λc=>a8 (A3 a.1) λf=>bif !decide (f.2=0)then Q1 N2 else a8 (H2 (c.1,f.1)) λi=>bif !i then Q1 N2 else bif !decide ((x.1.1.length:Int)=(a.1.1.length:Int))then Q1 N2 else rounds (λm e=>bif Eo (e<(x.1.1.length:Int))then a8 (nth x.1.1 e) λb=>a8 (nth a.1.1 e) λd=>a8 (Q1 (aa.wrap (d.2.1-b.2.1))) λg=>a8 (Q1 (aa.wrap (d.2.2-b.2.2))) λh=>bif !decide (b.1=d.1)then Q1 N2 else bif Eo (x.2<g)then Q1 N2 else bif Eo (g<(aa.wrap (0-x.2)))then Q1 N2 else bif Eo (x.2<h)then Q1 N2 else bif Eo (h<(aa.wrap (0-x.2)))then Q1 N2 else m (aa.wrap (e+1))else a8 (H0 (x.1,(x.1.1,a.1.2.1,a.1.2.2.1,a.1.2.2.2))) λb=>bif b then a8 (zd ()) λj=>Q1 j else Q1 N2) 0
end
end Go.Ab
namespace Go.Ab
open Go
variable {S:Type}{i:Nat}{α:Type}{x:α}{xs:List α}{β:Type}
@[simp] theorem bT  (a:α) (f:α->Option β):a8 (Q1 a) f=f a:=rfl
@[simp] theorem cf2  (f:α->Option β):a8 Ld f=Ld:=rfl
theorem zV:2^100<=many:=Classical.choose_spec (⟨2^100,aB _⟩:∃n:Nat,2^100<=n)
theorem aL7:1000000000<=many:=bz (by decide) zV
theorem af8{F:(α->Option β)->α->Option β}(I:α->Prop)(a:α->Nat)(g:α->Option β)(h:∀rec x,I x->(∀y,I y->a y<a x->rec y=g y)->F rec x=g x):∀(n:Nat) (x:α),I x->a x<n->iter F n x=g x
 | 0,x,_,hm=>b8 hm (Nat.not_lt_zero _)
 |n+1,x,a7,hm=>by show F (iter F n) x=g x;exact h _ x a7 λy b c=>af8 I a g h n y b (by omega)
theorem Fq{F:(α->Option β)->α->Option β}(I:α->Prop)(a:α->Nat)(g:α->Option β)(h:∀rec x,I x->(∀y,I y->a y<a x->rec y=g y)->F rec x=g x)(b:I x)(hm:a x<2^100):rounds F x=g x :=af8 I a g h many x b (dL hm zV)
theorem Dh{F:(α->Option β)->α->Option β}{v:Option β}(h:∀rec,F rec x=v):rounds F x=v :=Fq (λy=>y=x) (λ_=>0) (λ_=>v) (λrec y a _=>by rw[a];exact h rec) rfl (by omega)
theorem mP{A:Type}(xs:List α){F:(S->Option β)->S->Option β}(st:Nat->A->S)(g:A->List α->Option β)(hl:xs.length<2^100)
  (c:∀rec a,F rec (st xs.length a)=g a []) (b:∀rec i a x rest,i<xs.length->xs.drop i=x::rest->(∀e,rec (st (i+1) e)=g e rest)->F rec (st i a)=g a (x::rest)) (a:A):rounds F (st 0 a)=g a xs:=by
 have key:∀(k i n:Nat) (a:A),i<=xs.length->k=xs.length-i->k<n->iter F n (st i a)=g a (xs.drop i):=by
  intro k
  induction k with
  |zero=>
   intro i n a a7 hk f;have:i=xs.length:=by omega
   subst this;cases n;omega;rename_i n;rw[fD];exact c _ a
  |succ k h=>
   intro i n a a7 hk f;cases n;omega;rename_i n;have d:i<xs.length:=by omega
   have hd:xs.drop i=xs[i]::xs.drop (i+1):=bq d;rw[hd];exact b _ i a xs[i] _ d hd λe=>h (i+1) n e (by omega) (by omega) (by omega)
 have:=key xs.length 0 many a (c_ _) (by omega) (dL hl zV);rw[jn]at this;exact this
theorem mw{A:Type}(xs:List α){F:(S->Option β)->S->Option β}(st:Nat->A->S)(g:A->List α->Option β)(I:Nat->A->Prop)(hl:xs.length<2^100)
  (c:∀rec a,I xs.length a->F rec (st xs.length a)=g a []) (b:∀rec i a x rest,i<xs.length->I i a->xs.drop i=x::rest->(∀d,I (i+1) d->rec (st (i+1) d)=g d rest)->F rec (st i a)=g a (x::rest)) (a:A) (ha:I 0 a):rounds F (st 0 a)=g a xs:=by
 have key:∀(k i n:Nat) (a:A),i<=xs.length->k=xs.length-i->k<n->I i a->iter F n (st i a)=g a (xs.drop i):=by
  intro k
  induction k with
  |zero=>
   intro i n a a7 hk j f;have:i=xs.length:=by omega
   subst this;cases n;omega;rename_i n;rw[fD];exact c _ a f
  |succ k l=>
   intro i n a a7 hk j f;cases n;omega;rename_i n;have e:i<xs.length:=by omega
   have hd:xs.drop i=xs[i]::xs.drop (i+1):=bq e;rw[hd];exact b _ i a xs[i] _ e f hd λd h=>l (i+1) n d (by omega) (by omega) (by omega) h
 have:=key xs.length 0 many a (c_ _) (by omega) (dL hl zV) ha;rw[jn]at this;exact this
theorem lQ(xs:List α)(i:Nat):nth xs (i:Int)=xs[i]?:=by unfold nth;simp
theorem h0{rest:List α}(h:xs.drop i=x::rest):nth xs (i:Int)=Q1 x:=by grind[lQ,jD,List.head?_drop]
theorem aD4{i:Int}(cu:0<=i):nth xs i=xs[i.toNat]?:=by unfold nth;simp[cu]
theorem fx{n:Int}(h1:-9223372036854775808<=n)(h2:n<=9223372036854775807):aa.wrap n=n:=IntWalk.i64_in n ⟨h1,h2⟩
theorem m9{b:Nat}{ys:List α}(a:b<=1000)(h:xs.length+ys.length<=1000000000):j6 b xs ys=Q1 (xs++ys):=by
 unfold j6;have h1:(2*(xs.length+ys.length)+1000)*b<=2^48:=by have:(2*(xs.length+ys.length)+1000)*b<=(2*1000000000+1000)*1000:=Nat.mul_le_mul (by omega) a;omega
 grind
theorem N0(h:i<=xs.length):tx xs Ld (Q1 (i:Int))=Q1 (xs.take i):=by unfold tx yi;simp[h]
theorem af1{i:Int}(cu:0<=i)(h:i<=xs.length):tx xs (Q1 i) Ld=Q1 (xs.drop i.toNat):=by unfold tx yi;simp[cu,h]
open Go Go.Sort Go.Proofs Go.Shelf
variable {α:Type}{cf:α->α->Int}{l:List α}{r:α}
theorem z1(i:Nat):nV r (r::l) i∈r::l:=by
 unfold nV
 grind
theorem IW(cf:α->α->Int)(r:α)(l:List α):oy cf (r::l)=((pdq (ltOf (λi j=>cf (nV r (r::l) i) (nV r (r::l) j))) (ba (r::l).length) 0 (r::l).length (eA (r::l).length) No No).toList).map (nV r (r::l)):=rfl
theorem bJ8(cf:α->α->Int)(r:α)(l:List α):Ordered cf (r::l)=SWO (ltOf (λi j=>cf (nV r (r::l) i) (nV r (r::l) j))):=rfl
theorem av3(hO:Ordered cf (r::l)) :
  PermIn 0 (r::l).length (ba (r::l).length) (pdq (ltOf (λi j=>cf (nV r (r::l) i) (nV r (r::l) j))) (ba (r::l).length) 0 (r::l).length (eA (r::l).length) No No)/\SortedIn (ltOf (λi j=>cf (nV r (r::l) i) (nV r (r::l) j))) 0 (r::l).length (pdq (ltOf (λi j=>cf (nV r (r::l) i) (nV r (r::l) j))) (ba (r::l).length) 0 (r::l).length (eA (r::l).length) No No) :=
 pdq_sorts _ hO (ba (r::l).length) 0 (r::l).length (eA (r::l).length) No No (c_ _) (by simp) (Or.inl rfl)
theorem tG:∀ {xs:List α},Ordered cf xs->(oy cf xs).Perm xs
 | [],_=>jH _
 |r::l,hO=>by
  obtain⟨⟨h1,_,b⟩,_⟩:=av3 hO;rw[IW];generalize hes:r::l=es at *;generalize pdq (α:=Nat) _ _ _ _ _ _ _=d at *;have c:d.extract 0 es.length=d:=by grind
  have e:(ba es.length).extract 0 es.length=ba es.length:=by grind
  rw[c,e]at b;refine(b.map (nV r es)).trans ?_;have:(ba es.length).toList.map (nV r es)=es:=by
   apply eH;intro k;rw[aO];by_cases hk:k<es.length;have a:(ba es.length).toList[k]?=Q1 k:=by simp[hk]
   rw[a];simp[nV,hk]
   grind
  rw[this]
theorem Da:∀ {xs:List α},Ordered cf xs->(oy cf xs).Pairwise (λa b=>¬cf b a<0)
 | [],_=>ko
 |r::l,hO=>by
  obtain⟨⟨h1,_,_⟩,hs⟩:=av3 hO;rw[IW];generalize hes:r::l=es at *;generalize pdq (α:=Nat) _ _ _ _ _ _ _=d at *;rw[List.pairwise_map];rw[List.pairwise_iff_getElem];intro i j a7 hj c;have e:d.size=es.length:=by simpa using h1
  have f:i<d.size:=by simpa using a7
  have g:j<d.size:=by simpa using hj
  have:=hs i j (c_ _) c (by omega)
  grind[ltOf,decide_eq_false_iff_not]
theorem IX:∀ {xs:List α},(∀x∈xs,¬cf x x<0)->(∀x∈xs,∀y∈xs,∀z∈xs,cf x y<0->cf y z<0->cf x z<0)->(∀x∈xs,∀y∈xs,∀z∈xs,¬cf x y<0->¬cf y z<0->¬cf x z<0)->Ordered cf xs
 | [],_,_,_=>trivial
 |r::l,h1,h2,c=>by
  refine⟨λi=>?_,λi j k a b=>?_,λi j k a b=>?_⟩
  grind[ltOf,decide_eq_false_iff_not,z1]
  grind[ltOf,z1]
  grind[ltOf,decide_eq_false_iff_not,z1]
theorem Jw{cmp:α->α->Option Int}{xs:List α}(hc:∀x∈xs,∀y∈xs,cmp x y=Q1 (cf x y))(hO:Ordered cf xs)(hl:xs.length<4611686018427387904):rE cmp xs=Q1 (oy cf xs):=by
 have f:∀x∈xs,∀y∈xs,(cmp x y).getD 0=cf x y:=λx a y b=>by rw[hc x a y b];rfl
 have d:∀(r:α) (l:List α),xs=r::l->(λi j=>(cmp (nV r (r::l) i) (nV r (r::l) j)).getD 0)=(λi j=>cf (nV r (r::l) i) (nV r (r::l) j)):=λr l e=>by grind[z1]
 have c:Ordered (λx y=>(cmp x y).getD 0) xs:=by
  cases xs;trivial;rename_i r l
  grind[bJ8]
 rw[aN0 (λx a y b=>by rw[hc x a y b];rfl) c hl];cases xs;rfl;rename_i r l
 grind[IW]
end Go.Ab
