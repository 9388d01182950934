/- A part of the proof; its readable source lies in wip of the prover's repo (squeezed here for the limit of bytes). -/
import Derived.Test.YtenigicdlmagjaaGreatDoorMc
import Derived.HandedShaped
import Derived.OpenShut
import Derived.MakeChecks
import Derived.Shelf.Vars
import Derived.Shelf.SlSortCmp.NoneTotal
import Derived.Sort.EveryDepth
import Derived.Shelf.SortM.AssemblyIn
import Derived.Shelf.SortM.SortNone
import Derived.Shelf.SlicesQ.Reverse
import Derived.Lib.IndexMore
set_option linter.unusedVariables false
set_option linter.unusedSimpArgs false
set_option linter.unusedSectionVars false
open Array renaming getElem?_append_left->cu,getElem?_eq_getElem->aS,getElem?_modify->du,range->aW
open Bool renaming and_eq_true->ab,false_eq_true->au,not_eq_true'->bL,or_eq_true->eo
open ByteArray renaming mk->cG
open Go.Act renaming put->iE
open Go.ChangeSpec renaming post_blind->js
open Go.DataW.Whole renaming of_heap->jn
open Go.DataW.agg renaming injEq->gD
open Go.Frame renaming enter->iZ
open Go.IntKind renaming i64->aa
open Go.Lib renaming bitLen->dH
open Go.MakeChecks renaming laidMetH_plain->jt
open Go.OpenSpec renaming ofChange->gq
open Go.Proofs.AnyF renaming slices_SortFunc_none->fV
open Go.Result renaming andThen_ok->ah
open Go.Sem renaming run_bind->al,run_pure->ao
open Go.Shelf renaming Ren->dI
open Go.Sort renaming ahead->fg
open Go.Utf8 renaming decode->bS
open Go.Value renaming int->bn
open Go.Value.bool renaming injEq->gd
open Go.Value.func renaming injEq->ju
open Go.Value.int renaming injEq->eZ
open Go.Value.string renaming injEq->jh
open Go.World renaming cell?->fH,frozen?->ga
open List renaming all_cons->bZ,all_eq_true->ak,all_map->dc,cons_append->eY,drop_drop->dn,drop_eq_getElem_cons->bw,drop_eq_nil_of_le->dh,drop_succ_cons->eN,find?_isSome->hJ,getD_eq_getElem?_getD->cw,getElem?_cons_succ->aI,getElem?_eq_getElem->ae,getElem?_eq_none->bz,getElem?_eq_some_iff->an,getElem?_map->aM,getElem?_set->bW,getElem_map->cd,getElem_mem->aq,getElem_of_mem->aJ,length->gB,length_append->aH,length_map->aB,length_pos_iff->cx,map_cons->ay,mem_cons->aC,mem_map->aY,mem_of_getElem?->aD,nil_append->bG,range->bE,rel_of_pairwise_cons->fW,replicate->ba,take_append_drop->cL,take_succ_cons->gJ
open List.cons renaming injEq->b_
open Nat renaming add_left_cancel->gQ,add_mul->bK,beq->aA,beq_eq->bk,beq_refl->dd,ble->cJ,blt->bY,blt_eq->aV,div_add_mod->eW,eq_of_beq_eq_true->af,le_add_right->aO,le_of_ble_eq_true->aQ,le_of_not_lt->iw,le_refl->ar,le_trans->bo,mul_add->jm,mul_assoc->iY,mul_comm->dj,not_lt->fz,one_mul->gR,zero_add->aG,zero_le->cP
open Option renaming getD_some->bR,map_none->bO,map_some->aj
open Option.some renaming inj->bd,injEq->ai
open Prod renaming ext->iM
open Prod.mk renaming injEq->bV
namespace Go.Ab
open Go
variable [B5]
def ilL:(l:SpL)->Option (l.T->List Int)
 | .one (.int .i64)=>some fun a=>[a]
 | .cons (.int .i64) l=>match ilL l with
  | some g=>some fun a=>a.1::g a.2
  | none=>none
 | _=>none
theorem ov0:∀ (l:SpL) (g:l.T->List Int),ilL l=some g->∀ x,AV.i64s (y3 l x)=some (g x)/\(g x).length=l.len
 | .nil,g,h=>by simp[ilL]at h
 | .one s,g,h=>by
  cases s with
  | int k=>
   cases k<;>simp only[ilL]at h<;>try (cases h;done)
   cases h;exact fun x=>⟨rfl,rfl⟩
  | _=>simp[ilL]at h
 | .cons s l,g,h=>by
  cases s with
  | int k=>
   cases k<;>simp only[ilL]at h<;>try (cases h;done)
   split at h
   ·rename_i a b
    cases h;intro x;have:=ov0 l a b x.2;exact⟨by simp only[y3,enc,AV.i64s,this.1],by simp[SpL.len,this.2]⟩
   cases h
  | _=>simp[ilL]at h
def kyS:(K:Sp)->Option (Bool×(K.T->List Int))
 | .int .i64=>some (false,fun n=>[n])
 | .agg l=>match ilL l with
  | some g=>some (true,g)
  | none=>none
 | _=>none
def eqK:(K:Sp)->Option (K.T->K.T->Bool)
 | .int .i64=>some fun a b=>decide (a=b)
 | .agg l=>pV0 l
 | _=>none
theorem fO0{K:Sp}{b:Bool}{g:K.T->List Int}(h:kyS K=some (b,g))(x:K.T):(enc K x).key=some (b,g x):=by cases K<;>grind [kyS,enc,AV.key,ov0]
theorem qo0:∀ (l:SpL) (g:l.T->List Int) (q:l.T->l.T->Bool),ilL l=some g->pV0 l=some q->∀ a b,(g a==g b)=q a b
 | .nil,g,q,h,_=>by simp[ilL]at h
 | .one s,g,q,h,h2=>by
  cases s with
  | int k=>
   cases k<;>simp only[ilL]at h<;>try (cases h;done)
   cases h;simp only[pV0]at h2;cases h2
   grind
  | _=>simp[ilL]at h
 | .cons s l,g,q,h,h2=>by
  cases s with
  | int k=>
   cases k<;>simp only[ilL]at h<;>try (cases h;done)
   split at h
   ·rename_i c d
    cases h;simp only[pV0]at h2;split at h2
    ·rename_i e f
     cases h2;intro a b;have:=qo0 l c e d f a.2 b.2
     grind
    cases h2
   cases h
  | _=>simp[ilL]at h
theorem wh0{K:Sp}{b:Bool}{g:K.T->List Int}{q:K.T->K.T->Bool}(h:kyS K=some (b,g))(h2:eqK K=some q)(x y:K.T):cI0 b (g x) (g y)=q x y:=by
 cases K with
 | int k=>grind [kyS,eqK,cI0]
 | agg l=>
  simp only[kyS]at h;split at h
  ·rename_i c a
   cases h;simp only[eqK]at h2;simp only[cI0];exact qo0 l _ q a h2 x y
  cases h
 | _=>simp[kyS]at h
def lkp{K V:Type}(q:K->K->Bool)(k:K):List (K×V)->Option V
 | []=>none
 | p::C=>bif q k p.1 then some p.2 else lkp q k C
def I9{K V:Type}(q:K->K->Bool)(k:K)(v:V):List (K×V)->List (K×V)
 | []=>[(k,v)]
 | p::C=>bif q k p.1 then (k,v)::C else p::I9 q k v C
section
variable {K V:Sp} {b:Bool} {g:K.T->List Int} {q:K.T->K.T->Bool}
theorem kd0(hk:kyS K=some (b,g))(j:Nat)(p:K.T×V.T):D4 j (y3 (.cons K (.one V)) p)=(g p.1,enc V p.2,j):=by simp only[y3,D4,fO0 hk]
theorem jH0(hk:kyS K=some (b,g))(a:eqK K=some q)(k:K.T):∀ (C:List (K.T×V.T)) (j i:Nat),(I5 b (g k) (u7 j (C.map (y3 (.cons K (.one V))))) i).map (·.2)=(lkp q k C).map (enc V)
 | [],j,i=>rfl
 | p::C,j,i=>by
  have c:=jH0 hk a k C (j+1) (i+1);simp only[ay,u7,kd0 hk,I5,wh0 hk a,lkp];cases q k p.1 with
  | true=>rfl
  | false=>simpa using c
theorem put_t(hk:kyS K=some (b,g))(a:eqK K=some q)(k:K.T)(v:V.T):∀ C:List (K.T×V.T),R4 (enc K k) (enc V v) b (g k) (C.map (y3 (.cons K (.one V))))=(I9 q k v C).map (y3 (.cons K (.one V)))
 | []=>by simp[R4,I9,y3]
 | p::C=>by
  have c:=put_t hk a k v C;simp only[ay,R4,nV0,kd0 hk,wh0 hk a,I9];cases q k p.1 with
  | true=>simp[y3]
  | false=>simp[c]
theorem ko0(hk:kyS K=some (b,g))(C:List (K.T×V.T)):bp0 (C.map (y3 (.cons K (.one V))))=b\/C=[]:=by
 cases C with
 | nil=>exact .inr rfl
 | cons p C=>left;simp[bp0,y3,fO0 hk]
theorem om0(hk:kyS K=some (b,g)){n:Nat}(a:∀ x,(g x).length=n):∀ (C:List (K.T×V.T)) (j:Nat),((u7 j (C.map (y3 (.cons K (.one V))))).all fun e=>e.1.length==n)=true
 | [],_=>rfl
 | p::C,j=>by simp only[ay,u7,kd0 hk,bZ,a,beq_self_eq_true,Bool.true_and];exact om0 hk a C (j+1)
theorem iZ0(hk:kyS K=some (b,g))(C:List (K.T×V.T)):((C.map (y3 (.cons K (.one V)))).all Q4)=true:=by rw[dc,ak];intro p _;simp[Q4,y3,fO0 hk]
end
def fitK(T:Tab)(a:TypeId):Sp->Bool
 | .int .i64=>match T a with
  | some { und:=.int _,.. }=>true
  | _=>false
 | .agg l=>match T a with
  | some ti=>match ti.flat with
   | some n=>aA n l.len
   | none=>false
  | none=>false
 | _=>false
theorem hY0{T:Tab}{a:TypeId}{K V:Sp}{b:Bool}{g:K.T->List Int}(h:kyS K=some (b,g))(hf:fitK T a K=true)(k:K.T)(C:List (K.T×V.T))(j:Nat):X3 T a b (g k) (u7 j (C.map (y3 (.cons K (.one V)))))=true:=by
 cases K with
 | int m=>grind [kyS,fitK,X3]
 | agg l=>
  have d:=h;simp only[kyS]at h;split at h
  ·rename_i o c
   cases h;simp only[fitK]at hf;split at hf
   ·rename_i ti e
    split at hf
    ·rename_i n f
     have i:=af hf;simp only[X3,e,Al,f,i,(ov0 l g c k).2,ab,beq_self_eq_true,Aq];exact om0 d (fun x=>(ov0 l g c x).2) C j
    cases hf
   cases hf
  cases h
 | _=>simp[kyS]at h
mutual
def une:AV->(s:Sp)->Option s.T
 | .sc v,s=>tsc v s
 | .agg cs,.agg l=>sd0 cs l
 | _,_=>none
def sd0:List AV->(l:SpL)->Option l.T
 | [],.nil=>some ()
 | [a],.one s=>une a s
 | a::az,.cons s l=>match une a s with
  | some x=>match sd0 az l with
   | some y=>some (x,y)
   | none=>none
  | none=>none
 | _,_=>none
end
mutual
theorem fQ0:∀ (a:AV) (s:Sp) (x:s.T),une a s=some x->a=enc s x
 | .sc v,s,x,h=>by simp only[une]at h;exact vo0 h
 | .agg cs,s,x,h=>by
  cases s<;>simp only[une]at h<;>try (cases h;done)
  simp only[enc,na0 cs _ _ h]
 | .any,s,x,h=>by cases s<;>simp only[une]at h<;>cases h
 | .rs _,s,x,h=>by cases s<;>simp only[une]at h<;>cases h
 | .rp _,s,x,h=>by cases s<;>simp only[une]at h<;>cases h
 | .ms _ _ _ _,s,x,h=>by cases s<;>simp only[une]at h<;>cases h
 | .mp _ _ _,s,x,h=>by cases s<;>simp only[une]at h<;>cases h
 | .mm _,s,x,h=>by cases s<;>simp only[une]at h<;>cases h
 | .it _,s,x,h=>by cases s<;>simp only[une]at h<;>cases h
 | .fn _ _ _,s,x,h=>by cases s<;>simp only[une]at h<;>cases h
 | .tup _,s,x,h=>by cases s<;>simp only[une]at h<;>cases h
 | .sy _,s,x,h=>by cases s<;>simp only[une]at h<;>cases h
 | .ss _ _ _,s,x,h=>by cases s<;>simp only[une]at h<;>cases h
 | .xp _ _ _,s,x,h=>by cases s<;>simp only[une]at h<;>cases h
 | .xs _ _ _ _,s,x,h=>by cases s<;>simp only[une]at h<;>cases h
 | .rm _,s,x,h=>by cases s<;>simp only[une]at h<;>cases h
theorem na0:∀ (az:List AV) (l:SpL) (x:l.T),sd0 az l=some x->az=y3 l x
 | [],l,x,h=>by (cases l<;>simp only[sd0]at h<;>try (cases h;done));rfl
 | [a],l,x,h=>by
  cases l with
  | nil=>simp only[sd0]at h;cases h
  | one s=>simp only[sd0]at h;simp only[y3];rw[fQ0 a s x h]
  | cons s l=>
   simp only[sd0]at h;split at h
   ·rename_i y c
    split at h
    ·rename_i z hz
     cases h;have:=na0 [] l z (by simpa only[sd0]using hz);simp only[y3];rw[fQ0 a s y c,<-this]
    cases h
   cases h
 | a::b::az,l,x,h=>by
  cases l with
  | nil=>simp only[sd0]at h;cases h
  | one s=>simp only[sd0]at h;cases h
  | cons s l=>
   simp only[sd0]at h;split at h
   ·rename_i y c
    split at h
    ·rename_i z hz
     cases h;simp only[y3];rw[fQ0 a s y c,<-na0 (b::az) l z hz]
    cases h
   cases h
end
def orO{α:Type}:Option α->Option α->Option α
 | some a,_=>some a
 | none,z=>z
def of0(T:Tab)(Γ:List Sp)(t:TypeId)(ix:AV)(ok:Bool)(K V:Sp)(a:Env Γ->List (K.T×V.T)):Option (TO Γ):=match T t with
 | some { und:=.map d f,.. }=>match T f with
  | some b=>match kyS K with
   | some _=>match eqK K with
    | some q=>match fitK T d K with
     | true=>match H8 Γ ix K with
      | some c=>match ok with
       | false=>some ⟨V,fun e=>orO (lkp q (c e) (a e)) (une b.zeroAV V)⟩
       | true=>some ⟨.tup (.cons V (.one .bool)),fun e=>match lkp q (c e) (a e)with
        | some v=>some (v,true)
        | none=>match une b.zeroAV V with
         | some z=>some (z,false)
         | none=>none⟩
      | none=>none
     | false=>none
    | none=>none
   | none=>none
  | none=>none
 | _=>none
theorem op0{m:Option (Nat×AV)}{V:Sp}{o:Option V.T}{z:AV}{ok:Bool}{w:AV}(h:m.map (·.2)=o.map (enc V))
  (hs:∀ v,o=some v->w=(if ok then .tup [enc V v,.sc (.bool true)]else enc V v)) (a:o=none->w=(if ok then .tup [z,.sc (.bool false)]else z)) :
  some (if ok=true then AV.tup [(match m with | some (_,c)=>(c,true) | none=>(z,false)).1,.sc (.bool (match m with | some (_,c)=>(c,true) | none=>(z,false)).2)]else (match m with | some (_,c)=>(c,true) | none=>(z,false)).1)=some w:=by
 cases m with
 | none=>cases o with
  | none=>rw[a rfl]
  | some v=>cases h
 | some p=>cases o with
  | none=>cases h
  | some v=>grind [ai]
def lookSh(T:Tab)(Γ:List Sp)(t:TypeId)(c ix:AV):Option Sp:=match shp Γ c with
 | some s=>some s
 | none=>match T t,shp Γ ix with
  | some { und:=.map _ a,.. },some K=>match T a with
   | some b=>match b.zeroAV with
    | .sc (.bool _)=>some (.sl (.cons K (.one .bool)))
    | .sc (.int k _)=>some (.sl (.cons K (.one (.int k))))
    | _=>none
   | none=>none
  | _,_=>none
def ya0(T:Tab)(Γ:List Sp)(t:TypeId)(c ix:AV)(ok:Bool):Option (TO Γ):=match lookSh T Γ t c ix with
 | some (.sl (.cons K (.one V)))=>match H8 Γ c (.sl (.cons K (.one V)))with
  | some a=>of0 T Γ t ix ok K V a
  | none=>none
 | _=>none
def sH0(T:Tab)(Γ:List Sp)(t:TypeId)(c ix:AV)(ok:Bool):Option (TO Γ):=match shp Γ c with
 | some (.fmap (.cons K (.one V)))=>match H8 Γ c (.fmap (.cons K (.one V)))with
  | some a=>of0 T Γ t ix ok K V a
  | none=>none
 | _=>none
theorem tY0{T:Tab}{Φ:G6}{Γ:List Sp}{t:TypeId}{c ix:AV}{ok:Bool}{r:TO Γ}(h:ya0 T Γ t c ix ok=some r):r.Ok T Φ (.look t c ix ok):=by
 intro e v hv;unfold ya0 at h;split at h
 ·rename_i K V _
  split at h
  ·rename_i a f
   unfold of0 at h;split at h
   ·rename_i m u _ _ _ _ n
    split at h
    ·rename_i x i
     split at h
     ·rename_i o hk
      obtain⟨b,g⟩:=o;split at h
      ·rename_i q p
       split at h
       ·rename_i hf
        split at h
        ·rename_i j k
         have hc:c.sub (thE Γ e)=.rs ((a e).map (y3 (.cons K (.one V)))):=l7 _ _ _ f e;have l:ix.sub (thE Γ e)=enc K (j e):=l7 _ _ _ k e;have hst:(dw0 (.rs ((a e).map (y3 (.cons K (.one V)))))).objs 0=some (R1 (.rs ((a e).map (y3 (.cons K (.one V)))))):=by simp[dw0,c8.objs_set]
         have s:∀ es,rowsOf (.rs es)=es:=fun _=>rfl;have d:(bp0 ((a e).map (y3 (.cons K (.one V))))=b\/(u7 0 ((a e).map (y3 (.cons K (.one V))))).isEmpty=true)/\X3 T m b (g (j e)) (u7 0 ((a e).map (y3 (.cons K (.one V)))))=true:=by
          refine⟨?_,hY0 hk hf _ _ _⟩;rcases ko0 (V:=V) hk (a e)with h1 | h1
          ·exact .inl h1
          rw[h1];right;rfl
         simp only[j4,hc,l,E5,n,fO0 hk,i,hst,R1,s];rw[Af d];refine op0 (jH0 (V:=V) hk p (j e) (a e) 0 0) (fun w hl=>?_) (fun hl=>?_)
         ·cases ok with
          | false=>cases h;simp only[hl,orO]at hv;cases hv;rfl
          | true=>cases h;simp only[hl]at hv;cases hv;rfl
         cases ok with
         | false=>cases h;simp only[hl,orO]at hv;exact(fQ0 _ _ _ hv).symm
         | true=>
          cases h
          grind [enc,y3,fQ0]
        cases h
       cases h
      cases h
     cases h
    cases h
   cases h
  cases h
 cases h
theorem si0{T:Tab}{Φ:G6}{Γ:List Sp}{t:TypeId}{c ix:AV}{ok:Bool}{r:TO Γ}(h:sH0 T Γ t c ix ok=some r):r.Ok T Φ (.lookr t c ix ok):=by
 intro e v hv;unfold sH0 at h;split at h
 ·rename_i K V _
  split at h
  ·rename_i a f
   unfold of0 at h;split at h
   ·rename_i m s _ _ _ _ n
    split at h
    ·rename_i u i
     split at h
     ·rename_i o hk
      obtain⟨b,g⟩:=o;split at h
      ·rename_i q p
       split at h
       ·rename_i hf
        split at h
        ·rename_i j k
         have hc:c.sub (thE Γ e)=.rm (.rs ((a e).map (y3 (.cons K (.one V))))):=l7 _ _ _ f e;have l:ix.sub (thE Γ e)=enc K (j e):=l7 _ _ _ k e;have d:(bp0 ((a e).map (y3 (.cons K (.one V))))=b\/((a e).map (y3 (.cons K (.one V)))).isEmpty=true)/\X3 T m b (g (j e)) (u7 0 ((a e).map (y3 (.cons K (.one V)))))=true/\((a e).map (y3 (.cons K (.one V)))).all Q4=true:=by
          refine⟨?_,hY0 hk hf _ _ _,iZ0 hk _⟩
          grind [ko0]
         simp only[j4,hc,l,E5,n,fO0 hk,i];rw[Af d];refine op0 (jH0 (V:=V) hk p (j e) (a e) 0 0) (fun w hl=>?_) (fun hl=>?_)
         ·cases ok with
          | false=>cases h;simp only[hl,orO]at hv;cases hv;rfl
          | true=>cases h;simp only[hl]at hv;cases hv;rfl
         cases ok with
         | false=>cases h;simp only[hl,orO]at hv;exact(fQ0 _ _ _ hv).symm
         | true=>
          cases h
          grind [enc,y3,fQ0]
        cases h
       cases h
      cases h
     cases h
    cases h
   cases h
  cases h
 cases h
def wP0(T:Tab)(Γ:List Sp)(t:TypeId)(c ix v:AV):Option (TO Γ):=match T t with
 | some { und:=.map a _,.. }=>match shp Γ ix with
  | some K=>match shp Γ v with
   | some V=>match kyS K with
    | some _=>match eqK K with
     | some q=>match fitK T a K with
      | true=>match H8 Γ c (.sl (.cons K (.one V)))with
       | some b=>match H8 Γ ix K with
        | some d=>match H8 Γ v V with
         | some fv=>some ⟨.sl (.cons K (.one V)),fun e=>some (I9 q (d e) (fv e) (b e))⟩
         | none=>none
        | none=>none
       | none=>none
      | false=>none
     | none=>none
    | none=>none
   | none=>none
  | none=>none
 | _=>none
theorem un0{T:Tab}{Φ:G6}{Γ:List Sp}{t:TypeId}{c ix u:AV}{r:TO Γ}(h:wP0 T Γ t c ix u=some r):r.Ok T Φ (.mput t c ix u):=by
 intro e v hv;unfold wP0 at h;split at h
 ·rename_i w _ _ _ _ _ n
  split at h
  ·rename_i K _
   split at h
   ·rename_i V _
    split at h
    ·rename_i o hk
     obtain⟨b,g⟩:=o;split at h
     ·rename_i q p
      split at h
      ·rename_i hf
       split at h
       ·rename_i a f
        split at h
        ·rename_i d i
         split at h
         ·rename_i fv j
          cases h;cases hv;have hc:c.sub (thE Γ e)=.rs ((a e).map (y3 (.cons K (.one V)))):=l7 _ _ _ f e;have k:ix.sub (thE Γ e)=enc K (d e):=l7 _ _ _ i e;have l:u.sub (thE Γ e)=enc V (fv e):=l7 _ _ _ j e;have hst:(dw0 (.rs ((a e).map (y3 (.cons K (.one V)))))).objs 0=some (R1 (.rs ((a e).map (y3 (.cons K (.one V)))))):=by simp[dw0,c8.objs_set]
          have m:∀ es,rowsOf (.rs es)=es:=fun _=>rfl;have hu:∃ σ,B9 T (dw0 (.rs ((a e).map (y3 (.cons K (.one V)))))) t (.mm 0) (enc K (d e)) (enc V (fv e))=some σ:=by
           simp only[B9,n,fO0 hk,hst,R1,m];have h1:=hY0 (V:=V) hk hf (d e) (a e) 0;have s:=hY0 (V:=V) hk hf (d e) [] 0;rcases ko0 (V:=V) hk (a e)with h2 | h2
           ·split
            ·exact⟨_,rfl⟩
            rw[Af ⟨h2,h1⟩];exact⟨_,rfl⟩
           rw[Af ⟨by rw[h2];rfl,s⟩];exact⟨_,rfl⟩
          obtain⟨σ,hu⟩:=hu;simp only[j4,hc,k,l,hu,fO0 hk,m,put_t hk p];rfl
         cases h
        cases h
       cases h
      cases h
     cases h
    cases h
   cases h
  cases h
 cases h
def yz0(T:Tab)(Γ:List Sp)(t:TypeId)(c:AV):Option (TO Γ):=match T t with
 | some { und:=.map _ _,.. }=>match shp Γ c with
  | some (.sl l)=>match H8 Γ c (.sl l)with
   | some a=>some ⟨.int .i64,fun e=>some ((a e).length:Int)⟩
   | none=>none
  | _=>none
 | _=>none
theorem sN0{T:Tab}{Φ:G6}{Γ:List Sp}{t:TypeId}{c:AV}{r:TO Γ}(h:yz0 T Γ t c=some r):r.Ok T Φ (.mlen t c):=by
 intro e v hv;unfold yz0 at h;split at h
 ·rename_i b
  split at h
  ·split at h
   ·rename_i f a
    cases h;cases hv;have hst:∀ c,(dw0 c).objs 0=some (R1 c):=fun c=>by simp[dw0,c8.objs_set]
    have d:∀ es,rowsOf (.rs es)=es:=fun _=>rfl;simp only[j4,gb0,b,hst,R1,F8,l7 _ _ _ a e,enc,d,aB,goInt]
   cases h
  cases h
 cases h
def tIsp(Γ:List Sp)(x:AV):Option (TO Γ):=match shp Γ x with
 | some (.ptr l)=>match H8 Γ x (.ptr l)with
  | some _=>some ⟨.tt,fun _=>some ()⟩
  | none=>none
 | _=>none
theorem wW0{T:Tab}{Φ:G6}{Γ:List Sp}{x:AV}{r:TO Γ}(h:tIsp Γ x=some r):r.Ok T Φ (.isp x):=by
 intro e v hv;unfold tIsp at h;split at h
 ·split at h
  ·rename_i f hf
   cases h;simp only[j4,l7 _ _ _ hf e,enc]
  cases h
 cases h
def tOpn(Γ:List Sp)(n:Nat)(x:AV):Option (TO Γ):=match shp Γ x with
 | some (.ptr l)=>match H8 Γ x (.ptr l)with
  | some f=>match aA l.len n with
   | true=>some ⟨.ptr l,fun e=>some (f e)⟩
   | false=>none
  | none=>none
 | _=>none
theorem wu0{T:Tab}{Φ:G6}{Γ:List Sp}{n:Nat}{x:AV}{r:TO Γ}(h:tOpn Γ n x=some r):r.Ok T Φ (.opn n x):=by
 intro e v hv;unfold tOpn at h;split at h
 ·split at h
  ·rename_i f hf
   split at h
   ·rename_i a
    have a:=af a;cases h;cases hv
    grind [j4,l7,enc,C4,dd]
   cases h
  cases h
 cases h
def shA(T:Tab):Nat->TypeId->Option (List Sp)
 | 0,_=>none
 | n+1,t=>match T t with
  | some { und:=.int k,.. }=>some [.int k]
  | some { und:=.bool,.. }=>some [.bool]
  | some { und:=.string,.. }=>some [.str]
  | some { und:=.array m e,.. }=>match shA T n e with
   | some l=>some (ba m l).flatten
   | none=>none
  | some { und:=.struct fields,.. }=>fields.toList.foldr (fun f acc=>match shA T n f.type,acc with
   | some a,some b=>some (a++b)
   | _,_=>none) (some [])
  | _=>none
def shT(T:Tab)(t:TypeId):Option Sp:=match T t with
 | some { und:=.int k,.. }=>some (.int k)
 | some { und:=.bool,.. }=>some .bool
 | some { und:=.string,.. }=>some .str
 | some ti=>match ti.isAgg,shA T 6 t with
  | true,some l=>some (.agg (SpL.ofList l))
  | _,_=>none
 | _=>none
def tGl(T:Tab)(Γ:List Sp)(t:TypeId)(g:Nat):Option (TO Γ):=match shT T t with
 | some s=>some ⟨s,fun _=>match qb0 T t g with
  | some a=>une a s
  | none=>none⟩
 | none=>none
theorem tGl_ok{T:Tab}{Φ:G6}{Γ:List Sp}{t:TypeId}{g:Nat}{r:TO Γ}(h:tGl T Γ t g=some r):r.Ok T Φ (.gl t g):=by
 intro e v hv;unfold tGl at h;split at h
 ·cases h
  grind [j4,fQ0]
 cases h
def tInb(T:Tab)(Γ:List Sp)(t:TypeId)(c i:AV):Option (TO Γ):=match T t with
 | some { und:=.slice el,.. }=>match T el with
  | some _=>match shp Γ c with
   | some (.sl l)=>match H8 Γ c (.sl l)with
    | some b=>match shp Γ i with
     | some (.int k)=>match H8 Γ i (.int k)with
      | some a=>some ⟨.tt,fun e=>bif decide (0<=a e)&&decide (a e<(b e).length)then some ()else none⟩
      | none=>none
     | _=>none
    | none=>none
   | _=>none
  | none=>none
 | _=>none
theorem wy0{T:Tab}{Φ:G6}{Γ:List Sp}{t:TypeId}{c i:AV}{r:TO Γ}(h:tInb T Γ t c i=some r):r.Ok T Φ (.inb t c i):=by
 intro e v hv;unfold tInb at h;split at h
 ·rename_i el _ _ _ _ j
  split at h
  ·rename_i m a
   split at h
   ·split at h
    ·rename_i k b
     split at h
     ·split at h
      ·rename_i f d
       cases h;simp only at hv;cases g:(decide (0<=f e)&&decide (f e<(k e).length))with
       | false=>rw[g]at hv;cases hv
       | true=>
        simp only[ab,Ad]at g;have l:∀ es,rowsOf (.rs es)=es:=fun _=>rfl;simp only[j4,l7 _ _ _ b e,l7 _ _ _ d e,enc,j,a,A6,l,aB]
        grind
      cases h
     cases h
    cases h
   cases h
  cases h
 cases h
def SpL.at:(l:SpL)->Nat->Option ((s:Sp)×(l.T->s.T))
 | .nil,_=>none
 | .one s,j=>match j with
  | 0=>some ⟨s,fun x=>x⟩
  | _+1=>none
 | .cons s l,j=>match j with
  | 0=>some ⟨s,fun x=>x.1⟩
  | j+1=>match l.at j with
   | some ⟨s',f⟩=>some ⟨s',fun x=>f x.2⟩
   | none=>none
theorem wL0:∀ (l:SpL) (j:Nat) (q:(s:Sp)×(l.T->s.T)),l.at j=some q->∀ x,(y3 l x)[j]?=some (enc q.1 (q.2 x))
 | .nil,j,q,h=>by simp[SpL.at]at h
 | .one s,0,q,h=>by simp only[SpL.at]at h;cases h;exact fun x=>rfl
 | .one s,j+1,q,h=>by simp[SpL.at]at h
 | .cons s l,0,q,h=>by simp only[SpL.at]at h;cases h;exact fun x=>rfl
 | .cons s l,j+1,q,h=>by
  simp only[SpL.at]at h;split at h
  ·rename_i s' f hf
   cases h;intro x;have:=wL0 l j _ hf x.2;simpa[y3]using this
  cases h
def SpL.tk:(l:SpL)->Nat->Option ((a:SpL)×(l.T->a.T))
 | _,0=>some ⟨.nil,fun _=>()⟩
 | .nil,_+1=>none
 | .one s,n+1=>match n with
  | 0=>some ⟨.one s,fun x=>x⟩
  | _+1=>none
 | .cons s l,n+1=>match n with
  | 0=>some ⟨.one s,fun x=>x.1⟩
  | n+1=>match l.tk (n+1)with
   | some ⟨a,f⟩=>some ⟨.cons s a,fun x=>(x.1,f x.2)⟩
   | none=>none
theorem xm0:∀ (l:SpL) (n:Nat) (q:(a:SpL)×(l.T->a.T)),l.tk n=some q->∀ x,(y3 l x).take n=y3 q.1 (q.2 x)/\n<=l.len
 | l,0,q,h=>by cases l<;>(simp only[SpL.tk]at h;cases h;exact fun x=>⟨by simp[y3],cP _⟩)
 | .nil,n+1,q,h=>by simp[SpL.tk]at h
 | .one s,1,q,h=>by simp only[SpL.tk]at h;cases h;exact fun x=>⟨rfl,ar _⟩
 | .one s,n+2,q,h=>by simp[SpL.tk]at h
 | .cons s l,1,q,h=>by simp only[SpL.tk]at h;cases h;exact fun x=>⟨rfl,by simp[SpL.len]⟩
 | .cons s l,n+2,q,h=>by
  simp only[SpL.tk]at h;split at h
  ·rename_i a f hf
   cases h;intro x;have:=xm0 l (n+1) _ hf x.2;exact⟨by simp only[y3,gJ,this.1],by simp[SpL.len];omega⟩
  cases h
def SpL.dr:(l:SpL)->Nat->Option ((a:SpL)×(l.T->a.T))
 | l,0=>some ⟨l,fun x=>x⟩
 | .cons _ l,n+1=>match l.dr n with
  | some ⟨a,f⟩=>some ⟨a,fun x=>f x.2⟩
  | none=>none
 | _,_+1=>none
theorem xu0:∀ (l:SpL) (n:Nat) (q:(a:SpL)×(l.T->a.T)),l.dr n=some q->∀ x,(y3 l x).drop n=y3 q.1 (q.2 x)/\q.1.len+n=l.len
 | l,0,q,h=>by cases l<;>(simp only[SpL.dr]at h;cases h;exact fun x=>⟨rfl,by simp⟩)
 | .nil,n+1,q,h=>by simp[SpL.dr]at h
 | .one s,n+1,q,h=>by simp[SpL.dr]at h
 | .cons s l,n+1,q,h=>by
  simp only[SpL.dr]at h;split at h
  ·rename_i a f hf
   cases h;intro x;have:=xu0 l n _ hf x.2;have h2:=this.2;exact⟨by simp only[y3,eN,this.1],by simp only[SpL.len]at h2 ⊢;omega⟩
  cases h
def ldL(ti:TI)(l:SpL)(off:Nat):Option ((s:Sp)×(l.T->s.T)):=match ti.isAgg with
 | true=>match l.dr off with
  | some ⟨l1,f1⟩=>match l1.tk ti.size with
   | some ⟨l2,f2⟩=>some ⟨.agg l2,fun x=>f2 (f1 x)⟩
   | none=>none
  | none=>none
 | false=>l.at off
theorem ldL_ok{ti:TI}{l:SpL}{off:Nat}{q:(s:Sp)×(l.T->s.T)}(h:ldL ti l off=some q)(x:l.T):E6 ti (y3 l x) off=some (enc q.1 (q.2 x)):=by
 unfold ldL at h;split at h
 ·rename_i ha
  split at h
  ·rename_i l1 f1 h1
   split at h
   ·rename_i l2 f2 h2
    cases h;obtain⟨a,a2⟩:=xu0 l off _ h1 x;obtain⟨b,c⟩:=xm0 l1 ti.size _ h2 (f1 x)
    grind [E6,C4,enc]
   cases h
  cases h
 grind [E6,wL0]
def tXld(T:Tab)(Γ:List Sp)(t:TypeId)(c i:AV)(off:Nat):Option (TO Γ):=match T t with
 | some ti=>match shp Γ c with
  | some (.sl l)=>match H8 Γ c (.sl l)with
   | some a=>match shp Γ i with
    | some (.int k)=>match H8 Γ i (.int k)with
     | some b=>match ldL ti l off with
      | some ⟨s,f⟩=>some ⟨s,fun e=>((a e)[(b e).toNat]?).map f⟩
      | none=>none
     | none=>none
    | _=>none
   | none=>none
  | _=>none
 | none=>none
theorem yo0{T:Tab}{Φ:G6}{Γ:List Sp}{t el:TypeId}{z:Nat}{c i:AV}{off:Nat}{r:TO Γ}(h:tXld T Γ t c i off=some r):r.Ok T Φ (.xld t el z c i off):=by
 intro e v hv;unfold tXld at h;split at h
 ·rename_i ti g
  split at h
  ·split at h
   ·rename_i j a
    split at h
    ·split at h
     ·rename_i k b
      split at h
      ·rename_i s f hf
       cases h;simp only at hv;have hst:∀ c,(ah0 el z c).objs 0=some (.row el z (rowsOf c)):=fun c=>by simp[ah0,c8.objs_set]
       have l:∀ es,rowsOf (.rs es)=es:=fun _=>rfl;simp only[j4,l7 _ _ _ a e,l7 _ _ _ b e,enc,W8,hst,l,Q5,aM,g];cases d:(j e)[(k e).toNat]? with
       | none=>rw[d]at hv;cases hv
       | some x=>rw[d]at hv;cases hv;simp only[aj];exact ldL_ok hf x
      cases h
     cases h
    cases h
   cases h
  cases h
 cases h
def SpL.ups:(l:SpL)->(a:SpL)->Option (l.T->a.T->l.T)
 | _,.nil=>some fun x _=>x
 | .one s,.one s'=>match h:s'.eqb s with
  | true=>some fun _ y=>mC0 h y
  | false=>none
 | .cons s _,.one s'=>match h:s'.eqb s with
  | true=>some fun x y=>(mC0 h y,x.2)
  | false=>none
 | .cons s l,.cons s' a=>match h:s'.eqb s with
  | true=>match l.ups a with
   | some f=>some fun x y=>(mC0 h y.1,f x.2 y.2)
   | none=>none
  | false=>none
 | _,_=>none
theorem vw0:∀ (l a:SpL) (f:l.T->a.T->l.T),l.ups a=some f->∀ x y,y3 l (f x y)=y3 a y++(y3 l x).drop a.len/\a.len<=l.len
 | l,.nil,f,h=>by cases l<;>(simp only[SpL.ups]at h;cases h;exact fun x y=>⟨by simp[y3,SpL.len],cP _⟩)
 | .nil,.one s',f,h=>by simp[SpL.ups]at h
 | .nil,.cons s' a,f,h=>by simp[SpL.ups]at h
 | .one s,.one s',f,h=>by
  unfold SpL.ups at h;split at h
  ·rename_i b;cases h
   exact fun x y=>⟨by simp[y3,bN0,SpL.len],ar _⟩
  cases h
 | .one s,.cons s' a,f,h=>by simp[SpL.ups]at h
 | .cons s l,.one s',f,h=>by
  unfold SpL.ups at h;split at h
  ·rename_i b;cases h
   exact fun x y=>⟨by simp[y3,bN0,SpL.len],by simp[SpL.len]⟩
  cases h
 | .cons s l,.cons s' a,f,h=>by
  unfold SpL.ups at h;split at h
  ·rename_i b
   split at h
   ·rename_i c hf
    cases h;intro x y;obtain⟨h1,h2⟩:=vw0 l a c hf x.2 y.2;exact⟨by simp only[y3,bN0,SpL.len,eN,h1,eY],by simp[SpL.len];exact h2⟩
   cases h
  cases h
def SpL.upAt:(l:SpL)->Nat->(a:SpL)->Option (l.T->a.T->l.T)
 | l,0,a=>l.ups a
 | .cons _ l,n+1,a=>match l.upAt n a with
  | some f=>some fun x y=>(x.1,f x.2 y)
  | none=>none
 | _,_+1,_=>none
theorem rn0:∀ (l:SpL) (n:Nat) (a:SpL) (f:l.T->a.T->l.T),l.upAt n a=some f->∀ x y,y3 l (f x y)=P7 (y3 l x) n (y3 a y)/\n+a.len<=l.len
 | l,0,a,f,h=>by
  intro x y;have h':l.ups a=some f:=by cases l<;>simpa only[SpL.upAt]using h
  obtain⟨h1,h2⟩:=vw0 l a f h' x y;exact⟨by simp[P7,h1,C4],by simpa using h2⟩
 | .nil,n+1,a,f,h=>by simp[SpL.upAt]at h
 | .one s,n+1,a,f,h=>by simp[SpL.upAt]at h
 | .cons s l,n+1,a,f,h=>by
  simp only[SpL.upAt]at h;split at h
  ·rename_i b hf
   cases h;intro x y;obtain⟨h1,h2⟩:=rn0 l n a b hf x.2 y;refine⟨?_,by simp[SpL.len];omega⟩;simp only[y3,P7,gJ,eY];have e:n+1+(y3 a y).length=(n+(y3 a y).length)+1:=by omega
   rw[e,eN,h1,P7]
  cases h
def celS:(s:Sp)->Option ((l:SpL)×(s.T->l.T))
 | .agg l=>match l.cells with
  | true=>some ⟨l,fun x=>x⟩
  | false=>none
 | s=>match s.cell with
  | true=>some ⟨.one s,fun x=>x⟩
  | false=>none
theorem xQ0{s:Sp}{q:(l:SpL)×(s.T->l.T)}(h:celS s=some q)(x:s.T):(enc s x).cells=some (y3 q.1 (q.2 x))/\(y3 q.1 (q.2 x)).all AV.one=true:=by
 cases s<;>simp only[celS,Sp.cell]at h<;>first
  | (cases h;done)
  | (cases h;exact⟨rfl,rfl⟩)
  | (split at h<;>first | (cases h;done) | (rename_i a;cases h;exact⟨rfl,cells_one a x⟩))
def kP0{α β:Type}(xs:List α)(i:Nat)(f:α->β->α)(y:β):Option (List α):=match xs[i]? with
 | some x=>some (xs.set i (f x y))
 | none=>none
def tXst(T:Tab)(Γ:List Sp)(t:TypeId)(c i:AV)(off:Nat)(v:AV):Option (TO Γ):=match T t with
 | some ti=>match shp Γ c with
  | some (.sl l)=>match H8 Γ c (.sl l)with
   | some b=>match shp Γ i with
    | some (.int k)=>match H8 Γ i (.int k)with
     | some d=>match shp Γ v with
      | some s=>match H8 Γ v s with
       | some fv=>match celS s with
        | some ⟨a,g⟩=>match l.upAt off a with
         | some f=>match aA a.len ti.size with
          | true=>some ⟨.sl l,fun e=>kP0 (b e) (d e).toNat f (g (fv e))⟩
          | false=>none
         | none=>none
        | none=>none
       | none=>none
      | none=>none
     | none=>none
    | _=>none
   | none=>none
  | _=>none
 | none=>none
theorem xN0{T:Tab}{Φ:G6}{Γ:List Sp}{t el:TypeId}{z:Nat}{c i:AV}{off:Nat}{u:AV}{r:TO Γ}(h:tXst T Γ t c i off u=some r):r.Ok T Φ (.xst t el z c i off u):=by
 intro e v hv;unfold tXst at h;split at h
 ·rename_i ti n
  split at h
  ·rename_i l _
   split at h
   ·rename_i k a
    split at h
    ·split at h
     ·rename_i o b
      split at h
      ·rename_i s _
       split at h
       ·rename_i fv d
        split at h
        ·rename_i p g q
         split at h
         ·rename_i f hf
          split at h
          ·rename_i j
           have j:=af j;cases h;simp only[kP0]at hv;have hst:∀ c,(ah0 el z c).objs 0=some (.row el z (rowsOf c)):=fun c=>by simp[ah0,c8.objs_set]
           have w:∀ es,rowsOf (.rs es)=es:=fun _=>rfl;have hc:c.sub (thE Γ e)=.rs ((k e).map (y3 l)):=l7 _ _ _ a e;obtain⟨c1,c2⟩:=xQ0 q (fv e);simp only[j4,hc,l7 _ _ _ b e,l7 _ _ _ d e,X2,enc,Q5,c1,n,hst,w,aM];cases m:(k e)[(o e).toNat]? with
           | none=>rw[m]at hv;cases hv
           | some x=>rw[m]at hv;cases hv;obtain⟨B,C⟩:=rn0 l off p f hf x (g (fv e));simp only[aj];rw[Af ⟨by rw[C4,j],by rw[C4,C4];exact C,c2⟩];simp only[c8.objs_set,Al,List.length_set,aB,dd];rw[<- B,List.map_set]
          cases h
         cases h
        cases h
       cases h
      cases h
     cases h
    cases h
   cases h
  cases h
 cases h
def zI:(n:Nat)->Option ((l:SpL)×l.T)
 | 0=>none
 | 1=>some ⟨.one (.int .i64),(0:Int)⟩
 | n+2=>match zI (n+1)with
  | some ⟨l,z⟩=>some ⟨.cons (.int .i64) l,((0:Int),z)⟩
  | none=>none
def uZ0{α:Type}(bytes:Nat)(z:α)(n:Int):Option (List α):=bif decide (aa.wrap n=n)&&(decide (0<n)&&(decide ((2*n.toNat+1000)*bytes<=2^48)&&decide (n.toNat<=2^62)))then some (ba n.toNat z)else none
def pB0:List AV->List AV->Bool
 | [],[]=>true
 | .sc (.int .i64 a)::az,.sc (.int .i64 b)::bs=>decide (a=b)&&pB0 az bs
 | _,_=>false
theorem kJ0:∀ {az bs:List AV},pB0 az bs=true->az=bs
 | [],[],_=>rfl
 | [],b::bs,h=>by simp[pB0]at h
 | a::az,bs,h=>by
  unfold pB0 at h;split at h
  ·rename_i h2;cases h2
  ·rename_i e c f d h1
   cases h1;simp only[ab,Ad]at h;rw[h.1,kJ0 h.2]
  cases h
def tZer(T:Tab)(Γ:List Sp)(sT:TypeId)(x:AV):Option (TO Γ):=match T sT with
 | some { und:=.slice el,.. }=>match T el with
  | some a=>match zI a.size with
   | some ⟨l,z⟩=>match pB0 a.zeroCells (y3 l z)&&bY 0 a.size with
    | true=>match shp Γ x with
     | some (.int k)=>match H8 Γ x (.int k)with
      | some fx=>some ⟨.sl l,fun e=>uZ0 a.bytes z (fx e)⟩
      | none=>none
     | _=>none
    | false=>none
   | none=>none
  | none=>none
 | _=>none
theorem yw0{T:Tab}{Φ:G6}{Γ:List Sp}{sT:TypeId}{x:AV}{r:TO Γ}(h:tZer T Γ sT x=some r):r.Ok T Φ (.zer sT x):=by
 intro e v hv;unfold tZer at h;split at h
 ·rename_i d
  split at h
  ·rename_i f a
   split at h
   ·rename_i l z hz
    split at h
    ·rename_i b
     simp only[ab,aV]at b;split at h
     ·split at h
      ·rename_i fx c
       cases h;simp only[uZ0]at hv;cases hc:(decide (aa.wrap (fx e)=fx e)&&(decide (0<fx e)&&(decide ((2*(fx e).toNat+1000)*f.bytes<=2^48)&&decide ((fx e).toNat<=2^62))))with
       | false=>rw[hc]at hv;cases hv
       | true=>rw[hc]at hv;simp only[ab,Ad]at hc;cases hv;simp only[j4,wn0,d,a,l7 _ _ _ c e,enc];rw[Af ⟨hc.1,hc.2.1,hc.2.2.1,hc.2.2.2,b.2⟩,kJ0 b.1];simp
      cases h
     cases h
    cases h
   cases h
  cases h
 cases h
def tIss(Γ:List Sp)(x:AV):Option (TO Γ):=match H8 Γ x .str with
 | some _=>some ⟨.tt,fun _=>some ()⟩
 | none=>none
theorem xZ0{T:Tab}{Φ:G6}{Γ:List Sp}{x:AV}{r:TO Γ}(h:tIss Γ x=some r):r.Ok T Φ (.iss x):=by
 intro e v hv;unfold tIss at h;split at h
 ·rename_i f hf
  cases h;simp only[j4,l7 _ _ _ hf e,enc]
 cases h
def wG0(Γ:List Sp)(x p:AV):Option (TO Γ):=match H8 Γ x .str with
 | some fx=>match H8 Γ p (.int .i64)with
  | some a=>some ⟨.bool,fun e=>some (decide ((a e).toNat<(fx e).size))⟩
  | none=>none
 | none=>none
theorem sL0{T:Tab}{Φ:G6}{Γ:List Sp}{x p:AV}{r:TO Γ}(h:wG0 Γ x p=some r):r.Ok T Φ (.more x p):=by
 intro e v hv;unfold wG0 at h;split at h
 ·rename_i fx a
  split at h
  ·rename_i c b
   cases h;cases hv;simp only[j4,l7 _ _ _ a e,l7 _ _ _ b e,enc]
  cases h
 cases h
def pY0(b:ByteArray)(n:Int):Option (Int×Int×Int):=bif decide (n.toNat<b.size)then some ((n.toNat:Int),((bS b n.toNat).1:Int),((n.toNat+(bS b n.toNat).2:Nat):Int))else none
def wp0(Γ:List Sp)(x p:AV):Option (TO Γ):=match H8 Γ x .str with
 | some fx=>match H8 Γ p (.int .i64)with
  | some a=>some ⟨.tup (.cons (.int .i64) (.cons (.int .i32) (.one (.int .i64)))),fun e=>pY0 (fx e) (a e)⟩
  | none=>none
 | none=>none
theorem uq0{T:Tab}{Φ:G6}{Γ:List Sp}{x p:AV}{r:TO Γ}(h:wp0 Γ x p=some r):r.Ok T Φ (.sdec x p):=by
 intro e v hv;unfold wp0 at h;split at h
 ·rename_i fx a
  split at h
  ·rename_i c b
   cases h;simp only[pY0]at hv;cases hc:decide ((c e).toNat<(fx e).size)with
   | false=>rw[hc]at hv;cases hv
   | true=>rw[hc]at hv;cases hv;simp only[j4,l7 _ _ _ a e,l7 _ _ _ b e,enc,y3,hc]
  cases h
 cases h
def shD(T:Tab):Nat->TypeId->Option Sp
 | 0,_=>none
 | k+1,t=>match T t with
  | some { und:=.int k,.. }=>some (.int k)
  | some { und:=.bool,.. }=>some .bool
  | some { und:=.string,.. }=>some .str
  | some { und:=.slice e,.. }=>match shD T k e with
   | some s=>some (.sl (.one s))
   | none=>none
  | _=>none
def owS(T:Tab)(cols:bE0)(j:Nat)(s:Sp):Option ((s':Sp)×(s.T->s'.T)):=match W9 cols j with
 | some c=>match shD T 4 c.2.1 with
  | some s'=>some ⟨.sl (.one s'),fun _=>[]⟩
  | none=>none
 | none=>some ⟨s,fun x=>x⟩
theorem vu0{T:Tab}{cols:bE0}{j:Nat}{s:Sp}{r:(s':Sp)×(s.T->s'.T)}(h:owS T cols j s=some r)(x:s.T):bi0 cols j (enc s x)=enc r.1 (r.2 x):=by
 unfold owS at h;unfold bi0;split at h
 ·rename_i c hc
  split at h
  ·cases h;rw[hc];rfl
  cases h
 rename_i hc;cases h;rw[hc]
def owL(T:Tab)(cols:bE0):Nat->(l:SpL)->Option ((a:SpL)×(l.T->a.T))
 | _,.nil=>some ⟨.nil,fun x=>x⟩
 | j,.one s=>match owS T cols j s with
  | some ⟨s',f⟩=>some ⟨.one s',f⟩
  | none=>none
 | j,.cons s l=>match owS T cols j s with
  | some ⟨s',f⟩=>match owL T cols (j+1) l with
   | some ⟨a,g⟩=>some ⟨.cons s' a,fun x=>(f x.1,g x.2)⟩
   | none=>none
  | none=>none
theorem vj0{T:Tab}{cols:bE0}:∀ (j:Nat) (l:SpL) (r:(a:SpL)×(l.T->a.T)),owL T cols j l=some r->∀ x,K4 cols j (y3 l x)=y3 r.1 (r.2 x)
 | _,.nil,r,h,x=>by simp only[owL]at h;cases h;rfl
 | j,.one s,r,h,x=>by
  simp only[owL]at h;split at h
  ·rename_i s' f hf
   cases h;simp only[y3,K4,vu0 hf x]
  cases h
 | j,.cons s l,r,h,x=>by
  simp only[owL]at h;split at h
  ·rename_i s' f hf
   split at h
   ·rename_i a g b
    cases h;simp only[y3,K4,vu0 hf x.1,vj0 (j+1) l _ b x.2]
   cases h
  cases h
def nlAt(l:SpL)(j:Nat):Bool:=match l.at j with
 | some ⟨.nl,_⟩=>true
 | _=>false
theorem wI0{l:SpL}{j:Nat}(h:nlAt l j=true)(x:l.T):(y3 l x)[j]?=some (.sc (.slice none 0 0)):=by
 unfold nlAt at h;split at h
 ·rename_i f hf
  exact wL0 l j _ hf x
 cases h
def ownO{α β:Type}(f:α->β)(xs:List α):Option (List β):=bif decide (16*xs.length<=R2)then some (xs.map f)else none
def xe0(T:Tab)(Γ:List Sp)(cols:bE0)(x:AV):Option (TO Γ):=match shp Γ x with
 | some (.sl l)=>match H8 Γ x (.sl l),owL T cols 0 l,cols.all (fun c=>bY c.1 16&&nlAt l c.1)with
  | some fx,some ⟨a,f⟩,true=>some ⟨.sl a,fun e=>ownO f (fx e)⟩
  | _,_,_=>none
 | _=>none
theorem tp0{T:Tab}{Φ:G6}{Γ:List Sp}{cols:bE0}{x:AV}{r:TO Γ}(h:xe0 T Γ cols x=some r):r.Ok T Φ (.ownr cols x):=by
 intro e v hv;unfold xe0 at h;split at h
 ·rename_i l hl
  split at h
  ·rename_i fx j f g hf hc
   cases h;simp only[ownO]at hv;have a:decide (16*(fx e).length<=R2)=true:=by grind
   rw[a]at hv;cases hv;have b:wo0 cols ((fx e).map (y3 l))=true:=by
    simp only[wo0,ab,aB,ak];refine⟨⟨a,fun c d=>?_⟩,fun r i c d=>?_⟩
    ·grind [ak]
    obtain⟨y,_,rfl⟩:=aY.1 i;have:=ak.1 hc c d;simp only[ab]at this;rw[wI0 this.2 y];rfl
   simp only[j4,l7 _ _ _ g e,enc,b,List.map_map];congr 2;refine List.map_congr_left fun y _=>?_;exact vj0 0 l _ hf y
  cases h
 cases h
def inO{α:Type}(xs:List α)(i:Int):Option Unit:=(xs[i.toNat]?).map fun _=>()
def tXin(Γ:List Sp)(c i:AV)(off:Nat):Option (TO Γ):=match shp Γ c with
 | some (.sl l)=>match H8 Γ c (.sl l),shp Γ i with
  | some a,some (.int k)=>match H8 Γ i (.int k),bY off l.len with
   | some b,true=>some ⟨.tt,fun e=>inO (a e) (b e)⟩
   | _,_=>none
  | _,_=>none
 | _=>none
theorem xP0{T:Tab}{Φ:G6}{Γ:List Sp}{c i:AV}{off:Nat}{r:TO Γ}(h:tXin Γ c i off=some r):r.Ok T Φ (.xin c i off):=by
 intro e v hv;unfold tXin at h;split at h
 ·rename_i l hl
  split at h
  ·rename_i g k a _
   split at h
   ·rename_i j b f
    cases h;simp only[inO]at hv;cases d:(g e)[(j e).toNat]? with
    | none=>rw[d]at hv;cases hv
    | some y=>
     have m:off<l.len:=by simpa[aV]using f
     rw[d]at hv;cases hv;simp only[j4,l7 _ _ _ a e,l7 _ _ _ b e,enc,rowsOf,Q5,aM,d,aj,C4,f]
   cases h
  cases h
 cases h
def castL{a b:SpL}(h:a.eqb b=true)(x:a.T):b.T:=(SpL.eqb_eq a b h)▸x
theorem rG0{a b:SpL}(h:a.eqb b=true)(x:a.T):y3 b (castL h x)=y3 a x:=by have:=SpL.eqb_eq a b h;subst this;rfl
def chAt(l:SpL)(m i:Nat):Option ((a:SpL)×(l.T->a.T)):=match l.dr (i*m)with
 | some ⟨l1,f1⟩=>match l1.tk m with
  | some ⟨l2,f2⟩=>some ⟨l2,fun x=>f2 (f1 x)⟩
  | none=>none
 | none=>none
theorem yc0{l:SpL}{m i:Nat}{q:(a:SpL)×(l.T->a.T)}(h:chAt l m i=some q)(x:l.T):((y3 l x).drop (i*m)).take m=y3 q.1 (q.2 x)/\i*m+m<=(y3 l x).length:=by
 unfold chAt at h;split at h
 ·rename_i l1 f1 h1
  split at h
  ·rename_i l2 f2 h2
   cases h;obtain⟨b,a2⟩:=xu0 _ _ _ h1 x;obtain⟨c,d⟩:=xm0 _ _ _ h2 (f1 x)
   grind [C4]
  cases h
 cases h
def chS(m:Nat)(s:SpL)(l:SpL):Nat->Nat->Option (l.T->List s.T)
 | 0,_=>some fun _=>[]
 | k+1,i=>match chAt l m i with
  | some ⟨l2,f⟩=>match h:l2.eqb s with
   | true=>match chS m s l k (i+1)with
    | some g=>some fun x=>castL h (f x)::g x
    | none=>none
   | false=>none
  | none=>none
theorem vi0{m:Nat}{s l:SpL}:∀ (k i:Nat) (g:l.T->List s.T),chS m s l k i=some g->∀ x,(g x).length=k/\∀ j y,(g x)[j]?=some y->((y3 l x).drop ((i+j)*m)).take m=y3 s y/\(i+j)*m+m<=(y3 l x).length
 | 0,i,g,h,x=>by grind [chS]
 | k+1,i,g,h,x=>by
  unfold chS at h;split at h
  ·rename_i l2 f h2
   split at h
   ·rename_i e
    split at h
    ·rename_i b c
     cases h;obtain⟨d,n⟩:=vi0 k (i+1) b c x;refine⟨by simp[d],fun j y a=>?_⟩;cases j with
     | zero=>simp only[List.getElem?_cons_zero,ai]at a;subst a;rw[rG0];exact yc0 h2 x
     | succ j=>grind [aI]
    cases h
   cases h
  cases h
def in0(T:Tab)(Γ:List Sp)(t:TypeId)(x i:AV):Option (TO Γ):=match shp Γ i with
 | some (.int k)=>match H8 Γ i (.int k)with
  | some b=>match T t with
   | some { und:=.array len el,.. }=>match T el with
    | some a=>match shp Γ x with
     | some (.agg l)=>match H8 Γ x (.agg l)with
      | some fx=>match chAt l a.size 0 with
       | some ⟨s,_⟩=>match chS a.size s l len 0 with
        | some g=>match a.isAgg with
         | true=>some ⟨.agg s,fun e=>nth (g (fx e)) (b e)⟩
         | false=>none
        | none=>none
       | none=>none
      | none=>none
     | _=>none
    | none=>none
   | _=>none
  | none=>none
 | _=>none
theorem oN0{T:Tab}{Φ:G6}{Γ:List Sp}{t:TypeId}{x i:AV}{r:TO Γ}(h:in0 T Γ t x i=some r):r.Ok T Φ (.index t x i):=by
 intro e v hv;unfold in0 at h;split at h
 ·split at h
  ·rename_i f b
   split at h
   ·rename_i len el _ _ _ _ j
    split at h
    ·rename_i p he
     split at h
     ·rename_i l hl
      split at h
      ·rename_i fx c
       split at h
       ·rename_i s f0 k
        split at h
        ·rename_i g m
         split at h
         ·rename_i a
          cases h;simp only[nth]at hv;by_cases d:0<=f e
          ·simp only[d,Ai,Ac]at hv
           obtain⟨q,n⟩:=vi0 _ _ _ m (fx e);have o:=(an.1 hv).1;have h1:f e<(len:Int):=by grind
           have:=n _ _ hv;rw[aG]at this;simp only[j4,l7 _ _ _ c e,l7 _ _ _ b e,enc,cE0,j,he,d,h1,and_self,Al,ky0,E6,a];rw[Af this.2,this.1]
          simp[d]at hv
         cases h
        cases h
       cases h
      cases h
     cases h
    cases h
   cases h
  cases h
 cases h
end Go.Ab
namespace Go.Ab
open Go
variable [B5]
def cQ0(n lo:Int):Option (Int×Int):=bif decide (0<=lo)&&decide (lo<=n)then some (lo,n-lo)else none
theorem ui0{n:Nat}{lo:Int}{v:Int×Int}(h:cQ0 n lo=some v):0<=lo/\lo<=n/\(v.1=((lo.toNat:Nat):Int))/\v.2=((n-lo.toNat:Nat):Int):=by
 unfold cQ0 at h;cases a:(decide (0<=lo)&&decide (lo<=(n:Int)))with
 | false=>rw[a]at h;cases h
 | true=>rw[a]at h;simp only[ab,Ad]at a;cases h;refine⟨a.1,a.2,?_,?_⟩<;>simp only<;>omega
def wH0(T:Tab)(Γ:List Sp)(t:TypeId)(z:Nat)(c lo:AV):Option (TO Γ):=match T t with
 | some { und:=.slice el,.. }=>match T el with
  | some a=>match aA z a.size with
   | true=>match shp Γ c with
    | some (.sl l)=>match H8 Γ c (.sl l)with
     | some b=>match shp Γ lo with
      | some (.int k)=>match H8 Γ lo (.int k)with
       | some d=>some ⟨.tup (.cons (.int .i64) (.one (.int .i64))),fun e=>cQ0 (b e).length (d e)⟩
       | none=>none
      | _=>none
     | none=>none
    | _=>none
   | false=>none
  | none=>none
 | _=>none
theorem td0{T:Tab}{Φ:G6}{Γ:List Sp}{t:TypeId}{z:Nat}{c lo:AV}{r:TO Γ}(h:wH0 T Γ t z c lo=some r):r.Ok T Φ (.tail t z c lo):=by
 intro e v hv;unfold wH0 at h;split at h
 ·rename_i el _ _ _ _ f
  split at h
  ·rename_i j a
   split at h
   ·rename_i hz
    rw[bk]at hz;subst hz;split at h
    ·split at h
     ·rename_i k b
      split at h
      ·split at h
       ·rename_i l d
        cases h;obtain⟨h1,h2,g,i⟩:=ui0 hv;simp only[j4,l7 _ _ _ b e,l7 _ _ _ d e,enc,y3,f,a,R6,rowsOf,aB,bound,Al];rw[Af ⟨h1,h2⟩];simp only[aG,g,i]
       cases h
      cases h
     cases h
    cases h
   cases h
  cases h
 cases h
def oX0(n m hi:Int):Option Bool:=bif decide (0<=hi)&&(decide (hi<=n)&&decide (hi=m))then some true else none
theorem yv0{n m:Nat}{hi:Int}{v:Bool}(h:oX0 n m hi=some v):0<=hi/\hi<=n/\hi.toNat=m/\v=true:=by
 unfold oX0 at h;cases a:(decide (0<=hi)&&(decide (hi<=(n:Int))&&decide (hi=(m:Int))))with
 | false=>rw[a]at h;cases h
 | true=>rw[a]at h;simp only[ab,Ad]at a;cases h;refine⟨a.1,a.2.1,by omega,rfl⟩
def tTke(T:Tab)(Γ:List Sp)(t:TypeId)(z:Nat)(c c' hi:AV):Option (TO Γ):=match T t with
 | some { und:=.slice el,.. }=>match T el with
  | some a=>match aA z a.size with
   | true=>match shp Γ c with
    | some (.sl l)=>match H8 Γ c (.sl l),H8 Γ c' (.sl l)with
     | some b,some fd=>match shp Γ hi with
      | some (.int k)=>match H8 Γ hi (.int k)with
       | some d=>some ⟨.bool,fun e=>oX0 (b e).length (fd e).length (d e)⟩
       | none=>none
      | _=>none
     | _,_=>none
    | _=>none
   | false=>none
  | none=>none
 | _=>none
theorem xK0{T:Tab}{Φ:G6}{Γ:List Sp}{t:TypeId}{z:Nat}{c c' hi:AV}{r:TO Γ}(h:tTke T Γ t z c c' hi=some r):r.Ok T Φ (.tke t z c c' hi):=by
 intro e v hv;unfold tTke at h;split at h
 ·rename_i el _ _ _ _ g
  split at h
  ·rename_i k a
   split at h
   ·rename_i hz
    rw[bk]at hz;subst hz;split at h
    ·split at h
     ·rename_i l fd b d
      split at h
      ·split at h
       ·rename_i m f
        cases h;obtain⟨h1,h2,i,rfl⟩:=yv0 hv;have j:∀ es,rowsOf (.rs es)=es:=fun _=>rfl;simp only[j4,l7 _ _ _ b e,l7 _ _ _ d e,l7 _ _ _ f e,enc,g,a,R6,j,aB,bound,Al];rw[Af ⟨h1,h2⟩];simp[i]
       cases h
      cases h
     cases h
    cases h
   cases h
  cases h
 cases h
def pu0{α:Type}(c:List α)(o l:Int):Option (List α):=bif decide (0<=o)&&(decide (0<=l)&&decide (o+l=(c.length:Int)))then some (c.take o.toNat)else none
theorem ys0{α:Type}{c v:List α}{o l:Int}(h:pu0 c o l=some v):o.toNat+l.toNat=c.length/\v=c.take o.toNat:=by
 unfold pu0 at h;cases a:(decide (0<=o)&&(decide (0<=l)&&decide (o+l=(c.length:Int))))with
 | false=>rw[a]at h;cases h
 | true=>rw[a]at h;simp only[ab,Ad]at a;cases h;exact⟨by omega,rfl⟩
def tCut(T:Tab)(Γ:List Sp)(t:TypeId)(z:Nat)(c o l:AV):Option (TO Γ):=match T t with
 | some { und:=.slice el,.. }=>match T el with
  | some a=>match aA z a.size&&a.zeroCells.all AV.one with
   | true=>match shp Γ c with
    | some (.sl s)=>match H8 Γ c (.sl s),shp Γ o,shp Γ l with
     | some b,some (.int k),some (.int d)=>match H8 Γ o (.int k),H8 Γ l (.int d)with
      | some f,some g=>some ⟨.sl s,fun e=>pu0 (b e) (f e) (g e)⟩
      | _,_=>none
     | _,_,_=>none
    | _=>none
   | false=>none
  | none=>none
 | _=>none
theorem ww0{T:Tab}{Φ:G6}{Γ:List Sp}{t a:TypeId}{z:Nat}{c o l:AV}{r:TO Γ}(h:tCut T Γ t z c o l=some r):r.Ok T Φ (.cut t a z c o l):=by
 intro e v hv;unfold tCut at h;split at h
 ·rename_i el _ _ _ _ j
  split at h
  ·rename_i n b
   split at h
   ·rename_i hz
    rw[ab,bk]at hz;obtain⟨rfl,d⟩:=hz;split at h
    ·split at h
     ·rename_i p k q f _ _
      split at h
      ·rename_i s u g i
       cases h;obtain⟨h1,rfl⟩:=ys0 hv;have m:∀ es,rowsOf (.rs es)=es:=fun _=>rfl;simp only[j4,l7 _ _ _ f e,l7 _ _ _ g e,l7 _ _ _ i e,enc,j,b,mX0,m,Q5,ah0,c8.objs_set,Al];rw[Af ⟨trivial,trivial,by rw[aB];exact h1,d⟩];simp[sp0,c8.objs_set,List.map_take]
      cases h
     cases h
    cases h
   cases h
  cases h
 cases h
def nngO(n:Int):Option Unit:=bif decide (0<=n)then some ()else none
def tNng(Γ:List Sp)(l:AV):Option (TO Γ):=match H8 Γ l (.int .i64)with
 | some f=>some ⟨.tt,fun e=>nngO (f e)⟩
 | none=>none
theorem xW0{T:Tab}{Φ:G6}{Γ:List Sp}{l:AV}{r:TO Γ}(h:tNng Γ l=some r):r.Ok T Φ (.nng l):=by
 intro e v hv;unfold tNng at h;split at h
 ·rename_i f hf
  cases h;simp only[nngO]at hv;cases a:decide (0<=f e)with
  | false=>rw[a]at hv;cases hv
  | true=>simp only[j4,l7 _ _ _ hf e,enc,a]
 cases h
def qB0(o l i:Int):Option Int:=bif decide (0<=o)&&(decide (0<=i)&&decide (i<l))then some (o+i)else none
theorem wY0{o l i v:Int}(h:qB0 o l i=some v):0<=i/\i<(l.toNat:Nat)/\v=((o.toNat+i.toNat:Nat):Int):=by
 unfold qB0 at h;cases a:(decide (0<=o)&&(decide (0<=i)&&decide (i<l)))with
 | false=>rw[a]at h;cases h
 | true=>rw[a]at h;simp only[ab,Ad]at a;cases h;omega
def tIxx(T:Tab)(Γ:List Sp)(t:TypeId)(o l i:AV):Option (TO Γ):=match T t with
 | some { und:=.slice el,.. }=>match T el with
  | some _=>match shp Γ o,shp Γ l,shp Γ i with
   | some (.int k),some (.int a),some (.int b)=>match H8 Γ o (.int k),H8 Γ l (.int a),H8 Γ i (.int b)with
    | some c,some d,some f=>some ⟨.int .i64,fun e=>qB0 (c e) (d e) (f e)⟩
    | _,_,_=>none
   | _,_,_=>none
  | none=>none
 | _=>none
theorem xf0{T:Tab}{Φ:G6}{Γ:List Sp}{t:TypeId}{o l i:AV}{r:TO Γ}(h:tIxx T Γ t o l i=some r):r.Ok T Φ (.ixx t o l i):=by
 intro e v hv;unfold tIxx at h;split at h
 ·rename_i el _ _ _ _ f
  split at h
  ·rename_i j a
   split at h
   ·split at h
    ·rename_i k m n b c d
     cases h;obtain⟨h1,h2,g⟩:=wY0 hv;simp only[j4,l7 _ _ _ b e,l7 _ _ _ c e,l7 _ _ _ d e,enc,f,a,A6,Q5,oh0];rw[Af ⟨h1,h2,trivial⟩];simp only[g]
    cases h
   cases h
  cases h
 cases h
def mksO{α:Type}(bytes:Nat)(z:α)(n:Int):Option (List α):=bif decide (0<=n)&&(decide (aa.wrap n=n)&&decide (bytes*n.toNat<=2^48))then some (ba n.toNat z)else none
def tMks(T:Tab)(Γ:List Sp)(sT:TypeId)(x:AV):Option (TO Γ):=match T sT with
 | some { und:=.slice el,.. }=>match T el with
  | some a=>match zI a.size with
   | some ⟨l,z⟩=>match pB0 a.zeroCells (y3 l z)with
    | true=>match shp Γ x with
     | some (.int k)=>match H8 Γ x (.int k)with
      | some fx=>some ⟨.sl l,fun e=>mksO a.bytes z (fx e)⟩
      | none=>none
     | _=>none
    | false=>none
   | none=>none
  | none=>none
 | _=>none
theorem yh0{T:Tab}{Φ:G6}{Γ:List Sp}{sT:TypeId}{x:AV}{r:TO Γ}(h:tMks T Γ sT x=some r):r.Ok T Φ (.mks sT x):=by
 intro e v hv;unfold tMks at h;split at h
 ·rename_i c
  split at h
  ·rename_i d a
   split at h
   ·rename_i l z hz
    split at h
    ·rename_i f
     split at h
     ·split at h
      ·rename_i fx b
       cases h;simp only[mksO]at hv;cases hc:(decide (0<=fx e)&&(decide (aa.wrap (fx e)=fx e)&&decide (d.bytes*(fx e).toNat<=2^48)))with
       | false=>rw[hc]at hv;cases hv
       | true=>rw[hc]at hv;simp only[ab,Ad]at hc;cases hv;simp only[j4,mK0,c,a,l7 _ _ _ b e,enc];rw[Af ⟨trivial,trivial,hc.1,hc.2.1,hc.2.2⟩,kJ0 f];simp[sp0,c8.objs_set]
      cases h
     cases h
    cases h
   cases h
  cases h
 cases h
def cpyO{α:Type}(c y:List α):Option (List α):=bif decide (y.length=c.length)then some y else none
def tCpy(T:Tab)(Γ:List Sp)(t:TypeId)(z:Nat)(c y:AV):Option (TO Γ):=match T t with
 | some { und:=.slice el,.. }=>match T el with
  | some a=>match shp Γ c with
   | some (.sl l)=>match H8 Γ c (.sl l),H8 Γ y (.sl l)with
    | some b,some d=>match aA z a.size&&(aA l.len a.size&&l.cells)with
     | true=>some ⟨.sl l,fun e=>cpyO (b e) (d e)⟩
     | false=>none
    | _,_=>none
   | _=>none
  | none=>none
 | _=>none
theorem wU0{T:Tab}{Φ:G6}{Γ:List Sp}{t a:TypeId}{z:Nat}{c y:AV}{r:TO Γ}(h:tCpy T Γ t z c y=some r):r.Ok T Φ (.cpy t a z c y):=by
 intro e v hv;unfold tCpy at h;split at h
 ·rename_i el _ _ _ _ i
  split at h
  ·rename_i p b
   split at h
   ·rename_i l _
    split at h
    ·rename_i j k d f
     split at h
     ·rename_i g
      simp only[ab,bk]at g;obtain⟨rfl,m,n⟩:=g;cases h;simp only[cpyO]at hv;cases hc:decide ((k e).length=(j e).length)with
      | false=>rw[hc]at hv;cases hv
      | true=>
       rw[hc]at hv;simp only[Ad]at hc;cases hv;have o:∀ es,rowsOf (.rs es)=es:=fun _=>rfl;simp only[j4,l7 _ _ _ d e,l7 _ _ _ f e,enc,i,b,dx0,o,isRs,N9,ah0,c8.objs_set,Al];rw[Af]
       ·simp[sp0,c8.objs_set]
       refine⟨trivial,trivial,trivial,by simp[hc],?_⟩;rw[dc,ak];intro y _;simp[C4,m,cells_one n y]
     cases h
    cases h
   cases h
  cases h
 cases h
def xd0(T:Tab)(Γ:List Sp)(t:TypeId)(c ix:AV):Option (TO Γ):=match shp Γ c with
 | some (.fmap (.cons K (.one V)))=>match H8 Γ c (.fmap (.cons K (.one V)))with
  | some a=>match T t with
   | some { und:=.map b d,.. }=>match T d with
    | some _=>match kyS K with
     | some _=>match eqK K with
      | some q=>match fitK T b K with
       | true=>match H8 Γ ix K with
        | some f=>some ⟨.bool,fun e=>some (lkp q (f e) (a e)).isSome⟩
        | none=>none
       | false=>none
      | none=>none
     | none=>none
    | none=>none
   | _=>none
  | none=>none
 | _=>none
theorem tw0{T:Tab}{Φ:G6}{Γ:List Sp}{t:TypeId}{c ix:AV}{r:TO Γ}(h:xd0 T Γ t c ix=some r):r.Ok T Φ (.hask t c ix):=by
 intro e v hv;unfold xd0 at h;split at h
 ·rename_i K V _
  split at h
  ·rename_i a j
   split at h
   ·rename_i n x _ _ _ _ o
    split at h
    ·rename_i z k
     split at h
     ·rename_i s hk
      obtain⟨b,g⟩:=s;split at h
      ·rename_i q u
       split at h
       ·rename_i hf
        split at h
        ·rename_i d l
         cases h;cases hv;have hc:c.sub (thE Γ e)=.rm (.rs ((a e).map (y3 (.cons K (.one V))))):=l7 _ _ _ j e;have m:ix.sub (thE Γ e)=enc K (d e):=l7 _ _ _ l e;have f:(bp0 ((a e).map (y3 (.cons K (.one V))))=b\/((a e).map (y3 (.cons K (.one V)))).isEmpty=true)/\X3 T n b (g (d e)) (u7 0 ((a e).map (y3 (.cons K (.one V)))))=true/\((a e).map (y3 (.cons K (.one V)))).all Q4=true:=by
          refine⟨?_,hY0 hk hf _ _ _,iZ0 hk _⟩
          grind [ko0]
         simp only[j4,hc,m,E5,o,fO0 hk,k];rw[Af f];have hm:=jH0 (V:=V) hk u (d e) (a e) 0 0;cases hl:lkp q (d e) (a e)with
         | none=>
          rw[hl]at hm;cases i:I5 b (g (d e)) (u7 0 ((a e).map (y3 (.cons K (.one V))))) 0 with
          | none=>simp[i,enc]
          | some p=>rw[i]at hm;cases hm
         | some w=>
          rw[hl]at hm;cases i:I5 b (g (d e)) (u7 0 ((a e).map (y3 (.cons K (.one V))))) 0 with
          | none=>rw[i]at hm;cases hm
          | some p=>simp[i,enc]
        cases h
       cases h
      cases h
     cases h
    cases h
   cases h
  cases h
 cases h
end Go.Ab
namespace Go.Ab
open Go
variable [B5]
def orElse'{α:Type}:Option α->Option α->Option α
 | some a,_=>some a
 | none,b=>b
def tOp(T:Tab)(e:List TF)(Γ:List Sp):RO->Option (TO Γ)
 | .bin o t x y=>tBin T Γ o t x y
 | .un o x=>tUn Γ o x
 | .conv s d x=>yB0 T Γ s d x
 | .pick c a b=>wT0 Γ c a b
 | .idx t x i=>tIdx T Γ t x i
 | .index t x i=>orElse' (jz0 T Γ t x i) (in0 T Γ t x i)
 | .slc t x lo hi=>tSlc T Γ t x lo hi
 | .len t x=>tLen T Γ t x
 | .mx l=>tMx Γ l
 | .mn l=>tMn Γ l
 | .cat sT xT x y=>tCat T Γ sT xT x y
 | .call f args h=>pZ0 Γ f args h e
 | .rows l=>xj0 Γ l
 | .look t c ix ok=>ya0 T Γ t c ix ok
 | .lookr t c ix ok=>sH0 T Γ t c ix ok
 | .mput t c ix v=>wP0 T Γ t c ix v
 | .mlen t c=>yz0 T Γ t c
 | .nop=>some ⟨.tt,fun _=>some ()⟩
 | .inb t c i=>tInb T Γ t c i
 | .xld t _ _ c i off=>tXld T Γ t c i off
 | .xst t _ _ c i off v=>tXst T Γ t c i off v
 | .isp x=>tIsp Γ x
 | .opn n x=>tOpn Γ n x
 | .zer t x=>tZer T Γ t x
 | .gl t g=>tGl T Γ t g
 | .iss x=>tIss Γ x
 | .more x p=>wG0 Γ x p
 | .sdec x p=>wp0 Γ x p
 | .ownr cols x=>xe0 T Γ cols x
 | .xin c i off=>tXin Γ c i off
 | .tail t z c lo=>wH0 T Γ t z c lo
 | .tke t z c c' hi=>tTke T Γ t z c c' hi
 | .cut t _ z c o l=>tCut T Γ t z c o l
 | .nng l=>tNng Γ l
 | .hask t c ix=>xd0 T Γ t c ix
 | .ixx t o l i=>tIxx T Γ t o l i
 | .mks t n=>tMks T Γ t n
 | .cpy t _ z c y=>tCpy T Γ t z c y
theorem tOp_ok{T:Tab}{Φ:G6}{j:List TF}(k:∀ t∈j,t.Ok Φ){Γ:List Sp}{o:RO}{r:TO Γ}(h:tOp T j Γ o=some r):r.Ok T Φ o:=by
 cases o with
 | bin o t x y=>exact yb0 h
 | un o x=>exact tUn_ok h
 | conv s d x=>exact tu0 h
 | pick c a b=>exact tM0 h
 | idx t x i=>exact xM0 h
 | index t x i=>
  cases h1:jz0 T Γ t x i with
  | some a=>rw[show tOp T j Γ (.index t x i)=orElse' (jz0 T Γ t x i) (in0 T Γ t x i)from rfl,h1]at h;cases h;exact qy0 h1
  | none=>rw[show tOp T j Γ (.index t x i)=orElse' (jz0 T Γ t x i) (in0 T Γ t x i)from rfl,h1]at h;exact oN0 h
 | slc t x lo hi=>exact yE0 h
 | len t x=>exact xI0 h
 | mx l=>exact tMx_ok h
 | mn l=>exact tMn_ok h
 | cat sT xT x y=>exact xi0 h
 | call f args m=>exact nD0 j k h
 | rows l=>exact ta0 h
 | look t c ix ok=>exact tY0 h
 | lookr t c ix ok=>exact si0 h
 | mput t c ix v=>exact un0 h
 | mlen t c=>exact sN0 h
 | nop=>cases h;exact fun e v _=>rfl
 | inb t c i=>exact wy0 h
 | xld t _ _ c i off=>exact yo0 h
 | xst t _ _ c i off v=>exact xN0 h
 | isp x=>exact wW0 h
 | opn n x=>exact wu0 h
 | zer t x=>exact yw0 h
 | gl t g=>exact tGl_ok h
 | iss x=>exact xZ0 h
 | more x p=>exact sL0 h
 | sdec x p=>exact uq0 h
 | ownr cols x=>exact tp0 h
 | xin c i off=>exact xP0 h
 | tail t z c lo=>exact td0 h
 | tke t z c c' hi=>exact xK0 h
 | cut t _ z c o l=>exact ww0 h
 | nng l=>exact xW0 h
 | hask t c ix=>exact tw0 h
 | ixx t o l i=>exact xf0 h
 | mks t n=>exact yh0 h
 | cpy t _ z c y=>exact wU0 h
def b8{α β:Type}:Option α->(α->Option β)->Option β
 | some a,f=>f a
 | none,_=>none
omit [B5] in
theorem uh0{α β:Type}{x:Option α}{f:α->Option β}{v:β}(h:b8 x f=some v):∃ a,x=some a/\f a=some v:=by
 cases x with
 | none=>cases h
 | some a=>exact⟨a,rfl,h⟩
def iter{α β:Type}(F:(α->Option β)->α->Option β):Nat->α->Option β
 | 0,_=>none
 | n+1,x=>F (iter F n) x
noncomputable def many:Nat:=Classical.choose (⟨2^100,ar _⟩:∃ n:Nat,2^100<=n)
class Fuel where
 n:Nat
noncomputable instance fuel0:Fuel:=⟨many⟩
def rounds[Fuel]{α β:Type}(F:(α->Option β)->α->Option β)(x:α):Option β:=iter F Fuel.n x
abbrev LCtx:=List (Nat×SpL)
@[reducible] def Kont (R:Type):LCtx->Type
 | []=>Unit
 | (_,s)::C=>(s.T->Option R)×Kont R C
def me0(R:Type):(C:LCtx)->Nat->Option ((s:SpL)×(Kont R C->s.T->Option R))
 | [],_=>none
 | (l,s)::C,b=>match aA l b with
  | true=>some ⟨s,fun a=>a.1⟩
  | false=>match me0 R C b with
   | some ⟨s',g⟩=>some ⟨s',fun a=>g a.2⟩
   | none=>none
def df0:(l:SpL)->(Γ:List Sp)->(Γ':List Sp)×(l.T->Env Γ->Env Γ')
 | .nil,Γ=>⟨Γ,fun _ e=>e⟩
 | .one s,Γ=>⟨s::Γ,fun x e=>(x,e)⟩
 | .cons s l,Γ=>match df0 l (s::Γ)with
  | ⟨Γ',p⟩=>⟨Γ',fun x e=>p x.2 (x.1,e)⟩
theorem nI0:∀ (l:SpL) (Γ:List Sp) (x:l.T) (e:Env Γ),fN0 (df0 l Γ).1 ((df0 l Γ).2 x e)=(y3 l x).reverse++fN0 Γ e
 | .nil,_,_,_=>rfl
 | .one _,_,_,_=>rfl
 | .cons s l,Γ,x,e=>by have:=nI0 l (s::Γ) x.2 (x.1,e);simp only[df0,this,y3,List.reverse_cons,List.append_assoc,fN0,List.singleton_append]
def hAt(H:Nat->Option SpL)(Γ:List Sp)(l:Nat)(inits:List AV):Nat->Option SpL
 | 0=>none
 | m+1=>match H l with
  | some ls=>match bD0 Γ inits ls with
   | some _=>some ls
   | none=>hAt H Γ (l+1000) inits m
  | none=>none
noncomputable def den(T:Tab)(h:List TF)(H:Nat->Option SpL)(cod:Sp):RT->(Γ:List Sp)->(C:LCtx)->Env Γ->Kont cod.T C->Option cod.T
 | .stuck,_,_=>fun _ _=>none
 | .ret c l,Γ,C=>match l.all (isSl Γ)with
  | true=>match H8 Γ c cod with
   | some f=>fun e _=>some (f e)
   | none=>fun _ _=>none
  | false=>fun _ _=>none
 | .op o fr pat r,Γ,C=>match aA fr Γ.length with
  | true=>match tOp T h Γ o with
   | some ⟨s,g⟩=>match bz0 pat s Γ with
    | some ⟨Γ',p⟩=>fun e d=>b8 (g e) fun v=>den T h H cod r Γ' C (p v e) d
    | none=>fun _ _=>none
   | none=>fun _ _=>none
  | false=>fun _ _=>none
 | .test i a b,Γ,C=>match xg0 Γ i .bool with
  | some f=>fun e d=>bif f e then den T h H cod a Γ C e d else den T h H cod b Γ C e d
  | none=>fun _ _=>none
 | .loop l k inits body,Γ,C=>match hAt H Γ l inits 4 with
  | some ls=>match aA l Γ.length&&(aA ls.len k&&body.bnd (l+k+1))with
   | true=>match bD0 Γ inits ls with
    | some j=>fun e d=>rounds (fun rec x=>den T h H cod body (.bool::(df0 ls Γ).1) ((l,ls)::C) (false,(df0 ls Γ).2 x e) (rec,d)) (j e)
    | none=>fun _ _=>none
   | false=>fun _ _=>none
  | none=>fun _ _=>none
 | .again l vals,Γ,C=>match me0 cod.T C l with
  | some ⟨s,g⟩=>match bD0 Γ vals s with
   | some f=>fun e d=>g d (f e)
   | none=>fun _ _=>none
  | none=>fun _ _=>none
theorem tS0{Γ:List Sp}{l:List Nat}(h:l.all (isSl Γ)=true)(e:Env Γ):∀ j∈l,∃ es,thE Γ e j=.rs es:=fun j hj=>rb0 (ak.1 h j hj) e
theorem jt0{T:Tab}{Φ:G6}{I:List TF}(z:∀ t∈I,t.Ok Φ){H:Nat->Option SpL}{cod:Sp}{v:cod.T}:∀ (r:RT) (Γ:List Sp) (C:LCtx) (e:Env Γ) (m:Kont cod.T C) (A:Nat->List AV->Prop),
  (∀ l s g,me0 cod.T C l=some ⟨s,g⟩->∀ x,g m x=some v->A l (y3 s x))->den T I H cod r Γ C e m=some v->Z5 T Φ (fun c=>c=enc cod v) r Γ.length (fN0 Γ e) A
 | .stuck,Γ,C,e,m,A,d,h=>by simp[den]at h
 | .ret c l,Γ,C,e,m,A,d,h=>by
  simp only[den]at h;cases hl:l.all (isSl Γ)with
  | false=>simp only[hl]at h;cases h
  | true=>
   simp only[hl]at h;cases hf:H8 Γ c cod with
   | none=>simp only[hf]at h;cases h
   | some f=>simp only[hf]at h;cases h;exact Z5.retL (fun j hj=>tS0 hl e j hj) (l7 _ _ _ hf e)
 | .op o fr pat r,Γ,C,e,m,A,d,h=>by
  simp only[den]at h;cases J:aA fr Γ.length with
  | false=>simp only[J]at h;cases h
  | true=>
   simp only[J]at h;have J:=af J;subst J;cases O:tOp T I Γ o with
   | none=>simp only[O]at h;cases h
   | some Y=>
    obtain⟨s,g⟩:=Y;simp only[O]at h;cases hp:bz0 pat s Γ with
    | none=>simp only[hp]at h;cases h
    | some x=>
     obtain⟨Γ',p⟩:=x;simp only[hp]at h;obtain⟨w,h1,h2⟩:=uh0 h;obtain⟨vs,U,Z,b3⟩:=gE0 _ _ _ _ hp w e;have K:=jt0 z r Γ' C (p w e) m A d h2;have P:=tOp_ok z O e w h1;have hlen:Γ'.length=Γ.length+vs.length:=by have:=Ap gB U;simp only[D8,aH]at this;omega
     have Q:fN0 Γ' (p w e)=vs++fN0 Γ e:=U;rw[hlen,Q]at K;refine Z5.opL vs ?_ Z K;have:=b3 [];simp only[bG,aH,D8]at this;rw[Nat.add_comm,this];exact P
 | .test i a b,Γ,C,e,m,A,d,h=>by
  simp only[den]at h;cases hf:xg0 Γ i .bool with
  | none=>simp only[hf]at h;cases h
  | some f=>
   simp only[hf]at h;refine Z5.test (f e) (mu0 hf e) (fun R=>?_) (fun R=>?_)
   ·rw[R]at h
    exact jt0 z a Γ C e m A d h
   rw[R]at h;exact jt0 z b Γ C e m A d h
 | .loop l k inits body,Γ,C,e,m,A,d,h=>by
  simp only[den]at h;cases L:hAt H Γ l inits 4 with
  | none=>simp only[L]at h;cases h
  | some ls=>
   simp only[L]at h;cases N:(aA l Γ.length&&(aA ls.len k&&body.bnd (l+k+1)))with
   | false=>simp only[N]at h;cases h
   | true=>
    simp only[N]at h;simp only[ab,bk]at N;obtain⟨rfl,hk,M⟩:=N;cases B:bD0 Γ inits ls with
    | none=>simp only[B]at h;cases h
    | some fi=>
     simp only[B]at h;refine Z5.loop (fun n vals=>∃ x,vals=y3 ls x/\iter (fun rec x=>den T I H cod body (.bool::(df0 ls Γ).1) ((Γ.length,ls)::C) (false,(df0 ls Γ).2 x e) (rec,m)) n x=some v) M many ?_ ?_
     ·refine⟨fi e,?_,h⟩
      have:=Z0 _ _ _ B e;rw[eK0]at this;exact this
     rintro n vals ⟨x,rfl,V⟩ hlen;cases n with
     | zero=>cases V
     | succ n=>
      have K:=jt0 z body (.bool::(df0 ls Γ).1) ((Γ.length,ls)::C) (false,(df0 ls Γ).2 x e) (iter (fun rec x=>den T I H cod body (.bool::(df0 ls Γ).1) ((Γ.length,ls)::C) (false,(df0 ls Γ).2 x e) (rec,m)) n,m)
       (fun D=>if D=Γ.length then (fun E=>∃ W,W<n+1/\∃ x,E=y3 ls x/\iter (fun rec x=>den T I H cod body (.bool::(df0 ls Γ).1) ((Γ.length,ls)::C) (false,(df0 ls Γ).2 x e) (rec,m)) W x=some v)else A D)
       (fun D s g hf y X=>by
        simp only[me0]at hf;cases u:aA Γ.length D with
        | true=>simp only[u]at hf;have u:=af u;subst u;cases hf;simp only[Al];exact⟨n,Nat.lt_succ_self _,y,rfl,X⟩
        | false=>
         simp only[u]at hf;have S:D≠Γ.length:=fun he=>by rw[he,dd]at u;cases u
         cases G:me0 cod.T C D with
         | none=>simp only[G]at hf;cases hf
         | some q=>
          obtain⟨s',g'⟩:=q;simp only[G]at hf;cases hf;simp only[S,Ah];exact d D _ _ G y X) V
      have e1:=nI0 ls Γ x e;have e2:(Sp.bool::(df0 ls Γ).1).length=Γ.length+k+1:=by have:=Ap gB e1;simp only[D8,aH,List.length_reverse,C4]at this;simp only[List.length_cons];omega
      rw[e2]at K;have e3:fN0 (Sp.bool::(df0 ls Γ).1) (false,(df0 ls Γ).2 x e)=.sc (.bool false)::((y3 ls x).reverse++fN0 Γ e):=by rw[<- e1];rfl
      rw[e3]at K;exact K
 | .again l vals,Γ,C,e,m,A,d,h=>by
  simp only[den]at h;cases G:me0 cod.T C l with
  | none=>simp only[G]at h;cases h
  | some q=>
   obtain⟨s,g⟩:=q;simp only[G]at h;cases hf:bD0 Γ vals s with
   | none=>simp only[hf]at h;cases h
   | some f=>
    simp only[hf]at h;have:=d l s g G (f e) h;rw[<- Z0 _ _ _ hf e,eK0]at this;intro J;have e1:env (fN0 Γ e).reverse=thE Γ e:=by rw[br0,D8];rfl
    intro hL;show A l _;rw[e1];exact this
noncomputable def uF0(T:Tab)(b:List TF)(H:Nat->Option SpL)(dom:SpL)(cod:Sp)(a:List AV)(r:RT):dom.T->Option cod.T:=match cM0 a dom []with
 | some ⟨Γ,p⟩=>fun x=>den T b H cod r Γ [] (p x ()) ()
 | none=>fun _=>none
def shL:List (Nat×SpL)->Nat->Option SpL
 | [],_=>none
 | (g,s)::l,f=>match aA g f with
  | true=>some s
  | false=>shL l f
theorem wv0{P:Program}{T:Tab}(hT:B7 P T){Φ:G6}(d:ir0 P Φ){F:FuncId->Option Func}(hF:∀ f fn,F f=some fn->P.funcs[f]?=some fn)(hm:P.follows .mixedOrders=true){j:List TF}(e:∀ t∈j,t.Ok Φ)
  {H:List (Nat×Hint)} {m:Nat} {f:FuncId} {a:List AV} {fr:Nat} {S:Nat->Option SpL} {dom:SpL} {cod:Sp} {g:dom.T->Option cod.T} (o:uF0 T j S dom cod a (hO0 T Φ F H m f a fr)=g) {x:dom.T} {v:cod.T} (h:g x=some v):J1 P ⟨f,y3 dom x,enc cod v⟩:=by
 subst o;unfold uF0 at h;cases hp:cM0 a dom []with
 | none=>simp only[hp]at h;cases h
 | some q=>
  obtain⟨Γ,p⟩:=q;simp only[hp]at h;obtain⟨vs,r,w,z⟩:=bl0 _ _ _ _ hp x ();have hl:=jt0 e _ Γ [] (p x ()) () (fun _ _=>False) (fun l s g hf=>by simp[me0]at hf) h;have c:fN0 Γ (p x ())=vs++[]:=r;have e1:af0 (thE Γ (p x ())) a=y3 dom x:=by have k:=z [];rw[bG]at k;unfold thE;rw[c,<-D8 Γ (p x ()),c];exact k
  rw[eK0]at e1;have b:∀ u∈fN0 Γ (p x ()),am0 u:=fun u hu=>by rw[c,List.append_nil]at hu;exact w u hu
  rw[<- e1];have i:=hl (by rw[D8]);have n:=i (fun u hu=>b u (by simpa using hu));rw[br0,D8]at n;exact oS0 hT d hF hm (by have:=Fit.env (l:=(fN0 Γ (p x ())).reverse) (fun u hu=>b u (by simpa using hu));rw[br0,D8]at this;exact this) n
end Go.Ab
namespace Go.Ab
open Go
variable [B5]
theorem map_inj{α β:Type}{f:α->β}(hf:∀ x y,f x=f y->x=y):∀ {xs ys:List α},xs.map f=ys.map f->xs=ys
 | [],[],_=>rfl
 | [],y::ys,h=>by simp at h
 | x::xs,[],h=>by simp at h
 | x::xs,y::ys,h=>by simp only[ay,b_]at h;rw[hf x y h.1,map_inj hf h.2]
mutual
theorem rp0:∀ (s:Sp) (x y:s.T),enc s x=enc s y->x=y
 | .int _,x,y,h=>by simp only[enc,AV.sc.injEq,eZ]at h;exact h.2
 | .bool,x,y,h=>by simp only[enc,AV.sc.injEq,gd]at h;exact h
 | .str,x,y,h=>by simp only[enc,AV.sc.injEq,jh]at h;exact h
 | .tt,x,y,_=>rfl
 | .nl,x,y,_=>rfl
 | .sl l,x,y,h=>by simp only[enc,AV.rs.injEq]at h;exact map_inj (Y8 l) h
 | .agg l,x,y,h=>by simp only[enc,AV.agg.injEq]at h;exact Y8 l x y h
 | .ptr l,x,y,h=>by simp only[enc,AV.rp.injEq]at h;exact Y8 l x y h
 | .fmap l,x,y,h=>by simp only[enc,AV.rm.injEq,AV.rs.injEq]at h;exact map_inj (Y8 l) h
 | .tup l,x,y,h=>by simp only[enc,AV.tup.injEq]at h;exact Y8 l x y h
 | .fn g l,x,y,h=>by simp only[enc,AV.fn.injEq]at h;exact Y8 l x y h.2.2
theorem Y8:∀ (l:SpL) (x y:l.T),y3 l x=y3 l y->x=y
 | .nil,_,_,_=>rfl
 | .one s,x,y,h=>by simp only[y3,b_,and_true]at h;exact rp0 s x y h
 | .cons s l,x,y,h=>by simp only[y3,b_]at h;exact iM (rp0 s _ _ h.1) (Y8 l _ _ h.2)
end
mutual
def Sp.sep:Sp->Sp->Bool
 | .fn g _,.fn a _=>!Nat.beq g a
 | _,_=>false
def SpL.sep:SpL->SpL->Bool
 | .one s,.one s'=>s.sep s'
 | .cons s l,.cons s' a=>s.sep s'||l.sep a
 | _,_=>false
end
theorem Sp.sep_ok{s s':Sp}(h:s.sep s'=true)(x:s.T)(y:s'.T):enc s x≠enc s' y:=by
 cases s<;>cases s'<;>simp only[Sp.sep]at h<;>try (cases h;done)
 intro he;simp only[enc,AV.fn.injEq,Fn.func.injEq]at he;rw[he.1,dd]at h;cases h
theorem SpL.sep_ok:∀ {l a:SpL},l.sep a=true->∀ (x:l.T) (y:a.T),y3 l x≠y3 a y
 | .nil,a,h,_,_=>by simp[SpL.sep]at h
 | .one s,.nil,h,_,_=>by simp[SpL.sep]at h
 | .one s,.one s',h,x,y=>by simp only[SpL.sep]at h;intro he;simp only[y3,b_,and_true]at he;exact Sp.sep_ok h x y he
 | .one s,.cons s' a,h,_,_=>by simp[SpL.sep]at h
 | .cons s l,.nil,h,_,_=>by simp[SpL.sep]at h
 | .cons s l,.one s',h,_,_=>by simp[SpL.sep]at h
 | .cons s l,.cons s' a,h,x,y=>by
  simp only[SpL.sep,eo]at h;intro he;simp only[y3,b_]at he;rcases h with h | h
  ·exact Sp.sep_ok h _ _ he.1
  exact SpL.sep_ok h _ _ he.2
def eD0(P:Program)(f:FuncId)(args:List AV)(c:AV):Prop:=∀ v z rest,args=v::.sc (.int .i64 (z:Nat))::rest->∃ es a,v=.rs es/\c=.rs a/\a.length=es.length /\
 ∀ σ id e restv,σ.objs id=some (.row e z es)->(∀ G vs w,B6 G restv vs->Rel G (σ.del id) w->B6 (G.frozen (σ.del id) w (fun _=>none)) rest vs) ->
  F3 P f (.ms id z 0 es.length::restv) σ (fun v σ'=>v=.tup []/\σ'=σ.set id (.row e z a))
def fu0(P:Program)(f:FuncId)(args:List AV)(c:AV):Prop:=∃ es,c=.rs es/\∀ T fn t elem ti a,B7 P T->P.funcs[f]?=some fn->fn.resultTypes.toList=[t]->T t=some ti->ti.und=.slice elem->T elem=some a ->
 ∀ σ:c8,F3 P f args σ (fun v σ'=>v=.ms (σ.next+5) a.size 0 es.length/\σ'={ σ with next:=σ.next+7 }.set (σ.next+5) (.row elem a.size es))
def Good(P:Program)(f:FuncId)(args:List AV)(c:AV):Prop:=(f<XT->J1 P ⟨f,args,c⟩)/\(∀ g,g<XT->f=XT+g->eD0 P g args c)/\∀ g,f=XR+g->fu0 P g args c
structure Hit(P:Program)(ts:List TF)(f:FuncId)(args:List AV)(c:AV):Prop where
 good:Good P f args c
 is:∃ t∈ts,t.f=f/\∃ x r,args=y3 t.dom x/\t.fn x=some r/\c=enc t.cod r
noncomputable def ra0(P:Program)(ts:List TF)(f:FuncId)(args:List AV):Option AV :=open Classical in if h:∃ c,Hit P ts f args c then some h.choose else none
theorem gT0{P:Program}{ts:List TF}{f:FuncId}{args:List AV}{c:AV}(h:ra0 P ts f args=some c):Hit P ts f args c:=by
 unfold ra0 at h;split at h
 ·rename_i a;cases h;exact a.choose_spec
 cases h
def uv0:List TF->FuncId->Bool
 | [],_=>false
 | t::ts,f=>match aA t.f f with
  | true=>true
  | false=>uv0 ts f
noncomputable def eR0(P:Program)(ts:List TF):G6:=fun f=>match uv0 ts f with
 | true=>some (ra0 P ts f)
 | false=>none
theorem lV0:∀ {ts:List TF} {t:TF},t∈ts->uv0 ts t.f=true
 | [],_,h=>by simp at h
 | b::ts,t,h=>by
  unfold uv0;split
  ·rfl
  rename_i a;rcases aC.1 h with rfl | h
  ·rw[dd]at a;cases a
  exact lV0 h
theorem jW0(P:Program)(ts:List TF):ir0 P (eR0 P ts):=by
 refine⟨fun f φ hf h args c hc=>?_,fun f φ hf h=>?_,fun f φ h=>?_⟩
 ·unfold eR0 at h
  split at h
  ·cases h;exact(gT0 hc).good.1 hf
  cases h
 ·unfold eR0 at h
  split at h
  ·cases h
   intro v z rest c hc;exact(gT0 hc).good.2.1 f hf rfl v z rest rfl
  cases h
 unfold eR0 at h;split at h
 ·cases h
  intro args c hc;exact(gT0 hc).good.2.2 f rfl
 cases h
def wD0:List TF->Bool
 | []=>true
 | t::ts=>(ts.all fun a=>!Nat.beq t.f a.f||t.dom.sep a.dom)&&wD0 ts
theorem qk0:∀ {ts:List TF},wD0 ts=true->∀ t∈ts,∀ c∈ts,c.f=t.f->∀ (x:t.dom.T) (d:c.dom.T),y3 c.dom d=y3 t.dom x->c=t
 | [],_,t,h,_,_,_,_,_,_=>by simp at h
 | a::ts,hs,t,g,c,e,hf,x,d,he=>by
  simp only[wD0,ab,ak,eo,bL]at hs;rcases aC.1 g with h1 | h1
  ·rcases aC.1 e with h2 | h2
   ·rw[h1,h2]
   subst h1;rcases hs.1 c h2 with b | b
   ·rw[hf,dd]at b;cases b
   exact Am he.symm (SpL.sep_ok b x d)
  rcases aC.1 e with h2 | h2
  ·subst h2
   rcases hs.1 t h1 with b | b
   ·rw[hf,dd]at b;cases b
   exact Am he (SpL.sep_ok b d x)
  exact qk0 hs.2 t h1 c h2 hf x d he
theorem Q3{P:Program}{ts:List TF}(hs:wD0 ts=true){t:TF}(b:t∈ts)(h:∀ x r,t.fn x=some r->Good P t.f (y3 t.dom x) (enc t.cod r)):t.Ok (eR0 P ts):=by intro x r d;refine⟨ra0 P ts t.f,by unfold eR0;rw[lV0 b],?_⟩;have hex:∃ c,Hit P ts t.f (y3 t.dom x) c:=⟨_,h x r d,t,b,rfl,x,r,rfl,d,rfl⟩;unfold ra0;rw[dif_pos hex];obtain⟨j,g,e,hf,i,k,he,a,hc⟩:=hex.choose_spec;have:=qk0 hs t b g e hf x i he.symm;subst this;have:=Y8 _ _ _ he;subst this;rw[d]at a;cases a;rw[hc]
theorem Good.memo{P:Program}{f:FuncId}{args:List AV}{c:AV}(hf:f<XT)(h:J1 P ⟨f,args,c⟩):Good P f args c:=by
 refine⟨fun _=>h,fun g _ a=>?_,fun g a=>?_⟩<;>exfalso
 ·subst a
  exact fz.2 (aO XT g) hf
 subst a;exact fz.2 (bo (by decide) (aO XR g)) hf
theorem Good.sort{P:Program}{g:FuncId}{args:List AV}{c:AV}(h:eD0 P g args c)(d:g<XT:=by decide):Good P (XT+g) args c:=by
 refine⟨fun hf=>Am hf (fz.2 (aO XT g)),fun b _ a=>?_,fun b a=>?_⟩
 ·have:g=b:=gQ a
  rw[<- this];exact h
 exfalso;have e:@Eq Nat (1000000+g) (2000000+b):=a;have f:@LT.lt Nat _ g 1000000:=d;omega
theorem Good.row{P:Program}{g:FuncId}{args:List AV}{c:AV}(h:fu0 P g args c):Good P (XR+g) args c:=by
 refine⟨fun hf=>Am hf (fz.2 (bo (by decide) (aO XR g))),fun b a he=>?_,fun b a=>?_⟩
 ·exfalso
  have e:@Eq Nat (2000000+g) (1000000+b):=he;have d:@LT.lt Nat _ b 1000000:=a;omega
 have:g=b:=gQ a;rw[<- this];exact h
theorem tf_ok{P:Program}{T:Tab}(hT:B7 P T){F:FuncId->Option Func}(hF:∀ f fn,F f=some fn->P.funcs[f]?=some fn)(hm:P.follows .mixedOrders=true){ts c:List TF}(hs:wD0 ts=true)(b:∀ t∈c,t.Ok (eR0 P ts)){t:TF}(d:t∈ts)(hf:bY t.f XT=true)
  {H:List (Nat×Hint)} {m:Nat} {a:List AV} {fr:Nat} {S:Nat->Option SpL} (e:uF0 T c S t.dom t.cod a (hO0 T (eR0 P ts) F H m t.f a fr)=t.fn):t.Ok (eR0 P ts) :=
 Q3 hs d fun x r g=>Good.memo (by simpa using hf) (wv0 hT (jW0 P ts) hF hm b e g)
end Go.Ab
namespace Go.Ab
open Go
variable [B5]
def Tr.allI{α:Type}(p:Nat->α->Bool):Nat->Nat->Tr α->Bool
 | _,_,.leaf=>true
 | m,b,.node v l r=>(match v with | some x=>p b x | none=>true)&&(Tr.allI p (2*m) (m+b) l&&Tr.allI p (2*m) (2*m+b) r)
theorem Tr.allI_get{α:Type}{p:Nat->α->Bool}:∀ (t:Tr α) (m b k:Nat) (v:α),t.allI p m b=true->t.get k=some v->p (m*k+b) v=true
 | .leaf,m,b,k,v,_,h=>by rw[Tr.get_leaf]at h;cases h
 | .node x l r,m,b,0,v,h,a=>by simp only[Tr.get]at a;simp only[Tr.allI,ab]at h;rw[a]at h;simpa using h.1
 | .node x l r,m,b,k+1,v,h,a=>by
  simp only[Tr.allI,ab]at h;simp only[Tr.get]at a;have hk:=eW k 2;rcases Nat.mod_two_eq_zero_or_one k with e | e<;>rw[e]at a<;>simp only at a
  ·have:=Tr.allI_get l (2*m) (m+b) (k / 2) v h.2.1 a
   rw[e]at hk;have e2:m*(k+1)+b=2*m*(k / 2)+(m+b):=by
    have:m*(k+1)=m*(2*(k / 2))+m:=by
     have:k+1=2*(k / 2)+1:=by omega
     rw[this,jm,Nat.mul_one]
    rw[this,dj 2 m,iY];omega
   rw[e2];exact this
  have:=Tr.allI_get r (2*m) (2*m+b) (k / 2) v h.2.2 a;rw[e]at hk;have e2:m*(k+1)+b=2*m*(k / 2)+(2*m+b):=by
   have:m*(k+1)=m*(2*(k / 2))+2*m:=by
    have:k+1=2*(k / 2)+2:=by omega
    rw[this,jm,dj 2 m]
   rw[this,dj 2 m,iY];omega
  rw[e2];exact this
structure Fam where
 a:Nat
 e:TypeId
 z:Nat
 j:Nat
 cols:bE0
def kM0(a:Option Fam)(θ:Nat->AV):List (Nat×j5):=match a with
 | none=>[]
 | some F=>dq0 F.cols 0 (rowsOf (θ F.j))
def fw0(a:Option Fam)(θ:Nat->AV):Prop:=match a with
 | none=>True
 | some F=>∃ rows,θ F.j=.rs rows/\kE0 F.cols rows
def AS.full(s:AS)(a:Option Fam)(θ:Nat->AV):AS:=(s.sub θ).addH (kM0 a θ)
def uT0:bE0->bE0->Bool
 | [],[]=>true
 | c::cs,d::a=>aA c.1 d.1&&aA c.2.1 d.2.1&&aA c.2.2 d.2.2&&uT0 cs a
 | _,_=>false
theorem kB0:∀ {a b:bE0},uT0 a b=true->a=b
 | [],[],_=>rfl
 | [],_::_,h=>by simp[uT0]at h
 | _::_,[],h=>by simp[uT0]at h
 | c::cs,d::g,h=>by simp only[uT0,ab]at h;obtain⟨⟨⟨h1,h2⟩,e⟩,f⟩:=h;rw[kB0 f,show c=d from iM (af h1) (iM (af h2) (af e))]
def et0(b:Option Fam)(s:AS)(fr:Nat):Bool:=cJ R2 s.st.next&&s.st.tr.allI (fun i _=>cJ R2 i) 1 0&&match b with
 | none=>true
 | some F=>bY F.j fr&&match s.st.objs F.a with
  | some (.frow e z (.sy j) cols _ _ none)=>aA e F.e&&aA z F.z&&aA j F.j&&uT0 cols F.cols
  | _=>false
theorem gL0{a:Option Fam}{s:AS}{fr:Nat}(h:et0 a s fr=true):R2<=s.st.next:=by simp only[et0,ab]at h;exact aQ h.1.1
theorem gK0{a:Option Fam}{s:AS}{fr:Nat}(h:et0 a s fr=true){i:Nat}(hi:i<R2):s.st.objs i=none:=by
 simp only[et0,ab]at h;cases b:s.st.objs i with
 | none=>rfl
 | some o=>have:=Tr.allI_get _ _ _ _ _ h.1.2 b;have:=aQ this;omega
theorem vx0{F:Fam}{s:AS}{fr:Nat}(h:et0 (some F) s fr=true):F.j<fr:=by simp only[et0,ab]at h;have:=h.2.1;simpa[aV]using this
theorem oe0{F:Fam}{s:AS}{fr:Nat}(h:et0 (some F) s fr=true):∃ k off,s.st.objs F.a=some (.frow F.e F.z (.sy F.j) F.cols k off none):=by
 simp only[et0,ab]at h;have:=h.2.2;split at this
 ·rename_i e z j cols k off heq
  simp only[ab]at this;obtain⟨⟨⟨h1,h2⟩,b⟩,c⟩:=this;rw[heq,af h1,af h2,af b,kB0 c];exact⟨k,off,rfl⟩
 cases this
theorem nr0{a:Option Fam}{θ:Nat->AV}(h:fw0 a θ){p:Nat×j5}(hp:p∈kM0 a θ):p.1<R2/\pureRow p.2=true:=by
 cases a with
 | none=>simp[kM0]at hp
 | some F=>obtain⟨rows,h1,h2⟩:=h;simp only[kM0,h1,rowsOf]at hp;exact eO0 h2 hp
theorem jC0{b:Option Fam}{θ a:Nat->AV}{s:AS}{fr:Nat}(c:et0 b s fr=true)(h:∀ i,i<fr->a i=θ i):kM0 b a=kM0 b θ/\(fw0 b θ->fw0 b a):=by
 cases b with
 | none=>exact⟨rfl,fun _=>trivial⟩
 | some F=>have:=h F.j (vx0 c);exact⟨by simp only[kM0,this],fun ⟨rows,h1,h2⟩=>⟨rows,by rw[this];exact h1,h2⟩⟩
theorem Ren.addH{ι:Nat->Option (Option Nat)}{s' s:AS}{H:List (Nat×j5)}(h:Ren ι R2 s' s)(hH:∀ p∈H,p.1<R2/\pureRow p.2=true)(e:∀ i,i<R2->s.st.objs i=none):Ren ι 0 (s'.addH H) (s.addH H):=by
 have a:∀ i o,(s'.addH H).st.objs i=some o->(N6 H i=some o/\i<R2/\pureRow o=true)\/s'.st.objs i=some o:=fun i o b=>by
  rw[AS.addH_st,F7]at b;cases f:N6 H i with
  | some o'=>rw[f]at b;simp only[ai]at b;subst b;exact .inl ⟨rfl,hH _ (V5 f)⟩
  | none=>rw[f]at b;exact .inr b
 have d:∀ i k o,s'.st.objs i=some o->ι i=some (some k)->R2<=k:=fun i k o b hk=>by
  rcases h.objs i o b with ⟨r,o',h1,h2,_⟩ | ⟨h1,_⟩
  ·rw[h1]at hk
   cases hk;refine iw fun g=>?_;rw[e _ g]at h2;cases h2
  rw[h1]at hk;cases hk
 refine⟨h.nn,fun i hi=>by omega,fun i k hk=>by rw[AS.addH_st,Z4];exact h.dom i k hk,cP _,fun i j k oi oj h1 h2 l m=>?_,h.slots,h.beyond,fun i o b=>?_⟩
 ·rcases a i oi l with ⟨_,c,_⟩ | c<;>rcases a j oj m with ⟨_,c1,_⟩ | c1
  ·have e1:=h.low i c
   have e2:=h.low j c1;rw[h1]at e1;rw[h2]at e2;cases e1;cases e2;rfl
  ·have e1:=h.low i c
   rw[h1]at e1;cases e1;have:=d j _ oj c1 h2;omega
  ·have e1:=h.low j c1
   rw[h2]at e1;cases e1;have:=d i _ oi c h1;omega
  exact h.inj i j k oi oj h1 h2 c c1
 rcases a i o b with ⟨n,c,q⟩ | c
 ·exact .inl ⟨i,o,h.low i c,by rw[AS.addH_st,F7,n],go0.pureRow q⟩
 rcases h.objs i o c with ⟨k,o',h1,h2,l⟩ | h1
 ·refine .inl ⟨k,o',h1,?_,l⟩
  rw[AS.addH_st,F7];cases f:N6 H k with
  | none=>exact h2
  | some o2=>have:=(hH _ (V5 f)).1;rw[e _ this]at h2;cases h2
 exact .inr h1
def sm0(a z j b:Nat)(p:Nat->Bool)(v:AV):AV:=match v with
 | .ss c d i=>match aA c a&&aA i j&&aA d z with
  | true=>.ss a z b
  | false=>match v.ids p with
   | true=>v
   | false=>.any
 | v=>match v.ids p with
  | true=>v
  | false=>.any
def AS.act(S:AS)(a z j b:Nat)(p:Nat->Bool)(σ:c8):AS:={ n:=S.n,tr:=S.tr.map (sm0 a z j b p),st:=σ }
def ckB(p:Nat->Bool)(a:Nat)(S:AS):Bool:=S.tr.allI (fun i _=>bY i S.n) 1 0&&S.st.tr.allI (fun i o=>aA i a||(p i&&o.ids p)) 1 0&&p a
theorem kt0{p:Nat->Bool}{a:Nat}{S:AS}(h:ckB p a S=true){i:Nat}{o:j5}(b:S.st.objs i=some o):i=a\/(p i=true/\o.ids p=true):=by
 simp only[ckB,ab]at h;have:=Tr.allI_get _ _ _ _ _ h.1.2 b;simp only[gR,Nat.add_zero,eo,ab]at this;rcases this with h1 | h1
 ·exact .inl (af h1)
 exact .inr h1
theorem lv0{p:Nat->Bool}{a:Nat}{S:AS}(h:ckB p a S=true):p a=true:=by simp only[ckB,ab]at h;exact h.2
theorem qv0(S:AS)(a z j b:Nat)(p:Nat->Bool)(σ:c8)(t:Nat):(S.act a z j b p σ).get t=sm0 a z j b p (S.get t):=by
 simp only[AS.act,AS.get,Tr.map_get];cases S.tr.get t with
 | none=>simp[sm0,AV.ids]
 | some v=>simp
theorem ks0{S:AS}{θ:Nat->AV}(l:Fit θ){a z j d:Nat}{p:Nat->Bool}{σ σ0:c8}{ι:Nat->Option (Option Nat)}{H m:List (Nat×j5)}(hp:∀ i,p i=true->ι i=some (some i))(b:ckB p a { S with st:=σ0 }=true)(hlen:(rowsOf (θ d)).length=(rowsOf (θ j)).length)
  (f:∀ i k,ι i=some k->i<σ.next) (g:∀ i j k,ι i=some (some k)->ι j=some (some k)->i=j)
  (c:∀ i o,(((S.act a z j d p σ).sub θ).addH m).st.objs i=some o->(∃ k o',ι i=some (some k)/\((S.sub θ).addH H).st.objs k=some o'/\go0 ι o o')\/(ι i=some none/\∃ e z,o=.row e z [])) :
  Ren ι 0 (((S.act a z j d p σ).sub θ).addH m) ((S.sub θ).addH H):=by
 refine⟨rfl,fun i hi=>by omega,fun i k hk=>by rw[AS.addH_st,Z4];exact f i k hk,cP _,fun i j k oi oj h1 h2 _ _=>g i j k h1 h2,fun t q=>?_,fun t q=>?_,c⟩
 ·show RV ι (((S.act a z j d p σ).sub θ).get t) ((S.sub θ).get t)
  rw[AS.sub_get,AS.sub_get,qv0];have gen:∀ v:AV,RV ι ((match v.ids p with | true=>v | false=>.any).sub θ) (v.sub θ):=fun v=>by
   cases hv:v.ids p with
   | true=>exact RV.ids hp (fi0 l p v hv)
   | false=>intro G u _;exact .any u
  unfold sm0;split
  ·rename_i w x i he
   split
   ·rename_i h
    simp only[ab]at h;have e1:=af h.1.1;have e2:=af h.1.2;have e3:=af h.2;subst e1;subst e2;subst e3;rw[he];simp only[P8,hlen];exact RV.ids hp (p:=p) (by simp only[AV.ids];exact lv0 b)
   exact gen _
  exact gen _
 show ((S.act a z j d p σ).sub θ).get t=.sc undef;rw[AS.sub_get,qv0];have r:S.tr.get t=none:=by
  cases s:S.tr.get t with
  | none=>rfl
  | some v=>
   simp only[ckB,ab]at b;have:=Tr.allI_get _ _ _ _ _ b.1.1 s;have h1:t<S.n:=by simpa[aV]using this
   have h2:S.n<=t:=q;omega
 simp only[AS.get,r,Option.getD_none,sm0,AV.ids,AV.sub]
theorem oi0{v:AV}(h:isNil v=true):v=.sc (.slice none 0 0):=by
 unfold isNil at h;split at h
 ·rfl
 cases h
theorem rM0{cols:bE0}{rows:List (List AV)}(h:wo0 cols rows=true)(e:(AV.rs rows).pur=true):kE0 cols (rows.map (K4 cols 0))/\∀ r∈rows,∀ g x,(W9 cols g).isSome->r[g]?=some x->x=.sc (.slice none 0 0):=by
 simp only[wo0,ab,Ad,ak]at h;obtain⟨⟨h1,h2⟩,m⟩:=h;have d:∀ r∈rows,∀ c∈cols,r[c.1]?=some (.sc (.slice none 0 0)):=fun r a c hc=>by
  have:=m r a c hc;split at this
  ·rename_i v hv;rw[hv,oi0 this]
  cases this
 refine⟨⟨by rw[aB];exact h1,fun c hc=>by have:=h2 c hc;simpa[aV]using this,?_,fun r a c hc=>?_⟩,fun r a g x hs l=>?_⟩
 ·simp only[AV.pur]
  have key:∀ rows:List (List AV),kO0 rows=true->kO0 (rows.map (K4 cols 0))=true:=by
   have row:∀ (r:List AV) (j:Nat),kh0 r=true->kh0 (K4 cols j r)=true:=by
    intro r
    induction r with
    | nil=>intro _ _;rfl
    | cons v vs i=>
     intro j a;simp only[kh0,ab]at a;simp only[K4,kh0,ab];refine⟨?_,i _ a.2⟩;unfold bi0;split
     ·rfl
     exact a.1
   intro rows
   induction rows with
   | nil=>intro _;rfl
   | cons r rs i=>intro a;simp only[kO0,ab]at a;simp only[ay,kO0,ab];exact⟨row r 0 a.1,i a.2⟩
  exact key rows (by simpa only[AV.pur]using e)
 ·obtain⟨n,k,rfl⟩:=aY.1 a
  refine⟨[],?_⟩;rw[cy0,d n k c hc];simp only[aj,aG,bi0];have f:(W9 cols c.1).isSome=true:=by rw[W9,hJ];exact⟨c,hc,by simp⟩
  cases b:W9 cols c.1 with
  | none=>rw[b]at f;cases f
  | some _=>rfl
 cases b:W9 cols g with
 | none=>rw[b]at hs;cases hs
 | some c=>obtain⟨o,p⟩:=Q7 b;subst p;have:=d r a c o;rw[this]at l;cases l;rfl
def pLo(S:AS)(i:Nat):Bool:=cJ R2 i&&bY i S.st.next
theorem ic0{S:AS}{i:Nat}(h:pLo S i=true):R2<=i/\i<S.st.next:=by simp only[pLo,ab]at h;exact⟨aQ h.1,by simpa[aV]using h.2⟩
def AS.own(S:AS)(a:Nat)(e:TypeId)(z j b:Nat)(cols:bE0):AS:=S.act a z j b (pLo S) (S.st.set a (.frow e z (.sy b) cols (.sy b) R2 none))
theorem own_st{S:AS}{θ:Nat->AV}(h:Fit θ){a:Nat}{e:TypeId}{z j n:Nat}{cols:bE0}{rows:List (List AV)}(ha:S.st.objs a=some (.xrow e z j))(f:ckB (pLo S) a S=true)(hj:θ j=.rs rows)(q:θ n=.rs (rows.map (K4 cols 0)))(s:wo0 cols rows=true) :
  ∃ ι,Ren ι 0 (((S.own a e z j n cols).sub θ).addH (dq0 cols 0 (rows.map (K4 cols 0)))) ((S.sub θ).addH []):=by
 have g:(AV.rs rows).pur=true:=by have:=(h j).pur;rw[hj]at this;exact this
 obtain⟨K,t⟩:=rM0 s g;obtain⟨H,I⟩:=ic0 (lv0 f);let ι:Nat->Option (Option Nat):=fun i=>if i<R2 then some none else if i<S.st.next then some (some i)else none
 have u:∀ i,i<R2->ι i=some none:=fun i hi=>by simp only[ι,Af hi]
 have d:∀ i,pLo S i=true->ι i=some (some i):=fun i hi=>by obtain⟨q1,q2⟩:=ic0 hi;simp only[ι,Ae (fz.2 q1),Af q2]
 refine⟨ι,ks0 h d f (by rw[hj,q];simp[rowsOf]) (fun i k hk=>?_) (fun i j k h1 h2=>?_) (fun i o b=>?_)⟩
 ·simp only[ι]at hk
  show i<S.st.next;split at hk
  ·omega
  split at hk
  ·assumption
  cases hk
 ·have p:∀ i,ι i=some (some k)->i=k:=fun i hi=>by
   simp only[ι]at hi;split at hi
   ·cases hi
   split at hi
   ·cases hi;rfl
   cases hi
  rw[p i h1,p j h2]
 rw[AS.addH_st,F7]at b;cases p:N6 (dq0 cols 0 (rows.map (K4 cols 0))) i with
 | some o' =>
  rw[p]at b;simp only[ai]at b;subst b;obtain⟨r,row,c,q1,q2,q3⟩:=gB0 (V5 p);cases q3;refine .inr ⟨u _ (dF0 _ _),c.2.1,c.2.2,?_⟩;rw[aM]at q1;cases B:rows[r]? with
  | none=>rw[B]at q1;cases q1
  | some sp0=>
   rw[B]at q1;simp only[aj,ai]at q1;subst q1;have v:(W9 cols c.1).isSome=true:=by rw[W9,hJ];exact⟨c,q2,by simp⟩
   simp only[cz0,cw,cy0,aG];cases sp0[c.1]? with
   | none=>rfl
   | some x=>
    simp only[aj,bR,bi0];cases l:W9 cols c.1 with
    | none=>rw[l]at v;cases v
    | some _=>rfl
 | none=>
  rw[p]at b;have b:((S.own a e z j n cols).st.sub θ).objs i=some o:=b;rw[c8.sub_objs]at b;have w:(S.own a e z j n cols).st.objs i=if i=a then some (.frow e z (.sy n) cols (.sy n) R2 none)else S.st.objs i:=c8.objs_set _ _ _ _
  rw[w]at b;by_cases m:i=a
  ·subst m
   rw[Af rfl]at b;simp only[aj,ai]at b;subst b;refine .inl ⟨i,(j5.xrow e z j).sub θ,d i (lv0 f),by rw[AS.addH_st];show (S.st.sub θ).objs i=_;rw[c8.sub_objs,ha];rfl,?_⟩;simp only[j5.sub,p7,hj,q,rowsOf,bO,V0];refine go0.cells (by rw[J9,aB]) (fun r L J g1 g2=>?_);rw[I0,aM,g2]at g1;simp only[aj,ai,aG]at g1;subst g1;refine⟨by rw[H3,dB0],fun D x y g3 g4=>?_⟩;rw[N7,cy0,g4]at g3;simp only[aj,ai,aG]at g3;subst g3;have E:J∈rows:=aD g2;rw[Y6];unfold bi0;cases l:W9 cols D with
   | none=>simp only;obtain⟨B,rfl⟩:=an.1 g2;obtain⟨G,rfl⟩:=an.1 g4;exact RV.pur (X1 g r B D G)
   | some c=>simp only[rowsOf,List.length_nil];rw[t J E D y (by rw[l];rfl) g4];exact RV.msNone (u _ (dF0 _ _))
  rw[Ae m]at b;cases C:S.st.objs i with
  | none=>rw[C]at b;cases b
  | some o0=>
   rw[C]at b;simp only[aj,ai]at b;subst b;rcases kt0 f C with h1 | ⟨h1,h2⟩
   ·exact Am h1 m
   exact .inl ⟨i,o0.sub θ,d i h1,by rw[AS.addH_st];show (S.st.sub θ).objs i=_;rw[c8.sub_objs,C];rfl,go0.ids d h h2⟩
def AS.foc(S:AS)(a:Nat)(e:TypeId)(z j:Nat)(cols:bE0)(kv:AV)(off:Nat)(c:Nat×TypeId×Nat)(f:Nat):AS :=S.act a z j j (pLo S) { (S.st.set a (.frow e z (.sy j) cols kv off (some (.ss S.st.next c.2.2 f)))).set S.st.next (.xrow c.2.1 c.2.2 f)with next:=S.st.next+1 }
theorem sS0(S:AS)(a:Nat)(e:TypeId)(z j:Nat)(cols:bE0)(kv:AV)(off:Nat)(c:Nat×TypeId×Nat)(f i:Nat):(S.foc a e z j cols kv off c f).st.objs i=if i=S.st.next then some (.xrow c.2.1 c.2.2 f)else if i=a then some (.frow e z (.sy j) cols kv off (some (.ss S.st.next c.2.2 f)))else S.st.objs i:=by show ((S.st.set a (.frow e z (.sy j) cols kv off (some (.ss S.st.next c.2.2 f)))).set S.st.next (.xrow c.2.1 c.2.2 f)).objs i=_;rw[c8.objs_set,c8.objs_set]
theorem foc_st{S:AS}{θ:Nat->AV}(M:Fit θ){a:Nat}{e:TypeId}{z N off f:Nat}{cols:bE0}{kv k0:AV}{C:Nat}{c:Nat×TypeId×Nat}(ha:S.st.objs a=some (.frow e z (.sy N) cols k0 C none))(v:ckB (pLo S) a S=true)(hnx:R2<=S.st.next)
  {rows:List (List AV)} (Z:θ N=.rs rows) (hw:kE0 cols rows)
  {row:List AV} {xs:List (List AV)} (d:rows[Q5 (kv.sub θ)]?=some row) (E:W9 cols off=some c) (h:row[off]?=some (.rs xs)) (hf:θ f=.rs xs) :
  ∃ ι,Ren ι 0 (((S.foc a e z N cols kv off c f).sub θ).addH ((dq0 cols 0 rows).filter (fun q=>!Nat.beq q.1 (hid (Q5 (kv.sub θ)) off)))) ((S.sub θ).addH (dq0 cols 0 rows)):=by
 obtain⟨hlen,hc,s,O⟩:=hw;generalize hk:Q5 (kv.sub θ)=k at *;obtain⟨hcm,P⟩:=Q7 E;have hoff:off<16:=by rw[<- P];exact hc c hcm
 have hkl:=(an.1 d).1;have hhk:hid k off<R2:=dF0 _ _;generalize hm:S.st.next=m at *;let ι:Nat->Option (Option Nat):=fun i=>if i=m then some (some (hid k off))else if i=hid k off then none else if i<m+1 then some (some i)else none
 have t:∀ i,i≠m->i≠hid k off->i<m+1->ι i=some (some i):=fun i q1 q2 q3=>by simp only[ι,Ae q1,Ae q2,Af q3]
 have l:∀ i,pLo S i=true->ι i=some (some i):=fun i hi=>by obtain⟨q1,q2⟩:=ic0 hi;rw[hm]at q2;exact t i (by omega) (by omega) (by omega)
 have Q:ι m=some (some (hid k off)):=by simp[ι]
 refine⟨ι,?_⟩;refine ks0 (σ0:=S.st) M l v rfl (fun i q L=>?_) (fun i j q q1 q2=>?_) (fun i o b=>?_)
 ·simp only[ι]at L
  show i<S.st.next+1;rw[hm];split at L
  ·omega
  split at L
  ·cases L
  split at L
  ·assumption
  cases L
 ·have p:∀ i,ι i=some (some q)->(i=m/\q=hid k off)\/(i=q/\i≠hid k off):=fun i hi=>by
   simp only[ι]at hi;split at hi
   ·rename_i e1;cases hi;exact .inl ⟨e1,rfl⟩
   split at hi
   ·cases hi
   rename_i e2;split at hi
   ·cases hi;exact .inr ⟨rfl,e2⟩
   cases hi
  rcases p i q1 with ⟨x1,x2⟩ | ⟨x1,x2⟩<;>rcases p j q2 with ⟨y1,y2⟩ | ⟨y1,y2⟩<;>omega
 rw[AS.addH_st,F7,cu0]at b;have hold:∀ i o,N6 (dq0 cols 0 rows) i=some o->((S.sub θ).addH (dq0 cols 0 rows)).st.objs i=some o:=fun i o p=>by rw[AS.addH_st,F7,p]
 have u:∀ i o,R2<=i->(S.sub θ).st.objs i=some o->((S.sub θ).addH (dq0 cols 0 rows)).st.objs i=some o:=fun i o hi p=>by rw[AS.addH_st,F7,jG0 hi];exact p
 cases p:(if i=hid k off then none else N6 (dq0 cols 0 rows) i)with
 | some o' =>
  rw[p]at b;simp only[ai]at b;subst b;split at p
  ·cases p
  rename_i G;have H:=eO0 ⟨hlen,hc,s,O⟩ (V5 p);exact .inl ⟨i,o',t i (by have:=H.1;simp only at this;omega) G (by have:=H.1;simp only at this;omega),hold i o' p,go0.pureRow H.2⟩
 | none=>
  rw[p]at b;simp only at b;have b:((S.foc a e z N cols kv off c f).st.sub θ).objs i=some o:=b;rw[c8.sub_objs,sS0,hm]at b;have R:=ic0 (lv0 v);rw[hm]at R;by_cases D:i=m
  case neg=>
   rw[Ae D]at b;by_cases I:i=a
   case neg=>
    rw[Ae I]at b;cases Y:S.st.objs i with
    | none=>rw[Y]at b;cases b
    | some o0=>
     rw[Y]at b;simp only[aj,ai]at b;subst b;rcases kt0 v Y with h1 | ⟨h1,h2⟩
     ·exact Am h1 I
     exact .inl ⟨i,o0.sub θ,l i h1,u i _ (ic0 h1).1 (by rw[AS.sub_st,c8.sub_objs,Y];rfl),go0.ids l M h2⟩
   case pos=>
    subst I;rw[Af rfl]at b;simp only[aj,ai]at b;subst b;refine .inl ⟨i,(j5.frow e z (.sy N) cols k0 C none).sub θ,l i (lv0 v),u i _ R.1 (by rw[AS.sub_st,c8.sub_objs,ha];rfl),?_⟩;simp only[j5.sub,p7,Z,rowsOf,bO,aj,P8,hf,hk];have hfl:(V0 (J2 cols 0 rows) k off (some (.ms m c.2.2 0 xs.length))).length=(J2 cols 0 rows).length:=by
     simp only[V0];split
     ·simp
     rfl
    refine go0.cells (by simpa[V0]using hfl) (fun r ra rb g1 g2=>?_);have g:(J2 cols 0 rows)[r]?=some rb:=g2;rw[aF0]at g1;simp only[g,aj]at g1;rw[I0]at g;cases U:rows[r]? with
    | none=>rw[U]at g;cases g
    | some V=>
     rw[U]at g;simp only[aj,ai,aG]at g;have hrl:=(an.1 U).1;have same:∀ n y,rb[n]?=some y->(r=k->n≠off)->RV ι y y:=fun n y g4 G=>by
      rw[<- g,N7]at g4;cases hx:V[n]? with
      | none=>rw[hx]at g4;cases g4
      | some x=>
       rw[hx]at g4;simp only[aj,ai,aG]at g4;subst g4;rw[Y6];cases hcj:W9 cols n with
       | none=>simp only;obtain⟨J,rfl⟩:=an.1 U;obtain⟨K,rfl⟩:=an.1 hx;exact RV.pur (X1 s r J n K)
       | some cj=>
        simp only;obtain⟨w1,w2⟩:=Q7 hcj;have W:n<16:=by rw[<- w2];exact hc cj w1
        have X:hid r n≠hid k off:=fun e=>by obtain⟨e1,e2⟩:=mo0 (cols:=cols) hlen hrl hkl W hoff e;exact G e1 e2
        have:=dF0 r n;exact RV.ms (t _ (by omega) X (by omega))
     by_cases w:r=k
     ·rw[Af w]at g1
      simp only[ai]at g1;refine⟨by rw[<- g1];simp,fun n x y g3 g4=>?_⟩;rw[<- g1,bW]at g3;by_cases B:off=n
      ·rw[Af B]at g3
       split at g3
       ·cases g3
        subst B;subst w;rw[U]at d;cases d;rw[<- g,N7,h]at g4;simp only[aj,ai,aG]at g4;rw[<- g4,Y6,E];simp only[rowsOf];exact RV.ms Q
       cases g3
      rw[Ae B,g4]at g3;cases g3;exact same n x g4 (fun _=>fun e=>B e.symm)
     rw[Ae w]at g1;simp only[ai]at g1;subst g1;exact⟨rfl,fun n x y g3 g4=>by rw[g4]at g3;cases g3;exact same n x g4 (fun e=>Am e w)⟩
  case pos=>
   subst D;rw[Af rfl]at b;simp only[aj,ai]at b;subst b;refine .inl ⟨hid k off,.row c.2.1 c.2.2 xs,Q,hold _ _ ?_,?_⟩
   ·rw[jS0 hc hlen d hoff,E]
    simp only[aj,cz0,P,cw,h,bR,rowsOf]
   simp only[j5.sub,hf,rowsOf];refine go0.pureRow ?_;obtain⟨J,rfl⟩:=an.1 d;obtain⟨K,he⟩:=an.1 h;have:=X1 s k J off K;rw[he]at this;simpa only[pureRow,AV.pur]using this
def pLo2(S:AS)(m i:Nat):Bool:=pLo S i&&!Nat.beq i m
theorem mP0{S:AS}{m i:Nat}(h:pLo2 S m i=true):R2<=i/\i<S.st.next/\i≠m:=by simp only[pLo2,ab,bL]at h;obtain⟨q1,q2⟩:=ic0 h.1;exact⟨q1,q2,fun e=>by rw[e,dd]at h;cases h.2⟩
def AS.unf(S:AS)(a:Nat)(e:TypeId)(z j b:Nat)(cols:bE0)(m:Nat):AS:=S.act a z j b (pLo2 S m) ((S.st.del m).set a (.frow e z (.sy b) cols (.sy b) R2 none))
theorem tI0(S:AS)(a:Nat)(e:TypeId)(z j b:Nat)(cols:bE0)(m i:Nat):(S.unf a e z j b cols m).st.objs i=if i=a then some (.frow e z (.sy b) cols (.sy b) R2 none)else if i=m then none else S.st.objs i:=by show ((S.st.del m).set a (.frow e z (.sy b) cols (.sy b) R2 none)).objs i=_;rw[c8.objs_set,c8.objs_del]
theorem unf_st{S:AS}{θ:Nat->AV}(J:Fit θ){a m:Nat}{e:TypeId}{z Y jc' off f:Nat}{cols:bE0}{kv:AV}{c:Nat×TypeId×Nat}(ha:S.st.objs a=some (.frow e z (.sy Y) cols kv off (some (.ss m c.2.2 f))))(hm:S.st.objs m=some (.xrow c.2.1 c.2.2 f))(C:ckB (pLo2 S m) a { S with st:=S.st.del m }=true)(hnx:R2<=m/\R2<=S.st.next)
  {rows:List (List AV)} (Z:θ Y=.rs rows) (hw:kE0 cols rows)
  {row:List AV} {xs ys:List (List AV)} (d:rows[Q5 (kv.sub θ)]?=some row) (K:W9 cols off=some c) (L:row[off]?=some (.rs ys)) (hf:θ f=.rs xs) (E:θ jc'=.rs (Q0 rows (Q5 (kv.sub θ)) off (.rs xs))) :
  ∃ ι,Ren ι 0 (((S.unf a e z Y jc' cols m).sub θ).addH (dq0 cols 0 (Q0 rows (Q5 (kv.sub θ)) off (.rs xs)))) ((S.sub θ).addH ((dq0 cols 0 rows).filter (fun q=>!Nat.beq q.1 (hid (Q5 (kv.sub θ)) off)))):=by
 have hxs:(AV.rs xs).pur=true:=by rw[<- hf];exact(J f).pur
 have hw':=hw.put (k:=Q5 (kv.sub θ)) (off:=off) hxs;obtain⟨hlen,hc,G,hown⟩:=hw;generalize hk:Q5 (kv.sub θ)=k at *;obtain⟨hcm,hc1⟩:=Q7 K;have hoff:off<16:=by rw[<- hc1];exact hc c hcm
 have M:=(an.1 d).1;have hhk:hid k off<R2:=dF0 _ _;have H:=(an.1 L).1;let ι:Nat->Option (Option Nat):=fun i=>if i=hid k off then some (some m)else if i=m then none else if i<S.st.next then some (some i)else none
 have p:∀ i,i≠m->i≠hid k off->i<S.st.next->ι i=some (some i):=fun i q1 q2 q3=>by simp only[ι,Ae q1,Ae q2,Af q3]
 have s:∀ i,pLo2 S m i=true->ι i=some (some i):=fun i hi=>by obtain⟨q1,q2,q3⟩:=mP0 hi;exact p i q3 (by omega) q2
 have him:ι (hid k off)=some (some m):=by simp[ι]
 have g:∀ r,(Q0 rows k off (.rs xs))[r]?=if r=k then some (row.set off (.rs xs))else rows[r]?:=gP0 d
 refine⟨ι,?_⟩;refine ks0 (σ0:=S.st.del m) J s C (by rw[Z,E];simp[rowsOf,R7]) (fun i q X=>?_) (fun i j q q1 q2=>?_) (fun i o b=>?_)
 ·simp only[ι]at X
  show i<S.st.next;split at X
  ·omega
  split at X
  ·cases X
  split at X
  ·assumption
  cases X
 ·have h:∀ i,ι i=some (some q)->(i=hid k off/\q=m)\/(i=q/\i≠m):=fun i hi=>by
   simp only[ι]at hi;split at hi
   ·rename_i e1;cases hi;exact .inl ⟨e1,rfl⟩
   split at hi
   ·cases hi
   rename_i e2;split at hi
   ·cases hi;exact .inr ⟨rfl,e2⟩
   cases hi
  rcases h i q1 with ⟨x1,x2⟩ | ⟨x1,x2⟩<;>rcases h j q2 with ⟨y1,y2⟩ | ⟨y1,y2⟩<;>omega
 rw[AS.addH_st,F7]at b;have hold:∀ i o,i≠hid k off->N6 (dq0 cols 0 rows) i=some o->((S.sub θ).addH ((dq0 cols 0 rows).filter (fun q=>!Nat.beq q.1 (hid k off)))).st.objs i=some o:=fun i o N h=>by rw[AS.addH_st,F7,cu0,Ae N,h]
 have l:∀ i o,R2<=i->(S.sub θ).st.objs i=some o->((S.sub θ).addH ((dq0 cols 0 rows).filter (fun q=>!Nat.beq q.1 (hid k off)))).st.objs i=some o:=fun i o hi h=>by rw[AS.addH_st,F7,cu0,Ae (by omega),jG0 hi];exact h
 cases h:N6 (dq0 cols 0 (Q0 rows k off (.rs xs))) i with
 | some o' =>
  rw[h]at b;simp only[ai]at b;subst b;have O:=eO0 hw' (V5 h);by_cases D:i=hid k off
  ·subst D
   rw[jS0 hc (by rw[R7];exact hlen) (row:=row.set off (.rs xs)) (by rw[g,Af rfl]) hoff,K]at h;simp only[aj,cz0,hc1,cw,bW,Al,H,bR,rowsOf,ai]at h;subst h;refine .inl ⟨m,_,him,l m ((j5.xrow c.2.1 c.2.2 f).sub θ) hnx.1 (by rw[AS.sub_st,c8.sub_objs,hm];rfl),?_⟩;simp only[j5.sub,hf,rowsOf];exact go0.pureRow O.2
  have hh2:N6 (dq0 cols 0 rows) i=some o':=by
   rw[eQ0 hc _ _ _ (by rw[R7];simpa using hlen)]at h;rw[eQ0 hc _ _ _ (by simpa using hlen),<-h];simp only[cP,Al,Nat.sub_zero,g];by_cases I:i / 16=k
   ·rw[Af I,I,d]
    simp only;cases u:W9 cols (i%16)with
    | none=>rfl
    | some cj=>obtain⟨w1,w2⟩:=Q7 u;have N:off≠cj.1:=fun e2=>D (by rw[lX0 hoff (by omega)];omega);simp only[aj,cz0,cw,bW,Ae N]
   rw[Ae I]
  have hpr1:i<R2:=O.1;exact .inl ⟨i,o',p i (by omega) D (by omega),hold i o' D hh2,go0.pureRow O.2⟩
 | none=>
  rw[h]at b;simp only at b;have b:((S.unf a e z Y jc' cols m).st.sub θ).objs i=some o:=b;rw[c8.sub_objs,tI0]at b;have hpa:=mP0 (lv0 C);by_cases P:i=a
  case neg=>
   rw[Ae P]at b;by_cases v:i=m
   ·rw[Af v]at b;cases b
   rw[Ae v]at b;cases hS:S.st.objs i with
   | none=>rw[hS]at b;cases b
   | some o0=>
    rw[hS]at b;simp only[aj,ai]at b;subst b;have hS':(S.st.del m).objs i=some o0:=by rw[c8.objs_del,Ae v,hS]
    rcases kt0 (S:={ S with st:=S.st.del m }) C hS' with h1 | ⟨h1,h2⟩
    ·exact Am h1 P
    exact .inl ⟨i,o0.sub θ,s i h1,l i _ (mP0 h1).1 (by rw[AS.sub_st,c8.sub_objs,hS];rfl),go0.ids s J h2⟩
  case pos=>
   subst P;rw[Af rfl]at b;simp only[aj,ai]at b;subst b;refine .inl ⟨i,(j5.frow e z (.sy Y) cols kv off (some (.ss m c.2.2 f))).sub θ,s i (lv0 C),l i _ hpa.1 (by rw[AS.sub_st,c8.sub_objs,ha];rfl),?_⟩;simp only[j5.sub,p7,Z,E,rowsOf,bO,aj,P8,hf,hk];have hfl:(V0 (J2 cols 0 rows) k off (some (.ms m c.2.2 0 xs.length))).length=rows.length:=by
    simp only[V0];split
    ·simp[J9]
    exact J9 _ _ _
   refine go0.cells (by rw[hfl];simp[V0,J9,R7]) (fun r ra rb g1 g2=>?_);have n:(J2 cols 0 (Q0 rows k off (.rs xs)))[r]?=some ra:=g1;rw[I0,g]at n;rw[aF0,I0]at g2;simp only[aG]at n g2;by_cases Q:r=k
   ·subst Q
    simp only[Al,aj,ai,d]at n g2;subst n;subst g2;refine⟨by simp[H3],fun t x y g3 g4=>?_⟩;rw[N7,bW]at g3;rw[bW,H3]at g4;by_cases R:off=t
    ·subst R
     simp only[Al,H,aj,ai,aG]at g3 g4;rw[<- g3,<-g4,Y6,K];simp only[rowsOf];exact RV.ms him
    rw[Ae R]at g3 g4;rw[N7]at g4;rw[g4]at g3;cases g3;cases U:row[t]? with
    | none=>rw[U]at g4;cases g4
    | some x0=>
     rw[U]at g4;simp only[aj,ai,aG]at g4;rw[<- g4,Y6];cases u:W9 cols t with
     | none=>simp only;obtain⟨V,rfl⟩:=an.1 d;obtain⟨W,rfl⟩:=an.1 U;exact RV.pur (X1 G r V t W)
     | some cj=>
      simp only;obtain⟨w1,w2⟩:=Q7 u;have w:t<16:=by rw[<- w2];exact hc cj w1
      have B:hid r t≠hid r off:=fun e=>by obtain⟨e1,e2⟩:=mo0 (cols:=cols) hlen M M w hoff e;exact R e2.symm
      have:=dF0 r t;exact RV.ms (p _ (by omega) B (by omega))
   simp only[Ae Q]at n g2;rw[g2]at n;cases n;refine⟨rfl,fun t x y g3 g4=>?_⟩;rw[g4]at g3;cases g3;cases I:rows[r]? with
   | none=>rw[I]at g2;cases g2
   | some row1=>
    rw[I]at g2;simp only[aj,ai]at g2;subst g2;have hrl:=(an.1 I).1;rw[N7]at g4;cases U:row1[t]? with
    | none=>rw[U]at g4;cases g4
    | some x0=>
     rw[U]at g4;simp only[aj,ai,aG]at g4;rw[<- g4,Y6];cases u:W9 cols t with
     | none=>simp only;obtain⟨V,rfl⟩:=an.1 I;obtain⟨W,rfl⟩:=an.1 U;exact RV.pur (X1 G r V t W)
     | some cj=>
      simp only;obtain⟨w1,w2⟩:=Q7 u;have w:t<16:=by rw[<- w2];exact hc cj w1
      have B:hid r t≠hid k off:=fun e=>by obtain⟨e1,e2⟩:=mo0 (cols:=cols) hlen hrl M w hoff e;exact Q e1
      have:=dF0 r t;exact RV.ms (p _ (by omega) B (by omega))
def ms0(cols:List Nat)(j:Nat)(v:AV):AV:=match cols.any (aA j)&&isNil v with
 | true=>.rs []
 | false=>v
def fa0(cols:List Nat):Nat->List AV->List AV
 | _,[]=>[]
 | j,v::vs=>ms0 cols j v::fa0 cols (j+1) vs
theorem jx0(cols:List Nat):∀ (row:List AV) (a j:Nat),(fa0 cols a row)[j]?=(row[j]?).map (ms0 cols (a+j))
 | [],a,j=>by simp[fa0]
 | v::vs,a,0=>by simp[fa0]
 | v::vs,a,j+1=>by simp only[fa0,aI];rw[jx0 cols vs (a+1) j];congr 2;omega
theorem eW0(cols:List Nat):∀ (row:List AV) (a:Nat),(fa0 cols a row).length=row.length
 | [],_=>rfl
 | _::vs,a=>by simp[fa0,eW0 cols vs]
def AS.nlz(S:AS)(a:Nat)(e:TypeId)(z:Nat)(es:List (List AV))(cols:List Nat):AS:=S.act a z 0 0 (pLo S) (S.st.set a (.row e z (es.map (fa0 cols 0))))
theorem nlz_st{S:AS}{θ:Nat->AV}(d:Fit θ){a:Nat}{e:TypeId}{z:Nat}{es:List (List AV)}{cols:List Nat}(ha:S.st.objs a=some (.row e z es))(f:ckB (pLo S) a S=true)(hes:ni0 (pLo S) es=true) :
  ∃ ι,Ren ι 0 (((S.nlz a e z es cols).sub θ).addH []) ((S.sub θ).addH []):=by
 let ι:Nat->Option (Option Nat):=fun i=>if i<S.st.next then some (some i)else none
 have b:∀ i,pLo S i=true->ι i=some (some i):=fun i hi=>by obtain⟨q1,q2⟩:=ic0 hi;simp only[ι,Af q2]
 refine⟨ι,ks0 d b f rfl (fun i k hk=>?_) (fun i j k h1 h2=>?_) (fun i o c=>?_)⟩
 ·simp only[ι]at hk
  show i<S.st.next;split at hk
  ·assumption
  cases hk
 ·have p:∀ i,ι i=some (some k)->i=k:=fun i hi=>by
   simp only[ι]at hi;split at hi
   ·cases hi;rfl
   cases hi
  rw[p i h1,p j h2]
 have c:((S.nlz a e z es cols).st.sub θ).objs i=some o:=c;rw[c8.sub_objs]at c;have l:(S.nlz a e z es cols).st.objs i=if i=a then some (.row e z (es.map (fa0 cols 0)))else S.st.objs i:=c8.objs_set _ _ _ _
 rw[l]at c;by_cases g:i=a
 ·subst g
  rw[Af rfl]at c;simp only[aj,ai]at c;subst c;refine .inl ⟨i,(j5.row e z es).sub θ,b i (lv0 f),by show (S.st.sub θ).objs i=_;rw[c8.sub_objs,ha];rfl,?_⟩;simp only[j5.sub];refine go0.cells (by simp) (fun r t w g1 g2=>?_);rw[aM,aM]at g1;rw[aM]at g2;cases h:es[r]? with
  | none=>rw[h]at g2;cases g2
  | some row=>
   rw[h]at g1 g2;simp only[aj,ai]at g1 g2;subst g1;subst g2;refine⟨by simp[eW0],fun s x y g3 g4=>?_⟩;rw[aM,jx0]at g3;rw[aM]at g4;cases n:row[s]? with
   | none=>rw[n]at g4;cases g4
   | some v=>
    rw[n]at g3 g4;simp only[aj,ai,aG]at g3 g4;subst g3;subst g4;unfold ms0;split
    ·rename_i q
     simp only[ab]at q;rw[oi0 q.2];intro G u h;simp only[AV.sub]at h ⊢;cases h;exact .rsNil
    have hv:v.ids (pLo S)=true:=W3 (dt0 hes row (aD h)) v (aD n);exact RV.ids b (fi0 d _ v hv)
 rw[Ae g]at c;cases m:S.st.objs i with
 | none=>rw[m]at c;cases c
 | some o0=>
  rw[m]at c;simp only[aj,ai]at c;subst c;rcases kt0 f m with h1 | ⟨h1,h2⟩
  ·exact Am h1 g
  exact .inl ⟨i,o0.sub θ,b i h1,by show (S.st.sub θ).objs i=_;rw[c8.sub_objs,m];rfl,go0.ids b d h2⟩
end Go.Ab
namespace Go.Ab
open Go
variable [B5]
inductive us0
 | own (slot:Nat) (cols:bE0)
 | foc (slot:Nat) (t:TypeId) (off:Nat)
 | nlz (slot:Nat) (cols:List Nat)
def bk0:List (Nat×j5)->Option Fam
 | []=>none
 | (a,.frow e z (.sy j) cols _ _ none)::_=>some ⟨a,e,z,j,cols⟩
 | _::l=>bk0 l
def famM(l:Nat)(vals:List AV):Option Fam->Option Fam->Bool
 | none,none=>true
 | some F,some a=>uT0 a.cols F.cols&&match X7 l vals a.j with
  | .sy i=>aA i F.j
  | _=>false
 | _,_=>false
theorem rQ0{l:Nat}{vals:List AV}{b a:Option Fam}(h:famM l vals b a=true)(θ:Nat->AV):kM0 a (fun i=>(X7 l vals i).sub θ)=kM0 b θ/\(fw0 b θ->fw0 a (fun i=>(X7 l vals i).sub θ)):=by
 cases b with
 | none=>cases a with
  | none=>exact⟨rfl,fun _=>trivial⟩
  | some _=>simp[famM]at h
 | some F=>cases a with
  | none=>simp[famM]at h
  | some c =>
   simp only[famM,ab]at h;obtain⟨h1,h2⟩:=h;split at h2
   ·rename_i i hi
    have e:=af h2;subst e;have hc:=kB0 h1;refine⟨by simp only[kM0,hi,p7,hc],fun ⟨rows,g1,g2⟩=>⟨rows,by simp only[hi,p7];exact g1,by rw[hc];exact g2⟩⟩
   cases h2
abbrev KF:=Option Fam->EX->AS->Nat->RT
variable (T:Tab) (Φ:G6) (F:FuncId->Option Func) (H:Nat->Option Hint) (acts:Nat->Option us0)
def kChk(a:Option Fam)(k:KF):KE:=fun e s fr=>match et0 a s fr with
 | true=>k a e s fr
 | false=>.stuck
def kUnf(T:Tab)(M:Fam)(kv:Nat)(t:TypeId)(off:Nat)(c:Nat×TypeId×Nat)(k:KF):KE:=fun e s fr=>match s.st.objs M.a with
 | some (.frow g h (.sy i) b (.sy l) d (some (.ss m z2 f)))=>match s.st.objs m with
  | some (.xrow e3 z3 f3)=>
   match aA g M.e&&aA h M.z&&aA i M.j&&uT0 b M.cols&&aA l kv&&aA d off&&aA z2 c.2.2&&aA e3 c.2.1&&aA z3 c.2.2&&aA f3 f&&ckB (pLo2 s m) M.a { s with st:=s.st.del m }&&cJ R2 m&&et0 none s fr&&s.bnd fr&&bY f fr with
   | true=>.op (.rows [f]) fr (.sc (.bool true)) (.op (.xst t M.e M.z (.sy M.j) (.sy kv) off (.sy f)) fr (.sy fr) (k (some { M with j:=fr }) e (s.unf M.a M.e M.z M.j fr M.cols m) (fr+1)))
   | false=>.stuck
  | _=>.stuck
 | _=>.stuck
def actR(m:Nat)(id:Nat)(b:Option Fam)(c:Code)(s:AS)(fr:Nat)(k:KF):RT:=match acts id with
 | none=>exec T Φ F H m R2 c s fr (kChk b k)
 | some (.own sl cols)=>match b,s.get sl with
  | none,.ss a z j=>match s.st.objs a with
   | some (.xrow e d f)=>match aA f j&&aA d z&&ckB (pLo s) a s&&s.bnd fr&&bY j fr&&et0 (some ⟨a,e,z,fr,cols⟩) (s.own a e z j fr cols) (fr+1)with
    | true=>.op (.ownr cols (.sy j)) fr (.sy fr) (exec T Φ F H m R2 c (s.own a e z j fr cols) (fr+1) (kChk (some ⟨a,e,z,fr,cols⟩) k))
    | false=>.stuck
   | _=>.stuck
  | _,_=>.stuck
 | some (.nlz sl cols)=>match b,s.get sl with
  | none,.ms a _ _ _=>match s.st.objs a with
   | some (.row e z es)=>match ckB (pLo s) a s&&ni0 (pLo s) es&&et0 none (s.nlz a e z es cols) fr with
    | true=>exec T Φ F H m R2 c (s.nlz a e z es cols) fr (kChk none k)
    | false=>.stuck
   | _=>.stuck
  | _,_=>.stuck
 | some (.foc sl t off)=>match b,s.get sl with
  | some M,.sy kv=>match W9 M.cols off,T t with
   | some cc,some ti=>match !ti.isAgg&&aA ti.size 1&&ckB (pLo s) M.a s&&s.bnd fr&&bY kv fr&&et0 none (s.foc M.a M.e M.z M.j M.cols (.sy kv) off cc fr) (fr+1)with
    | true=>.op (.xld t M.e M.z (.sy M.j) (.sy kv) off) fr (.sy fr) (exec T Φ F H m R2 c (s.foc M.a M.e M.z M.j M.cols (.sy kv) off cc fr) (fr+1) (kUnf T M kv t off cc k))
    | false=>.stuck
   | _,_=>.stuck
  | _,_=>.stuck
def fm0:Nat->Option Fam->Code->AS->Nat->KF->RT
 | 0,_,_,_,_,_=>.stuck
 | m+1,g,c,s,fr,k=>match c with
  | .seq a b=>fm0 m g a s fr fun l e s' f=>match e with
   | .nor=>fm0 m l b s' f k
   | e=>k l e s' f
  | .cond x a b=>match s.eval x with
   | .sc (.bool t)=>fm0 m g (if t then a else b) s fr k
   | .sy i=>.test i (fm0 m g a (s.ssub (aN0 i true)) fr k) (fm0 m g b (s.ssub (aN0 i false)) fr k)
   | _=>.stuck
  | .block id b=>fm0 m g b s fr fun l e s' f=>match e with
   | .exi j=>k l (if j=id then .nor else .exi j) s' f
   | e=>k l e s' f
  | .scope b=>fm0 m g b s fr k
  | .loop b=>match H (iJ0 fr b s)with
   | some h=>match cg0 R2 fr h s,h.state.bnd (fr+h.k)&&et0 (bk0 h.objs) h.state (fr+h.k)&&et0 g s fr with
    | some inits,true=>match famM fr inits g (bk0 h.objs)with
     | true=>.loop fr h.k inits (fm0 m (bk0 h.objs) b h.state (fr+h.k+1) fun n e s' f=>match e with
      | .nor=>match cg0 R2 fr h s' with
       | some vals=>match famM fr vals n (bk0 h.objs)&&et0 n s' f with
        | true=>.again fr vals
        | false=>.stuck
       | none=>.stuck
      | e=>k n e s' f)
     | false=>.stuck
    | _,_=>.stuck
   | none=>.stuck
  | .region id ops d=>match et0 g s fr with
   | true=>actR T Φ F H acts m id g (.region id ops d) s fr k
   | false=>.stuck
  | .skip=>k g .nor s fr
  | .label _=>k g .nor s fr
  | .exit id=>k g (.exi id) s fr
  | .ret=>k g .ret s fr
  | _=>.stuck
def xl0(T:Tab)(fn:Func):KF:=fun b e s fr=>match b with
 | none=>match et0 none s fr with
  | true=>kTop T fn e s fr
  | false=>.stuck
 | some M=>match e with
  | .exi _=>.stuck
  | _=>match et0 (some M) s fr,fn.results.toList with
   | true,[.tmp t]=>match s.get t with
    | .ss a z j=>match aA a M.a&&aA z M.z&&aA j M.j with
     | true=>.ret (.sy M.j) []
     | false=>.stuck
    | _=>.stuck
   | _,_=>.stuck
section
variable {P:Program} {T:Tab} (hT:B7 P T) {Φ:G6} (hΦ:ir0 P Φ) {F:FuncId->Option Func} (hF:∀ f fn,F f=some fn->P.funcs[f]?=some fn) (hm:P.follows .mixedOrders=true) {Q:AV->Prop}
def tO0(T:Tab)(Φ:G6)(Q:AV->Prop)(fr:Nat)(θ:Nat->AV)(A:Nat->List AV->Prop)(k:KF)(e:Exit)(t:AS):Prop :=∃ d a g c h b,e=EX.toExit d/\fr<=c/\Fit a/\(∀ i,i<fr->a i=θ i)/\(∀ l,l<fr->h l=A l)/\t=g.full b a/\fw0 b a/\E1 T Φ Q (k b d g c) a h
include hT hΦ hF hm in
theorem ss0{H:Nat->Option Hint}{m fr:Nat}{c:Code}{S:AS}{k:KE}{θ:Nat->AV}{A:Nat->List AV->Prop}{n:List (Nat×j5)}(hH:∀ p∈n,p.1<R2/\pureRow p.2=true){o:Nat}(r:et0 none S o=true)(q:Fit θ)
  (h:E1 T Φ Q (exec T Φ F H m R2 c S fr k) θ A) :
  BWp P 0 c (fun e t=>∃ d a g b j,e=EX.toExit d/\fr<=b/\Fit a/\(∀ i,i<fr->a i=θ i)/\(∀ l,l<fr->j l=A l)/\t=(g.sub a).addH n/\E1 T Φ Q (k d g b) a j) ((S.sub θ).addH n):=by
 have s:=mF0 hT hΦ hF hm (H:=H) m R2 c S fr k θ A q h;refine BWp.mono (BWp.lower (cP R2) (by rw[AS.addH_st,Z4];exact(gL0 r:R2<=S.st.next)) (BWp.frame (fun p hp=>?_) s)) ?_
 ·obtain⟨h1,h2⟩:=hH p hp
  exact⟨h1,h2,by rw[AS.sub_st,c8.sub_objs,gK0 r h1];rfl⟩
 rintro e t ⟨s',⟨d,a,g,b,j,rfl,q1,q2,q3,q4,rfl,q6⟩,rfl⟩;exact⟨d,a,g,b,j,rfl,q1,q2,q3,q4,rfl,q6⟩
theorem qp0{a:Option Fam}{s:AS}{fr:Nat}(h:et0 a s fr=true):et0 none s fr=true:=by simp only[et0,ab]at h ⊢;exact⟨h.1,trivial⟩
theorem oJ0(cs:List AV)(j:Nat)(v:AV)(h:j+1<=cs.length):P7 cs j [v]=cs.set j v:=by
 apply List.ext_getElem?;intro k;rw[fj0 cs j [v] (by simpa using h) k,bW];by_cases e:j=k
 ·subst e
  rw[Af (by simp),Af rfl,Af (by omega)];simp
 rw[Ae (by simp;omega),Ae e]
theorem xJ0{t:TypeId}{ti:TI}(c:T t=some ti)(a:ti.isAgg=false){e:TypeId}{z j kv off:Nat}{θ:Nat->AV}{rows:List (List AV)}(hj:θ j=.rs rows){v:AV}(h:j4 T Φ θ (.xld t e z (.sy j) (.sy kv) off)=some v):∃ row,rows[Q5 (θ kv)]?=some row/\row[off]?=some v:=by
 have hst:(ah0 e z (.rs rows)).objs 0=some (.row e z rows):=by simp[ah0,c8.objs_set,rowsOf]
 simp only[j4,p7,hj,W8,hst]at h;cases b:rows[Q5 (θ kv)]? with
 | none=>rw[b]at h;cases h
 | some row=>rw[b]at h;simp only[c,E6,a]at h;exact⟨row,rfl,by simpa using h⟩
theorem yu0{t:TypeId}{ti:TI}(c:T t=some ti){e:TypeId}{z j kv off f:Nat}{θ:Nat->AV}{rows xs:List (List AV)}(hj:θ j=.rs rows)(hf:θ f=.rs xs){v:AV}(h:j4 T Φ θ (.xst t e z (.sy j) (.sy kv) off (.sy f))=some v):v=.rs (Q0 rows (Q5 (θ kv)) off (.rs xs)):=by
 have hst:(ah0 e z (.rs rows)).objs 0=some (.row e z rows):=by simp[ah0,c8.objs_set,rowsOf]
 simp only[j4,p7,hj,hf,X2,AV.cells,c,hst]at h;cases b:rows[Q5 (θ kv)]? with
 | none=>rw[b]at h;cases h
 | some row=>
  rw[b]at h;simp only at h;split at h
  ·rename_i σ a
   split at a
   ·rename_i hc
    cases a;simp only[c8.objs_set,Al]at h;split at h
    ·cases h
     simp only[Q0,b];rw[oJ0 _ _ _ (by simpa using hc.2.1)]
    cases h
   cases a
  cases h
end
end Go.Ab
namespace Go.Ab
open Go
variable [B5]
section
variable {P:Program} {T:Tab} (hT:B7 P T) {Φ:G6} (hΦ:ir0 P Φ) {F:FuncId->Option Func} (hF:∀ f fn,F f=some fn->P.funcs[f]?=some fn) (hm:P.follows .mixedOrders=true) {Q:AV->Prop}
include hT hΦ hF hm in
theorem sE0{H:Nat->Option Hint}{m fr:Nat}{c:Code}{S:AS}{a:Option Fam}{k:KF}{θ:Nat->AV}{A:Nat->List AV->Prop}(i:et0 a S fr=true)(hw:fw0 a θ)(b:Fit θ)
  (h:E1 T Φ Q (exec T Φ F H m R2 c S fr (kChk a k)) θ A):BWp P 0 c (tO0 T Φ Q fr θ A k) (S.full a θ):=by
 refine BWp.mono (ss0 hT hΦ hF hm (fun p hp=>nr0 hw hp) (qp0 i) b h) ?_;rintro e t ⟨j,d,l,g,n,rfl,q1,q2,q3,q4,rfl,q6⟩;obtain⟨g1,g2⟩:=jC0 i q3;unfold kChk at q6;split at q6
 ·exact⟨j,d,l,g,n,a,rfl,q1,q2,q3,q4,by simp only[AS.full,g1],g2 hw,q6⟩
 exact q6.elim
theorem wB0{H:List (Nat×j5)}(h:∀ p∈H,p.1<R2/\pureRow p.2=true)(q:Nat×j5->Bool):∀ p∈H.filter q,p.1<R2/\pureRow p.2=true:=fun p hp=>h p (List.mem_filter.1 hp).1
include hT hΦ hF hm in
theorem xX0{H:Nat->Option Hint}{acts:Nat->Option us0}{m id fr:Nat}{μ:Option Fam}{c:Code}{s:AS}{k:KF}{θ:Nat->AV}{A:Nat->List AV->Prop}(hB:et0 μ s fr=true)(hw:fw0 μ θ)(D:Fit θ)
  (h:E1 T Φ Q (actR T Φ F H acts m id μ c s fr k) θ A):BWp P 0 c (tO0 T Φ Q fr θ A k) (s.full μ θ):=by
 unfold actR at h;split at h
 ·exact sE0 hT hΦ hF hm hB hw D h
 ·rename_i sl cols I
  split at h
  ·rename_i a z j W
   split at h
   ·rename_i e z' J ho
    split at h
    ·rename_i hc
     simp only[ab]at hc;obtain⟨⟨⟨⟨⟨c1,c2⟩,X⟩,c4⟩,c5⟩,c6⟩:=hc;have e1:=af c1;have e2:=af c2;subst e1;subst e2;have E:J<fr:=by simpa[aV]using c5
     obtain⟨r,g1,g2,g3,g4⟩:=h;have K:∃ rows,θ J=.rs rows/\wo0 cols rows=true/\r fr=.rs (rows.map (K4 cols 0)):=by
      simp only[j4,p7]at g3;split at g3
      ·rename_i rows hr
       split at g3
       ·rename_i o
        exact⟨rows,hr,o,(bd g3).symm⟩
       cases g3
      cases g3
     obtain⟨rows,hj,o,L⟩:=K;have hjt:r J=.rs rows:=by rw[g1 J E];exact hj
     obtain⟨ι,g⟩:=own_st g2 ho X hjt L o;have Y:(AV.rs rows).pur=true:=by have:=(D J).pur;rw[hj]at this;exact this
     have hw':fw0 (some ⟨a,e,z',fr,cols⟩) r:=⟨_,L,(rM0 o Y).1⟩;have hst:s.full none θ=(s.sub r).addH []:=by show (s.sub θ).addH []=_;rw[AS.sub_agree g1 c4]
     rw[hst];have N:((s.own a e z' J fr cols).sub r).addH (dq0 cols 0 (rows.map (K4 cols 0)))=(s.own a e z' J fr cols).full (some ⟨a,e,z',fr,cols⟩) r:=by simp only[AS.full,kM0,L,rowsOf]
     rw[N]at g;refine BWp.conv g (BWp.mono (sE0 hT hΦ hF hm c6 hw' g2 g4) ?_);rintro e0 t ⟨e',u,S',fr',A',μ',rfl,q1,q2,q3,q4,rfl,q6⟩;exact⟨e',u,S',fr',A',μ',rfl,by omega,q2,fun i hi=>(q3 i (by omega)).trans (g1 i hi),fun l hl=>q4 l (by omega),rfl,q6⟩
    exact h.elim
   exact h.elim
  exact h.elim
 ·rename_i sl cols I
  split at h
  ·rename_i a _ _ _ W
   split at h
   ·rename_i e z es ho
    split at h
    ·rename_i hc
     simp only[ab]at hc;obtain⟨⟨c1,c2⟩,X⟩:=hc;obtain⟨ι,g⟩:=nlz_st (cols:=cols) D ho c1 c2;exact BWp.conv g (sE0 hT hΦ hF hm X trivial D h)
    exact h.elim
   exact h.elim
  exact h.elim
 rename_i sl t off I;split at h
 ·rename_i M kv W
  split at h
  ·rename_i cc ti w Z
   split at h
   ·rename_i hc
    simp only[ab]at hc;obtain⟨⟨⟨⟨⟨c1,c2⟩,X⟩,c4⟩,c5⟩,c6⟩:=hc;have hagg:ti.isAgg=false:=by simpa using c1
    have hkf:kv<fr:=by simpa[aV]using c5
    have E:=vx0 hB;obtain⟨rows,hj,x⟩:=hw;obtain⟨v,g1,g2,g3,g4⟩:=h;obtain⟨row,B,n⟩:=xJ0 Z hagg hj g3;obtain⟨hcm,hc1⟩:=Q7 w;obtain⟨xs,hxs⟩:=x.2.2.2 row (aD B) cc hcm;rw[hc1,n]at hxs;have hf1:v fr=.rs xs:=by simpa using hxs
    rw[p7,hf1]at n;have hj1:v M.j=.rs rows:=by rw[g1 _ E];exact hj
    have O:v kv=θ kv:=g1 kv hkf;obtain⟨k0,off0,hobj⟩:=oe0 hB;obtain⟨ι,g⟩:=foc_st (S:=s) g2 (kv:=.sy kv) (off:=off) (c:=cc) (f:=fr) hobj X (gL0 hB) hj1 x (by rw[p7,O];exact B) w n hf1;have hst:s.full (some M) θ=(s.sub v).addH (dq0 M.cols 0 rows):=by simp only[AS.full,kM0,hj,rowsOf];rw[AS.sub_agree g1 c4]
    rw[hst];refine BWp.conv g ?_;have hfil:=wB0 (H:=dq0 M.cols 0 rows) (fun p hp=>eO0 x hp) (fun q=>!Nat.beq q.1 (hid (Q5 ((AV.sy kv).sub v)) off));refine BWp.convEnd (BWp.mono (ss0 hT hΦ hF hm hfil c6 g2 g4) ?_);rintro e0 t0 ⟨e',u,V,d,A2,rfl,q1,q2,q3,q4,rfl,q6⟩;unfold kUnf at q6;split at q6
    ·rename_i e1 z1 j1 cols1 k1 off1 m1 z2 f1 ho1
     split at q6
     ·rename_i e3 z3 f3 ho3
      split at q6
      ·rename_i hc2
       simp only[ab]at hc2;obtain⟨⟨⟨⟨⟨⟨⟨⟨⟨⟨⟨⟨⟨⟨d1,d2⟩,d3⟩,d4⟩,d5⟩,d6⟩,d7⟩,d8⟩,d9⟩,d10⟩,d11⟩,d12⟩,d13⟩,d14⟩,d15⟩:=hc2;rw[af d1,af d2,af d3,kB0 d4,af d5,af d6,af d7]at ho1;rw[af d8,af d9,af d10]at ho3;have hff:f1<d:=by simpa[aV]using d15
       obtain⟨R,r1,r2,r3,b,s1,s2,s3,s4⟩:=q6;have hrs:∃ ys,u f1=.rs ys:=by
        simp only[j4,bZ,List.all_nil,Bool.and_true]at r3;cases hv:u f1 with
        | rs ys=>exact⟨ys,rfl⟩
        | _=>rw[hv]at r3;cases r3
       obtain⟨ys,hys⟩:=hrs;have a3:∀ i,i<d->b i=u i:=fun i hi=>(s1 i hi).trans (r1 i hi);have b3:∀ i,i<fr->b i=θ i:=fun i hi=>(a3 i (by omega)).trans ((q3 i (by omega)).trans (g1 i hi));have hj3:R M.j=.rs rows:=by rw[r1 _ (by omega),q3 _ (by omega)];exact hj1
       have hf3:R f1=.rs ys:=by rw[r1 _ hff];exact hys
       have hk3:R kv=θ kv:=by rw[r1 _ (by omega),q3 _ (by omega)];exact O
       have hj4:b M.j=.rs rows:=by rw[b3 _ E];exact hj
       have hf4:b f1=.rs ys:=by rw[a3 _ hff];exact hys
       have G:b kv=θ kv:=b3 _ hkf;have hv:=yu0 Z hj3 hf3 s3;rw[hk3]at hv;have C:b d=.rs (Q0 rows (Q5 (θ kv)) off (.rs ys)):=by simpa using hv
       obtain⟨ι2,U⟩:=unf_st (S:=V) (jc':=d) s2 (kv:=.sy kv) (off:=off) (c:=cc) ho1 ho3 d11 ⟨aQ d12,gL0 d13⟩ hj4 x (by rw[p7,G];exact B) w n hf4 (by rw[p7,G];exact C);refine⟨ι2,_,?_,e',b,V.unf M.a M.e M.z M.j d M.cols m1,d+1,A2,some { M with j:=d },rfl,by omega,s2,b3,fun l hl=>q4 l (by omega),rfl,?_,s4⟩
       ·have hl:(V.unf M.a M.e M.z M.j d M.cols m1).full (some { M with j:=d }) b=((V.unf M.a M.e M.z M.j d M.cols m1).sub b).addH (dq0 M.cols 0 (Q0 rows (Q5 ((AV.sy kv).sub b)) off (.rs ys))):=by simp only[AS.full,kM0,C,rowsOf,p7,G]
        have hr:(V.sub u).addH ((dq0 M.cols 0 rows).filter (fun q=>!Nat.beq q.1 (hid (Q5 ((AV.sy kv).sub v)) off)))=(V.sub b).addH ((dq0 M.cols 0 rows).filter (fun q=>!Nat.beq q.1 (hid (Q5 ((AV.sy kv).sub b)) off))):=by rw[AS.sub_agree a3 d14];simp only[p7,G,O]
        rw[hl,hr];exact U
       refine⟨_,C,x.put ?_⟩;rw[<- hf4];exact(s2 f1).pur
      exact q6.elim
     exact q6.elim
    exact q6.elim
   exact h.elim
  exact h.elim
 exact h.elim
def ExOkF(P:Program)(T:Tab)(Φ:G6)(Q:AV->Prop)(ex:Option Fam->Code->AS->Nat->KF->RT):Prop :=∀ a c s fr k θ A,Fit θ->fw0 a θ->E1 T Φ Q (ex a c s fr k) θ A->BWp P 0 c (tO0 T Φ Q fr θ A k) (s.full a θ)
theorem lL0{θ:Nat->AV}{i:Nat}{b:Bool}(h:θ i=.sc (.bool b))(s:AS)(a:Option Fam):(s.ssub (aN0 i b)).full a θ=s.full a θ:=by simp only[AS.full,eI0 h]
theorem lj0(s:AS)(a:Option Fam)(θ:Nat->AV)(x:Operand):(s.full a θ).eval x=(s.eval x).sub θ:=by rw[<- AS.sub_eval];cases x<;>rfl
include hT hΦ hF hm in
theorem nR0{H:Nat->Option Hint}{acts:Nat->Option us0}:∀ m,ExOkF P T Φ Q (fm0 T Φ F H acts m)
 | 0=>fun z c s fr k θ A _ _ h=>by simp[fm0,E1]at h
 | m+1=>by
  intro z c s fr k θ A u hw h;have O:=nR0 (H:=H) (acts:=acts) m;have self:∀ e,E1 T Φ Q (k z e s fr) θ A->tO0 T Φ Q fr θ A k (EX.toExit e) (s.full z θ):=fun e hh=>⟨e,θ,s,fr,A,z,rfl,ar _,u,fun _ _=>rfl,fun _ _=>rfl,rfl,hw,hh⟩;unfold fm0 at h
  skip
  split at h
  ·rename_i a b
   refine BWp.seq (BWp.mono (O z a s fr _ θ A u hw h) ?_);rintro e s' ⟨R,d,L,o,M,r,rfl,q1,q2,q3,q4,rfl,q5,q6⟩;cases R with
   | nor=>refine BWp.mono (O r b L o k d M q2 q5 q6) ?_;rintro e2 s2 ⟨e2',g,S2,E,X,w,rfl,r1,r2,r3,r4,r5,r6⟩;exact⟨e2',g,S2,E,X,w,rfl,bo q1 r1,r2,fun i hi=>(r3 i (by omega)).trans (q3 i hi),fun l hl=>(r4 l (by omega)).trans (q4 l hl),r5,r6⟩
   | exi j=>exact⟨.exi j,d,L,o,M,r,rfl,q1,q2,q3,q4,rfl,q5,q6⟩
   | ret=>exact⟨.ret,d,L,o,M,r,rfl,q1,q2,q3,q4,rfl,q5,q6⟩
  ·rename_i x a b
   split at h
   ·rename_i t hx
    refine BWp.cond (t:=t) (by rw[lj0,hx,F9]) ?_;exact O z _ s fr k θ A u hw h
   ·rename_i i hx
    have hev:∀ t,θ i=.sc (.bool t)->(s.full z θ).eval x=.sc (.bool t):=fun t ht=>by rw[lj0,hx,p7,ht]
    rcases h with ⟨G,hh⟩ | ⟨G,hh⟩
    ·refine BWp.cond (t:=true) (hev true G) ?_
     have:=O z a _ fr k θ A u hw hh;rw[lL0 G]at this;exact this
    refine BWp.cond (t:=false) (hev false G) ?_;have:=O z b _ fr k θ A u hw hh;rw[lL0 G]at this;exact this
   exact h.elim
  ·rename_i id b
   refine BWp.block (BWp.mono (O z b s fr _ θ A u hw h) ?_);rintro e s' ⟨R,d,L,o,M,r,rfl,q1,q2,q3,q4,rfl,q5,q6⟩;cases R with
   | nor=>exact⟨.nor,d,L,o,M,r,rfl,q1,q2,q3,q4,rfl,q5,q6⟩
   | ret=>exact⟨.ret,d,L,o,M,r,rfl,q1,q2,q3,q4,rfl,q5,q6⟩
   | exi j=>
    simp only[EX.toExit,gA0];simp only at q6;split
    ·rename_i e;rw[Af e]at q6;exact⟨.nor,d,L,o,M,r,rfl,q1,q2,q3,q4,rfl,q5,q6⟩
    rename_i e;rw[Ae e]at q6;exact⟨.exi j,d,L,o,M,r,rfl,q1,q2,q3,q4,rfl,q5,q6⟩
  ·rename_i b
   refine BWp.scope (BWp.mono (O z b s fr _ θ A u hw h) ?_);rintro e s' ⟨R,d,L,o,M,r,rfl,q⟩;exact⟨by cases R<;>trivial,R,d,L,o,M,r,rfl,q⟩
  ·rename_i b
   split at h
   ·rename_i hint hH
    split at h
    ·rename_i inits hmt U
     split at h
     ·rename_i hfm
      simp only[ab]at U;obtain⟨⟨hbd,hBh⟩,hB⟩:=U;obtain⟨I,⟨n1,hI0⟩,N⟩:=h;obtain⟨v1,v2,v3,ι,hren⟩:=aU0 u hmt;obtain⟨f1,f2⟩:=rQ0 hfm θ;have V:∀ (S:AS) (θ:Nat->AV) (fr0:Nat) (μ0:Option Fam),et0 μ0 S fr0=true->∀ i,i<R2->(S.sub θ).st.objs i=none:=fun S θ fr0 μ0 G i hi=>by rw[AS.sub_st,c8.sub_objs,gK0 G hi];rfl
      have J:=Ren.addH (H:=kM0 z θ) hren (fun p hp=>nr0 hw hp) (V s θ fr z hB);have hst0:(hint.state.sub (fun i=>(X7 fr inits i).sub θ)).addH (kM0 z θ)=hint.state.full (bk0 hint.objs) (fun i=>(X7 fr inits i).sub θ):=by simp only[AS.full,f1]
      rw[hst0]at J;refine BWp.conv J ?_;have B:∀ (vals:List AV) (d:Nat->AV) i,i<fr->(X7 fr vals i).sub d=d i:=fun vals d i hi=>by
       unfold X7;have:cJ fr i=false:=by
        cases G:cJ fr i with
        | false=>rfl
        | true=>have:=aQ G;omega
       rw[this];simp
      have C:∀ (vals:List AV) (d:Nat->AV) j (hj:j<vals.length),(X7 fr vals (fr+j)).sub d=(vals[j]).sub d:=fun vals d j hj=>by unfold X7;rw[Nat.ble_eq_true_of_le (aO fr j)];simp[hj]
      have pad:∀ (vals:List AV) (d:Nat->AV),vals.length=hint.k->(∀ i,i<fr->d i=θ i)->(∀ j (hj:j<vals.length),d (fr+j)=vals[j])->Fit d->fw0 (bk0 hint.objs) d ->
        ∃ g,(∀ i,i<fr->g i=θ i)/\(∀ j (hj:j<vals.length),g (fr+j)=vals[j])/\g (fr+hint.k)=.sc (.bool false)/\Fit g/\fw0 (bk0 hint.objs) g/\hint.state.full (bk0 hint.objs) d=hint.state.full (bk0 hint.objs) g:=fun vals d p1 p2 p3 p4 p5=>by
       have hag:∀ i,i<fr+hint.k->(fun i=>if i=fr+hint.k then AV.sc (.bool false)else d i) i=d i:=fun i hi=>by simp only[show ¬ i=fr+hint.k by omega,Ah]
       obtain⟨w1,w2⟩:=jC0 hBh hag;refine⟨fun i=>if i=fr+hint.k then .sc (.bool false)else d i,fun i hi=>?_,fun j hj=>?_,by simp,fun i=>?_,w2 p5,?_⟩
       ·simp only[show ¬ i=fr+hint.k by omega,Ah];exact p2 i hi
       ·simp only[show ¬ fr+j=fr+hint.k by omega,Ah];exact p3 j hj
       ·show am0 (if i=fr+hint.k then .sc (.bool false)else d i)
        split
        ·trivial
        exact p4 i
       simp only[AS.full,w1];rw[AS.sub_agree hag hbd]
      refine BWp.loop (fun k1 s1=>∃ vals d,I k1 vals/\vals.length=hint.k/\(∀ v∈vals,am0 v)/\(∀ i,i<fr->d i=θ i)/\(∀ j (hj:j<vals.length),d (fr+j)=vals[j])/\Fit d/\fw0 (bk0 hint.objs) d/\s1=hint.state.full (bk0 hint.objs) d) ?_ (k:=n1) ?_
      ·rintro k1 s1 ⟨vals,θ0,g1,g2,g3,g40,g50,g60,g70,rfl⟩
       obtain⟨d,g4,g5,g5',g6,g6',g7⟩:=pad vals θ0 g2 g40 g50 g60 g70;rw[g7];have G:=O (bk0 hint.objs) b hint.state (fr+hint.k+1) _ d _ g6 g6' (N k1 vals g1 g2 g3 d g4 g5 g5' g6);refine BWp.convEnd' (BWp.mono G ?_);rintro e s' ⟨R,g,S2,E,X,w,rfl,q1,q2,q3,q4,rfl,q5,q6⟩;have hA2:X fr=fun n=>∃ m,m<k1/\I m n:=by rw[q4 fr (by omega)];simp
       have Y:∀ i,i<fr->g i=θ i:=fun i hi=>(q3 i (by omega)).trans (g4 i hi);have W:∀ l,l<fr->X l=A l:=fun l hl=>by rw[q4 l (by omega)];simp[Nat.ne_of_lt hl]
       cases R with
       | nor=>
        left;simp only at q6;split at q6
        ·rename_i n hm'
         split at q6
         ·rename_i D
          simp only[ab]at D;obtain⟨D,hB2⟩:=D;obtain⟨w1,w2,w3,ι',Z⟩:=aU0 q2 hm';obtain⟨u1,u2⟩:=rQ0 D g;have K:=Ren.addH (H:=kM0 w g) Z (fun p hp=>nr0 q5 hp) (V S2 g E w hB2);have hst2:(hint.state.sub (fun i=>(X7 fr n i).sub g)).addH (kM0 w g)=hint.state.full (bk0 hint.objs) (fun i=>(X7 fr n i).sub g):=by simp only[AS.full,u1]
          rw[hst2]at K;refine⟨ι',_,K,?_⟩;simp only[EX.toExit,mD0];have q7:X fr (n.map (AV.sub g)):=q6;rw[hA2]at q7;obtain⟨m1,hm1,hI1⟩:=q7;refine⟨m1,hm1,n.map (AV.sub g),_,hI1,by simpa using w1,fun v hv=>?_,fun i hi=>by rw[B];exact Y i hi;exact hi,fun j hj=>?_,w3,u2 q5,rfl⟩
          ·obtain⟨v0,hv0,rfl⟩:=aY.1 hv;exact w2 v0 hv0
          simp only[aB]at hj;rw[C n g j hj];simp
         exact q6.elim
        exact q6.elim
       | exi j=>right;exact⟨.exi j,g,S2,E,X,w,rfl,by omega,q2,Y,W,rfl,q5,q6⟩
       | ret=>right;exact⟨.ret,g,S2,E,X,w,rfl,by omega,q2,Y,W,rfl,q5,q6⟩
      refine⟨inits.map (AV.sub θ),_,hI0,by simpa using v1,fun v hv=>?_,fun i hi=>B _ _ i hi,fun j hj=>?_,v3,f2 hw,rfl⟩
      ·obtain⟨v0,hv0,rfl⟩:=aY.1 hv;exact v2 v0 hv0
      simp only[aB]at hj;rw[C inits θ j hj];simp
     exact h.elim
    exact h.elim
   exact h.elim
  ·split at h
   ·rename_i hB
    exact xX0 hT hΦ hF hm hB hw u h
   exact h.elim
  ·exact BWp.of_awp (AWp.skip (self .nor h))
  ·exact BWp.of_awp (AWp.label (self .nor h))
  ·exact BWp.of_awp (AWp.exit (self (.exi _) h))
  ·exact BWp.of_awp (AWp.ret (self .ret h))
  exact h.elim
theorem pN0{d:Fam}{θ:Nat->AV}{S:AS}{fr:Nat}(L:et0 (some d) S fr=true){rows:List (List AV)}(hj:θ d.j=.rs rows)(hw:kE0 d.cols rows){G:c9}{w:World}{u:Value}(pl:Nat->Option Pl)
  (h:Rel G (S.full (some d) θ).st w) (M:Rep G (.ms d.a d.z 0 rows.length) u):Rep (G.frozen (S.full (some d) θ).st w pl) (.rs rows) u:=by
 obtain⟨k,off,l⟩:=oe0 L;have s:∀ i,i<R2->S.st.objs i=none:=fun i hi=>gK0 L hi;have ha:R2<=d.a:=by refine iw fun E=>?_;rw[s _ E]at l;cases l
 have m:(S.full (some d) θ).st=Go.Ab.addH (dq0 d.cols 0 rows) (S.st.sub θ):=by simp only[AS.full,kM0,hj,rowsOf];rfl
 have N:(S.full (some d) θ).st.objs d.a=some (.row d.e d.z (J2 d.cols 0 rows)):=by rw[m,F7,jG0 ha,c8.sub_objs,l];simp only[aj,j5.sub,p7,hj,rowsOf,bO,V0]
 refine eT0 h pl M N (by rw[J9];omega) rfl (fun i hi H=>?_);have t:(J2 d.cols 0 rows)[0+i]?=some (an0 d.cols i 0 rows[i]):=by simp only[I0,aG,ae hi,aj]
 have v:(J2 d.cols 0 rows)[0+i]=an0 d.cols i 0 rows[i]:=by rw[ae H]at t;exact bd t
 refine⟨by rw[v,H3],fun j p I u0 hu=>?_⟩;have hc:(an0 d.cols i 0 rows[i])[j]?=some (aG0 d.cols i j rows[i][j]):=by rw[N7,ae p];simp
 have J:(J2 d.cols 0 rows)[0+i][j]=aG0 d.cols i j rows[i][j]:=by
  have:(J2 d.cols 0 rows)[0+i][j]?=some (aG0 d.cols i j rows[i][j]):=by rw[v];exact hc
  rw[ae I]at this;exact bd this
 rw[J,Y6]at hu;have g:(rows[i][j]).pur=true:=X1 hw.2.2.1 i hi j p;cases q:W9 d.cols j with
 | none=>rw[q]at hu;exact Q1 (fun b o x=>H6 h x) hu g
 | some c=>
  rw[q]at hu;simp only at hu;obtain⟨B,r⟩:=Q7 q;have C:j<16:=by rw[<- r];exact hw.2.1 c B
  obtain⟨xs,n⟩:=hw.2.2.2 rows[i] (aq hi) c B;rw[r,ae p]at n;have n:=bd n;rw[n]at hu g ⊢;have K:(S.full (some d) θ).st.objs (hid i j)=some (.row c.2.1 c.2.2 xs):=by rw[m,F7,jS0 hw.2.1 hw.1 (ae hi) C,q];simp only[aj,cz0,r,cw,ae p,bR,n,rowsOf]
  simp only[rowsOf]at hu;refine eT0 h pl hu K (by omega) rfl (fun a ha O=>?_);have e0:xs[0+a]=xs[a]:=by congr 1;omega
  refine⟨by rw[e0],fun b x R U D=>?_⟩;have e1:xs[0+a][b]=xs[a][b]:=by congr 1
  rw[e1]at D;exact Q1 (fun b o x=>H6 h x) D (X1 g a ha b x)
def nM0(n:Nat)(a:List AV):AS:={ AS.enter n a c8.none with st:={ (AS.enter n a c8.none).st with next:=R2 } }
include hT hΦ hF hm in
theorem fnF_ok {H:Nat->Option Hint} {acts:Nat->Option us0} {m fr:Nat} {f:FuncId} {fn:Func} {c:Code} (K:F f=some fn) (B:(fn.name== "runtime.NumGoroutine")=false) (L:fn.body=some c) {d:List AV} (X:d.length<=fn.ntmps) (hp:dz0 d=true)
  {θ:Nat->AV} (E:Fit θ) {r:AV} (h:E1 T Φ (fun c=>c=r) (fm0 T Φ F H acts m none c (nM0 fn.ntmps d) fr (xl0 T fn)) θ (fun _ _=>False)):J1 P ⟨f,d.map (AV.sub θ),r⟩:=by
 refine J1.of_body hT (hF f fn K) B L (by simpa using X) (by rw[<- ai0,<-I3];exact R9 E d hp) ?_;refine BWp.raise (k:=R2) (by simp[AS.enter,c8.none]) ?_;have W:=nR0 hT hΦ hF hm (Q:=fun c=>c=r) (H:=H) (acts:=acts) m none c (nM0 fn.ntmps d) fr (xl0 T fn) θ _ E trivial h;have hst:(nM0 fn.ntmps d).full none θ={ AS.enter fn.ntmps (d.map (AV.sub θ)) c8.none with st:={ (AS.enter fn.ntmps (d.map (AV.sub θ)) c8.none).st with next:=R2 } }:=by have e1:(AS.enter fn.ntmps d c8.none).sub θ=AS.enter fn.ntmps (d.map (AV.sub θ)) c8.none:=gX0 ..;show ({ (AS.enter fn.ntmps d c8.none).sub θ with st:={ ((AS.enter fn.ntmps d c8.none).sub θ).st with next:=R2 } }:AS)=_;rw[e1]
 rw[hst]at W;refine BWp.mono W ?_;rintro e s' ⟨I,i,n,C,N,O,rfl,_,f1,_,_,rfl,R,hl⟩;cases O with
 | none=>
  have x:E1 T Φ (fun c=>c=r) (match et0 none n C with | true=>kTop T fn I n C | false=>.stuck) i N:=hl;split at x
  ·have fin:∀ l,I=l->(l=.nor\/l=.ret)->(l.toExit=.normal\/l.toExit=.ret)/\∃ v,D1 T fn (n.sub i)=some v/\∀ G w u pl,Rel G (n.sub i).st w->Rep G v u->Rep (G.frozen (n.sub i).st w pl) r u:=by
    intro l he q;subst he;refine⟨by rcases q with rfl | rfl<;>simp[EX.toExit],?_⟩;have g:E1 T Φ (fun c=>c=r) (match D1 T fn n with
     | some v=>match v.contP with
      | true=>.ret v.nilz []
      | false=>match ak0 n.st 50 v with
       | some c=>.ret c.nilz (al0 n.st.tr)
       | none=>.stuck
     | none=>.stuck) i N:=by rcases q with rfl | rfl<;>exact x
    split at g
    ·rename_i v hv
     refine⟨v.sub i,dj0 hv,?_⟩;intro G w u pl p hrep;split at g
     ·rename_i S
      obtain⟨_,D⟩:=g;rw[<- D];exact dl0 v u (Q1 (fun b o L=>H6 p L) hrep (bR0 f1 v S))
     split at g
     ·rename_i c hc
      obtain⟨s,D⟩:=g;rw[<- D];exact dl0 c u (du0 f1 p pl (fun id e z j U=>s j (aS0 U)) (fun id j U=>s j (X8 U)) 50 v c u hc hrep)
     exact g.elim
    exact g.elim
   cases I with
   | exi j=>exact x.elim
   | nor=>exact fin .nor rfl (.inl rfl)
   | ret=>exact fin .ret rfl (.inr rfl)
  exact x.elim
 | some M=>
  obtain⟨rows,hj,V⟩:=R;have fin:∀ l,I=l->(l=.nor\/l=.ret)->(l.toExit=.normal\/l.toExit=.ret)/\∃ v,D1 T fn (n.full (some M) i)=some v/\∀ G w u pl,Rel G (n.full (some M) i).st w->Rep G v u->Rep (G.frozen (n.full (some M) i).st w pl) r u:=by
   intro l he q;subst he;refine⟨by rcases q with rfl | rfl<;>simp[EX.toExit],?_⟩;have g:E1 T Φ (fun c=>c=r) (match et0 (some M) n C,fn.results.toList with
    | true,[.tmp t]=>match n.get t with
     | .ss a z j=>match aA a M.a&&aA z M.z&&aA j M.j with
      | true=>.ret (.sy M.j) []
      | false=>.stuck
     | _=>.stuck
    | _,_=>.stuck) i N:=by rcases q with rfl | rfl<;>exact hl
   split at g
   ·rename_i t Y J
    split at g
    ·rename_i a z j N6
     split at g
     ·rename_i hc
      simp only[ab]at hc;have e1:=af hc.1.1;have e2:=af hc.1.2;have e3:=af hc.2;subst e1;subst e2;subst e3;obtain⟨_,D⟩:=g;rw[p7,hj]at D;have Z:(n.full (some M) i).get t=.ms M.a M.z 0 rows.length:=by have:(n.full (some M) i).get t=(n.sub i).get t:=rfl;rw[this,AS.sub_get,N6,P8,hj];rfl
      refine⟨.ms M.a M.z 0 rows.length,?_,?_⟩
      ·simp only[D1,J,fn0,lh0,Z]
      intro G w u pl p hrep;rw[<- D];exact pN0 Y hj V pl p hrep
     exact g.elim
    exact g.elim
   exact g.elim
  cases I with
  | exi j=>exact hl.elim
  | nor=>exact fin .nor rfl (.inl rfl)
  | ret=>exact fin .ret rfl (.inr rfl)
end
def actL(l:List (Nat×us0))(i:Nat):Option us0:=match l with
 | []=>none
 | (j,a)::l=>match aA j i with
  | true=>some a
  | false=>actL l i
def gv0(T:Tab)(Φ:G6)(F:FuncId->Option Func)(H:List (Nat×Hint))(acts:List (Nat×us0))(m:Nat)(f:FuncId)(a:List AV)(fr:Nat):RT :=
 match F f with
 | some fn=>match fn.body with
  | some c=>match !(fn.name== "runtime.NumGoroutine")&&cJ a.length fn.ntmps&&dz0 a with
   | true=>fm0 T Φ F (xL0 H) (actL acts) m none c (nM0 fn.ntmps a) fr (xl0 T fn)
   | false=>.stuck
  | none=>.stuck
 | none=>.stuck
theorem nq0{P:Program}{T:Tab}(hT:B7 P T){Φ:G6}(b:ir0 P Φ){F:FuncId->Option Func}(hF:∀ f fn,F f=some fn->P.funcs[f]?=some fn)(hm:P.follows .mixedOrders=true){H:List (Nat×Hint)}{acts:List (Nat×us0)}{m:Nat}{f:FuncId}{a:List AV}{fr:Nat}
  {θ:Nat->AV} (d:Fit θ) {r:AV} (h:E1 T Φ (fun c=>c=r) (gv0 T Φ F H acts m f a fr) θ (fun _ _=>False)):J1 P ⟨f,a.map (AV.sub θ),r⟩:=by
 unfold gv0 at h;split at h
 ·rename_i fn e
  split at h
  ·rename_i c g
   split at h
   ·rename_i hc
    simp only[ab,bL]at hc;exact fnF_ok hT b hF hm e hc.1.1 g (aQ hc.1.2) hc.2 d h
   exact h.elim
  exact h.elim
 exact h.elim
end Go.Ab
namespace Go.Ab
open Go
variable [B5]
theorem xU0{P:Program}{T:Tab}{Φ:G6}{j:List TF}(e:∀ t∈j,t.Ok Φ){f:FuncId}{a:List AV}{tree:RT}
  (d:∀ θ,Fit θ->∀ r,E1 T Φ (fun c=>c=r) tree θ (fun _ _=>False)->J1 P ⟨f,a.map (AV.sub θ),r⟩)
  {S:Nat->Option SpL} {dom:SpL} {cod:Sp} {g:dom.T->Option cod.T} (m:uF0 T j S dom cod a tree=g) {x:dom.T} {v:cod.T} (h:g x=some v):J1 P ⟨f,y3 dom x,enc cod v⟩:=by
 subst m;unfold uF0 at h;cases hp:cM0 a dom []with
 | none=>simp only[hp]at h;cases h
 | some q=>
  obtain⟨Γ,p⟩:=q;simp only[hp]at h;obtain⟨vs,n,z,o⟩:=bl0 _ _ _ _ hp x ();have hl:=jt0 e _ Γ [] (p x ()) () (fun _ _=>False) (fun l s g hf=>by simp[me0]at hf) h;have w:fN0 Γ (p x ())=vs++[]:=n;have e1:af0 (thE Γ (p x ())) a=y3 dom x:=by
   have B:=o []
   grind [thE,D8]
  rw[eK0]at e1;have b:∀ u∈fN0 Γ (p x ()),am0 u:=fun u hu=>by grind
  rw[<- e1];have i:=hl (by rw[D8]);have k:=i (fun u hu=>b u (by simpa using hu));rw[br0,D8]at k;exact d _ (by have:=Fit.env (l:=(fN0 Γ (p x ())).reverse) (fun u hu=>b u (by simpa using hu));rw[br0,D8]at this;exact this) _ k
theorem tf_okF{P:Program}{T:Tab}(hT:B7 P T){F:FuncId->Option Func}(hF:∀ f fn,F f=some fn->P.funcs[f]?=some fn)(hm:P.follows .mixedOrders=true){ts d:List TF}(hs:wD0 ts=true)(b:∀ t∈d,t.Ok (eR0 P ts)){t:TF}(e:t∈ts)(hf:bY t.f XT=true)
  {H:List (Nat×Hint)} {acts:List (Nat×us0)} {m:Nat} {a:List AV} {fr:Nat} {S:Nat->Option SpL} (g:uF0 T d S t.dom t.cod a (gv0 T (eR0 P ts) F H acts m t.f a fr)=t.fn):t.Ok (eR0 P ts) :=
 Q3 hs e fun x r i=>Good.memo (by simpa using hf) (xU0 b (fun θ c r h=>nq0 hT (jW0 P ts) hF hm c h) g i)
end Go.Ab
namespace Go.Ab
open Go Go.RowKit Go.WideShapes Go.ChangeShapes Go.Proofs
theorem dy0{H:Type}{enc:TypeId×Value->H}{a:Assume}{C:Checked}{os:Os}{f:FuncId}{fn:Func}{s:ChangeSpec}{conds:List PathCond}{apart fresh handsOn again:Bool}{X:World->Array Value->Prop}
  (u:∀ (w w':World) (args:Array Value),w.heap=w'.heap->X w args->X w' args)
  (own:ownKnob C.prog.godebug=none) (started:os.Started) (c:C.prog.inits.idxOf? f=none) (m:C.prog.funcs[f]?=some fn)
  (witness:∃ (w:World) (tape:Tape) (i:Input),w.os=os/\(w.forCall tape i).Shaped C.prog/\i.vars=[]/\Input.okWide C.prog (w.forCall tape i) .any w.heap.size f i /\
   ((s.pre enc C.prog fn conds apart (w.forCall tape i).memory i.args/\X (w.forCall tape i).memory i.args)/\sizedMet enc C.prog fn (gq s) apart (w.forCall tape i).memory i.args)/\a.holds C.prog (lone (iZ C.prog f i.args .normal) [] (w.forCall tape i)))
  (b:∀ (W:World) (base:Nat) (args:Array Value) (g gs:List (DataW H)) (before:List MemPlace),
   (∀ (j:Nat) t v,fn.params[j]?=some t->args[j]?=some v->Value.okWide C.prog W .any base t v) ->
   DataW.Whole enc C.prog fn.params.toList s.vars apart W args.toList g gs before ->
   conds.all (PathCond.test C.prog ⟨fn.params.toList,g,s.plain.varTypes C.prog,gs⟩)=true ->
   (DataW.weightsEach C.prog (fn.params.toList++s.plain.varTypes C.prog) (g++gs)).all (·<=reachBytes)=true->X W args ->
   W.ShapedOpen C.prog ->
   a.holds C.prog (lone (iZ C.prog f args .normal) [] W) ->
   Calls C.prog f args W fun e r=>∃ v,e=.returned v/\s.post enc C.prog fn apart fresh handsOn again W args v r) :
  ReturnsInHanded a C os f .any (fun w args=>(s.pre enc C.prog fn conds apart w args/\X w args)/\sizedMet enc C.prog fn (gq s) apart w args) (s.post enc C.prog fn apart fresh handsOn again):=by
 refine returnsInHanded_of_calls own started c witness ?_;intro w tape i _ n _ o h d;obtain⟨_,_,_,p,k,_,_,_,_,l⟩:=o;have e:p=fn:=bd (k.symm.trans m);subst e;obtain⟨⟨⟨g,gs,before,hw,hc⟩,x⟩,hz⟩:=h;have q:=jn (w':=w.forCall tape i) (by rfl) hw;refine(b (w.forCall tape i) w.heap.size i.args g gs before l q hc (hz.weights hw) (u _ _ _ (by rfl) x) n d).mono fun e r ⟨v,he,hp⟩=>?_;subst he;exact js hp
variable [B5]
def mkL:List Sp->SpL
 | []=>.nil
 | [s]=>.one s
 | s::s'::l=>.cons s (mkL (s'::l))
mutual
def Bn(N:Nat):(s:Sp)->s.T->Prop
 | .int k,x=>(Lit.int k x).wf=true
 | .str,x=>x.size<=N
 | .sl l,xs=>xs.length<=N/\∀ x∈xs,BnL N l x
 | .agg l,x=>BnL N l x
 | .bool,_=>True
 | .ptr _,_=>True
 | .fmap _,_=>True
 | .tup _,_=>True
 | .fn _ _,_=>True
 | .tt,_=>True
 | .nl,_=>True
def BnL(N:Nat):(l:SpL)->l.T->Prop
 | .nil,_=>True
 | .one s,x=>Bn N s x
 | .cons s l,x=>Bn N s x.1/\BnL N l x.2
end
def fC0(N:Nat):List Sp->List AV->Prop
 | [],[]=>True
 | s::L,v::c=>(∃ x:s.T,v=enc s x/\Bn N s x)/\fC0 N L c
 | _,_=>False
theorem fC0.app{N:Nat}:∀ {L M:List Sp} {c d:List AV},fC0 N L c->fC0 N M d->fC0 N (L++M) (c++d)
 | [],_,[],_,_,h=>h
 | [],_,_::_,_,h,_=>by cases h
 | _::_,_,[],_,h,_=>by cases h
 | s::L,_,v::c,_,h,h'=>⟨h.1,fC0.app h.2 h'⟩
theorem fC0.mk{N:Nat}:∀ {L:List Sp} {c:List AV},fC0 N L c->∃ x:(mkL L).T,c=y3 (mkL L) x/\BnL N (mkL L) x
 | [],[],_=>⟨(),rfl,trivial⟩
 | [],_::_,h=>by cases h
 | [s],[v],h=>by obtain⟨⟨x,a,b⟩,_⟩:=h;exact⟨x,by rw[a];rfl,b⟩
 | [s],[],h=>by cases h
 | [s],_::_::_,h=>by cases h.2
 | s::s'::L,[],h=>by cases h
 | s::s'::L,v::c,h=>by obtain⟨⟨x,a,b⟩,h2⟩:=h;obtain⟨y,d,hc⟩:=fC0.mk (L:=s'::L) h2;exact⟨(x,y),by rw[a,d];rfl,b,hc⟩
def pK0{α:Type}:List (Option (List α))->Option (List α)
 | []=>some []
 | some l::r=>(pK0 r).map (l++·)
 | none::_=>none
def Y9(P:Program):Nat->TypeId->Option (List Sp)
 | 0,_=>none
 | k+1,t=>match P.underlying t with
  | some .bool=>some [.bool]
  | some (.int a)=>some [.int a]
  | some .string=>some [.str]
  | some (.slice e)=>(Y9 P k e).map fun L=>[.sl (mkL L)]
  | some (.struct fs)=>if ey0 P fs.toList 0 (P.cellsOf t)then pK0 (fs.toList.map fun f=>Y9 P k f.type)else none
  | _=>none
theorem ql0{N:Nat}{L:List Sp}:∀ {es:List (List AV)},(∀ c∈es,fC0 N L c)->∃ xs:List (mkL L).T,es=xs.map (y3 (mkL L))/\∀ x∈xs,BnL N (mkL L) x
 | [],_=>⟨[],rfl,fun x h=>by cases h⟩
 | c::es,h=>by
  obtain⟨x,e,f⟩:=fC0.mk (h c (by simp));obtain⟨xs,a,b⟩:=ql0 (es:=es) fun c' hc=>h c' (by simp[hc]);refine⟨x::xs,by rw[e,a];rfl,fun y d=>?_⟩;rcases aC.1 d with rfl | d
  ·exact f
  exact b y d
theorem kj0{P:Program}{N:Nat}:∀ (k:Nat) (t:TypeId) {c:List AV} {L:List Sp},Sh P N t c->Y9 P k t=some L->fC0 N L c
 | 0,t,c,L,_,h=>by cases h
 | k+1,t,c,L,hs,h=>by
  unfold Y9 at h;split at h
  ·rename_i i
   cases h;cases hs with
   | bool b h2=>exact⟨⟨b,rfl,trivial⟩,trivial⟩
   | int h2=>rw[i]at h2;cases h2
   | str h2=>rw[i]at h2;cases h2
   | slice h2=>rw[i]at h2;cases h2
   | struct h2=>rw[i]at h2;cases h2
  ·rename_i w i
   cases h;obtain⟨n,rfl,hw⟩:=hs.int_inv i;exact⟨⟨n,rfl,hw⟩,trivial⟩
  ·rename_i i
   cases h;obtain⟨s,rfl,hw⟩:=hs.str_inv i;exact⟨⟨s,rfl,hw⟩,trivial⟩
  ·rename_i e i
   obtain⟨es,rfl,hl,hes⟩:=hs.slice_inv i;cases d:Y9 P k e with
   | none=>rw[d]at h;cases h
   | some M=>rw[d]at h;simp only[aj,ai]at h;subst h;obtain⟨xs,rfl,q⟩:=ql0 fun c hc=>kj0 k e (hes c hc) d;exact⟨⟨xs,rfl,by simpa using hl,q⟩,trivial⟩
  ·rename_i fs i
   split at h
   ·rename_i j
    obtain⟨hlen,hf⟩:=hs.struct_inv i;have key:∀ (l:List Field) (o:Nat) (L:List Sp),(∀ f∈l,f∈fs.toList)->ey0 P l o (P.cellsOf t)=true->pK0 (l.map fun f=>Y9 P k f.type)=some L->fC0 N L (c.drop o):=by
     intro l
     induction l with
     | nil=>intro o L _ m d;have:o=P.cellsOf t:=af m;cases d;rw[this,<-hlen,List.drop_length];trivial
     | cons f l r=>
      intro o L hm m d;simp only[ey0,ab]at m;have p:f.offset=o:=af m.1;simp only[ay]at d;cases h1:Y9 P k f.type with
      | none=>rw[h1]at d;cases d
      | some M=>
       rw[h1]at d;simp only[pK0]at d;cases h2:pK0 (l.map fun f=>Y9 P k f.type)with
       | none=>rw[h2]at d;cases d
       | some u =>
        rw[h2]at d;simp only[aj,ai]at d;subst d;have a:=kj0 k f.type (hf f (hm f (by simp))) h1;have b:=r (o+P.cellsOf f.type) u (fun g v=>hm g (by simp[v])) m.2 h2;rw[p]at a;have e:c.drop o=(c.drop o).take (P.cellsOf f.type)++c.drop (o+P.cellsOf f.type):=by rw[<- dn,cL]
        rw[e];exact a.app b
    have:=key fs.toList 0 L (fun _ h=>h) j h;simpa using this
   cases h
  cases h
section
variable {H:Type} {en:TypeId×Value->H} {P:Program} {w:World} {base:Nat} {spare:Nat->Bool} {held:Bool}
def gk0(P:Program):Nat->TypeId->DataW H->Option (List Value)
 | 0,_,_=>none
 | k+1,t,d=>match P.underlying t,d with
  | some (.int c),.lit (.int b n)=>some [.int b n]
  | some (.array _ e),.agg a=>if aA (P.cellsOf t) (a.length*P.cellsOf e)then pK0 (a.map fun d=>gk0 P k e d)else none
  | some (.struct fs),.agg a=>if ey0 P fs.toList 0 (P.cellsOf t)then pK0 ((fs.toList.zip a).map fun x=>gk0 P k x.1.type x.2)else none
  | _,_=>none
theorem ih0:∀ (k:Nat) (t:TypeId) {fuel:Nat} {cs:List Value} {d:DataW H} {p:List MemPlace} {l:List Value},DataW.trod en P w base spare held fuel t cs=some (d,p)->gk0 P k t d=some l->cs=l
 | 0,t,_,_,_,_,_,_,h=>by cases h
 | k+1,t,fuel,cs,d,p,l,s,h=>by
  unfold gk0 at h;split at h
  ·rename_i G D n hu
   obtain⟨m,rfl,e,_⟩:=DataW.trod_int hu s;cases h;cases e;rfl
  ·rename_i n e E hu
   obtain⟨xs,m,rfl,ex,hlen,u,g⟩:=DataW.trod_array hu s;simp only[bV,gD]at ex;obtain⟨rfl,_⟩:=ex;split at h
   ·rename_i v
    have v:=af v;rw[aB,u]at v;have key:∀ (j i:Nat) (l:List Value),i+j=n->pK0 (((xs.map (·.1)).drop i).map fun d=>gk0 P k e d)=some l->cs.drop (i*P.cellsOf e)=l:=by
     intro j
     induction j with
     | zero=>
      intro i l hi hl;have:i=n:=by omega
      subst this;rw[dh (by simp[u])]at hl;cases hl;exact dh (by omega)
     | succ j z=>
      intro i l hi hl;have c:i<xs.length:=by omega
      rw[bw (by simpa using c)]at hl;simp only[ay,cd]at hl;cases h1:gk0 P k e xs[i].1 with
      | none=>rw[h1]at hl;cases hl
      | some l1=>
       rw[h1]at hl;simp only[pK0]at hl;cases h2:pK0 (((xs.map (·.1)).drop (i+1)).map fun d=>gk0 P k e d)with
       | none=>rw[h2]at hl;cases hl
       | some l2=>rw[h2]at hl;simp only[aj,ai]at hl;subst hl;have f:=g i (by omega);rw[ae c]at f;have a:=ih0 k e (d:=xs[i].1) (p:=xs[i].2) f h1;have b:=z (i+1) l2 (by omega) h2;rw[bK,gR]at b;rw[<- a,<-b,<-dn,cL]
    have:=key n 0 l (by omega) (by simpa using h);simpa using this
   cases h
  ·rename_i fs E hu
   obtain⟨xs,m,rfl,ex,hlen,u,g⟩:=DataW.trod_struct hu s;simp only[bV,gD]at ex;obtain⟨rfl,_⟩:=ex;split at h
   ·rename_i q
    have key:∀ (j i o:Nat) (l:List Value),i+j=fs.size->ey0 P (fs.toList.drop i) o (P.cellsOf t)=true->pK0 (((fs.toList.drop i).zip ((xs.map (·.1)).drop i)).map fun x=>gk0 P k x.1.type x.2)=some l->cs.drop o=l:=by
     intro j
     induction j with
     | zero=>intro i o l hi r hl;rw[dh (by simp;omega)]at r hl;have:o=P.cellsOf t:=af r;cases hl;exact dh (by omega)
     | succ j z=>
      intro i o l hi r hl;have c:i<xs.length:=by omega
      have B:i<fs.toList.length:=by simp;omega
      rw[bw B]at r hl;rw[bw (l:=xs.map (·.1)) (by simpa using c)]at hl;simp only[ey0,ab]at r;have C:=af r.1;simp only[List.zip_cons_cons,ay,cd]at hl;cases h1:gk0 P k fs.toList[i].type xs[i].1 with
      | none=>rw[h1]at hl;cases hl
      | some l1=>
       rw[h1]at hl;simp only[pK0]at hl;cases h2:pK0 (((fs.toList.drop (i+1)).zip ((xs.map (·.1)).drop (i+1))).map fun x=>gk0 P k x.1.type x.2)with
       | none=>rw[h2]at hl;cases hl
       | some l2=>rw[h2]at hl;simp only[aj,ai]at hl;subst hl;have f:=g i fs.toList[i] (by simp);rw[ae c]at f;have a:=ih0 k _ (d:=xs[i].1) (p:=xs[i].2) f h1;have b:=z (i+1) (o+P.cellsOf fs.toList[i].type) l2 (by omega) r.2 h2;rw[C]at a;rw[<- a,<-b,<-dn,cL]
    have:=key fs.size 0 0 l (by omega) (by simpa using q) (by simpa using h);simpa using this
   cases h
  cases h
theorem pS0{n:String}{d:DataW Unit}{g:Nat}{t:TypeId}{k:Nat}{l:List Value}(h:laidMetH P [(n,d)] w)(j:([(n,d)].all fun x=>x.2.handleName?.isNone)=true)(m:P.globalNamed n=some g)(p:(P.globals[g]?).map (·.type)=some t)(hl:gk0 P k t d=some l) :
  ∀ o v,l[o]?=some v->(c9.ofWorld w).cell g o=some v:=by
 rw[jt _ _ _ j]at h;obtain⟨r,⟨g0,t0,b,f0,p0,q0,a,c,f,i,_⟩,_⟩:=h;obtain rfl:=bd (m.symm.trans a);obtain rfl:=bd (p.symm.trans c);have e:=ih0 k t i hl;intro o v q;have hc:=World.var?_cell a f o;have h1:b[o]?=some v:=by rw[<- Array.getElem?_toList,e];exact q
 have h2:w.cell? ⟨g,o,none⟩=some v:=by first | exact hc.trans h1 | exact hc.symm.trans h1 | (rw[h1]at hc;exact hc) | (simpa[h1]using hc)
 exact(be0 h2).2
end
end Go.Ab
namespace Go.Ab
variable [B5]
open Go Go.Sort Go.Proofs Go.Shelf
theorem oL0{W w':World}(hs:W.heap.size<=w'.heap.size)(a:∀ b,b<W.heap.size->w'.heap[b]?=W.heap[b]?)(j:W.drawn<=w'.drawn)(h:w'.os=W.os)(i:w'.tape=W.tape)(hp:w'.output=W.output):∃ q e,w'=grow (W.drewN q) e:=by
 refine⟨w'.drawn-W.drawn,w'.heap.extract W.heap.size w'.heap.size,?_⟩;have e1:w'.heap=W.heap++w'.heap.extract W.heap.size w'.heap.size:=by
  apply Array.ext_getElem?;intro k;by_cases hk:k<W.heap.size
  ·rw[cu hk,a k hk]
  rw[Array.getElem?_append_right (by omega),Array.getElem?_extract];by_cases l:k<w'.heap.size
  ·rw[Af (by omega)]
   congr 1;omega
  rw[Ae (by omega),Array.getElem?_eq_none (by omega)]
 cases w' with
 | mk heap tape drawn os output=>
 cases W with
 | mk f g d m c=>
 simp only at hs a j h i hp e1;subst h;subst i;subst hp;simp only[grow,World.drewN];rw[<- e1];congr 1;omega
theorem J1.grows {P:Program} {g:FuncId} {fn:Func} (t:P.funcs[g]?=some fn) (f:(fn.name== "runtime.NumGoroutine")=false) (i:fn.body.isNone=false) {args:List AV} {v:Value} (hm:J1 P ⟨g,args,.sc v⟩)
  {G:c9} {W:World} {vs:List Value} (j:B6 G args vs) (d:Rel G c8.none W):Calls P g vs.toArray W (fun e w'=>e=.returned v/\∃ q k,w'=grow (W.drewN q) k):=by
 have n:(callFunc g vs.toArray).run P W=.ok (.enter g vs.toArray) W:=by simp only[callFunc,al,run_program,ah,t,f,i,au,Ah,ao]
 have h:=hm c8.none G vs W j d { (default:Oper)with dst:=some 0 } ⟨#[undef],[]⟩ (fun x w'=>x.tmps[0]?=some v/\∃ q k,w'=grow (W.drewN q) k) (fun _ _ _=>False) (by
  rintro u B σ' G' w' r w a ⟨rfl,rfl⟩;cases w;refine⟨by simp[iE],?_⟩;have l:∀ b,b<W.heap.size->w'.heap[b]?=W.heap[b]?:=fun b z=>r.fr.same b z (fun id o p h=>by rw[c8.none_objs]at h;cases h);have m:=r.le.w0;exact oL0 r.fr.size l r.fr.drawn (by rw[a.os,m,d.os]) (by rw[a.tape,m,d.tape]) (by rw[a.output,m,d.output]))
 rw[n]at h;simp only[Oper.upon]at h;refine h.mono ?_;intro e w' s;cases e with
 | returned u=>simp only[iE]at s;obtain⟨h1,h2⟩:=s;simp at h1;exact⟨by rw[h1],h2⟩
 | panicked c=>exact s.elim
 | outgrown=>obtain⟨_,_,hf⟩:=s;exact hf.elim
theorem Rel.turned{G:c9}{σ:c8}{w w':World}(h:Rel G σ w){id:Nat}{o o':j5}{p:Pl}(l:σ.objs id=some o)(hp:G.pl id=some p)(hv:p.virt=false)(hs:w.heap.size<=w'.heap.size)(s:w'.os=w.os)(d:w'.tape=w.tape)(m:w'.output=w.output)(E:w.drawn<=w'.drawn)
  (a:∀ k,k<w.heap.size->k≠p.block->w'.heap[k]?=w.heap[k]?) (t:P1 G p o' w'.heap[p.block]?):Rel G (σ.set id o') w'/\Fr G σ w G (σ.set id o') w':=by
 obtain⟨n,u,_⟩:=h.real l hp hv;refine⟨⟨s.trans h.os,d.trans h.tape,m.trans h.output,bo h.size hs,fun b x g=>?_,h.fresh,fun i x c=>?_,fun i j oi oj pi pj h1 h2 r D v1 v2 H=>?_,h.glob⟩,⟨hs,fun b g I=>a b g (fun e=>I id o p l hp hv e.symm),fun i x q h1 h2 r D=>?_,fun _ _ h=>.inl h,E⟩⟩
 ·rw[a b (h.lt g) (fun e=>by rw[e,n]at g;cases g)];exact h.imm b x g
 ·by_cases e:i=id
  ·subst e
   simp[c8.objs_set]at c;subst c;exact⟨p,hp,.inr ⟨hv,n,u,t⟩⟩
  simp[c8.objs_set,e]at c;obtain⟨q,v,hl⟩:=h.objs i x c;refine⟨q,v,?_⟩;rcases hl with hl | ⟨f,z,B,C⟩
  ·exact .inl hl
  refine .inr ⟨f,z,B,?_⟩;rw[a q.block (h.obj_lt c v f) (fun J=>e (h.sep i id x o q p c l v hp f hv J))];exact C
 ·have aux:∀ i x,(σ.set id o').objs i=some x->∃ y,σ.objs i=some y:=fun i x c=>by
   by_cases e:i=id
   ·exact⟨o,by rw[e];exact l⟩
   exact⟨x,by simpa[c8.objs_set,e]using c⟩
  obtain⟨K,L⟩:=aux i oi h1;obtain⟨M,a2⟩:=aux j oj h2;exact h.sep i j K M pi pj L a2 r D v1 v2 H
 by_cases e:i=id
 ·subst e
  exact⟨i,o,q,l,h2,r,rfl⟩
 exact⟨i,x,q,by simpa[c8.objs_set,e]using h1,h2,r,rfl⟩
theorem Rel.without{G:c9}{σ:c8}{w w':World}(h:Rel G σ w){id:Nat}{o:j5}{p:Pl}(B:σ.objs id=some o)(hp:G.pl id=some p)(hv:p.virt=false)(hs:w.heap.size<=w'.heap.size)(n:w'.os=w.os)(c:w'.tape=w.tape)(l:w'.output=w.output)
  (a:∀ k,k<w.heap.size->k≠p.block->w'.heap[k]?=w.heap[k]?):Rel G (σ.del id) w':=by
 obtain⟨r,C,_⟩:=h.real B hp hv;have back:∀ i x,(σ.del id).objs i=some x->i≠id/\σ.objs i=some x:=fun i x g=>by
  rw[c8.objs_del]at g;split at g
  ·cases g
  rename_i e;exact⟨e,g⟩
 refine⟨n.trans h.os,c.trans h.tape,l.trans h.output,bo h.size hs,fun b x m=>?_,h.fresh,fun i x g=>?_,fun i j oi oj pi pj h1 h2 D E v1 v2 H=>h.sep i j oi oj pi pj (back _ _ h1).2 (back _ _ h2).2 D E v1 v2 H,h.glob⟩
 ·rw[a b (h.lt m) (fun e=>by rw[e,r]at m;cases m)];exact h.imm b x m
 obtain⟨s,d⟩:=back i x g;obtain⟨q,t,hl⟩:=h.objs i x d;refine⟨q,t,?_⟩;rcases hl with hl | ⟨f,u,v,z⟩
 ·exact .inl hl
 refine .inr ⟨f,u,v,?_⟩;rw[a q.block (h.obj_lt d t f) (fun I=>s (h.sep i id x o q p d B t hp f hv I))];exact z
theorem Rel.frozen_none{G:c9}{σ:c8}{w:World}(h:Rel G σ w):Rel (G.frozen σ w (fun _=>none)) c8.none w :=
 ⟨h.os,h.tape,h.output,h.size,fun b x a=>by
   simp only[c9.frozen]at a;split at a
   ·exact a
   exact h.imm b x a,fun _ _=>rfl,(fun id o h=>by rw[c8.none_objs]at h;cases h),(fun i j oi oj pi pj h=>by rw[c8.none_objs]at h;cases h),fun b o v hv=>eh0 h (h.glob b o v hv)⟩
def E2(es:List (List AV))(i:Nat):List AV:=(es[i]?).getD (es.headD [])
theorem N1{es:List (List AV)}(h:es≠[])(i:Nat):E2 es i∈es:=by
 unfold E2;cases hi:es[i]? with
 | some r=>exact aD hi
 | none=>
  cases es with
  | nil=>exact Am rfl h
  | cons a l=>simp
def I6(cf:List AV->List AV->Int):List (List AV)->List (List AV)
 | []=>[]
 | r::l=>((pdq (ltOf (fun i j=>cf (E2 (r::l) i) (E2 (r::l) j))) (aW (r::l).length) 0 (r::l).length (dH (r::l).length) true true).toList).map (E2 (r::l))
theorem ef0{cf:List AV->List AV->Int}{es:List (List AV)}(h:es≠[]):I6 cf es=((pdq (ltOf (fun i j=>cf (E2 es i) (E2 es j))) (aW es.length) 0 es.length (dH es.length) true true).toList).map (E2 es):=by
 cases es with
 | nil=>exact Am rfl h
 | cons r l=>rfl
theorem ou0{cf:List AV->List AV->Int}{es:List (List AV)}(hO:SWO (ltOf (fun i j=>cf (E2 es i) (E2 es j)))) :
  PermIn 0 es.length (aW es.length) (pdq (ltOf (fun i j=>cf (E2 es i) (E2 es j))) (aW es.length) 0 es.length (dH es.length) true true)/\SortedIn (ltOf (fun i j=>cf (E2 es i) (E2 es j))) 0 es.length (pdq (ltOf (fun i j=>cf (E2 es i) (E2 es j))) (aW es.length) 0 es.length (dH es.length) true true) :=
 pdq_sorts _ hO (aW es.length) 0 es.length (dH es.length) true true (cP _) (by simp) (Or.inl rfl)
theorem aL0{α:Type}[Inhabited α](enc:α->List Value)(k:Nat)(w:World)(a off m:Nat)(d:Array α)(os:Array Obj) :
  sortWorldK enc k w a off m d os={ w with drawn:=w.drawn+m,heap:=w.heap.modify a (onCells (putCells id off (flatK enc k d)))++os }:=rfl
theorem jf0{w:World}{f:Obj->Obj}{os:Array Obj}{a k:Nat}(hk:k<w.heap.size)(b:k≠a):(w.heap.modify a f++os)[k]?=w.heap[k]?:=by rw[cu (by simpa using hk),du,Ae (Ne.symm b)]
theorem rd0{G:c9}{σ:c8}{w:World}{id:Nat}{g:FuncId}{caps restv:List AV}{vs:List Value}(d:Rel G σ w)(a:B6 G restv vs)(l:∀ G vs w,B6 G restv vs->Rel G (σ.del id) w->B6 (G.frozen (σ.del id) w (fun _=>none)) [.fn (.func g) [] caps] vs) :
  ∃ cv:List Value,vs=[.func (.func g) #[] cv.toArray]/\∀ w',Rel G (σ.del id) w'->B6 (G.frozen (σ.del id) w' (fun _=>none)) caps cv:=by
 have c:Rel G (σ.del id) w:=d.less rfl (fun i o h=>by
  rw[c8.objs_del]at h;split at h
  ·cases h
  exact h)
 obtain⟨v,n,rfl,j,b⟩:=(l G vs w a c).cons_inv;obtain rfl:=b.nil_inv;cases j with
 | fn _ _ _ fv cv h1 h2 x z=>
  have:fv=[]:=by simpa using h1
  subst this;refine⟨cv,rfl,fun w' h'=>?_⟩;obtain⟨p,r,e3,e,f⟩:=(l G _ w' a h').cons_inv;have e4:p=.func (.func g) #[] cv.toArray:=by have:=Ap List.head? e3;simpa using this.symm
  subst e4;generalize m:Value.func (.func g) #[] cv.toArray=q at e;cases e with
  | fn _ _ _ s k B t C u=>
   simp only[ju,Aq]at m;have:cv=k:=by have:=m.2;simpa using Ap Array.toList this
   subst this;exact⟨t,u⟩
theorem uw0 {P:Program} {ρ:dI} (L:SlLaysF0.n6 P ρ) {f:FuncId} (hf:ρ.f 6=f) {S:Func} (hS:P.funcs[f]?=some S) (hSn:(S.name== "runtime.NumGoroutine")=false) (hSb:S.body.isNone=false) {z:Nat} (hz:0<z) (aE:∀ w,(isAgg (ρ.t 24)).run P w=.ok true w) (zE:∀ w,(Go.sizeOf (ρ.t 24)).run P w=.ok z w)
  {g:FuncId} {U:Func} (hG:P.funcs[g]?=some U) (hGn:(U.name== "runtime.NumGoroutine")=false) (hGb:U.body.isNone=false) {e:TypeId} {es:List (List AV)} {caps:List AV} {cf:List AV->List AV->Int}
  (hlen:∀ r∈es,r.length=z) (hone:∀ r∈es,∀ c∈r,c.one=true) (hpur:∀ r∈es,∀ c∈r,c.pur=true) (hn:es.length<4611686018427387904)
  (hcmp:∀ x∈es,∀ y∈es,J1 P ⟨g,[.agg x,.agg y]++caps,I64 (cf x y)⟩) (hO:es≠[]->SWO (ltOf (fun i j=>cf (E2 es i) (E2 es j))))
  {σ:c8} {id:Nat} (ho:σ.objs id=some (.row e z es)) {restv:List AV} (hr:∀ G vs w,B6 G restv vs->Rel G (σ.del id) w->B6 (G.frozen (σ.del id) w (fun _=>none)) [.fn (.func g) [] caps] vs) :
  F3 P f (.ms id z 0 es.length::restv) σ (fun v σ'=>v=.tup []/\σ'=σ.set id (.row e z (I6 cf es))):=by
 subst hf;refine F3.of_calls hS hSn hSb ?_;intro G vs w u s;obtain⟨u1,vs1,rfl,V,u⟩:=u.cons_inv;obtain⟨cv,rfl,hcv⟩:=rd0 s u hr;by_cases hes:es=[]
 ·
  subst hes;have hσ:∀ i,(σ.set id (.row e z [])).objs i=σ.objs i:=fun i=>by
   rw[c8.objs_set];split
   ·rename_i ei;rw[ei,ho]
   rfl
  obtain⟨q,c,rfl⟩:∃ (q:Option Addr) (c:Nat),u1=.slice q 0 c:=by
   cases V with
   | ms _ _ _ _ p hp hv hz' a c ha hoff hl hsp=>exact⟨some a,c,rfl⟩
   | msNil _ _ p hp hv=>exact⟨none,0,rfl⟩
  refine(fV L q c (.func (.func g) #[] cv.toArray) w).mono ?_;rintro e' w' ⟨rfl,rfl⟩;refine⟨_,.tup [],σ.set id (.row e z (I6 cf [])),G,rfl,⟨.refl G,.refl _ G,ar _,Fr.less (fun i o h=>by rw[<- hσ i];exact h)⟩,.tup [] [] rfl (fun i h=>by simp at h),s.less rfl (fun i o h=>by rw[<- hσ i];exact h),rfl,rfl⟩
 have E:0<es.length:=cx.2 hes;obtain⟨p,hp,hv,c,rfl,hc⟩:∃ p,G.pl id=some p/\p.virt=false/\∃ c,u1=.slice (some ⟨p.block,0,none⟩) es.length c/\es.length<=c:=by
  generalize hl0:es.length=n0 at V E;cases V with
  | ms _ _ _ _ p hp hv hz' a c ha hoff hl hsp=>refine⟨p,hp,hv,c,?_,hl⟩;rw[ha (by omega)];simp
  | msNil _ _ p hp hv=>omega
 obtain⟨him,hw0,cs,W,hpz,M,hcap,X⟩:=s.real ho hp hv;have H:p.block<w.heap.size:=s.obj_lt ho hp hv;have Y:∀ i j,i<es.length->j<z->i*z+j<cs.size:=fun i j hi hj=>by rw[M];have h1:(i+1)*z<=p.cap*z:=Nat.mul_le_mul_right z (by omega);rw[bK,gR]at h1;omega
 let enc:Nat->List Value:=fun i=>(bE z).map fun j=>cs[(if i<es.length then i else 0)*z+j]!
 have hk:∀ i,(enc i).length=z:=fun i=>by simp[enc]
 have hrep:∀ i,B6 G (E2 es i) (enc i):=fun i=>by
  have key:∀ i,i<es.length->B6 G (E2 es i) ((bE z).map fun j=>cs[i*z+j]!):=fun i hi=>by
   have e1:E2 es i=es[i]:=by simp[E2,hi]
   rw[e1];obtain⟨r1,r2⟩:=X i hi;refine⟨by simp[r1],fun j hj K=>?_⟩;have B:j<z:=by omega
   have:=r2 j hj (Y i j hi B);simpa[Y i j hi B]using this
  by_cases hi:i<es.length
  ·have:=key i hi
   simp only[enc,hi,Al];exact this
  have:=key 0 E;have e2:E2 es i=E2 es 0:=by
   unfold E2;rw[bz (by omega)];cases es with
   | nil=>simp at E
   | cons a l=>simp
  simp only[enc,hi,Ah];rw[e2];exact this
 have Z:∀ i,∀ v∈enc i,v.oneCell'=true:=fun i v hv'=>by obtain⟨j,hj,rfl⟩:=aJ hv';have hr1:=(hrep i).1;have:=(hrep i).2 j (by omega) hj;exact Rep.one (hone _ (N1 hes i) _ (aq _)) this
 have n:(aW es.length).size=es.length:=by simp
 have hH:HoldsK enc z w p.block 0 (aW es.length):=by
  intro j hj;rw[size_flatK,n]at hj;rw[get_flatK _ _ _ _ (by rw[n];exact hj)];have hjz:j / z<es.length:=(Nat.div_lt_iff_lt_mul hz).2 hj;have hjm:j%z<z:=Nat.mod_lt _ hz;have e1:(aW es.length)[j / z]! = j / z:=by simp[hjz]
  have e2:j / z*z+j%z=j:=by rw[dj];exact eW j z
  have hlt:j<cs.size:=by rw[<- e2];exact Y _ _ hjz hjm
  rw[e1];constructor
  ·simp only[fH,W,aG]
   simp only[enc,hjz,Al];simp[hjm,e2,hlt]
  simp[ga,W]
 have N:∀ (m:Nat) (D:Array Nat) (os:Array Obj) k,k<w.heap.size->k≠p.block->(sortWorldK enc z w p.block 0 m D os).heap[k]?=w.heap[k]?:=fun m D os k hk hne=>by rw[aL0];exact jf0 hk hne
 have I:∀ (m:Nat) (D:Array Nat) (os:Array Obj),w.heap.size<=(sortWorldK enc z w p.block 0 m D os).heap.size:=fun m D os=>by rw[aL0];simp
 have hC:CmpLays P g cv.toArray enc z (fun i j=>cf (E2 es i) (E2 es j)) p.block 0 (aW es.length).size w:=by
  intro m os D hdk x y;have C:Rel G (σ.del id) (sortWorldK enc z w p.block 0 m D os):=s.without ho hp hv (I m D os) rfl rfl rfl (N m D os);have hmono:∀ c v,c.pur=true->Rep G c v->Rep (G.frozen (σ.del id) (sortWorldK enc z w p.block 0 m D os) (fun _=>none)) c v:=fun c v hp' hr'=>Q1 (fun b o hb=>H6 C hb) hr' hp';have O:∀ i,Rep (G.frozen (σ.del id) (sortWorldK enc z w p.block 0 m D os) (fun _=>none)) (.agg (E2 es i)) (.agg (enc i).toArray):=fun i=>.agg _ _ (hrep i).1 (fun j hj K=>hmono _ _ (hpur _ (N1 hes i) _ (aq _)) ((hrep i).2 j hj K));have hA:B6 (G.frozen (σ.del id) (sortWorldK enc z w p.block 0 m D os) (fun _=>none)) ([.agg (E2 es x),.agg (E2 es y)]++caps) ([.agg (enc x).toArray,.agg (enc y).toArray]++cv) :=((B6.nil _).cons (O y) |>.cons (O x)).append (hcv _ C);have:=J1.grows hG hGn hGb (hcmp _ (N1 hes x) _ (N1 hes y)) hA C.frozen_none;have e1:([Value.agg (enc x).toArray,.agg (enc y).toArray]++cv).toArray=#[.agg (enc x).toArray,.agg (enc y).toArray]++cv.toArray:=by simp
  rw[e1]at this;exact this
 have eg:∀ args w,(callFunc g args).run P w=.ok (.enter g args) w:=fun args w=>by simp only[callFunc,al,run_program,ah,hG,hGn,hGb,au,Ah,ao]
 have main:=AnyQ.slices_SortFunc_eq L z aE zE enc hk Z (fun i j=>cf (E2 es i) (E2 es j)) (hO hes) g cv.toArray p.block 0 c (aW es.length) w eg hC hH H (by rw[n];exact hn);rw[n]at main;refine main.mono ?_;rintro e' w' ⟨rfl,m,os,rfl⟩;obtain⟨⟨hd1,_,_⟩,_⟩:=ou0 (hO hes);have Q:=ef0 (cf:=cf) hes;generalize pdq (α:=Nat) _ _ _ _ _ _ _=d at *;have hdz:d.size=es.length:=by simpa using hd1
 have hH2:HoldsK enc z (sortWorldK enc z w p.block 0 m d os) p.block 0 d:=holdsK_sortWorldK enc z w p.block 0 m _ d os H hH (by rw[hdz,n]);have R:(sortWorldK enc z w p.block 0 m d os).heap[p.block]?=some (.cells (putCells (fun x:Value=>x) 0 (flatK enc z d) cs) e (0,0)):=by rw[aL0];simp only;rw[cu (by simpa using H),du,Af rfl,W];rfl
 have hlen':(I6 cf es).length=es.length:=by rw[Q];simp[hdz]
 have hok:P1 G p (.row e z (I6 cf es)) (sortWorldK enc z w p.block 0 m d os).heap[p.block]?:=by
  refine⟨_,R,hpz,by simp[putCells,M],by rw[hlen'];exact hcap,fun i hi=>?_⟩;have hi2:i<d.size:=by omega
  have e1:(I6 cf es)[i]=E2 es d[i]:=by simp[Q]
  refine⟨by rw[e1];exact hlen _ (N1 hes _),fun j hj K=>?_⟩;rw[e1]at hj;have B:j<z:=by rw[hlen _ (N1 hes _)]at hj;exact hj
  have J:=(HoldsK.cell hH2 hi2 B).1;simp only[fH,R,aG]at J;have hval:(putCells (fun x:Value=>x) 0 (flatK enc z d) cs)[i*z+j]=(enc d[i]!)[j]! := by have:=J;rw[aS K]at this;simpa using this
  rw[hval];have hr2:=(hrep d[i]).2 j hj (by rw[hk];exact B);have e2:(enc d[i]!)[j]! = (enc d[i])[j]'(by rw[hk];exact B):=by simp[hi2,hk,B]
  rw[e2];have e3:(I6 cf es)[i][j]=(E2 es d[i])[j]:=by simp only[e1]
  rw[e3];exact hr2
 obtain⟨hrelN,hfrN⟩:=s.turned ho hp hv (o':=.row e z (I6 cf es)) (I m d os) rfl rfl rfl (aO _ _) (N m d os) hok;exact⟨_,.tup [],σ.set id (.row e z (I6 cf es)),G,rfl,⟨.refl G,.refl _ G,ar _,hfrN⟩,.tup [] [] rfl (fun i h=>by simp at h),hrelN,rfl,rfl⟩
end Go.Ab
namespace Go.Ab
variable [B5]
open Go Go.Sort Go.Proofs Go.Shelf
theorem uc0 {P:Program} {ρ:dI} (L:SlLaysF.n6 P ρ) {f:FuncId} (hf:ρ.f 6=f) {M:Func} (hS:P.funcs[f]?=some M) (hSn:(M.name== "runtime.NumGoroutine")=false) (hSb:M.body.isNone=false)
  {g:FuncId} {N:Func} (hG:P.funcs[g]?=some N) (Y:(N.name== "runtime.NumGoroutine")=false) (Z:N.body.isNone=false) {e:TypeId} {es:List (List AV)} {caps:List AV} {cf:List AV->List AV->Int}
  (hlen:∀ r∈es,r.length=1) (hone:∀ r∈es,∀ c∈r,c.one=true) (hpur:∀ r∈es,∀ c∈r,c.pur=true) (hn:es.length<4611686018427387904)
  (hcmp:∀ x∈es,∀ y∈es,J1 P ⟨g,(x++y)++caps,I64 (cf x y)⟩) (hO:es≠[]->SWO (ltOf (fun i j=>cf (E2 es i) (E2 es j))))
  {σ:c8} {id:Nat} (ho:σ.objs id=some (.row e 1 es)) {restv:List AV} (hr:∀ G vs w,B6 G restv vs->Rel G (σ.del id) w->B6 (G.frozen (σ.del id) w (fun _=>none)) [.fn (.func g) [] caps] vs) :
  F3 P f (.ms id 1 0 es.length::restv) σ (fun v σ'=>v=.tup []/\σ'=σ.set id (.row e 1 (I6 cf es))):=by
 subst hf;refine F3.of_calls hS hSn hSb ?_;intro G vs w t n;obtain⟨u1,vs1,rfl,O,t⟩:=t.cons_inv;obtain⟨cv,rfl,hcv⟩:=rd0 n t hr;by_cases hes:es=[]
 ·
  subst hes;have hσ:∀ i,(σ.set id (.row e 1 [])).objs i=σ.objs i:=fun i=>by
   rw[c8.objs_set];split
   ·rename_i ei;rw[ei,ho]
   rfl
  obtain⟨q,c,rfl⟩:∃ (q:Option Addr) (c:Nat),u1=.slice q 0 c:=by
   cases O with
   | ms _ _ _ _ p hp hv hz' a c ha hoff hl hsp=>exact⟨some a,c,rfl⟩
   | msNil _ _ p hp hv=>exact⟨none,0,rfl⟩
  refine(fV { L with } q c (.func (.func g) #[] cv.toArray) w).mono ?_;rintro e' w' ⟨rfl,rfl⟩;refine⟨_,.tup [],σ.set id (.row e 1 (I6 cf [])),G,rfl,⟨.refl G,.refl _ G,ar _,Fr.less (fun i o h=>by rw[<- hσ i];exact h)⟩,.tup [] [] rfl (fun i h=>by simp at h),n.less rfl (fun i o h=>by rw[<- hσ i];exact h),rfl,rfl⟩
 have C:0<es.length:=cx.2 hes;obtain⟨p,hp,hv,c,rfl,hc⟩:∃ p,G.pl id=some p/\p.virt=false/\∃ c,u1=.slice (some ⟨p.block,0,none⟩) es.length c/\es.length<=c:=by
  generalize hl0:es.length=n0 at O C;cases O with
  | ms _ _ _ _ p hp hv hz' a c ha hoff hl hsp=>refine⟨p,hp,hv,c,?_,hl⟩;rw[ha (by omega)];simp
  | msNil _ _ p hp hv=>omega
 obtain⟨him,hw0,cs,Q,hpz,hcsz,hcap,R⟩:=n.real ho hp hv;have H:p.block<w.heap.size:=n.obj_lt ho hp hv;have S:∀ i,i<es.length->i<cs.size:=fun i hi=>by omega
 let enc:Nat->Value:=fun i=>cs[if i<es.length then i else 0]!
 have hrep:∀ i,B6 G (E2 es i) [enc i]:=fun i=>by
  have key:∀ i,i<es.length->B6 G (E2 es i) [cs[i]!]:=fun i hi=>by
   have e1:E2 es i=es[i]:=by simp[E2,hi]
   rw[e1];obtain⟨r1,r2⟩:=R i hi;refine⟨by simp[r1],fun j hj E=>?_⟩;have U:j=0:=by simp at E;omega
   subst U;have:=r2 0 hj (by simpa using S i hi);simpa[S i hi]using this
  by_cases hi:i<es.length
  ·have:=key i hi
   simp only[enc,hi,Al];exact this
  have:=key 0 C;have e2:E2 es i=E2 es 0:=by
   unfold E2;rw[bz (by omega)];cases es with
   | nil=>simp at C
   | cons a l=>simp
  simp only[enc,hi,Ah];rw[e2];exact this
 have V:OneCell enc:=fun i=>by have hr1:=(hrep i).1;have:=(hrep i).2 0 (by simp at hr1;omega) (by simp);exact Rep.one (hone _ (N1 hes i) _ (aq _)) this
 have s:(aW es.length).size=es.length:=by simp
 have hH:Holds enc w p.block 0 (aW es.length):=by
  intro j hj;rw[s]at hj;have e1:(aW es.length)[j]! = j:=by simp[hj]
  have hlt:j<cs.size:=S j hj;rw[e1];constructor
  ·simp only[fH,Q,aG]
   simp only[enc,hj,Al];simp[hlt]
  simp[ga,Q]
 have u:∀ (m:Nat) (B:Array Nat) (os:Array Obj),sortWorld enc w p.block 0 m B os={ w with drawn:=w.drawn+m,heap:=w.heap.modify p.block (onCells (putCells enc 0 B))++os }:=fun _ _ _=>rfl;have I:∀ (m:Nat) (B:Array Nat) (os:Array Obj) k,k<w.heap.size->k≠p.block->(sortWorld enc w p.block 0 m B os).heap[k]?=w.heap[k]?:=fun m B os k hk hne=>by rw[u];exact jf0 hk hne
 have D:∀ (m:Nat) (B:Array Nat) (os:Array Obj),w.heap.size<=(sortWorld enc w p.block 0 m B os).heap.size:=fun m B os=>by rw[u];simp
 have hC:CmpLays1 P g cv.toArray enc (fun i j=>cf (E2 es i) (E2 es j)) p.block 0 (aW es.length).size w:=by
  intro m os B hdk x y;have z:Rel G (σ.del id) (sortWorld enc w p.block 0 m B os):=n.without ho hp hv (D m B os) rfl rfl rfl (I m B os);have J:∀ i,B6 (G.frozen (σ.del id) (sortWorld enc w p.block 0 m B os) (fun _=>none)) (E2 es i) [enc i]:=fun i=>⟨(hrep i).1,fun j hj E=>Q1 (fun b o hb=>H6 z hb) ((hrep i).2 j hj E) (hpur _ (N1 hes i) _ (aq _))⟩;have hA:=((J x).append (J y)).append (hcv _ z);have:=J1.grows hG Y Z (hcmp _ (N1 hes x) _ (N1 hes y)) hA z.frozen_none;have e1:([enc x]++[enc y]++cv).toArray=#[enc x,enc y]++cv.toArray:=by simp
  rw[e1]at this;exact this
 have eg:∀ args w,(callFunc g args).run P w=.ok (.enter g args) w:=fun args w=>by simp only[callFunc,al,run_program,ah,hG,Y,Z,au,Ah,ao]
 have main:=Any.slices_SortFunc_eq L enc V (fun i j=>cf (E2 es i) (E2 es j)) (hO hes) g cv.toArray p.block 0 c (aW es.length) w eg hC hH H (by rw[s];exact hn);rw[s]at main;refine main.mono ?_;rintro e' w' ⟨rfl,m,os,rfl⟩;obtain⟨⟨hd1,_,_⟩,_⟩:=ou0 (hO hes);have K:=ef0 (cf:=cf) hes;generalize pdq (α:=Nat) _ _ _ _ _ _ _=d at *;have hdz:d.size=es.length:=by simpa using hd1
 have hobj:(sortWorld enc w p.block 0 m d os).heap[p.block]?=some (.cells (putCells enc 0 d cs) e (0,0)):=by rw[u];simp only;rw[cu (by simpa using H),du,Af rfl,Q];rfl
 have W:(I6 cf es).length=es.length:=by rw[K];simp[hdz]
 have hok:P1 G p (.row e 1 (I6 cf es)) (sortWorld enc w p.block 0 m d os).heap[p.block]?:=by
  refine⟨_,hobj,hpz,by simp[putCells,hcsz],by rw[W];exact hcap,fun i hi=>?_⟩;have hi2:i<d.size:=by omega
  have e1:(I6 cf es)[i]=E2 es d[i]:=by simp[K]
  refine⟨by rw[e1];exact hlen _ (N1 hes _),fun j hj E=>?_⟩;rw[e1]at hj;have U:j=0:=by rw[hlen _ (N1 hes _)]at hj;omega
  subst U;have hval:(putCells enc 0 d cs)[i*1+0]=enc d[i]:=by simp[putCells,hi2]
  rw[hval];have e3:(I6 cf es)[i][0]=(E2 es d[i])[0]:=by simp only[e1]
  rw[e3];exact(hrep d[i]).2 0 hj (by simp)
 obtain⟨X,hfrN⟩:=n.turned ho hp hv (o':=.row e 1 (I6 cf es)) (D m d os) rfl rfl rfl (aO _ _) (I m d os) hok;exact⟨_,.tup [],σ.set id (.row e 1 (I6 cf es)),G,rfl,⟨.refl G,.refl _ G,ar _,hfrN⟩,.tup [] [] rfl (fun i h=>by simp at h),X,rfl,rfl⟩
end Go.Ab
namespace Go.Ab
variable [B5]
open Go Go.Sort Go.Proofs Go.Shelf
def cD0(v:Int):List AV:=[.sc (.int .i64 v)]
theorem up0 {P:Program} {ρ:dI} (L:SlLaysM.n5 P ρ) {f:FuncId} (hf:ρ.f 5=f) {u:Func} (hS:P.funcs[f]?=some u) (R:(u.name== "runtime.NumGoroutine")=false) (S:u.body.isNone=false)
  {e:TypeId} {g:List Int} (hn:g.length<4611686018427387904) {σ:c8} {id:Nat} (U:σ.objs id=some (.row e 1 (g.map cD0))) :
  F3 P f [.ms id 1 0 (g.map cD0).length] σ (fun v σ'=>v=.tup []/\σ'=σ.set id (.row e 1 ((g.mergeSort fun a b=>decide (a<=b)).map cD0))):=by
 subst hf;refine F3.of_calls hS R S ?_;intro G vs w l n;obtain⟨u1,vs1,rfl,s,l⟩:=l.cons_inv;obtain rfl:=l.nil_inv;by_cases hes:g=[]
 ·
  subst hes;have H:∀ i,(σ.set id (.row e 1 [])).objs i=σ.objs i:=fun i=>by grind [c8.objs_set]
  obtain⟨q,c,rfl⟩:∃ (q:Option Addr) (c:Nat),u1=.slice q 0 c:=by
   cases s with
   | ms _ _ _ _ p hp hv V a c ha hoff hl hsp=>exact⟨some a,c,rfl⟩
   | msNil _ _ p hp hv=>exact⟨none,0,rfl⟩
  refine(AnyM.slices_Sort_int_none L q c w).mono ?_;rintro e' w' ⟨rfl,rfl⟩;refine⟨_,.tup [],σ.set id (.row e 1 []),G,rfl,⟨.refl G,.refl _ G,ar _,Fr.less (fun i o h=>by rw[<- H i];exact h)⟩,.tup [] [] rfl (fun i h=>by simp at h),n.less rfl (fun i o h=>by rw[<- H i];exact h),rfl,by simp⟩
 have I:0<g.length:=cx.2 hes;obtain⟨p,hp,hv,c,rfl,hc⟩:∃ p,G.pl id=some p/\p.virt=false/\∃ c,u1=.slice (some ⟨p.block,0,none⟩) g.length c/\g.length<=c:=by
  rw[aB]at s;generalize hl0:g.length=n0 at s I;cases s with
  | ms _ _ _ _ p hp hv V a c ha hoff hl hsp=>grind
  | msNil _ _ p hp hv=>omega
 obtain⟨him,hw0,cs,W,X,J,K,z⟩:=n.real U hp hv;have t:p.block<w.heap.size:=n.obj_lt U hp hv;rw[aB]at K;have B:∀ i,i<g.length->i<cs.size:=fun i hi=>by omega
 have Y:∀ i (hi:i<g.length),cs[i]'(B i hi)=.int .i64 g[i]:=fun i hi=>by obtain⟨r1,r2⟩:=z i (by simpa using hi);have:=r2 0 (by simp[cD0]) (by simpa using B i hi);simp[cD0]at this;generalize cs[i]'(B i hi)=q at this;cases this;rfl
 have hH:Holds (bn .i64) w p.block 0 g.toArray:=by
  intro j hj
  grind [fH,aS,ga]
 refine(calls_of_every_depth fun D=>AnySM.slices_Sort_int_in L D p.block 0 c g w hH t hn).mono ?_;rintro e' w' ⟨rfl,m,os,rfl⟩;generalize hd0:(g.mergeSort fun x y=>decide (x<=y))=d;have hdz:d.length=g.length:=by grind [List.length_mergeSort]
 have r:grow (putRow (bn .i64) (fg w m) p.block 0 d.toArray) os={ w with drawn:=w.drawn+m,heap:=w.heap.modify p.block (onCells (putCells (bn .i64) 0 d.toArray))++os }:=rfl;have M:∀ k,k<w.heap.size->k≠p.block->(grow (putRow (bn .i64) (fg w m) p.block 0 d.toArray) os).heap[k]?=w.heap[k]?:=fun k hk hne=>by grind
 have C:w.heap.size<=(grow (putRow (bn .i64) (fg w m) p.block 0 d.toArray) os).heap.size:=by rw[r];simp
 have N:(grow (putRow (bn .i64) (fg w m) p.block 0 d.toArray) os).heap[p.block]?=some (.cells (putCells (bn .i64) 0 d.toArray cs) e (0,0)):=by rw[r];simp only;rw[cu (by simpa using t),du,Af rfl,W];rfl
 have Z:P1 G p (.row e 1 (d.map cD0)) (grow (putRow (bn .i64) (fg w m) p.block 0 d.toArray) os).heap[p.block]?:=by
  refine⟨_,N,X,by simp[putCells,J],by grind,fun i hi=>?_⟩;have hi2:i<d.length:=by simpa using hi
  refine⟨by simp[cD0],fun j hj hj'=>?_⟩;have hj0:j=0:=by simp[cD0]at hj;omega
  subst hj0;have O:(putCells (bn .i64) 0 d.toArray cs)[i*1+0]=.int .i64 d[i]:=by simp[putCells,hi2]
  rw[O];simp only[cd,cD0,List.getElem_cons_zero];exact .sc _
 obtain⟨E,Q⟩:=n.turned U hp hv (o':=.row e 1 (d.map cD0)) C rfl rfl rfl (aO _ _) M Z;exact⟨_,.tup [],σ.set id (.row e 1 (d.map cD0)),G,rfl,⟨.refl G,.refl _ G,ar _,Q⟩,.tup [] [] rfl (fun i h=>by simp at h),E,rfl,rfl⟩
end Go.Ab
namespace Go.Ab
open Go
variable [B5]
theorem ea0 {P:Program} {T:Tab} (hT:B7 P T) {f:FuncId} {fn:Func} {t elem:TypeId} {z b:Nat} {l:SpL} (hf:P.funcs[f]?=some fn) (g:(fn.name== "runtime.NumGoroutine")=false) (q:iW0 fn t=true) (E:fn.resultTypes.toList=[t])
  (h1:(T t).map TI.und=some (.slice elem)) (h2:(T elem).map TI.size=some z) (G:(T elem).map TI.bytes=some b) (hz:0<z) (hl:∀ v:l.T,(y3 l v).length=z/\∀ d∈y3 l v,AV.one d=true) {x r:List l.T}
  (R:(2*x.length+1000)*b<=2^48) (I:x.length<=2^62) (J:r=x):fu0 P f (y3 (.one (.sl l)) x) (enc (.sl l) r):=by
 subst J;refine⟨r.map (y3 l),rfl,fun K s n e ti m h u w H hu o σ=>?_⟩;have e0:s=fn:=bd (u.symm.trans hf);subst e0;have e1:n=t:=by grind
 subst e1;cases B:T n with
 | none=>rw[B]at h1;cases h1
 | some p=>
 rw[B]at h1;have L:p.und=.slice elem:=bd h1;have e2:e=elem:=by
  have a:=h.und n ti H;have c:=hT.und n p B
  grind
 subst e2;cases C:T e with
 | none=>rw[C]at h2;cases h2
 | some k=>
 rw[C]at h2 G;have s2:k.size=z:=bd h2;have M:k.bytes=b:=bd G;obtain⟨i,i1,i2,i3,_⟩:=h.info e m o;obtain⟨j,N,O,Q,_⟩:=hT.info e k C;have e3:i=j:=bd (i1.symm.trans N);subst e3;have z1:m.size=z:=by rw[<- i2,O,s2]
 have z2:m.bytes=b:=by rw[<- i3,Q,M]
 have ha:oG0 K n [.rs (r.map (y3 l))] σ=some (.ms (σ.next+5) m.size 0 (r.map (y3 l)).length,({ σ with next:=σ.next+7 }:c8).set (σ.next+5) (.row e m.size (r.map (y3 l)))):=by
  obtain⟨und,size,zero,bytes,flat⟩:=ti;have D:und=.slice e:=hu;subst D;have hc:((r.map (y3 l)).all fun c=>c.length==m.size&&c.all AV.one)=true:=ak.2 fun c hc=>by grind
  simp only[oG0,H,o,N9];rw[Af ⟨hc,by grind,by rw[aB];exact I,by rw[z1];exact hz⟩];have S:(AV.rs (r.map (y3 l))).isNil≠some true:=by cases r<;>simp[AV.isNil]
  grind
 exact(so0 h hf g (qn0 q) ha).1
end Go.Ab
namespace Go.Ab
open Go Go.Sort Go.Proofs Go.Shelf
abbrev sI:Sp:=.int .i64
def slices_Clone_int:List Int->Option (List Int):=fun x=>G5 8 [] x
def slices_Clone_api_Point:List (Int×Int)->Option (List (Int×Int)):=fun x=>G5 16 [] x
def slices_Clone_api_Node:List (Int×Int×Int)->Option (List (Int×Int×Int)):=fun x=>G5 24 [] x
def um0(a:Int):List Int->List Int
 | []=>[a]
 | b::l=>bif decide (a<=b)then a::b::l else b::um0 a l
def js0:List Int->List Int
 | []=>[]
 | a::l=>um0 a (js0 l)
theorem eX0(a:Int):∀ l,(um0 a l).Perm (a::l)
 | []=>.refl _
 | b::l=>by
  unfold um0;cases decide (a<=b)with
  | true=>exact .refl _
  | false=>exact((eX0 a l).cons b).trans (.swap a b l)
theorem ij0(a:Int):∀ l:List Int,l.Pairwise (·<=·)->(um0 a l).Pairwise (·<=·)
 | [],_=>by simp[um0]
 | b::l,h=>by
  unfold um0;cases hc:decide (a<=b)with
  | true=>rw[Ad]at hc;exact .cons (fun x c=>by rcases aC.1 c with rfl | c;exact hc;exact Int.le_trans hc (fW h c)) h
  | false=>
   rw[An]at hc;refine .cons (fun x c=>?_) (ij0 a l h.of_cons);rcases aC.1 ((eX0 a l).mem_iff.1 c)with rfl | c
   ·omega
   exact fW h c
theorem jD0(l:List Int):js0 l=l.mergeSort fun a b=>decide (a<=b):=by
 have hp:(js0 l).Perm l:=by
  induction l with
  | nil=>exact .refl _
  | cons a l d=>exact(eX0 a _).trans (d.cons a)
 have hs:(js0 l).Pairwise (·<=·):=by
  clear hp
  induction l with
  | nil=>exact .nil
  | cons a l d=>exact ij0 a _ d
 refine List.Perm.eq_of_pairwise (le:=(·<=·)) (fun a b _ _ h1 h2=>Int.le_antisymm h1 h2) hs ?_ (hp.trans (List.mergeSort_perm _ _).symm);exact(List.pairwise_mergeSort (le:=fun a b:Int=>decide (a<=b)) (fun a b c h1 h2=>by simp at *;omega) (fun a b=>by simp;omega) l).imp fun h=>by simpa using h
def slices_Sort_int:List Int×Int->Option (List Int):=fun x=>bif decide (x.2=1)&&decide (x.1.length<4611686018427387904)then some (js0 x.1)else none
def uD0:ByteArray:=cG #[0,1,2,2,3,3,3,3,4,4,4,4,4,4,4,4,5,5,5,5,5,5,5,5,5,5,5,5,5,5,5,5,6,6,6,6,6,6,6,6,6,6,6,6,6,6,6,6,6,6,6,6,6,6,6,6,6,6,6,6,6,6,6,6,7,7,7,7,7,7,7,7,7,7,7,7,7,7,7,7,7,7,7,7,7,7,7,7,7,7,7,7,7,7,7,7,7,7,7,7,7,7,7,7,7,7,7,7,7,7,7,7,7,7,7,7,7,7,7,7,7,7,7,7,7,7,7,7,8,8,8,8,8,8,8,8,8,8,8,8,8,8,8,8,8,8,8,8,8,8,8,8,8,8,8,8,8,8,8,8,8,8,8,8,8,8,8,8,8,8,8,8,8,8,8,8,8,8,8,8,8,8,8,8,8,8,8,8,8,8,8,8,8,8,8,8,8,8,8,8,8,8,8,8,8,8,8,8,8,8,8,8,8,8,8,8,8,8,8,8,8,8,8,8,8,8,8,8,8,8,8,8,8,8,8,8,8,8,8,8,8,8,8,8,8,8,8,8,8,8,8,8,8,8,8,8]
def atT{α:Type}(r:α)(es:List α)(i:Nat):α:=(es[i]?).getD r
def Z9{α:Type}(cf:α->α->Int):List α->List α
 | []=>[]
 | r::l=>((pdq (ltOf (fun i j=>cf (atT r (r::l) i) (atT r (r::l) j))) (aW (r::l).length) 0 (r::l).length (dH (r::l).length) true true).toList).map (atT r (r::l))
def Ordered{α:Type}(cf:α->α->Int):List α->Prop
 | []=>True
 | r::l=>SWO (ltOf (fun i j=>cf (atT r (r::l) i) (atT r (r::l) j)))
theorem gR0{α:Type}{r:α}{l:List α}(i:Nat):atT r (r::l) i∈r::l:=by
 unfold atT;cases h:(r::l)[i]? with
 | none=>simp
 | some x=>exact aD h
def yi0{α:Type}(cf:α->α->Int)(xs:List α):Bool :=xs.all fun x=>!decide (cf x x<0)&&xs.all fun y=>xs.all fun z=>(!(decide (cf x y<0)&&decide (cf y z<0))||decide (cf x z<0))&&(!(!decide (cf x y<0)&&!decide (cf y z<0))||!decide (cf x z<0))
theorem oF0{α:Type}{cf:α->α->Int}:∀ {xs:List α},yi0 cf xs=true↔Ordered cf xs
 | []=>by simp[yi0,Ordered]
 | r::l=>by
  have d:∀ x∈r::l,∃ i,atT r (r::l) i=x:=fun x e=>by obtain⟨i,hi,rfl⟩:=aJ e;exact⟨i,by rw[atT,ae hi];rfl⟩
  constructor
  ·intro h
   simp only[yi0,ak,ab]at h;refine⟨fun i=>?_,fun i j k a b=>?_,fun i j k a b=>?_⟩
   ·have:=(h _ (gR0 i)).1
    simpa[ltOf]using this
   ·have:=((h _ (gR0 i)).2 _ (gR0 j) _ (gR0 k)).1
    simp only[ltOf]at a b ⊢;rw[a,b]at this;simpa using this
   have:=((h _ (gR0 i)).2 _ (gR0 j) _ (gR0 k)).2;simp only[ltOf]at a b ⊢;rw[a,b]at this;simpa using this
  intro h;simp only[yi0,ak,ab];intro x e;obtain⟨i,rfl⟩:=d x e;obtain⟨s1,s2,g⟩:=h;refine⟨by have:=s1 i;simpa[ltOf]using this,fun y m z hz=>?_⟩;obtain⟨j,rfl⟩:=d y m;obtain⟨k,rfl⟩:=d z hz;have h2:=s2 i j k;have f:=g i j k;simp only[ltOf]at h2 f;generalize decide (cf (atT r (r::l) i) (atT r (r::l) j)<0)=a at *;generalize decide (cf (atT r (r::l) j) (atT r (r::l) k)<0)=b at *;generalize decide (cf (atT r (r::l) i) (atT r (r::l) k)<0)=c at *;revert h2 f;cases a<;>cases b<;>cases c<;>simp
def aw0{α:Type}(cmp:α->α->Option Int)(xs:List α):Option (List α) :=bif (xs.all fun x=>xs.all fun y=>(cmp x y).isSome)&&(yi0 (fun x y=>(cmp x y).getD 0) xs&&decide (xs.length<4611686018427387904))then some (Z9 (fun x y=>(cmp x y).getD 0) xs)else none
theorem pm0{α:Type}{cmp:α->α->Option Int}{xs r:List α}(h:aw0 cmp xs=some r):((∀ x∈xs,∀ y∈xs,(cmp x y).isSome=true)/\Ordered (fun x y=>(cmp x y).getD 0) xs/\xs.length<4611686018427387904)/\r=Z9 (fun x y=>(cmp x y).getD 0) xs:=by
 unfold aw0 at h;cases hc:(xs.all fun x=>xs.all fun y=>(cmp x y).isSome)&&(yi0 (fun x y=>(cmp x y).getD 0) xs&&decide (xs.length<4611686018427387904))with
 | false=>rw[hc]at h;cases h
 | true=>rw[hc]at h;simp only[ab,ak,Ad,oF0]at hc;cases h;exact⟨hc,rfl⟩
theorem tx0{α:Type}{cmp:α->α->Option Int}{xs:List α}(h1:∀ x∈xs,∀ y∈xs,(cmp x y).isSome=true)(h2:Ordered (fun x y=>(cmp x y).getD 0) xs)(a:xs.length<4611686018427387904):aw0 cmp xs=some (Z9 (fun x y=>(cmp x y).getD 0) xs):=by
 unfold aw0;have hc:((xs.all fun x=>xs.all fun y=>(cmp x y).isSome)&&(yi0 (fun x y=>(cmp x y).getD 0) xs&&decide (xs.length<4611686018427387904)))=true:=by simp only[ab,ak,Ad,oF0];exact⟨h1,h2,a⟩
 rw[hc];rfl
noncomputable def strings_Contains:ByteArray×ByteArray->Option (Bool):=fun x=>bif decide (x.1.size<4294967281)then some (Lib.contains x.1.data.toList x.2.data.toList)else none
def gl_0:Option (Int×Int×Int×Int×Int×Int×Int×Int×Int×Int×Int×Int×Int×Int×Int×Int×Int×Int×Int×Int×Int×Int×Int×Int×Int×Int×Int×Int×Int×Int×Int×Int×Int×Int×Int×Int×Int×Int×Int):=some (32,32,0,39,41,0,45,46,0,48,57,0,65,90,1,97,122,1,192,214,1,216,246,1,248,591,1,880,1023,2,1024,1279,3,1488,1514,4,19968,40959,5)
end Go.Ab
