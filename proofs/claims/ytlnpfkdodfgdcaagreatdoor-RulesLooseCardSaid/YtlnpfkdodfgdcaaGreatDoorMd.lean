/- A part of the proof; its readable source lies in wip of the prover's repo (squeezed here for the limit of bytes). -/
import Derived.Test.YtlnpfkdodfgdcaaGreatDoorMc
import Derived.HandedShaped
import Derived.OpenShut
import Derived.MakeChecks
import Derived.Shelf.Vars
import Derived.Shelf.SlSortCmp.NoneTotal
import Derived.Sort.EveryDepth
import Derived.Shelf.SortM.AssemblyIn
import Derived.Shelf.SortM.SortNone
import Derived.Lib.IndexMore
import Derived.Shelf.Strings.Search3
set_option linter.unusedVariables false
set_option linter.unusedSimpArgs false
set_option linter.unusedSectionVars false
open Array renaming getElem?_append_left->cP,getElem?_eq_getElem->aH,getElem?_modify->ee,range->bd
open BitVec renaming ofInt->bu
open Bool renaming and_eq_true->ab,false_eq_true->aq,not_eq_true'->cO,or_eq_true->br
open ByteArray renaming mk->cD
open Go renaming sizeOf->ku
open Go.Act renaming put->kg
open Go.ChangeSpec renaming post_blind->lg
open Go.DataW.Whole renaming of_heap->kY
open Go.DataW.agg renaming injEq->iX
open Go.Frame renaming enter->kI
open Go.IntKind renaming i32->kl,i64->aa,u64->an,u8->dV
open Go.Lib renaming bitLen->dM
open Go.MakeChecks renaming laidMetH_plain->lh
open Go.OpenSpec renaming ofChange->iL
open Go.Proofs.AnyF renaming slices_SortFunc_none->ij
open Go.Proofs.SlLaysF renaming n6->kx
open Go.Proofs.SlLaysF0 renaming n6->jW
open Go.Proofs.SlLaysM renaming n5->ky
open Go.Result renaming andThen_ok->ae
open Go.Sem renaming run_bind->ao,run_pure->au
open Go.Shelf renaming Ren->dS
open Go.Sort renaming ahead->gB
open Go.Value renaming int->bk,okWide->fS
open Go.Value.bool renaming injEq->iz
open Go.Value.func renaming injEq->lj
open Go.Value.int renaming injEq->fu
open Go.Value.string renaming injEq->kQ
open Go.World renaming cell?->gU,frozen?->iq
open List renaming all_eq_true->aj,append_nil->bw,drop_drop->ig,drop_eq_getElem_cons->bM,drop_eq_nil_of_le->dU,drop_length->gK,drop_zero->gz,ext_getElem?->h_,find?_isSome->jx,foldl->bp,getD_eq_getElem?_getD->cQ,getElem?_eq_getElem->ai,getElem?_eq_none->bD,getElem?_eq_some_iff->ar,getElem?_map->aS,getElem?_set->cd,getElem_map->cn,getElem_mem->aw,head?->jb,length->gn,length_append->aK,length_cons->ay,length_map->aD,length_mergeSort->iM,length_nil->bx,length_pos_iff->cR,map_cons->az,mem_cons->aC,mem_map->aM,mem_of_getElem?->aN,mem_singleton->bJ,nil_append->aT,range->aJ,take_append_drop->fM
open List.Pairwise renaming nil->gh
open List.cons renaming injEq->cG
open Nat renaming add_mul->bI,beq->aB,beq_refl->d_,ble->di,blt->cm,blt_eq->aZ,div_add_mod->gq,eq_of_beq_eq_true->af,le_add_right->bc,le_of_ble_eq_true->aU,le_of_not_lt->jV,le_refl->ax,le_trans->bC,lt_of_lt_of_le->dK,mul_add->kX,mul_assoc->kH,mul_comm->dY,not_lt->jJ,one_mul->jk,zero_add->aG,zero_le->cN
open Option renaming getD_some->bS,map_none->cC,map_some->ak
open Option.some renaming inj->aW,injEq->ah
open Prod renaming ext->fD
open Prod.mk renaming injEq->cy
namespace Go.Ab
open Go
variable [B6]
def orElse'{α:Type}:Option α->Option α->Option α
 | some a,_=>some a
 | none,b=>b
def tOp(T:Tab)(e:List TF)(Γ:List Sp):RO->Option (TO Γ)
 | .bin o t x y=>tBin T Γ o t x y
 | .un o x=>tUn Γ o x
 | .conv s d x=>wA0 T Γ s d x
 | .pick c a b=>wH0 Γ c a b
 | .idx t x i=>tIdx T Γ t x i
 | .index t x i=>orElse' (iR0 T Γ t x i) (gI0 T Γ t x i)
 | .slc t x lo hi=>tSlc T Γ t x lo hi
 | .len t x=>tLen T Γ t x
 | .mx l=>tMx Γ l
 | .mn l=>tMn Γ l
 | .cat sT xT x y=>tCat T Γ sT xT x y
 | .call f args h=>ql0 Γ f args h e
 | .rows l=>vw0 Γ l
 | .look t c ix ok=>wR0 T Γ t c ix ok
 | .lookr t c ix ok=>ro0 T Γ t c ix ok
 | .mput t c ix v=>wN0 T Γ t c ix v
 | .mlen t c=>uV0 T Γ t c
 | .nop=>some ⟨.tt,fun _=>some ()⟩
 | .inb t c i=>tInb T Γ t c i
 | .xld t _ _ c i off=>tXld T Γ t c i off
 | .xst t _ _ c i off v=>tXst T Γ t c i off v
 | .isp x=>tIsp Γ x
 | .opn n x=>tOpn Γ n x
 | .zer t x=>tZer T Γ t x
 | .gl t g=>tGl T Γ t g
 | .iss x=>tIss Γ x
 | .more x p=>wo0 Γ x p
 | .sdec x p=>wS0 Γ x p
 | .ownr cols x=>vm0 T Γ cols x
 | .xin c i off=>tXin Γ c i off
theorem tOp_ok{T:Tab}{Φ:H7}{j:List TF}(k:∀ t∈j,t.Ok Φ){Γ:List Sp}{o:RO}{r:TO Γ}(h:tOp T j Γ o=some r):r.Ok T Φ o:=by
 cases o with
 | bin o t x y=>exact wD0 h
 | un o x=>exact tUn_ok h
 | conv s d x=>exact sz0 h
 | pick c a b=>exact tw0 h
 | idx t x i=>exact vX0 h
 | index t x i=>
  cases h1:iR0 T Γ t x i with
  | some a=>rw[show tOp T j Γ (.index t x i)=orElse' (iR0 T Γ t x i) (gI0 T Γ t x i)from rfl,h1]at h;cases h;exact rz0 h1
  | none=>rw[show tOp T j Γ (.index t x i)=orElse' (iR0 T Γ t x i) (gI0 T Γ t x i)from rfl,h1]at h;exact pm0 h
 | slc t x lo hi=>exact wm0 h
 | len t x=>exact wM0 h
 | mx l=>exact tMx_ok h
 | mn l=>exact tMn_ok h
 | cat sT xT x y=>exact wn0 h
 | call f args m=>exact nY0 j k h
 | rows l=>exact ts0 h
 | look t c ix ok=>exact sM0 h
 | lookr t c ix ok=>exact rx0 h
 | mput t c ix v=>exact tz0 h
 | mlen t c=>exact tF0 h
 | nop=>cases h;exact fun e v _=>rfl
 | inb t c i=>exact wJ0 h
 | xld t _ _ c i off=>exact vk0 h
 | xst t _ _ c i off v=>exact vG0 h
 | isp x=>exact vW0 h
 | opn n x=>exact wB0 h
 | zer t x=>exact vz0 h
 | gl t g=>exact tGl_ok h
 | iss x=>exact wu0 h
 | more x p=>exact tL0 h
 | sdec x p=>exact sQ0 h
 | ownr cols x=>exact ti0 h
 | xin c i off=>exact vR0 h
def b8{α β:Type}:Option α->(α->Option β)->Option β
 | some a,f=>f a
 | none,_=>none
omit [B6] in
theorem sL0{α β:Type}{x:Option α}{f:α->Option β}{v:β}(h:b8 x f=some v):∃ a,x=some a/\f a=some v:=by
 cases x with
 | none=>cases h
 | some a=>exact⟨a,rfl,h⟩
def iter{α β:Type}(F:(α->Option β)->α->Option β):Nat->α->Option β
 | 0,_=>none
 | n+1,x=>F (iter F n) x
noncomputable def many:Nat:=Classical.choose (⟨2^100,ax _⟩:∃ n:Nat,2^100<=n)
noncomputable def rounds{α β:Type}(F:(α->Option β)->α->Option β)(x:α):Option β:=iter F many x
abbrev LCtx:=List (Nat×SpL)
@[reducible] def Kont (R:Type):LCtx->Type
 | []=>Unit
 | (_,s)::C=>(s.T->Option R)×Kont R C
def lJ0(R:Type):(C:LCtx)->Nat->Option ((s:SpL)×(Kont R C->s.T->Option R))
 | [],_=>none
 | (l,s)::C,a=>match aB l a with
  | true=>some ⟨s,fun κ=>κ.1⟩
  | false=>match lJ0 R C a with
   | some ⟨s',g⟩=>some ⟨s',fun κ=>g κ.2⟩
   | none=>none
def cz0:(l:SpL)->(Γ:List Sp)->(Γ':List Sp)×(l.T->Env Γ->Env Γ')
 | .nil,Γ=>⟨Γ,fun _ e=>e⟩
 | .one s,Γ=>⟨s::Γ,fun x e=>(x,e)⟩
 | .cons s l,Γ=>match cz0 l (s::Γ)with
  | ⟨Γ',p⟩=>⟨Γ',fun x e=>p x.2 (x.1,e)⟩
theorem nW0:∀ (l:SpL) (Γ:List Sp) (x:l.T) (e:Env Γ),fY0 (cz0 l Γ).1 ((cz0 l Γ).2 x e)=(y9 l x).reverse++fY0 Γ e
 | .nil,_,_,_=>rfl
 | .one _,_,_,_=>rfl
 | .cons s l,Γ,x,e=>by have:=nW0 l (s::Γ) x.2 (x.1,e);simp only[cz0,this,y9,List.reverse_cons,List.append_assoc,fY0,List.singleton_append]
noncomputable def den(T:Tab)(d:List TF)(H:Nat->Option SpL)(cod:Sp):RT->(Γ:List Sp)->(C:LCtx)->Env Γ->Kont cod.T C->Option cod.T
 | .stuck,_,_=>fun _ _=>none
 | .ret c l,Γ,C=>match l.all (isSl Γ)with
  | true=>match L3 Γ c cod with
   | some f=>fun e _=>some (f e)
   | none=>fun _ _=>none
  | false=>fun _ _=>none
 | .op o fr pat r,Γ,C=>match aB fr Γ.length with
  | true=>match tOp T d Γ o with
   | some ⟨s,g⟩=>match bD0 pat s Γ with
    | some ⟨Γ',p⟩=>fun e κ=>b8 (g e) fun v=>den T d H cod r Γ' C (p v e) κ
    | none=>fun _ _=>none
   | none=>fun _ _=>none
  | false=>fun _ _=>none
 | .test i a b,Γ,C=>match vF0 Γ i .bool with
  | some f=>fun e κ=>bif f e then den T d H cod a Γ C e κ else den T d H cod b Γ C e κ
  | none=>fun _ _=>none
 | .loop l k inits body,Γ,C=>match H l with
  | some ls=>match aB l Γ.length&&(aB ls.len k&&body.bnd (l+k+1))with
   | true=>match bu0 Γ inits ls with
    | some h=>fun e κ=>rounds (fun rec x=>den T d H cod body (.bool::(cz0 ls Γ).1) ((l,ls)::C) (false,(cz0 ls Γ).2 x e) (rec,κ)) (h e)
    | none=>fun _ _=>none
   | false=>fun _ _=>none
  | none=>fun _ _=>none
 | .again l vals,Γ,C=>match lJ0 cod.T C l with
  | some ⟨s,g⟩=>match bu0 Γ vals s with
   | some f=>fun e κ=>g κ (f e)
   | none=>fun _ _=>none
  | none=>fun _ _=>none
theorem sV0{Γ:List Sp}{l:List Nat}(h:l.all (isSl Γ)=true)(e:Env Γ):∀ j∈l,∃ es,thE Γ e j=.rs es:=fun j hj=>qf0 (aj.1 h j hj) e
theorem iX0{T:Tab}{Φ:H7}{G:List TF}(u:∀ t∈G,t.Ok Φ){H:Nat->Option SpL}{cod:Sp}{v:cod.T}:∀ (r:RT) (Γ:List Sp) (C:LCtx) (e:Env Γ) (κ:Kont cod.T C) (A:Nat->List AV->Prop),
  (∀ l s g,lJ0 cod.T C l=some ⟨s,g⟩->∀ x,g κ x=some v->A l (y9 s x))->den T G H cod r Γ C e κ=some v->X4 T Φ (fun c=>c=enc cod v) r Γ.length (fY0 Γ e) A
 | .stuck,Γ,C,e,κ,A,d,h=>by simp[den]at h
 | .ret c l,Γ,C,e,κ,A,d,h=>by
  simp only[den]at h;cases hl:l.all (isSl Γ)with
  | false=>simp only[hl]at h;cases h
  | true=>
   simp only[hl]at h;cases hf:L3 Γ c cod with
   | none=>simp only[hf]at h;cases h
   | some f=>simp only[hf]at h;cases h;exact X4.retL (fun j hj=>sV0 hl e j hj) (n4 _ _ _ hf e)
 | .op o fr pat r,Γ,C,e,κ,A,d,h=>by
  simp only[den]at h;cases I:aB fr Γ.length with
  | false=>simp only[I]at h;cases h
  | true=>
   simp only[I]at h;have I:=af I;subst I;cases O:tOp T G Γ o with
   | none=>simp only[O]at h;cases h
   | some sg=>
    obtain⟨s,g⟩:=sg;simp only[O]at h;cases hp:bD0 pat s Γ with
    | none=>simp only[hp]at h;cases h
    | some x=>
     obtain⟨Γ',p⟩:=x;simp only[hp]at h;obtain⟨w,h1,h2⟩:=sL0 h;obtain⟨vs,U,b2,b3⟩:=gm0 _ _ _ _ hp w e;have J:=iX0 u r Γ' C (p w e) κ A d h2;have P:=tOp_ok u O e w h1;have hlen:Γ'.length=Γ.length+vs.length:=by have:=Ap gn U;simp only[D7,aK]at this;omega
     have Q:fY0 Γ' (p w e)=vs++fY0 Γ e:=U;rw[hlen,Q]at J;refine X4.opL vs ?_ b2 J;have:=b3 [];simp only[aT,aK,D7]at this;rw[Nat.add_comm,this];exact P
 | .test i a b,Γ,C,e,κ,A,d,h=>by
  simp only[den]at h;cases hf:vF0 Γ i .bool with
  | none=>simp only[hf]at h;cases h
  | some f=>
   simp only[hf]at h;refine X4.test (f e) (mW0 hf e) (fun R=>?_) (fun R=>?_)
   ·rw[R]at h
    exact iX0 u a Γ C e κ A d h
   rw[R]at h;exact iX0 u b Γ C e κ A d h
 | .loop l k inits body,Γ,C,e,κ,A,d,h=>by
  simp only[den]at h;cases K:H l with
  | none=>simp only[K]at h;cases h
  | some ls=>
   simp only[K]at h;cases N:(aB l Γ.length&&(aB ls.len k&&body.bnd (l+k+1)))with
   | false=>simp only[N]at h;cases h
   | true=>
    simp only[N]at h;simp only[ab,Nat.beq_eq]at N;obtain⟨rfl,hk,M⟩:=N;cases z:bu0 Γ inits ls with
    | none=>simp only[z]at h;cases h
    | some fi=>
     simp only[z]at h;refine X4.loop (fun n vals=>∃ x,vals=y9 ls x/\iter (fun rec x=>den T G H cod body (.bool::(cz0 ls Γ).1) ((Γ.length,ls)::C) (false,(cz0 ls Γ).2 x e) (rec,κ)) n x=some v) M many ?_ ?_
     ·refine⟨fi e,?_,h⟩
      have:=X2 _ _ _ z e;rw[eO0]at this;exact this
     rintro n vals ⟨x,rfl,V⟩ hlen;cases n with
     | zero=>cases V
     | succ n=>
      have J:=iX0 u body (.bool::(cz0 ls Γ).1) ((Γ.length,ls)::C) (false,(cz0 ls Γ).2 x e) (iter (fun rec x=>den T G H cod body (.bool::(cz0 ls Γ).1) ((Γ.length,ls)::C) (false,(cz0 ls Γ).2 x e) (rec,κ)) n,κ)
       (fun B=>if B=Γ.length then (fun D=>∃ Y,Y<n+1/\∃ x,D=y9 ls x/\iter (fun rec x=>den T G H cod body (.bool::(cz0 ls Γ).1) ((Γ.length,ls)::C) (false,(cz0 ls Γ).2 x e) (rec,κ)) Y x=some v)else A B)
       (fun B s g hf y Z=>by
        simp only[lJ0]at hf;cases m:aB Γ.length B with
        | true=>simp only[m]at hf;have m:=af m;subst m;cases hf;simp only[Al];exact⟨n,Nat.lt_succ_self _,y,rfl,Z⟩
        | false=>
         simp only[m]at hf;have S:B≠Γ.length:=fun he=>by rw[he,d_]at m;cases m
         cases E:lJ0 cod.T C B with
         | none=>simp only[E]at hf;cases hf
         | some q=>
          obtain⟨s',g'⟩:=q;simp only[E]at hf;cases hf;simp only[S,Ah];exact d B _ _ E y Z) V
      have e1:=nW0 ls Γ x e;have e2:(Sp.bool::(cz0 ls Γ).1).length=Γ.length+k+1:=by have:=Ap gn e1;simp only[D7,aK,List.length_reverse,D1]at this;simp only[ay];omega
      rw[e2]at J;have e3:fY0 (Sp.bool::(cz0 ls Γ).1) (false,(cz0 ls Γ).2 x e)=.sc (.bool false)::((y9 ls x).reverse++fY0 Γ e):=by rw[<- e1];rfl
      rw[e3]at J;exact J
 | .again l vals,Γ,C,e,κ,A,d,h=>by
  simp only[den]at h;cases E:lJ0 cod.T C l with
  | none=>simp only[E]at h;cases h
  | some q=>
   obtain⟨s,g⟩:=q;simp only[E]at h;cases hf:bu0 Γ vals s with
   | none=>simp only[hf]at h;cases h
   | some f=>
    simp only[hf]at h;have:=d l s g E (f e) h;rw[<- X2 _ _ _ hf e,eO0]at this;intro I;have e1:env (fY0 Γ e).reverse=thE Γ e:=by rw[aL0,D7];rfl
    intro hL;show A l _;rw[e1];exact this
noncomputable def ul0(T:Tab)(b:List TF)(H:Nat->Option SpL)(dom:SpL)(cod:Sp)(a:List AV)(r:RT):dom.T->Option cod.T:=match cC0 a dom []with
 | some ⟨Γ,p⟩=>fun x=>den T b H cod r Γ [] (p x ()) ()
 | none=>fun _=>none
def shL:List (Nat×SpL)->Nat->Option SpL
 | [],_=>none
 | (g,s)::l,f=>match aB g f with
  | true=>some s
  | false=>shL l f
theorem ve0{P:Program}{T:Tab}(hT:C0 P T){Φ:H7}(d:il0 P Φ){F:FuncId->Option Func}(hF:∀ f fn,F f=some fn->P.funcs[f]?=some fn)(hm:P.follows .mixedOrders=true){j:List TF}(e:∀ t∈j,t.Ok Φ)
  {H:List (Nat×Hint)} {m:Nat} {f:FuncId} {a:List AV} {fr:Nat} {S:Nat->Option SpL} {dom:SpL} {cod:Sp} {g:dom.T->Option cod.T} (o:ul0 T j S dom cod a (ia0 T Φ F H m f a fr)=g) {x:dom.T} {v:cod.T} (h:g x=some v):E0 P ⟨f,y9 dom x,enc cod v⟩:=by
 subst o;unfold ul0 at h;cases hp:cC0 a dom []with
 | none=>simp only[hp]at h;cases h
 | some q=>
  obtain⟨Γ,p⟩:=q;simp only[hp]at h;obtain⟨vs,r,w,z⟩:=bg0 _ _ _ _ hp x ();have hl:=iX0 e _ Γ [] (p x ()) () (fun _ _=>False) (fun l s g hf=>by simp[lJ0]at hf) h;have c:fY0 Γ (p x ())=vs++[]:=r;have e1:Y9 (thE Γ (p x ())) a=y9 dom x:=by have k:=z [];rw[aT]at k;unfold thE;rw[c,<-D7 Γ (p x ()),c];exact k
  rw[eO0]at e1;have b:∀ u∈fY0 Γ (p x ()),aU0 u:=fun u hu=>by rw[c,bw]at hu;exact w u hu
  rw[<- e1];have i:=hl (by rw[D7]);have n:=i (fun u hu=>b u (by simpa using hu));rw[aL0,D7]at n;exact oW0 hT d hF hm (by have:=Fit.env (l:=(fY0 Γ (p x ())).reverse) (fun u hu=>b u (by simpa using hu));rw[aL0,D7]at this;exact this) n
theorem map_inj{α β:Type}{f:α->β}(hf:∀ x y,f x=f y->x=y):∀ {xs a:List α},xs.map f=a.map f->xs=a
 | [],[],_=>rfl
 | [],y::a,h=>by simp at h
 | x::xs,[],h=>by simp at h
 | x::xs,y::a,h=>by simp only[az,cG]at h;rw[hf x y h.1,map_inj hf h.2]
mutual
theorem sd0:∀ (s:Sp) (x y:s.T),enc s x=enc s y->x=y
 | .int _,x,y,h=>by simp only[enc,AV.sc.injEq,fu]at h;exact h.2
 | .bool,x,y,h=>by simp only[enc,AV.sc.injEq,iz]at h;exact h
 | .str,x,y,h=>by simp only[enc,AV.sc.injEq,kQ]at h;exact h
 | .tt,x,y,_=>rfl
 | .nl,x,y,_=>rfl
 | .sl l,x,y,h=>by simp only[enc,AV.rs.injEq]at h;exact map_inj (X0 l) h
 | .agg l,x,y,h=>by simp only[enc,AV.agg.injEq]at h;exact X0 l x y h
 | .ptr l,x,y,h=>by simp only[enc,AV.rp.injEq]at h;exact X0 l x y h
 | .fmap l,x,y,h=>by simp only[enc,AV.rm.injEq,AV.rs.injEq]at h;exact map_inj (X0 l) h
 | .tup l,x,y,h=>by simp only[enc,AV.tup.injEq]at h;exact X0 l x y h
 | .fn g l,x,y,h=>by simp only[enc,AV.fn.injEq]at h;exact X0 l x y h.2.2
theorem X0:∀ (l:SpL) (x y:l.T),y9 l x=y9 l y->x=y
 | .nil,_,_,_=>rfl
 | .one s,x,y,h=>by simp only[y9,cG,and_true]at h;exact sd0 s x y h
 | .cons s l,x,y,h=>by simp only[y9,cG]at h;exact fD (sd0 s _ _ h.1) (X0 l _ _ h.2)
end
mutual
def Sp.sep:Sp->Sp->Bool
 | .fn g _,.fn a _=>!Nat.beq g a
 | _,_=>false
def SpL.sep:SpL->SpL->Bool
 | .one s,.one s'=>s.sep s'
 | .cons s l,.cons s' a=>s.sep s'||l.sep a
 | _,_=>false
end
theorem Sp.sep_ok{s s':Sp}(h:s.sep s'=true)(x:s.T)(y:s'.T):enc s x≠enc s' y:=by
 cases s<;>cases s'<;>simp only[Sp.sep]at h<;>try (cases h;done)
 intro he;simp only[enc,AV.fn.injEq,Fn.func.injEq]at he;rw[he.1,d_]at h;cases h
theorem SpL.sep_ok:∀ {l a:SpL},l.sep a=true->∀ (x:l.T) (y:a.T),y9 l x≠y9 a y
 | .nil,a,h,_,_=>by simp[SpL.sep]at h
 | .one s,.nil,h,_,_=>by simp[SpL.sep]at h
 | .one s,.one s',h,x,y=>by simp only[SpL.sep]at h;intro he;simp only[y9,cG,and_true]at he;exact Sp.sep_ok h x y he
 | .one s,.cons s' a,h,_,_=>by simp[SpL.sep]at h
 | .cons s l,.nil,h,_,_=>by simp[SpL.sep]at h
 | .cons s l,.one s',h,_,_=>by simp[SpL.sep]at h
 | .cons s l,.cons s' a,h,x,y=>by
  simp only[SpL.sep,br]at h;intro he;simp only[y9,cG]at he;rcases h with h | h
  ·exact Sp.sep_ok h _ _ he.1
  exact SpL.sep_ok h _ _ he.2
def er0(P:Program)(f:FuncId)(args:List AV)(c:AV):Prop:=∀ v z rest,args=v::.sc (.int .i64 (z:Nat))::rest->∃ es a,v=.rs es/\c=.rs a/\a.length=es.length /\
 ∀ σ id e restv,σ.objs id=some (.row e z es)->(∀ G vs w,B8 G restv vs->Rel G (σ.del id) w->B8 (G.frozen (σ.del id) w (fun _=>none)) rest vs) ->
  B4 P f (.ms id z 0 es.length::restv) σ (fun v σ'=>v=.tup []/\σ'=σ.set id (.row e z a))
def Good(P:Program)(f:FuncId)(args:List AV)(c:AV):Prop:=(f<XT->E0 P ⟨f,args,c⟩)/\∀ g,f=XT+g->er0 P g args c
structure Hit(P:Program)(ts:List TF)(f:FuncId)(args:List AV)(c:AV):Prop where
 good:Good P f args c
 is:∃ t∈ts,t.f=f/\∃ x r,args=y9 t.dom x/\t.fn x=some r/\c=enc t.cod r
noncomputable def rQ0(P:Program)(ts:List TF)(f:FuncId)(args:List AV):Option AV :=open Classical in if h:∃ c,Hit P ts f args c then some h.choose else none
theorem lQ0{P:Program}{ts:List TF}{f:FuncId}{args:List AV}{c:AV}(h:rQ0 P ts f args=some c):Hit P ts f args c:=by
 unfold rQ0 at h;split at h
 ·rename_i a;cases h;exact a.choose_spec
 cases h
def sD0:List TF->FuncId->Bool
 | [],_=>false
 | t::ts,f=>match aB t.f f with
  | true=>true
  | false=>sD0 ts f
noncomputable def fz0(P:Program)(ts:List TF):H7:=fun f=>match sD0 ts f with
 | true=>some (rQ0 P ts f)
 | false=>none
theorem kN0:∀ {ts:List TF} {t:TF},t∈ts->sD0 ts t.f=true
 | [],_,h=>by simp at h
 | b::ts,t,h=>by
  unfold sD0;split
  ·rfl
  rename_i a;rcases aC.1 h with rfl | h
  ·rw[d_]at a;cases a
  exact kN0 h
theorem jR0(P:Program)(ts:List TF):il0 P (fz0 P ts):=by
 refine⟨fun f φ hf h args c hc=>?_,fun f φ h=>?_⟩
 ·unfold fz0 at h
  split at h
  ·cases h;exact(lQ0 hc).good.1 hf
  cases h
 unfold fz0 at h;split at h
 ·cases h
  intro v z rest c hc;exact(lQ0 hc).good.2 f rfl v z rest rfl
 cases h
def uW0:List TF->Bool
 | []=>true
 | t::ts=>(ts.all fun a=>!Nat.beq t.f a.f||t.dom.sep a.dom)&&uW0 ts
theorem rP0:∀ {ts:List TF},uW0 ts=true->∀ t∈ts,∀ c∈ts,c.f=t.f->∀ (x:t.dom.T) (d:c.dom.T),y9 c.dom d=y9 t.dom x->c=t
 | [],_,t,h,_,_,_,_,_,_=>by simp at h
 | a::ts,hs,t,g,c,e,hf,x,d,he=>by
  simp only[uW0,ab,aj,br,cO]at hs;rcases aC.1 g with h1 | h1
  ·rcases aC.1 e with h2 | h2
   ·rw[h1,h2]
   subst h1;rcases hs.1 c h2 with b | b
   ·rw[hf,d_]at b;cases b
   exact Am he.symm (SpL.sep_ok b x d)
  rcases aC.1 e with h2 | h2
  ·subst h2
   rcases hs.1 t h1 with b | b
   ·rw[hf,d_]at b;cases b
   exact Am he (SpL.sep_ok b d x)
  exact rP0 hs.2 t h1 c h2 hf x d he
theorem T5{P:Program}{ts:List TF}(hs:uW0 ts=true){t:TF}(b:t∈ts)(h:∀ x r,t.fn x=some r->Good P t.f (y9 t.dom x) (enc t.cod r)):t.Ok (fz0 P ts):=by intro x r d;refine⟨rQ0 P ts t.f,by unfold fz0;rw[kN0 b],?_⟩;have hex:∃ c,Hit P ts t.f (y9 t.dom x) c:=⟨_,h x r d,t,b,rfl,x,r,rfl,d,rfl⟩;unfold rQ0;rw[dif_pos hex];obtain⟨j,g,e,hf,i,k,he,a,hc⟩:=hex.choose_spec;have:=rP0 hs t b g e hf x i he.symm;subst this;have:=X0 _ _ _ he;subst this;rw[d]at a;cases a;rw[hc]
theorem Good.memo{P:Program}{f:FuncId}{args:List AV}{c:AV}(hf:f<XT)(h:E0 P ⟨f,args,c⟩):Good P f args c:=by refine⟨fun _=>h,fun g a=>?_⟩;exfalso;subst a;exact jJ.2 (bc XT g) hf
theorem Good.sort{P:Program}{g:FuncId}{args:List AV}{c:AV}(h:er0 P g args c):Good P (XT+g) args c:=by refine⟨fun hf=>Am hf (jJ.2 (bc XT g)),fun a b=>?_⟩;have:g=a:=Nat.add_left_cancel b;rw[<- this];exact h
theorem tf_ok{P:Program}{T:Tab}(hT:C0 P T){F:FuncId->Option Func}(hF:∀ f fn,F f=some fn->P.funcs[f]?=some fn)(hm:P.follows .mixedOrders=true){ts c:List TF}(hs:uW0 ts=true)(b:∀ t∈c,t.Ok (fz0 P ts)){t:TF}(d:t∈ts)(hf:cm t.f XT=true)
  {H:List (Nat×Hint)} {m:Nat} {a:List AV} {fr:Nat} {S:Nat->Option SpL} (e:ul0 T c S t.dom t.cod a (ia0 T (fz0 P ts) F H m t.f a fr)=t.fn):t.Ok (fz0 P ts) :=
 T5 hs d fun x r g=>Good.memo (by simpa using hf) (ve0 hT (jR0 P ts) hF hm b e g)
end Go.Ab
namespace Go.Ab
open Go
variable [B6]
def Tr.allI{α:Type}(p:Nat->α->Bool):Nat->Nat->Tr α->Bool
 | _,_,.leaf=>true
 | m,b,.node v l r=>(match v with | some x=>p b x | none=>true)&&(Tr.allI p (2*m) (m+b) l&&Tr.allI p (2*m) (2*m+b) r)
theorem Tr.allI_get{α:Type}{p:Nat->α->Bool}:∀ (t:Tr α) (m b k:Nat) (v:α),t.allI p m b=true->t.get k=some v->p (m*k+b) v=true
 | .leaf,m,b,k,v,_,h=>by rw[Tr.get_leaf]at h;cases h
 | .node x l r,m,b,0,v,h,a=>by simp only[Tr.get]at a;simp only[Tr.allI,ab]at h;rw[a]at h;simpa using h.1
 | .node x l r,m,b,k+1,v,h,a=>by
  simp only[Tr.allI,ab]at h;simp only[Tr.get]at a;have hk:=gq k 2;rcases Nat.mod_two_eq_zero_or_one k with e | e<;>rw[e]at a<;>simp only at a
  ·have:=Tr.allI_get l (2*m) (m+b) (k / 2) v h.2.1 a
   rw[e]at hk;have e2:m*(k+1)+b=2*m*(k / 2)+(m+b):=by
    have:m*(k+1)=m*(2*(k / 2))+m:=by
     have:k+1=2*(k / 2)+1:=by omega
     rw[this,kX,Nat.mul_one]
    rw[this,dY 2 m,kH];omega
   rw[e2];exact this
  have:=Tr.allI_get r (2*m) (2*m+b) (k / 2) v h.2.2 a;rw[e]at hk;have e2:m*(k+1)+b=2*m*(k / 2)+(2*m+b):=by
   have:m*(k+1)=m*(2*(k / 2))+2*m:=by
    have:k+1=2*(k / 2)+2:=by omega
    rw[this,kX,dY 2 m]
   rw[this,dY 2 m,kH];omega
  rw[e2];exact this
structure Fam where
 a:Nat
 e:TypeId
 z:Nat
 j:Nat
 cols:bt0
def kB0(a:Option Fam)(θ:Nat->AV):List (Nat×l6):=match a with
 | none=>[]
 | some F=>dh0 F.cols 0 (rowsOf (θ F.j))
def fi0(a:Option Fam)(θ:Nat->AV):Prop:=match a with
 | none=>True
 | some F=>∃ rows,θ F.j=.rs rows/\jO0 F.cols rows
def AS.full(s:AS)(a:Option Fam)(θ:Nat->AV):AS:=(s.sub θ).addH (kB0 a θ)
def up0:bt0->bt0->Bool
 | [],[]=>true
 | c::cs,d::a=>aB c.1 d.1&&aB c.2.1 d.2.1&&aB c.2.2 d.2.2&&up0 cs a
 | _,_=>false
theorem jQ0:∀ {a b:bt0},up0 a b=true->a=b
 | [],[],_=>rfl
 | [],_::_,h=>by simp[up0]at h
 | _::_,[],h=>by simp[up0]at h
 | c::cs,d::g,h=>by simp only[up0,ab]at h;obtain⟨⟨⟨h1,h2⟩,e⟩,f⟩:=h;rw[jQ0 f,show c=d from fD (af h1) (fD (af h2) (af e))]
def ed0(b:Option Fam)(s:AS)(fr:Nat):Bool:=di O6 s.st.next&&s.st.tr.allI (fun i _=>di O6 i) 1 0&&match b with
 | none=>true
 | some F=>cm F.j fr&&match s.st.objs F.a with
  | some (.frow e z (.sy j) cols _ _ none)=>aB e F.e&&aB z F.z&&aB j F.j&&up0 cols F.cols
  | _=>false
theorem hX0{a:Option Fam}{s:AS}{fr:Nat}(h:ed0 a s fr=true):O6<=s.st.next:=by simp only[ed0,ab]at h;exact aU h.1.1
theorem io0{a:Option Fam}{s:AS}{fr:Nat}(h:ed0 a s fr=true){i:Nat}(hi:i<O6):s.st.objs i=none:=by
 simp only[ed0,ab]at h;cases b:s.st.objs i with
 | none=>rfl
 | some o=>have:=Tr.allI_get _ _ _ _ _ h.1.2 b;have:=aU this;omega
theorem uQ0{F:Fam}{s:AS}{fr:Nat}(h:ed0 (some F) s fr=true):F.j<fr:=by simp only[ed0,ab]at h;have:=h.2.1;simpa[aZ]using this
theorem nG0{F:Fam}{s:AS}{fr:Nat}(h:ed0 (some F) s fr=true):∃ k off,s.st.objs F.a=some (.frow F.e F.z (.sy F.j) F.cols k off none):=by
 simp only[ed0,ab]at h;have:=h.2.2;split at this
 ·rename_i e z j cols k off heq
  simp only[ab]at this;obtain⟨⟨⟨h1,h2⟩,b⟩,c⟩:=this;rw[heq,af h1,af h2,af b,jQ0 c];exact⟨k,off,rfl⟩
 cases this
theorem nn0{a:Option Fam}{θ:Nat->AV}(h:fi0 a θ){p:Nat×l6}(hp:p∈kB0 a θ):p.1<O6/\pureRow p.2=true:=by
 cases a with
 | none=>simp[kB0]at hp
 | some F=>obtain⟨rows,h1,h2⟩:=h;simp only[kB0,h1,rowsOf]at hp;exact eB0 h2 hp
theorem jg0{b:Option Fam}{θ a:Nat->AV}{s:AS}{fr:Nat}(c:ed0 b s fr=true)(h:∀ i,i<fr->a i=θ i):kB0 b a=kB0 b θ/\(fi0 b θ->fi0 b a):=by
 cases b with
 | none=>exact⟨rfl,fun _=>trivial⟩
 | some F=>have:=h F.j (uQ0 c);exact⟨by simp only[kB0,this],fun ⟨rows,h1,h2⟩=>⟨rows,by rw[this];exact h1,h2⟩⟩
theorem Ren.addH{ι:Nat->Option (Option Nat)}{s' s:AS}{H:List (Nat×l6)}(h:Ren ι O6 s' s)(hH:∀ p∈H,p.1<O6/\pureRow p.2=true)(e:∀ i,i<O6->s.st.objs i=none):Ren ι 0 (s'.addH H) (s.addH H):=by
 have a:∀ i o,(s'.addH H).st.objs i=some o->(L2 H i=some o/\i<O6/\pureRow o=true)\/s'.st.objs i=some o:=fun i o b=>by
  rw[AS.addH_st,E8]at b;cases f:L2 H i with
  | some o'=>rw[f]at b;simp only[ah]at b;subst b;exact .inl ⟨rfl,hH _ (T6 f)⟩
  | none=>rw[f]at b;exact .inr b
 have d:∀ i k o,s'.st.objs i=some o->ι i=some (some k)->O6<=k:=fun i k o b hk=>by
  rcases h.objs i o b with ⟨r,o',h1,h2,_⟩ | ⟨h1,_⟩
  ·rw[h1]at hk
   cases hk;refine jV fun g=>?_;rw[e _ g]at h2;cases h2
  rw[h1]at hk;cases hk
 refine⟨h.nn,fun i hi=>by omega,fun i k hk=>by rw[AS.addH_st,X9];exact h.dom i k hk,cN _,fun i j k oi oj h1 h2 l m=>?_,h.slots,h.beyond,fun i o b=>?_⟩
 ·rcases a i oi l with ⟨_,c,_⟩ | c<;>rcases a j oj m with ⟨_,c1,_⟩ | c1
  ·have e1:=h.low i c
   have e2:=h.low j c1;rw[h1]at e1;rw[h2]at e2;cases e1;cases e2;rfl
  ·have e1:=h.low i c
   rw[h1]at e1;cases e1;have:=d j _ oj c1 h2;omega
  ·have e1:=h.low j c1
   rw[h2]at e1;cases e1;have:=d i _ oi c h1;omega
  exact h.inj i j k oi oj h1 h2 c c1
 rcases a i o b with ⟨n,c,q⟩ | c
 ·exact .inl ⟨i,o,h.low i c,by rw[AS.addH_st,E8,n],gf0.pureRow q⟩
 rcases h.objs i o c with ⟨k,o',h1,h2,l⟩ | h1
 ·refine .inl ⟨k,o',h1,?_,l⟩
  rw[AS.addH_st,E8];cases f:L2 H k with
  | none=>exact h2
  | some o2=>have:=(hH _ (T6 f)).1;rw[e _ this]at h2;cases h2
 exact .inr h1
def rt0(a z j b:Nat)(p:Nat->Bool)(v:AV):AV:=match v with
 | .ss a' c i=>match aB a' a&&aB i j&&aB c z with
  | true=>.ss a z b
  | false=>match v.ids p with
   | true=>v
   | false=>.any
 | v=>match v.ids p with
  | true=>v
  | false=>.any
def AS.act(S:AS)(a z j b:Nat)(p:Nat->Bool)(σ:j3):AS:={ n:=S.n,tr:=S.tr.map (rt0 a z j b p),st:=σ }
def ckB(p:Nat->Bool)(a:Nat)(S:AS):Bool:=S.tr.allI (fun i _=>cm i S.n) 1 0&&S.st.tr.allI (fun i o=>aB i a||(p i&&o.ids p)) 1 0&&p a
theorem jU0{p:Nat->Bool}{a:Nat}{S:AS}(h:ckB p a S=true){i:Nat}{o:l6}(b:S.st.objs i=some o):i=a\/(p i=true/\o.ids p=true):=by
 simp only[ckB,ab]at h;have:=Tr.allI_get _ _ _ _ _ h.1.2 b;simp only[jk,Nat.add_zero,br,ab]at this;rcases this with h1 | h1
 ·exact .inl (af h1)
 exact .inr h1
theorem lh0{p:Nat->Bool}{a:Nat}{S:AS}(h:ckB p a S=true):p a=true:=by simp only[ckB,ab]at h;exact h.2
theorem qe0(S:AS)(a z j b:Nat)(p:Nat->Bool)(σ:j3)(t:Nat):(S.act a z j b p σ).get t=rt0 a z j b p (S.get t):=by
 simp only[AS.act,AS.get,Tr.map_get];cases S.tr.get t with
 | none=>simp[rt0,AV.ids]
 | some v=>simp
theorem jE0{S:AS}{θ:Nat->AV}(l:Fit θ){a z j d:Nat}{p:Nat->Bool}{σ σ0:j3}{ι:Nat->Option (Option Nat)}{H m:List (Nat×l6)}(hp:∀ i,p i=true->ι i=some (some i))(b:ckB p a { S with st:=σ0 }=true)(hlen:(rowsOf (θ d)).length=(rowsOf (θ j)).length)
  (f:∀ i k,ι i=some k->i<σ.next) (g:∀ i j k,ι i=some (some k)->ι j=some (some k)->i=j)
  (c:∀ i o,(((S.act a z j d p σ).sub θ).addH m).st.objs i=some o->(∃ k o',ι i=some (some k)/\((S.sub θ).addH H).st.objs k=some o'/\gf0 ι o o')\/(ι i=some none/\∃ e z,o=.row e z [])) :
  Ren ι 0 (((S.act a z j d p σ).sub θ).addH m) ((S.sub θ).addH H):=by
 refine⟨rfl,fun i hi=>by omega,fun i k hk=>by rw[AS.addH_st,X9];exact f i k hk,cN _,fun i j k oi oj h1 h2 _ _=>g i j k h1 h2,fun t q=>?_,fun t q=>?_,c⟩
 ·show RV ι (((S.act a z j d p σ).sub θ).get t) ((S.sub θ).get t)
  rw[AS.sub_get,AS.sub_get,qe0];have gen:∀ v:AV,RV ι ((match v.ids p with | true=>v | false=>.any).sub θ) (v.sub θ):=fun v=>by
   cases hv:v.ids p with
   | true=>exact RV.ids hp (fu0 l p v hv)
   | false=>intro G u _;exact .any u
  unfold rt0;split
  ·rename_i a' w i he
   split
   ·rename_i h
    simp only[ab]at h;have e1:=af h.1.1;have e2:=af h.1.2;have e3:=af h.2;subst e1;subst e2;subst e3;rw[he];simp only[S3,hlen];exact RV.ids hp (p:=p) (by simp only[AV.ids];exact lh0 b)
   exact gen _
  exact gen _
 show ((S.act a z j d p σ).sub θ).get t=.sc undef;rw[AS.sub_get,qe0];have r:S.tr.get t=none:=by
  cases s:S.tr.get t with
  | none=>rfl
  | some v=>
   simp only[ckB,ab]at b;have:=Tr.allI_get _ _ _ _ _ b.1.1 s;have h1:t<S.n:=by simpa[aZ]using this
   have h2:S.n<=t:=q;omega
 simp only[AS.get,r,Option.getD_none,rt0,AV.ids,AV.sub]
theorem nR0{v:AV}(h:isNil v=true):v=.sc (.slice none 0 0):=by
 unfold isNil at h;split at h
 ·rfl
 cases h
theorem rO0{cols:bt0}{rows:List (List AV)}(h:vl0 cols rows=true)(e:(AV.rs rows).pur=true):jO0 cols (rows.map (J5 cols 0))/\∀ r∈rows,∀ g x,(U4 cols g).isSome->r[g]?=some x->x=.sc (.slice none 0 0):=by
 simp only[vl0,ab,Ad,aj]at h;obtain⟨⟨h1,h2⟩,m⟩:=h;have d:∀ r∈rows,∀ c∈cols,r[c.1]?=some (.sc (.slice none 0 0)):=fun r a c hc=>by
  have:=m r a c hc;split at this
  ·rename_i v hv;rw[hv,nR0 this]
  cases this
 refine⟨⟨by rw[aD];exact h1,fun c hc=>by have:=h2 c hc;simpa[aZ]using this,?_,fun r a c hc=>?_⟩,fun r a g x hs l=>?_⟩
 ·simp only[AV.pur]
  have key:∀ rows:List (List AV),kA0 rows=true->kA0 (rows.map (J5 cols 0))=true:=by
   have row:∀ (r:List AV) (j:Nat),kw0 r=true->kw0 (J5 cols j r)=true:=by
    intro r
    induction r with
    | nil=>intro _ _;rfl
    | cons v vs i=>
     intro j a;simp only[kw0,ab]at a;simp only[J5,kw0,ab];refine⟨?_,i _ a.2⟩;unfold bf0;split
     ·rfl
     exact a.1
   intro rows
   induction rows with
   | nil=>intro _;rfl
   | cons r rs i=>intro a;simp only[kA0,ab]at a;simp only[az,kA0,ab];exact⟨row r 0 a.1,i a.2⟩
  exact key rows (by simpa only[AV.pur]using e)
 ·obtain⟨n,k,rfl⟩:=aM.1 a
  refine⟨[],?_⟩;rw[cf0,d n k c hc];simp only[ak,aG,bf0];have f:(U4 cols c.1).isSome=true:=by rw[U4,jx];exact⟨c,hc,by simp⟩
  cases b:U4 cols c.1 with
  | none=>rw[b]at f;cases f
  | some _=>rfl
 cases b:U4 cols g with
 | none=>rw[b]at hs;cases hs
 | some c=>obtain⟨o,p⟩:=O2 b;subst p;have:=d r a c o;rw[this]at l;cases l;rfl
def pLo(S:AS)(i:Nat):Bool:=di O6 i&&cm i S.st.next
theorem gT0{S:AS}{i:Nat}(h:pLo S i=true):O6<=i/\i<S.st.next:=by simp only[pLo,ab]at h;exact⟨aU h.1,by simpa[aZ]using h.2⟩
def AS.own(S:AS)(a:Nat)(e:TypeId)(z j b:Nat)(cols:bt0):AS:=S.act a z j b (pLo S) (S.st.set a (.frow e z (.sy b) cols (.sy b) O6 none))
theorem own_st{S:AS}{θ:Nat->AV}(h:Fit θ){a:Nat}{e:TypeId}{z j n:Nat}{cols:bt0}{rows:List (List AV)}(ha:S.st.objs a=some (.xrow e z j))(f:ckB (pLo S) a S=true)(hj:θ j=.rs rows)(q:θ n=.rs (rows.map (J5 cols 0)))(s:vl0 cols rows=true) :
  ∃ ι,Ren ι 0 (((S.own a e z j n cols).sub θ).addH (dh0 cols 0 (rows.map (J5 cols 0)))) ((S.sub θ).addH []):=by
 have g:(AV.rs rows).pur=true:=by have:=(h j).pur;rw[hj]at this;exact this
 obtain⟨M,t⟩:=rO0 s g;obtain⟨I,J⟩:=gT0 (lh0 f);let ι:Nat->Option (Option Nat):=fun i=>if i<O6 then some none else if i<S.st.next then some (some i)else none
 have u:∀ i,i<O6->ι i=some none:=fun i hi=>by simp only[ι,Af hi]
 have d:∀ i,pLo S i=true->ι i=some (some i):=fun i hi=>by obtain⟨q1,q2⟩:=gT0 hi;simp only[ι,Ae (jJ.2 q1),Af q2]
 refine⟨ι,jE0 h d f (by rw[hj,q];simp[rowsOf]) (fun i k hk=>?_) (fun i j k h1 h2=>?_) (fun i o b=>?_)⟩
 ·simp only[ι]at hk
  show i<S.st.next;split at hk
  ·omega
  split at hk
  ·assumption
  cases hk
 ·have p:∀ i,ι i=some (some k)->i=k:=fun i hi=>by
   simp only[ι]at hi;split at hi
   ·cases hi
   split at hi
   ·cases hi;rfl
   cases hi
  rw[p i h1,p j h2]
 rw[AS.addH_st,E8]at b;cases p:L2 (dh0 cols 0 (rows.map (J5 cols 0))) i with
 | some o' =>
  rw[p]at b;simp only[ah]at b;subst b;obtain⟨r,row,c,q1,q2,q3⟩:=gy0 (T6 p);cases q3;refine .inr ⟨u _ (dC0 _ _),c.2.1,c.2.2,?_⟩;rw[aS]at q1;cases C:rows[r]? with
  | none=>rw[C]at q1;cases q1
  | some v=>
   rw[C]at q1;simp only[ak,ah]at q1;subst q1;have w:(U4 cols c.1).isSome=true:=by rw[U4,jx];exact⟨c,q2,by simp⟩
   simp only[cq0,cQ,cf0,aG];cases v[c.1]? with
   | none=>rfl
   | some x=>
    simp only[ak,bS,bf0];cases l:U4 cols c.1 with
    | none=>rw[l]at w;cases w
    | some _=>rfl
 | none=>
  rw[p]at b;have b:((S.own a e z j n cols).st.sub θ).objs i=some o:=b;rw[j3.sub_objs]at b;have B:(S.own a e z j n cols).st.objs i=if i=a then some (.frow e z (.sy n) cols (.sy n) O6 none)else S.st.objs i:=j3.objs_set _ _ _ _
  rw[B]at b;by_cases m:i=a
  ·subst m
   rw[Af rfl]at b;simp only[ak,ah]at b;subst b;refine .inl ⟨i,(l6.xrow e z j).sub θ,d i (lh0 f),by rw[AS.addH_st];show (S.st.sub θ).objs i=_;rw[j3.sub_objs,ha];rfl,?_⟩;simp only[l6.sub,u9,hj,q,rowsOf,cC,T0];refine gf0.cells (by rw[J2,aD]) (fun r N K g1 g2=>?_);rw[G6,aS,g2]at g1;simp only[ak,ah,aG]at g1;subst g1;refine⟨by rw[F6,dE0],fun E x y g3 g4=>?_⟩;rw[M4,cf0,g4]at g3;simp only[ak,ah,aG]at g3;subst g3;have G:K∈rows:=aN g2;rw[V8];unfold bf0;cases l:U4 cols E with
   | none=>simp only;obtain⟨C,rfl⟩:=ar.1 g2;obtain⟨H,rfl⟩:=ar.1 g4;exact RV.pur (U6 g r C E H)
   | some c=>simp only[rowsOf,bx];rw[t K G E y (by rw[l];rfl) g4];exact RV.msNone (u _ (dC0 _ _))
  rw[Ae m]at b;cases D:S.st.objs i with
  | none=>rw[D]at b;cases b
  | some o0=>
   rw[D]at b;simp only[ak,ah]at b;subst b;rcases jU0 f D with h1 | ⟨h1,h2⟩
   ·exact Am h1 m
   exact .inl ⟨i,o0.sub θ,d i h1,by rw[AS.addH_st];show (S.st.sub θ).objs i=_;rw[j3.sub_objs,D];rfl,gf0.ids d h h2⟩
def AS.foc(S:AS)(a:Nat)(e:TypeId)(z j:Nat)(cols:bt0)(kv:AV)(off:Nat)(c:Nat×TypeId×Nat)(f:Nat):AS :=S.act a z j j (pLo S) { (S.st.set a (.frow e z (.sy j) cols kv off (some (.ss S.st.next c.2.2 f)))).set S.st.next (.xrow c.2.1 c.2.2 f)with next:=S.st.next+1 }
theorem tf0(S:AS)(a:Nat)(e:TypeId)(z j:Nat)(cols:bt0)(kv:AV)(off:Nat)(c:Nat×TypeId×Nat)(f i:Nat):(S.foc a e z j cols kv off c f).st.objs i=if i=S.st.next then some (.xrow c.2.1 c.2.2 f)else if i=a then some (.frow e z (.sy j) cols kv off (some (.ss S.st.next c.2.2 f)))else S.st.objs i:=by show ((S.st.set a (.frow e z (.sy j) cols kv off (some (.ss S.st.next c.2.2 f)))).set S.st.next (.xrow c.2.1 c.2.2 f)).objs i=_;rw[j3.objs_set,j3.objs_set]
theorem foc_st{S:AS}{θ:Nat->AV}(N:Fit θ){a:Nat}{e:TypeId}{z O off f:Nat}{cols:bt0}{kv k0:AV}{C:Nat}{c:Nat×TypeId×Nat}(ha:S.st.objs a=some (.frow e z (.sy O) cols k0 C none))(v:ckB (pLo S) a S=true)(hnx:O6<=S.st.next)
  {rows:List (List AV)} (hjc:θ O=.rs rows) (hw:jO0 cols rows)
  {row:List AV} {xs:List (List AV)} (d:rows[Y8 (kv.sub θ)]?=some row) (E:U4 cols off=some c) (h:row[off]?=some (.rs xs)) (hf:θ f=.rs xs) :
  ∃ ι,Ren ι 0 (((S.foc a e z O cols kv off c f).sub θ).addH ((dh0 cols 0 rows).filter (fun q=>!Nat.beq q.1 (hid (Y8 (kv.sub θ)) off)))) ((S.sub θ).addH (dh0 cols 0 rows)):=by
 obtain⟨hlen,hc,s,P⟩:=hw;generalize hk:Y8 (kv.sub θ)=k at *;obtain⟨hcm,Q⟩:=O2 E;have hoff:off<16:=by rw[<- Q];exact hc c hcm
 have hkl:=(ar.1 d).1;have hhk:hid k off<O6:=dC0 _ _;generalize hm:S.st.next=m at *;let ι:Nat->Option (Option Nat):=fun i=>if i=m then some (some (hid k off))else if i=hid k off then none else if i<m+1 then some (some i)else none
 have t:∀ i,i≠m->i≠hid k off->i<m+1->ι i=some (some i):=fun i q1 q2 q3=>by simp only[ι,Ae q1,Ae q2,Af q3]
 have l:∀ i,pLo S i=true->ι i=some (some i):=fun i hi=>by obtain⟨q1,q2⟩:=gT0 hi;rw[hm]at q2;exact t i (by omega) (by omega) (by omega)
 have R:ι m=some (some (hid k off)):=by simp[ι]
 refine⟨ι,?_⟩;refine jE0 (σ0:=S.st) N l v rfl (fun i q M=>?_) (fun i j q q1 q2=>?_) (fun i o b=>?_)
 ·simp only[ι]at M
  show i<S.st.next+1;rw[hm];split at M
  ·omega
  split at M
  ·cases M
  split at M
  ·assumption
  cases M
 ·have p:∀ i,ι i=some (some q)->(i=m/\q=hid k off)\/(i=q/\i≠hid k off):=fun i hi=>by
   simp only[ι]at hi;split at hi
   ·rename_i e1;cases hi;exact .inl ⟨e1,rfl⟩
   split at hi
   ·cases hi
   rename_i e2;split at hi
   ·cases hi;exact .inr ⟨rfl,e2⟩
   cases hi
  rcases p i q1 with ⟨x1,x2⟩ | ⟨x1,x2⟩<;>rcases p j q2 with ⟨y1,y2⟩ | ⟨y1,y2⟩<;>omega
 rw[AS.addH_st,E8,ch0]at b;have hold:∀ i o,L2 (dh0 cols 0 rows) i=some o->((S.sub θ).addH (dh0 cols 0 rows)).st.objs i=some o:=fun i o p=>by rw[AS.addH_st,E8,p]
 have u:∀ i o,O6<=i->(S.sub θ).st.objs i=some o->((S.sub θ).addH (dh0 cols 0 rows)).st.objs i=some o:=fun i o hi p=>by rw[AS.addH_st,E8,kd0 hi];exact p
 cases p:(if i=hid k off then none else L2 (dh0 cols 0 rows) i)with
 | some o' =>
  rw[p]at b;simp only[ah]at b;subst b;split at p
  ·cases p
  rename_i G;have H:=eB0 ⟨hlen,hc,s,P⟩ (T6 p);exact .inl ⟨i,o',t i (by have:=H.1;simp only at this;omega) G (by have:=H.1;simp only at this;omega),hold i o' p,gf0.pureRow H.2⟩
 | none=>
  rw[p]at b;simp only at b;have b:((S.foc a e z O cols kv off c f).st.sub θ).objs i=some o:=b;rw[j3.sub_objs,tf0,hm]at b;have U:=gT0 (lh0 v);rw[hm]at U;by_cases D:i=m
  case neg=>
   rw[Ae D]at b;by_cases I:i=a
   case neg=>
    rw[Ae I]at b;cases hS:S.st.objs i with
    | none=>rw[hS]at b;cases b
    | some o0=>
     rw[hS]at b;simp only[ak,ah]at b;subst b;rcases jU0 v hS with h1 | ⟨h1,h2⟩
     ·exact Am h1 I
     exact .inl ⟨i,o0.sub θ,l i h1,u i _ (gT0 h1).1 (by rw[AS.sub_st,j3.sub_objs,hS];rfl),gf0.ids l N h2⟩
   case pos=>
    subst I;rw[Af rfl]at b;simp only[ak,ah]at b;subst b;refine .inl ⟨i,(l6.frow e z (.sy O) cols k0 C none).sub θ,l i (lh0 v),u i _ U.1 (by rw[AS.sub_st,j3.sub_objs,ha];rfl),?_⟩;simp only[l6.sub,u9,hjc,rowsOf,cC,ak,S3,hf,hk];have hfl:(T0 (H6 cols 0 rows) k off (some (.ms m c.2.2 0 xs.length))).length=(H6 cols 0 rows).length:=by
     simp only[T0];split
     ·simp
     rfl
    refine gf0.cells (by simpa[T0]using hfl) (fun r ra rb g1 g2=>?_);have g:(H6 cols 0 rows)[r]?=some rb:=g2;rw[aC0]at g1;simp only[g,ak]at g1;rw[G6]at g;cases V:rows[r]? with
    | none=>rw[V]at g;cases g
    | some Y=>
     rw[V]at g;simp only[ak,ah,aG]at g;have hrl:=(ar.1 V).1;have same:∀ n y,rb[n]?=some y->(r=k->n≠off)->RV ι y y:=fun n y g4 G=>by
      rw[<- g,M4]at g4;cases hx:Y[n]? with
      | none=>rw[hx]at g4;cases g4
      | some x=>
       rw[hx]at g4;simp only[ak,ah,aG]at g4;subst g4;rw[V8];cases hcj:U4 cols n with
       | none=>simp only;obtain⟨J,rfl⟩:=ar.1 V;obtain⟨K,rfl⟩:=ar.1 hx;exact RV.pur (U6 s r J n K)
       | some cj=>
        simp only;obtain⟨w1,w2⟩:=O2 hcj;have Z:n<16:=by rw[<- w2];exact hc cj w1
        have hne2:hid r n≠hid k off:=fun e=>by obtain⟨e1,e2⟩:=mj0 (cols:=cols) hlen hrl hkl Z hoff e;exact G e1 e2
        have:=dC0 r n;exact RV.ms (t _ (by omega) hne2 (by omega))
     by_cases w:r=k
     ·rw[Af w]at g1
      simp only[ah]at g1;refine⟨by rw[<- g1];simp,fun n x y g3 g4=>?_⟩;rw[<- g1,cd]at g3;by_cases B:off=n
      ·rw[Af B]at g3
       split at g3
       ·cases g3
        subst B;subst w;rw[V]at d;cases d;rw[<- g,M4,h]at g4;simp only[ak,ah,aG]at g4;rw[<- g4,V8,E];simp only[rowsOf];exact RV.ms R
       cases g3
      rw[Ae B,g4]at g3;cases g3;exact same n x g4 (fun _=>fun e=>B e.symm)
     rw[Ae w]at g1;simp only[ah]at g1;subst g1;exact⟨rfl,fun n x y g3 g4=>by rw[g4]at g3;cases g3;exact same n x g4 (fun e=>Am e w)⟩
  case pos=>
   subst D;rw[Af rfl]at b;simp only[ak,ah]at b;subst b;refine .inl ⟨hid k off,.row c.2.1 c.2.2 xs,R,hold _ _ ?_,?_⟩
   ·rw[jS0 hc hlen d hoff,E]
    simp only[ak,cq0,Q,cQ,h,bS,rowsOf]
   simp only[l6.sub,hf,rowsOf];refine gf0.pureRow ?_;obtain⟨J,rfl⟩:=ar.1 d;obtain⟨K,he⟩:=ar.1 h;have:=U6 s k J off K;rw[he]at this;simpa only[pureRow,AV.pur]using this
def pLo2(S:AS)(m i:Nat):Bool:=pLo S i&&!Nat.beq i m
theorem ni0{S:AS}{m i:Nat}(h:pLo2 S m i=true):O6<=i/\i<S.st.next/\i≠m:=by simp only[pLo2,ab,cO]at h;obtain⟨q1,q2⟩:=gT0 h.1;exact⟨q1,q2,fun e=>by rw[e,d_]at h;cases h.2⟩
def AS.unf(S:AS)(a:Nat)(e:TypeId)(z j b:Nat)(cols:bt0)(m:Nat):AS:=S.act a z j b (pLo2 S m) ((S.st.del m).set a (.frow e z (.sy b) cols (.sy b) O6 none))
theorem tn0(S:AS)(a:Nat)(e:TypeId)(z j b:Nat)(cols:bt0)(m i:Nat):(S.unf a e z j b cols m).st.objs i=if i=a then some (.frow e z (.sy b) cols (.sy b) O6 none)else if i=m then none else S.st.objs i:=by show ((S.st.del m).set a (.frow e z (.sy b) cols (.sy b) O6 none)).objs i=_;rw[j3.objs_set,j3.objs_del]
theorem unf_st{S:AS}{θ:Nat->AV}(J:Fit θ){a m:Nat}{e:TypeId}{z jc jc' off f:Nat}{cols:bt0}{kv:AV}{c:Nat×TypeId×Nat}(ha:S.st.objs a=some (.frow e z (.sy jc) cols kv off (some (.ss m c.2.2 f))))(hm:S.st.objs m=some (.xrow c.2.1 c.2.2 f))(C:ckB (pLo2 S m) a { S with st:=S.st.del m }=true)(hnx:O6<=m/\O6<=S.st.next)
  {rows:List (List AV)} (hjc:θ jc=.rs rows) (hw:jO0 cols rows)
  {row:List AV} {xs ys:List (List AV)} (d:rows[Y8 (kv.sub θ)]?=some row) (K:U4 cols off=some c) (M:row[off]?=some (.rs ys)) (hf:θ f=.rs xs) (E:θ jc'=.rs (N2 rows (Y8 (kv.sub θ)) off (.rs xs))) :
  ∃ ι,Ren ι 0 (((S.unf a e z jc jc' cols m).sub θ).addH (dh0 cols 0 (N2 rows (Y8 (kv.sub θ)) off (.rs xs)))) ((S.sub θ).addH ((dh0 cols 0 rows).filter (fun q=>!Nat.beq q.1 (hid (Y8 (kv.sub θ)) off)))):=by
 have hxs:(AV.rs xs).pur=true:=by rw[<- hf];exact(J f).pur
 have hw':=hw.put (k:=Y8 (kv.sub θ)) (off:=off) hxs;obtain⟨hlen,hc,G,hown⟩:=hw;generalize hk:Y8 (kv.sub θ)=k at *;obtain⟨hcm,hc1⟩:=O2 K;have hoff:off<16:=by rw[<- hc1];exact hc c hcm
 have N:=(ar.1 d).1;have hhk:hid k off<O6:=dC0 _ _;have H:=(ar.1 M).1;let ι:Nat->Option (Option Nat):=fun i=>if i=hid k off then some (some m)else if i=m then none else if i<S.st.next then some (some i)else none
 have p:∀ i,i≠m->i≠hid k off->i<S.st.next->ι i=some (some i):=fun i q1 q2 q3=>by simp only[ι,Ae q1,Ae q2,Af q3]
 have s:∀ i,pLo2 S m i=true->ι i=some (some i):=fun i hi=>by obtain⟨q1,q2,q3⟩:=ni0 hi;exact p i q3 (by omega) q2
 have him:ι (hid k off)=some (some m):=by simp[ι]
 have g:∀ r,(N2 rows k off (.rs xs))[r]?=if r=k then some (row.set off (.rs xs))else rows[r]?:=im0 d
 refine⟨ι,?_⟩;refine jE0 (σ0:=S.st.del m) J s C (by rw[hjc,E];simp[rowsOf,P5]) (fun i q hq=>?_) (fun i j q q1 q2=>?_) (fun i o b=>?_)
 ·simp only[ι]at hq
  show i<S.st.next;split at hq
  ·omega
  split at hq
  ·cases hq
  split at hq
  ·assumption
  cases hq
 ·have h:∀ i,ι i=some (some q)->(i=hid k off/\q=m)\/(i=q/\i≠m):=fun i hi=>by
   simp only[ι]at hi;split at hi
   ·rename_i e1;cases hi;exact .inl ⟨e1,rfl⟩
   split at hi
   ·cases hi
   rename_i e2;split at hi
   ·cases hi;exact .inr ⟨rfl,e2⟩
   cases hi
  rcases h i q1 with ⟨x1,x2⟩ | ⟨x1,x2⟩<;>rcases h j q2 with ⟨y1,y2⟩ | ⟨y1,y2⟩<;>omega
 rw[AS.addH_st,E8]at b;have hold:∀ i o,i≠hid k off->L2 (dh0 cols 0 rows) i=some o->((S.sub θ).addH ((dh0 cols 0 rows).filter (fun q=>!Nat.beq q.1 (hid k off)))).st.objs i=some o:=fun i o O h=>by rw[AS.addH_st,E8,ch0,Ae O,h]
 have l:∀ i o,O6<=i->(S.sub θ).st.objs i=some o->((S.sub θ).addH ((dh0 cols 0 rows).filter (fun q=>!Nat.beq q.1 (hid k off)))).st.objs i=some o:=fun i o hi h=>by rw[AS.addH_st,E8,ch0,Ae (by omega),kd0 hi];exact h
 cases h:L2 (dh0 cols 0 (N2 rows k off (.rs xs))) i with
 | some o' =>
  rw[h]at b;simp only[ah]at b;subst b;have P:=eB0 hw' (T6 h);by_cases D:i=hid k off
  ·subst D
   rw[jS0 hc (by rw[P5];exact hlen) (row:=row.set off (.rs xs)) (by rw[g,Af rfl]) hoff,K]at h;simp only[ak,cq0,hc1,cQ,cd,Al,H,bS,rowsOf,ah]at h;subst h;refine .inl ⟨m,_,him,l m ((l6.xrow c.2.1 c.2.2 f).sub θ) hnx.1 (by rw[AS.sub_st,j3.sub_objs,hm];rfl),?_⟩;simp only[l6.sub,hf,rowsOf];exact gf0.pureRow P.2
  have hh2:L2 (dh0 cols 0 rows) i=some o':=by
   rw[em0 hc _ _ _ (by rw[P5];simpa using hlen)]at h;rw[em0 hc _ _ _ (by simpa using hlen),<-h];simp only[cN,Al,Nat.sub_zero,g];by_cases I:i / 16=k
   ·rw[Af I,I,d]
    simp only;cases u:U4 cols (i%16)with
    | none=>rfl
    | some cj=>obtain⟨w1,w2⟩:=O2 u;have O:off≠cj.1:=fun e2=>D (by rw[ly0 hoff (by omega)];omega);simp only[ak,cq0,cQ,cd,Ae O]
   rw[Ae I]
  have hpr1:i<O6:=P.1;exact .inl ⟨i,o',p i (by omega) D (by omega),hold i o' D hh2,gf0.pureRow P.2⟩
 | none=>
  rw[h]at b;simp only at b;have b:((S.unf a e z jc jc' cols m).st.sub θ).objs i=some o:=b;rw[j3.sub_objs,tn0]at b;have hpa:=ni0 (lh0 C);by_cases Q:i=a
  case neg=>
   rw[Ae Q]at b;by_cases v:i=m
   ·rw[Af v]at b;cases b
   rw[Ae v]at b;cases hS:S.st.objs i with
   | none=>rw[hS]at b;cases b
   | some o0=>
    rw[hS]at b;simp only[ak,ah]at b;subst b;have hS':(S.st.del m).objs i=some o0:=by rw[j3.objs_del,Ae v,hS]
    rcases jU0 (S:={ S with st:=S.st.del m }) C hS' with h1 | ⟨h1,h2⟩
    ·exact Am h1 Q
    exact .inl ⟨i,o0.sub θ,s i h1,l i _ (ni0 h1).1 (by rw[AS.sub_st,j3.sub_objs,hS];rfl),gf0.ids s J h2⟩
  case pos=>
   subst Q;rw[Af rfl]at b;simp only[ak,ah]at b;subst b;refine .inl ⟨i,(l6.frow e z (.sy jc) cols kv off (some (.ss m c.2.2 f))).sub θ,s i (lh0 C),l i _ hpa.1 (by rw[AS.sub_st,j3.sub_objs,ha];rfl),?_⟩;simp only[l6.sub,u9,hjc,E,rowsOf,cC,ak,S3,hf,hk];have hfl:(T0 (H6 cols 0 rows) k off (some (.ms m c.2.2 0 xs.length))).length=rows.length:=by
    simp only[T0];split
    ·simp[J2]
    exact J2 _ _ _
   refine gf0.cells (by rw[hfl];simp[T0,J2,P5]) (fun r ra rb g1 g2=>?_);have n:(H6 cols 0 (N2 rows k off (.rs xs)))[r]?=some ra:=g1;rw[G6,g]at n;rw[aC0,G6]at g2;simp only[aG]at n g2;by_cases R:r=k
   ·subst R
    simp only[Al,ak,ah,d]at n g2;subst n;subst g2;refine⟨by simp[F6],fun t x y g3 g4=>?_⟩;rw[M4,cd]at g3;rw[cd,F6]at g4;by_cases U:off=t
    ·subst U
     simp only[Al,H,ak,ah,aG]at g3 g4;rw[<- g3,<-g4,V8,K];simp only[rowsOf];exact RV.ms him
    rw[Ae U]at g3 g4;rw[M4]at g4;rw[g4]at g3;cases g3;cases V:row[t]? with
    | none=>rw[V]at g4;cases g4
    | some x0=>
     rw[V]at g4;simp only[ak,ah,aG]at g4;rw[<- g4,V8];cases u:U4 cols t with
     | none=>simp only;obtain⟨Y,rfl⟩:=ar.1 d;obtain⟨Z,rfl⟩:=ar.1 V;exact RV.pur (U6 G r Y t Z)
     | some cj=>
      simp only;obtain⟨w1,w2⟩:=O2 u;have w:t<16:=by rw[<- w2];exact hc cj w1
      have B:hid r t≠hid r off:=fun e=>by obtain⟨e1,e2⟩:=mj0 (cols:=cols) hlen N N w hoff e;exact U e2.symm
      have:=dC0 r t;exact RV.ms (p _ (by omega) B (by omega))
   simp only[Ae R]at n g2;rw[g2]at n;cases n;refine⟨rfl,fun t x y g3 g4=>?_⟩;rw[g4]at g3;cases g3;cases I:rows[r]? with
   | none=>rw[I]at g2;cases g2
   | some row1=>
    rw[I]at g2;simp only[ak,ah]at g2;subst g2;have hrl:=(ar.1 I).1;rw[M4]at g4;cases V:row1[t]? with
    | none=>rw[V]at g4;cases g4
    | some x0=>
     rw[V]at g4;simp only[ak,ah,aG]at g4;rw[<- g4,V8];cases u:U4 cols t with
     | none=>simp only;obtain⟨Y,rfl⟩:=ar.1 I;obtain⟨Z,rfl⟩:=ar.1 V;exact RV.pur (U6 G r Y t Z)
     | some cj=>
      simp only;obtain⟨w1,w2⟩:=O2 u;have w:t<16:=by rw[<- w2];exact hc cj w1
      have B:hid r t≠hid k off:=fun e=>by obtain⟨e1,e2⟩:=mj0 (cols:=cols) hlen hrl N w hoff e;exact R e1
      have:=dC0 r t;exact RV.ms (p _ (by omega) B (by omega))
def mw0(cols:List Nat)(j:Nat)(v:AV):AV:=match cols.any (aB j)&&isNil v with
 | true=>.rs []
 | false=>v
def eI0(cols:List Nat):Nat->List AV->List AV
 | _,[]=>[]
 | j,v::vs=>mw0 cols j v::eI0 cols (j+1) vs
theorem jd0(cols:List Nat):∀ (row:List AV) (a j:Nat),(eI0 cols a row)[j]?=(row[j]?).map (mw0 cols (a+j))
 | [],a,j=>by simp[eI0]
 | v::vs,a,0=>by simp[eI0]
 | v::vs,a,j+1=>by simp only[eI0,List.getElem?_cons_succ];rw[jd0 cols vs (a+1) j];congr 2;omega
theorem ee0(cols:List Nat):∀ (row:List AV) (a:Nat),(eI0 cols a row).length=row.length
 | [],_=>rfl
 | _::vs,a=>by simp[eI0,ee0 cols vs]
def AS.nlz(S:AS)(a:Nat)(e:TypeId)(z:Nat)(es:List (List AV))(cols:List Nat):AS:=S.act a z 0 0 (pLo S) (S.st.set a (.row e z (es.map (eI0 cols 0))))
theorem nlz_st{S:AS}{θ:Nat->AV}(d:Fit θ){a:Nat}{e:TypeId}{z:Nat}{es:List (List AV)}{cols:List Nat}(ha:S.st.objs a=some (.row e z es))(f:ckB (pLo S) a S=true)(hes:mD0 (pLo S) es=true) :
  ∃ ι,Ren ι 0 (((S.nlz a e z es cols).sub θ).addH []) ((S.sub θ).addH []):=by
 let ι:Nat->Option (Option Nat):=fun i=>if i<S.st.next then some (some i)else none
 have b:∀ i,pLo S i=true->ι i=some (some i):=fun i hi=>by obtain⟨q1,q2⟩:=gT0 hi;simp only[ι,Af q2]
 refine⟨ι,jE0 d b f rfl (fun i k hk=>?_) (fun i j k h1 h2=>?_) (fun i o c=>?_)⟩
 ·simp only[ι]at hk
  show i<S.st.next;split at hk
  ·assumption
  cases hk
 ·have p:∀ i,ι i=some (some k)->i=k:=fun i hi=>by
   simp only[ι]at hi;split at hi
   ·cases hi;rfl
   cases hi
  rw[p i h1,p j h2]
 have c:((S.nlz a e z es cols).st.sub θ).objs i=some o:=c;rw[j3.sub_objs]at c;have l:(S.nlz a e z es cols).st.objs i=if i=a then some (.row e z (es.map (eI0 cols 0)))else S.st.objs i:=j3.objs_set _ _ _ _
 rw[l]at c;by_cases g:i=a
 ·subst g
  rw[Af rfl]at c;simp only[ak,ah]at c;subst c;refine .inl ⟨i,(l6.row e z es).sub θ,b i (lh0 f),by show (S.st.sub θ).objs i=_;rw[j3.sub_objs,ha];rfl,?_⟩;simp only[l6.sub];refine gf0.cells (by simp) (fun r t w g1 g2=>?_);rw[aS,aS]at g1;rw[aS]at g2;cases h:es[r]? with
  | none=>rw[h]at g2;cases g2
  | some row=>
   rw[h]at g1 g2;simp only[ak,ah]at g1 g2;subst g1;subst g2;refine⟨by simp[ee0],fun s x y g3 g4=>?_⟩;rw[aS,jd0]at g3;rw[aS]at g4;cases n:row[s]? with
   | none=>rw[n]at g4;cases g4
   | some v=>
    rw[n]at g3 g4;simp only[ak,ah,aG]at g3 g4;subst g3;subst g4;unfold mw0;split
    ·rename_i q
     simp only[ab]at q;rw[nR0 q.2];intro G u h;simp only[AV.sub]at h ⊢;cases h;exact .rsNil
    have hv:v.ids (pLo S)=true:=U0 (dc0 hes row (aN h)) v (aN n);exact RV.ids b (fu0 d _ v hv)
 rw[Ae g]at c;cases m:S.st.objs i with
 | none=>rw[m]at c;cases c
 | some o0=>
  rw[m]at c;simp only[ak,ah]at c;subst c;rcases jU0 f m with h1 | ⟨h1,h2⟩
  ·exact Am h1 g
  exact .inl ⟨i,o0.sub θ,b i h1,by show (S.st.sub θ).objs i=_;rw[j3.sub_objs,m];rfl,gf0.ids b d h2⟩
end Go.Ab
namespace Go.Ab
open Go
variable [B6]
inductive tW0
 | own (slot:Nat) (cols:bt0)
 | foc (slot:Nat) (t:TypeId) (off:Nat)
 | nlz (slot:Nat) (cols:List Nat)
def aZ0:List (Nat×l6)->Option Fam
 | []=>none
 | (a,.frow e z (.sy j) cols _ _ none)::_=>some ⟨a,e,z,j,cols⟩
 | _::l=>aZ0 l
def famM(l:Nat)(vals:List AV):Option Fam->Option Fam->Bool
 | none,none=>true
 | some F,some a=>up0 a.cols F.cols&&match ak0 l vals a.j with
  | .sy i=>aB i F.j
  | _=>false
 | _,_=>false
theorem sr0{l:Nat}{vals:List AV}{b a:Option Fam}(h:famM l vals b a=true)(θ:Nat->AV):kB0 a (fun i=>(ak0 l vals i).sub θ)=kB0 b θ/\(fi0 b θ->fi0 a (fun i=>(ak0 l vals i).sub θ)):=by
 cases b with
 | none=>cases a with
  | none=>exact⟨rfl,fun _=>trivial⟩
  | some _=>simp[famM]at h
 | some F=>cases a with
  | none=>simp[famM]at h
  | some c =>
   simp only[famM,ab]at h;obtain⟨h1,h2⟩:=h;split at h2
   ·rename_i i hi
    have e:=af h2;subst e;have hc:=jQ0 h1;refine⟨by simp only[kB0,hi,u9,hc],fun ⟨rows,g1,g2⟩=>⟨rows,by simp only[hi,u9];exact g1,by rw[hc];exact g2⟩⟩
   cases h2
abbrev KF:=Option Fam->EX->AS->Nat->RT
variable (T:Tab) (Φ:H7) (F:FuncId->Option Func) (H:Nat->Option Hint) (acts:Nat->Option tW0)
def kChk(a:Option Fam)(k:KF):KE:=fun e s fr=>match ed0 a s fr with
 | true=>k a e s fr
 | false=>.stuck
def kUnf(T:Tab)(M:Fam)(kv:Nat)(t:TypeId)(off:Nat)(c:Nat×TypeId×Nat)(k:KF):KE:=fun e s fr=>match s.st.objs M.a with
 | some (.frow g h (.sy i) b (.sy l) d (some (.ss m z2 f)))=>match s.st.objs m with
  | some (.xrow e3 z3 f3)=>
   match aB g M.e&&aB h M.z&&aB i M.j&&up0 b M.cols&&aB l kv&&aB d off&&aB z2 c.2.2&&aB e3 c.2.1&&aB z3 c.2.2&&aB f3 f&&ckB (pLo2 s m) M.a { s with st:=s.st.del m }&&di O6 m&&ed0 none s fr&&s.bnd fr&&cm f fr with
   | true=>.op (.rows [f]) fr (.sc (.bool true)) (.op (.xst t M.e M.z (.sy M.j) (.sy kv) off (.sy f)) fr (.sy fr) (k (some { M with j:=fr }) e (s.unf M.a M.e M.z M.j fr M.cols m) (fr+1)))
   | false=>.stuck
  | _=>.stuck
 | _=>.stuck
def actR(m:Nat)(id:Nat)(b:Option Fam)(c:Code)(s:AS)(fr:Nat)(k:KF):RT:=match acts id with
 | none=>exec T Φ F H m O6 c s fr (kChk b k)
 | some (.own sl cols)=>match b,s.get sl with
  | none,.ss a z j=>match s.st.objs a with
   | some (.xrow e d f)=>match aB f j&&aB d z&&ckB (pLo s) a s&&s.bnd fr&&cm j fr&&ed0 (some ⟨a,e,z,fr,cols⟩) (s.own a e z j fr cols) (fr+1)with
    | true=>.op (.ownr cols (.sy j)) fr (.sy fr) (exec T Φ F H m O6 c (s.own a e z j fr cols) (fr+1) (kChk (some ⟨a,e,z,fr,cols⟩) k))
    | false=>.stuck
   | _=>.stuck
  | _,_=>.stuck
 | some (.nlz sl cols)=>match b,s.get sl with
  | none,.ms a _ _ _=>match s.st.objs a with
   | some (.row e z es)=>match ckB (pLo s) a s&&mD0 (pLo s) es&&ed0 none (s.nlz a e z es cols) fr with
    | true=>exec T Φ F H m O6 c (s.nlz a e z es cols) fr (kChk none k)
    | false=>.stuck
   | _=>.stuck
  | _,_=>.stuck
 | some (.foc sl t off)=>match b,s.get sl with
  | some M,.sy kv=>match U4 M.cols off,T t with
   | some cc,some ti=>match !ti.isAgg&&aB ti.size 1&&ckB (pLo s) M.a s&&s.bnd fr&&cm kv fr&&ed0 none (s.foc M.a M.e M.z M.j M.cols (.sy kv) off cc fr) (fr+1)with
    | true=>.op (.xld t M.e M.z (.sy M.j) (.sy kv) off) fr (.sy fr) (exec T Φ F H m O6 c (s.foc M.a M.e M.z M.j M.cols (.sy kv) off cc fr) (fr+1) (kUnf T M kv t off cc k))
    | false=>.stuck
   | _,_=>.stuck
  | _,_=>.stuck
def fq0:Nat->Option Fam->Code->AS->Nat->KF->RT
 | 0,_,_,_,_,_=>.stuck
 | m+1,g,c,s,fr,k=>match c with
  | .seq a b=>fq0 m g a s fr fun l e s' f=>match e with
   | .nor=>fq0 m l b s' f k
   | e=>k l e s' f
  | .cond x a b=>match s.eval x with
   | .sc (.bool t)=>fq0 m g (if t then a else b) s fr k
   | .sy i=>.test i (fq0 m g a (s.ssub (aO0 i true)) fr k) (fq0 m g b (s.ssub (aO0 i false)) fr k)
   | _=>.stuck
  | .block id b=>fq0 m g b s fr fun l e s' f=>match e with
   | .exi j=>k l (if j=id then .nor else .exi j) s' f
   | e=>k l e s' f
  | .scope b=>fq0 m g b s fr k
  | .loop b=>match H (iB0 fr b s)with
   | some h=>match dk0 O6 fr h s,h.state.bnd (fr+h.k)&&ed0 (aZ0 h.objs) h.state (fr+h.k)&&ed0 g s fr with
    | some inits,true=>match famM fr inits g (aZ0 h.objs)with
     | true=>.loop fr h.k inits (fq0 m (aZ0 h.objs) b h.state (fr+h.k+1) fun n e s' f=>match e with
      | .nor=>match dk0 O6 fr h s' with
       | some vals=>match famM fr vals n (aZ0 h.objs)&&ed0 n s' f with
        | true=>.again fr vals
        | false=>.stuck
       | none=>.stuck
      | e=>k n e s' f)
     | false=>.stuck
    | _,_=>.stuck
   | none=>.stuck
  | .region id ops d=>match ed0 g s fr with
   | true=>actR T Φ F H acts m id g (.region id ops d) s fr k
   | false=>.stuck
  | .skip=>k g .nor s fr
  | .label _=>k g .nor s fr
  | .exit id=>k g (.exi id) s fr
  | .ret=>k g .ret s fr
  | _=>.stuck
def wk0(T:Tab)(fn:Func):KF:=fun b e s fr=>match b with
 | none=>match ed0 none s fr with
  | true=>kTop T fn e s fr
  | false=>.stuck
 | some M=>match e with
  | .exi _=>.stuck
  | _=>match ed0 (some M) s fr,fn.results.toList with
   | true,[.tmp t]=>match s.get t with
    | .ss a z j=>match aB a M.a&&aB z M.z&&aB j M.j with
     | true=>.ret (.sy M.j) []
     | false=>.stuck
    | _=>.stuck
   | _,_=>.stuck
section
variable {P:Program} {T:Tab} (hT:C0 P T) {Φ:H7} (hΦ:il0 P Φ) {F:FuncId->Option Func} (hF:∀ f fn,F f=some fn->P.funcs[f]?=some fn) (hm:P.follows .mixedOrders=true) {Q:AV->Prop}
def sG0(T:Tab)(Φ:H7)(Q:AV->Prop)(fr:Nat)(θ:Nat->AV)(A:Nat->List AV->Prop)(k:KF)(e:Exit)(t:AS):Prop :=∃ d a g c h b,e=EX.toExit d/\fr<=c/\Fit a/\(∀ i,i<fr->a i=θ i)/\(∀ l,l<fr->h l=A l)/\t=g.full b a/\fi0 b a/\E3 T Φ Q (k b d g c) a h
include hT hΦ hF hm in
theorem sk0{H:Nat->Option Hint}{m fr:Nat}{c:Code}{S:AS}{k:KE}{θ:Nat->AV}{A:Nat->List AV->Prop}{n:List (Nat×l6)}(hH:∀ p∈n,p.1<O6/\pureRow p.2=true){o:Nat}(r:ed0 none S o=true)(q:Fit θ)
  (h:E3 T Φ Q (exec T Φ F H m O6 c S fr k) θ A) :
  BWp P 0 c (fun e t=>∃ d a g b j,e=EX.toExit d/\fr<=b/\Fit a/\(∀ i,i<fr->a i=θ i)/\(∀ l,l<fr->j l=A l)/\t=(g.sub a).addH n/\E3 T Φ Q (k d g b) a j) ((S.sub θ).addH n):=by
 have s:=mf0 hT hΦ hF hm (H:=H) m O6 c S fr k θ A q h;refine BWp.mono (BWp.lower (cN O6) (by rw[AS.addH_st,X9];exact(hX0 r:O6<=S.st.next)) (BWp.frame (fun p hp=>?_) s)) ?_
 ·obtain⟨h1,h2⟩:=hH p hp
  exact⟨h1,h2,by rw[AS.sub_st,j3.sub_objs,io0 r h1];rfl⟩
 rintro e t ⟨s',⟨d,a,g,b,j,rfl,q1,q2,q3,q4,rfl,q6⟩,rfl⟩;exact⟨d,a,g,b,j,rfl,q1,q2,q3,q4,rfl,q6⟩
theorem qT0{a:Option Fam}{s:AS}{fr:Nat}(h:ed0 a s fr=true):ed0 none s fr=true:=by simp only[ed0,ab]at h ⊢;exact⟨h.1,trivial⟩
theorem oR0(cs:List AV)(j:Nat)(v:AV)(h:j+1<=cs.length):N5 cs j [v]=cs.set j v:=by
 apply h_;intro k;rw[eY0 cs j [v] (by simpa using h) k,cd];by_cases e:j=k
 ·subst e
  rw[Af (by simp),Af rfl,Af (by omega)];simp
 rw[Ae (by simp;omega),Ae e]
theorem wP0{t:TypeId}{ti:TI}(c:T t=some ti)(a:ti.isAgg=false){e:TypeId}{z j kv off:Nat}{θ:Nat->AV}{rows:List (List AV)}(hj:θ j=.rs rows){v:AV}(h:j9 T Φ θ (.xld t e z (.sy j) (.sy kv) off)=some v):∃ row,rows[Y8 (θ kv)]?=some row/\row[off]?=some v:=by
 have hst:(dX0 e z (.rs rows)).objs 0=some (.row e z rows):=by simp[dX0,j3.objs_set,rowsOf]
 simp only[j9,u9,hj,U3,hst]at h;cases b:rows[Y8 (θ kv)]? with
 | none=>rw[b]at h;cases h
 | some row=>rw[b]at h;simp only[c,E2,a]at h;exact⟨row,rfl,by simpa using h⟩
theorem wV0{t:TypeId}{ti:TI}(c:T t=some ti){e:TypeId}{z j kv off f:Nat}{θ:Nat->AV}{rows xs:List (List AV)}(hj:θ j=.rs rows)(hf:θ f=.rs xs){v:AV}(h:j9 T Φ θ (.xst t e z (.sy j) (.sy kv) off (.sy f))=some v):v=.rs (N2 rows (Y8 (θ kv)) off (.rs xs)):=by
 have hst:(dX0 e z (.rs rows)).objs 0=some (.row e z rows):=by simp[dX0,j3.objs_set,rowsOf]
 simp only[j9,u9,hj,hf,U7,AV.cells,c,hst]at h;cases b:rows[Y8 (θ kv)]? with
 | none=>rw[b]at h;cases h
 | some row=>
  rw[b]at h;simp only at h;split at h
  ·rename_i σ a
   split at a
   ·rename_i hc
    cases a;simp only[j3.objs_set,Al]at h;split at h
    ·cases h
     simp only[N2,b];rw[oR0 _ _ _ (by simpa using hc.2.1)]
    cases h
   cases a
  cases h
end
end Go.Ab
namespace Go.Ab
open Go
variable [B6]
section
variable {P:Program} {T:Tab} (hT:C0 P T) {Φ:H7} (hΦ:il0 P Φ) {F:FuncId->Option Func} (hF:∀ f fn,F f=some fn->P.funcs[f]?=some fn) (hm:P.follows .mixedOrders=true) {Q:AV->Prop}
include hT hΦ hF hm in
theorem rH0{H:Nat->Option Hint}{m fr:Nat}{c:Code}{S:AS}{a:Option Fam}{k:KF}{θ:Nat->AV}{A:Nat->List AV->Prop}(i:ed0 a S fr=true)(hw:fi0 a θ)(b:Fit θ)
  (h:E3 T Φ Q (exec T Φ F H m O6 c S fr (kChk a k)) θ A):BWp P 0 c (sG0 T Φ Q fr θ A k) (S.full a θ):=by
 refine BWp.mono (sk0 hT hΦ hF hm (fun p hp=>nn0 hw hp) (qT0 i) b h) ?_;rintro e t ⟨j,d,l,g,n,rfl,q1,q2,q3,q4,rfl,q6⟩;obtain⟨g1,g2⟩:=jg0 i q3;unfold kChk at q6;split at q6
 ·exact⟨j,d,l,g,n,a,rfl,q1,q2,q3,q4,by simp only[AS.full,g1],g2 hw,q6⟩
 exact q6.elim
theorem ws0{H:List (Nat×l6)}(h:∀ p∈H,p.1<O6/\pureRow p.2=true)(q:Nat×l6->Bool):∀ p∈H.filter q,p.1<O6/\pureRow p.2=true:=fun p hp=>h p (List.mem_filter.1 hp).1
include hT hΦ hF hm in
theorem vf0{H:Nat->Option Hint}{acts:Nat->Option tW0}{m id fr:Nat}{μ:Option Fam}{c:Code}{s:AS}{k:KF}{θ:Nat->AV}{A:Nat->List AV->Prop}(hB:ed0 μ s fr=true)(hw:fi0 μ θ)(D:Fit θ)
  (h:E3 T Φ Q (actR T Φ F H acts m id μ c s fr k) θ A):BWp P 0 c (sG0 T Φ Q fr θ A k) (s.full μ θ):=by
 unfold actR at h;split at h
 ·exact rH0 hT hΦ hF hm hB hw D h
 ·rename_i sl cols I
  split at h
  ·rename_i a z j hsl
   split at h
   ·rename_i e z' K ho
    split at h
    ·rename_i hc
     simp only[ab]at hc;obtain⟨⟨⟨⟨⟨c1,c2⟩,c3⟩,c4⟩,c5⟩,c6⟩:=hc;have e1:=af c1;have e2:=af c2;subst e1;subst e2;have E:K<fr:=by simpa[aZ]using c5
     obtain⟨r,g1,g2,g3,g4⟩:=h;have N:∃ rows,θ K=.rs rows/\vl0 cols rows=true/\r fr=.rs (rows.map (J5 cols 0)):=by
      simp only[j9,u9]at g3;split at g3
      ·rename_i rows hr
       split at g3
       ·rename_i o
        exact⟨rows,hr,o,(aW g3).symm⟩
       cases g3
      cases g3
     obtain⟨rows,hj,o,O⟩:=N;have hjt:r K=.rs rows:=by rw[g1 K E];exact hj
     obtain⟨ι,g⟩:=own_st g2 ho c3 hjt O o;have hpur:(AV.rs rows).pur=true:=by have:=(D K).pur;rw[hj]at this;exact this
     have hw':fi0 (some ⟨a,e,z',fr,cols⟩) r:=⟨_,O,(rO0 o hpur).1⟩;have hst:s.full none θ=(s.sub r).addH []:=by show (s.sub θ).addH []=_;rw[AS.sub_agree g1 c4]
     rw[hst];have R:((s.own a e z' K fr cols).sub r).addH (dh0 cols 0 (rows.map (J5 cols 0)))=(s.own a e z' K fr cols).full (some ⟨a,e,z',fr,cols⟩) r:=by simp only[AS.full,kB0,O,rowsOf]
     rw[R]at g;refine BWp.conv g (BWp.mono (rH0 hT hΦ hF hm c6 hw' g2 g4) ?_);rintro e0 t ⟨e',u,S',fr',A',μ',rfl,q1,q2,q3,q4,rfl,q6⟩;exact⟨e',u,S',fr',A',μ',rfl,by omega,q2,fun i hi=>(q3 i (by omega)).trans (g1 i hi),fun l hl=>q4 l (by omega),rfl,q6⟩
    exact h.elim
   exact h.elim
  exact h.elim
 ·rename_i sl cols I
  split at h
  ·rename_i a _ _ _ hsl
   split at h
   ·rename_i e z es ho
    split at h
    ·rename_i hc
     simp only[ab]at hc;obtain⟨⟨c1,c2⟩,c3⟩:=hc;obtain⟨ι,g⟩:=nlz_st (cols:=cols) D ho c1 c2;exact BWp.conv g (rH0 hT hΦ hF hm c3 trivial D h)
    exact h.elim
   exact h.elim
  exact h.elim
 rename_i sl t off I;split at h
 ·rename_i M kv hsl
  split at h
  ·rename_i cc ti w hti
   split at h
   ·rename_i hc
    simp only[ab]at hc;obtain⟨⟨⟨⟨⟨c1,c2⟩,c3⟩,c4⟩,c5⟩,c6⟩:=hc;have hagg:ti.isAgg=false:=by simpa using c1
    have hkf:kv<fr:=by simpa[aZ]using c5
    have E:=uQ0 hB;obtain⟨rows,hj,x⟩:=hw;obtain⟨v,g1,g2,g3,g4⟩:=h;obtain⟨row,B,n⟩:=wP0 hti hagg hj g3;obtain⟨hcm,hc1⟩:=O2 w;obtain⟨xs,hxs⟩:=x.2.2.2 row (aN B) cc hcm;rw[hc1,n]at hxs;have hf1:v fr=.rs xs:=by simpa using hxs
    rw[u9,hf1]at n;have hj1:v M.j=.rs rows:=by rw[g1 _ E];exact hj
    have U:v kv=θ kv:=g1 kv hkf;obtain⟨k0,off0,hobj⟩:=nG0 hB;obtain⟨ι,g⟩:=foc_st (S:=s) g2 (kv:=.sy kv) (off:=off) (c:=cc) (f:=fr) hobj c3 (hX0 hB) hj1 x (by rw[u9,U];exact B) w n hf1;have hst:s.full (some M) θ=(s.sub v).addH (dh0 M.cols 0 rows):=by simp only[AS.full,kB0,hj,rowsOf];rw[AS.sub_agree g1 c4]
    rw[hst];refine BWp.conv g ?_;have hfil:=ws0 (H:=dh0 M.cols 0 rows) (fun p hp=>eB0 x hp) (fun q=>!Nat.beq q.1 (hid (Y8 ((AV.sy kv).sub v)) off));refine BWp.convEnd (BWp.mono (sk0 hT hΦ hF hm hfil c6 g2 g4) ?_);rintro e0 t0 ⟨e',u,Z,d,A2,rfl,q1,q2,q3,q4,rfl,q6⟩;unfold kUnf at q6;split at q6
    ·rename_i e1 z1 j1 cols1 k1 off1 m1 z2 f1 ho1
     split at q6
     ·rename_i e3 z3 f3 ho3
      split at q6
      ·rename_i hc2
       simp only[ab]at hc2;obtain⟨⟨⟨⟨⟨⟨⟨⟨⟨⟨⟨⟨⟨⟨d1,d2⟩,d3⟩,d4⟩,d5⟩,d6⟩,d7⟩,d8⟩,d9⟩,d10⟩,d11⟩,d12⟩,d13⟩,d14⟩,d15⟩:=hc2;rw[af d1,af d2,af d3,jQ0 d4,af d5,af d6,af d7]at ho1;rw[af d8,af d9,af d10]at ho3;have hff:f1<d:=by simpa[aZ]using d15
       obtain⟨V,r1,r2,r3,b,s1,s2,s3,s4⟩:=q6;have hrs:∃ J,u f1=.rs J:=by
        simp only[j9,List.all_cons,List.all_nil,Bool.and_true]at r3;cases hv:u f1 with
        | rs J=>exact⟨J,rfl⟩
        | _=>rw[hv]at r3;cases r3
       obtain⟨J,hys⟩:=hrs;have a3:∀ i,i<d->b i=u i:=fun i hi=>(s1 i hi).trans (r1 i hi);have b3:∀ i,i<fr->b i=θ i:=fun i hi=>(a3 i (by omega)).trans ((q3 i (by omega)).trans (g1 i hi));have hj3:V M.j=.rs rows:=by rw[r1 _ (by omega),q3 _ (by omega)];exact hj1
       have hf3:V f1=.rs J:=by rw[r1 _ hff];exact hys
       have hk3:V kv=θ kv:=by rw[r1 _ (by omega),q3 _ (by omega)];exact U
       have hj4:b M.j=.rs rows:=by rw[b3 _ E];exact hj
       have hf4:b f1=.rs J:=by rw[a3 _ hff];exact hys
       have G:b kv=θ kv:=b3 _ hkf;have hv:=wV0 hti hj3 hf3 s3;rw[hk3]at hv;have C:b d=.rs (N2 rows (Y8 (θ kv)) off (.rs J)):=by simpa using hv
       obtain⟨ι2,Y⟩:=unf_st (S:=Z) (jc':=d) s2 (kv:=.sy kv) (off:=off) (c:=cc) ho1 ho3 d11 ⟨aU d12,hX0 d13⟩ hj4 x (by rw[u9,G];exact B) w n hf4 (by rw[u9,G];exact C);refine⟨ι2,_,?_,e',b,Z.unf M.a M.e M.z M.j d M.cols m1,d+1,A2,some { M with j:=d },rfl,by omega,s2,b3,fun l hl=>q4 l (by omega),rfl,?_,s4⟩
       ·have hl:(Z.unf M.a M.e M.z M.j d M.cols m1).full (some { M with j:=d }) b=((Z.unf M.a M.e M.z M.j d M.cols m1).sub b).addH (dh0 M.cols 0 (N2 rows (Y8 ((AV.sy kv).sub b)) off (.rs J))):=by simp only[AS.full,kB0,C,rowsOf,u9,G]
        have hr:(Z.sub u).addH ((dh0 M.cols 0 rows).filter (fun q=>!Nat.beq q.1 (hid (Y8 ((AV.sy kv).sub v)) off)))=(Z.sub b).addH ((dh0 M.cols 0 rows).filter (fun q=>!Nat.beq q.1 (hid (Y8 ((AV.sy kv).sub b)) off))):=by rw[AS.sub_agree a3 d14];simp only[u9,G,U]
        rw[hl,hr];exact Y
       refine⟨_,C,x.put ?_⟩;rw[<- hf4];exact(s2 f1).pur
      exact q6.elim
     exact q6.elim
    exact q6.elim
   exact h.elim
  exact h.elim
 exact h.elim
def ExOkF(P:Program)(T:Tab)(Φ:H7)(Q:AV->Prop)(ex:Option Fam->Code->AS->Nat->KF->RT):Prop :=∀ a c s fr k θ A,Fit θ->fi0 a θ->E3 T Φ Q (ex a c s fr k) θ A->BWp P 0 c (sG0 T Φ Q fr θ A k) (s.full a θ)
theorem kI0{θ:Nat->AV}{i:Nat}{b:Bool}(h:θ i=.sc (.bool b))(s:AS)(a:Option Fam):(s.ssub (aO0 i b)).full a θ=s.full a θ:=by simp only[AS.full,ef0 h]
theorem mb0(s:AS)(a:Option Fam)(θ:Nat->AV)(x:Operand):(s.full a θ).eval x=(s.eval x).sub θ:=by rw[<- AS.sub_eval];cases x<;>rfl
include hT hΦ hF hm in
theorem ow0{H:Nat->Option Hint}{acts:Nat->Option tW0}:∀ m,ExOkF P T Φ Q (fq0 T Φ F H acts m)
 | 0=>fun z c s fr k θ A _ _ h=>by simp[fq0,E3]at h
 | m+1=>by
  intro z c s fr k θ A u hw h;have R:=ow0 (H:=H) (acts:=acts) m;have self:∀ e,E3 T Φ Q (k z e s fr) θ A->sG0 T Φ Q fr θ A k (EX.toExit e) (s.full z θ):=fun e hh=>⟨e,θ,s,fr,A,z,rfl,ax _,u,fun _ _=>rfl,fun _ _=>rfl,rfl,hw,hh⟩;unfold fq0 at h
  skip
  split at h
  ·rename_i a b
   refine BWp.seq (BWp.mono (R z a s fr _ θ A u hw h) ?_);rintro e s' ⟨U,d,M,o,N,r,rfl,q1,q2,q3,q4,rfl,q5,q6⟩;cases U with
   | nor=>refine BWp.mono (R r b M o k d N q2 q5 q6) ?_;rintro e2 s2 ⟨e2',g,S2,E,A2,w,rfl,r1,r2,r3,r4,r5,r6⟩;exact⟨e2',g,S2,E,A2,w,rfl,bC q1 r1,r2,fun i hi=>(r3 i (by omega)).trans (q3 i hi),fun l hl=>(r4 l (by omega)).trans (q4 l hl),r5,r6⟩
   | exi j=>exact⟨.exi j,d,M,o,N,r,rfl,q1,q2,q3,q4,rfl,q5,q6⟩
   | ret=>exact⟨.ret,d,M,o,N,r,rfl,q1,q2,q3,q4,rfl,q5,q6⟩
  ·rename_i x a b
   split at h
   ·rename_i t hx
    refine BWp.cond (t:=t) (by rw[mb0,hx,I0]) ?_;exact R z _ s fr k θ A u hw h
   ·rename_i i hx
    have hev:∀ t,θ i=.sc (.bool t)->(s.full z θ).eval x=.sc (.bool t):=fun t ht=>by rw[mb0,hx,u9,ht]
    rcases h with ⟨G,hh⟩ | ⟨G,hh⟩
    ·refine BWp.cond (t:=true) (hev true G) ?_
     have:=R z a _ fr k θ A u hw hh;rw[kI0 G]at this;exact this
    refine BWp.cond (t:=false) (hev false G) ?_;have:=R z b _ fr k θ A u hw hh;rw[kI0 G]at this;exact this
   exact h.elim
  ·rename_i id b
   refine BWp.block (BWp.mono (R z b s fr _ θ A u hw h) ?_);rintro e s' ⟨U,d,M,o,N,r,rfl,q1,q2,q3,q4,rfl,q5,q6⟩;cases U with
   | nor=>exact⟨.nor,d,M,o,N,r,rfl,q1,q2,q3,q4,rfl,q5,q6⟩
   | ret=>exact⟨.ret,d,M,o,N,r,rfl,q1,q2,q3,q4,rfl,q5,q6⟩
   | exi j=>
    simp only[EX.toExit,cg0];simp only at q6;split
    ·rename_i e;rw[Af e]at q6;exact⟨.nor,d,M,o,N,r,rfl,q1,q2,q3,q4,rfl,q5,q6⟩
    rename_i e;rw[Ae e]at q6;exact⟨.exi j,d,M,o,N,r,rfl,q1,q2,q3,q4,rfl,q5,q6⟩
  ·rename_i b
   refine BWp.scope (BWp.mono (R z b s fr _ θ A u hw h) ?_);rintro e s' ⟨U,d,M,o,N,r,rfl,q⟩;exact⟨by cases U<;>trivial,U,d,M,o,N,r,rfl,q⟩
  ·rename_i b
   split at h
   ·rename_i hint hH
    split at h
    ·rename_i inits hmt V
     split at h
     ·rename_i hfm
      simp only[ab]at V;obtain⟨⟨hbd,hBh⟩,hB⟩:=V;obtain⟨I,⟨n1,hI0⟩,O⟩:=h;obtain⟨v1,v2,v3,ι,hren⟩:=bP0 u hmt;obtain⟨f1,f2⟩:=sr0 hfm θ;have Y:∀ (S:AS) (θ:Nat->AV) (fr0:Nat) (μ0:Option Fam),ed0 μ0 S fr0=true->∀ i,i<O6->(S.sub θ).st.objs i=none:=fun S θ fr0 μ0 G i hi=>by rw[AS.sub_st,j3.sub_objs,io0 G hi];rfl
      have J:=Ren.addH (H:=kB0 z θ) hren (fun p hp=>nn0 hw hp) (Y s θ fr z hB);have hst0:(hint.state.sub (fun i=>(ak0 fr inits i).sub θ)).addH (kB0 z θ)=hint.state.full (aZ0 hint.objs) (fun i=>(ak0 fr inits i).sub θ):=by simp only[AS.full,f1]
      rw[hst0]at J;refine BWp.conv J ?_;have B:∀ (vals:List AV) (d:Nat->AV) i,i<fr->(ak0 fr vals i).sub d=d i:=fun vals d i hi=>by
       unfold ak0;have:di fr i=false:=by
        cases G:di fr i with
        | false=>rfl
        | true=>have:=aU G;omega
       rw[this];simp
      have C:∀ (vals:List AV) (d:Nat->AV) j (hj:j<vals.length),(ak0 fr vals (fr+j)).sub d=(vals[j]).sub d:=fun vals d j hj=>by unfold ak0;rw[Nat.ble_eq_true_of_le (bc fr j)];simp[hj]
      have pad:∀ (vals:List AV) (d:Nat->AV),vals.length=hint.k->(∀ i,i<fr->d i=θ i)->(∀ j (hj:j<vals.length),d (fr+j)=vals[j])->Fit d->fi0 (aZ0 hint.objs) d ->
        ∃ g,(∀ i,i<fr->g i=θ i)/\(∀ j (hj:j<vals.length),g (fr+j)=vals[j])/\g (fr+hint.k)=.sc (.bool false)/\Fit g/\fi0 (aZ0 hint.objs) g/\hint.state.full (aZ0 hint.objs) d=hint.state.full (aZ0 hint.objs) g:=fun vals d p1 p2 p3 p4 p5=>by
       have hag:∀ i,i<fr+hint.k->(fun i=>if i=fr+hint.k then AV.sc (.bool false)else d i) i=d i:=fun i hi=>by simp only[show ¬ i=fr+hint.k by omega,Ah]
       obtain⟨w1,w2⟩:=jg0 hBh hag;refine⟨fun i=>if i=fr+hint.k then .sc (.bool false)else d i,fun i hi=>?_,fun j hj=>?_,by simp,fun i=>?_,w2 p5,?_⟩
       ·simp only[show ¬ i=fr+hint.k by omega,Ah];exact p2 i hi
       ·simp only[show ¬ fr+j=fr+hint.k by omega,Ah];exact p3 j hj
       ·show aU0 (if i=fr+hint.k then .sc (.bool false)else d i)
        split
        ·trivial
        exact p4 i
       simp only[AS.full,w1];rw[AS.sub_agree hag hbd]
      refine BWp.loop (fun k1 s1=>∃ vals d,I k1 vals/\vals.length=hint.k/\(∀ v∈vals,aU0 v)/\(∀ i,i<fr->d i=θ i)/\(∀ j (hj:j<vals.length),d (fr+j)=vals[j])/\Fit d/\fi0 (aZ0 hint.objs) d/\s1=hint.state.full (aZ0 hint.objs) d) ?_ (k:=n1) ?_
      ·rintro k1 s1 ⟨vals,θ0,g1,g2,g3,g40,g50,g60,g70,rfl⟩
       obtain⟨d,g4,g5,g5',g6,g6',g7⟩:=pad vals θ0 g2 g40 g50 g60 g70;rw[g7];have G:=R (aZ0 hint.objs) b hint.state (fr+hint.k+1) _ d _ g6 g6' (O k1 vals g1 g2 g3 d g4 g5 g5' g6);refine BWp.convEnd' (BWp.mono G ?_);rintro e s' ⟨U,g,S2,E,A2,w,rfl,q1,q2,q3,q4,rfl,q5,q6⟩;have hA2:A2 fr=fun n=>∃ m,m<k1/\I m n:=by rw[q4 fr (by omega)];simp
       have hlo:∀ i,i<fr->g i=θ i:=fun i hi=>(q3 i (by omega)).trans (g4 i hi);have Z:∀ l,l<fr->A2 l=A l:=fun l hl=>by rw[q4 l (by omega)];simp[Nat.ne_of_lt hl]
       cases U with
       | nor=>
        left;simp only at q6;split at q6
        ·rename_i n hm'
         split at q6
         ·rename_i D
          simp only[ab]at D;obtain⟨D,hB2⟩:=D;obtain⟨w1,w2,w3,ι',hren'⟩:=bP0 q2 hm';obtain⟨u1,u2⟩:=sr0 D g;have K:=Ren.addH (H:=kB0 w g) hren' (fun p hp=>nn0 q5 hp) (Y S2 g E w hB2);have hst2:(hint.state.sub (fun i=>(ak0 fr n i).sub g)).addH (kB0 w g)=hint.state.full (aZ0 hint.objs) (fun i=>(ak0 fr n i).sub g):=by simp only[AS.full,u1]
          rw[hst2]at K;refine⟨ι',_,K,?_⟩;simp only[EX.toExit,kp0];have q7:A2 fr (n.map (AV.sub g)):=q6;rw[hA2]at q7;obtain⟨m1,hm1,hI1⟩:=q7;refine⟨m1,hm1,n.map (AV.sub g),_,hI1,by simpa using w1,fun v hv=>?_,fun i hi=>by rw[B];exact hlo i hi;exact hi,fun j hj=>?_,w3,u2 q5,rfl⟩
          ·obtain⟨v0,hv0,rfl⟩:=aM.1 hv;exact w2 v0 hv0
          simp only[aD]at hj;rw[C n g j hj];simp
         exact q6.elim
        exact q6.elim
       | exi j=>right;exact⟨.exi j,g,S2,E,A2,w,rfl,by omega,q2,hlo,Z,rfl,q5,q6⟩
       | ret=>right;exact⟨.ret,g,S2,E,A2,w,rfl,by omega,q2,hlo,Z,rfl,q5,q6⟩
      refine⟨inits.map (AV.sub θ),_,hI0,by simpa using v1,fun v hv=>?_,fun i hi=>B _ _ i hi,fun j hj=>?_,v3,f2 hw,rfl⟩
      ·obtain⟨v0,hv0,rfl⟩:=aM.1 hv;exact v2 v0 hv0
      simp only[aD]at hj;rw[C inits θ j hj];simp
     exact h.elim
    exact h.elim
   exact h.elim
  ·split at h
   ·rename_i hB
    exact vf0 hT hΦ hF hm hB hw u h
   exact h.elim
  ·exact BWp.of_awp (AWp.skip (self .nor h))
  ·exact BWp.of_awp (AWp.label (self .nor h))
  ·exact BWp.of_awp (AWp.exit (self (.exi _) h))
  ·exact BWp.of_awp (AWp.ret (self .ret h))
  exact h.elim
theorem pL0{d:Fam}{θ:Nat->AV}{S:AS}{fr:Nat}(M:ed0 (some d) S fr=true){rows:List (List AV)}(hj:θ d.j=.rs rows)(hw:jO0 d.cols rows){G:j4}{w:World}{u:Value}(pl:Nat->Option Pl)
  (h:Rel G (S.full (some d) θ).st w) (N:Rep G (.ms d.a d.z 0 rows.length) u):Rep (G.frozen (S.full (some d) θ).st w pl) (.rs rows) u:=by
 obtain⟨k,off,l⟩:=nG0 M;have s:∀ i,i<O6->S.st.objs i=none:=fun i hi=>io0 M hi;have ha:O6<=d.a:=by refine jV fun E=>?_;rw[s _ E]at l;cases l
 have m:(S.full (some d) θ).st=Go.Ab.addH (dh0 d.cols 0 rows) (S.st.sub θ):=by simp only[AS.full,kB0,hj,rowsOf];rfl
 have O:(S.full (some d) θ).st.objs d.a=some (.row d.e d.z (H6 d.cols 0 rows)):=by rw[m,E8,kd0 ha,j3.sub_objs,l];simp only[ak,l6.sub,u9,hj,rowsOf,cC,T0]
 refine eu0 h pl N O (by rw[J2];omega) rfl (fun i hi H=>?_);have t:(H6 d.cols 0 rows)[0+i]?=some (Z7 d.cols i 0 rows[i]):=by simp only[G6,aG,ai hi,ak]
 have v:(H6 d.cols 0 rows)[0+i]=Z7 d.cols i 0 rows[i]:=by rw[ai H]at t;exact aW t
 refine⟨by rw[v,F6],fun j p I u0 hu=>?_⟩;have hc:(Z7 d.cols i 0 rows[i])[j]?=some (aw0 d.cols i j rows[i][j]):=by rw[M4,ai p];simp
 have J:(H6 d.cols 0 rows)[0+i][j]=aw0 d.cols i j rows[i][j]:=by
  have:(H6 d.cols 0 rows)[0+i][j]?=some (aw0 d.cols i j rows[i][j]):=by rw[v];exact hc
  rw[ai I]at this;exact aW this
 rw[J,V8]at hu;have g:(rows[i][j]).pur=true:=U6 hw.2.2.1 i hi j p;cases q:U4 d.cols j with
 | none=>rw[q]at hu;exact O0 (fun b o x=>F3 h x) hu g
 | some c=>
  rw[q]at hu;simp only at hu;obtain⟨B,r⟩:=O2 q;have C:j<16:=by rw[<- r];exact hw.2.1 c B
  obtain⟨xs,n⟩:=hw.2.2.2 rows[i] (aw hi) c B;rw[r,ai p]at n;have n:=aW n;rw[n]at hu g ⊢;have K:(S.full (some d) θ).st.objs (hid i j)=some (.row c.2.1 c.2.2 xs):=by rw[m,E8,jS0 hw.2.1 hw.1 (ai hi) C,q];simp only[ak,cq0,r,cQ,ai p,bS,n,rowsOf]
  simp only[rowsOf]at hu;refine eu0 h pl hu K (by omega) rfl (fun a ha R=>?_);have e0:xs[0+a]=xs[a]:=by congr 1;omega
  refine⟨by rw[e0],fun b x U V D=>?_⟩;have e1:xs[0+a][b]=xs[a][b]:=by congr 1
  rw[e1]at D;exact O0 (fun b o x=>F3 h x) D (U6 g a ha b x)
def oC0(n:Nat)(a:List AV):AS:={ AS.enter n a j3.none with st:={ (AS.enter n a j3.none).st with next:=O6 } }
include hT hΦ hF hm in
theorem fnF_ok {H:Nat->Option Hint} {acts:Nat->Option tW0} {m fr:Nat} {f:FuncId} {fn:Func} {c:Code} (J:F f=some fn) (x:(fn.name== "runtime.NumGoroutine")=false) (K:fn.body=some c) {d:List AV} (Z:d.length<=fn.ntmps) (hp:dt0 d=true)
  {θ:Nat->AV} (D:Fit θ) {r:AV} (h:E3 T Φ (fun c=>c=r) (fq0 T Φ F H acts m none c (oC0 fn.ntmps d) fr (wk0 T fn)) θ (fun _ _=>False)):E0 P ⟨f,d.map (AV.sub θ),r⟩:=by
 refine E0.of_body hT (hF f fn J) x K (by simpa using Z) (by rw[<- Z1,<-G4];exact P4 D d hp) ?_;refine BWp.raise (k:=O6) (by simp[AS.enter,j3.none]) ?_;have Y:=ow0 hT hΦ hF hm (Q:=fun c=>c=r) (H:=H) (acts:=acts) m none c (oC0 fn.ntmps d) fr (wk0 T fn) θ _ D trivial h;have hst:(oC0 fn.ntmps d).full none θ={ AS.enter fn.ntmps (d.map (AV.sub θ)) j3.none with st:={ (AS.enter fn.ntmps (d.map (AV.sub θ)) j3.none).st with next:=O6 } }:=by have e1:(AS.enter fn.ntmps d j3.none).sub θ=AS.enter fn.ntmps (d.map (AV.sub θ)) j3.none:=gP0 ..;show ({ (AS.enter fn.ntmps d j3.none).sub θ with st:={ ((AS.enter fn.ntmps d j3.none).sub θ).st with next:=O6 } }:AS)=_;rw[e1]
 rw[hst]at Y;refine BWp.mono Y ?_;rintro e s' ⟨E,i,n,B,N,O,rfl,_,f1,_,_,rfl,R,hl⟩;cases O with
 | none=>
  have s:E3 T Φ (fun c=>c=r) (match ed0 none n B with | true=>kTop T fn E n B | false=>.stuck) i N:=hl;split at s
  ·have fin:∀ l,E=l->(l=.nor\/l=.ret)->(l.toExit=.normal\/l.toExit=.ret)/\∃ v,C8 T fn (n.sub i)=some v/\∀ G w u pl,Rel G (n.sub i).st w->Rep G v u->Rep (G.frozen (n.sub i).st w pl) r u:=by
    intro l he hor;subst he;refine⟨by rcases hor with rfl | rfl<;>simp[EX.toExit],?_⟩;have g:E3 T Φ (fun c=>c=r) (match C8 T fn n with
     | some v=>match v.contP with
      | true=>.ret v.nilz []
      | false=>match aV0 n.st 50 v with
       | some c=>.ret c.nilz (Z4 n.st.tr)
       | none=>.stuck
     | none=>.stuck) i N:=by rcases hor with rfl | rfl<;>exact s
    split at g
    ·rename_i v hv
     refine⟨v.sub i,cG0 hv,?_⟩;intro G w u pl p hrep;split at g
     ·rename_i S
      obtain⟨_,C⟩:=g;rw[<- C];exact el0 v u (O0 (fun b o K=>F3 p K) hrep (bz0 f1 v S))
     split at g
     ·rename_i c hc
      obtain⟨q,C⟩:=g;rw[<- C];exact el0 c u (db0 f1 p pl (fun id e z j U=>q j (aQ0 U)) (fun id j U=>q j (V1 U)) 50 v c u hc hrep)
     exact g.elim
    exact g.elim
   cases E with
   | exi j=>exact s.elim
   | nor=>exact fin .nor rfl (.inl rfl)
   | ret=>exact fin .ret rfl (.inr rfl)
  exact s.elim
 | some M=>
  obtain⟨rows,hj,V⟩:=R;have fin:∀ l,E=l->(l=.nor\/l=.ret)->(l.toExit=.normal\/l.toExit=.ret)/\∃ v,C8 T fn (n.full (some M) i)=some v/\∀ G w u pl,Rel G (n.full (some M) i).st w->Rep G v u->Rep (G.frozen (n.full (some M) i).st w pl) r u:=by
   intro l he hor;subst he;refine⟨by rcases hor with rfl | rfl<;>simp[EX.toExit],?_⟩;have g:E3 T Φ (fun c=>c=r) (match ed0 (some M) n B,fn.results.toList with
    | true,[.tmp t]=>match n.get t with
     | .ss a z j=>match aB a M.a&&aB z M.z&&aB j M.j with
      | true=>.ret (.sy M.j) []
      | false=>.stuck
     | _=>.stuck
    | _,_=>.stuck) i N:=by rcases hor with rfl | rfl<;>exact hl
   split at g
   ·rename_i t hB I
    split at g
    ·rename_i a z j L2
     split at g
     ·rename_i hc
      simp only[ab]at hc;have e1:=af hc.1.1;have e2:=af hc.1.2;have e3:=af hc.2;subst e1;subst e2;subst e3;obtain⟨_,C⟩:=g;rw[u9,hj]at C;have hg:(n.full (some M) i).get t=.ms M.a M.z 0 rows.length:=by have:(n.full (some M) i).get t=(n.sub i).get t:=rfl;rw[this,AS.sub_get,L2,S3,hj];rfl
      refine⟨.ms M.a M.z 0 rows.length,?_,?_⟩
      ·simp only[C8,I,fd0,lP0,hg]
      intro G w u pl p hrep;rw[<- C];exact pL0 hB hj V pl p hrep
     exact g.elim
    exact g.elim
   exact g.elim
  cases E with
  | exi j=>exact hl.elim
  | nor=>exact fin .nor rfl (.inl rfl)
  | ret=>exact fin .ret rfl (.inr rfl)
end
def actL(l:List (Nat×tW0))(i:Nat):Option tW0:=match l with
 | []=>none
 | (j,a)::l=>match aB j i with
  | true=>some a
  | false=>actL l i
def gw0(T:Tab)(Φ:H7)(F:FuncId->Option Func)(H:List (Nat×Hint))(acts:List (Nat×tW0))(m:Nat)(f:FuncId)(a:List AV)(fr:Nat):RT :=
 match F f with
 | some fn=>match fn.body with
  | some c=>match !(fn.name== "runtime.NumGoroutine")&&di a.length fn.ntmps&&dt0 a with
   | true=>fq0 T Φ F (vB0 H) (actL acts) m none c (oC0 fn.ntmps a) fr (wk0 T fn)
   | false=>.stuck
  | none=>.stuck
 | none=>.stuck
theorem ml0{P:Program}{T:Tab}(hT:C0 P T){Φ:H7}(b:il0 P Φ){F:FuncId->Option Func}(hF:∀ f fn,F f=some fn->P.funcs[f]?=some fn)(hm:P.follows .mixedOrders=true){H:List (Nat×Hint)}{acts:List (Nat×tW0)}{m:Nat}{f:FuncId}{a:List AV}{fr:Nat}
  {θ:Nat->AV} (d:Fit θ) {r:AV} (h:E3 T Φ (fun c=>c=r) (gw0 T Φ F H acts m f a fr) θ (fun _ _=>False)):E0 P ⟨f,a.map (AV.sub θ),r⟩:=by
 unfold gw0 at h;split at h
 ·rename_i fn e
  split at h
  ·rename_i c g
   split at h
   ·rename_i hc
    simp only[ab,cO]at hc;exact fnF_ok hT b hF hm e hc.1.1 g (aU hc.1.2) hc.2 d h
   exact h.elim
  exact h.elim
 exact h.elim
end Go.Ab
namespace Go.Ab
open Go
variable [B6]
theorem vt0{P:Program}{T:Tab}{Φ:H7}{k:List TF}(i:∀ t∈k,t.Ok Φ){f:FuncId}{a:List AV}{tree:RT}
  (e:∀ θ,Fit θ->∀ r,E3 T Φ (fun c=>c=r) tree θ (fun _ _=>False)->E0 P ⟨f,a.map (AV.sub θ),r⟩)
  {S:Nat->Option SpL} {dom:SpL} {cod:Sp} {g:dom.T->Option cod.T} (o:ul0 T k S dom cod a tree=g) {x:dom.T} {v:cod.T} (h:g x=some v):E0 P ⟨f,y9 dom x,enc cod v⟩:=by
 subst o;unfold ul0 at h;cases hp:cC0 a dom []with
 | none=>simp only[hp]at h;cases h
 | some q=>
  obtain⟨Γ,p⟩:=q;simp only[hp]at h;obtain⟨vs,w,z,B⟩:=bg0 _ _ _ _ hp x ();have hl:=iX0 i _ Γ [] (p x ()) () (fun _ _=>False) (fun l s g hf=>by simp[lJ0]at hf) h;have d:fY0 Γ (p x ())=vs++[]:=w;have e1:Y9 (thE Γ (p x ())) a=y9 dom x:=by have m:=B [];rw[aT]at m;unfold thE;rw[d,<-D7 Γ (p x ()),d];exact m
  rw[eO0]at e1;have b:∀ u∈fY0 Γ (p x ()),aU0 u:=fun u hu=>by rw[d,bw]at hu;exact z u hu
  rw[<- e1];have j:=hl (by rw[D7]);have n:=j (fun u hu=>b u (by simpa using hu));rw[aL0,D7]at n;exact e _ (by have:=Fit.env (l:=(fY0 Γ (p x ())).reverse) (fun u hu=>b u (by simpa using hu));rw[aL0,D7]at this;exact this) _ n
theorem tf_okF{P:Program}{T:Tab}(hT:C0 P T){F:FuncId->Option Func}(hF:∀ f fn,F f=some fn->P.funcs[f]?=some fn)(hm:P.follows .mixedOrders=true){ts d:List TF}(hs:uW0 ts=true)(b:∀ t∈d,t.Ok (fz0 P ts)){t:TF}(e:t∈ts)(hf:cm t.f XT=true)
  {H:List (Nat×Hint)} {acts:List (Nat×tW0)} {m:Nat} {a:List AV} {fr:Nat} {S:Nat->Option SpL} (g:ul0 T d S t.dom t.cod a (gw0 T (fz0 P ts) F H acts m t.f a fr)=t.fn):t.Ok (fz0 P ts) :=
 T5 hs e fun x r i=>Good.memo (by simpa using hf) (vt0 b (fun θ c r h=>ml0 hT (jR0 P ts) hF hm c h) g i)
end Go.Ab
namespace Go.Ab
open Go Go.RowKit Go.WideShapes Go.ChangeShapes Go.Proofs
theorem Z9{H:Type}{enc:TypeId×Value->H}{a:Assume}{C:Checked}{os:Os}{f:FuncId}{fn:Func}{s:ChangeSpec}{conds:List PathCond}{apart fresh handsOn again:Bool}{X:World->Array Value->Prop}
  (u:∀ (w w':World) (args:Array Value),w.heap=w'.heap->X w args->X w' args)
  (own:ownKnob C.prog.godebug=none) (started:os.Started) (c:C.prog.inits.idxOf? f=none) (m:C.prog.funcs[f]?=some fn)
  (witness:∃ (w:World) (tape:Tape) (i:Input),w.os=os/\(w.forCall tape i).Shaped C.prog/\i.vars=[]/\Input.okWide C.prog (w.forCall tape i) .any w.heap.size f i /\
   ((s.pre enc C.prog fn conds apart (w.forCall tape i).memory i.args/\X (w.forCall tape i).memory i.args)/\sizedMet enc C.prog fn (iL s) apart (w.forCall tape i).memory i.args)/\a.holds C.prog (lone (kI C.prog f i.args .normal) [] (w.forCall tape i)))
  (b:∀ (W:World) (base:Nat) (args:Array Value) (g gs:List (DataW H)) (before:List MemPlace),
   (∀ (j:Nat) t v,fn.params[j]?=some t->args[j]?=some v->fS C.prog W .any base t v) ->
   DataW.Whole enc C.prog fn.params.toList s.vars apart W args.toList g gs before ->
   conds.all (PathCond.test C.prog ⟨fn.params.toList,g,s.plain.varTypes C.prog,gs⟩)=true ->
   (DataW.weightsEach C.prog (fn.params.toList++s.plain.varTypes C.prog) (g++gs)).all (·<=reachBytes)=true->X W args ->
   W.ShapedOpen C.prog ->
   a.holds C.prog (lone (kI C.prog f args .normal) [] W) ->
   Calls C.prog f args W fun e r=>∃ v,e=.returned v/\s.post enc C.prog fn apart fresh handsOn again W args v r) :
  ReturnsInHanded a C os f .any (fun w args=>(s.pre enc C.prog fn conds apart w args/\X w args)/\sizedMet enc C.prog fn (iL s) apart w args) (s.post enc C.prog fn apart fresh handsOn again):=by
 refine returnsInHanded_of_calls own started c witness ?_;intro w tape i _ n _ o h d;obtain⟨_,_,_,p,k,_,_,_,_,l⟩:=o;have e:p=fn:=aW (k.symm.trans m);subst e;obtain⟨⟨⟨g,gs,before,hw,hc⟩,x⟩,hz⟩:=h;have q:=kY (w':=w.forCall tape i) (by rfl) hw;refine(b (w.forCall tape i) w.heap.size i.args g gs before l q hc (hz.weights hw) (u _ _ _ (by rfl) x) n d).mono fun e r ⟨v,he,hp⟩=>?_;subst he;exact lg hp
variable [B6]
def mkL:List Sp->SpL
 | []=>.nil
 | [s]=>.one s
 | s::s'::l=>.cons s (mkL (s'::l))
mutual
def Bn(N:Nat):(s:Sp)->s.T->Prop
 | .int k,x=>(Lit.int k x).wf=true
 | .str,x=>x.size<=N
 | .sl l,xs=>xs.length<=N/\∀ x∈xs,BnL N l x
 | .agg l,x=>BnL N l x
 | .bool,_=>True
 | .ptr _,_=>True
 | .fmap _,_=>True
 | .tup _,_=>True
 | .fn _ _,_=>True
 | .tt,_=>True
 | .nl,_=>True
def BnL(N:Nat):(l:SpL)->l.T->Prop
 | .nil,_=>True
 | .one s,x=>Bn N s x
 | .cons s l,x=>Bn N s x.1/\BnL N l x.2
end
def fg0(N:Nat):List Sp->List AV->Prop
 | [],[]=>True
 | s::L,v::c=>(∃ x:s.T,v=enc s x/\Bn N s x)/\fg0 N L c
 | _,_=>False
theorem fg0.app{N:Nat}:∀ {L M:List Sp} {c d:List AV},fg0 N L c->fg0 N M d->fg0 N (L++M) (c++d)
 | [],_,[],_,_,h=>h
 | [],_,_::_,_,h,_=>by cases h
 | _::_,_,[],_,h,_=>by cases h
 | s::L,_,v::c,_,h,h'=>⟨h.1,fg0.app h.2 h'⟩
theorem fg0.mk{N:Nat}:∀ {L:List Sp} {c:List AV},fg0 N L c->∃ x:(mkL L).T,c=y9 (mkL L) x/\BnL N (mkL L) x
 | [],[],_=>⟨(),rfl,trivial⟩
 | [],_::_,h=>by cases h
 | [s],[v],h=>by obtain⟨⟨x,a,b⟩,_⟩:=h;exact⟨x,by rw[a];rfl,b⟩
 | [s],[],h=>by cases h
 | [s],_::_::_,h=>by cases h.2
 | s::s'::L,[],h=>by cases h
 | s::s'::L,v::c,h=>by obtain⟨⟨x,a,b⟩,h2⟩:=h;obtain⟨y,d,hc⟩:=fg0.mk (L:=s'::L) h2;exact⟨(x,y),by rw[a,d];rfl,b,hc⟩
def pf0{α:Type}:List (Option (List α))->Option (List α)
 | []=>some []
 | some l::r=>(pf0 r).map (l++·)
 | none::_=>none
def W3(P:Program):Nat->TypeId->Option (List Sp)
 | 0,_=>none
 | k+1,t=>match P.underlying t with
  | some .bool=>some [.bool]
  | some (.int a)=>some [.int a]
  | some .string=>some [.str]
  | some (.slice e)=>(W3 P k e).map fun L=>[.sl (mkL L)]
  | some (.struct fs)=>if ez0 P fs.toList 0 (P.cellsOf t)then pf0 (fs.toList.map fun f=>W3 P k f.type)else none
  | _=>none
theorem sp0{N:Nat}{L:List Sp}:∀ {es:List (List AV)},(∀ c∈es,fg0 N L c)->∃ xs:List (mkL L).T,es=xs.map (y9 (mkL L))/\∀ x∈xs,BnL N (mkL L) x
 | [],_=>⟨[],rfl,fun x h=>by cases h⟩
 | c::es,h=>by
  obtain⟨x,e,f⟩:=fg0.mk (h c (by simp));obtain⟨xs,a,b⟩:=sp0 (es:=es) fun c' hc=>h c' (by simp[hc]);refine⟨x::xs,by rw[e,a];rfl,fun y d=>?_⟩;rcases aC.1 d with rfl | d
  ·exact f
  exact b y d
theorem fo0{P:Program}{N:Nat}:∀ (k:Nat) (t:TypeId) {c:List AV} {L:List Sp},Sh P N t c->W3 P k t=some L->fg0 N L c
 | 0,t,c,L,_,h=>by cases h
 | k+1,t,c,L,hs,h=>by
  unfold W3 at h;split at h
  ·rename_i i
   cases h;cases hs with
   | bool b h2=>exact⟨⟨b,rfl,trivial⟩,trivial⟩
   | int h2=>rw[i]at h2;cases h2
   | str h2=>rw[i]at h2;cases h2
   | slice h2=>rw[i]at h2;cases h2
   | struct h2=>rw[i]at h2;cases h2
  ·rename_i w i
   cases h;obtain⟨n,rfl,hw⟩:=hs.int_inv i;exact⟨⟨n,rfl,hw⟩,trivial⟩
  ·rename_i i
   cases h;obtain⟨s,rfl,hw⟩:=hs.str_inv i;exact⟨⟨s,rfl,hw⟩,trivial⟩
  ·rename_i e i
   obtain⟨es,rfl,hl,hes⟩:=hs.slice_inv i;cases d:W3 P k e with
   | none=>rw[d]at h;cases h
   | some M=>rw[d]at h;simp only[ak,ah]at h;subst h;obtain⟨xs,rfl,q⟩:=sp0 fun c hc=>fo0 k e (hes c hc) d;exact⟨⟨xs,rfl,by simpa using hl,q⟩,trivial⟩
  ·rename_i fs i
   split at h
   ·rename_i j
    obtain⟨hlen,hf⟩:=hs.struct_inv i;have key:∀ (l:List Field) (o:Nat) (L:List Sp),(∀ f∈l,f∈fs.toList)->ez0 P l o (P.cellsOf t)=true->pf0 (l.map fun f=>W3 P k f.type)=some L->fg0 N L (c.drop o):=by
     intro l
     induction l with
     | nil=>intro o L _ m d;have:o=P.cellsOf t:=af m;cases d;rw[this,<-hlen,gK];trivial
     | cons f l r=>
      intro o L hm m d;simp only[ez0,ab]at m;have p:f.offset=o:=af m.1;simp only[az]at d;cases h1:W3 P k f.type with
      | none=>rw[h1]at d;cases d
      | some M=>
       rw[h1]at d;simp only[pf0]at d;cases h2:pf0 (l.map fun f=>W3 P k f.type)with
       | none=>rw[h2]at d;cases d
       | some u =>
        rw[h2]at d;simp only[ak,ah]at d;subst d;have a:=fo0 k f.type (hf f (hm f (by simp))) h1;have b:=r (o+P.cellsOf f.type) u (fun g v=>hm g (by simp[v])) m.2 h2;rw[p]at a;have e:c.drop o=(c.drop o).take (P.cellsOf f.type)++c.drop (o+P.cellsOf f.type):=by rw[<- ig,fM]
        rw[e];exact a.app b
    have:=key fs.toList 0 L (fun _ h=>h) j h;simpa using this
   cases h
  cases h
section
variable {H:Type} {en:TypeId×Value->H} {P:Program} {w:World} {base:Nat} {spare:Nat->Bool} {held:Bool}
def gc0(P:Program):Nat->TypeId->DataW H->Option (List Value)
 | 0,_,_=>none
 | k+1,t,d=>match P.underlying t,d with
  | some (.int c),.lit (.int b n)=>some [.int b n]
  | some (.array _ e),.agg a=>if aB (P.cellsOf t) (a.length*P.cellsOf e)then pf0 (a.map fun d=>gc0 P k e d)else none
  | some (.struct fs),.agg a=>if ez0 P fs.toList 0 (P.cellsOf t)then pf0 ((fs.toList.zip a).map fun x=>gc0 P k x.1.type x.2)else none
  | _,_=>none
theorem ig0:∀ (k:Nat) (t:TypeId) {fuel:Nat} {cs:List Value} {d:DataW H} {p:List MemPlace} {l:List Value},DataW.trod en P w base spare held fuel t cs=some (d,p)->gc0 P k t d=some l->cs=l
 | 0,t,_,_,_,_,_,_,h=>by cases h
 | k+1,t,fuel,cs,d,p,l,s,h=>by
  unfold gc0 at h;split at h
  ·rename_i G D n hu
   obtain⟨m,rfl,e,_⟩:=DataW.trod_int hu s;cases h;cases e;rfl
  ·rename_i n e E hu
   obtain⟨xs,m,rfl,ex,hlen,u,g⟩:=DataW.trod_array hu s;simp only[cy,iX]at ex;obtain⟨rfl,_⟩:=ex;split at h
   ·rename_i v
    have v:=af v;rw[aD,u]at v;have key:∀ (j i:Nat) (l:List Value),i+j=n->pf0 (((xs.map (·.1)).drop i).map fun d=>gc0 P k e d)=some l->cs.drop (i*P.cellsOf e)=l:=by
     intro j
     induction j with
     | zero=>
      intro i l hi hl;have:i=n:=by omega
      subst this;rw[dU (by simp[u])]at hl;cases hl;exact dU (by omega)
     | succ j z=>
      intro i l hi hl;have c:i<xs.length:=by omega
      rw[bM (by simpa using c)]at hl;simp only[az,cn]at hl;cases h1:gc0 P k e xs[i].1 with
      | none=>rw[h1]at hl;cases hl
      | some l1=>
       rw[h1]at hl;simp only[pf0]at hl;cases h2:pf0 (((xs.map (·.1)).drop (i+1)).map fun d=>gc0 P k e d)with
       | none=>rw[h2]at hl;cases hl
       | some l2=>rw[h2]at hl;simp only[ak,ah]at hl;subst hl;have f:=g i (by omega);rw[ai c]at f;have a:=ig0 k e (d:=xs[i].1) (p:=xs[i].2) f h1;have b:=z (i+1) l2 (by omega) h2;rw[bI,jk]at b;rw[<- a,<-b,<-ig,fM]
    have:=key n 0 l (by omega) (by simpa using h);simpa using this
   cases h
  ·rename_i fs E hu
   obtain⟨xs,m,rfl,ex,hlen,u,g⟩:=DataW.trod_struct hu s;simp only[cy,iX]at ex;obtain⟨rfl,_⟩:=ex;split at h
   ·rename_i q
    have key:∀ (j i o:Nat) (l:List Value),i+j=fs.size->ez0 P (fs.toList.drop i) o (P.cellsOf t)=true->pf0 (((fs.toList.drop i).zip ((xs.map (·.1)).drop i)).map fun x=>gc0 P k x.1.type x.2)=some l->cs.drop o=l:=by
     intro j
     induction j with
     | zero=>intro i o l hi r hl;rw[dU (by simp;omega)]at r hl;have:o=P.cellsOf t:=af r;cases hl;exact dU (by omega)
     | succ j z=>
      intro i o l hi r hl;have c:i<xs.length:=by omega
      have B:i<fs.toList.length:=by simp;omega
      rw[bM B]at r hl;rw[bM (l:=xs.map (·.1)) (by simpa using c)]at hl;simp only[ez0,ab]at r;have C:=af r.1;simp only[List.zip_cons_cons,az,cn]at hl;cases h1:gc0 P k fs.toList[i].type xs[i].1 with
      | none=>rw[h1]at hl;cases hl
      | some l1=>
       rw[h1]at hl;simp only[pf0]at hl;cases h2:pf0 (((fs.toList.drop (i+1)).zip ((xs.map (·.1)).drop (i+1))).map fun x=>gc0 P k x.1.type x.2)with
       | none=>rw[h2]at hl;cases hl
       | some l2=>rw[h2]at hl;simp only[ak,ah]at hl;subst hl;have f:=g i fs.toList[i] (by simp);rw[ai c]at f;have a:=ig0 k _ (d:=xs[i].1) (p:=xs[i].2) f h1;have b:=z (i+1) (o+P.cellsOf fs.toList[i].type) l2 (by omega) r.2 h2;rw[C]at a;rw[<- a,<-b,<-ig,fM]
    have:=key fs.size 0 0 l (by omega) (by simpa using q) (by simpa using h);simpa using this
   cases h
  cases h
theorem pg0{n:String}{d:DataW Unit}{g:Nat}{t:TypeId}{k:Nat}{l:List Value}(h:laidMetH P [(n,d)] w)(j:([(n,d)].all fun x=>x.2.handleName?.isNone)=true)(m:P.globalNamed n=some g)(p:(P.globals[g]?).map (·.type)=some t)(hl:gc0 P k t d=some l) :
  ∀ o v,l[o]?=some v->(j4.ofWorld w).cell g o=some v:=by
 rw[lh _ _ _ j]at h;obtain⟨ps,⟨g0,t0,b,f0,p0,q0,a,c,f,i,_⟩,_⟩:=h;obtain rfl:=aW (m.symm.trans a);obtain rfl:=aW (p.symm.trans c);have e:=ig0 k t i hl;intro o v q;have hc:=World.var?_cell a f o;have h1:b[o]?=some v:=by rw[<- Array.getElem?_toList,e];exact q
 have h2:w.cell? ⟨g,o,none⟩=some v:=by first | exact hc.trans h1 | exact hc.symm.trans h1 | (rw[h1]at hc;exact hc) | (simpa[h1]using hc)
 exact(aY0 h2).2
end
theorem af0{P:Program}{W:World}{base:Nat}{t:TypeId}{b:IntKind}{v:Value}(a:P.underlying t=some (.int b))(hv:fS P W .any base t v):v.cells.toList=[v]:=by unfold fS at hv;rw[a]at hv;simp only at hv;cases v<;>simp[Cell.okWide,Cell.ok,a]at hv<;>rfl
theorem jB0{n:Int}(h:(Lit.int .u16 n).wf=true):0<=n/\n<=65535:=by simp[Lit.wf,IntKind.min,IntKind.max,IntKind.bits,IntKind.signed]at h;omega
end Go.Ab
namespace Go.Ab
variable [B6]
open Go Go.Sort Go.Proofs Go.Shelf
theorem oL0{W w':World}(hs:W.heap.size<=w'.heap.size)(a:∀ b,b<W.heap.size->w'.heap[b]?=W.heap[b]?)(j:W.drawn<=w'.drawn)(h:w'.os=W.os)(i:w'.tape=W.tape)(hp:w'.output=W.output):∃ q e,w'=grow (W.drewN q) e:=by
 refine⟨w'.drawn-W.drawn,w'.heap.extract W.heap.size w'.heap.size,?_⟩;have e1:w'.heap=W.heap++w'.heap.extract W.heap.size w'.heap.size:=by
  apply Array.ext_getElem?;intro k;by_cases hk:k<W.heap.size
  ·rw[cP hk,a k hk]
  rw[Array.getElem?_append_right (by omega),Array.getElem?_extract];by_cases l:k<w'.heap.size
  ·rw[Af (by omega)]
   congr 1;omega
  rw[Ae (by omega),Array.getElem?_eq_none (by omega)]
 cases w' with
 | mk heap tape drawn os output=>
 cases W with
 | mk f g d m c=>
 simp only at hs a j h i hp e1;subst h;subst i;subst hp;simp only[grow,World.drewN];rw[<- e1];congr 1;omega
theorem E0.grows {P:Program} {g:FuncId} {fn:Func} (t:P.funcs[g]?=some fn) (f:(fn.name== "runtime.NumGoroutine")=false) (i:fn.body.isNone=false) {args:List AV} {v:Value} (hm:E0 P ⟨g,args,.sc v⟩)
  {G:j4} {W:World} {vs:List Value} (j:B8 G args vs) (d:Rel G j3.none W):Calls P g vs.toArray W (fun e w'=>e=.returned v/\∃ q k,w'=grow (W.drewN q) k):=by
 have n:(callFunc g vs.toArray).run P W=.ok (.enter g vs.toArray) W:=by simp only[callFunc,ao,run_program,ae,t,f,i,aq,Ah,au]
 have h:=hm j3.none G vs W j d { (default:Oper)with dst:=some 0 } ⟨#[undef],[]⟩ (fun a' w'=>a'.tmps[0]?=some v/\∃ q k,w'=grow (W.drewN q) k) (fun _ _ _=>False) (by
  rintro u z σ' G' w' r w a ⟨rfl,rfl⟩;cases w;refine⟨by simp[kg],?_⟩;have l:∀ b,b<W.heap.size->w'.heap[b]?=W.heap[b]?:=fun b x=>r.fr.same b x (fun id o p h=>by rw[j3.none_objs]at h;cases h);have m:=r.le.w0;exact oL0 r.fr.size l r.fr.drawn (by rw[a.os,m,d.os]) (by rw[a.tape,m,d.tape]) (by rw[a.output,m,d.output]))
 rw[n]at h;simp only[Oper.upon]at h;refine h.mono ?_;intro e w' s;cases e with
 | returned u=>simp only[kg]at s;obtain⟨h1,h2⟩:=s;simp at h1;exact⟨by rw[h1],h2⟩
 | panicked c=>exact s.elim
 | outgrown=>obtain⟨_,_,hf⟩:=s;exact hf.elim
theorem Rel.turned{G:j4}{σ:j3}{w w':World}(h:Rel G σ w){id:Nat}{o o':l6}{p:Pl}(l:σ.objs id=some o)(hp:G.pl id=some p)(hv:p.virt=false)(hs:w.heap.size<=w'.heap.size)(s:w'.os=w.os)(d:w'.tape=w.tape)(m:w'.output=w.output)(E:w.drawn<=w'.drawn)
  (a:∀ k,k<w.heap.size->k≠p.block->w'.heap[k]?=w.heap[k]?) (t:N1 G p o' w'.heap[p.block]?):Rel G (σ.set id o') w'/\Fr G σ w G (σ.set id o') w':=by
 obtain⟨n,u,_⟩:=h.real l hp hv;refine⟨⟨s.trans h.os,d.trans h.tape,m.trans h.output,bC h.size hs,fun b x g=>?_,h.fresh,fun i x c=>?_,fun i j oi oj pi pj h1 h2 r D v1 v2 H=>?_,h.glob⟩,⟨hs,fun b g I=>a b g (fun e=>I id o p l hp hv e.symm),fun i x q h1 h2 r D=>?_,fun _ _ h=>.inl h,E⟩⟩
 ·rw[a b (h.lt g) (fun e=>by rw[e,n]at g;cases g)];exact h.imm b x g
 ·by_cases e:i=id
  ·subst e
   simp[j3.objs_set]at c;subst c;exact⟨p,hp,.inr ⟨hv,n,u,t⟩⟩
  simp[j3.objs_set,e]at c;obtain⟨q,v,hl⟩:=h.objs i x c;refine⟨q,v,?_⟩;rcases hl with hl | ⟨f,z,B,C⟩
  ·exact .inl hl
  refine .inr ⟨f,z,B,?_⟩;rw[a q.block (h.obj_lt c v f) (fun J=>e (h.sep i id x o q p c l v hp f hv J))];exact C
 ·have aux:∀ i x,(σ.set id o').objs i=some x->∃ y,σ.objs i=some y:=fun i x c=>by
   by_cases e:i=id
   ·exact⟨o,by rw[e];exact l⟩
   exact⟨x,by simpa[j3.objs_set,e]using c⟩
  obtain⟨K,M⟩:=aux i oi h1;obtain⟨N,a2⟩:=aux j oj h2;exact h.sep i j K N pi pj M a2 r D v1 v2 H
 by_cases e:i=id
 ·subst e
  exact⟨i,o,q,l,h2,r,rfl⟩
 exact⟨i,x,q,by simpa[j3.objs_set,e]using h1,h2,r,rfl⟩
theorem Rel.without{G:j4}{σ:j3}{w w':World}(h:Rel G σ w){id:Nat}{o:l6}{p:Pl}(B:σ.objs id=some o)(hp:G.pl id=some p)(hv:p.virt=false)(hs:w.heap.size<=w'.heap.size)(n:w'.os=w.os)(c:w'.tape=w.tape)(l:w'.output=w.output)
  (a:∀ k,k<w.heap.size->k≠p.block->w'.heap[k]?=w.heap[k]?):Rel G (σ.del id) w':=by
 obtain⟨r,C,_⟩:=h.real B hp hv;have back:∀ i x,(σ.del id).objs i=some x->i≠id/\σ.objs i=some x:=fun i x g=>by
  rw[j3.objs_del]at g;split at g
  ·cases g
  rename_i e;exact⟨e,g⟩
 refine⟨n.trans h.os,c.trans h.tape,l.trans h.output,bC h.size hs,fun b x m=>?_,h.fresh,fun i x g=>?_,fun i j oi oj pi pj h1 h2 D E v1 v2 H=>h.sep i j oi oj pi pj (back _ _ h1).2 (back _ _ h2).2 D E v1 v2 H,h.glob⟩
 ·rw[a b (h.lt m) (fun e=>by rw[e,r]at m;cases m)];exact h.imm b x m
 obtain⟨s,d⟩:=back i x g;obtain⟨q,t,hl⟩:=h.objs i x d;refine⟨q,t,?_⟩;rcases hl with hl | ⟨f,u,v,z⟩
 ·exact .inl hl
 refine .inr ⟨f,u,v,?_⟩;rw[a q.block (h.obj_lt d t f) (fun I=>s (h.sep i id x o q p d B t hp f hv I))];exact z
theorem Rel.frozen_none{G:j4}{σ:j3}{w:World}(h:Rel G σ w):Rel (G.frozen σ w (fun _=>none)) j3.none w :=
 ⟨h.os,h.tape,h.output,h.size,fun b x a=>by
   simp only[j4.frozen]at a;split at a
   ·exact a
   exact h.imm b x a,fun _ _=>rfl,(fun id o h=>by rw[j3.none_objs]at h;cases h),(fun i j oi oj pi pj h=>by rw[j3.none_objs]at h;cases h),fun b o v hv=>cd0 h (h.glob b o v hv)⟩
def D9(es:List (List AV))(i:Nat):List AV:=(es[i]?).getD (es.headD [])
theorem L6{es:List (List AV)}(h:es≠[])(i:Nat):D9 es i∈es:=by
 unfold D9;cases hi:es[i]? with
 | some r=>exact aN hi
 | none=>
  cases es with
  | nil=>exact Am rfl h
  | cons a l=>simp
def H2(cf:List AV->List AV->Int):List (List AV)->List (List AV)
 | []=>[]
 | r::l=>((pdq (ltOf (fun i j=>cf (D9 (r::l) i) (D9 (r::l) j))) (bd (r::l).length) 0 (r::l).length (dM (r::l).length) true true).toList).map (D9 (r::l))
theorem dW0{cf:List AV->List AV->Int}{es:List (List AV)}(h:es≠[]):H2 cf es=((pdq (ltOf (fun i j=>cf (D9 es i) (D9 es j))) (bd es.length) 0 es.length (dM es.length) true true).toList).map (D9 es):=by
 cases es with
 | nil=>exact Am rfl h
 | cons r l=>rfl
theorem oj0{cf:List AV->List AV->Int}{es:List (List AV)}(hO:SWO (ltOf (fun i j=>cf (D9 es i) (D9 es j)))) :
  PermIn 0 es.length (bd es.length) (pdq (ltOf (fun i j=>cf (D9 es i) (D9 es j))) (bd es.length) 0 es.length (dM es.length) true true)/\SortedIn (ltOf (fun i j=>cf (D9 es i) (D9 es j))) 0 es.length (pdq (ltOf (fun i j=>cf (D9 es i) (D9 es j))) (bd es.length) 0 es.length (dM es.length) true true) :=
 pdq_sorts _ hO (bd es.length) 0 es.length (dM es.length) true true (cN _) (by simp) (Or.inl rfl)
theorem aN0{α:Type}[Inhabited α](enc:α->List Value)(k:Nat)(w:World)(a off m:Nat)(d:Array α)(os:Array Obj) :
  sortWorldK enc k w a off m d os={ w with drawn:=w.drawn+m,heap:=w.heap.modify a (onCells (putCells id off (flatK enc k d)))++os }:=rfl
theorem ft0{w:World}{f:Obj->Obj}{os:Array Obj}{a k:Nat}(hk:k<w.heap.size)(b:k≠a):(w.heap.modify a f++os)[k]?=w.heap[k]?:=by rw[cP (by simpa using hk),ee,Ae (Ne.symm b)]
theorem qz0{G:j4}{σ:j3}{w:World}{id:Nat}{g:FuncId}{caps restv:List AV}{vs:List Value}(d:Rel G σ w)(a:B8 G restv vs)(l:∀ G vs w,B8 G restv vs->Rel G (σ.del id) w->B8 (G.frozen (σ.del id) w (fun _=>none)) [.fn (.func g) [] caps] vs) :
  ∃ cv:List Value,vs=[.func (.func g) #[] cv.toArray]/\∀ w',Rel G (σ.del id) w'->B8 (G.frozen (σ.del id) w' (fun _=>none)) caps cv:=by
 have c:Rel G (σ.del id) w:=d.less rfl (fun i o h=>by
  rw[j3.objs_del]at h;split at h
  ·cases h
  exact h)
 obtain⟨v,n,rfl,j,b⟩:=(l G vs w a c).cons_inv;obtain rfl:=b.nil_inv;cases j with
 | fn _ _ _ fv cv h1 h2 x z=>
  have:fv=[]:=by simpa using h1
  subst this;refine⟨cv,rfl,fun w' h'=>?_⟩;obtain⟨p,r,e3,e,f⟩:=(l G _ w' a h').cons_inv;have e4:p=.func (.func g) #[] cv.toArray:=by have:=Ap jb e3;simpa using this.symm
  subst e4;generalize m:Value.func (.func g) #[] cv.toArray=q at e;cases e with
  | fn _ _ _ s k B t C u=>
   simp only[lj,Aq]at m;have:cv=k:=by have:=m.2;simpa using Ap Array.toList this
   subst this;exact⟨t,u⟩
theorem tU0 {P:Program} {ρ:dS} (L:jW P ρ) {f:FuncId} (hf:ρ.f 6=f) {S:Func} (hS:P.funcs[f]?=some S) (hSn:(S.name== "runtime.NumGoroutine")=false) (hSb:S.body.isNone=false) {z:Nat} (hz:0<z) (aE:∀ w,(isAgg (ρ.t 24)).run P w=.ok true w) (zE:∀ w,(ku (ρ.t 24)).run P w=.ok z w)
  {g:FuncId} {U:Func} (hG:P.funcs[g]?=some U) (hGn:(U.name== "runtime.NumGoroutine")=false) (hGb:U.body.isNone=false) {e:TypeId} {es:List (List AV)} {caps:List AV} {cf:List AV->List AV->Int}
  (hlen:∀ r∈es,r.length=z) (hone:∀ r∈es,∀ c∈r,c.one=true) (hpur:∀ r∈es,∀ c∈r,c.pur=true) (hn:es.length<4611686018427387904)
  (hcmp:∀ x∈es,∀ y∈es,E0 P ⟨g,[.agg x,.agg y]++caps,I64 (cf x y)⟩) (hO:es≠[]->SWO (ltOf (fun i j=>cf (D9 es i) (D9 es j))))
  {σ:j3} {id:Nat} (ho:σ.objs id=some (.row e z es)) {restv:List AV} (hr:∀ G vs w,B8 G restv vs->Rel G (σ.del id) w->B8 (G.frozen (σ.del id) w (fun _=>none)) [.fn (.func g) [] caps] vs) :
  B4 P f (.ms id z 0 es.length::restv) σ (fun v σ'=>v=.tup []/\σ'=σ.set id (.row e z (H2 cf es))):=by
 subst hf;refine B4.of_calls hS hSn hSb ?_;intro G vs w u s;obtain⟨u1,vs1,rfl,V,u⟩:=u.cons_inv;obtain⟨cv,rfl,hcv⟩:=qz0 s u hr;by_cases hes:es=[]
 ·
  subst hes;have hσ:∀ i,(σ.set id (.row e z [])).objs i=σ.objs i:=fun i=>by
   rw[j3.objs_set];split
   ·rename_i ei;rw[ei,ho]
   rfl
  obtain⟨q,c,rfl⟩:∃ (q:Option Addr) (c:Nat),u1=.slice q 0 c:=by
   cases V with
   | ms _ _ _ _ p hp hv hz' a c ha hoff hl hsp=>exact⟨some a,c,rfl⟩
   | msNil _ _ p hp hv=>exact⟨none,0,rfl⟩
  refine(ij L q c (.func (.func g) #[] cv.toArray) w).mono ?_;rintro e' w' ⟨rfl,rfl⟩;refine⟨_,.tup [],σ.set id (.row e z (H2 cf [])),G,rfl,⟨.refl G,.refl _ G,ax _,Fr.less (fun i o h=>by rw[<- hσ i];exact h)⟩,.tup [] [] rfl (fun i h=>by simp at h),s.less rfl (fun i o h=>by rw[<- hσ i];exact h),rfl,rfl⟩
 have E:0<es.length:=cR.2 hes;obtain⟨p,hp,hv,c,rfl,hc⟩:∃ p,G.pl id=some p/\p.virt=false/\∃ c,u1=.slice (some ⟨p.block,0,none⟩) es.length c/\es.length<=c:=by
  generalize hl0:es.length=n0 at V E;cases V with
  | ms _ _ _ _ p hp hv hz' a c ha hoff hl hsp=>refine⟨p,hp,hv,c,?_,hl⟩;rw[ha (by omega)];simp
  | msNil _ _ p hp hv=>omega
 obtain⟨him,hw0,cs,Y,hpz,M,hcap,Z⟩:=s.real ho hp hv;have H:p.block<w.heap.size:=s.obj_lt ho hp hv;have hin:∀ i j,i<es.length->j<z->i*z+j<cs.size:=fun i j hi hj=>by rw[M];have h1:(i+1)*z<=p.cap*z:=Nat.mul_le_mul_right z (by omega);rw[bI,jk]at h1;omega
 let enc:Nat->List Value:=fun i=>(aJ z).map fun j=>cs[(if i<es.length then i else 0)*z+j]!
 have hk:∀ i,(enc i).length=z:=fun i=>by simp[enc]
 have hrep:∀ i,B8 G (D9 es i) (enc i):=fun i=>by
  have key:∀ i,i<es.length->B8 G (D9 es i) ((aJ z).map fun j=>cs[i*z+j]!):=fun i hi=>by
   have e1:D9 es i=es[i]:=by simp[D9,hi]
   rw[e1];obtain⟨r1,r2⟩:=Z i hi;refine⟨by simp[r1],fun j hj K=>?_⟩;have B:j<z:=by omega
   have:=r2 j hj (hin i j hi B);simpa[hin i j hi B]using this
  by_cases hi:i<es.length
  ·have:=key i hi
   simp only[enc,hi,Al];exact this
  have:=key 0 E;have e2:D9 es i=D9 es 0:=by
   unfold D9;rw[bD (by omega)];cases es with
   | nil=>simp at E
   | cons a l=>simp
  simp only[enc,hi,Ah];rw[e2];exact this
 have hone':∀ i,∀ v∈enc i,v.oneCell'=true:=fun i v hv'=>by obtain⟨j,hj,rfl⟩:=List.getElem_of_mem hv';have hr1:=(hrep i).1;have:=(hrep i).2 j (by omega) hj;exact Rep.one (hone _ (L6 hes i) _ (aw _)) this
 have n:(bd es.length).size=es.length:=by simp
 have hH:HoldsK enc z w p.block 0 (bd es.length):=by
  intro j hj;rw[size_flatK,n]at hj;rw[get_flatK _ _ _ _ (by rw[n];exact hj)];have hjz:j / z<es.length:=(Nat.div_lt_iff_lt_mul hz).2 hj;have hjm:j%z<z:=Nat.mod_lt _ hz;have e1:(bd es.length)[j / z]! = j / z:=by simp[hjz]
  have e2:j / z*z+j%z=j:=by rw[dY];exact gq j z
  have hlt:j<cs.size:=by rw[<- e2];exact hin _ _ hjz hjm
  rw[e1];constructor
  ·simp only[gU,Y,aG]
   simp only[enc,hjz,Al];simp[hjm,e2,hlt]
  simp[iq,Y]
 have N:∀ (m:Nat) (D:Array Nat) (os:Array Obj) k,k<w.heap.size->k≠p.block->(sortWorldK enc z w p.block 0 m D os).heap[k]?=w.heap[k]?:=fun m D os k hk hne=>by rw[aN0];exact ft0 hk hne
 have I:∀ (m:Nat) (D:Array Nat) (os:Array Obj),w.heap.size<=(sortWorldK enc z w p.block 0 m D os).heap.size:=fun m D os=>by rw[aN0];simp
 have hC:CmpLays P g cv.toArray enc z (fun i j=>cf (D9 es i) (D9 es j)) p.block 0 (bd es.length).size w:=by
  intro m os D hdk x y;have C:Rel G (σ.del id) (sortWorldK enc z w p.block 0 m D os):=s.without ho hp hv (I m D os) rfl rfl rfl (N m D os);have hmono:∀ c v,c.pur=true->Rep G c v->Rep (G.frozen (σ.del id) (sortWorldK enc z w p.block 0 m D os) (fun _=>none)) c v:=fun c v hp' hr'=>O0 (fun b o hb=>F3 C hb) hr' hp';have O:∀ i,Rep (G.frozen (σ.del id) (sortWorldK enc z w p.block 0 m D os) (fun _=>none)) (.agg (D9 es i)) (.agg (enc i).toArray):=fun i=>.agg _ _ (hrep i).1 (fun j hj K=>hmono _ _ (hpur _ (L6 hes i) _ (aw _)) ((hrep i).2 j hj K));have hA:B8 (G.frozen (σ.del id) (sortWorldK enc z w p.block 0 m D os) (fun _=>none)) ([.agg (D9 es x),.agg (D9 es y)]++caps) ([.agg (enc x).toArray,.agg (enc y).toArray]++cv) :=((B8.nil _).cons (O y) |>.cons (O x)).append (hcv _ C);have:=E0.grows hG hGn hGb (hcmp _ (L6 hes x) _ (L6 hes y)) hA C.frozen_none;have e1:([Value.agg (enc x).toArray,.agg (enc y).toArray]++cv).toArray=#[.agg (enc x).toArray,.agg (enc y).toArray]++cv.toArray:=by simp
  rw[e1]at this;exact this
 have eg:∀ args w,(callFunc g args).run P w=.ok (.enter g args) w:=fun args w=>by simp only[callFunc,ao,run_program,ae,hG,hGn,hGb,aq,Ah,au]
 have main:=AnyQ.slices_SortFunc_eq L z aE zE enc hk hone' (fun i j=>cf (D9 es i) (D9 es j)) (hO hes) g cv.toArray p.block 0 c (bd es.length) w eg hC hH H (by rw[n];exact hn);rw[n]at main;refine main.mono ?_;rintro e' w' ⟨rfl,m,os,rfl⟩;obtain⟨⟨hd1,_,_⟩,_⟩:=oj0 (hO hes);have Q:=dW0 (cf:=cf) hes;generalize pdq (α:=Nat) _ _ _ _ _ _ _=d at *;have hdz:d.size=es.length:=by simpa using hd1
 have hH2:HoldsK enc z (sortWorldK enc z w p.block 0 m d os) p.block 0 d:=holdsK_sortWorldK enc z w p.block 0 m _ d os H hH (by rw[hdz,n]);have R:(sortWorldK enc z w p.block 0 m d os).heap[p.block]?=some (.cells (putCells (fun x:Value=>x) 0 (flatK enc z d) cs) e (0,0)):=by rw[aN0];simp only;rw[cP (by simpa using H),ee,Af rfl,Y];rfl
 have hlen':(H2 cf es).length=es.length:=by rw[Q];simp[hdz]
 have hok:N1 G p (.row e z (H2 cf es)) (sortWorldK enc z w p.block 0 m d os).heap[p.block]?:=by
  refine⟨_,R,hpz,by simp[putCells,M],by rw[hlen'];exact hcap,fun i hi=>?_⟩;have hi2:i<d.size:=by omega
  have e1:(H2 cf es)[i]=D9 es d[i]:=by simp[Q]
  refine⟨by rw[e1];exact hlen _ (L6 hes _),fun j hj K=>?_⟩;rw[e1]at hj;have B:j<z:=by rw[hlen _ (L6 hes _)]at hj;exact hj
  have J:=(HoldsK.cell hH2 hi2 B).1;simp only[gU,R,aG]at J;have hval:(putCells (fun x:Value=>x) 0 (flatK enc z d) cs)[i*z+j]=(enc d[i]!)[j]! := by have:=J;rw[aH K]at this;simpa using this
  rw[hval];have hr2:=(hrep d[i]).2 j hj (by rw[hk];exact B);have e2:(enc d[i]!)[j]! = (enc d[i])[j]'(by rw[hk];exact B):=by simp[hi2,hk,B]
  rw[e2];have e3:(H2 cf es)[i][j]=(D9 es d[i])[j]:=by simp only[e1]
  rw[e3];exact hr2
 obtain⟨hrelN,hfrN⟩:=s.turned ho hp hv (o':=.row e z (H2 cf es)) (I m d os) rfl rfl rfl (bc _ _) (N m d os) hok;exact⟨_,.tup [],σ.set id (.row e z (H2 cf es)),G,rfl,⟨.refl G,.refl _ G,ax _,hfrN⟩,.tup [] [] rfl (fun i h=>by simp at h),hrelN,rfl,rfl⟩
end Go.Ab
namespace Go.Ab
variable [B6]
open Go Go.Sort Go.Proofs Go.Shelf
theorem tg0 {P:Program} {ρ:dS} (L:kx P ρ) {f:FuncId} (hf:ρ.f 6=f) {M:Func} (hS:P.funcs[f]?=some M) (hSn:(M.name== "runtime.NumGoroutine")=false) (hSb:M.body.isNone=false)
  {g:FuncId} {N:Func} (hG:P.funcs[g]?=some N) (hGn:(N.name== "runtime.NumGoroutine")=false) (hGb:N.body.isNone=false) {e:TypeId} {es:List (List AV)} {caps:List AV} {cf:List AV->List AV->Int}
  (hlen:∀ r∈es,r.length=1) (hone:∀ r∈es,∀ c∈r,c.one=true) (hpur:∀ r∈es,∀ c∈r,c.pur=true) (hn:es.length<4611686018427387904)
  (hcmp:∀ x∈es,∀ y∈es,E0 P ⟨g,(x++y)++caps,I64 (cf x y)⟩) (hO:es≠[]->SWO (ltOf (fun i j=>cf (D9 es i) (D9 es j))))
  {σ:j3} {id:Nat} (ho:σ.objs id=some (.row e 1 es)) {restv:List AV} (hr:∀ G vs w,B8 G restv vs->Rel G (σ.del id) w->B8 (G.frozen (σ.del id) w (fun _=>none)) [.fn (.func g) [] caps] vs) :
  B4 P f (.ms id 1 0 es.length::restv) σ (fun v σ'=>v=.tup []/\σ'=σ.set id (.row e 1 (H2 cf es))):=by
 subst hf;refine B4.of_calls hS hSn hSb ?_;intro G vs w t n;obtain⟨u1,vs1,rfl,O,t⟩:=t.cons_inv;obtain⟨cv,rfl,hcv⟩:=qz0 n t hr;by_cases hes:es=[]
 ·
  subst hes;have hσ:∀ i,(σ.set id (.row e 1 [])).objs i=σ.objs i:=fun i=>by
   rw[j3.objs_set];split
   ·rename_i ei;rw[ei,ho]
   rfl
  obtain⟨q,c,rfl⟩:∃ (q:Option Addr) (c:Nat),u1=.slice q 0 c:=by
   cases O with
   | ms _ _ _ _ p hp hv hz' a c ha hoff hl hsp=>exact⟨some a,c,rfl⟩
   | msNil _ _ p hp hv=>exact⟨none,0,rfl⟩
  refine(ij { L with } q c (.func (.func g) #[] cv.toArray) w).mono ?_;rintro e' w' ⟨rfl,rfl⟩;refine⟨_,.tup [],σ.set id (.row e 1 (H2 cf [])),G,rfl,⟨.refl G,.refl _ G,ax _,Fr.less (fun i o h=>by rw[<- hσ i];exact h)⟩,.tup [] [] rfl (fun i h=>by simp at h),n.less rfl (fun i o h=>by rw[<- hσ i];exact h),rfl,rfl⟩
 have C:0<es.length:=cR.2 hes;obtain⟨p,hp,hv,c,rfl,hc⟩:∃ p,G.pl id=some p/\p.virt=false/\∃ c,u1=.slice (some ⟨p.block,0,none⟩) es.length c/\es.length<=c:=by
  generalize hl0:es.length=n0 at O C;cases O with
  | ms _ _ _ _ p hp hv hz' a c ha hoff hl hsp=>refine⟨p,hp,hv,c,?_,hl⟩;rw[ha (by omega)];simp
  | msNil _ _ p hp hv=>omega
 obtain⟨him,hw0,cs,Q,hpz,hcsz,hcap,R⟩:=n.real ho hp hv;have H:p.block<w.heap.size:=n.obj_lt ho hp hv;have S:∀ i,i<es.length->i<cs.size:=fun i hi=>by omega
 let enc:Nat->Value:=fun i=>cs[if i<es.length then i else 0]!
 have hrep:∀ i,B8 G (D9 es i) [enc i]:=fun i=>by
  have key:∀ i,i<es.length->B8 G (D9 es i) [cs[i]!]:=fun i hi=>by
   have e1:D9 es i=es[i]:=by simp[D9,hi]
   rw[e1];obtain⟨r1,r2⟩:=R i hi;refine⟨by simp[r1],fun j hj E=>?_⟩;have U:j=0:=by simp at E;omega
   subst U;have:=r2 0 hj (by simpa using S i hi);simpa[S i hi]using this
  by_cases hi:i<es.length
  ·have:=key i hi
   simp only[enc,hi,Al];exact this
  have:=key 0 C;have e2:D9 es i=D9 es 0:=by
   unfold D9;rw[bD (by omega)];cases es with
   | nil=>simp at C
   | cons a l=>simp
  simp only[enc,hi,Ah];rw[e2];exact this
 have V:OneCell enc:=fun i=>by have hr1:=(hrep i).1;have:=(hrep i).2 0 (by simp at hr1;omega) (by simp);exact Rep.one (hone _ (L6 hes i) _ (aw _)) this
 have s:(bd es.length).size=es.length:=by simp
 have hH:Holds enc w p.block 0 (bd es.length):=by
  intro j hj;rw[s]at hj;have e1:(bd es.length)[j]! = j:=by simp[hj]
  have hlt:j<cs.size:=S j hj;rw[e1];constructor
  ·simp only[gU,Q,aG]
   simp only[enc,hj,Al];simp[hlt]
  simp[iq,Q]
 have u:∀ (m:Nat) (B:Array Nat) (os:Array Obj),sortWorld enc w p.block 0 m B os={ w with drawn:=w.drawn+m,heap:=w.heap.modify p.block (onCells (putCells enc 0 B))++os }:=fun _ _ _=>rfl;have I:∀ (m:Nat) (B:Array Nat) (os:Array Obj) k,k<w.heap.size->k≠p.block->(sortWorld enc w p.block 0 m B os).heap[k]?=w.heap[k]?:=fun m B os k hk hne=>by rw[u];exact ft0 hk hne
 have D:∀ (m:Nat) (B:Array Nat) (os:Array Obj),w.heap.size<=(sortWorld enc w p.block 0 m B os).heap.size:=fun m B os=>by rw[u];simp
 have hC:CmpLays1 P g cv.toArray enc (fun i j=>cf (D9 es i) (D9 es j)) p.block 0 (bd es.length).size w:=by
  intro m os B hdk x y;have z:Rel G (σ.del id) (sortWorld enc w p.block 0 m B os):=n.without ho hp hv (D m B os) rfl rfl rfl (I m B os);have J:∀ i,B8 (G.frozen (σ.del id) (sortWorld enc w p.block 0 m B os) (fun _=>none)) (D9 es i) [enc i]:=fun i=>⟨(hrep i).1,fun j hj E=>O0 (fun b o hb=>F3 z hb) ((hrep i).2 j hj E) (hpur _ (L6 hes i) _ (aw _))⟩;have hA:=((J x).append (J y)).append (hcv _ z);have:=E0.grows hG hGn hGb (hcmp _ (L6 hes x) _ (L6 hes y)) hA z.frozen_none;have e1:([enc x]++[enc y]++cv).toArray=#[enc x,enc y]++cv.toArray:=by simp
  rw[e1]at this;exact this
 have eg:∀ args w,(callFunc g args).run P w=.ok (.enter g args) w:=fun args w=>by simp only[callFunc,ao,run_program,ae,hG,hGn,hGb,aq,Ah,au]
 have main:=Any.slices_SortFunc_eq L enc V (fun i j=>cf (D9 es i) (D9 es j)) (hO hes) g cv.toArray p.block 0 c (bd es.length) w eg hC hH H (by rw[s];exact hn);rw[s]at main;refine main.mono ?_;rintro e' w' ⟨rfl,m,os,rfl⟩;obtain⟨⟨hd1,_,_⟩,_⟩:=oj0 (hO hes);have K:=dW0 (cf:=cf) hes;generalize pdq (α:=Nat) _ _ _ _ _ _ _=d at *;have hdz:d.size=es.length:=by simpa using hd1
 have hobj:(sortWorld enc w p.block 0 m d os).heap[p.block]?=some (.cells (putCells enc 0 d cs) e (0,0)):=by rw[u];simp only;rw[cP (by simpa using H),ee,Af rfl,Q];rfl
 have Y:(H2 cf es).length=es.length:=by rw[K];simp[hdz]
 have hok:N1 G p (.row e 1 (H2 cf es)) (sortWorld enc w p.block 0 m d os).heap[p.block]?:=by
  refine⟨_,hobj,hpz,by simp[putCells,hcsz],by rw[Y];exact hcap,fun i hi=>?_⟩;have hi2:i<d.size:=by omega
  have e1:(H2 cf es)[i]=D9 es d[i]:=by simp[K]
  refine⟨by rw[e1];exact hlen _ (L6 hes _),fun j hj E=>?_⟩;rw[e1]at hj;have U:j=0:=by rw[hlen _ (L6 hes _)]at hj;omega
  subst U;have hval:(putCells enc 0 d cs)[i*1+0]=enc d[i]:=by simp[putCells,hi2]
  rw[hval];have e3:(H2 cf es)[i][0]=(D9 es d[i])[0]:=by simp only[e1]
  rw[e3];exact(hrep d[i]).2 0 hj (by simp)
 obtain⟨Z,hfrN⟩:=n.turned ho hp hv (o':=.row e 1 (H2 cf es)) (D m d os) rfl rfl rfl (bc _ _) (I m d os) hok;exact⟨_,.tup [],σ.set id (.row e 1 (H2 cf es)),G,rfl,⟨.refl G,.refl _ G,ax _,hfrN⟩,.tup [] [] rfl (fun i h=>by simp at h),Z,rfl,rfl⟩
end Go.Ab
namespace Go.Ab
variable [B6]
open Go Go.Sort Go.Proofs Go.Shelf
def cj0(v:Int):List AV:=[.sc (.int .i64 v)]
theorem sO0 {P:Program} {ρ:dS} (L:ky P ρ) {f:FuncId} (hf:ρ.f 5=f) {C:Func} (hS:P.funcs[f]?=some C) (Y:(C.name== "runtime.NumGoroutine")=false) (Z:C.body.isNone=false)
  {e:TypeId} {g:List Int} (hn:g.length<4611686018427387904) {σ:j3} {id:Nat} (V:σ.objs id=some (.row e 1 (g.map cj0))) :
  B4 P f [.ms id 1 0 (g.map cj0).length] σ (fun v σ'=>v=.tup []/\σ'=σ.set id (.row e 1 ((g.mergeSort fun a b=>decide (a<=b)).map cj0))):=by
 subst hf;refine B4.of_calls hS Y Z ?_;intro G vs w l r;obtain⟨u1,vs1,rfl,s,l⟩:=l.cons_inv;obtain rfl:=l.nil_inv;by_cases hes:g=[]
 ·
  subst hes;have M:∀ i,(σ.set id (.row e 1 [])).objs i=σ.objs i:=fun i=>by
   rw[j3.objs_set];split
   ·rename_i ei;rw[ei,V];rfl
   rfl
  obtain⟨q,c,rfl⟩:∃ (q:Option Addr) (c:Nat),u1=.slice q 0 c:=by
   cases s with
   | ms _ _ _ _ p hp hv hz' a c ha hoff hl hsp=>exact⟨some a,c,rfl⟩
   | msNil _ _ p hp hv=>exact⟨none,0,rfl⟩
  refine(AnyM.slices_Sort_int_none L q c w).mono ?_;rintro e' w' ⟨rfl,rfl⟩;refine⟨_,.tup [],σ.set id (.row e 1 []),G,rfl,⟨.refl G,.refl _ G,ax _,Fr.less (fun i o h=>by rw[<- M i];exact h)⟩,.tup [] [] rfl (fun i h=>by simp at h),r.less rfl (fun i o h=>by rw[<- M i];exact h),rfl,by simp⟩
 have N:0<g.length:=cR.2 hes;obtain⟨p,hp,hv,c,rfl,hc⟩:∃ p,G.pl id=some p/\p.virt=false/\∃ c,u1=.slice (some ⟨p.block,0,none⟩) g.length c/\g.length<=c:=by
  rw[aD]at s;generalize hl0:g.length=n0 at s N;cases s with
  | ms _ _ _ _ p hp hv hz' a c ha hoff hl hsp=>refine⟨p,hp,hv,c,?_,hl⟩;rw[ha (by omega)];simp
  | msNil _ _ p hp hv=>omega
 obtain⟨him,hw0,cs,E,hpz,O,z,H⟩:=r.real V hp hv;have B:p.block<w.heap.size:=r.obj_lt V hp hv;rw[aD]at z;have t:∀ i,i<g.length->i<cs.size:=fun i hi=>by omega
 have I:∀ i (hi:i<g.length),cs[i]'(t i hi)=.int .i64 g[i]:=fun i hi=>by obtain⟨r1,r2⟩:=H i (by simpa using hi);have:=r2 0 (by simp[cj0]) (by simpa using t i hi);simp[cj0]at this;generalize cs[i]'(t i hi)=q at this;cases this;rfl
 have hH:Holds (bk .i64) w p.block 0 g.toArray:=by
  intro j hj;have u:j<g.length:=by simpa using hj
  have e1:g.toArray[j]! = g[j]:=by simp[u]
  have hlt:j<cs.size:=t j u;rw[e1];constructor
  ·simp only[gU,E,aG]
   rw[aH hlt,I j u];rfl
  simp[iq,E]
 refine(calls_of_every_depth fun D=>AnySM.slices_Sort_int_in L D p.block 0 c g w hH B hn).mono ?_;rintro e' w' ⟨rfl,m,os,rfl⟩;generalize hd0:(g.mergeSort fun x y=>decide (x<=y))=d;have hdz:d.length=g.length:=by rw[<- hd0];exact iM ..
 have n:grow (putRow (bk .i64) (gB w m) p.block 0 d.toArray) os={ w with drawn:=w.drawn+m,heap:=w.heap.modify p.block (onCells (putCells (bk .i64) 0 d.toArray))++os }:=rfl;have Q:∀ k,k<w.heap.size->k≠p.block->(grow (putRow (bk .i64) (gB w m) p.block 0 d.toArray) os).heap[k]?=w.heap[k]?:=fun k hk hne=>by rw[n];exact ft0 hk hne
 have J:w.heap.size<=(grow (putRow (bk .i64) (gB w m) p.block 0 d.toArray) os).heap.size:=by rw[n];simp
 have R:(grow (putRow (bk .i64) (gB w m) p.block 0 d.toArray) os).heap[p.block]?=some (.cells (putCells (bk .i64) 0 d.toArray cs) e (0,0)):=by rw[n];simp only;rw[cP (by simpa using B),ee,Af rfl,E];rfl
 have hok:N1 G p (.row e 1 (d.map cj0)) (grow (putRow (bk .i64) (gB w m) p.block 0 d.toArray) os).heap[p.block]?:=by
  refine⟨_,R,hpz,by simp[putCells,O],by rw[aD,hdz];exact z,fun i hi=>?_⟩;have hi2:i<d.length:=by simpa using hi
  refine⟨by simp[cj0],fun j hj u=>?_⟩;have hj0:j=0:=by simp[cj0]at hj;omega
  subst hj0;have S:(putCells (bk .i64) 0 d.toArray cs)[i*1+0]=.int .i64 d[i]:=by simp[putCells,hi2]
  rw[S];simp only[cn,cj0,List.getElem_cons_zero];exact .sc _
 obtain⟨K,U⟩:=r.turned V hp hv (o':=.row e 1 (d.map cj0)) J rfl rfl rfl (bc _ _) Q hok;exact⟨_,.tup [],σ.set id (.row e 1 (d.map cj0)),G,rfl,⟨.refl G,.refl _ G,ax _,U⟩,.tup [] [] rfl (fun i h=>by simp at h),K,rfl,rfl⟩
end Go.Ab
namespace Go.Ab
open Go Go.Sort Go.Proofs Go.Shelf
abbrev sI:Sp:=.int .i64
def bits_Add64:Int×Int×Int->Option (Int×Int):=fun x=>bif decide (0<=x.1)&&decide (0<=x.2.1)&&(decide (x.2.2=0)||decide (x.2.2=1))then some ((x.1+x.2.1+x.2.2)%18446744073709551616,(x.1+x.2.1+x.2.2) / 18446744073709551616)else none
def slices_Clone_int:List Int->Option (List Int):=fun x=>Q5 8 [] x
def slices_Clone_api_Point:List (Int×Int)->Option (List (Int×Int)):=fun x=>Q5 16 [] x
def slices_Sort_int:List Int×Int->Option (List Int):=fun x=>bif decide (x.2=1)&&decide (x.1.length<4611686018427387904)then some (x.1.mergeSort fun a b=>decide (a<=b))else none
def qB0:ByteArray:=cD #[0,1,2,2,3,3,3,3,4,4,4,4,4,4,4,4,5,5,5,5,5,5,5,5,5,5,5,5,5,5,5,5,6,6,6,6,6,6,6,6,6,6,6,6,6,6,6,6,6,6,6,6,6,6,6,6,6,6,6,6,6,6,6,6,7,7,7,7,7,7,7,7,7,7,7,7,7,7,7,7,7,7,7,7,7,7,7,7,7,7,7,7,7,7,7,7,7,7,7,7,7,7,7,7,7,7,7,7,7,7,7,7,7,7,7,7,7,7,7,7,7,7,7,7,7,7,7,7,8,8,8,8,8,8,8,8,8,8,8,8,8,8,8,8,8,8,8,8,8,8,8,8,8,8,8,8,8,8,8,8,8,8,8,8,8,8,8,8,8,8,8,8,8,8,8,8,8,8,8,8,8,8,8,8,8,8,8,8,8,8,8,8,8,8,8,8,8,8,8,8,8,8,8,8,8,8,8,8,8,8,8,8,8,8,8,8,8,8,8,8,8,8,8,8,8,8,8,8,8,8,8,8,8,8,8,8,8,8,8,8,8,8,8,8,8,8,8,8,8,8,8,8,8,8,8,8]
def atT{α:Type}(r:α)(es:List α)(i:Nat):α:=(es[i]?).getD r
def Z0{α:Type}(cf:α->α->Int):List α->List α
 | []=>[]
 | r::l=>((pdq (ltOf (fun i j=>cf (atT r (r::l) i) (atT r (r::l) j))) (bd (r::l).length) 0 (r::l).length (dM (r::l).length) true true).toList).map (atT r (r::l))
def Ordered{α:Type}(cf:α->α->Int):List α->Prop
 | []=>True
 | r::l=>SWO (ltOf (fun i j=>cf (atT r (r::l) i) (atT r (r::l) j)))
open Classical in
noncomputable def du0{α:Type}(cmp:α->α->Option Int)(xs:List α):Option (List α) :=if (∀ x∈xs,∀ y∈xs,(cmp x y).isSome=true)/\Ordered (fun x y=>(cmp x y).getD 0) xs/\xs.length<4611686018427387904 then some (Z0 (fun x y=>(cmp x y).getD 0) xs)else none
def mapsheetslaw36_awake:Unit->Option Bool:=fun _=>some true
noncomputable def strings_Contains:ByteArray×ByteArray->Option (Bool):=fun x=>bif decide (x.1.size<4294967281)then some (Lib.contains x.1.data.toList x.2.data.toList)else none
def gl_0:Option (Int×Int×Int×Int×Int×Int×Int×Int×Int×Int×Int×Int×Int×Int×Int×Int×Int×Int×Int×Int×Int×Int×Int×Int×Int×Int×Int×Int×Int×Int×Int×Int×Int×Int×Int×Int×Int×Int×Int):=some (32,32,0,39,41,0,45,46,0,48,57,0,65,90,1,97,122,1,192,214,1,216,246,1,248,591,1,880,1023,2,1024,1279,3,1488,1514,4,19968,40959,5)
end Go.Ab
namespace Go.Ab
open Go
noncomputable def E6:List (Int×Int)->Option ((Int×Int×Int×Int)):=fun x=>bif decide (((x).length:Int)=0)then some (0,0,(-1),(-1))else b8 (nth x 0) fun v3=>b8 (nth x 0) fun v5=>b8 (nth x 0) fun d=>b8 (nth x 0) fun v9=>rounds (α:=Int×Int×Int×Int×Int) (β:=(Int×Int×Int×Int)) (fun b a=>bif decide (a.1<((x).length:Int))then b8 (nth x a.1) fun c=>b8 (nth x a.1) fun v22=>b8 (nth x a.1) fun v25=>b8 (nth x a.1) fun v28=>b ((aa.wrap (a.1+1)),(bp mnI a.2.1 [c.1]),(bp mnI a.2.2.1 [v22.2]),(bp mxI a.2.2.2.1 [v25.1]),(bp mxI a.2.2.2.2 [v28.2]))else some (a.2.1,a.2.2.1,a.2.2.2.1,a.2.2.2.2)) (1,v3.1,v5.2,d.1,v9.2)
noncomputable def F5:(List (Int×Int×Int)×List (Int×Int×Int×List (Int×Int)×Int×Int)×List (Int))->Option (Bool):=fun x=>bif decide ((30:Int)<((x.1).length:Int))then some false else bif decide ((30:Int)<((x.2.1).length:Int))then some false else bif decide ((30:Int)<((x.2.2).length:Int))then some false else rounds (α:=List (Int×Int)×Int) (β:=Bool) (fun f c=>bif decide (c.2<((x.1).length:Int))then b8 (nth x.1 c.2) fun d=>b8 (Q5 16 c.1 [(d.2.1,d.2.2)]) fun v17=>f (v17,(aa.wrap (c.2+1)))else rounds (α:=List (Int×Int)×Int) (β:=Bool) (fun e b=>bif decide (b.2<((x.2.1).length:Int))then b8 (nth x.2.1 b.2) fun v20=>bif decide ((180:Int)<(aa.wrap (((b.1).length:Int)+((v20.2.2.2.1).length:Int))))then some false else b8 (nth x.2.1 b.2) fun v29=>b8 (Q5 16 b.1 v29.2.2.2.1) fun v35=>e (v35,(aa.wrap (b.2+1)))else b8 (some ()) fun a=>b8 (E6 b.1) fun a=>bif decide ((-1073741824)<=a.1)then bif decide ((-1073741824)<=a.2.1)then bif decide (a.2.2.1<=1073741824)then bif decide (a.2.2.2<=1073741824)then bif decide ((aa.wrap (a.2.2.1-a.1))<=3000)then some (decide ((aa.wrap (a.2.2.2-a.2.1))<=3000))else some false else some false else some false else some false else some false) (c.1,0)) (([]:List (Int×Int)),0)
noncomputable def C4:(List (Int×Int×Int)×List (Int×Int×Int×List (Int×Int)×Int×Int)×List (Int)×List (Int×Int×Int×ByteArray×List (Int)))->Option (Bool):=fun x=>b8 (F5 (x.1,x.2.1,x.2.2.1)) fun v4=>bif !(v4)then some false else bif decide ((20:Int)<((x.2.2.2).length:Int))then some false else rounds (α:=Int) (β:=Bool) (fun c a=>bif decide (a<((x.2.2.2).length:Int))then b8 (nth x.2.2.2 a) fun v12=>bif decide ((40:Int)<((v12.2.2.2.2).length:Int))then some false else b8 (nth x.2.2.2 a) fun b=>bif decide ((100:Int)<((b.2.2.2.1).size:Int))then some false else c (aa.wrap (a+1))else some true) 0
noncomputable def P0:Unit->Option ((Int×Int×Int×Int×Int×Int)):=fun x=>some (1,9,0,0,0,128)
noncomputable def Z5:Unit->Option ((List (Int×Int×Int)×List (Int×Int×Int×List (Int×Int)×Int×Int)×List (Int)×List (Int×Int×Int×ByteArray×List (Int)))):=fun x=>some ([(1,0,0),(2,1,1)],([]:List (Int×Int×Int×List (Int×Int)×Int×Int)),([]:List (Int)),[(7,1,1,(cD #[]),[1]),(8,1,1,(cD #[]),[2])])
noncomputable def E5:Int×Int×Int->Option (Bool):=fun x=>bif decide (x.2.1<=x.1)then some (decide (x.1<=x.2.2))else some false
noncomputable def D6:(Int×Int×Int×Int×Int×Int)->Option (Int):=fun x=>b8 (E5 (x.1,1,1073741824)) fun v6=>bif !(v6)then some 2 else b8 (E5 (x.2.1,1,9)) fun c=>bif !(c)then some 2 else b8 (E5 (x.2.2.1,0,4398046511104)) fun v10=>bif !(v10)then some 2 else b8 (E5 (x.2.2.2.1,0,4398046511104)) fun v12=>bif !(v12)then some 2 else b8 (E5 (x.2.2.2.2.1,0,64)) fun a=>bif !(a)then some 2 else b8 (E5 (x.2.2.2.2.2,0,128)) fun b=>bif !(b)then some 2 else some 0
noncomputable def L4:(List (Int×Int×Int)×List (Int×Int×Int×List (Int×Int)×Int×Int)×List (Int))->Option ((List (Int)×List (Int))):=fun x=>rounds (α:=List (Int)×Int) (β:=(List (Int)×List (Int))) (fun e a=>bif decide (a.2<((x.1).length:Int))then b8 (nth x.1 a.2) fun f=>b8 (Q5 8 a.1 [f.1]) fun v11=>e (v11,(aa.wrap (a.2+1)))else rounds (α:=List (Int)×Int) (β:=(List (Int)×List (Int))) (fun g b=>bif decide (b.2<((x.2.1).length:Int))then b8 (nth x.2.1 b.2) fun c=>b8 (Q5 8 b.1 [c.1]) fun d=>g (d,(aa.wrap (b.2+1)))else some (a.1,b.1)) (([]:List (Int)),0)) (([]:List (Int)),0)
noncomputable def I8:List (Int)->Option (Bool):=fun x=>rounds (α:=Int) (β:=Bool) (fun b a=>bif decide (a<((x).length:Int))then b8 (nth x (aa.wrap (a-1))) fun v6=>b8 (nth x a) fun c=>bif decide (c<=v6)then some false else b (aa.wrap (a+1))else some true) 1
noncomputable def N6:Int->Option (Bool):=fun x=>bif decide (x<1)then some true else some (decide (1073741824<x))
noncomputable def w8:List (Int)×(Unit)->Option (Bool):=fun x=>rounds (α:=Int) (β:=Bool) (fun b a=>bif decide (a<((x.1).length:Int))then b8 (nth x.1 a) fun v5=>b8 (N6 v5) fun v6=>bif v6 then some (decide (0<=a))else b (aa.wrap (a+1))else some false) 0
noncomputable def L1:List (Int)->Option (Bool):=fun x=>b8 (w8 (x,())) fun v1=>some (!(v1))
noncomputable def K5:(Int×Int)->Option (Bool):=fun x=>bif decide (x.1<(-1048576))then some true else bif decide (1048576<x.1)then some true else bif decide (x.2<(-1048576))then some true else some (decide (1048576<x.2))
noncomputable def u4:List (Int×Int)×(Unit)->Option (Bool):=fun x=>rounds (α:=Int) (β:=Bool) (fun b a=>bif decide (a<((x.1).length:Int))then b8 (nth x.1 a) fun v5=>b8 (K5 (v5.1,v5.2)) fun c=>bif c then some (decide (0<=a))else b (aa.wrap (a+1))else some false) 0
noncomputable def ax0:(List (Int×Int×Int)×List (Int×Int×Int×List (Int×Int)×Int×Int)×List (Int))->Option (Bool):=fun x=>rounds (α:=Int) (β:=Bool) (fun d a=>bif decide (a<((x.1).length:Int))then b8 (nth x.1 a) fun c=>b8 (K5 (c.2.1,c.2.2)) fun v10=>bif v10 then some false else d (aa.wrap (a+1))else rounds (α:=Int) (β:=Bool) (fun e b=>bif decide (b<((x.2.1).length:Int))then b8 (nth x.2.1 b) fun v11=>b8 (u4 (v11.2.2.2.1,())) fun v17=>bif v17 then some false else e (aa.wrap (b+1))else some true) 0) 0
noncomputable def H8:List (Int)×Int->Option (Int):=fun x=>rounds (α:=Int) (β:=Int) (fun b a=>bif decide (a<((x.1).length:Int))then b8 (nth x.1 a) fun v6=>bif decide (x.2=v6)then some a else b (aa.wrap (a+1))else some (-1)) 0
noncomputable def l8:List (Int)×Int->Option (Bool):=fun x=>b8 (H8 (x.1,x.2)) fun v2=>some (decide (0<=v2))
noncomputable def P3:(List (Int×Int×Int)×List (Int×Int×Int×List (Int×Int)×Int×Int)×List (Int))×List (Int)->Option (Int):=fun x=>rounds (α:=Int) (β:=Int) (fun h d=>bif decide (d<((x.1.1).length:Int))then b8 (nth x.1.1 d) fun g=>b8 (td0 x.1.1 none (some d)) fun v11=>rounds (α:=Int) (β:=Int) (fun c a=>bif decide (a<((v11).length:Int))then b8 (nth v11 a) fun b=>bif decide (g.2.1=b.2.1)&&decide (g.2.2=b.2.2)then some 8 else c (aa.wrap (a+1))else h (aa.wrap (d+1))) 0 else rounds (α:=Int) (β:=Int) (fun i e=>bif decide (e<((x.1.2.1).length:Int))then b8 (nth x.1.2.1 e) fun v12=>b8 (l8 (x.2,v12.2.1)) fun f=>bif !(f)then some 7 else b8 (l8 (x.2,v12.2.2.1)) fun v20=>bif !(v20)then some 7 else i (aa.wrap (e+1))else rounds (α:=Int) (β:=Int) (fun c a=>bif decide (a<((x.1.2.1).length:Int))then b8 (nth x.1.2.1 a) fun b=>bif !decide (b.2.2.2.2.1=0)then b8 (l8 (x.1.2.2,b.2.2.2.2.1)) fun v23=>bif !(v23)then some 12 else bif !decide (b.2.2.2.2.2=0)then b8 (l8 (x.1.2.2,b.2.2.2.2.2)) fun v26=>bif !(v26)then some 12 else c (aa.wrap (a+1))else c (aa.wrap (a+1))else bif !decide (b.2.2.2.2.2=0)then b8 (l8 (x.1.2.2,b.2.2.2.2.2)) fun v24=>bif !(v24)then some 12 else c (aa.wrap (a+1))else c (aa.wrap (a+1))else some 0) 0) 0) 0
noncomputable def al0:(List (Int×Int×Int)×List (Int×Int×Int×List (Int×Int)×Int×Int)×List (Int))×Int->Option (((Int×Int×Int×List (Int×Int)×Int×Int)×Bool)):=fun x=>rounds (α:=Int) (β:=((Int×Int×Int×List (Int×Int)×Int×Int)×Bool)) (fun d b=>bif decide (b<((x.1.2.1).length:Int))then b8 (nth x.1.2.1 b) fun a=>bif decide (a.1=x.2)then b8 (slices_Clone_api_Point a.2.2.2.1) fun c=>some ((a.1,a.2.1,a.2.2.1,c,a.2.2.2.2.1,a.2.2.2.2.2),true)else d (aa.wrap (b+1))else some ((0,0,0,([]:List (Int×Int)),0,0),false)) 0
noncomputable def N7:(List (Int×Int×Int)×List (Int×Int×Int×List (Int×Int)×Int×Int)×List (Int))×Int->Option (((Int×Int×Int)×Bool)):=fun x=>rounds (α:=Int) (β:=((Int×Int×Int)×Bool)) (fun c b=>bif decide (b<((x.1.1).length:Int))then b8 (nth x.1.1 b) fun a=>bif decide (a.1=x.2)then some ((a.1,a.2.1,a.2.2),true)else c (aa.wrap (b+1))else some ((0,0,0),false)) 0
noncomputable def E9:(List (Int×Int×Int)×List (Int×Int×Int×List (Int×Int)×Int×Int)×List (Int))×Int->Option ((List (Int×Int)×Int)):=fun x=>b8 (al0 ((x.1.1,x.1.2.1,x.1.2.2),x.2)) fun v4=>b8 (N7 ((x.1.1,x.1.2.1,x.1.2.2),v4.1.2.1)) fun v11=>b8 (N7 ((x.1.1,x.1.2.1,x.1.2.2),v4.1.2.2.1)) fun a=>bif !(v4.2)then some (([]:List (Int×Int)),7)else bif !(v11.2)then some (([]:List (Int×Int)),7)else bif !(a.2)then some (([]:List (Int×Int)),7)else b8 (some (aa.wrap (1+((v4.1.2.2.2.1).length:Int)))) fun v23=>bif decide (v23<0)then none else b8 (some (aa.wrap (v23+1))) fun v25=>bif decide (v25<0)then none else bif decide (v25<0)then none else b8 (some (aa.wrap (v25-0))) fun v28=>bif decide (0<v28)then b8 (zerO 16 ((0,0):Int×Int) v28) fun v30=>b8 (some ()) fun v31=>b8 (Q5 16 ([]:List (Int×Int)) [(v11.1.2.1,v11.1.2.2)]) fun v31=>b8 (Q5 16 v31 v4.1.2.2.2.1) fun v32=>b8 (Q5 16 v32 [(a.1.2.1,a.1.2.2)]) fun v33=>some (v33,0)else b8 (Q5 16 [(v11.1.2.1,v11.1.2.2)] v4.1.2.2.2.1) fun v30=>b8 (Q5 16 v30 [(a.1.2.1,a.1.2.2)]) fun v31=>some (v31,0)
noncomputable def u5:((Int×Int×Int×List (Int×Int)×Int×Int×List (Int×Int))×Int)->Option (((Int×Int)×(Int×Int))):=fun x=>b8 (some ()) fun v2=>b8 (some x.1) fun v2=>b8 (nth v2.2.2.2.2.2.2 x.2) fun v9=>b8 (some ()) fun v11=>b8 (some x.1) fun v11=>b8 (nth v11.2.2.2.2.2.2 (aa.wrap (x.2+1))) fun a=>some ((v9.1,v9.2),(a.1,a.2))
noncomputable def B2:((Int×Int×Int×List (Int×Int)×Int×Int×List (Int×Int))×Int)->Option (Int):=fun x=>b8 (u5 (x.1,x.2)) fun v2=>some (bp mnI v2.1.1 [v2.2.1])
noncomputable def C2:Int->Option (Bool):=fun x=>some (!decide (x=x))
noncomputable def y0:Int×Int->Option (Int):=fun x=>b8 (C2 x.1) fun v2=>b8 (C2 x.2) fun v3=>bif v2 then bif v3 then some 0 else some (-1)else bif v3 then some 1 else bif decide (x.1<x.2)then some (-1)else bif decide (x.2<x.1)then some 1 else some 0
noncomputable def T4:((Int×Int×Int×List (Int×Int)×Int×Int×List (Int×Int))×Int)×((Int×Int×Int×List (Int×Int)×Int×Int×List (Int×Int))×Int)->Option (Int):=fun x=>b8 (B2 (x.1.1,x.1.2)) fun v4=>b8 (B2 (x.2.1,x.2.2)) fun v5=>b8 (y0 (v4,v5)) fun v6=>some v6
noncomputable def slices_SortFunc_plan_segment_plan_planar_1:List ((Int×Int×Int×List (Int×Int)×Int×Int×List (Int×Int))×Int)×Int×(Unit)->Option (List ((Int×Int×Int×List (Int×Int)×Int×Int×List (Int×Int))×Int)):=fun x=>bif decide (x.2.1=2)then du0 (fun a b=>T4 (a,b)) x.1 else none
noncomputable def F7:((Int×Int×Int×List (Int×Int)×Int×Int×List (Int×Int))×Int)->Option (Int):=fun x=>b8 (u5 (x.1,x.2)) fun v2=>some (bp mxI v2.1.1 [v2.2.1])
noncomputable def L7:List (Int×Int)->Option (Bool):=fun x=>rounds (α:=Int) (β:=Bool) (fun b a=>bif decide (a<((x).length:Int))then b8 (nth x a) fun v5=>bif decide (v5.1<(-2097152))then some false else bif decide (2097152<v5.1)then some false else bif decide (v5.2<(-2097152))then some false else bif decide (2097152<v5.2)then some false else b (aa.wrap (a+1))else some true) 0
noncomputable def M3:(Int×Int)×(Int×Int)×(Int×Int)->Option (Int):=fun x=>some (aa.wrap ((aa.wrap ((aa.wrap (x.2.1.1-x.1.1))*(aa.wrap (x.2.2.2-x.1.2))))-(aa.wrap ((aa.wrap (x.2.1.2-x.1.2))*(aa.wrap (x.2.2.1-x.1.1))))))
noncomputable def y4:(Int×Int)×(Int×Int)×(Int×Int)->Option (Bool):=fun x=>b8 (some ()) fun v6=>b8 (L7 [(x.1.1,x.1.2),(x.2.1.1,x.2.1.2),(x.2.2.1,x.2.2.2)]) fun v6=>bif !(v6)then some false else b8 (M3 ((x.1.1,x.1.2),(x.2.1.1,x.2.1.2),(x.2.2.1,x.2.2.2))) fun a=>bif !decide (a=0)then some false else bif decide ((bp mnI x.1.1 [x.2.1.1])<=x.2.2.1)then bif decide (x.2.2.1<=(bp mxI x.1.1 [x.2.1.1]))then bif decide ((bp mnI x.1.2 [x.2.1.2])<=x.2.2.2)then some (decide (x.2.2.2<=(bp mxI x.1.2 [x.2.1.2])))else some false else some false else some false
noncomputable def A4:((Int×Int×Int×List (Int×Int)×Int×Int×List (Int×Int))×Int)->Option (Bool):=fun x=>some (decide (x.2=0))
noncomputable def w6:((Int×Int×Int×List (Int×Int)×Int×Int×List (Int×Int))×Int)->Option (Bool):=fun x=>b8 (some ()) fun v2=>b8 (some x.1) fun v2=>some (decide (x.2=(aa.wrap (((v2.2.2.2.2.2.2).length:Int)-2))))
noncomputable def V3:(Int×Int)×(Int×Int)×(Int×Int)->Option (Int):=fun x=>b8 (some ()) fun v6=>b8 (L7 [(x.1.1,x.1.2),(x.2.1.1,x.2.1.2),(x.2.2.1,x.2.2.2)]) fun v6=>bif !(v6)then some 0 else b8 (M3 ((x.1.1,x.1.2),(x.2.1.1,x.2.1.2),(x.2.2.1,x.2.2.2))) fun a=>some a
noncomputable def u7:(Int×Int)×(Int×Int)×(Int×Int)->Option (Int):=fun x=>b8 (V3 ((x.1.1,x.1.2),(x.2.1.1,x.2.1.2),(x.2.2.1,x.2.2.2))) fun v6=>bif decide (0<v6)then some 1 else bif decide (v6<0)then some (-1)else some 0
noncomputable def l7:(Int×Int)×(Int×Int)->Option (Bool):=fun x=>bif decide (x.1.1<x.2.1)then some true else bif decide (x.1.1=x.2.1)then some (decide (x.1.2<x.2.2))else some false
noncomputable def V7:(Int×Int)×(Int×Int)×(Int×Int)×(Int×Int)->Option (Int):=fun x=>b8 (l7 ((x.2.1.1,x.2.1.2),(x.1.1,x.1.2))) fun b=>bif b then b8 (l7 ((x.2.2.2.1,x.2.2.2.2),(x.2.2.1.1,x.2.2.1.2))) fun v9=>bif v9 then b8 (l7 ((x.2.1.1,x.2.1.2),(x.2.2.2.1,x.2.2.2.2))) fun v10=>bif v10 then b8 (l7 ((x.2.2.1.1,x.2.2.1.2),(x.1.1,x.1.2))) fun v11=>bif v11 then bif decide (x.2.2.2.1=x.2.2.1.1)&&decide (x.2.2.2.2=x.2.2.1.2)then some 1 else b8 (l7 ((x.2.2.2.1,x.2.2.2.2),(x.2.2.1.1,x.2.2.1.2))) fun a=>bif a then some 2 else some 0 else bif decide (x.2.2.2.1=x.1.1)&&decide (x.2.2.2.2=x.1.2)then some 1 else b8 (l7 ((x.2.2.2.1,x.2.2.2.2),(x.1.1,x.1.2))) fun a=>bif a then some 2 else some 0 else b8 (l7 ((x.2.2.1.1,x.2.2.1.2),(x.1.1,x.1.2))) fun v11=>bif v11 then bif decide (x.2.1.1=x.2.2.1.1)&&decide (x.2.1.2=x.2.2.1.2)then some 1 else b8 (l7 ((x.2.1.1,x.2.1.2),(x.2.2.1.1,x.2.2.1.2))) fun a=>bif a then some 2 else some 0 else bif decide (x.2.1.1=x.1.1)&&decide (x.2.1.2=x.1.2)then some 1 else b8 (l7 ((x.2.1.1,x.2.1.2),(x.1.1,x.1.2))) fun a=>bif a then some 2 else some 0 else b8 (l7 ((x.2.1.1,x.2.1.2),(x.2.2.1.1,x.2.2.1.2))) fun v10=>bif v10 then b8 (l7 ((x.2.2.2.1,x.2.2.2.2),(x.1.1,x.1.2))) fun v11=>bif v11 then bif decide (x.2.2.1.1=x.2.2.2.1)&&decide (x.2.2.1.2=x.2.2.2.2)then some 1 else b8 (l7 ((x.2.2.1.1,x.2.2.1.2),(x.2.2.2.1,x.2.2.2.2))) fun a=>
 bif a then some 2 else some 0 else bif decide (x.2.2.1.1=x.1.1)&&decide (x.2.2.1.2=x.1.2)then some 1 else b8 (l7 ((x.2.2.1.1,x.2.2.1.2),(x.1.1,x.1.2))) fun a=>bif a then some 2 else some 0 else b8 (l7 ((x.2.2.2.1,x.2.2.2.2),(x.1.1,x.1.2))) fun v11=>bif v11 then bif decide (x.2.1.1=x.2.2.2.1)&&decide (x.2.1.2=x.2.2.2.2)then some 1 else b8 (l7 ((x.2.1.1,x.2.1.2),(x.2.2.2.1,x.2.2.2.2))) fun a=>bif a then some 2 else some 0 else bif decide (x.2.1.1=x.1.1)&&decide (x.2.1.2=x.1.2)then some 1 else b8 (l7 ((x.2.1.1,x.2.1.2),(x.1.1,x.1.2))) fun a=>bif a then some 2 else some 0 else b8 (l7 ((x.2.2.2.1,x.2.2.2.2),(x.2.2.1.1,x.2.2.1.2))) fun v9=>bif v9 then b8 (l7 ((x.1.1,x.1.2),(x.2.2.2.1,x.2.2.2.2))) fun v10=>bif v10 then b8 (l7 ((x.2.2.1.1,x.2.2.1.2),(x.2.1.1,x.2.1.2))) fun v11=>bif v11 then bif decide (x.2.2.2.1=x.2.2.1.1)&&decide (x.2.2.2.2=x.2.2.1.2)then some 1 else b8 (l7 ((x.2.2.2.1,x.2.2.2.2),(x.2.2.1.1,x.2.2.1.2))) fun a=>bif a then some 2 else some 0 else bif decide (x.2.2.2.1=x.2.1.1)&&decide (x.2.2.2.2=x.2.1.2)then some 1 else b8 (l7 ((x.2.2.2.1,x.2.2.2.2),(x.2.1.1,x.2.1.2))) fun a=>bif a then some 2 else some 0 else b8 (l7 ((x.2.2.1.1,x.2.2.1.2),(x.2.1.1,x.2.1.2))) fun v11=>bif v11 then bif decide (x.1.1=x.2.2.1.1)&&decide (x.1.2=x.2.2.1.2)then some 1 else b8 (l7 ((x.1.1,x.1.2),(x.2.2.1.1,x.2.2.1.2))) fun a=>
 bif a then some 2 else some 0 else bif decide (x.1.1=x.2.1.1)&&decide (x.1.2=x.2.1.2)then some 1 else b8 (l7 ((x.1.1,x.1.2),(x.2.1.1,x.2.1.2))) fun a=>bif a then some 2 else some 0 else b8 (l7 ((x.1.1,x.1.2),(x.2.2.1.1,x.2.2.1.2))) fun v10=>bif v10 then b8 (l7 ((x.2.2.2.1,x.2.2.2.2),(x.2.1.1,x.2.1.2))) fun v11=>bif v11 then bif decide (x.2.2.1.1=x.2.2.2.1)&&decide (x.2.2.1.2=x.2.2.2.2)then some 1 else b8 (l7 ((x.2.2.1.1,x.2.2.1.2),(x.2.2.2.1,x.2.2.2.2))) fun a=>bif a then some 2 else some 0 else bif decide (x.2.2.1.1=x.2.1.1)&&decide (x.2.2.1.2=x.2.1.2)then some 1 else b8 (l7 ((x.2.2.1.1,x.2.2.1.2),(x.2.1.1,x.2.1.2))) fun a=>bif a then some 2 else some 0 else b8 (l7 ((x.2.2.2.1,x.2.2.2.2),(x.2.1.1,x.2.1.2))) fun v11=>bif v11 then bif decide (x.1.1=x.2.2.2.1)&&decide (x.1.2=x.2.2.2.2)then some 1 else b8 (l7 ((x.1.1,x.1.2),(x.2.2.2.1,x.2.2.2.2))) fun a=>bif a then some 2 else some 0 else bif decide (x.1.1=x.2.1.1)&&decide (x.1.2=x.2.1.2)then some 1 else b8 (l7 ((x.1.1,x.1.2),(x.2.1.1,x.2.1.2))) fun a=>bif a then some 2 else some 0
noncomputable def bp0:(Int×Int)×(Int×Int)×(Int×Int)×(Int×Int)->Option (Int):=fun x=>b8 (some ()) fun f=>b8 (L7 [(x.1.1,x.1.2),(x.2.1.1,x.2.1.2),(x.2.2.1.1,x.2.2.1.2),(x.2.2.2.1,x.2.2.2.2)]) fun f=>bif !(f)then some 0 else bif decide (x.1.1=x.2.1.1)&&decide (x.1.2=x.2.1.2)then b8 (y4 ((x.2.2.1.1,x.2.2.1.2),(x.2.2.2.1,x.2.2.2.2),(x.1.1,x.1.2))) fun v11=>bif v11 then some 1 else some 0 else bif decide (x.2.2.1.1=x.2.2.2.1)&&decide (x.2.2.1.2=x.2.2.2.2)then b8 (y4 ((x.1.1,x.1.2),(x.2.1.1,x.2.1.2),(x.2.2.1.1,x.2.2.1.2))) fun v12=>bif v12 then some 1 else some 0 else b8 (u7 ((x.1.1,x.1.2),(x.2.1.1,x.2.1.2),(x.2.2.1.1,x.2.2.1.2))) fun v12=>bif decide (v12=0)then b8 (u7 ((x.1.1,x.1.2),(x.2.1.1,x.2.1.2),(x.2.2.2.1,x.2.2.2.2))) fun a=>bif decide (a=0)then b8 (V7 ((x.1.1,x.1.2),(x.2.1.1,x.2.1.2),(x.2.2.1.1,x.2.2.1.2),(x.2.2.2.1,x.2.2.2.2))) fun b=>some b else b8 (u7 ((x.1.1,x.1.2),(x.2.1.1,x.2.1.2),(x.2.2.1.1,x.2.2.1.2))) fun b=>b8 (u7 ((x.1.1,x.1.2),(x.2.1.1,x.2.1.2),(x.2.2.2.1,x.2.2.2.2))) fun v17=>bif decide ((aa.wrap (b*v17))<=0)then b8 (u7 ((x.2.2.1.1,x.2.2.1.2),(x.2.2.2.1,x.2.2.2.2),(x.1.1,x.1.2))) fun v20=>b8 (u7 ((x.2.2.1.1,x.2.2.1.2),(x.2.2.2.1,x.2.2.2.2),(x.2.1.1,x.2.1.2))) fun v21=>bif decide ((aa.wrap (v20*v21))<=0)then some 1 else some 0 else some 0 else b8 (u7 ((x.1.1,x.1.2),(x.2.1.1,x.2.1.2),(x.2.2.1.1,x.2.2.1.2))) fun a=>b8 (u7 ((x.1.1,x.1.2),(x.2.1.1,x.2.1.2),(x.2.2.2.1,x.2.2.2.2))) fun c=>
 bif decide ((aa.wrap (a*c))<=0)then b8 (u7 ((x.2.2.1.1,x.2.2.1.2),(x.2.2.2.1,x.2.2.2.2),(x.1.1,x.1.2))) fun d=>b8 (u7 ((x.2.2.1.1,x.2.2.1.2),(x.2.2.2.1,x.2.2.2.2),(x.2.1.1,x.2.1.2))) fun e=>bif decide ((aa.wrap (d*e))<=0)then some 1 else some 0 else some 0
noncomputable def J8:((Int×Int×Int×List (Int×Int)×Int×Int×List (Int×Int))×Int)×((Int×Int×Int×List (Int×Int)×Int×Int×List (Int×Int))×Int)×List (Int×(Int×Int))->Option (Bool):=fun x=>b8 (u5 (x.1.1,x.1.2)) fun v5=>b8 (u5 (x.2.1.1,x.2.1.2)) fun v9=>b8 (bp0 ((v5.1.1,v5.1.2),(v5.2.1,v5.2.2),(v9.1.1,v9.1.2),(v9.2.1,v9.2.2))) fun c=>b8 (some ()) fun l=>b8 (some x.1.1) fun l=>b8 (some ()) fun v21=>b8 (some x.2.1.1) fun v21=>bif decide (l.1=v21.1)then bif decide (x.2.1.2<x.1.2)then bif decide ((aa.wrap (x.2.1.2+1))=x.1.2)then some (decide (c=1))else b8 (some ()) fun v32=>b8 (some x.2.1.1) fun v32=>b8 (some ()) fun v39=>b8 (some x.2.1.1) fun v39=>bif decide (v32.2.1=v39.2.2.1)then b8 (A4 (x.2.1.1,x.2.1.2)) fun i=>bif i then b8 (w6 (x.1.1,x.1.2)) fun j=>bif j then some (decide (c=1))else some (decide (c=0))else some (decide (c=0))else some (decide (c=0))else bif decide ((aa.wrap (x.1.2+1))=x.2.1.2)then some (decide (c=1))else b8 (some ()) fun v32=>b8 (some x.1.1) fun v32=>b8 (some ()) fun v39=>b8 (some x.1.1) fun v39=>bif decide (v32.2.1=v39.2.2.1)then b8 (A4 (x.1.1,x.1.2)) fun i=>bif i then b8 (w6 (x.2.1.1,x.2.1.2)) fun j=>bif j then some (decide (c=1))else some (decide (c=0))else some (decide (c=0))else some (decide (c=0))else bif !decide (c=1)then some (decide (c=0))else b8 (some ()) fun v30=>b8 (some x.1.1) fun v30=>b8 (some ()) fun v37=>b8 (some x.1.1) fun v37=>b8 (orO (lkp (fun (a b:Int)=>
 decide (a=b)) v30.2.1 x.2.2) (some (0,0))) fun v44=>b8 (some ()) fun v46=>b8 (some x.2.1.1) fun v46=>bif decide (v30.2.1=v46.2.1)then b8 (y4 ((v5.1.1,v5.1.2),(v5.2.1,v5.2.2),(v44.1,v44.2))) fun v54=>bif v54 then b8 (y4 ((v9.1.1,v9.1.2),(v9.2.1,v9.2.2),(v44.1,v44.2))) fun v55=>bif v55 then some true else b8 (orO (lkp (fun (a b:Int)=>decide (a=b)) v37.2.2.1 x.2.2) (some (0,0))) fun f=>b8 (some ()) fun v58=>b8 (some x.2.1.1) fun v58=>bif decide (v37.2.2.1=v58.2.1)then b8 (y4 ((v5.1.1,v5.1.2),(v5.2.1,v5.2.2),(f.1,f.2))) fun v66=>bif v66 then b8 (y4 ((v9.1.1,v9.1.2),(v9.2.1,v9.2.2),(f.1,f.2))) fun v67=>bif v67 then some true else some false else some false else b8 (some ()) fun v66=>b8 (some x.2.1.1) fun v66=>bif decide (v37.2.2.1=v66.2.2.1)then b8 (y4 ((v5.1.1,v5.1.2),(v5.2.1,v5.2.2),(f.1,f.2))) fun d=>bif d then b8 (y4 ((v9.1.1,v9.1.2),(v9.2.1,v9.2.2),(f.1,f.2))) fun v75=>bif v75 then some true else some false else some false else some false else b8 (orO (lkp (fun (a b:Int)=>decide (a=b)) v37.2.2.1 x.2.2) (some (0,0))) fun v55=>b8 (some ()) fun v57=>b8 (some x.2.1.1) fun v57=>bif decide (v37.2.2.1=v57.2.1)then b8 (y4 ((v5.1.1,v5.1.2),(v5.2.1,v5.2.2),(v55.1,v55.2))) fun h=>bif h then b8 (y4 ((v9.1.1,v9.1.2),(v9.2.1,v9.2.2),(v55.1,v55.2))) fun v66=>bif v66 then some true else some false else some false else b8 (some ()) fun h=>b8 (some x.2.1.1) fun h=>
 bif decide (v37.2.2.1=h.2.2.1)then b8 (y4 ((v5.1.1,v5.1.2),(v5.2.1,v5.2.2),(v55.1,v55.2))) fun g=>bif g then b8 (y4 ((v9.1.1,v9.1.2),(v9.2.1,v9.2.2),(v55.1,v55.2))) fun d=>bif d then some true else some false else some false else some false else b8 (some ()) fun v54=>b8 (some x.2.1.1) fun v54=>bif decide (v30.2.1=v54.2.2.1)then b8 (y4 ((v5.1.1,v5.1.2),(v5.2.1,v5.2.2),(v44.1,v44.2))) fun e=>bif e then b8 (y4 ((v9.1.1,v9.1.2),(v9.2.1,v9.2.2),(v44.1,v44.2))) fun v63=>bif v63 then some true else b8 (orO (lkp (fun (a b:Int)=>decide (a=b)) v37.2.2.1 x.2.2) (some (0,0))) fun v64=>b8 (some ()) fun v66=>b8 (some x.2.1.1) fun v66=>bif decide (v37.2.2.1=v66.2.1)then b8 (y4 ((v5.1.1,v5.1.2),(v5.2.1,v5.2.2),(v64.1,v64.2))) fun d=>bif d then b8 (y4 ((v9.1.1,v9.1.2),(v9.2.1,v9.2.2),(v64.1,v64.2))) fun v75=>bif v75 then some true else some false else some false else b8 (some ()) fun d=>b8 (some x.2.1.1) fun d=>bif decide (v37.2.2.1=d.2.2.1)then b8 (y4 ((v5.1.1,v5.1.2),(v5.2.1,v5.2.2),(v64.1,v64.2))) fun v82=>bif v82 then b8 (y4 ((v9.1.1,v9.1.2),(v9.2.1,v9.2.2),(v64.1,v64.2))) fun m=>bif m then some true else some false else some false else some false else b8 (orO (lkp (fun (a b:Int)=>decide (a=b)) v37.2.2.1 x.2.2) (some (0,0))) fun v63=>b8 (some ()) fun h=>b8 (some x.2.1.1) fun h=>bif decide (v37.2.2.1=h.2.1)then b8 (y4 ((v5.1.1,v5.1.2),(v5.2.1,v5.2.2),(v63.1,v63.2))) fun g=>bif g then b8 (y4 ((v9.1.1,v9.1.2),(v9.2.1,v9.2.2),(v63.1,v63.2))) fun d=>
 bif d then some true else some false else some false else b8 (some ()) fun g=>b8 (some x.2.1.1) fun g=>bif decide (v37.2.2.1=g.2.2.1)then b8 (y4 ((v5.1.1,v5.1.2),(v5.2.1,v5.2.2),(v63.1,v63.2))) fun k=>bif k then b8 (y4 ((v9.1.1,v9.1.2),(v9.2.1,v9.2.2),(v63.1,v63.2))) fun v82=>bif v82 then some true else some false else some false else some false else b8 (orO (lkp (fun (a b:Int)=>decide (a=b)) v37.2.2.1 x.2.2) (some (0,0))) fun e=>b8 (some ()) fun v64=>b8 (some x.2.1.1) fun v64=>bif decide (v37.2.2.1=v64.2.1)then b8 (y4 ((v5.1.1,v5.1.2),(v5.2.1,v5.2.2),(e.1,e.2))) fun v72=>bif v72 then b8 (y4 ((v9.1.1,v9.1.2),(v9.2.1,v9.2.2),(e.1,e.2))) fun g=>bif g then some true else some false else some false else b8 (some ()) fun v72=>b8 (some x.2.1.1) fun v72=>bif decide (v37.2.2.1=v72.2.2.1)then b8 (y4 ((v5.1.1,v5.1.2),(v5.2.1,v5.2.2),(e.1,e.2))) fun v80=>bif v80 then b8 (y4 ((v9.1.1,v9.1.2),(v9.2.1,v9.2.2),(e.1,e.2))) fun k=>bif k then some true else some false else some false else some false
noncomputable def az0:(List (Int×Int×Int)×List (Int×Int×Int×List (Int×Int)×Int×Int)×List (Int))->Option (Bool):=fun x=>rounds (α:=List ((Int×Int×Int×List (Int×Int)×Int×Int×List (Int×Int))×Int)×Int) (β:=Bool) (fun B o=>bif decide (o.2<((x.2.1).length:Int))then b8 (nth x.2.1 o.2) fun f=>b8 (E9 ((x.1,x.2.1,x.2.2),f.1)) fun d=>bif !decide (d.2=0)then some false else bif decide (f.2.1=f.2.2.1)then bif decide (((d.1).length:Int)<4)then some false else rounds (α:=List ((Int×Int×Int×List (Int×Int)×Int×Int×List (Int×Int))×Int)×Int) (β:=Bool) (fun s g=>bif decide (g.2<(aa.wrap (((d.1).length:Int)-1)))then b8 (nth d.1 g.2) fun v26=>b8 (nth d.1 (aa.wrap (g.2+1))) fun v29=>bif decide (v26.1=v29.1)&&decide (v26.2=v29.2)then some false else b8 (Q5 16 g.1 [((f.1,f.2.1,f.2.2.1,f.2.2.2.1,f.2.2.2.2.1,f.2.2.2.2.2,d.1),g.2)]) fun v32=>s (v32,(aa.wrap (g.2+1)))else B (g.1,(aa.wrap (o.2+1)))) (o.1,0)else rounds (α:=List ((Int×Int×Int×List (Int×Int)×Int×Int×List (Int×Int))×Int)×Int) (β:=Bool) (fun t h=>bif decide (h.2<(aa.wrap (((d.1).length:Int)-1)))then b8 (nth d.1 h.2) fun v24=>b8 (nth d.1 (aa.wrap (h.2+1))) fun v27=>bif decide (v24.1=v27.1)&&decide (v24.2=v27.2)then some false else b8 (Q5 16 h.1 [((f.1,f.2.1,f.2.2.1,f.2.2.2.1,f.2.2.2.2.1,f.2.2.2.2.2,d.1),h.2)]) fun v30=>
 t (v30,(aa.wrap (h.2+1)))else B (h.1,(aa.wrap (o.2+1)))) (o.1,0)else rounds (α:=Int×List (Int×(Int×Int))) (β:=Bool) (fun C q=>bif decide (q.1<((x.1).length:Int))then b8 (nth x.1 q.1) fun e=>C ((aa.wrap (q.1+1)),(V9 (fun (a b:Int)=>decide (a=b)) e.1 (e.2.1,e.2.2) q.2))else b8 (some ()) fun e=>b8 (slices_SortFunc_plan_segment_plan_planar_1 (o.1,2,())) fun e=>rounds (α:=Int) (β:=Bool) (fun r l=>bif decide (l<((e).length:Int))then b8 (nth e l) fun c=>b8 (td0 e (some (aa.wrap (l+1))) none) fun v21=>rounds (α:=Int) (β:=Bool) (fun u p=>bif decide (p<((v21).length:Int))then b8 (nth v21 p) fun v26=>b8 (B2 (v26.1,v26.2)) fun v28=>b8 (F7 (c.1,c.2)) fun v29=>bif decide (v29<v28)then rounds (α:=Int) (β:=Bool) (fun m i=>bif decide (i<((x.1).length:Int))then b8 (nth x.1 i) fun v35=>b8 (u5 (c.1,c.2)) fun j=>b8 (y4 ((j.1.1,j.1.2),(j.2.1,j.2.2),(v35.2.1,v35.2.2))) fun v=>bif v then b8 (A4 (c.1,c.2)) fun w=>bif w then b8 (some ()) fun v44=>b8 (some c.1) fun v44=>bif !((decide (v44.2.1=v35.1)))then b8 (w6 (c.1,c.2)) fun v53=>bif v53 then b8 (some ()) fun v54=>b8 (some c.1) fun v54=>bif !((decide (v54.2.2.1=v35.1)))then some false else m (aa.wrap (i+1))else some false else m (aa.wrap (i+1))else b8 (w6 (c.1,c.2)) fun v44=>bif v44 then b8 (some ()) fun v45=>b8 (some c.1) fun v45=>
 bif !((decide (v45.2.2.1=v35.1)))then some false else m (aa.wrap (i+1))else some false else m (aa.wrap (i+1))else r (aa.wrap (l+1))) 0 else b8 (some ()) fun v31=>b8 (J8 ((c.1,c.2),(v26.1,v26.2),q.2)) fun v31=>bif !(v31)then some false else u (aa.wrap (p+1))else rounds (α:=Int) (β:=Bool) (fun n k=>bif decide (k<((x.1).length:Int))then b8 (nth x.1 k) fun v30=>b8 (u5 (c.1,c.2)) fun v33=>b8 (y4 ((v33.1.1,v33.1.2),(v33.2.1,v33.2.2),(v30.2.1,v30.2.2))) fun v37=>bif v37 then b8 (A4 (c.1,c.2)) fun j=>bif j then b8 (some ()) fun v39=>b8 (some c.1) fun v39=>bif !((decide (v39.2.1=v30.1)))then b8 (w6 (c.1,c.2)) fun z=>bif z then b8 (some ()) fun v49=>b8 (some c.1) fun v49=>bif !((decide (v49.2.2.1=v30.1)))then some false else n (aa.wrap (k+1))else some false else n (aa.wrap (k+1))else b8 (w6 (c.1,c.2)) fun v39=>bif v39 then b8 (some ()) fun v40=>b8 (some c.1) fun v40=>bif !((decide (v40.2.2.1=v30.1)))then some false else n (aa.wrap (k+1))else some false else n (aa.wrap (k+1))else r (aa.wrap (l+1))) 0) 0 else some true) 0) (0,([]:List (Int×(Int×Int))))) (([]:List ((Int×Int×Int×List (Int×Int)×Int×Int×List (Int×Int))×Int)),0)
noncomputable def as0:(List (Int×Int×Int)×List (Int×Int×Int×List (Int×Int)×Int×Int)×List (Int))->Option (Int):=fun x=>bif decide ((256:Int)<((x.1).length:Int))then some 3 else bif decide ((256:Int)<((x.2.1).length:Int))then some 3 else bif decide ((64:Int)<((x.2.2).length:Int))then some 3 else rounds (α:=Int) (β:=Int) (fun c b=>bif decide (b<((x.2.1).length:Int))then b8 (nth x.2.1 b) fun a=>bif decide ((64:Int)<((a.2.2.2.1).length:Int))then some 3 else c (aa.wrap (b+1))else b8 (L4 (x.1,x.2.1,x.2.2)) fun a=>b8 (I8 a.1) fun d=>bif !(d)then some 10 else b8 (I8 a.2) fun v17=>bif !(v17)then some 10 else b8 (I8 x.2.2) fun e=>bif !(e)then some 10 else b8 (L1 a.1) fun v21=>bif !(v21)then some 2 else b8 (L1 a.2) fun v23=>bif !(v23)then some 2 else b8 (L1 x.2.2) fun v25=>bif !(v25)then some 2 else b8 (ax0 (x.1,x.2.1,x.2.2)) fun v27=>bif !(v27)then some 2 else b8 (P3 ((x.1,x.2.1,x.2.2),a.1)) fun v29=>bif !decide (v29=0)then some v29 else b8 (az0 (x.1,x.2.1,x.2.2)) fun v31=>bif !(v31)then some 11 else some 0) 0
noncomputable def R4:(Int×Int)×(Int×Int)->Option (Bool):=fun x=>bif decide (x.2.2<x.1.2)then some true else bif decide (x.2.2=x.1.2)then some (decide (x.2.1<x.1.1))else some false
noncomputable def X6:(Int×Int)×(Int×Int)×(Int×Int)->Option (Bool):=fun x=>b8 (some ()) fun v6=>b8 (L7 [(x.1.1,x.1.2),(x.2.1.1,x.2.1.2),(x.2.2.1,x.2.2.2)]) fun v6=>bif !(v6)then some false else bif decide (x.2.1.1=x.1.1)&&decide (x.2.1.2=x.1.2)then some false else bif decide (x.2.2.1=x.1.1)&&decide (x.2.2.2=x.1.2)then some false else b8 (R4 ((x.1.1,x.1.2),(x.2.1.1,x.2.1.2))) fun v10=>b8 (R4 ((x.1.1,x.1.2),(x.2.2.1,x.2.2.2))) fun v11=>bif !(v10==v11)then b8 (R4 ((x.1.1,x.1.2),(x.2.2.1,x.2.2.2))) fun a=>some a else b8 (M3 ((x.1.1,x.1.2),(x.2.1.1,x.2.1.2),(x.2.2.1,x.2.2.2))) fun a=>some (decide (0<a))
noncomputable def I4:Int×Int×(Int×Int×Int)×(List (Int×(Int×Int)))->Option (Int):=fun x=>b8 (orO (lkp (fun (a b:Int)=>decide (a=b)) x.1 x.2.2.2) (some (0,0))) fun v6=>b8 (orO (lkp (fun (a b:Int)=>decide (a=b)) x.2.1 x.2.2.2) (some (0,0))) fun e=>b8 (X6 ((x.2.2.1.2.1,x.2.2.1.2.2),(v6.1,v6.2),(e.1,e.2))) fun v10=>bif v10 then some (-1)else b8 (orO (lkp (fun (a b:Int)=>decide (a=b)) x.2.1 x.2.2.2) (some (0,0))) fun v11=>b8 (orO (lkp (fun (a b:Int)=>decide (a=b)) x.1 x.2.2.2) (some (0,0))) fun c=>b8 (X6 ((x.2.2.1.2.1,x.2.2.1.2.2),(v11.1,v11.2),(c.1,c.2))) fun d=>bif d then some 1 else some 0
noncomputable def slices_SortFunc_int_walk_Around_2:List (Int)×Int×((Int×Int×Int)×(List (Int×(Int×Int))))->Option (List (Int)):=fun x=>bif decide (x.2.1=1)then du0 (fun a b=>I4 (a,b,x.2.2.1,x.2.2.2)) x.1 else none
noncomputable def U9:(List (Int×Int×Int)×List (Int×Int×Int×List (Int×Int)×Int×Int)×List (Int))×Int->Option (List (Int)):=fun x=>b8 (N7 ((x.1.1,x.1.2.1,x.1.2.2),x.2)) fun v4=>bif !(v4.2)then some ([]:List (Int))else rounds (α:=Int×List (Int)×List (Int×(Int×Int))) (β:=List (Int)) (fun e c=>bif decide (c.1<((x.1.2.1).length:Int))then b8 (nth x.1.2.1 c.1) fun d=>bif !decide (d.2.1=x.2)then bif !decide (d.2.2.1=x.2)then e ((aa.wrap (c.1+1)),c.2.1,c.2.2)else b8 (E9 ((x.1.1,x.1.2.1,x.1.2.2),d.1)) fun v23=>bif !decide (v23.2=0)then e ((aa.wrap (c.1+1)),c.2.1,c.2.2)else bif decide (d.2.1=x.2)then b8 (nth v23.1 1) fun v27=>b8 (Q5 8 c.2.1 [d.1]) fun v29=>b8 (some (V9 (fun (a b:Int)=>decide (a=b)) d.1 (v27.1,v27.2) c.2.2)) fun v30=>bif decide (d.2.2.1=x.2)then b8 (nth v23.1 (aa.wrap (((v23.1).length:Int)-2))) fun v35=>b8 (Q5 8 v29 [(aa.wrap (0-d.1))]) fun v37=>e ((aa.wrap (c.1+1)),v37,(V9 (fun (a b:Int)=>decide (a=b)) (aa.wrap (0-d.1)) (v35.1,v35.2) v30))else e ((aa.wrap (c.1+1)),v29,v30)else bif decide (d.2.2.1=x.2)then b8 (nth v23.1 (aa.wrap (((v23.1).length:Int)-2))) fun v31=>b8 (Q5 8 c.2.1 [(aa.wrap (0-d.1))]) fun v33=>e ((aa.wrap (c.1+1)),v33,(V9 (fun (a b:Int)=>
 decide (a=b)) (aa.wrap (0-d.1)) (v31.1,v31.2) c.2.2))else e ((aa.wrap (c.1+1)),c.2.1,c.2.2)else b8 (E9 ((x.1.1,x.1.2.1,x.1.2.2),d.1)) fun v22=>bif !decide (v22.2=0)then e ((aa.wrap (c.1+1)),c.2.1,c.2.2)else bif decide (d.2.1=x.2)then b8 (nth v22.1 1) fun v26=>b8 (Q5 8 c.2.1 [d.1]) fun v28=>b8 (some (V9 (fun (a b:Int)=>decide (a=b)) d.1 (v26.1,v26.2) c.2.2)) fun v29=>bif decide (d.2.2.1=x.2)then b8 (nth v22.1 (aa.wrap (((v22.1).length:Int)-2))) fun f=>b8 (Q5 8 v28 [(aa.wrap (0-d.1))]) fun v36=>e ((aa.wrap (c.1+1)),v36,(V9 (fun (a b:Int)=>decide (a=b)) (aa.wrap (0-d.1)) (f.1,f.2) v29))else e ((aa.wrap (c.1+1)),v28,v29)else bif decide (d.2.2.1=x.2)then b8 (nth v22.1 (aa.wrap (((v22.1).length:Int)-2))) fun v30=>b8 (Q5 8 c.2.1 [(aa.wrap (0-d.1))]) fun v32=>e ((aa.wrap (c.1+1)),v32,(V9 (fun (a b:Int)=>decide (a=b)) (aa.wrap (0-d.1)) (v30.1,v30.2) c.2.2))else e ((aa.wrap (c.1+1)),c.2.1,c.2.2)else b8 (some ()) fun d=>b8 (slices_SortFunc_int_walk_Around_2 (c.2.1,1,((v4.1.1,v4.1.2.1,v4.1.2.2),c.2.2))) fun d=>some d) (0,([]:List (Int)),([]:List (Int×(Int×Int))))
noncomputable def M6:List (Int)×Int->Option (Int):=fun x=>b8 (H8 (x.1,x.2)) fun v2=>bif decide (v2<0)then some 0 else b8 ((bif decide (((x.1).length:Int)=0)then none else some ((aa.wrap ((aa.wrap (v2+((x.1).length:Int)))-1)).tmod ((x.1).length:Int)))) fun a=>b8 (nth x.1 a) fun v9=>some v9
noncomputable def Q8:(List (Int×Int×Int)×List (Int×Int×Int×List (Int×Int)×Int×Int)×List (Int))->Option ((List (List (Int))×Int)):=fun x=>b8 (as0 (x.1,x.2.1,x.2.2)) fun v3=>bif !decide (v3=0)then some (([]:List (List (Int))),v3)else rounds (α:=List (Int)×Int×List (Int×Int)) (β:=(List (List (Int))×Int)) (fun m f=>bif decide (f.2.1<((x.1).length:Int))then b8 (nth x.1 f.2.1) fun v11=>b8 (U9 ((x.1,x.2.1,x.2.2),v11.1)) fun g=>rounds (α:=List (Int)×Int×List (Int×Int)) (β:=(List (List (Int))×Int)) (fun j e=>bif decide (e.2.1<((g).length:Int))then b8 (nth g e.2.1) fun v21=>b8 (Q5 8 e.1 [v21]) fun v22=>b8 (M6 (g,v21)) fun v24=>j (v22,(aa.wrap (e.2.1+1)),(V9 (fun (a b:Int)=>decide (a=b)) (aa.wrap (0-v21)) v24 e.2.2))else m (e.1,(aa.wrap (f.2.1+1)),e.2.2)) (f.1,0,f.2.2)else b8 (some ()) fun v11=>b8 (slices_Sort_int (f.1,1)) fun v11=>rounds (α:=Int×List (List (Int))×List (Int×Bool)) (β:=(List (List (Int))×Int)) (fun i c=>bif decide (c.1<((v11).length:Int))then b8 ((bif decide (0<=c.1)&&decide (c.1<(v11).length)then some ()else none)) fun h=>b8 (((v11)[(c.1).toNat]?).map (fun x=>x)) fun h=>b8 (orO (lkp (fun (a b:Int)=>decide (a=b)) h c.2.2) (some false)) fun k=>bif !(k)then rounds (α:=Int×List (Int)×List (Int×Bool)) (β:=(List (List (Int))×Int)) (fun l d=>b8 (orO (lkp (fun (a b:Int)=>decide (a=b)) d.1 d.2.2) (some false)) fun v25=>bif !(v25)then b8 (Q5 8 d.2.1 [d.1]) fun v28=>
 b8 (orO (lkp (fun (a b:Int)=>decide (a=b)) d.1 f.2.2) (some 0)) fun v29=>l (v29,v28,(V9 (fun (a b:Int)=>decide (a=b)) d.1 true d.2.2))else b8 (some ()) fun v27=>b8 (Q5 24 c.2.1 [d.2.1]) fun v27=>i ((aa.wrap (c.1+1)),v27,d.2.2)) (h,([]:List (Int)),c.2.2)else i ((aa.wrap (c.1+1)),c.2.1,c.2.2)else some (c.2.1,0)) (0,([]:List (List (Int))),([]:List (Int×Bool)))) (([]:List (Int)),0,([]:List (Int×Int)))
noncomputable def P9:(List (Int×Int×Int)×List (Int×Int×Int×List (Int×Int)×Int×Int)×List (Int))->Option (List (Int×List (Int×Int))):=fun x=>rounds (α:=Int×List (Int×List (Int×Int))) (β:=List (Int×List (Int×Int))) (fun e c=>bif decide (c.1<((x.2.1).length:Int))then b8 (nth x.2.1 c.1) fun f=>b8 (E9 ((x.1,x.2.1,x.2.2),f.1)) fun d=>bif decide (d.2=0)then e ((aa.wrap (c.1+1)),(V9 (fun (a b:Int)=>decide (a=b)) f.1 d.1 c.2))else e ((aa.wrap (c.1+1)),c.2)else some c.2) (0,([]:List (Int×List (Int×Int))))
noncomputable def an0:(List (Int×Int×Int)×List (Int×Int×Int×List (Int×Int)×Int×Int)×List (Int))×Int->Option (((Int×Int×Int×List (Int×Int)×Int×Int)×Bool)):=fun x=>bif decide (x.2=0)then some ((0,0,0,([]:List (Int×Int)),0,0),false)else bif decide (x.2=(-9223372036854775808))then some ((0,0,0,([]:List (Int×Int)),0,0),false)else b8 (al0 ((x.1.1,x.1.2.1,x.1.2.2),(bp mxI x.2 [(aa.wrap (0-x.2))]))) fun a=>some ((a.1.1,a.1.2.1,a.1.2.2.1,a.1.2.2.2.1,a.1.2.2.2.2.1,a.1.2.2.2.2.2),a.2)
noncomputable def ar0:(List (Int×Int×Int)×List (Int×Int×Int×List (Int×Int)×Int×Int)×List (Int))×List (Int)->Option (Int):=fun x=>bif decide ((512:Int)<((x.2).length:Int))then some 0 else rounds (α:=Int×Int) (β:=Int) (fun f b=>bif decide (b.2<((x.2).length:Int))then b8 (nth x.2 b.2) fun v11=>b8 (an0 ((x.1.1,x.1.2.1,x.1.2.2),v11)) fun v12=>bif !(v12.2)then some 0 else b8 (E9 ((x.1.1,x.1.2.1,x.1.2.2),(bp mxI v11 [(aa.wrap (0-v11))]))) fun v22=>bif !decide (v22.2=0)then some 0 else rounds (α:=Int×Int) (β:=Int) (fun c a=>bif decide (a.2<(aa.wrap (((v22.1).length:Int)-1)))then b8 (nth v22.1 a.2) fun v31=>b8 (nth v22.1 (aa.wrap (a.2+1))) fun d=>b8 (nth v22.1 (aa.wrap (a.2+1))) fun e=>b8 (nth v22.1 a.2) fun v40=>c ((aa.wrap (a.1+(aa.wrap ((aa.wrap (v31.1*d.2))-(aa.wrap (e.1*v40.2)))))),(aa.wrap (a.2+1)))else bif decide (v11<0)then f ((aa.wrap (b.1+(aa.wrap (0-a.1)))),(aa.wrap (b.2+1)))else f ((aa.wrap (b.1+a.1)),(aa.wrap (b.2+1)))) (0,0)else some b.1) (0,0)
noncomputable def y6:List (Int×List (Int×Int))×List (Int)×(Int×Int)->Option (Bool):=fun x=>rounds (α:=Int×Bool×Bool) (β:=Bool) (fun g e=>bif decide (e.1<((x.2.1).length:Int))then b8 (nth x.2.1 e.1) fun v10=>b8 (orO (lkp (fun (a b:Int)=>decide (a=b)) (bp mxI v10 [(aa.wrap (0-v10))]) x.1) none) fun f=>rounds (α:=Int×Bool×Bool) (β:=Bool) (fun d c=>bif decide (c.1<((f).length:Int))then b8 (nth f (aa.wrap (c.1-1))) fun v21=>b8 (nth f c.1) fun v23=>b8 (y4 ((v21.1,v21.2),(v23.1,v23.2),(x.2.2.1,x.2.2.2))) fun v25=>bif v25 then d ((aa.wrap (c.1+1)),c.2.1,true)else bif decide (v21.2<=x.2.2.2)then bif decide (x.2.2.2<v23.2)then b8 (u7 ((v21.1,v21.2),(v23.1,v23.2),(x.2.2.1,x.2.2.2))) fun v28=>bif decide (0<v28)then d ((aa.wrap (c.1+1)),(!(c.2.1)),c.2.2)else bif decide (v23.2<=x.2.2.2)then bif decide (x.2.2.2<v21.2)then b8 (u7 ((v21.1,v21.2),(v23.1,v23.2),(x.2.2.1,x.2.2.2))) fun v32=>bif decide (v32<0)then d ((aa.wrap (c.1+1)),(!(c.2.1)),c.2.2)else d ((aa.wrap (c.1+1)),c.2.1,c.2.2)else d ((aa.wrap (c.1+1)),c.2.1,c.2.2)else d ((aa.wrap (c.1+1)),c.2.1,c.2.2)else bif decide (v23.2<=x.2.2.2)then bif decide (x.2.2.2<v21.2)then b8 (u7 ((v21.1,v21.2),(v23.1,v23.2),(x.2.2.1,x.2.2.2))) fun v30=>
 bif decide (v30<0)then d ((aa.wrap (c.1+1)),(!(c.2.1)),c.2.2)else d ((aa.wrap (c.1+1)),c.2.1,c.2.2)else d ((aa.wrap (c.1+1)),c.2.1,c.2.2)else d ((aa.wrap (c.1+1)),c.2.1,c.2.2)else bif decide (v23.2<=x.2.2.2)then bif decide (x.2.2.2<v21.2)then b8 (u7 ((v21.1,v21.2),(v23.1,v23.2),(x.2.2.1,x.2.2.2))) fun v29=>bif decide (v29<0)then d ((aa.wrap (c.1+1)),(!(c.2.1)),c.2.2)else d ((aa.wrap (c.1+1)),c.2.1,c.2.2)else d ((aa.wrap (c.1+1)),c.2.1,c.2.2)else d ((aa.wrap (c.1+1)),c.2.1,c.2.2)else g ((aa.wrap (e.1+1)),c.2.2,c.2.1)) (1,e.2.2,e.2.1)else bif e.2.2 then some (!(e.2.1))else some false) (0,false,false)
noncomputable def R1:(List (Int×Int×Int)×List (Int×Int×Int×List (Int×Int)×Int×Int)×List (Int))×Int->Option (Int):=fun x=>rounds (α:=Int×Int) (β:=Int) (fun c a=>bif decide (a.1<((x.1.2.1).length:Int))then b8 (nth x.1.2.1 a.1) fun v9=>bif decide (v9.2.1=x.2)then b8 (some (aa.wrap (a.2+1))) fun b=>bif decide (v9.2.2.1=x.2)then c ((aa.wrap (a.1+1)),(aa.wrap (b+1)))else c ((aa.wrap (a.1+1)),b)else bif decide (v9.2.2.1=x.2)then c ((aa.wrap (a.1+1)),(aa.wrap (a.2+1)))else c ((aa.wrap (a.1+1)),a.2)else some a.2) (0,0)
noncomputable def T2:(List (Int×Int×Int)×List (Int×Int×Int×List (Int×Int)×Int×Int)×List (Int))×List (List (Int))×List (Int×List (Int×Int))->Option (List (Int×List (Int)×List (List (Int))×List (Int))):=fun x=>rounds (α:=List (List (Int))×Int×Bool×List (Int×List (Int)×Unit×Unit)) (β:=List (Int×List (Int)×List (List (Int))×List (Int))) (fun r h=>bif decide (h.2.1<((x.2.1).length:Int))then b8 (nth x.2.1 h.2.1) fun v12=>b8 (ar0 ((x.1.1,x.1.2.1,x.1.2.2),v12)) fun m=>bif decide (0<m)then b8 (Q5 80 h.2.2.2 [(m,v12,(),())]) fun l=>r (h.1,(aa.wrap (h.2.1+1)),false,l)else b8 (Q5 24 h.1 [v12]) fun l=>r (l,(aa.wrap (h.2.1+1)),false,h.2.2.2)else b8 (ownO (fun x=>(x.1,x.2.1,([]:List (List (Int))),([]:List (Int)))) h.2.2.2) fun v12=>rounds (α:=Int×List (Int×List (Int)×List (List (Int))×List (Int))) (β:=List (Int×List (Int)×List (List (Int))×List (Int))) (fun o e=>bif decide (e.1<((h.1).length:Int))then b8 ((bif decide (0<=e.1)&&decide (e.1<(h.1).length)then some ()else none)) fun k=>b8 (((h.1)[(e.1).toNat]?).map (fun x=>x)) fun k=>b8 (nth k 0) fun p=>b8 (nth k 0) fun v20=>b8 (orO (lkp (fun (a b:Int)=>decide (a=b)) (bp mxI p [(aa.wrap (0-v20))]) x.2.2) none) fun v23=>b8 (nth v23 0) fun v24=>rounds (α:=Int×Int) (β:=List (Int×List (Int)×List (List (Int))×List (Int))) (fun i c=>
 bif decide (c.1<((e.2).length:Int))then bif decide (c.2=0)then b8 ((bif decide (0<=c.1)&&decide (c.1<(e.2).length)then some ()else none)) fun v32=>b8 (some ()) fun v32=>b8 (((e.2)[(c.1).toNat]?).map (fun x=>x.2.1)) fun v32=>b8 (y6 (x.2.2,v32,(v24.1,v24.2))) fun v33=>bif v33 then i ((aa.wrap (c.1+1)),c.1)else i ((aa.wrap (c.1+1)),c.2)else b8 ((bif decide (0<=c.1)&&decide (c.1<(e.2).length)then some ()else none)) fun v32=>b8 (some ()) fun v32=>b8 (((e.2)[(c.1).toNat]?).map (fun x=>x.1)) fun v32=>b8 ((bif decide (0<=c.2)&&decide (c.2<(e.2).length)then some ()else none)) fun v33=>b8 (some ()) fun v33=>b8 (((e.2)[(c.2).toNat]?).map (fun x=>x.1)) fun v33=>bif decide (v32<v33)then b8 ((bif decide (0<=c.1)&&decide (c.1<(e.2).length)then some ()else none)) fun v35=>b8 (some ()) fun v35=>b8 (((e.2)[(c.1).toNat]?).map (fun x=>x.2.1)) fun v35=>b8 (y6 (x.2.2,v35,(v24.1,v24.2))) fun v36=>bif v36 then i ((aa.wrap (c.1+1)),c.1)else i ((aa.wrap (c.1+1)),c.2)else i ((aa.wrap (c.1+1)),c.2)else b8 (((e.2)[(c.2).toNat]?).map (fun x=>x.2.2.1)) fun v31=>b8 ((bif decide (0<=c.2)&&decide (c.2<(e.2).length)then some ()else none)) fun v32=>b8 (some ()) fun v32=>b8 (inO e.2 c.2) fun v32=>b8 (Q5 24 v31 [k]) fun v32=>b8 ((bif decide (0<=c.2)&&decide (c.2<(e.2).length)then some ()else none)) fun v33=>b8 (some ()) fun v33=>b8 (inO e.2 c.2) fun v33=>
 b8 (some ()) fun v33=>b8 (setO e.2 (c.2).toNat (fun x y=>(x.1,x.2.1,y,x.2.2.2)) v32) fun v33=>o ((aa.wrap (e.1+1)),v33)) (1,0)else rounds (α:=Int×List (Int×List (Int)×List (List (Int))×List (Int))) (β:=List (Int×List (Int)×List (List (Int))×List (Int))) (fun n f=>bif decide (f.1<((x.1.1).length:Int))then b8 (nth x.1.1 f.1) fun v23=>b8 (R1 ((x.1.1,x.1.2.1,x.1.2.2),v23.1)) fun v26=>bif decide (v26=0)then rounds (α:=Int×Int) (β:=List (Int×List (Int)×List (List (Int))×List (Int))) (fun j d=>bif decide (d.1<((f.2).length:Int))then bif decide (d.2=0)then b8 ((bif decide (0<=d.1)&&decide (d.1<(f.2).length)then some ()else none)) fun g=>b8 (some ()) fun g=>b8 (((f.2)[(d.1).toNat]?).map (fun x=>x.2.1)) fun g=>b8 (y6 (x.2.2,g,(v23.2.1,v23.2.2))) fun v35=>bif v35 then j ((aa.wrap (d.1+1)),d.1)else j ((aa.wrap (d.1+1)),d.2)else b8 ((bif decide (0<=d.1)&&decide (d.1<(f.2).length)then some ()else none)) fun g=>b8 (some ()) fun g=>b8 (((f.2)[(d.1).toNat]?).map (fun x=>x.1)) fun g=>b8 ((bif decide (0<=d.2)&&decide (d.2<(f.2).length)then some ()else none)) fun v35=>b8 (some ()) fun v35=>b8 (((f.2)[(d.2).toNat]?).map (fun x=>x.1)) fun v35=>bif decide (g<v35)then b8 ((bif decide (0<=d.1)&&decide (d.1<(f.2).length)then some ()else none)) fun v37=>b8 (some ()) fun v37=>b8 (((f.2)[(d.1).toNat]?).map (fun x=>x.2.1)) fun v37=>b8 (y6 (x.2.2,v37,(v23.2.1,v23.2.2))) fun q=>
 bif q then j ((aa.wrap (d.1+1)),d.1)else j ((aa.wrap (d.1+1)),d.2)else j ((aa.wrap (d.1+1)),d.2)else b8 (((f.2)[(d.2).toNat]?).map (fun x=>x.2.2.2)) fun v33=>b8 ((bif decide (0<=d.2)&&decide (d.2<(f.2).length)then some ()else none)) fun g=>b8 (some ()) fun g=>b8 (inO f.2 d.2) fun g=>b8 (Q5 8 v33 [v23.1]) fun g=>b8 ((bif decide (0<=d.2)&&decide (d.2<(f.2).length)then some ()else none)) fun v35=>b8 (some ()) fun v35=>b8 (inO f.2 d.2) fun v35=>b8 (some ()) fun v35=>b8 (setO f.2 (d.2).toNat (fun x y=>(x.1,x.2.1,x.2.2.1,y)) g) fun v35=>n ((aa.wrap (f.1+1)),v35)) (1,0)else n ((aa.wrap (f.1+1)),f.2)else some f.2) (0,e.2)) (0,v12)) (([]:List (List (Int))),0,false,[(0,([]:List (Int)),(),())])
noncomputable def X7:(List (Int×Int×Int)×List (Int×Int×Int×List (Int×Int)×Int×Int)×List (Int))×Int->Option (Int):=fun x=>b8 (an0 ((x.1.1,x.1.2.1,x.1.2.2),x.2)) fun v4=>bif !(v4.2)then some 0 else bif decide (0<x.2)then some v4.1.2.2.2.2.1 else some v4.1.2.2.2.2.2
noncomputable def D8:(Int×List (Int)×List (List (Int))×List (Int))->Option (List (List (Int))):=fun x=>b8 (Q5 24 [x.2.1] x.2.2.1) fun v4=>some v4
noncomputable def Y7:(List (Int×Int×Int)×List (Int×Int×Int×List (Int×Int)×Int×Int)×List (Int))×List (Int×List (Int)×List (List (Int))×List (Int))->Option ((List (Int)×Bool)):=fun x=>rounds (α:=List (Int)×Int×List (Int×Bool)) (β:=(List (Int)×Bool)) (fun m d=>bif decide (d.2.1<((x.2).length:Int))then b8 (nth x.2 d.2.1) fun v10=>bif decide (0<d.2.1)then b8 (nth v10.2.1 0) fun f=>b8 (X7 ((x.1.1,x.1.2.1,x.1.2.2),f)) fun e=>bif decide (e=0)then some (([]:List (Int)),false)else b8 (orO (lkp (fun (a b:Int)=>decide (a=b)) e d.2.2) (some false)) fun j=>bif j then some (([]:List (Int)),false)else b8 (D8 (v10.1,v10.2.1,v10.2.2.1,v10.2.2.2)) fun v20=>rounds (α:=Int) (β:=(List (Int)×Bool)) (fun g c=>bif decide (c<((v20).length:Int))then b8 (nth v20 c) fun v25=>rounds (α:=Int) (β:=(List (Int)×Bool)) (fun k h=>bif decide (h<((v25).length:Int))then b8 (nth v25 h) fun v30=>b8 (X7 ((x.1.1,x.1.2.1,x.1.2.2),v30)) fun v31=>bif !decide (v31=e)then some (([]:List (Int)),false)else k (aa.wrap (h+1))else g (aa.wrap (c+1))) 0 else b8 (Q5 8 d.1 [e]) fun v25=>m (v25,(aa.wrap (d.2.1+1)),(V9 (fun (a b:Int)=>decide (a=b)) e true d.2.2))) 0 else b8 (D8 (v10.1,v10.2.1,v10.2.2.1,v10.2.2.2)) fun f=>rounds (α:=Int) (β:=(List (Int)×Bool)) (fun l i=>bif decide (i<((f).length:Int))then b8 (nth f i) fun v20=>rounds (α:=Int) (β:=(List (Int)×Bool)) (fun g c=>
 bif decide (c<((v20).length:Int))then b8 (nth v20 c) fun v25=>b8 (X7 ((x.1.1,x.1.2.1,x.1.2.2),v25)) fun v26=>bif !decide (v26=0)then some (([]:List (Int)),false)else g (aa.wrap (c+1))else l (aa.wrap (i+1))) 0 else b8 (Q5 8 d.1 [0]) fun v20=>m (v20,(aa.wrap (d.2.1+1)),d.2.2)) 0 else some (d.1,(decide (((d.2.2).length:Int)=((x.1.2.2).length:Int))))) (([]:List (Int)),0,([]:List (Int×Bool)))
noncomputable def Y1:(List (Int×Int×Int)×List (Int×Int×Int×List (Int×Int)×Int×Int)×List (Int))->Option (Int):=fun x=>b8 (Q8 (x.1,x.2.1,x.2.2)) fun v3=>bif !decide (v3.2=0)then some v3.2 else b8 (P9 (x.1,x.2.1,x.2.2)) fun v6=>b8 (T2 ((x.1,x.2.1,x.2.2),v3.1,v6)) fun a=>b8 (Y7 ((x.1,x.2.1,x.2.2),a)) fun b=>bif !(b.2)then some 12 else some 0
noncomputable def aP0:(Int×Int×Int×ByteArray×List (Int))->Option (Bool):=fun x=>some (decide ((64:Int)<((x.2.2.2.2).length:Int)))
noncomputable def o9:List (Int×Int×Int×ByteArray×List (Int))×(Unit)->Option (Bool):=fun x=>rounds (α:=Int) (β:=Bool) (fun b a=>bif decide (a<((x.1).length:Int))then b8 (nth x.1 a) fun v5=>b8 (aP0 (v5.1,v5.2.1,v5.2.2.1,v5.2.2.2.1,v5.2.2.2.2)) fun v10=>bif v10 then some (decide (0<=a))else b (aa.wrap (a+1))else some false) 0
noncomputable def T8:(Int×Int×Int×ByteArray×List (Int))->Option (Bool):=fun x=>bif decide (x.1<1)then some true else bif decide (1073741824<x.1)then some true else bif decide (x.2.2.1<1)then some true else some (decide (9<x.2.2.1))
noncomputable def j7:List (Int×Int×Int×ByteArray×List (Int))×(Unit)->Option (Bool):=fun x=>rounds (α:=Int) (β:=Bool) (fun b a=>bif decide (a<((x.1).length:Int))then b8 (nth x.1 a) fun v5=>b8 (T8 (v5.1,v5.2.1,v5.2.2.1,v5.2.2.2.1,v5.2.2.2.2)) fun v10=>bif v10 then some (decide (0<=a))else b (aa.wrap (a+1))else some false) 0
noncomputable def A3:Int->Option (Int):=fun x=>bif decide (x=1)then some 1 else bif decide (x=2)then some 1 else bif decide (x=8)then some 1 else bif decide (x=3)then some 2 else bif decide (x=4)then some 2 else bif decide (x=5)then some 3 else bif decide (x=6)then some 3 else bif decide (x=7)then some 3 else some 0
noncomputable def U1:(Int×Int×Int×ByteArray×List (Int))->Option (Bool):=fun x=>b8 (A3 x.2.1) fun v5=>some (decide (v5=0))
noncomputable def l5:List (Int×Int×Int×ByteArray×List (Int))×(Unit)->Option (Bool):=fun x=>rounds (α:=Int) (β:=Bool) (fun b a=>bif decide (a<((x.1).length:Int))then b8 (nth x.1 a) fun v5=>b8 (U1 (v5.1,v5.2.1,v5.2.2.1,v5.2.2.2.1,v5.2.2.2.2)) fun v10=>bif v10 then some (decide (0<=a))else b (aa.wrap (a+1))else some false) 0
noncomputable def R6:Int->Option (Int):=fun x=>bif decide (x<0)then some (-1)else bif decide (1114111<x)then some (-1)else b8 gl_0 fun _=>rounds (α:=Int) (β:=Int) (fun b a=>bif decide (a<13)then b8 (nth [(32,32,0),(39,41,0),(45,46,0),(48,57,0),(65,90,1),(97,122,1),(192,214,1),(216,246,1),(248,591,1),(880,1023,2),(1024,1279,3),(1488,1514,4),(19968,40959,5)] a) fun v46=>bif decide (v46.1<=(kl.wrap x))then bif decide ((kl.wrap x)<=v46.2.1)then some v46.2.2 else b (aa.wrap (a+1))else b (aa.wrap (a+1))else some (-1)) 0
noncomputable def Y0:ByteArray->Option ((List (Int)×Int)):=fun x=>rounds (α:=List (Int)×Int) (β:=(List (Int)×Int)) (fun b a=>bif decide ((a.2).toNat<(x).size)then b8 (rw0 x a.2) fun v5=>b8 (R6 (aa.wrap v5.2.1)) fun v9=>bif decide (v9<0)then some (([]:List (Int)),4)else b8 (Q5 8 a.1 [(aa.wrap v5.2.1)]) fun v12=>b (v12,v5.2.2)else some (a.1,0)) (([]:List (Int)),0)
noncomputable def cy0:ByteArray->Option ((List (Int)×Int)):=fun x=>bif ((x).toList==((cD #[])).toList)then some (([]:List (Int)),14)else bif decide ((40:Int)<((x).size:Int))then some (([]:List (Int)),3)else b8 (Y0 x) fun v4=>bif !decide (v4.2=0)then some (([]:List (Int)),v4.2)else b8 (kT0 x 0) fun f=>bif decide (f=32)then some (([]:List (Int)),14)else b8 (kT0 x (aa.wrap (((x).size:Int)-1))) fun v11=>bif decide (v11=32)then some (([]:List (Int)),14)else b8 (strings_Contains (x,(cD #[32,32]))) fun b=>bif b then some (([]:List (Int)),14)else rounds (α:=Int) (β:=(List (Int)×Int)) (fun c a=>bif decide (a<((v4.1).length:Int))then b8 (nth v4.1 a) fun d=>b8 (R6 d) fun e=>bif !decide (e=0)then some (v4.1,0)else c (aa.wrap (a+1))else some (([]:List (Int)),14)) 0
noncomputable def W1:ByteArray->Option (Int):=fun x=>b8 (cy0 x) fun v1=>some v1.2
noncomputable def T3:(Int×Int×Int×ByteArray×List (Int))->Option (Bool):=fun x=>bif !((x.2.2.2.1).toList==((cD #[])).toList)then b8 (W1 x.2.2.2.1) fun v6=>some (!decide (v6=0))else some false
noncomputable def j5:List (Int×Int×Int×ByteArray×List (Int))×(Unit)->Option (Bool):=fun x=>rounds (α:=Int) (β:=Bool) (fun b a=>bif decide (a<((x.1).length:Int))then b8 (nth x.1 a) fun v5=>b8 (T3 (v5.1,v5.2.1,v5.2.2.1,v5.2.2.2.1,v5.2.2.2.2)) fun v10=>bif v10 then some (decide (0<=a))else b (aa.wrap (a+1))else some false) 0
noncomputable def T7:(Int×Int×Int×ByteArray×List (Int))->Option (Bool):=fun x=>bif decide (((x.2.2.2.2).length:Int)=0)then some true else b8 (A3 x.2.1) fun a=>bif decide (a=1)then some (decide ((1:Int)<((x.2.2.2.2).length:Int)))else some false
noncomputable def j6:List (Int×Int×Int×ByteArray×List (Int))×(Unit)->Option (Bool):=fun x=>rounds (α:=Int) (β:=Bool) (fun b a=>bif decide (a<((x.1).length:Int))then b8 (nth x.1 a) fun v5=>b8 (T7 (v5.1,v5.2.1,v5.2.2.1,v5.2.2.2.1,v5.2.2.2.2)) fun v10=>bif v10 then some (decide (0<=a))else b (aa.wrap (a+1))else some false) 0
noncomputable def et0:List (Int)×Int->Option (Bool):=fun x=>b8 (l8 (x.1,x.2)) fun v2=>some v2
noncomputable def J9:Int×(Int×Int×Int×ByteArray×List (Int))×(List (Int×Int×Int)×List (Int×Int×Int×List (Int×Int)×Int×Int)×List (Int))->Option (Bool):=fun x=>b8 (A3 x.2.1.2.1) fun v9=>bif decide (v9=1)then b8 (N7 ((x.2.2.1,x.2.2.2.1,x.2.2.2.2),x.1)) fun v11=>some (!(v11.2))else bif decide (v9=2)then b8 (al0 ((x.2.2.1,x.2.2.2.1,x.2.2.2.2),x.1)) fun v12=>some (!(v12.2))else bif decide (v9=3)then b8 (et0 (x.2.2.2.2,x.1)) fun a=>some (!(a))else some true
noncomputable def y8:List (Int)×((Int×Int×Int×ByteArray×List (Int))×(List (Int×Int×Int)×List (Int×Int×Int×List (Int×Int)×Int×Int)×List (Int)))->Option (Bool):=fun x=>rounds (α:=Int) (β:=Bool) (fun b a=>bif decide (a<((x.1).length:Int))then b8 (nth x.1 a) fun c=>b8 (J9 (c,(x.2.1.1,x.2.1.2.1,x.2.1.2.2.1,x.2.1.2.2.2.1,x.2.1.2.2.2.2),(x.2.2.1,x.2.2.2.1,x.2.2.2.2))) fun d=>bif d then some (decide (0<=a))else b (aa.wrap (a+1))else some false) 0
noncomputable def N9:(List (Int×Int×Int)×List (Int×Int×Int×List (Int×Int)×Int×Int)×List (Int))×(Int×Int×Int×ByteArray×List (Int))->Option (Bool):=fun x=>b8 (some ()) fun a=>b8 (y8 (x.2.2.2.2.2,((x.2.1,x.2.2.1,x.2.2.2.1,x.2.2.2.2.1,x.2.2.2.2.2),(x.1.1,x.1.2.1,x.1.2.2)))) fun a=>some a
noncomputable def T9:(Int×Int×Int×ByteArray×List (Int))×(List (Int×Int×Int)×List (Int×Int×Int×List (Int×Int)×Int×Int)×List (Int)×List (Int×Int×Int×ByteArray×List (Int)))->Option (Bool):=fun x=>b8 (N9 ((x.2.1,x.2.2.1,x.2.2.2.1),(x.1.1,x.1.2.1,x.1.2.2.1,x.1.2.2.2.1,x.1.2.2.2.2))) fun v9=>some v9
noncomputable def j8:List (Int×Int×Int×ByteArray×List (Int))×((List (Int×Int×Int)×List (Int×Int×Int×List (Int×Int)×Int×Int)×List (Int)×List (Int×Int×Int×ByteArray×List (Int))))->Option (Bool):=fun x=>rounds (α:=Int) (β:=Bool) (fun c a=>bif decide (a<((x.1).length:Int))then b8 (nth x.1 a) fun v9=>b8 (T9 ((v9.1,v9.2.1,v9.2.2.1,v9.2.2.2.1,v9.2.2.2.2),(x.2.1,x.2.2.1,x.2.2.2.1,x.2.2.2.2))) fun b=>bif b then some (decide (0<=a))else c (aa.wrap (a+1))else some false) 0
noncomputable def V2:List (Int)->Option (Bool):=fun x=>rounds (α:=Int) (β:=Bool) (fun b a=>bif decide (a<((x).length:Int))then b8 (nth x (aa.wrap (a-1))) fun v6=>b8 (nth x a) fun c=>bif decide (c<=v6)then some false else b (aa.wrap (a+1))else some true) 1
noncomputable def H9:(List (Int×Int×Int)×List (Int×Int×Int×List (Int×Int)×Int×Int)×List (Int)×List (Int×Int×Int×ByteArray×List (Int)))->Option (Int):=fun x=>b8 (Y1 (x.1,x.2.1,x.2.2.1)) fun v4=>bif !decide (v4=0)then some v4 else bif decide ((128:Int)<((x.2.2.2).length:Int))then some 3 else b8 (o9 (x.2.2.2,())) fun I=>bif I then some 3 else rounds (α:=Int×Int) (β:=Int) (fun D l=>bif decide (l.1<((x.2.2.2).length:Int))then b8 (nth x.2.2.2 l.1) fun m=>b8 (some (aa.wrap (l.2+1))) fun p=>bif decide (1<p)then b8 (nth x.2.2.2 (aa.wrap (p-2))) fun v22=>bif decide (m.1<=v22.1)then bif decide (0<=l.1)then some 10 else b8 (j7 (x.2.2.2,())) fun v29=>bif v29 then some 2 else b8 (l5 (x.2.2.2,())) fun v30=>bif v30 then some 9 else b8 (j5 (x.2.2.2,())) fun v31=>bif v31 then some 14 else b8 (j6 (x.2.2.2,())) fun v32=>bif v32 then some 1 else b8 (some ()) fun v33=>b8 (j8 (x.2.2.2,(x.1,x.2.1,x.2.2.1,x.2.2.2))) fun v33=>bif v33 then some 7 else rounds (α:=Int×List ((Int×Int)×Bool)) (β:=Int) (fun q g=>bif decide (g.1<((x.2.2.2).length:Int))then b8 (nth x.2.2.2 g.1) fun v39=>b8 (A3 v39.2.1) fun v44=>bif decide (v44=2)then q ((aa.wrap (g.1+1)),g.2)else bif decide (v44=3)then rounds (α:=Int×List ((Int×Int)×Bool)) (β:=Int) (fun r c=>bif decide (c.1<((v39.2.2.2.2).length:Int))then b8 (nth v39.2.2.2.2 c.1) fun n=>b8 (orO (lkp (fun (a b:Int×Int)=>(decide (a.1=b.1)&&decide (a.2=b.2))) (v39.2.1,n) c.2) (some false)) fun v53=>
 bif v53 then bif decide (0<=g.1)then some 13 else some 0 else r ((aa.wrap (c.1+1)),(V9 (fun (a b:Int×Int)=>(decide (a.1=b.1)&&decide (a.2=b.2))) (v39.2.1,n) true c.2))else q ((aa.wrap (g.1+1)),c.2)) (0,g.2)else rounds (α:=Int×List ((Int×Int)×Bool)) (β:=Int) (fun r c=>bif decide (c.1<((v39.2.2.2.2).length:Int))then b8 (nth v39.2.2.2.2 c.1) fun n=>b8 (orO (lkp (fun (a b:Int×Int)=>(decide (a.1=b.1)&&decide (a.2=b.2))) (0,n) c.2) (some false)) fun v53=>bif v53 then bif decide (0<=g.1)then some 13 else some 0 else r ((aa.wrap (c.1+1)),(V9 (fun (a b:Int×Int)=>(decide (a.1=b.1)&&decide (a.2=b.2))) (0,n) true c.2))else q ((aa.wrap (g.1+1)),c.2)) (0,g.2)else some 0) (0,([]:List ((Int×Int)×Bool)))else b8 (V2 m.2.2.2.2) fun v28=>bif !(v28)then bif decide (0<=l.1)then some 10 else b8 (j7 (x.2.2.2,())) fun v31=>bif v31 then some 2 else b8 (l5 (x.2.2.2,())) fun v32=>bif v32 then some 9 else b8 (j5 (x.2.2.2,())) fun v33=>bif v33 then some 14 else b8 (j6 (x.2.2.2,())) fun k=>bif k then some 1 else b8 (some ()) fun v35=>b8 (j8 (x.2.2.2,(x.1,x.2.1,x.2.2.1,x.2.2.2))) fun v35=>bif v35 then some 7 else rounds (α:=Int×List ((Int×Int)×Bool)) (β:=Int) (fun s h=>bif decide (h.1<((x.2.2.2).length:Int))then b8 (nth x.2.2.2 h.1) fun v41=>b8 (A3 v41.2.1) fun v46=>
 bif decide (v46=2)then s ((aa.wrap (h.1+1)),h.2)else bif decide (v46=3)then rounds (α:=Int×List ((Int×Int)×Bool)) (β:=Int) (fun t d=>bif decide (d.1<((v41.2.2.2.2).length:Int))then b8 (nth v41.2.2.2.2 d.1) fun v54=>b8 (orO (lkp (fun (a b:Int×Int)=>(decide (a.1=b.1)&&decide (a.2=b.2))) (v41.2.1,v54) d.2) (some false)) fun v55=>bif v55 then bif decide (0<=h.1)then some 13 else some 0 else t ((aa.wrap (d.1+1)),(V9 (fun (a b:Int×Int)=>(decide (a.1=b.1)&&decide (a.2=b.2))) (v41.2.1,v54) true d.2))else s ((aa.wrap (h.1+1)),d.2)) (0,h.2)else rounds (α:=Int×List ((Int×Int)×Bool)) (β:=Int) (fun t d=>bif decide (d.1<((v41.2.2.2.2).length:Int))then b8 (nth v41.2.2.2.2 d.1) fun v54=>b8 (orO (lkp (fun (a b:Int×Int)=>(decide (a.1=b.1)&&decide (a.2=b.2))) (0,v54) d.2) (some false)) fun v55=>bif v55 then bif decide (0<=h.1)then some 13 else some 0 else t ((aa.wrap (d.1+1)),(V9 (fun (a b:Int×Int)=>(decide (a.1=b.1)&&decide (a.2=b.2))) (0,v54) true d.2))else s ((aa.wrap (h.1+1)),d.2)) (0,h.2)else some 0) (0,([]:List ((Int×Int)×Bool)))else D ((aa.wrap (l.1+1)),p)else b8 (V2 m.2.2.2.2) fun v21=>bif !(v21)then bif decide (0<=l.1)then some 10 else b8 (j7 (x.2.2.2,())) fun v24=>bif v24 then some 2 else b8 (l5 (x.2.2.2,())) fun v25=>bif v25 then some 9 else b8 (j5 (x.2.2.2,())) fun v26=>bif v26 then some 14 else b8 (j6 (x.2.2.2,())) fun v27=>
 bif v27 then some 1 else b8 (some ()) fun v28=>b8 (j8 (x.2.2.2,(x.1,x.2.1,x.2.2.1,x.2.2.2))) fun v28=>bif v28 then some 7 else rounds (α:=Int×List ((Int×Int)×Bool)) (β:=Int) (fun u i=>bif decide (i.1<((x.2.2.2).length:Int))then b8 (nth x.2.2.2 i.1) fun k=>b8 (A3 k.2.1) fun v39=>bif decide (v39=2)then u ((aa.wrap (i.1+1)),i.2)else bif decide (v39=3)then rounds (α:=Int×List ((Int×Int)×Bool)) (β:=Int) (fun v e=>bif decide (e.1<((k.2.2.2.2).length:Int))then b8 (nth k.2.2.2.2 e.1) fun o=>b8 (orO (lkp (fun (a b:Int×Int)=>(decide (a.1=b.1)&&decide (a.2=b.2))) (k.2.1,o) e.2) (some false)) fun w=>bif w then bif decide (0<=i.1)then some 13 else some 0 else v ((aa.wrap (e.1+1)),(V9 (fun (a b:Int×Int)=>(decide (a.1=b.1)&&decide (a.2=b.2))) (k.2.1,o) true e.2))else u ((aa.wrap (i.1+1)),e.2)) (0,i.2)else rounds (α:=Int×List ((Int×Int)×Bool)) (β:=Int) (fun v e=>bif decide (e.1<((k.2.2.2.2).length:Int))then b8 (nth k.2.2.2.2 e.1) fun o=>b8 (orO (lkp (fun (a b:Int×Int)=>(decide (a.1=b.1)&&decide (a.2=b.2))) (0,o) e.2) (some false)) fun w=>bif w then bif decide (0<=i.1)then some 13 else some 0 else v ((aa.wrap (e.1+1)),(V9 (fun (a b:Int×Int)=>
 (decide (a.1=b.1)&&decide (a.2=b.2))) (0,o) true e.2))else u ((aa.wrap (i.1+1)),e.2)) (0,i.2)else some 0) (0,([]:List ((Int×Int)×Bool)))else D ((aa.wrap (l.1+1)),p)else b8 (j7 (x.2.2.2,())) fun m=>bif m then some 2 else b8 (l5 (x.2.2.2,())) fun G=>bif G then some 9 else b8 (j5 (x.2.2.2,())) fun H=>bif H then some 14 else b8 (j6 (x.2.2.2,())) fun v17=>bif v17 then some 1 else b8 (some ()) fun E=>b8 (j8 (x.2.2.2,(x.1,x.2.1,x.2.2.1,x.2.2.2))) fun E=>bif E then some 7 else rounds (α:=Int×List ((Int×Int)×Bool)) (β:=Int) (fun z j=>bif decide (j.1<((x.2.2.2).length:Int))then b8 (nth x.2.2.2 j.1) fun v24=>b8 (A3 v24.2.1) fun v29=>bif decide (v29=2)then z ((aa.wrap (j.1+1)),j.2)else bif decide (v29=3)then rounds (α:=Int×List ((Int×Int)×Bool)) (β:=Int) (fun B f=>bif decide (f.1<((v24.2.2.2.2).length:Int))then b8 (nth v24.2.2.2.2 f.1) fun v37=>b8 (orO (lkp (fun (a b:Int×Int)=>(decide (a.1=b.1)&&decide (a.2=b.2))) (v24.2.1,v37) f.2) (some false)) fun C=>bif C then bif decide (0<=j.1)then some 13 else some 0 else B ((aa.wrap (f.1+1)),(V9 (fun (a b:Int×Int)=>(decide (a.1=b.1)&&decide (a.2=b.2))) (v24.2.1,v37) true f.2))else z ((aa.wrap (j.1+1)),f.2)) (0,j.2)else rounds (α:=Int×List ((Int×Int)×Bool)) (β:=Int) (fun B f=>bif decide (f.1<((v24.2.2.2.2).length:Int))then b8 (nth v24.2.2.2.2 f.1) fun v37=>b8 (orO (lkp (fun (a b:Int×Int)=>
 (decide (a.1=b.1)&&decide (a.2=b.2))) (0,v37) f.2) (some false)) fun C=>bif C then bif decide (0<=j.1)then some 13 else some 0 else B ((aa.wrap (f.1+1)),(V9 (fun (a b:Int×Int)=>(decide (a.1=b.1)&&decide (a.2=b.2))) (0,v37) true f.2))else z ((aa.wrap (j.1+1)),f.2)) (0,j.2)else some 0) (0,([]:List ((Int×Int)×Bool)))) (0,0)
noncomputable def Y5:(List (Int×Int×Int)×List (Int×Int×Int×List (Int×Int)×Int×Int)×List (Int)×List (Int×Int×Int×ByteArray×List (Int)))×Int->Option (((Int×Int×Int×ByteArray×List (Int))×Bool)):=fun x=>rounds (α:=Int) (β:=((Int×Int×Int×ByteArray×List (Int))×Bool)) (fun c a=>bif decide (a<((x.1.2.2.2).length:Int))then b8 (nth x.1.2.2.2 a) fun v9=>bif decide (v9.1=x.2)then b8 (slices_Clone_int v9.2.2.2.2) fun b=>some ((v9.1,v9.2.1,v9.2.2.1,v9.2.2.2.1,b),true)else c (aa.wrap (a+1))else some ((0,0,0,(cD #[]),([]:List (Int))),false)) 0
noncomputable def R5:(List (Int×Int×Int)×List (Int×Int×Int×List (Int×Int)×Int×Int)×List (Int)×List (Int×Int×Int×ByteArray×List (Int)))×Int->Option (Int):=fun x=>b8 (Y5 ((x.1.1,x.1.2.1,x.1.2.2.1,x.1.2.2.2),x.2)) fun v5=>bif !(v5.2)then some 0 else b8 (A3 v5.1.2.1) fun v12=>bif !decide (v12=3)then some 0 else b8 (as0 (x.1.1,x.1.2.1,x.1.2.2.1)) fun d=>bif !decide (d=0)then some 0 else rounds (α:=Int×Int) (β:=Int) (fun c a=>bif decide (a.2<((x.1.2.1).length:Int))then b8 (nth x.1.2.1 a.2) fun v21=>b8 (l8 (v5.1.2.2.2.2,v21.2.2.2.2.1)) fun v27=>b8 (l8 (v5.1.2.2.2.2,v21.2.2.2.2.2)) fun v28=>bif (v27==v28)then c (a.1,(aa.wrap (a.2+1)))else b8 (E9 ((x.1.1,x.1.2.1,x.1.2.2.1),v21.1)) fun v30=>rounds (α:=Int×Int) (β:=Int) (fun e b=>bif decide (b.2<((v30.1).length:Int))then b8 (nth v30.1 (aa.wrap (b.2-1))) fun f=>b8 (nth v30.1 b.2) fun v40=>b8 (nth v30.1 b.2) fun g=>b8 (nth v30.1 (aa.wrap (b.2-1))) fun v46=>e ((aa.wrap (b.1+(aa.wrap ((aa.wrap (f.1*v40.2))-(aa.wrap (g.1*v46.2)))))),(aa.wrap (b.2+1)))else bif v28 then c ((aa.wrap (a.1+(aa.wrap (0-b.1)))),(aa.wrap (a.2+1)))else c ((aa.wrap (a.1+b.1)),(aa.wrap (a.2+1)))) (0,1)else some a.1) (0,0)
noncomputable def dQ0:(Int×Int×Int×Int)×(Int×Int)->Option (Bool):=fun x=>bif decide (x.1.1<=x.2.1)then bif decide (x.2.1<=x.1.2.2.1)then bif decide (x.1.2.1<=x.2.2)then some (decide (x.2.2<=x.1.2.2.2))else some false else some false else some false
noncomputable def I9:(Int×Int)->Option (Bool):=fun x=>b8 (dQ0 (((-1048576),(-1048576),1048576,1048576),(x.1,x.2))) fun v2=>some v2
noncomputable def D2:(Int×Int×Int×List (Int×Int)×Int×Int)×(Int×Int×Int×List (Int×Int)×Int×Int)->Option (Bool):=fun x=>bif decide (x.1.2.1=x.2.2.1)then bif decide (x.1.2.2.1=x.2.2.2.1)then bif !decide (x.1.1=x.2.1)then bif decide (((x.1.2.2.2.1).length:Int)=0)then some true else some false else some false else bif decide (x.1.2.1=x.2.2.2.1)then bif !decide (x.1.1=x.2.1)then bif decide (((x.1.2.2.2.1).length:Int)=0)then some (decide (x.1.2.2.1=x.2.2.1))else some false else some false else bif !decide (x.1.1=x.2.1)then bif decide (((x.1.2.2.2.1).length:Int)=0)then some false else some false else some false else bif decide (x.1.2.1=x.2.2.2.1)then bif !decide (x.1.1=x.2.1)then bif decide (((x.1.2.2.2.1).length:Int)=0)then some (decide (x.1.2.2.1=x.2.2.1))else some false else some false else bif !decide (x.1.1=x.2.1)then bif decide (((x.1.2.2.2.1).length:Int)=0)then some false else some false else some false
noncomputable def w7:List (Int×Int×Int×List (Int×Int)×Int×Int)×((Int×Int×Int×List (Int×Int)×Int×Int))->Option (Bool):=fun x=>rounds (α:=Int) (β:=Bool) (fun b a=>bif decide (a<((x.1).length:Int))then b8 (nth x.1 a) fun v11=>b8 (D2 ((v11.1,v11.2.1,v11.2.2.1,v11.2.2.2.1,v11.2.2.2.2.1,v11.2.2.2.2.2),(x.2.1,x.2.2.1,x.2.2.2.1,x.2.2.2.2.1,x.2.2.2.2.2.1,x.2.2.2.2.2.2))) fun v17=>bif v17 then some (decide (0<=a))else b (aa.wrap (a+1))else some false) 0
noncomputable def F8:(List (Int×Int×Int)×List (Int×Int×Int×List (Int×Int)×Int×Int)×List (Int))×(Int×Int×Int×List (Int×Int)×Int×Int)->Option (Bool):=fun x=>b8 (some ()) fun v9=>b8 (w7 (x.1.2.1,(x.2.1,x.2.2.1,x.2.2.2.1,x.2.2.2.2.1,x.2.2.2.2.2.1,x.2.2.2.2.2.2))) fun v9=>some v9
noncomputable def Nt0(a b c p:Int×Int)(s:Int)(go:Option Bool):Option Bool :=bif !(decide (p.1=a.1)&&decide (p.2=a.2))then bif !(decide (p.1=b.1)&&decide (p.2=b.2))then bif !(decide (p.1=c.1)&&decide (p.2=c.2))then b8 (dQ0 ((bp mnI a.1 [b.1,c.1],bp mnI a.2 [b.2,c.2],bp mxI a.1 [b.1,c.1],bp mxI a.2 [b.2,c.2]),p)) fun v46=>bif !v46 then (go)else bif decide (s=0)then b8 (y4 (a,b,p)) fun v49=>bif v49 then some false else b8 (y4 (b,c,p)) fun v50=>bif v50 then some false else b8 (y4 (c,a,p)) fun v51=>bif v51 then some false else (go)else b8 (u7 (a,b,p)) fun v49=>bif decide (0<=aa.wrap (s*v49))then b8 (u7 (b,c,p)) fun d=>bif decide (0<=aa.wrap (s*d))then b8 (u7 (c,a,p)) fun v55=>bif decide (0<=aa.wrap (s*v55))then some false else (go)else (go)else (go)else (go)else (go)else (go)
noncomputable def oT0(ns:List (Int×Int×Int))(ars:List (Int×Int×Int×List (Int×Int)×Int×Int))(a b c:Int×Int):Option Bool :=b8 (u7 (a,b,c)) fun s=>rounds (α:=Int) (β:=Bool) (fun k x=>bif decide (x<(ns.length:Int))then b8 (nth ns x) fun v=>Nt0 a b c (v.2.1,v.2.2) s (k (aa.wrap (x+1)))else rounds (α:=Int) (β:=Bool) (fun k x=>bif decide (x<(ars.length:Int))then b8 (nth ars x) fun w=>rounds (α:=Int) (β:=Bool) (fun d y=>bif decide (y<(w.2.2.2.1.length:Int))then b8 (nth w.2.2.2.1 y) fun v=>Nt0 a b c (v.1,v.2) s (d (aa.wrap (y+1)))else k (aa.wrap (x+1))) 0 else some true) 0) 0
noncomputable def U2:(List (Int×Int×Int)×List (Int×Int×Int×List (Int×Int)×Int×Int)×List (Int))×(Int×Int×Int×List (Int×Int)×Int×Int)×List (Int×Int)×Int->Option (Bool):=fun x=>b8 (nth x.2.2.1 x.2.2.2) fun v11=>b8 (nth x.2.2.1 (aa.wrap (x.2.2.2+1))) fun a=>b8 (nth x.2.2.1 (aa.wrap (x.2.2.2+2))) fun v17=>b8 (I9 (v11.1,v11.2)) fun b=>bif !(b)then some false else b8 (I9 (a.1,a.2)) fun v21=>bif !(v21)then some false else b8 (I9 (v17.1,v17.2)) fun v23=>bif !(v23)then some false else bif decide (x.2.1.2.1=x.2.1.2.2.1)then bif decide (((x.2.1.2.2.2.1).length:Int)<3)then some false else bif decide (((x.2.1.2.2.2.1).length:Int)=1)then b8 (F8 ((x.1.1,x.1.2.1,x.1.2.2),(x.2.1.1,x.2.1.2.1,x.2.1.2.2.1,x.2.1.2.2.2.1,x.2.1.2.2.2.2.1,x.2.1.2.2.2.2.2))) fun v30=>bif v30 then some false else (oT0 x.1.1 x.1.2.1 v11 a v17)else (oT0 x.1.1 x.1.2.1 v11 a v17)else bif decide (((x.2.1.2.2.2.1).length:Int)=1)then b8 (F8 ((x.1.1,x.1.2.1,x.1.2.2),(x.2.1.1,x.2.1.2.1,x.2.1.2.2.1,x.2.1.2.2.2.1,x.2.1.2.2.2.2.1,x.2.1.2.2.2.2.2))) fun v28=>bif v28 then some false else (oT0 x.1.1 x.1.2.1 v11 a v17)else (oT0 x.1.1 x.1.2.1 v11 a v17)
noncomputable def I3:(List (Int×Int×Int)×List (Int×Int×Int×List (Int×Int)×Int×Int)×List (Int))×Int×Int->Option (Bool):=fun x=>b8 (al0 ((x.1.1,x.1.2.1,x.1.2.2),x.2.1)) fun v5=>bif !(v5.2)then some false else bif decide (x.2.2<0)then some false else bif decide (((v5.1.2.2.2.1).length:Int)<=x.2.2)then some false else b8 (E9 ((x.1.1,x.1.2.1,x.1.2.2),x.2.1)) fun a=>bif decide (a.2=0)then b8 (U2 ((x.1.1,x.1.2.1,x.1.2.2),(v5.1.1,v5.1.2.1,v5.1.2.2.1,v5.1.2.2.2.1,v5.1.2.2.2.2.1,v5.1.2.2.2.2.2),a.1,x.2.2)) fun b=>some b else some false
noncomputable def J0:(Int×Int)×(Int×Int)->Option (Int):=fun x=>some (aa.wrap ((aa.wrap ((aa.wrap (x.2.1-x.1.1))*(aa.wrap (x.2.1-x.1.1))))+(aa.wrap ((aa.wrap (x.2.2-x.1.2))*(aa.wrap (x.2.2-x.1.2))))))
noncomputable def W5:Int->Option (Int):=fun x=>b8 (some (decide (x<0))) fun v1=>bif v1 then b8 (some (an.wrap x)) fun v2=>b8 (some (an.wrap (0-v2))) fun v3=>some v3 else b8 (some (an.wrap x)) fun v2=>some v2
noncomputable def ap0:Int×Int->Option ((Int×Int)):=fun x=>b8 (some (an.wrap (bu an.bits x.1 &&& bu an.bits 4294967295).toNat)) fun v2=>b8 ((bif decide ((32:Int)<0)then none else some (x.1.fdiv (2^(min (32:Int).toNat an.bits))))) fun v3=>b8 (some (an.wrap (bu an.bits x.2 &&& bu an.bits 4294967295).toNat)) fun v4=>b8 ((bif decide ((32:Int)<0)then none else some (x.2.fdiv (2^(min (32:Int).toNat an.bits))))) fun v5=>b8 (some (an.wrap (v2*v4))) fun v6=>b8 (some (an.wrap (v3*v4))) fun f=>b8 ((bif decide ((32:Int)<0)then none else some (v6.fdiv (2^(min (32:Int).toNat an.bits))))) fun g=>b8 (some (an.wrap (f+g))) fun v9=>b8 (some (an.wrap (bu an.bits v9 &&& bu an.bits 4294967295).toNat)) fun v10=>b8 ((bif decide ((32:Int)<0)then none else some (v9.fdiv (2^(min (32:Int).toNat an.bits))))) fun v11=>b8 (some (an.wrap (v2*v5))) fun v12=>b8 (some (an.wrap (v10+v12))) fun a=>b8 (some (an.wrap (v3*v5))) fun b=>b8 (some (an.wrap (b+v11))) fun c=>b8 ((bif decide ((32:Int)<0)then none else some (a.fdiv (2^(min (32:Int).toNat an.bits))))) fun d=>b8 (some (an.wrap (c+d))) fun v17=>b8 (some (an.wrap (x.1*x.2))) fun e=>some (v17,e)
noncomputable def JR0:Int->Option (Int):=fun x=>b8 (some (decide (4294967296<=x))) fun v1=>bif v1 then b8 ((bif decide ((32:Int)<0)then none else some (x.fdiv (2^(min (32:Int).toNat an.bits))))) fun v2=>b8 (some (decide (65536<=v2))) fun v3=>bif v3 then b8 ((bif decide ((16:Int)<0)then none else some (v2.fdiv (2^(min (16:Int).toNat an.bits))))) fun v4=>b8 (some (decide (256<=v4))) fun v5=>bif v5 then b8 ((bif decide ((8:Int)<0)then none else some (v4.fdiv (2^(min (8:Int).toNat an.bits))))) fun v6=>b8 (some (dV.wrap v6)) fun a=>b8 (kT0 qB0 a) fun b=>b8 (some (aa.wrap b)) fun v9=>b8 (some (aa.wrap (56+v9))) fun v10=>some v10 else b8 (some (dV.wrap v4)) fun v6=>b8 (kT0 qB0 v6) fun a=>b8 (some (aa.wrap a)) fun b=>b8 (some (aa.wrap (48+b))) fun v9=>some v9 else b8 (some (decide (256<=v2))) fun v4=>bif v4 then b8 ((bif decide ((8:Int)<0)then none else some (v2.fdiv (2^(min (8:Int).toNat an.bits))))) fun v5=>b8 (some (dV.wrap v5)) fun v6=>b8 (kT0 qB0 v6) fun a=>b8 (some (aa.wrap a)) fun b=>b8 (some (aa.wrap (40+b))) fun v9=>some v9 else b8 (some (dV.wrap v2)) fun v5=>b8 (kT0 qB0 v5) fun v6=>b8 (some (aa.wrap v6)) fun a=>b8 (some (aa.wrap (32+a))) fun b=>some b else b8 (some (decide (65536<=x))) fun v2=>bif v2 then b8 ((bif decide ((16:Int)<0)then none else some (x.fdiv (2^(min (16:Int).toNat an.bits))))) fun v3=>
 b8 (some (decide (256<=v3))) fun v4=>bif v4 then b8 ((bif decide ((8:Int)<0)then none else some (v3.fdiv (2^(min (8:Int).toNat an.bits))))) fun v5=>b8 (some (dV.wrap v5)) fun v6=>b8 (kT0 qB0 v6) fun a=>b8 (some (aa.wrap a)) fun b=>b8 (some (aa.wrap (24+b))) fun v9=>some v9 else b8 (some (dV.wrap v3)) fun v5=>b8 (kT0 qB0 v5) fun v6=>b8 (some (aa.wrap v6)) fun a=>b8 (some (aa.wrap (16+a))) fun b=>some b else b8 (some (decide (256<=x))) fun v3=>bif v3 then b8 ((bif decide ((8:Int)<0)then none else some (x.fdiv (2^(min (8:Int).toNat an.bits))))) fun v4=>b8 (some (dV.wrap v4)) fun v5=>b8 (kT0 qB0 v5) fun v6=>b8 (some (aa.wrap v6)) fun a=>b8 (some (aa.wrap (8+a))) fun b=>some b else b8 (some (dV.wrap x)) fun v4=>b8 (kT0 qB0 v4) fun v5=>b8 (some (aa.wrap v5)) fun v6=>b8 (some (aa.wrap (0+v6))) fun a=>some a
noncomputable def Ju0:Int->Option (Int):=fun x=>b8 (JR0 x) fun v1=>b8 (some (aa.wrap (64-v1))) fun v2=>some v2
noncomputable def dvC(a b v17 v25 v31 q:Int):Option (Int×Int) :=b8 (bif decide (a<0)then none else some ((an.wrap (an.wrap (an.wrap (v31*4294967296)+v17)-an.wrap (q*b))).fdiv (2^(min a.toNat an.bits)))) fun r=>some (an.wrap (an.wrap (v25*4294967296)+q),r)
noncomputable def dvB(a b v9 v10 v17 v25 v31:Int):Option (Int×Int) :=b8 (bif decide (v9=0)then none else some (an.wrap (v31.tdiv v9))) fun v32=>rounds (α:=Int×Int) (β:=(Int×Int)) (fun k x=>bif decide (4294967296<=x.2)then bif decide (4294967296<=an.wrap (x.1+v9))then (dvC a b v17 v25 v31 (an.wrap (x.2-1)))else k (an.wrap (x.1+v9),an.wrap (x.2-1))else bif decide (an.wrap (an.wrap (4294967296*x.1)+v17)<an.wrap (x.2*v10))then bif decide (4294967296<=an.wrap (x.1+v9))then (dvC a b v17 v25 v31 (an.wrap (x.2-1)))else k (an.wrap (x.1+v9),an.wrap (x.2-1))else (dvC a b v17 v25 v31 x.2)) (an.wrap (v31-an.wrap (v32*v9)),v32)
noncomputable def dvA(d c v9 v10 a b v17 q:Int):Option (Int×Int):=dvB d c v9 v10 v17 q (an.wrap (an.wrap (an.wrap (a*4294967296)+b)-an.wrap (q*c)))
noncomputable def bB0:Int×Int×Int->Option ((Int×Int)):=fun x=>b8 (some (decide (x.2.2=0))) fun v3=>bif v3 then none else b8 (some (decide (x.2.2<=x.1))) fun v4=>bif v4 then none else b8 (some (decide (x.1=0))) fun v5=>bif v5 then b8 ((bif decide (x.2.2=0)then none else some (an.wrap (x.2.1.tdiv x.2.2)))) fun v6=>b8 ((bif decide (x.2.2=0)then none else some (x.2.1.tmod x.2.2))) fun a=>some (v6,a)else b8 (Ju0 x.2.2) fun v6=>b8 (some (an.wrap v6)) fun a=>b8 ((bif decide (a<0)then none else some (an.wrap (x.2.2*2^(min a.toNat an.bits))))) fun d=>b8 ((bif decide ((32:Int)<0)then none else some (d.fdiv (2^(min (32:Int).toNat an.bits))))) fun v9=>b8 (some (an.wrap (bu an.bits d &&& bu an.bits 4294967295).toNat)) fun v10=>b8 ((bif decide (a<0)then none else some (an.wrap (x.1*2^(min a.toNat an.bits))))) fun v11=>b8 (some (an.wrap (64-a))) fun v12=>b8 ((bif decide (v12<0)then none else some (x.2.1.fdiv (2^(min v12.toNat an.bits))))) fun g=>b8 (some (an.wrap (bu an.bits v11 ||| bu an.bits g).toNat)) fun b=>b8 ((bif decide (a<0)then none else some (an.wrap (x.2.1*2^(min a.toNat an.bits))))) fun e=>b8 ((bif decide ((32:Int)<0)then none else some (e.fdiv (2^(min (32:Int).toNat an.bits))))) fun c=>
 b8 (some (an.wrap (bu an.bits e &&& bu an.bits 4294967295).toNat)) fun v17=>b8 ((bif decide (v9=0)then none else some (an.wrap (b.tdiv v9)))) fun f=>b8 (some (an.wrap (f*v9))) fun h=>b8 (some (an.wrap (b-h))) fun v20=>rounds (α:=Int×Int) (β:=(Int×Int)) (fun k x=>bif decide (4294967296<=x.1)then bif decide (4294967296<=an.wrap (x.2+v9))then (dvA a d v9 v10 b c v17 (an.wrap (x.1-1)))else k (an.wrap (x.1-1),an.wrap (x.2+v9))else bif decide (an.wrap (an.wrap (4294967296*x.2)+c)<an.wrap (x.1*v10))then bif decide (4294967296<=an.wrap (x.2+v9))then (dvA a d v9 v10 b c v17 (an.wrap (x.1-1)))else k (an.wrap (x.1-1),an.wrap (x.2+v9))else (dvA a d v9 v10 b c v17 x.1)) (f,v20)
noncomputable def M5:Int×Bool->Option ((Int×Bool)):=fun x=>bif x.2 then b8 (some (decide (9223372036854775808<x.1))) fun v2=>bif v2 then some (0,false)else b8 (some (an.wrap (0-x.1))) fun v3=>b8 (some (aa.wrap v3)) fun v4=>some (v4,true)else b8 (some (decide (9223372036854775807<x.1))) fun v2=>bif v2 then some (0,false)else b8 (some (aa.wrap x.1)) fun v3=>some (v3,true)
noncomputable def bN0:Int×Int×Int->Option ((Int×Int)):=fun x=>b8 (some (decide (x.2.2=0))) fun v3=>bif v3 then some (0,21)else b8 (some (decide (x.1<0))) fun v4=>b8 (some (decide (x.2.1<0))) fun v5=>b8 (some (!(v4==v5))) fun v6=>b8 (some (decide (x.2.2<0))) fun g=>b8 (some (!(v6==g))) fun h=>b8 (W5 x.1) fun v9=>b8 (W5 x.2.1) fun v10=>b8 (ap0 (v9,v10)) fun v11=>b8 (W5 x.2.2) fun d=>b8 (some (decide (d<=v11.1))) fun e=>bif e then some (0,15)else b8 (W5 x.2.2) fun f=>b8 (bB0 (v11.1,v11.2,f)) fun a=>bif h then b8 (some (!decide (a.2=0))) fun b=>bif b then b8 (some (decide (a.1=18446744073709551615))) fun c=>bif c then some (0,15)else b8 (some (an.wrap (a.1+1))) fun v20=>b8 (M5 (v20,true)) fun v21=>b8 (some (!(v21.2))) fun v23=>bif v23 then some (0,15)else some (v21.1,0)else b8 (M5 (a.1,true)) fun c=>b8 (some (!(c.2))) fun v21=>bif v21 then some (0,15)else some (c.1,0)else b8 (M5 (a.1,false)) fun b=>b8 (some (!(b.2))) fun v20=>bif v20 then some (0,15)else some (b.1,0)
noncomputable def aE0:Int×Int->Option (Int):=fun x=>rounds (α:=Int×Int) (β:=Int) (fun b a=>b8 (some (!decide (a.2=0))) fun v5=>bif v5 then b8 ((bif decide (a.2=0)then none else some (a.1.tmod a.2))) fun v6=>b (a.2,v6)else some a.1) (x.1,x.2)
noncomputable def hB0:Int×Int->Option (Int):=fun x=>b8 (W5 x.1) fun v2=>b8 (W5 x.2) fun v3=>b8 (aE0 (v2,v3)) fun v4=>b8 (M5 (v4,false)) fun v5=>some v5.1
noncomputable def Y2:(Int×Int)×(Int×Int)×(Int×Int)->Option ((Int×Int)):=fun x=>b8 (some ()) fun v6=>b8 (L7 [(x.1.1,x.1.2),(x.2.1.1,x.2.1.2),(x.2.2.1,x.2.2.2)]) fun v6=>b8 (some (!(v6))) fun j=>bif j then some (0,0)else b8 (J0 ((x.1.1,x.1.2),(x.2.1.1,x.2.1.2))) fun c=>b8 (some (aa.wrap (x.2.1.1-x.1.1))) fun v9=>b8 (some (aa.wrap (x.2.2.1-x.1.1))) fun v10=>b8 (some (aa.wrap (v9*v10))) fun v11=>b8 (some (aa.wrap (x.2.1.2-x.1.2))) fun v12=>b8 (some (aa.wrap (x.2.2.2-x.1.2))) fun e=>b8 (some (aa.wrap (v12*e))) fun f=>b8 (some (aa.wrap (v11+f))) fun d=>b8 (some (decide (d<=0))) fun g=>bif g then b8 (J0 ((x.1.1,x.1.2),(x.2.2.1,x.2.2.2))) fun v17=>some (v17,1)else b8 (some (decide (c<=d))) fun v17=>bif v17 then b8 (J0 ((x.2.1.1,x.2.1.2),(x.2.2.1,x.2.2.2))) fun a=>some (a,1)else b8 (M3 ((x.1.1,x.1.2),(x.2.1.1,x.2.1.2),(x.2.2.1,x.2.2.2))) fun a=>b8 (bN0 (a,a,c)) fun b=>b8 (some (aa.wrap (a*a))) fun v21=>b8 (some (aa.wrap (b.1*c))) fun v22=>b8 (some (aa.wrap (v21-v22))) fun v23=>b8 (hB0 (v23,c)) fun v24=>b8 (some (an.wrap b.1)) fun v25=>b8 ((bif decide (v24=0)then none else some (aa.wrap (c.tdiv v24)))) fun v26=>b8 (some (an.wrap v26)) fun v27=>b8 (ap0 (v25,v27)) fun v28=>b8 ((bif decide (v24=0)then none else some (aa.wrap (v23.tdiv v24)))) fun v30=>b8 (some (an.wrap v30)) fun v31=>
 b8 (bits_Add64 (v28.2,v31,0)) fun v32=>b8 (some (an.wrap (v28.1+v32.2))) fun h=>b8 (some (decide (0<h))) fun v35=>bif v35 then some (b.1,1)else b8 (some (decide (9223372036854775807<v32.1))) fun v36=>bif v36 then some (b.1,1)else b8 (some (aa.wrap v32.1)) fun v37=>b8 ((bif decide (v24=0)then none else some (aa.wrap (c.tdiv v24)))) fun i=>some (v37,i)
noncomputable def cN0:Int×Int->Option (Int):=fun x=>b8 (some (decide (x.2=0))) fun v2=>bif v2 then some 21 else b8 (some (decide (x.1=(-9223372036854775808)))) fun v3=>bif v3 then b8 (some (decide (x.2=(-1)))) fun v4=>bif v4 then some 15 else some 0 else some 0
noncomputable def bL0:Int×Int->Option ((Int×Int)):=fun x=>b8 (cN0 (x.1,x.2)) fun v2=>b8 (some (!decide (v2=0))) fun v3=>bif v3 then some (0,v2)else b8 ((bif decide (x.2=0)then none else some (aa.wrap (x.1.tdiv x.2)))) fun v4=>b8 ((bif decide (x.2=0)then none else some (x.1.tmod x.2))) fun v5=>b8 (some (!decide (v5=0))) fun v6=>bif v6 then b8 (some (decide (v5<0))) fun a=>b8 (some (decide (x.2<0))) fun b=>b8 (some (!(a==b))) fun v9=>bif v9 then b8 (some (aa.wrap (v4-1))) fun v10=>some (v10,0)else some (v4,0)else some (v4,0)
noncomputable def Q0:(List (Int×Int×Int)×List (Int×Int×Int×List (Int×Int)×Int×Int)×List (Int))×Int×(Int×Int)×Int->Option (Int):=fun x=>b8 (E9 ((x.1.1,x.1.2.1,x.1.2.2),x.2.1)) fun d=>rounds (α:=Int×Int) (β:=Int) (fun e a=>bif decide (a.1<((d.1).length:Int))then b8 (nth d.1 (aa.wrap (a.1-1))) fun b=>b8 (nth d.1 a.1) fun v17=>b8 (Y2 ((b.1,b.2),(v17.1,v17.2),(x.2.2.1.1,x.2.2.1.2))) fun c=>b8 (bL0 (c.1,c.2)) fun v21=>bif decide (v21.2=0)then e ((aa.wrap (a.1+1)),(bp mnI a.2 [v21.1]))else e ((aa.wrap (a.1+1)),a.2)else some a.2) (1,x.2.2.2)
noncomputable def O5:(Int×Int×Int×ByteArray×List (Int))×(Int×Int×Int×List (Int×Int)×Int×Int)->Option (Bool):=fun x=>b8 (A3 x.1.2.1) fun v11=>bif decide (v11=2)then b8 (l8 (x.1.2.2.2.2,x.2.1)) fun a=>some a else bif decide (v11=3)then b8 (l8 (x.1.2.2.2.2,x.2.2.2.2.2.1)) fun b=>b8 (l8 (x.1.2.2.2.2,x.2.2.2.2.2.2)) fun c=>some (!(b==c))else some false
noncomputable def o8:List (Int×Int×Int×ByteArray×List (Int))×((Int×Int×Int×List (Int×Int)×Int×Int))->Option (Bool):=fun x=>rounds (α:=Int) (β:=Bool) (fun c a=>bif decide (a<((x.1).length:Int))then b8 (nth x.1 a) fun v11=>b8 (O5 ((v11.1,v11.2.1,v11.2.2.1,v11.2.2.2.1,v11.2.2.2.2),(x.2.1,x.2.2.1,x.2.2.2.1,x.2.2.2.2.1,x.2.2.2.2.2.1,x.2.2.2.2.2.2))) fun b=>bif b then some (decide (0<=a))else c (aa.wrap (a+1))else some false) 0
noncomputable def N3:(List (Int×Int×Int)×List (Int×Int×Int×List (Int×Int)×Int×Int)×List (Int)×List (Int×Int×Int×ByteArray×List (Int)))->Option (List (Int)):=fun x=>rounds (α:=Int×List (Int)) (β:=List (Int)) (fun c a=>bif decide (a.1<((x.2.1).length:Int))then b8 (nth x.2.1 a.1) fun v9=>b8 (some ()) fun b=>b8 (o8 (x.2.2.2,(v9.1,v9.2.1,v9.2.2.1,v9.2.2.2.1,v9.2.2.2.2.1,v9.2.2.2.2.2))) fun b=>bif !(b)then b8 (Q5 8 a.2 [v9.1]) fun v17=>c ((aa.wrap (a.1+1)),v17)else c ((aa.wrap (a.1+1)),a.2)else some a.2) (0,([]:List (Int)))
noncomputable def G8:(List (Int×Int×Int)×List (Int×Int×Int×List (Int×Int)×Int×Int)×List (Int)×List (Int×Int×Int×ByteArray×List (Int)))->Option (List (Int)):=fun x=>b8 (H9 (x.1,x.2.1,x.2.2.1,x.2.2.2)) fun v4=>bif !decide (v4=0)then some ([]:List (Int))else b8 (N3 (x.1,x.2.1,x.2.2.1,x.2.2.2)) fun v6=>some v6
noncomputable def J6:List (Int)->Option (Int):=fun x=>rounds (α:=Int) (β:=Int) (fun b a=>bif decide (a<((x).length:Int))then b8 (nth x a) fun v5=>bif !decide (v5=0)then some v5 else b (aa.wrap (a+1))else some 0) 0
noncomputable def F1:(Int×Int×Int×Int)×(Int×Int×Int×Int)->Option (Int):=fun x=>b8 (y0 (x.1.1,x.2.1)) fun a=>b8 (y0 (x.1.2.1,x.2.2.1)) fun v9=>b8 (y0 (x.1.2.2.1,x.2.2.2.1)) fun v10=>b8 (some ()) fun v11=>b8 (J6 [a,v9,v10]) fun v11=>some v11
noncomputable def slices_SortFunc_api_Violation_rules_Violations_2:List (Int×Int×Int×Int)×Int×(Unit)->Option (List (Int×Int×Int×Int)):=fun x=>bif decide (x.2.1=4)then du0 (fun a b=>F1 (a,b)) x.1 else none
noncomputable def A7:(List (Int×Int×Int)×List (Int×Int×Int×List (Int×Int)×Int×Int)×List (Int)×List (Int×Int×Int×ByteArray×List (Int)))×(Int×Int×Int×Int×Int×Int)->Option ((List (Int×Int×Int×Int)×Int)):=fun x=>b8 (D6 (x.2.1,x.2.2.1,x.2.2.2.1,x.2.2.2.2.1,x.2.2.2.2.2.1,x.2.2.2.2.2.2)) fun v10=>bif !decide (v10=0)then some (([]:List (Int×Int×Int×Int)),v10)else b8 (H9 (x.1.1,x.1.2.1,x.1.2.2.1,x.1.2.2.2)) fun v12=>bif !decide (v12=0)then some (([]:List (Int×Int×Int×Int)),v12)else rounds (α:=Int×List (Int×Int×Int×Int)) (β:=(List (Int×Int×Int×Int)×Int)) (fun m d=>bif decide (d.1<((x.1.2.2.2).length:Int))then b8 (nth x.1.2.2.2 d.1) fun n=>b8 (A3 n.2.1) fun v24=>bif !decide (v24=3)then m ((aa.wrap (d.1+1)),d.2)else b8 (R5 ((x.1.1,x.1.2.1,x.1.2.2.1,x.1.2.2.2),n.1)) fun v26=>bif decide (v26<x.2.2.2.1)then b8 (Q5 32 d.2 [(1,n.1,0,(aa.wrap (x.2.2.2.1-v26)))]) fun v29=>m ((aa.wrap (d.1+1)),v29)else m ((aa.wrap (d.1+1)),d.2)else rounds (α:=Int×List (Int×Int×Int×Int)) (β:=(List (Int×Int×Int×Int)×Int)) (fun o e=>bif decide (e.1<((x.1.2.1).length:Int))then b8 (nth x.1.2.1 e.1) fun v24=>b8 (E9 ((x.1.1,x.1.2.1,x.1.2.2.1),v24.1)) fun v30=>bif !decide (v30.2=0)then o ((aa.wrap (e.1+1)),e.2)else rounds (α:=Int×Int) (β:=(List (Int×Int×Int×Int)×Int)) (fun p a=>bif decide (a.1<((v24.2.2.2.1).length:Int))then b8 (nth v30.1 a.1) fun s=>b8 (nth v30.1 (aa.wrap (a.1+1))) fun v41=>
 b8 (nth v30.1 (aa.wrap (a.1+2))) fun v44=>b8 (V3 ((s.1,s.2),(v41.1,v41.2),(v44.1,v44.2))) fun v46=>b8 (some (bp mxI v46 [(aa.wrap (0-v46))])) fun i=>bif decide (i<a.2)then b8 (I3 ((x.1.1,x.1.2.1,x.1.2.2.1),v24.1,a.1)) fun v50=>bif v50 then p ((aa.wrap (a.1+1)),i)else p ((aa.wrap (a.1+1)),a.2)else p ((aa.wrap (a.1+1)),a.2)else bif decide (a.2<x.2.2.2.2.1)then b8 (Q5 32 e.2 [(2,v24.1,0,(aa.wrap (x.2.2.2.2.1-a.2)))]) fun v40=>o ((aa.wrap (e.1+1)),v40)else o ((aa.wrap (e.1+1)),e.2)) (0,x.2.2.2.2.1)else b8 (some (aa.wrap (x.2.2.2.2.2.1*x.2.2.2.2.2.1))) fun v24=>rounds (α:=Int×List (Int×Int×Int)) (β:=(List (Int×Int×Int×Int)×Int)) (fun t f=>bif decide (f.1<((x.1.1).length:Int))then b8 (nth x.1.1 f.1) fun v30=>b8 (R1 ((x.1.1,x.1.2.1,x.1.2.2.1),v30.1)) fun v33=>bif decide (v33=0)then b8 (Q5 24 f.2 [(v30.1,v30.2.1,v30.2.2)]) fun v35=>t ((aa.wrap (f.1+1)),v35)else t ((aa.wrap (f.1+1)),f.2)else rounds (α:=Int×List (Int×Int×Int×Int)) (β:=(List (Int×Int×Int×Int)×Int)) (fun q c=>bif decide (c.1<((x.1.2.2.2).length:Int))then b8 (nth x.1.2.2.2 c.1) fun v35=>b8 (A3 v35.2.1) fun v40=>bif !decide (v40=1)then q ((aa.wrap (c.1+1)),c.2)else b8 (nth v35.2.2.2.2 0) fun z=>b8 (R1 ((x.1.1,x.1.2.1,x.1.2.2.1),z)) fun B=>
 bif decide (0<B)then q ((aa.wrap (c.1+1)),c.2)else b8 (nth v35.2.2.2.2 0) fun v45=>b8 (N7 ((x.1.1,x.1.2.1,x.1.2.2.1),v45)) fun v46=>rounds (α:=Int×List (Int×Int×Int×Int)) (β:=(List (Int×Int×Int×Int)×Int)) (fun u h=>bif decide (h.1<((x.1.2.1).length:Int))then b8 (nth x.1.2.1 h.1) fun v55=>b8 (Q0 ((x.1.1,x.1.2.1,x.1.2.2.1),v55.1,(v46.1.2.1,v46.1.2.2),v24)) fun v=>bif decide (v<v24)then b8 (Q5 32 h.2 [(3,v35.1,v55.1,(aa.wrap (v24-v)))]) fun v64=>u ((aa.wrap (h.1+1)),v64)else u ((aa.wrap (h.1+1)),h.2)else rounds (α:=Int×List (Int×Int×Int×Int)) (β:=(List (Int×Int×Int×Int)×Int)) (fun r b=>bif decide (b.1<((f.2).length:Int))then b8 ((bif decide (0<=b.1)&&decide (b.1<(f.2).length)then some ()else none)) fun v60=>b8 (((f.2)[(b.1).toNat]?).map (fun x=>(x.1,x.2.1,x.2.2))) fun v60=>b8 (some (aa.wrap (v60.2.1-v46.1.2.1))) fun v63=>b8 (some (aa.wrap (v60.2.2-v46.1.2.2))) fun v64=>b8 (some (aa.wrap ((aa.wrap (v63*v63))+(aa.wrap (v64*v64))))) fun v67=>bif !decide (v60.1=v46.1.1)then bif decide (v67<v24)then b8 (Q5 32 b.2 [(3,v35.1,(aa.wrap (0-v60.1)),(aa.wrap (v24-v67)))]) fun v72=>
 r ((aa.wrap (b.1+1)),v72)else r ((aa.wrap (b.1+1)),b.2)else r ((aa.wrap (b.1+1)),b.2)else q ((aa.wrap (c.1+1)),b.2)) (0,h.2)) (0,c.2)else rounds (α:=Int×Int) (β:=(List (Int×Int×Int×Int)×Int)) (fun w g=>bif decide (g.1<((x.1.2.2.2).length:Int))then b8 (nth x.1.2.2.2 g.1) fun v40=>bif decide (x.2.2.1<v40.2.2.1)then w ((aa.wrap (g.1+1)),(aa.wrap (g.2+1)))else w ((aa.wrap (g.1+1)),g.2)else b8 (some (aa.wrap (g.2+(bp mxI (aa.wrap ((aa.wrap (((x.1.2.2.2).length:Int)-g.2))-x.2.2.2.2.2.2)) [0])))) fun v44=>bif decide (0<v44)then b8 (Q5 32 c.2 [(4,0,0,(aa.wrap (v44*257)))]) fun C=>b8 (G8 (x.1.1,x.1.2.1,x.1.2.2.1,x.1.2.2.2)) fun i=>rounds (α:=Int×List (Int×Int×Int×Int)) (β:=(List (Int×Int×Int×Int)×Int)) (fun D j=>bif decide (j.1<((i).length:Int))then b8 (nth i j.1) fun v54=>b8 (Q5 32 j.2 [(5,v54,0,1)]) fun v55=>D ((aa.wrap (j.1+1)),v55)else b8 (some ()) fun v54=>b8 (slices_SortFunc_api_Violation_rules_Violations_2 (j.2,4,())) fun v54=>some (v54,0)) (0,C)else b8 (G8 (x.1.1,x.1.2.1,x.1.2.2.1,x.1.2.2.2)) fun v46=>rounds (α:=Int×List (Int×Int×Int×Int)) (β:=(List (Int×Int×Int×Int)×Int)) (fun E k=>bif decide (k.1<((v46).length:Int))then b8 (nth v46 k.1) fun l=>b8 (Q5 32 k.2 [(5,l,0,1)]) fun v53=>E ((aa.wrap (k.1+1)),v53)else b8 (some ()) fun l=>
 b8 (slices_SortFunc_api_Violation_rules_Violations_2 (k.2,4,())) fun l=>some (l,0)) (0,c.2)) (0,0)) (0,e.2)) (0,([]:List (Int×Int×Int)))) (0,d.2)) (0,([]:List (Int×Int×Int×Int)))
noncomputable def aM0:List (Int×Int×Int×Int)×List (Int×Int×Int×Int)->Option (Bool):=fun x=>bif !decide (((x.1).length:Int)=((x.2).length:Int))then some false else rounds (α:=Int) (β:=Bool) (fun e d=>bif decide (d<((x.1).length:Int))then b8 (nth x.1 d) fun v9=>b8 (nth x.2 d) fun c=>bif !((fun (a b:Int×Int×Int×Int)=>(decide (a.1=b.1)&&(decide (a.2.1=b.2.1)&&(decide (a.2.2.1=b.2.2.1)&&decide (a.2.2.2=b.2.2.2))))) (v9.1,v9.2.1,v9.2.2.1,v9.2.2.2) (c.1,c.2.1,c.2.2.1,c.2.2.2))then some false else e (aa.wrap (d+1))else some true) 0
noncomputable def K9:List (Int×Int×Int×Int)->Option (Int):=fun x=>rounds (α:=Int×Int) (β:=Int) (fun b a=>bif decide (a.2<((x).length:Int))then b8 (nth x a.2) fun v6=>b8 (some (bp mxI v6.2.2.2 [0])) fun v10=>bif decide ((aa.wrap (4611686018427387904-a.1))<v10)then some 4611686018427387904 else b ((aa.wrap (a.1+v10)),(aa.wrap (a.2+1)))else some a.1) (0,0)
noncomputable def hV0:List (Int×Int×Int×Int)×List (Int×Int×Int×Int)->Option (Bool):=fun x=>b8 (K9 x.2) fun v2=>b8 (K9 x.1) fun v3=>some (decide (v3<v2))
noncomputable def Q9:List (Int)×List (Int)->Option (Bool):=fun x=>bif !decide (((x.1).length:Int)=((x.2).length:Int))then some false else rounds (α:=Int) (β:=Bool) (fun b a=>bif decide (a<((x.1).length:Int))then b8 (nth x.1 a) fun v9=>b8 (nth x.2 a) fun v10=>bif !decide (v9=v10)then some false else b (aa.wrap (a+1))else some true) 0
noncomputable def P7:(List (Int×Int×Int)×List (Int×Int×Int×List (Int×Int)×Int×Int)×List (Int)×List (Int×Int×Int×ByteArray×List (Int)))->Option (Bool):=fun x=>b8 (C4 (x.1,x.2.1,x.2.2.1,x.2.2.2)) fun v4=>bif !(v4)then b8 (mapsheetslaw36_awake ()) fun v6=>some v6 else b8 (H9 (x.1,x.2.1,x.2.2.1,x.2.2.2)) fun v6=>bif !decide (v6=0)then b8 (mapsheetslaw36_awake ()) fun c=>some c else b8 (P0 ()) fun c=>b8 (A7 ((x.1,x.2.1,x.2.2.1,x.2.2.2),(c.1,c.2.1,c.2.2.1,c.2.2.2.1,c.2.2.2.2.1,c.2.2.2.2.2))) fun b=>rounds (α:=List (Int)×Int) (β:=Bool) (fun d a=>bif decide (a.2<((b.1).length:Int))then b8 (nth b.1 a.2) fun v21=>bif !decide (v21.1=5)then some false else b8 (nth b.1 a.2) fun v26=>bif !decide (v26.2.2.1=0)then some false else b8 (nth b.1 a.2) fun v31=>bif !decide (v31.2.2.2=1)then some false else b8 (nth b.1 a.2) fun v36=>b8 (Q5 8 a.1 [v36.2.1]) fun v40=>d (v40,(aa.wrap (a.2+1)))else b8 (mapsheetslaw36_awake ()) fun v21=>bif v21 then bif decide (b.2=0)then b8 (G8 (x.1,x.2.1,x.2.2.1,x.2.2.2)) fun v23=>b8 (some ()) fun v24=>b8 (Q9 (a.1,v23)) fun v24=>some v24 else some false else some false) (([]:List (Int)),0)
end Go.Ab
namespace Go.Ab
open Go
@[simp] theorem b9 {α β:Type} (a:α) (f:α->Option β):b8 (some a) f=f a:=rfl
@[simp] theorem obind_none {α β:Type} (f:α->Option β):b8 none f=none:=rfl
theorem ey0:2^100<=many:=Classical.choose_spec (⟨2^100,ax _⟩:∃ n:Nat,2^100<=n)
theorem sZ0:1000000000<=many:=bC (by decide) ey0
theorem ll0{α β:Type}{F:(α->Option β)->α->Option β}(I:α->Prop)(a:α->Nat)(g:α->Option β)(h:∀ rec x,I x->(∀ y,I y->a y<a x->rec y=g y)->F rec x=g x):∀ (n:Nat) (x:α),I x->a x<n->iter F n x=g x
 | 0,x,_,hm=>Am hm (Nat.not_lt_zero _)
 | n+1,x,hi,hm=>by show F (iter F n) x=g x;exact h _ x hi fun y b c=>ll0 I a g h n y b (by omega)
theorem hS0{α β:Type}{F:(α->Option β)->α->Option β}(I:α->Prop)(a:α->Nat)(g:α->Option β)(h:∀ rec x,I x->(∀ y,I y->a y<a x->rec y=g y)->F rec x=g x){x:α}(b:I x)(hm:a x<2^100):rounds F x=g x :=ll0 I a g h many x b (dK hm ey0)
theorem ff0{α β:Type}{F:(α->Option β)->α->Option β}{x:α}{v:Option β}(h:∀ rec,F rec x=v):rounds F x=v :=hS0 (fun y=>y=x) (fun _=>0) (fun _=>v) (fun rec y a _=>by rw[a];exact h rec) rfl (by omega)
theorem r9{S β α A:Type}(xs:List α){F:(S->Option β)->S->Option β}(st:Nat->A->S)(g:A->List α->Option β)(hl:xs.length<2^100)
  (c:∀ rec a,F rec (st xs.length a)=g a []) (b:∀ rec i a x rest,i<xs.length->xs.drop i=x::rest->(∀ a',rec (st (i+1) a')=g a' rest)->F rec (st i a)=g a (x::rest)) (a:A):rounds F (st 0 a)=g a xs:=by
 have key:∀ (k i n:Nat) (a:A),i<=xs.length->k=xs.length-i->k<n->iter F n (st i a)=g a (xs.drop i):=by
  intro k
  induction k with
  | zero=>
   intro i n a hi hk f;have:i=xs.length:=by omega
   subst this;cases n with
   | zero=>omega
   | succ n=>rw[gK];exact c _ a
  | succ k h=>
   intro i n a hi hk f;cases n with
   | zero=>omega
   | succ n=>
    have d:i<xs.length:=by omega
    have e:xs.drop i=xs[i]::xs.drop (i+1):=bM d;rw[e];exact b _ i a xs[i] _ d e fun a'=>h (i+1) n a' (by omega) (by omega) (by omega)
 have:=key xs.length 0 many a (cN _) (by omega) (dK hl ey0);rw[gz]at this;exact this
theorem p8{S β α A:Type}(xs:List α){F:(S->Option β)->S->Option β}(st:Nat->A->S)(g:A->List α->Option β)(I:Nat->A->Prop)(hl:xs.length<2^100)
  (c:∀ rec a,I xs.length a->F rec (st xs.length a)=g a []) (b:∀ rec i a x rest,i<xs.length->I i a->xs.drop i=x::rest->(∀ a',I (i+1) a'->rec (st (i+1) a')=g a' rest)->F rec (st i a)=g a (x::rest)) (a:A) (ha:I 0 a):rounds F (st 0 a)=g a xs:=by
 have key:∀ (k i n:Nat) (a:A),i<=xs.length->k=xs.length-i->k<n->I i a->iter F n (st i a)=g a (xs.drop i):=by
  intro k
  induction k with
  | zero=>
   intro i n a hi hk j e;have:i=xs.length:=by omega
   subst this;cases n with
   | zero=>omega
   | succ n=>rw[gK];exact c _ a e
  | succ k l=>
   intro i n a hi hk j e;cases n with
   | zero=>omega
   | succ n=>
    have d:i<xs.length:=by omega
    have h:xs.drop i=xs[i]::xs.drop (i+1):=bM d;rw[h];exact b _ i a xs[i] _ d e h fun a' f=>l (i+1) n a' (by omega) (by omega) (by omega) f
 have:=key xs.length 0 many a (cN _) (by omega) (dK hl ey0) ha;rw[gz]at this;exact this
theorem C3{α:Type}(xs:List α)(i:Nat):nth xs (i:Int)=xs[i]?:=by unfold nth;simp
theorem l9{α:Type}{xs:List α}{i:Nat}{x:α}{rest:List α}(h:xs.drop i=x::rest):nth xs (i:Int)=some x:=by rw[C3];have:=Ap jb h;simpa[List.head?_drop]using this
theorem mP0{α:Type}{xs:List α}{i:Int}(a:0<=i):nth xs i=xs[i.toNat]?:=by unfold nth;simp[a]
theorem w64{n:Int}(h1:-9223372036854775808<=n)(h2:n<=9223372036854775807):aa.wrap n=n:=IntWalk.i64_in n ⟨h1,h2⟩
theorem C7{α:Type}{b:Nat}{xs a:List α}(c:b<=1000)(h:xs.length+a.length<=1000000000):Q5 b xs a=some (xs++a):=by
 unfold Q5;have h1:(2*(xs.length+a.length)+1000)*b<=2^48:=by have:(2*(xs.length+a.length)+1000)*b<=(2*1000000000+1000)*1000:=Nat.mul_le_mul (by omega) c;omega
 have h2:xs.length+a.length<=2^62:=by omega
 simp[h1,h2]
theorem ra0{α:Type}{xs:List α}{i:Nat}(h:i<=xs.length):td0 xs none (some (i:Int))=some (xs.take i):=by unfold td0 bndI;simp[h]
theorem rl0{α:Type}{xs:List α}{i:Int}(a:0<=i)(h:i<=xs.length):td0 xs (some i) none=some (xs.drop i.toNat):=by unfold td0 bndI;simp[a,h]
end Go.Ab
namespace Go.Ab
open Go Go.Sort Go.Proofs Go.Shelf
theorem W0{α:Type}{r:α}{l:List α}(i:Nat):atT r (r::l) i∈r::l:=by
 unfold atT;cases hi:(r::l)[i]? with
 | some x=>exact aN hi
 | none=>simp
theorem bw0{α:Type}(cf:α->α->Int)(r:α)(l:List α):Z0 cf (r::l)=((pdq (ltOf (fun i j=>cf (atT r (r::l) i) (atT r (r::l) j))) (bd (r::l).length) 0 (r::l).length (dM (r::l).length) true true).toList).map (atT r (r::l)):=rfl
theorem ld0{α:Type}(cf:α->α->Int)(r:α)(l:List α):Ordered cf (r::l)=SWO (ltOf (fun i j=>cf (atT r (r::l) i) (atT r (r::l) j))):=rfl
theorem om0{α:Type}{cf:α->α->Int}{r:α}{l:List α}(hO:Ordered cf (r::l)) :
  PermIn 0 (r::l).length (bd (r::l).length) (pdq (ltOf (fun i j=>cf (atT r (r::l) i) (atT r (r::l) j))) (bd (r::l).length) 0 (r::l).length (dM (r::l).length) true true)/\SortedIn (ltOf (fun i j=>cf (atT r (r::l) i) (atT r (r::l) j))) 0 (r::l).length (pdq (ltOf (fun i j=>cf (atT r (r::l) i) (atT r (r::l) j))) (bd (r::l).length) 0 (r::l).length (dM (r::l).length) true true) :=
 pdq_sorts _ hO (bd (r::l).length) 0 (r::l).length (dM (r::l).length) true true (cN _) (by simp) (Or.inl rfl)
theorem S5{α:Type}{cf:α->α->Int}:∀ {xs:List α},Ordered cf xs->(Z0 cf xs).Perm xs
 | [],_=>List.Perm.refl _
 | r::l,hO=>by
  obtain⟨⟨h1,_,b⟩,_⟩:=om0 hO;rw[bw0];generalize hes:r::l=es at *;generalize pdq (α:=Nat) _ _ _ _ _ _ _=d at *;have e1:d.extract 0 es.length=d:=by
   have:d.size=es.length:=by simpa using h1
   rw[<- this];simp
  have e2:(bd es.length).extract 0 es.length=bd es.length:=by
   have:(bd es.length).size=es.length:=by simp
   conv=>lhs;rw[<- this]
   simp
  rw[e1,e2]at b;refine(b.map (atT r es)).trans ?_;have:(bd es.length).toList.map (atT r es)=es:=by
   apply h_;intro k;rw[aS];by_cases hk:k<es.length
   ·have a:(bd es.length).toList[k]?=some k:=by simp[hk]
    rw[a];simp[atT,hk]
   have a:(bd es.length).toList[k]?=none:=by simp;omega
   rw[a,bD (by omega)];rfl
  rw[this]
theorem kD0{α:Type}{cf:α->α->Int}:∀ {xs:List α},Ordered cf xs->(Z0 cf xs).Pairwise (fun a b=>¬ cf b a<0)
 | [],_=>gh
 | r::l,hO=>by
  obtain⟨⟨h1,_,_⟩,hs⟩:=om0 hO;rw[bw0];generalize hes:r::l=es at *;generalize pdq (α:=Nat) _ _ _ _ _ _ _=d at *;rw[List.pairwise_map];rw[List.pairwise_iff_getElem];intro i j hi hj c;have g:d.size=es.length:=by simpa using h1
  have e:i<d.size:=by simpa using hi
  have f:j<d.size:=by simpa using hj
  have:=hs i j (cN _) c (by omega);simp only[ltOf,An]at this;simpa[e,f]using this
theorem fh0{α:Type}{cf:α->α->Int}:∀ {xs:List α},(∀ x∈xs,¬ cf x x<0)->(∀ x∈xs,∀ y∈xs,∀ z∈xs,cf x y<0->cf y z<0->cf x z<0)->(∀ x∈xs,∀ y∈xs,∀ z∈xs,¬ cf x y<0->¬ cf y z<0->¬ cf x z<0)->Ordered cf xs
 | [],_,_,_=>trivial
 | r::l,h1,h2,c=>by
  refine⟨fun i=>?_,fun i j k a b=>?_,fun i j k a b=>?_⟩
  ·simp only[ltOf,An];exact h1 _ (W0 i)
  ·simp only[ltOf,Ad]at a b ⊢;exact h2 _ (W0 i) _ (W0 j) _ (W0 k) a b
  simp only[ltOf,An]at a b ⊢;exact c _ (W0 i) _ (W0 j) _ (W0 k) a b
theorem kk0{α:Type}{cmp:α->α->Option Int}{cf:α->α->Int}{xs:List α}(hc:∀ x∈xs,∀ y∈xs,cmp x y=some (cf x y))(hO:Ordered cf xs)(hl:xs.length<4611686018427387904):du0 cmp xs=some (Z0 cf xs):=by
 have b:∀ x∈xs,∀ y∈xs,(cmp x y).getD 0=cf x y:=fun x c y d=>by rw[hc x c y d];rfl
 have a:∀ (r:α) (l:List α),xs=r::l->(fun i j=>(cmp (atT r (r::l) i) (atT r (r::l) j)).getD 0)=(fun i j=>cf (atT r (r::l) i) (atT r (r::l) j)):=fun r l e=>by funext i j;exact b _ (by rw[e];exact W0 i) _ (by rw[e];exact W0 j)
 have f:Ordered (fun x y=>(cmp x y).getD 0) xs:=by
  cases xs with
  | nil=>trivial
  | cons r l=>have:=a r l rfl;rw[ld0]at hO ⊢;simp only[this];exact hO
 unfold du0;rw[Af ⟨fun x c y d=>by rw[hc x c y d];rfl,f,hl⟩];cases xs with
 | nil=>rfl
 | cons r l=>have:=a r l rfl;rw[bw0,bw0];simp only[this]
end Go.Ab
namespace Go.Ab
open Go Go.Sort Go.Proofs Go.Shelf
variable [B6]
theorem nS0{α:Type}{b:Nat}{xs r:List α}(h:Q5 b [] xs=some r):r=xs/\(2*xs.length+1000)*b<=2^48/\xs.length<=2^62:=by
 unfold Q5 at h;simp only[bx,aG,aT]at h;by_cases c1:(2*xs.length+1000)*b<=2^48
 ·by_cases c2:xs.length<=2^62
  ·simp[c1,c2]at h
   exact⟨h.symm,c1,c2⟩
  simp[c2]at h
 simp[c1]at h
theorem rW0(k:Nat)(v:Value):AV.pure (k+1) (.sc v)=true:=rfl
theorem nk0 {P:Program} {T:Tab} (hT:C0 P T) {f:FuncId} {fn:Func} {t elem:TypeId} (hf:P.funcs[f]?=some fn) (a:(fn.name== "runtime.NumGoroutine")=false) (b:la0 fn t=true)
  (h1:(T t).map TI.und=some (.slice elem)) (h2:(T elem).map TI.size=some 1) (g:(T elem).map TI.bytes=some 8) {x r:List Int} (h:Q5 8 [] x=some r) :
  E0 P ⟨f,y9 (.one (.sl (.one (.int .i64)))) x,enc (.sl (.one (.int .i64))) r⟩:=by
 obtain⟨rfl,i,j⟩:=nS0 h;refine jj0 hT hf a b h1 h2 g (es:=r.map (y9 (.one (.int .i64)))) ?_ ?_ (by simpa using i) (by simpa using j) (by decide)
 ·intro c hc d e
  obtain⟨v,_,rfl⟩:=aM.1 hc;simp only[y9,enc,bJ]at e;rw[e];exact rW0 98 _
 rw[aj];intro c hc;obtain⟨v,_,rfl⟩:=aM.1 hc;rfl
theorem mz0 {P:Program} {T:Tab} (hT:C0 P T) {f:FuncId} {fn:Func} {t elem:TypeId} (hf:P.funcs[f]?=some fn) (a:(fn.name== "runtime.NumGoroutine")=false) (b:la0 fn t=true)
  (h1:(T t).map TI.und=some (.slice elem)) (h2:(T elem).map TI.size=some 2) (g:(T elem).map TI.bytes=some 16) {x r:List (Int×Int)} (h:Q5 16 [] x=some r) :
  E0 P ⟨f,y9 (.one (.sl (.cons (.int .i64) (.one (.int .i64))))) x,enc (.sl (.cons (.int .i64) (.one (.int .i64)))) r⟩:=by
 obtain⟨rfl,i,j⟩:=nS0 h;refine jj0 hT hf a b h1 h2 g (es:=r.map (y9 (.cons (.int .i64) (.one (.int .i64))))) ?_ ?_ (by simpa using i) (by simpa using j) (by decide)
 ·intro c hc d e
  obtain⟨v,_,rfl⟩:=aM.1 hc;simp only[y9,enc,aC,List.not_mem_nil,or_false]at e;rcases e with rfl | rfl<;>exact rW0 98 _
 rw[aj];intro c hc;obtain⟨v,_,rfl⟩:=aM.1 hc;rfl
theorem pr0{P:Program}{f:FuncId}(a:∀ args w,(callFunc f args).run P w=((add64Entry args).run P w).andThen fun v w'=>.ok (.value v) w'){x:Int×Int×Int}{r:Int×Int}(h:bits_Add64 x=some r) :
  E0 P ⟨f,y9 (.cons (.int .u64) (.cons (.int .u64) (.one (.int .u64)))) x,enc (.tup (.cons (.int .u64) (.one (.int .u64)))) r⟩:=by
 intro σ;unfold bits_Add64 at h;cases hc:(decide (0<=x.1)&&decide (0<=x.2.1)&&(decide (x.2.2=0)||decide (x.2.2=1)))with
 | false=>rw[hc]at h;cases h
 | true=>rw[hc]at h;simp only[Ac,ah]at h;subst h;simp only[ab,br,Ad]at hc;refine(rC0 a (σ:=σ) (σ':=σ) (v:=enc (.tup (.cons (.int .u64) (.one (.int .u64)))) ((x.1+x.2.1+x.2.2)%18446744073709551616,(x.1+x.2.1+x.2.2) / 18446744073709551616)) ?_).1;show oc0 [.sc (.int .u64 x.1),.sc (.int .u64 x.2.1),.sc (.int .u64 x.2.2)] σ=_;unfold oc0;dsimp only;rw[Af ⟨hc.1.1,hc.1.2,hc.2⟩];rfl
theorem pB0 {P:Program} {j:dS} (L:Lays.n144 P j) {f:FuncId} (hf:j.f 144=f) {d:Func} (p:P.funcs[f]?=some d) (k:(d.name== "runtime.NumGoroutine")=false) (l:d.body.isNone=false)
  {b:Nat} (q:j.g 1=b) {m:Int} (hm:B6.cell b 0=some (.int .i64 m)) {x:ByteArray×ByteArray} {r:Bool} (h:strings_Contains x=some r):E0 P ⟨f,y9 (.cons .str (.one .str)) x,enc .bool r⟩:=by
 subst hf q;unfold strings_Contains at h;by_cases hs:x.1.size<4294967281
 ·simp only[hs,Ai,Ac,ah]at h
  subst h;intro σ;refine B4.of_calls p k l ?_;intro G vs w a c;obtain⟨u,s,rfl,n,a⟩:=a.cons_inv;obtain⟨v,t,rfl,o,a⟩:=a.cons_inv;obtain rfl:=a.nil_inv;cases n;cases o;have i:w.cell? ⟨j.g 1,0,none⟩=some (.int .i64 m):=c.cell (c.glob _ _ _ hm);refine(Any.strings_Contains L x.1 x.2 m w hs i).mono ?_;rintro e w' ⟨rfl,rfl⟩;exact⟨_,_,σ,G,rfl,.refl _ _ _ _,.sc _,c,rfl,rfl⟩
 simp[hs]at h
theorem kg0{P:Program}{T:Tab}(hT:C0 P T){t:TypeId}{z:Nat}(h:(T t).map (fun ti=>(ti.isAgg,ti.size))=some (true,z)):(∀ w,(isAgg t).run P w=.ok true w)/\∀ w,(ku t).run P w=.ok z w:=by
 cases a:T t with
 | none=>rw[a]at h;cases h
 | some ti=>rw[a]at h;simp only[ak,ah,cy]at h;exact⟨fun w=>by rw[cS0 hT a w,h.1],fun w=>by rw[F4 hT a w,h.2]⟩
theorem gN0{P:Program}{ts:List TF}{t:TF}(h:t.Ok (fz0 P ts))(hf:t.f<XT){x:t.dom.T}{r:t.cod.T}(a:t.fn x=some r):E0 P ⟨t.f,y9 t.dom x,enc t.cod r⟩:=by obtain⟨φ,h1,h2⟩:=h x r a;exact(jR0 P ts).memo t.f φ hf h1 _ _ h2
theorem cJ0{α:Type}{a:α->List AV}{r:α}{l:List α}(i:Nat):D9 ((r::l).map a) i=a (atT r (r::l) i):=by unfold D9 atT;rw[aS];cases (r::l)[i]?<;>rfl
theorem fC0{α:Type}{a:α->List AV}{cf:List AV->List AV->Int}{b:α->α->Int}:∀ {xs:List α},(∀ x∈xs,∀ y∈xs,cf (a x) (a y)=b x y)->H2 cf (xs.map a)=(Z0 b xs).map a
 | [],_=>rfl
 | r::l,h=>by
  have e:(fun i j=>cf (D9 ((r::l).map a) i) (D9 ((r::l).map a) j))=fun i j=>b (atT r (r::l) i) (atT r (r::l) j):=by funext i j;rw[cJ0,cJ0];exact h _ (W0 i) _ (W0 j)
  rw[dW0 (by simp),e,bw0,List.map_map,aD];exact List.map_congr_left fun i _=>cJ0 i
theorem rI0{α:Type}{a:α->List AV}{cf:List AV->List AV->Int}{b:α->α->Int}{xs:List α}(h:∀ x∈xs,∀ y∈xs,cf (a x) (a y)=b x y)(hO:Ordered b xs)(c:xs.map a≠[]):SWO (ltOf (fun i j=>cf (D9 (xs.map a) i) (D9 (xs.map a) j))):=by
 cases xs with
 | nil=>simp at c
 | cons r l=>
  have e:(fun i j=>cf (D9 ((r::l).map a) i) (D9 ((r::l).map a) j))=fun i j=>b (atT r (r::l) i) (atT r (r::l) j):=by funext i j;rw[cJ0,cJ0];exact h _ (W0 i) _ (W0 j)
  rw[e];exact hO
noncomputable def cfOf{α:Type}(c:α->List AV)(d:α->α->Int)(a b:List AV):Int :=open Classical in if h:∃ p:α×α,c p.1=a/\c p.2=b then d h.choose.1 h.choose.2 else 0
theorem qv0{α:Type}{a:α->List AV}(hi:∀ x y,a x=a y->x=y)(b:α->α->Int)(x y:α):cfOf a b (a x) (a y)=b x y:=by have hex:∃ p:α×α,a p.1=a x/\a p.2=a y:=⟨(x,y),rfl,rfl⟩;unfold cfOf;rw[dif_pos hex];obtain⟨h1,h2⟩:=hex.choose_spec;rw[hi _ _ h1,hi _ _ h2]
theorem kG0{α:Type}{cmp:α->α->Option Int}{xs r:List α}(h:du0 cmp xs=some r):(∀ x∈xs,∀ y∈xs,cmp x y=some ((cmp x y).getD 0))/\Ordered (fun x y=>(cmp x y).getD 0) xs/\xs.length<4611686018427387904/\r=Z0 (fun x y=>(cmp x y).getD 0) xs:=by
 unfold du0 at h;split at h
 ·rename_i hc
  cases h;refine⟨fun x a y b=>?_,hc.2.1,hc.2.2,rfl⟩;have:=hc.1 x a y b;cases he:cmp x y with
  | none=>rw[he]at this;cases this
  | some v=>rfl
 cases h
theorem ji0 {P:Program} {q:dS} (L:jW P q) {f:FuncId} (hf:q.f 6=f) {l:Func} (K:P.funcs[f]?=some l) (s:(l.name== "runtime.NumGoroutine")=false) (u:l.body.isNone=false)
  {i:SpL} {z:Nat} (hz:0<z) (B:i.len=z) (C:i.cells=true) (M:∀ w,(isAgg (q.t 24)).run P w=.ok true w) (N:∀ w,(ku (q.t 24)).run P w=.ok z w)
  {g:FuncId} {m:Func} (O:P.funcs[g]?=some m) (D:(m.name== "runtime.NumGoroutine")=false) (E:m.body.isNone=false) {cl:SpL} (c:cl.T)
  {cmp:i.T->i.T->Option Int} {x r:List i.T} (o:∀ a∈x,∀ b∈x,∀ v,cmp a b=some v->E0 P ⟨g,[.agg (y9 i a),.agg (y9 i b)]++y9 cl c,I64 v⟩) (h:du0 cmp x=some r) :
  er0 P f [.rs (x.map (y9 i)),.sc (.int .i64 z),.fn (.func g) [] (y9 cl c)] (.rs (r.map (y9 i))):=by
 obtain⟨h1,hO,Q,rfl⟩:=kG0 h;intro v R rest j;simp only[cG,AV.sc.injEq,fu,Aq]at j;obtain⟨rfl,p,rfl⟩:=j;have p:R=z:=by omega
 subst p;have n:∀ a∈x,∀ b∈x,cfOf (y9 i) (fun a b=>(cmp a b).getD 0) (y9 i a) (y9 i b)=(cmp a b).getD 0:=fun a _ b _=>qv0 (X0 i) _ a b;refine⟨_,_,rfl,rfl,?_,?_⟩
 ·simp only[aD]
  exact(S5 hO).length_eq
 intro σ id e restv S U;have hm:∀ k∈x.map (y9 i),∃ a∈x,k=y9 i a:=fun k h=>by obtain⟨a,ha,e⟩:=aM.1 h;exact⟨a,ha,e.symm⟩
 have:=tU0 L hf K s u hz M N O D E (e:=e) (es:=x.map (y9 i)) (caps:=y9 cl c) (cf:=cfOf (y9 i) (fun a b=>(cmp a b).getD 0))
  (fun k h=>by obtain⟨a,_,rfl⟩:=hm k h;rw[D1,B])
  (fun k h d G=>by obtain⟨a,_,rfl⟩:=hm k h;exact aj.1 (Kk0 C a) d G)
  (fun k h d G=>by obtain⟨a,_,rfl⟩:=hm k h;exact aj.1 (ac0 i a) d G)
  (by simpa using Q)
  (fun k h H h'=>by
   obtain⟨a,ha,rfl⟩:=hm k h;obtain⟨b,I,rfl⟩:=hm H h';rw[n a ha b I];exact o a ha b I _ (h1 a ha b I))
  (fun J=>rI0 n hO J) S (restv:=restv) U
 rw[fC0 n]at this;exact this
theorem pT0 {P:Program} {E:dS} (L:kx P E) {f:FuncId} (hf:E.f 6=f) {k:Func} (G:P.funcs[f]?=some k) (q:(k.name== "runtime.NumGoroutine")=false) (t:k.body.isNone=false)
  {s:Sp} (u:s.cel1=true) {g:FuncId} {l:Func} (H:P.funcs[g]?=some l) (w:(l.name== "runtime.NumGoroutine")=false) (z:l.body.isNone=false) {cl:SpL} (c:cl.T)
  {cmp:s.T->s.T->Option Int} {x r:List s.T} (n:∀ a∈x,∀ b∈x,∀ v,cmp a b=some v->E0 P ⟨g,[enc s a,enc s b]++y9 cl c,I64 v⟩) (h:du0 cmp x=some r) :
  er0 P f [.rs (x.map (y9 (.one s))),.sc (.int .i64 1),.fn (.func g) [] (y9 cl c)] (.rs (r.map (y9 (.one s)))):=by
 obtain⟨h1,hO,I,rfl⟩:=kG0 h;intro v J rest i;simp only[cG,AV.sc.injEq,fu,Aq]at i;obtain⟨rfl,o,rfl⟩:=i;have o:J=1:=by omega
 subst o;have m:∀ a∈x,∀ b∈x,cfOf (y9 (.one s)) (fun a b=>(cmp a b).getD 0) (y9 (.one s) a) (y9 (.one s) b)=(cmp a b).getD 0:=fun a _ b _=>qv0 (X0 (.one s)) _ a b;refine⟨_,_,rfl,rfl,?_,?_⟩
 ·simp only[aD]
  exact(S5 hO).length_eq
 intro σ id e restv K M;have hm:∀ j∈x.map (y9 (.one s)),∃ a∈x,j=y9 (.one s) a:=fun j h=>by obtain⟨a,ha,e⟩:=aM.1 h;exact⟨a,ha,e.symm⟩
 have:=tg0 L hf G q t H w z (e:=e) (es:=x.map (y9 (.one s))) (caps:=y9 cl c) (cf:=cfOf (y9 (.one s)) (fun a b=>(cmp a b).getD 0))
  (fun j h=>by obtain⟨a,_,rfl⟩:=hm j h;rfl)
  (fun j h d p=>by
   obtain⟨a,_,rfl⟩:=hm j h;simp only[y9,bJ]at p;rw[p];exact jY0 u a)
  (fun j h d p=>by obtain⟨a,_,rfl⟩:=hm j h;exact aj.1 (ac0 (.one s) a) d p)
  (by simpa using I)
  (fun j h B h'=>by
   obtain⟨a,ha,rfl⟩:=hm j h;obtain⟨b,C,rfl⟩:=hm B h';rw[m a ha b C];exact n a ha b C _ (h1 a ha b C))
  (fun D=>rI0 m hO D) K (restv:=restv) M
 rw[fC0 m]at this;exact this
theorem pu0 {P:Program} {q:dS} (L:ky P q) {f:FuncId} (hf:q.f 5=f) {d:Func} (s:P.funcs[f]?=some d) (l:(d.name== "runtime.NumGoroutine")=false) (m:d.body.isNone=false)
  {x:List Int×Int} {r:List Int} (h:slices_Sort_int x=some r):er0 P f (y9 (.cons (.sl (.one (.int .i64))) (.one (.int .i64))) x) (enc (.sl (.one (.int .i64))) r):=by
 unfold slices_Sort_int at h;cases hc:(decide (x.2=1)&&decide (x.1.length<4611686018427387904))with
 | false=>rw[hc]at h;cases h
 | true=>
  rw[hc]at h;simp only[Ac,ah]at h;subst h;simp only[ab,Ad]at hc;intro v t rest a;simp only[y9,enc,cG,AV.sc.injEq,fu,Aq]at a;obtain⟨rfl,k,rfl⟩:=a;have k:t=1:=by omega
  subst k;refine⟨x.1.map cj0,_,rfl,rfl,?_,?_⟩
  ·simp only[aD]
   exact iM ..
  intro σ id e restv u z;intro G vs w a c;obtain⟨C,g,rfl,B,b⟩:=a.cons_inv;have j:Rel G (σ.del id) w:=c.less rfl (fun i o h=>by
   rw[j3.objs_del]at h;split at h
   ·cases h
   exact h)
  have n:g=[]:=(z G g w b j).nil_inv;have p:restv=[]:=by have:g.length=restv.length:=b.1;rw[n]at this;exact List.length_eq_zero_iff.1 (show restv.length=0 from this.symm)
  subst p;exact sO0 L hf s l m hc.2 u G _ w a c
end Go.Ab
namespace Go.Ab
open Go
theorem aT0(xs:List Int)(y:Int)(hl:xs.length<2^62):H8 (xs,y)=some (if y∈xs then ((xs.idxOf y:Nat):Int)else -1):=by
 unfold H8;simp only[b9];refine(r9 (A:=Unit) xs (fun i _=>(i:Int)) (fun _ rest=>some (if y∈rest then ((xs.length-rest.length+rest.idxOf y:Nat):Int)else -1)) (by omega) ?_ ?_ ()).trans ?_
 ·intro rec a
  simp
 ·intro rec i a x rest hi d f
  have hlen:rest.length=xs.length-(i+1):=by have:=Ap gn d;simp at this;omega
  have c:((i:Int)<(xs.length:Int)):=by omega
  simp only[c,Ai,Ac,l9 d,b9];by_cases b:y=x
  ·subst b
   simp[hlen];omega
  have e1:aa.wrap ((i:Int)+1)=((i+1:Nat):Int):=by rw[w64 (by omega) (by omega)];omega
  simp only[b,Ag,Aa,e1];rw[f ()];have e2:(x==y)=false:=by simpa using fun e=>b e.symm
  simp only[aC,b,false_or,ay,List.idxOf_cons,e2,Aa,hlen];congr 1;split
  ·omega
  rfl
 simp
theorem E1(xs:List Int)(y:Int)(hl:xs.length<2^62):l8 (xs,y)=some (decide (y∈xs)):=by unfold l8;simp only[aT0 xs y hl,b9];by_cases h:y∈xs<;>simp[h]
abbrev Pt:=Int×Int
abbrev Nd:=Int×Int×Int
abbrev Ar:=Int×Int×Int×List Pt×Int×Int
def O7(ns:List Nd)(id:Int):Option Nd:=ns.find? fun n=>decide (n.1=id)
def ct0(ars:List Ar)(id:Int):Option Ar:=ars.find? fun a=>decide (a.1=id)
theorem N0{α:Type}{xs rest:List α}{i:Nat}{x:α}(h:xs.drop i=x::rest):i<xs.length/\rest.length=xs.length-(i+1)/\x∈xs:=by
 have h1:=Ap gn h;simp at h1;refine⟨by omega,by omega,?_⟩;have:x∈xs.drop i:=by rw[h];simp
 exact List.mem_of_mem_drop this
theorem w9{i n:Nat}(h:i<n)(a:n<2^62):aa.wrap ((i:Int)+1)=((i+1:Nat):Int):=by rw[w64 (by omega) (by omega)];omega
theorem A5{i n:Nat}(h:i<n):decide ((i:Int)<(n:Int))=true:=by simpa using h
theorem A9(n:Nat):decide ((n:Int)<(n:Int))=false:=by simp
theorem cZ0(ns:List Nd)(ars:List Ar)(fs:List Int)(id:Int)(hl:ns.length<2^62):N7 ((ns,ars,fs),id)=some (match O7 ns id with | some n=>(n,true) | none=>((0,0,0),false)):=by
 unfold N7;simp only[b9];refine(r9 (A:=Unit) ns (fun i _=>(i:Int)) (fun _ rest=>some (match O7 rest id with | some n=>(n,true) | none=>((0,0,0),false))) (by omega) ?_ ?_ ()).trans rfl
 ·intro rec a
  simp[O7]
 intro rec i a x rest hi b c;simp only[A5 hi,Ac,l9 b,b9,w9 hi hl];by_cases h:x.1=id
 ·subst h;simp[O7]
 simp only[h,Ag,Aa,c ()];simp[O7,h]
theorem hC0(ns:List Nd)(ars:List Ar)(fs:List Int)(id:Int)(hl:ars.length<2^62)(hv:∀ a∈ars,a.2.2.2.1.length<=1000000000):al0 ((ns,ars,fs),id)=some (match ct0 ars id with | some a=>(a,true) | none=>((0,0,0,[],0,0),false)):=by
 unfold al0;simp only[b9];refine(r9 (A:=Unit) ars (fun i _=>(i:Int)) (fun _ rest=>some (match ct0 rest id with | some n=>(n,true) | none=>((0,0,0,[],0,0),false))) (by omega) ?_ ?_ ()).trans rfl
 ·intro rec a
  simp[ct0]
 intro rec i a x rest hi b c;have d:=hv x (N0 b).2.2;have hc:slices_Clone_api_Point x.2.2.2.1=some x.2.2.2.1:=by unfold slices_Clone_api_Point;rw[C7 (by omega) (by simpa using d),aT]
 simp only[A5 hi,Ac,l9 b,b9,w9 hi hl,hc];by_cases h:x.1=id
 ·subst h;simp[ct0]
 simp only[h,Ag,Aa,c ()];simp[ct0,h]
theorem dV0(ns:List Nd)(ars:List Ar)(fs:List Int)(f:ns.length<=1000000)(ha:ars.length<=1000000):L4 (ns,ars,fs)=some (ns.map (·.1),ars.map (·.1)):=by
 unfold L4;simp only[b9];refine(p8 (A:=List Int) ns (fun i a=>(a,(i:Int))) (fun a rest=>some (a++rest.map (·.1),ars.map (·.1))) (fun i a=>a.length=i) (by omega) ?_ ?_ [] rfl).trans rfl
 ·intro rec a g
  simp only[A9,Aa,List.map_nil,bw];refine(p8 (A:=List Int) ars (fun i a=>(a,(i:Int))) (fun b rest=>some (a,b++rest.map (·.1))) (fun i a=>a.length=i) (by omega) ?_ ?_ [] rfl).trans rfl
  ·intro rec b h
   simp[A9]
  intro rec i b x rest hi c d e;simp only[A5 hi,Ac,l9 d,b9,w9 hi (show ars.length<2^62 by omega)];rw[C7 (by omega) (by simp;omega)];simp only[b9];rw[e _ (by simp;omega)];simp
 intro rec i a x rest hi c d e;simp only[A5 hi,Ac,l9 d,b9,w9 hi (show ns.length<2^62 by omega)];rw[C7 (by omega) (by simp;omega)];simp only[b9];rw[e _ (by simp;omega)];simp
end Go.Ab
