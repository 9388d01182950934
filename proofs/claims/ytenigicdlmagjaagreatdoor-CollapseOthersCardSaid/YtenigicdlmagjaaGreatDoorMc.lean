/- A part of the proof; its readable source lies in wip of the prover's repo (squeezed here for the limit of bytes). -/
import Derived.Test.YtenigicdlmagjaaGreatDoorMb
import Derived.IntWalk
import Derived.Carry
import Derived.ChangeSame
set_option linter.unusedVariables false
set_option linter.unusedSimpArgs false
set_option linter.unusedSectionVars false
open BitVec renaming ofInt->cB
open Bool renaming and_eq_true->ab,and_self->iL,and_true->eG,false_eq_true->au,not_eq_true'->bL,or_eq_true->eo
open Function renaming comp_def->cn
open Go.DataW renaming TrodAll->eS
open Go.Instr renaming next->fR,range->iX
open Go.Result renaming andThen_ok->ah
open Go.Sem renaming run_bind->al,run_pure->ao
open Go.Utf8 renaming decode->bS
open Go.Value renaming bool->jg,okWide->gj
open Go.Value.bool renaming injEq->gd
open List renaming all_cons->bZ,all_eq_true->ak,all_map->dc,all_nil->fU,append_assoc->df,eq_nil_of_length_eq_zero->bJ,filter_cons->bI,foldl_cons->fB,getElem?_append_left->fS,getElem?_append_right->cV,getElem?_cons_succ->aI,getElem?_eq_getElem->ae,getElem?_eq_none->bz,getElem?_eq_some_iff->an,getElem?_map->aM,getElem?_set->bW,getElem?_set_ne->gA,getElem_map->cd,getElem_mem->aq,length->gB,length_cons->ax,length_map->aB,length_nil->aU,length_replicate->gp,length_singleton->eQ,map->bP,map_append->cF,map_congr_left->bq,map_cons->ay,map_drop->cZ,map_map->cQ,map_nil->bA,map_take->cY,mem_append->aK,mem_cons->aC,mem_map->aY,mem_of_getElem?->aD,mem_singleton->aT,nil_append->bG,range'->cW
open List.cons renaming injEq->b_
open Nat renaming add_assoc->dy,add_comm->d_,add_mul->bK,add_sub_cancel_left->cN,beq->aA,beq_eq->bk,ble->cJ,ble_eq_true_of_le->gC,blt->bY,blt_eq->aV,eq_of_beq_eq_true->af,le_add_right->aO,le_of_ble_eq_true->aQ,le_of_eq->jf,le_refl->ar,le_succ->eR,le_trans->bo,mod_two_eq_zero_or_one->fQ,mul_le_mul_right->aZ,zero_add->aG
open Option renaming bind_some->dB,getD_some->bR,map_none->bO,map_some->aj
open Option.some renaming injEq->ai
namespace Go.Ab
open Go
variable [B5]
theorem N7(cols:List (Nat×TypeId×Nat))(r:Nat):∀ (row:List AV) (a j:Nat),(an0 cols r a row)[j]?=(row[j]?).map (aG0 cols r (a+j))
 | [],a,j=>by simp[an0]
 | v::vs,a,0=>by simp[an0]
 | v::vs,a,j+1=>by simp only[an0,aI];rw[N7 cols r vs (a+1) j];congr 2;omega
theorem I0(cols:List (Nat×TypeId×Nat)):∀ (rows:List (List AV)) (a i:Nat),(J2 cols a rows)[i]?=(rows[i]?).map (an0 cols (a+i) 0)
 | [],a,i=>by simp[J2]
 | v::vs,a,0=>by simp[J2]
 | v::vs,a,i+1=>by simp only[J2,aI];rw[I0 cols vs (a+1) i];congr 2;omega
theorem H3(cols:List (Nat×TypeId×Nat))(r:Nat):∀ (row:List AV) (a:Nat),(an0 cols r a row).length=row.length
 | [],_=>rfl
 | _::vs,a=>by simp[an0,H3 cols r vs]
theorem J9(cols:List (Nat×TypeId×Nat)):∀ (rows:List (List AV)) (a:Nat),(J2 cols a rows).length=rows.length
 | [],_=>rfl
 | _::vs,a=>by simp[J2,J9 cols vs]
theorem mG0{cols:List (Nat×TypeId×Nat)}{r j:Nat}{v:AV}(h:cols.all (fun q=>!Nat.beq q.1 j)=true):aG0 cols r j v=v:=by
 unfold aG0;have:cols.find? (fun c=>aA c.1 j)=none:=by rw[List.find?_eq_none];intro x a;have:=ak.1 h x a;rw[bL]at this;rw[this];simp
 rw[this]
theorem aF0{rows:List (List AV)}{i off:Nat}{v:Option AV}{a:Nat}:(V0 rows i off v)[a]?=match v with
  | none=>rows[a]?
  | some v=>if a=i then (rows[a]?).map (fun cs=>cs.set off v)else rows[a]?:=by
 unfold V0;cases v with
 | none=>rfl
 | some v=>
  simp only;cases h:rows[i]? with
  | none=>
   by_cases e:a=i
   ·subst e;simp[h]
   simp[e]
  | some cs=>
   by_cases e:a=i
   ·subst e
    obtain⟨hl,he⟩:=an.1 h;simp[hl,he]
   simp only[e,Ah];rw[gA (by omega)]
theorem pD0{cs:List AV}{j:Nat}{a v:AV}(h:j<cs.length):P7 (cs.set j a) j [v]=cs.set j v:=by
 apply List.ext_getElem?;intro k;rw[fj0 _ _ _ (by simp;omega)];simp only[eQ,bW];by_cases e:j=k
 ·subst e;simp[h]
 rw[Ae (by omega)];simp[e]
theorem dF0(r c:Nat):hid r c<R2:=Nat.mod_lt _ (by decide)
theorem Tr.set_setF{α:Type}(u v:Option α):∀ (f k:Nat) (t:Tr α),Tr.setF v f k (Tr.setF u f k t)=Tr.setF v f k t
 | 0,0,.leaf=>rfl
 | 0,0,.node _ _ _=>rfl
 | _+1,0,.leaf=>rfl
 | _+1,0,.node _ _ _=>rfl
 | 0,_+1,t=>by simp[Tr.setF]
 | f+1,k+1,.leaf=>by rcases fQ k with e | e<;>simp[Tr.setF,e,Tr.set_setF u v f (k / 2)]
 | f+1,k+1,.node x l r=>by rcases fQ k with e | e<;>simp[Tr.setF,e,Tr.set_setF u v f (k / 2)]
theorem c8.del_set(σ:c8)(id:Nat)(o:j5):(σ.set id o).del id=σ.del id:=by simp only[c8.set,c8.del,Tr.set,Tr.set_setF,c8.mk.injEq,Aq];omega
theorem fq0{T:Tab}(σ σ':c8){t:TypeId}{x ix:AV}{ok:Bool}(h:∀ id,x≠.mm id):E5 T σ t x ix ok=E5 T σ' t x ix ok:=by
 cases x with
 | mm id=>exact Am rfl (h id)
 | rm c=>cases c<;>rfl
 | _=>rfl
section bnds
theorem Tr.all_get{α:Type}{p:α->Bool}:∀ {t:Tr α} {k:Nat} {v:α},t.all p=true->t.get k=some v->p v=true
 | .leaf,k,v,_,h=>by rw[Tr.get_leaf]at h;cases h
 | .node x l r,0,v,a,h=>by simp only[Tr.get]at h;subst h;simp only[Tr.all,ab]at a;exact a.1.1
 | .node x l r,k+1,v,a,h=>by
  simp only[Tr.all,ab]at a;simp only[Tr.get]at h;split at h
  ·exact Tr.all_get a.1.2 h
  exact Tr.all_get a.2 h
theorem AS.bnd_get{k:Nat}{s:AS}(h:s.bnd k=true)(t:Nat):(s.get t).bnd k=true:=by
 simp only[AS.bnd,ab]at h;simp only[AS.get];cases a:s.tr.get t with
 | none=>rfl
 | some v=>exact Tr.all_get h.1 a
theorem or0(k:Nat):∀ l:List Value,iD0 k (l.map .sc)=true
 | []=>by simp[iD0]
 | v::l=>by simp[iD0,AV.bnd,or0 k l]
theorem AS.bnd_eval{k:Nat}{s:AS}(h:s.bnd k=true)(x:Operand):(s.eval x).bnd k=true:=by
 cases x with
 | tmp t=>exact s.bnd_get h t
 | const v=>cases v<;>simp[AS.eval,AV.ofValue,AV.bnd,or0]
 | global g=>simp[AS.eval,AV.bnd]
 | func f=>simp[AS.eval,AV.bnd,iD0]
theorem AS.bnd_obj{k:Nat}{s:AS}(h:s.bnd k=true){id:Nat}{o:j5}(a:s.st.objs id=some o):o.bnd k=true:=by simp only[AS.bnd,ab]at h;exact Tr.all_get h.2 a
end bnds
theorem ixx_ok{T:Tab}{t el:TypeId}{ti c:TI}{id z a b:Nat}{f:AV}(g:T t=some ti)(hu:ti.und=.slice el)(e:T el=some c)(hz:z=c.size){d k d2:Nat}(h:A6 T t (.ms 0 c.size a b) f=some (.mp d k d2)):A6 T t (.ms id z a b) f=some (.mp id k 0):=by
 obtain⟨und,size,zero,bytes,flat⟩:=ti;simp only at hu;subst hu;subst hz;unfold A6 at h ⊢;rw[g]at h ⊢;split at h
 ·rename_i i n e1
  cases e1;simp only[e]at h ⊢;split at h
  ·rename_i hc
   rw[Af hc];cases h;rfl
  cases h
 ·rename_i e1;cases e1
 cases h
theorem oo0{T:Tab}{t:TypeId}{id z n:Nat}{lo hi:Option AV}{d d2 o l:Nat}(h:R6 T t (.ms 0 z 0 n) lo hi none=some (.ms d d2 o l)):R6 T t (.ms id z 0 n) lo hi none=some (.ms id z o l):=by
 unfold R6 at h ⊢;split at h
 ·split at h
  ·rename_i a
   cases a;rename_i b;simp only[b]
   grind
  ·rename_i a;cases a
  ·rename_i a;cases a
  cases h
 ·rename_i a;grind
 cases h
section
variable {T:Tab} {Φ:G6} {θ θ':Nat->AV} {fr:Nat} (ha:∀ i,i<fr->θ' i=θ i) {s:AS} (hb:s.bnd fr=true)
include ha hb
theorem pQ0(x:Operand):(s.eval x).sub θ'=(s.eval x).sub θ:=sub_agree ha _ (s.bnd_eval hb x)
theorem ud0{elem:TypeId}{size:Nat}{a:AV}{c:Option Nat}{x:AV}(l:a.bnd fr=true)(h:xF0 s.st elem size a=some (c,x)){es:List (List AV)}(b:x.sub θ=.rs es) :
  T9 (s.st.sub θ') elem size (a.sub θ')=some (c,es)/\w8 (s.st.sub θ') (a.sub θ')=s.st.sub θ':=by
 unfold xF0 at h;split at h
 ·cases h
  simp only[dO0,bA,AV.rs.injEq]at b;subst b;exact⟨by simp[T9],by simp[w8]⟩
 ·split at h
  ·rename_i id z len _ e f rows d
   split at h
   ·rename_i hc
    cases h;have g:=s.bnd_obj hb d;have h1:(s.st.sub θ').objs id=some (.row e f es):=by rw[c8.sub_objs,d,aj,j5.sub_agree ha _ g];simp only[j5.sub];simp only[dO0,AV.rs.injEq]at b;rw[b]
    have hl:rows.length=es.length:=by simp only[dO0,AV.rs.injEq]at b;rw[<- b];simp
    refine⟨?_,?_⟩
    ·simp only[bn0,T9,h1]
     rw[Af ⟨by omega,hc.2⟩]
    simp only[bn0,w8,h1];rw[Ae (by omega)]
   cases h
  cases h
 ·split at h
  ·rename_i id z i _ e f j d
   split at h
   ·rename_i hc
    cases h;obtain⟨rfl,k,he⟩:=hc;have hj:j<fr:=by have:=s.bnd_obj hb d;simpa[j5.bnd,aV]using this
    rw[p7]at b;have h1:(s.st.sub θ').objs id=some (.row e f es):=by rw[c8.sub_objs,d,aj];simp only[j5.sub,ha j hj,b,rowsOf]
    refine⟨?_,?_⟩
    ·simp only[P8,ha j hj,b,rowsOf,T9,h1]
     simp[k,he]
    simp only[P8,ha j hj,b,rowsOf,w8,h1];rw[Ae (by omega)]
   cases h
  cases h
 cases h
theorem my0{c y:AV}(b:c.bnd fr=true)(h:ssrc s.st c=some y){xs:List (List AV)}(a:y.sub θ=.rs xs):N9 (s.st.sub θ') (c.sub θ')=some xs:=by
 unfold ssrc at h;split at h
 ·cases h
  simp only[dO0,bA,AV.rs.injEq]at a;subst a;simp[N9]
 ·cases h
  rw[sub_agree ha _ b,a];simp[N9]
 ·cases h
  rw[sub_agree ha _ b,a];simp[N9]
 ·split at h
  ·rename_i id z off len _ e g rows d
   split at h
   ·rename_i hc
    cases h;have f:=s.bnd_obj hb d;simp only[dO0,AV.rs.injEq]at a;simp only[bn0,N9,c8.sub_objs,d,aj];rw[j5.sub_agree ha _ f];simp only[j5.sub,aB];rw[Af hc,<-a];simp[cY,cZ]
   cases h
  cases h
 ·split at h
  ·rename_i id z i _ e g j d
   split at h
   ·rename_i hc
    cases h;subst hc;have hj:j<fr:=by have:=s.bnd_obj hb d;simpa[j5.bnd,aV]using this
    rw[p7]at a;simp only[P8,ha j hj,a,rowsOf,N9,c8.sub_objs,d,aj,j5.sub];simp
   cases h
  cases h
 cases h
theorem wJ0{id:Nat}{sT xT:TypeId}{a c pat v:AV}{ro:RO}{σ':c8}{e:Nat}(h1:a.bnd fr=true)(h2:c.bnd fr=true)(h:sApp T s.st id sT xT a c fr=some (ro,pat,v,σ',e))(he:j4 T Φ θ ro=some (pat.sub θ')) :
  E9 T (s.st.sub θ') id sT xT (a.sub θ') (c.sub θ')=some (v.sub θ',σ'.sub θ'):=by
 unfold sApp at h;split at h
 ·rename_i elem _ _ _ _ j
  split at h
  ·rename_i p d
   split at h
   ·rename_i f x y k l
    cases h;simp only[j4,tb0,j]at he;split at he
    ·rename_i el _ _ _ _ q e1 e2
     cases e1;rw[d]at he;simp only at he;split at he
     ·rename_i es xs hex g
      split at he
      ·rename_i hc
       simp only[ai,p7]at he;obtain⟨m,n⟩:=ud0 ha hb h1 k hex;have o:=my0 ha hb h2 l g;have b:E9 T (s.st.sub θ') id sT xT (a.sub θ') (c.sub θ')=P9 T (w8 (s.st.sub θ') (a.sub θ')) id sT xT (a.sub θ') (c.sub θ'):=by
        unfold E9;split
        ·rename_i e3 e4
         rw[e2]at e4;cases e4;simp[TI.isInt]at hc
        rfl
       rw[b,n];simp only[P9,j,e2,d,m,o];rw[Af hc];simp only[P8,c8.sub_set,j5.sub,<-he,rowsOf,List.length_append];cases f<;>simp[c8.sub_del]
      cases he
     cases he
    cases he
   cases h
  cases h
 cases h
include ha hb in
theorem yA0{id:Nat}{sT xT:TypeId}{a c pat v:AV}{ro:RO}{σ':c8}{d:Nat}{e:TI}{k:IntKind}(h2:c.bnd fr=true)(f:T xT=some e)(g:e.und=.int k)(h:sZer T s.st id sT a c fr=some (ro,pat,v,σ',d))(he:j4 T Φ θ ro=some (pat.sub θ')) :
  E9 T (s.st.sub θ') id sT xT (a.sub θ') (c.sub θ')=some (v.sub θ',σ'.sub θ'):=by
 unfold sZer at h;split at h
 ·rename_i elem _ _ _ _ j
  split at h
  ·rename_i m b
   split at h
   ·cases h
    obtain⟨u0,z0,z1,z2,z3⟩:=e;cases g;simp only[j4,wn0,j,b]at he;rw[sub_agree ha _ h2];split at he
    ·rename_i o n l
     split at he
     ·rename_i hc
      simp only[ai,p7]at he;simp only[E9,j,f,F9,dI0,b,l];rw[Af hc];simp only[P8,c8.sub_set,j5.sub,<-he,rowsOf,gp]
     cases he
    cases he
   cases h
  cases h
 cases h
include ha hb in
theorem wE0{i:Nat}{c y:AV}(a:c.bnd fr=true)(h:src0 s.st i c=some y){xs:List (List AV)}(f:y.sub θ=.rs xs){σ0:c8}(g:∀ j,j≠i->σ0.objs j=(s.st.sub θ').objs j):N9 σ0 (c.sub θ')=some xs:=by
 unfold src0 at h;split at h
 ·cases h
  rename_i hi;rw[sub_agree ha _ a,f];simp[N9]
 split at h
 ·rename_i i2 z o l _
  split at h
  ·cases h
  rename_i b;have:=my0 ha hb a h f;rw[<- this,bn0];have d:i2≠i:=fun e=>by rw[e,Nat.beq_refl]at b;cases b
  simp only[N9,g i2 d]
 cases h
include ha hb in
theorem ut0{id:Nat}{sT xT:TypeId}{a c pat v:AV}{ro:RO}{σ':c8}{p:Nat}(h2:c.bnd fr=true)(h:wt0 T s.st id sT xT a c fr=some (ro,pat,v,σ',p))(he:j4 T Φ θ ro=some (pat.sub θ')) :
  E9 T (s.st.sub θ') id sT xT (a.sub θ') (c.sub θ')=some (v.sub θ',σ'.sub θ'):=by
 unfold wt0 at h;split at h
 ·rename_i elem _ _ _ _ t
  split at h
  ·rename_i o g
   split at h
   ·rename_i i z0
    split at h
    ·rename_i e w j u
     split at h
     ·rename_i y k q
      simp only[ab,bk]at k;obtain⟨rfl,rfl⟩:=k;cases h;simp only[j4,tb0,t]at he;split at he
      ·rename_i el _ _ _ _ x e1 e2
       cases e1;rw[g]at he;simp only[dO0,bA]at he;split at he
       ·rename_i es xs hex r
        cases hex;split at he
        ·rename_i hc
         simp only[bG,ai,p7]at he;have l:N9 (w8 (s.st.sub θ') (.ms i z0 0 0)) (c.sub θ')=some xs:=wE0 ha hb h2 q r fun j hj=>by
          simp only[w8];split
          ·split
           ·rw[c8.objs_set,Ae hj]
           rfl
          rfl
         have b:(s.st.sub θ').objs i=some (.row e o.size (rowsOf (θ' j))):=by rw[c8.sub_objs,u];rfl
         have m:∃ o0,w8 (s.st.sub θ') (.ms i z0 0 0)=(s.st.sub θ').set i o0/\o0=.row e o.size []\/w8 (s.st.sub θ') (.ms i z0 0 0)=s.st.sub θ'/\rowsOf (θ' j)=[]:=by
          simp only[w8,b];by_cases hl:0<(rowsOf (θ' j)).length
          ·rw[Af hl];exact⟨_,.inl ⟨rfl,by simp⟩⟩
          rw[Ae hl];exact⟨.row e o.size [],.inr ⟨rfl,bJ (by omega)⟩⟩
         have d:E9 T (s.st.sub θ') id sT xT (AV.sub θ' (.ms i z0 0 0)) (c.sub θ')=P9 T (w8 (s.st.sub θ') (.ms i z0 0 0)) id sT xT (.ms i z0 0 0) (c.sub θ'):=by
          rw[bn0];unfold E9;split
          ·rename_i e3 e4
           rw[e2]at e4;cases e4;simp[TI.isInt]at hc
          rfl
         rw[d];have f:T9 (w8 (s.st.sub θ') (.ms i z0 0 0)) e o.size (.ms i z0 0 0)=some (some i,[]):=by
          obtain⟨o0,⟨q1,rfl⟩ | ⟨q1,q2⟩⟩:=m
          ·rw[q1];simp[T9,c8.objs_set]
          rw[q1];simp[T9,b,q2]
         have n:(w8 (s.st.sub θ') (.ms i z0 0 0)).del i=(s.st.sub θ').del i:=by
          obtain⟨o0,⟨q1,rfl⟩ | ⟨q1,q2⟩⟩:=m
          ·rw[q1,c8.del_set]
          rw[q1]
         simp only[P9,t,e2,g,f,l];rw[Af hc];simp only[P8,c8.sub_set,c8.sub_del,j5.sub,<-he,rowsOf,n,aU,aG,bG]
        cases he
       cases he
      cases he
     cases h
    cases h
   cases h
  cases h
 cases h
include ha hb in
theorem ed0{id j:Nat}{e:TypeId}{z:Nat}(a:s.st.objs id=some (.xrow e z j)):(s.st.sub θ').objs id=some (.row e z (rowsOf (θ j)))/\j<fr:=by
 have hj:j<fr:=by have:=s.bnd_obj hb a;simpa[j5.bnd,aV]using this
 exact⟨by rw[c8.sub_objs,a,aj];simp only[j5.sub,ha j hj],hj⟩
include ha hb in
theorem fh0{m:Nat}{c:AV}(h:(s.st.objs m).bind gV0=some c):(s.st.sub θ').objs m=some (R1 (c.sub θ))/\(s.st.sub θ').objs m=(dw0 (c.sub θ)).objs 0:=by
 have key:(s.st.sub θ').objs m=some (R1 (c.sub θ)):=by
  cases b:s.st.objs m with
  | none=>rw[b]at h;cases h
  | some o=>
   rw[b]at h;simp only[dB]at h;have a:=s.bnd_obj hb b;rw[c8.sub_objs,b,aj];unfold gV0 at h;split at h
   ·cases h
    simp only[j5.bnd]at a;simp only[j5.sub,sub_agree ha _ a]
   ·cases h
    simp[j5.sub,AV.sub,dP0,R1,rowsOf,bp0,u7]
   cases h
 refine⟨key,?_⟩;rw[key];simp[dw0,c8.objs_set]
theorem rg0(r:Fit θ){id:Nat}{b:Builtin}{ts:Array TypeId}{args:List AV}{pat v:AV}{ro:RO}{σ':c8}{B:Nat}(h1:∀ a∈args,a.bnd fr=true)(h:rA0 T s.st id b ts.toList args fr=some (ro,pat,v,σ',B))
  (he:j4 T Φ θ ro=some (pat.sub θ')):C6 T (s.st.sub θ') id b ts (args.map (AV.sub θ'))=some (v.sub θ',σ'.sub θ'):=by
 have hst:s.st.sub θ'=s.st.sub θ:=c8.sub_agree ha hb;have g:args.map (AV.sub θ')=args.map (AV.sub θ):=bq fun a hm=>sub_agree ha a (h1 a hm);unfold rA0 at h;split at h
 ·rename_i t i d
  cases h;simp only[j4,p7]at he;rw[g];simp only[C6,d,ay,bA,p7];have h2:gb0 T (s.st.sub θ') t (θ i)=some (θ' fr):=by
   have hf:=r i;unfold gb0 at he ⊢;split at he
   ·rename_i ti p
    rcases hf.cases with ⟨k,n,e⟩ | ⟨b,e⟩ | ⟨x,e⟩ | ⟨es,e⟩ | ⟨cs,e⟩ | ⟨c,e⟩<;>rw[e]at he ⊢<;>(cases hu:ti.und<;>rw[hu]at he<;>first | exact he | (simp only at he ⊢;exact he))
   cases he
  rw[h2]
 ·rename_i t id' z i d
  split at h
  ·rename_i el _ _ _ _ p
   cases h;simp only[j4,p7]at he;rw[g];simp only[C6,d,ay,bA,P8];have h2:gb0 T (s.st.sub θ') t (.ms id' z 0 (rowsOf (θ i)).length)=some (θ' fr):=by
    have hf:=r i;simp only[gb0,p]at he ⊢;rcases hf.cases with ⟨k,n,e⟩ | ⟨b,e⟩ | ⟨x,e⟩ | ⟨es,e⟩ | ⟨cs,e⟩ | ⟨c,e⟩<;>rw[e]at he ⊢<;>simp[rowsOf]at he ⊢
    exact he
   rw[h2];simp
  cases h
 ·cases h
  simp only[j4,p7]at he;rw[g];generalize bP (AV.sub θ) _=l at *;cases hm:vy0 l with
  | none=>rw[hm]at he;cases he
  | some u=>rw[hm]at he;simp only[aj,ai]at he;simp[C6,hm,he]
 ·cases h
  simp only[j4,p7]at he;rw[g];generalize bP (AV.sub θ) _=l at *;cases hm:vq0 l with
  | none=>rw[hm]at he;cases he
  | some u=>rw[hm]at he;simp only[aj,ai]at he;simp[C6,hm,he]
 ·rename_i sT xT a c d
  simp only[C6,d,ay,bA];split at h
  ·rename_i C
   exact yA0 (T:=T) (Φ:=Φ) ha hb (h1 c (by simp)) C rfl h he
  split at h
  ·rename_i q I
   cases h;exact ut0 (T:=T) (Φ:=Φ) ha hb (h1 c (by simp)) I he
  exact wJ0 (T:=T) (Φ:=Φ) ha hb (h1 a (by simp)) (h1 c (by simp)) h he
 ·rename_i t id' z o l d
  split at h
  ·rename_i el _ _ _ _ p
   cases h;have f:(AV.xs id' z o v).bnd fr=true:=h1 _ (by simp);simp only[AV.bnd,ab]at f;simp only[j4]at he;simp only[C6,d,ay,bA,qi0,sub_agree ha v f.2,gb0,p];split at he
   ·rename_i n hl
    split at he
    ·rename_i E
     have E:=Aj E;rw[hl];simp only[Q5];have e:goInt ((n.toNat:Nat):Int)=.int .i64 n:=by
      have:((n.toNat:Nat):Int)=n:=by omega
      rw[this];rfl
     rw[e]
    cases he
   cases he
  cases h
 ·rename_i t id' z o l d
  split at h
  ·rename_i e Q j J
   split at h
   ·rename_i hz
    rw[bk]at hz;subst hz;cases h;have f:(AV.xs id' z o l).bnd fr=true:=h1 _ (by simp);simp only[AV.bnd,ab]at f;obtain⟨K,hj⟩:=ed0 (θ:=θ) ha hb J;simp only[j4,p7]at he;simp only[C6,d,ay,bA,qi0,sub_agree ha l f.2,sub_agree ha o f.1];generalize Q5 (o.sub θ)=R at *;generalize Q5 (l.sub θ)=S at *;have L:(ah0 e z (θ j)).objs 0=some (.row e z (rowsOf (θ j))):=by simp[ah0,c8.objs_set]
    unfold mX0 at he ⊢;split at he
    ·rename_i elem _ _ _ _ M D G H p e1
     cases e1;simp only[L]at he;simp only[p,K];split at he
     ·rename_i U e2 z2 N O e3
      cases e3;split at he
      ·rename_i w
       rw[Af w];simp only[dB,sp0,c8.objs_set,Al,ai]at he;simp only[c8.sub_set,j5.sub,<-he,rowsOf,F9]
      cases he
     cases he
    cases he
   cases h
  cases h
 ·rename_i t m d
  split at h
  ·rename_i c hc
   cases h;simp only[j4,p7]at he;obtain⟨_,P⟩:=fh0 (θ:=θ) ha hb hc;have h2:gb0 T (s.st.sub θ') t (.mm m)=some (θ' fr):=by
    unfold gb0 at he ⊢;split at he
    ·rename_i ti p
     cases hu:ti.und<;>rw[hu]at he<;>simp only[P]at he ⊢<;>first | exact he | (simp only at he ⊢;exact he) | cases he
    cases he
   simp only[C6,d,ay,bA,dM0,h2,p7]
  cases h
 cases h
include ha hb in
theorem hR0{t:TypeId}{m k x pat v:AV}{ro:RO}{σ':c8}{a:Nat}(h1:k.bnd fr=true)(h2:x.bnd fr=true)(h:gy0 s.st t m k x fr=some (ro,pat,v,σ',a))(he:j4 T Φ θ ro=some (pat.sub θ')) :
  B9 T (s.st.sub θ') t (m.sub θ') (k.sub θ') (x.sub θ')=some (σ'.sub θ')/\v=.sc undef:=by
 unfold gy0 at h;split at h
 ·rename_i id
  split at h
  ·rename_i c hc
   cases h;obtain⟨d,_⟩:=fh0 (θ:=θ) ha hb hc;simp only[j4,p7]at he;split at he
   ·rename_i e hu
    split at he
    ·rename_i b l hk
     simp only[ai]at he;refine⟨?_,rfl⟩;rw[sub_agree ha k h1,sub_agree ha x h2,dM0,iM0 d hk hu,c8.sub_set];simp only[j5.sub,p7,<-he]
    cases he
   cases he
  cases h
 cases h
omit ha hb in
theorem vT0{T:Tab}{t el:TypeId}{ti a:TI}{id z len:Nat}{b:AV}(d:T t=some ti)(hu:ti.und=.slice el)(c:T el=some a)(hz:z=a.size){q:AV}(h:A6 T t (.ms 0 a.size 0 len) b=some q):A6 T t (.ms id z 0 len) b=some (.mp id (Q5 b) 0):=by
 obtain⟨und,size,zero,bytes,flat⟩:=ti;simp only at hu;subst hu;subst hz;unfold A6 at h ⊢;rw[d]at h ⊢;split at h
 ·rename_i e n e1
  cases e1;simp only[c]at h ⊢;split at h
  ·rename_i hc
   rw[Af hc];simp[Q5]
  cases h
 ·rename_i e1;cases e1
 cases h
include ha in
theorem kW0{a:AV}(b:a.bnd fr=true){id off:Nat}{i:AV}(h:ku0 a=some (id,i,off)):a.sub θ'=.mp id (Q5 (i.sub θ)) off:=by
 unfold ku0 at h;split at h
 ·rename_i id k off
  cases h;simp only[AV.bnd,aV]at b;simp only[AV.sub,ha k b]
 ·cases h
  simp[AV.sub,Q5]
 cases h
theorem nO0(W:Fit θ){id:Nat}{op:Op}{pat v:AV}{ro:RO}{σ':c8}{fr':Nat}(h:sO0 T s.eval s.st id op fr=some (ro,pat,v,σ',fr'))
  (he:j4 T Φ θ ro=some (pat.sub θ')):aop T (s.sub θ').eval (s.st.sub θ') id op=some (v.sub θ',σ'.sub θ'):=by
 have d:∀ x,(s.sub θ').eval x=(s.eval x).sub θ:=fun x=>by rw[AS.sub_eval,pQ0 ha hb x]
 unfold sO0 at h;split at h
 ·cases h
  simp only[j4,p7]at he;simp only[aop,d,he,p7]
 ·cases h
  simp only[j4,p7]at he;simp only[aop,d,he,p7]
 ·cases h
  simp only[j4,p7]at he;simp only[aop,d,he,p7]
 ·cases h
  simp only[j4,p7]at he;simp only[aop,d];split at he
  ·rename_i t r
   simp only[ai]at he;rw[r];simp[he]
  cases he
 ·split at h
  ·rename_i id k off f
   cases h;simp only[aop,AS.sub_eval,f,AV.sub]
  ·rename_i i f
   cases h;have e1:=d;simp only[j4,p7]at he;split at he
   ·rename_i cs E
    simp only[aop,d,f,p7,E];have u:=s.bnd_eval hb ‹Operand›;rw[f]at u;simp only[AV.bnd,aV]at u;rw[ha i u,E]
   cases he
  cases h
 ·split at h
  ·rename_i id k off fields _ _ _ _ f r
   split at h
   ·rename_i fd hfd
    split at h
    ·rename_i fi hfi
     split at h
     ·cases h
     rename_i hz;cases h;have hz':¬ fi.size=0:=fun e=>by rw[e]at hz;simp at hz
     simp only[aop,AS.sub_eval,f,AV.sub,N5,r,hfd,hfi];rw[Ae hz']
    cases h
   cases h
  ·rename_i i ti f r
   split at h
   ·rename_i v1 R
    cases h;simp only[j4,p7]at he;split at he
    ·rename_i cs E
     split at he
     ·simp only[ai]at he
      simp only[aop,d,f,p7,E,he,dN0 (θ:=θ') R]
     cases he
    cases he
   cases h
  cases h
 ·rename_i t x
  split at h
  ·rename_i g hg
   split at h
   ·rename_i p G N
    cases h;simp only[j4]at he;have f:=iy0 hg;simp only[aop,d,f,F9,aY0,cF0,he]
   cases h
  split at h
  ·rename_i id i off hp
   split at h
   ·rename_i e z j p G S N
    cases h;simp only[j4,p7]at he;obtain⟨L,_⟩:=ed0 (θ:=θ) ha hb S;have O:=kW0 (θ:=θ) ha hb (s.bnd_eval hb x) hp;have X:W8 T (s.st.sub θ') t (.mp id (Q5 (i.sub θ)) off)=some (pat.sub θ'):=by rw[<- he];simp[W8,L,ah0,c8.objs_set]
    simp only[aop,AS.sub_eval,O,aY0,cF0,X]
   ·rename_i e z c cols k H v0 p G S N
    have O:=kW0 (θ:=θ) ha hb (s.bnd_eval hb x) hp;have C:=s.bnd_obj hb S;have L:(s.st.sub θ').objs id=some (j5.sub θ (.frow e z c cols k H v0)):=by rw[c8.sub_objs,S,aj,j5.sub_agree ha _ C]
    simp only[j5.sub]at L;split at h
    ·rename_i ti r
     split at h
     ·cases h
     rename_i P;split at h
     ·rename_i hoff
      have hoff:=af hoff;subst hoff;split at h
      ·rename_i v1 hk
       obtain⟨m,rfl,rfl⟩:=nC0 hk;cases h;simp only[j4]at he;split at he
       ·rename_i row D
        split at he
        ·rename_i I
         rw[aV]at I;simp only[j5.bnd,ab]at C;have hv1:v.sub θ'=v.sub θ:=sub_agree ha _ C.2.2;have X:W8 T (s.st.sub θ') t (.mp id (Q5 ((AV.sy m).sub θ)) off)=some (v.sub θ):=by simp only[W8,L,aF0,aj,Al,I0,D,r,E6,P,au,Ah];simp[H3,I]
         simp only[aop,AS.sub_eval,O,aY0,cF0,X,hv1]
        cases he
       cases he
      cases h
     rename_i hoff;have hoff:off≠H:=fun e=>by rw[e]at hoff;simp at hoff
     split at h
     ·rename_i U
      cases h;simp only[j4]at he;have X:W8 T (s.st.sub θ') t (.mp id (Q5 (i.sub θ)) off)=some (pat.sub θ'):=by
       rw[<- he];have e9:(ah0 e z (c.sub θ)).objs 0=some (.row e z (rowsOf (c.sub θ))):=by simp[ah0,c8.objs_set]
       simp only[W8,L,e9,aF0,I0,r,E6,P,au,Ah];cases D:(rowsOf (c.sub θ))[Q5 (i.sub θ)]? with
       | none=>cases v0<;>simp
       | some row=>
        have B:(an0 cols (0+Q5 (i.sub θ)) 0 row)[off]?=row[off]?:=by
         rw[N7];cases row[off]? with
         | none=>rfl
         | some x=>simp[mG0 U]
        cases v0 with
        | none=>simp only[bO,aj];exact B
        | some v0=>
         simp only[aj];by_cases e:Q5 (i.sub θ)=Q5 (k.sub θ)
         ·simp only[e,Al]at B ⊢
          rw[gA (by omega)];exact B
         simp only[e,Ah];exact B
      simp only[aop,AS.sub_eval,O,aY0,cF0,X]
     cases h
    cases h
   cases h
  split at h
  ·rename_i i ti f r
   split at h
   ·rename_i v1 R
    cases h;simp only[j4,p7]at he;split at he
    ·rename_i cs E
     split at he
     ·simp only[ai]at he
      have h3:=ia0 (θ:=θ') R;rw[<- he]at h3;have h4:W8 T (s.st.sub θ') t (.rp cs)=some (v.sub θ'):=by simp only[W8]at h3 ⊢;exact h3
      simp only[aop,d,f,p7,E,aY0,cF0,h4]
     cases he
    cases he
   cases h
  cases h
 ·rename_i t a x
  split at h
  ·rename_i id' i off ti m z' j hp r f
   split at h
   ·rename_i e z c cols k H v1 S
    split at h
    ·rename_i hc
     simp only[ab,bk]at hc;obtain⟨⟨hsz,rfl⟩,hk⟩:=hc;obtain⟨M,rfl,rfl⟩:=nC0 hk;cases h;have O:=kW0 (θ:=θ) ha hb (s.bnd_eval hb a) hp;have C:=s.bnd_obj hb S;have L:(s.st.sub θ').objs id'=some (j5.sub θ (.frow e z c cols (.sy M) off (some v1))):=by rw[c8.sub_objs,S,aj,j5.sub_agree ha _ C]
     simp only[j5.sub]at L;simp only[j5.bnd,ab]at C;simp only[j4]at he;split at he
     ·rename_i row D
      split at he
      ·rename_i I
       rw[aV]at I;have hn1:Q5 (AV.sub θ' (.sy M))=Q5 (AV.sub θ (.sy M)):=by rw[sub_agree ha _ C.2.1]
       have hxv:(s.eval x).sub θ=AV.sub θ' (.ss m z' j):=by rw[<- f];exact(sub_agree ha _ (s.bnd_eval hb x)).symm
       have N6:(V0 (J2 cols 0 (rowsOf (c.sub θ))) (Q5 ((AV.sy M).sub θ)) off (some (v1.sub θ)))[Q5 ((AV.sy M).sub θ)]?=some ((an0 cols (Q5 ((AV.sy M).sub θ)) 0 row).set off (v1.sub θ)):=by rw[aF0];simp only[Al,I0,D,aj,aG]
       have hst:X2 T (s.st.sub θ') t (.mp id' (Q5 ((AV.sy M).sub θ)) off) (AV.sub θ' (.ss m z' j))=some ((s.st.sub θ').set id' (j5.sub θ' (.frow e z c cols (.sy M) off (some (.ss m z' j))))):=by
        simp only[X2,P8,AV.cells,r,L,aj,N6,hsz,eQ,List.length_set,H3];rw[Af ⟨trivial,by omega,by simp[AV.one]⟩];have Y:off<(an0 cols (Q5 (AV.sub θ (.sy M))) 0 row).length:=by rw[H3];exact I
        rw[pD0 Y];simp only[j5.sub,aj,P8,hn1,sub_agree ha _ C.1];simp only[V0,I0,D,aj,aG,List.set_set]
       simp only[aop,AS.sub_eval,O];rw[f,hst];simp only[F9,c8.sub_set]
      cases he
     cases he
    cases h
   cases h
  cases h
 ·rename_i t x i
  split at h
  ·rename_i el _ _ _ _ r
   split at h
   ·rename_i ei w
    split at h
    ·rename_i id z j f
     have u:=s.bnd_eval hb x;rw[f]at u;simp only[AV.bnd,aV]at u;have V:=s.bnd_eval hb i;split at h
     ·rename_i hz
      have hz:=af hz;split at h
      ·rename_i k hi
       cases h;rw[hi]at V;simp only[AV.bnd,aV]at V;simp only[j4,r,w,p7]at he;split at he
       ·rename_i q Q
        have:=vT0 (id:=id) (z:=z) r rfl w hz Q;simp only[aop,AS.sub_eval,f,hi,P8,p7,AV.sub,ha j u,ha k V,this]
       cases he
      ·rename_i kd n hi
       cases h;simp only[j4,r,w,p7,F9]at he;split at he
       ·rename_i q Q
        have:=vT0 (id:=id) (z:=z) r rfl w hz Q;simp only[aop,AS.sub_eval,f,hi,P8,F9,AV.sub,ha j u,this,Q5]
       cases he
      cases h
     cases h
    ·rename_i id z o l f
     have u:=s.bnd_eval hb x;rw[f]at u;simp only[AV.bnd,ab]at u;split at h
     ·rename_i hz
      have hz:=af hz;cases h;simp only[j4]at he;split at he
      ·rename_i d1 L d2 Q
       have e9:oh0 T t=ei.size:=by simp[oh0,r,w]
       rw[e9]at Q;simp only[ai,p7]at he;simp only[aop,d,f,qi0];rw[ixx_ok (id:=id) (z:=z) r rfl w hz Q];simp only[AV.sub,<-he,Q5,Int.toNat_natCast]
      cases he
     cases h
    cases h;simp only[j4]at he;simp only[aop,d,he]
   cases h
  cases h
 ·split at h
  ·split at h
   ·cases h
    simp only[j4]at he;simp only[aop,d,he]
   cases h
  cases h;simp only[j4,p7]at he;simp only[aop,d,he,p7]
 ·rename_i t x lo hi
  have e:(s.sub θ').eval=fun x=>(s.eval x).sub θ:=funext d;split at h
  ·rename_i elem _ _ _ _ id' z j kd r f J K
   split at h
   ·rename_i ei w
    split at h
    ·rename_i hz
     cases h;rw[bk]at hz;subst hz;have Z:lo=none:=by cases lo with | none=>rfl | some _=>simp at J
     subst Z;cases hi with
     | none=>simp at K
     | some hh=>simp only[aj,ai]at K;simp only[aop,e,f,P8,bO,aj,K,F9,R6,r,w,bound];simp
    cases h
   cases h
  ·rename_i elem _ _ _ _ id' z j lv r f J K
   cases h;have hi':hi=none:=by cases hi with | none=>rfl | some _=>simp at K
   subst hi';cases lo with
   | none=>simp at J
   | some ll=>
    simp only[aj,ai]at J;simp only[j4,p7]at he;split at he
    ·rename_i d1 d2 o l Q
     simp only[ai,hM0,ay,bA,p7,AV.tup.injEq,b_,and_true]at he;simp only[aop,e,f,P8,bO,aj,J,AV.sub,<-he.1,<-he.2,Q5];rw[oo0 (id:=id') Q];simp
    cases he
  ·cases h
  cases h;simp only[j4,p7,Option.map_map]at he;simp only[aop,e,bO];simp only[cn]at he;rw[he];simp
 ·rename_i t n c
  split at h
  ·rename_i elem _ _ _ _ heq r
   split at h
   ·rename_i ei w
    cases h;have heq:=kV0 (θ:=θ) heq;simp only[j4,p7]at he;simp only[aop,d];rw[<- heq];generalize (s.eval n).sub θ=nv at *;unfold mK0 at he ⊢;split at he
    ·rename_i ht1 e2
     rw[r]at ht1;cases ht1;simp only[w]at he ⊢;split at he
     ·rename_i hcnd
      rw[Af hcnd];simp only[dB,sp0,c8.objs_set,Al,ai]at he;simp only[AV.sub,<-he,rowsOf,gp,c8.sub_set,j5.sub]
     cases he
    cases he
   cases h
  cases h
 ·rename_i b args ts
  simp only[aop];have hm:args.toList.map (s.sub θ').eval=(args.toList.map s.eval).map (AV.sub θ'):=by rw[cQ];apply bq;intro x _;exact AS.sub_eval θ' s x
  rw[hm];refine rg0 (T:=T) (Φ:=Φ) ha hb W (fun a hmem=>?_) h he;obtain⟨x,_,rfl⟩:=aY.1 hmem;exact s.bnd_eval hb x
 ·rename_i t x i ok
  split at h
  ·rename_i kt et _ _ _ _ m r f
   split at h
   ·rename_i c hc
    obtain⟨_,O⟩:=fh0 (θ:=θ) ha hb hc;have hl:∀ b,E5 T (s.st.sub θ') t (.mm m) ((s.eval i).sub θ) b=E5 T (dw0 (c.sub θ)) t (.mm 0) ((s.eval i).sub θ) b:=fun b=>by simp only[E5,O]
    split at h
    ·rename_i p G hp
     split at h
     ·cases h
      simp only[j4]at he;simp only[aop,d,f,dM0,hl,he]
     cases h;simp only[j4]at he;simp only[aop,d,f,dM0,hl,he]
    cases h
   cases h
  ·rename_i kt et _ _ _ _ m r f
   have hl:∀ b,E5 T (s.st.sub θ') t (θ m) ((s.eval i).sub θ) b=E5 T c8.none t (θ m) ((s.eval i).sub θ) b:=fun b=>fq0 _ _ (fun id e=>by have:=W m;rw[e]at this;exact this);have hb2:θ' m=θ m:=by have:=s.bnd_eval hb x;rw[f]at this;simp only[AV.bnd,aV]at this;exact ha m this
   split at h
   ·rename_i p G hp
    split at h
    ·cases h
     simp only[j4,p7]at he;simp only[aop,d,f,p7,hl,he]
    cases h;simp only[j4,p7]at he;simp only[aop,d,f,p7,hl,he]
   cases h
  ·rename_i kt et _ _ _ _ c r f
   have hl:∀ b,E5 T (s.st.sub θ') t (.rm (c.sub θ)) ((s.eval i).sub θ) b=E5 T c8.none t (.rm (c.sub θ)) ((s.eval i).sub θ) b:=fun b=>fq0 _ _ (fun id e=>by cases e);split at h
   ·rename_i p G hp
    split at h
    ·cases h
     simp only[j4,fL0]at he;simp only[aop,d,f,fL0,hl,he]
    cases h;simp only[j4,fL0]at he;simp only[aop,d,f,fL0,hl,he]
   cases h
  cases h
 ·rename_i t m k x
  have:=hR0 (T:=T) (Φ:=Φ) ha hb (s.bnd_eval hb _) (s.bnd_eval hb _) h he;simp only[aop,AS.sub_eval];rw[this.1,this.2];simp
 ·rename_i t m k x
  have:=hR0 (T:=T) (Φ:=Φ) ha hb (s.bnd_eval hb _) (s.bnd_eval hb _) h he;simp only[aop,AS.sub_eval];rw[this.1,this.2];simp
 cases h
end
mutual
theorem bR0{θ:Nat->AV}(b:Fit θ):∀ v:AV,v.contP=true->(v.sub θ).pur=true
 | .sc v,_=>by simp[AV.pur]
 | .sy i,_=>by rw[p7];exact(b i).pur
 | .rs es,h=>by simp only[AV.contP]at h;simp only[AV.sub,AV.pur];exact gW0 b es h
 | .agg cs,h=>by simp only[AV.contP]at h;simp only[AV.sub,AV.pur];exact R9 b cs h
 | .tup cs,h=>by simp only[AV.contP]at h;simp only[AV.sub,AV.pur];exact R9 b cs h
 | .any,h=>by simp[AV.contP]at h
 | .rp cs,h=>by simp only[AV.contP]at h;simp only[AV.sub,AV.pur];exact R9 b cs h
 | .ms ..,h=>by simp[AV.contP]at h
 | .mp ..,h=>by simp[AV.contP]at h
 | .mm _,h=>by simp[AV.contP]at h
 | .it _,h=>by simp[AV.contP]at h
 | .rm c,h=>by simp only[AV.contP]at h;simp only[AV.sub,AV.pur];exact bR0 b c h
 | .fn _ a c,h=>by simp only[AV.contP,ab]at h;simp only[AV.sub,AV.pur,ab];exact⟨R9 b a h.1,R9 b c h.2⟩
 | .ss ..,h=>by simp[AV.contP]at h
theorem R9{θ:Nat->AV}(a:Fit θ):∀ l:List AV,dz0 l=true->kh0 (af0 θ l)=true
 | [],_=>by simp[af0,kh0]
 | c::cs,h=>by simp only[dz0,ab]at h;simp only[af0,kh0,ab];exact⟨bR0 a c h.1,R9 a cs h.2⟩
theorem gW0{θ:Nat->AV}(a:Fit θ):∀ l:List (List AV),qK0 l=true->kO0 (dP0 θ l)=true
 | [],_=>by simp[dP0,kO0]
 | c::cs,h=>by simp only[qK0,ab]at h;simp only[dP0,kO0,ab];exact⟨R9 a c h.1,gW0 a cs h.2⟩
end
theorem eT0{G:c9}{σ:c8}{w:World}(h:Rel G σ w)(pl:Nat->Option Pl){id z off len:Nat}{u:Value}(t:Rep G (.ms id z off len) u){elem:TypeId}{size:Nat}{es:List (List AV)}(q:σ.objs id=some (.row elem size es))
  (hle:off+len<=es.length) {l:List (List AV)} (k:l.length=len)
  (d:∀ i (hi:i<l.length) (b:off+i<es.length),l[i].length=es[off+i].length/\∀ j (hj:j<l[i].length) (v:j<es[off+i].length) u,Rep G es[off+i][j] u->Rep (G.frozen σ w pl) l[i][j] u) :
  Rep (G.frozen σ w pl) (.rs l) u:=by
 cases t with
 | msNil _ _ p hp hv=>have:l=[]:=bJ k;subst this;exact .rsNil
 | ms _ _ _ _ p hp hv hz a c x hoff B hsp=>
  obtain⟨C,D,cells,E,m,r,s,e⟩:=h.real q hp hv;have g:(G.frozen σ w pl).imm p.block=some (.cells cells elem (0,0)):=by simp only[c9.frozen];rw[Af ⟨id,_,p,q,hp,hv,rfl⟩];exact E
  rw[<- k];by_cases n:c=0
  ·have:l=[]:=bJ (by omega)
   subst this;exact .rs [] a c 0 (fun _ _=>undef) (fun _=>hsp) (by simp) (fun i hi=>by simp at hi) (fun i j hi=>by simp at hi) (fun i j hi=>by simp at hi)
  rw[x n];refine .rs l _ c size (fun i j=>cells.getD ((off+i)*size+j) undef) (fun _=>rfl) (by omega) (fun i hi=>?_) (fun i j hi hj=>?_) (fun i j hi hj=>?_)
  ·have b:off+i<es.length:=by omega
   rw[(d i hi b).1];exact(e _ b).1
  ·have b:off+i<es.length:=by omega
   have f:(off+i)*size+j<cells.size:=by rw[r];have:(off+i+1)*size<=p.cap*size:=aZ _ (by omega);rw[bK]at this;omega
   simp only[c9.cell,g,m];have e3:off*size+i*size+j=(off+i)*size+j:=by rw[bK]
   rw[e3];simp[f]
  have b:off+i<es.length:=by omega
  obtain⟨g1,g2⟩:=d i hi b;have H:=(e _ b).1;have f:(off+i)*size+j<cells.size:=by rw[r];have:(off+i+1)*size<=p.cap*size:=aZ _ (by omega);rw[bK]at this;omega
  have:=(e _ b).2 j (by omega) f;have o:cells.getD ((off+i)*size+j) undef=cells[(off+i)*size+j]:=by simp[f]
  rw[o];exact g2 j hj (by omega) _ this
theorem du0{θ:Nat->AV}(E:Fit θ){σ:c8}{G:c9}{w:World}(h:Rel G (σ.sub θ) w)(pl:Nat->Option Pl)(Y:∀ id e z j,σ.objs id=some (.xrow e z j)->∃ es,θ j=.rs es)(Z:∀ id j,σ.objs id=some (.xmap (.sy j))->∃ es,θ j=.rs es) :
  ∀ (k:Nat) (v c:AV) (u:Value),ak0 σ k v=some c->Rep G (v.sub θ) u->Rep (G.frozen (σ.sub θ) w pl) (c.sub θ) u
 | 0,v,c,u,d,_=>by simp[ak0]at d
 | k+1,v,c,u,d,n=>by
  have L:=du0 E h pl Y Z k;unfold ak0 at d;split at d
  ·rename_i hp
   cases d;exact Q1 (fun b o H=>H6 h H) n (bR0 E _ hp)
  split at d
  ·rename_i cs _
   split at d
   ·rename_i l hl
    cases d;obtain⟨e1,e2⟩:=av0 hl;simp only[di0]at n ⊢;cases n with
    | agg _ vs h1 h2=>
     refine .agg _ vs (by rw[h1];simp[e1]) (fun i hi m=>?_);have B:i<cs.length:=by simp at hi;omega
     have:=L _ _ vs[i] (e2 i B (by simpa using hi)) (by have:=h2 i (by simpa using B) m;simpa using this);simpa using this
   cases d
  ·rename_i cs _
   split at d
   ·rename_i l hl
    cases d;obtain⟨e1,e2⟩:=av0 hl;simp only[hM0]at n ⊢;cases n with
    | tup _ vs h1 h2=>
     refine .tup _ vs (by rw[h1];simp[e1]) (fun i hi m=>?_);have B:i<cs.length:=by simp at hi;omega
     have:=L _ _ vs[i] (e2 i B (by simpa using hi)) (by have:=h2 i (by simpa using B) m;simpa using this);simpa using this
   cases d
  ·rename_i id z off len _
   split at d
   ·rename_i elem size es C
    split at d
    ·rename_i hle
     split at d
     ·rename_i l hl
      cases d;obtain⟨e1,e2⟩:=oC0 hl;rw[bn0]at n;rw[dO0];refine eT0 h pl n (elem:=elem) (size:=size) (es:=es.map (bP (AV.sub θ))) (by rw[c8.sub_objs,C];rfl) (by simpa using hle) (by simp[e1];omega) (fun i hi m=>?_);have x:i<l.length:=by simpa using hi
      have hi2:off+i<es.length:=by simpa using m
      have hm:=e2 i (by rw[<- e1];exact x) x;simp only[List.getElem_take,List.getElem_drop]at hm;obtain⟨f1,f2⟩:=av0 hm;refine⟨by simp[f1],fun j hj hj' u hu=>?_⟩;have I:j<l[i].length:=by simpa using hj
      have:=L _ _ u (f2 j (by omega) I) (by simpa using hu);simpa using this
     cases d
    cases d
   cases d
  ·rename_i id z i _
   split at d
   ·rename_i elem size j C
    split at d
    ·rename_i S
     cases d;subst S;obtain⟨es,hes⟩:=Y id elem size j C;rw[P8,hes]at n;rw[p7,hes];refine eT0 h pl n (elem:=elem) (size:=size) (es:=es) (by rw[c8.sub_objs,C];simp[j5.sub,hes,rowsOf]) (by simp[rowsOf]) (by simp[rowsOf]) (fun i hi m=>?_);have g:=(E j).pur;rw[hes]at g;simp only[aG];exact⟨trivial,fun a ha M u hu=>Q1 (fun b o H=>H6 h H) hu (X1 g i hi a ha)⟩
    cases d
   cases d
  ·rename_i id _
   split at d
   ·rename_i elem size cs C
    split at d
    ·rename_i l hl
     cases d;obtain⟨e1,e2⟩:=av0 hl;rw[kX0]at n;rw[oc0];cases n with
     | mp _ _ _ p hp=>
     have q:(σ.sub θ).objs id=some (.row elem size [cs.map (AV.sub θ)]):=by rw[c8.sub_objs,C];rfl
     have hv:p.virt=false:=by
      rcases h.lies q hp with ⟨_,_,_,e3⟩ | ⟨e3,_⟩
      ·cases e3
      exact e3
     obtain⟨U,V,cells,H,hps,hn,N,t⟩:=h.real q hp hv;have s:(G.frozen (σ.sub θ) w pl).imm p.block=some (.cells cells elem (0,0)):=by simp only[c9.frozen];rw[Af ⟨id,_,p,q,hp,hv,rfl⟩];exact H
     obtain⟨r1,r2⟩:=t 0 (by simp);have hlen:cs.length=size:=by simpa using r1
     have O:size<=cells.size:=by rw[hn];have:1*size<=p.cap*size:=aZ _ (by simpa using N);omega
     refine .rp _ _ (fun j=>cells.getD j undef) rfl (fun j hj=>?_) (fun j hj=>?_)
     ·have I:j<l.length:=by simpa using hj
      have J:j<cells.size:=by omega
      simp only[c9.cell,s];have e3:0*p.size+0+j=j:=by omega
      rw[e3];simp[J]
     have I:j<l.length:=by simpa using hj
     have J:j<cells.size:=by omega
     have P:j<cs.length:=by omega
     have:=r2 j (by simpa using P) (by omega);have W:cells.getD j undef=cells[j]:=by simp[J]
     rw[W];have h5:Rep G ((cs[j]).sub θ) cells[j]:=by
      have e4:cells[0*size+j]'(by omega)=cells[j]:=by congr 1;omega
      rw[<- e4];simpa using this
     have:=L _ _ _ (e2 j P I) h5;simpa using this
    cases d
   cases d
  ·rename_i id _
   have fin:∀ rows:List (List AV),(σ.sub θ).objs id=some (R1 (.rs rows))->(AV.rs rows).pur=true->Rep (G.frozen (σ.sub θ) w pl) (.rm (.rs rows)) u:=fun rows q g=>by
    rw[dM0]at n;cases n with
    | mm _ p hp=>
    have hv:p.virt=false:=by
     rcases h.lies q hp with ⟨_,_,_,e3⟩ | ⟨e3,_⟩
     ·simp[R1]at e3
     exact e3
    obtain⟨U,V,ents,H,O,K⟩:=h.real q hp hv;have s:(G.frozen (σ.sub θ) w pl).imm p.block=some (.map ents rows.length):=by simp only[c9.frozen];rw[Af ⟨id,_,p,q,hp,hv,rfl⟩];exact H
    have hl:ents.toList.length=rows.length:=by have:ents.size=(u7 0 rows).length:=O;rw[F8]at this;simpa using this
    have D:∀ i (h1:i<rows.length) (h2:i<ents.toList.length),ents.toList[i].key=B4 (bp0 rows) (D4 i rows[i]).1/\Rep G (D4 i rows[i]).2.1 ents.toList[i].val/\ents.toList[i].born=i:=fun i h1 h2=>by
     have R:i<(u7 0 rows).length:=by rw[F8];exact h1
     have Q:=K i R (by simpa using h2);simp only[rowsOf]at Q;rw[aa0 _ _ _ R h1,aG]at Q;simpa[hq0]using Q
    refine .rm rows p.block ents.toList s hl (fun i h1 h2=>⟨(D i h1 h2).1,(D i h1 h2).2.2⟩) (fun i h1 h2=>?_);refine Q1 (fun b o H=>H6 h H) (D i h1 h2).2.1 ?_;have t:=X1 g i h1;generalize rows[i]=r at t;unfold D4;split
    ·exact t 1 (by simp)
    simp[AV.pur]
   split at d
   ·rename_i j C
    cases d;obtain⟨es,hes⟩:=Z id j C;rw[fL0,p7,hes];have g:=(E j).pur;rw[hes]at g;exact fin es (by rw[c8.sub_objs,C];simp[j5.sub,hes]) g
   ·rename_i C
    cases d;rw[fL0,dO0];exact fin [] (by rw[c8.sub_objs,C];simp[j5.sub,R1,rowsOf,u7,bp0]) (by simp[AV.pur,kO0])
   cases d
  ·rename_i f a c0 _
   split at d
   ·rename_i a' c' M X
    cases d;obtain⟨e1,e2⟩:=av0 M;obtain⟨g1,g2⟩:=av0 X;rw[rI0]at n ⊢;cases n with
    | fn _ _ _ fv cv h1 h2 R Q=>
     refine .fn f _ _ fv cv (by simp at h1 ⊢;omega) (by simp at h2 ⊢;omega) (fun i hi m=>?_) (fun i hi m=>?_)
     ·have x:i<a'.length:=by simpa using hi
      have:=L _ _ fv[i] (e2 i (by omega) x) (by have:=R i (by simp;omega) m;simpa using this);simpa using this
     have x:i<c'.length:=by simpa using hi
     have:=L _ _ cv[i] (g2 i (by omega) x) (by have:=Q i (by simp;omega) m;simpa using this);simpa using this
   cases d
  cases d
end Go.Ab
namespace Go.Ab
open Go
variable [B5]
theorem rF0{θ:Nat->AV}(a:Fit θ){v:AV}(h:fitB v=true):am0 (v.sub θ):=by
 unfold fitB at h;split at h
 ·simp[am0]
 ·simp[am0]
 ·simp[am0]
 ·rw[p7];exact a _
 ·rename_i es
  simp only[AV.sub,am0,AV.pur];exact gW0 a es h
 ·rename_i cs
  simp only[AV.sub,am0,AV.pur];exact R9 a cs h
 ·rename_i c
  simp only[AV.sub,am0,AV.pur];exact bR0 a c h
 cases h
theorem RVr.map{ι:gq0}{θ:Nat->AV}{a b:List (List AV)}(h:RVr ι (dP0 θ a) (dP0 θ b)):RVr ι (a.map (bP (AV.sub θ))) (b.map (bP (AV.sub θ))):=by rw[<- bo0,<-bo0];exact h
theorem eb0{ι:gq0}{c:AV}(hf:am0 c):go0 ι (R1 c) (R1 c):=by
 refine⟨rfl,rfl,rfl,fun i hi f=>⟨rfl,?_,rfl⟩⟩;intro G u g;have a:i<(rowsOf c).length:=by rw[F8]at hi;exact hi
 refine Q1 (G:=G) (G':=G.ren ι) (fun _ _ h=>h) g ?_;rw[aa0 _ _ _ hi a];rcases hf.cases with ⟨k,n,e⟩ | ⟨j,e⟩ | ⟨x,e⟩ | ⟨es,e⟩ | ⟨cs,e⟩ | ⟨c2,e⟩
 rotate_right
 ·simp[e,rowsOf]at a
 rotate_right
 ·simp[e,rowsOf]at a
 ·simp[e,rowsOf]at a
 ·simp[e,rowsOf]at a
 ·simp[e,rowsOf]at a
 subst e;have hp:=hf.pur;have d:i<es.length:=a;have b:=X1 hp i d;show (D4 (0+i) es[i]).2.1.pur=true;generalize es[i]=r at b;unfold D4;split
 ·rename_i k v
  exact b 1 (by simp)
 simp[AV.pur]
theorem og0:∀ {a b:List (Nat×TypeId×Nat)},pe0 a b=true->a=b
 | [],[],_=>rfl
 | [],_::_,h=>by simp[pe0]at h
 | _::_,[],h=>by simp[pe0]at h
 | (x,y,z)::az,(e,f,g)::bs,h=>by simp only[pe0,ab,bk]at h;obtain⟨⟨⟨h1,h2⟩,c⟩,d⟩:=h;rw[h1,h2,c,og0 d]
theorem ub0{θ:Nat->AV}(f:Fit θ){lo:Bool}{ι:gq0}(I:lo=true->∀ i,i<R2->ι i=some (some i)){o o':j5}(h:bc0 lo ι o o'=true):go0 ι (o.sub θ) (o'.sub θ):=by
 cases o with
 | row e z es=>
  cases o' with
  | row J K r =>simp only[bc0,ab]at h;have h2:=(mR0 f es r h.2).map;exact⟨af h.1.1,af h.1.2,jf h2.1,h2.2⟩
  | xrow J K S =>
   cases es with
   | nil=>simp only[bc0,ab]at h;exact⟨af h.1,af h.2,by simp,fun a ha=>by simp at ha⟩
   | cons _ _=>simp[bc0]at h
  | _=>simp[bc0]at h
 | xrow e z i=>
  cases o' with
  | xrow J K S =>
   simp only[bc0,ab]at h;have D:=af h.2;subst D;refine⟨af h.1.1,af h.1.2,ar _,fun a ha L=>⟨rfl,fun b E M=>?_⟩⟩;intro G u l;have hf:=f i;rcases hf.cases with ⟨k,n,e⟩ | ⟨b',e⟩ | ⟨x,e⟩ | ⟨es,e⟩ | ⟨cs,e⟩ | ⟨c2,e⟩
   rotate_right
   ·simp[e,rowsOf]at ha
   rotate_right
   ·simp[e,rowsOf]at ha
   ·simp[e,rowsOf]at ha
   ·simp[e,rowsOf]at ha
   ·simp[e,rowsOf]at ha
   have hp:=hf.pur;rw[e]at hp;simp only[e,rowsOf]at l ⊢;exact Q1 (G:=G) (G':=G.ren ι) (fun _ _ N=>N) l (X1 hp a (by simpa[e,rowsOf]using ha) b (by simpa[e,rowsOf]using E))
  | _=>simp[bc0]at h
 | xmap c=>
  cases o' with
  | xmap c' =>
   simp only[bc0]at h;split at h
   ·rename_i i j
    have D:=af h;subst D;exact eb0 (f i)
   ·exact eb0 (c:=.rs []) (by simp[am0,AV.pur,kO0])
   cases h
  | map agg es clock=>
   by_cases hc:c=.rs []/\agg=false/\es=[]
   ·obtain⟨rfl,rfl,rfl⟩:=hc
    simp only[bc0]at h;rw[bk]at h;subst h;exact eb0 (c:=.rs []) (by simp[am0,AV.pur,kO0])
   exfalso;unfold bc0 at h;split at h
   ·rename_i e1 e2;cases e1
   ·rename_i e1 e2;cases e1
   ·rename_i e1 e2;cases e1
   ·rename_i e1 e2;cases e1
   ·rename_i e1 e2;cases e2
   ·rename_i e1 e2;cases e1;cases e2;exact hc ⟨rfl,rfl,rfl⟩
   ·rename_i e1 e2;cases e1
   ·rename_i e1 e2;cases e1
   cases h
  | _=>simp[bc0]at h
 | map agg es c=>
  cases o' with
  | map Q r c' =>
   simp only[bc0,ab]at h;obtain⟨⟨⟨h1,h2⟩,D⟩,U⟩:=h;have hl:=af D;refine⟨by simpa using h1,af h2,by simpa using hl,fun i hi O=>?_⟩;have V:i<es.length:=by simpa using hi
   have W:i<r.length:=by simpa using O
   have hm:=ak.1 U (es[i],r[i]) (by
    rw[List.mem_iff_getElem];exact⟨i,by simp;omega,by simp⟩)
   simp only[ab,Ad]at hm;simp only[cd];exact⟨hm.1.1,mr0 f _ _ hm.1.2,af hm.2⟩
  | _=>simp[bc0]at h
 | frow e z c d k off v=>
  cases o' with
  | frow J K c' P k' R X =>
   cases v with
   | some v0=>simp[bc0]at h
   | none=>
   cases X with
   | some v0=>simp[bc0]at h
   | none=>
   simp only[bc0,ab]at h;obtain⟨⟨⟨⟨hl,h1⟩,h2⟩,hc⟩,B⟩:=h;have h1:=af h1;have h2:=af h2;subst h1;subst h2;obtain⟨i,rfl,rfl⟩:=nC0 hc;have:=og0 B;subst this;have hid:=I hl;refine⟨rfl,rfl,ar _,fun a ha L=>⟨rfl,fun b E M=>?_⟩⟩;intro G u l;simp only[bO,V0,p7]at l ha E ⊢;have g:a<(rowsOf (θ i)).length:=by rw[J9]at ha;exact ha
   obtain⟨es,hes⟩:∃ es,θ i=.rs es:=by
    rcases(f i).cases with ⟨_,_,e⟩ | ⟨_,e⟩ | ⟨_,e⟩ | ⟨es,e⟩ | ⟨_,e⟩ | ⟨_,e⟩
    ·simp[e,rowsOf]at g
    ·simp[e,rowsOf]at g
    ·simp[e,rowsOf]at g
    ·exact⟨es,e⟩
    ·simp[e,rowsOf]at g
    simp[e,rowsOf]at g
   have hp:=(f i).pur;rw[hes]at hp;have t:a<es.length:=by simpa[hes,rowsOf]using g
   have w:(J2 d 0 (rowsOf (θ i)))[a]=an0 d a 0 es[a]:=by have:=I0 d (rowsOf (θ i)) 0 a;rw[ae ha]at this;simp only[hes,rowsOf,ae t,aj,ai,aG]at this;simpa[hes,rowsOf]using this
   have H:b<es[a].length:=by have:=E;simp only[w,H3]at this;exact this
   have C:(J2 d 0 (rowsOf (θ i)))[a][b]=aG0 d a b es[a][b]:=by
    have:=N7 d a es[a] 0 b;rw[ae H,aj,aG]at this;have h2:(J2 d 0 (rowsOf (θ i)))[a][b]?=some (aG0 d a b es[a][b]):=by rw[w];exact this
    rw[ae E]at h2;simpa using h2
   rw[C]at l ⊢;unfold aG0 at l ⊢;split at l
   ·rename_i q Y
    have hi:=hid _ (dF0 a b);generalize (rowsOf es[a][b]).length=ln at l ⊢;cases l with
    | ms _ _ _ _ p hp hv hz Z cp hA ho hl hsp=>exact .ms _ _ 0 _ p (by simp only[c9.ren,hi];exact hp) hv hz Z cp hA ho hl hsp
    | msNil _ _ p hp hv=>exact .msNil _ _ p (by simp only[c9.ren,hi];exact hp) hv
   rename_i Y;exact Q1 (G:=G) (G':=G.ren ι) (fun _ _ N=>N) l (X1 hp a t b H)
  | _=>simp[bc0]at h
 | siter a b=>cases o'<;>simp[bc0]at h
 | xiter s p=>
  cases o' with
  | xiter s' p' =>simp only[bc0,ab]at h;simp only[j5.sub,kV0 h.1,kV0 h.2];exact⟨rfl,rfl⟩
  | _=>simp[bc0]at h
 | miter m a b c=>cases o'<;>simp[bc0]at h
theorem gf0{ι:gq0}{c:Nat->AV}{s:AS}:∀ {l:List AV} {t0:Nat},gu0 ι c s l t0=true->∀ i (h:i<l.length),cb0 ι ((l[i]).ssub c) (s.get (t0+i))=true
 | [],_,_,i,h=>by simp at h
 | a::az,t0,b,i,h=>by
  simp only[gu0,ab]at b;cases i with
  | zero=>exact b.1
  | succ i=>have:=gf0 b.2 i (by simpa using h);simpa[dy,d_ 1 i]using this
theorem qW0{ι:gq0}:∀ {l:List (Nat×j5)},injB ι l=true->∀ p∈l,∀ q∈l,∀ k,ι p.1=some (some k)->ι q.1=some (some k)->p.1=q.1
 | [],_,p,hp,_,_,_,_,_=>by cases hp
 | a::l,h,p,hp,q,e,k,h1,h2=>by
  simp only[injB,ab]at h;have key:∀ r∈l,ι a.1=some (some k)->ι r.1=some (some k)->a.1=r.1:=fun r f e1 e2=>by
   have:=ak.1 h.1 r f;rw[e1]at this;simp only[eo]at this;rcases this with d | d
   ·exact(af d).symm
   simp[W2,e2]at d
  rcases aC.1 hp with e1 | c
  ·rcases aC.1 e with e2 | b
   ·rw[e1,e2]
   rw[e1]at h1 ⊢;exact key q b h1 h2
  rcases aC.1 e with e2 | b
  ·rw[e2]at h2 ⊢;exact(key p c h2 h1).symm
  exact qW0 h.2 p c q b k h1 h2
theorem eN0(a:Acc):∀ (k l:Nat),(cN0 a l k).length=k
 | 0,_=>rfl
 | k+1,l=>by simp[cN0,eN0 a k]
theorem Hint.state_get(h:Hint)(t:Nat):h.state.get t=(h.slots[t]?).getD (.sc undef):=AS.enter_get _ _ _ _
theorem aU0{θ:Nat->AV}(c:Fit θ){n l:Nat}{h:Hint}{s:AS}{vals:List AV}(hm:cg0 n l h s=some vals) :
  vals.length=h.k/\(∀ v∈vals,am0 (v.sub θ))/\Fit (fun i=>(X7 l vals i).sub θ)/\∃ ι,Ren ι n (h.state.sub (fun i=>(X7 l vals i).sub θ)) (s.sub θ):=by
 unfold cg0 at hm;simp only at hm;split at hm
 ·rename_i hc
  cases hm;generalize E:guess s n l h=acc at *;generalize G:acc.io.filter (fun p=>cJ n p.1)=io at *;simp only[ab]at hc;obtain⟨⟨⟨⟨⟨⟨c1,c2⟩,H⟩,I⟩,J⟩,K⟩,M⟩:=hc;have u:=af c2;have w:=aQ H;have g:∀ v∈cN0 acc l h.k,am0 (v.sub θ):=fun v hv=>rF0 c (ak.1 c1 v hv);refine⟨eN0 _ _ _,g,fun i=>?_,ja0 n io,?_⟩
  ·show am0 ((X7 l (cN0 acc l h.k) i).sub θ)
   unfold X7;split
   ·cases q:(cN0 acc l h.k)[i-l]? with
    | none=>simpa using c i
    | some v=>exact g v (aD q)
   simpa using c i
  have hst:h.state.sub (fun i=>(X7 l (cN0 acc l h.k) i).sub θ)=(h.state.ssub (X7 l (cN0 acc l h.k))).sub θ:=(AS.ssub_sub _ _ _).symm;have d:∀ i o,(h.state.sub (fun i=>(X7 l (cN0 acc l h.k) i).sub θ)).st.objs i=some o->∃ o0,(i,o0)∈h.objs/\o=(o0.ssub (X7 l (cN0 acc l h.k))).sub θ:=fun i o m=>by
   rw[AS.sub_st,c8.sub_objs]at m;cases q:h.state.st.objs i with
   | none=>rw[q]at m;cases m
   | some o0=>
    rw[q]at m;simp only[aj,ai]at m;refine⟨o0,?_,by rw[j5.ssub_sub];exact m.symm⟩;rcases Tr.ofList_get h.objs .leaf i o0 q with h1 | h1
    ·exact h1
    rw[Tr.get_leaf]at h1;cases h1
  have x:∀ i k,pR0 io i=some k->n<=i/\i<h.next:=fun i k hk=>by
   have aux:∀ (L:List (Nat×Option Nat)),L.all (fun p=>cJ n p.1&&bY p.1 h.next)=true->pR0 L i=some k->n<=i/\i<h.next:=by
    intro L
    induction L with
    | nil=>intro _ r;simp[pR0]at r
    | cons a L N=>
     intro b r;simp only[bZ,ab]at b;unfold pR0 at r;split at r
     ·rename_i he
      have:=af he;subst this;exact⟨aQ b.1.1,by simpa[aV]using b.1.2⟩
     exact N (by simpa using b.2) r
   exact aux io I hk
  refine⟨u,fun i hi=>?_,fun i k hk=>?_,w,fun i j k oi oj h1 h2 O P=>?_,fun t B=>?_,fun t B=>?_,fun i o m=>?_⟩
  ·have:bY i n=true:=by rw[aV];exact hi
   simp only[ja0,this]
  ·show i<h.next
   simp only[ja0]at hk;split at hk
   ·rename_i Q;rw[aV]at Q;omega
   exact(x i k hk).2
  ·obtain⟨o1,m1,_⟩:=d i oi O
   obtain⟨o2,m2,_⟩:=d j oj P;exact qW0 M _ m1 _ m2 k h1 h2
  ·have f:t<h.slots.length:=by rw[u];exact B
   have:=gf0 J t f;rw[aG]at this;rw[AS.sub_get,AS.sub_get,Hint.state_get,ae f,bR,<-ssub_sub];exact mr0 c _ _ this
  ·have f:h.slots.length<=t:=by rw[u];exact B
   rw[AS.sub_get,Hint.state_get,bz f];simp
  obtain⟨o0,m0,rfl⟩:=d i o m;have:=ak.1 K (i,o0) m0;simp only[vL0]at this;split at this
  ·rename_i k hk
   split at this
   ·rename_i o' C
    exact .inl ⟨k,o'.sub θ,hk,by rw[AS.sub_st,c8.sub_objs,C];rfl,ub0 c (fun D i hi=>by
     have R:=aQ D;have:bY i n=true:=by rw[aV];omega
     simp only[ja0,this]) this⟩
   cases this
  ·rename_i hk
   refine .inr ⟨hk,?_⟩;unfold nS0 at this;split at this
   ·rename_i e z he;exact⟨e,z,by rw[he];simp[j5.sub]⟩
   cases this
  cases this
 cases hm
theorem oy0(f:AV->AV):∀ (l:List AV) (i:Nat) (t:Tr AV),(vE0 l i t).map f=vE0 (l.map f) i (t.map f)
 | [],i,t=>rfl
 | v::l,i,t=>by simp only[vE0,ay];rw[oy0 f l,Tr.map_set];rfl
theorem gX0(θ:Nat->AV)(n:Nat)(args:List AV)(σ:c8):(AS.enter n args σ).sub θ=AS.enter n (args.map (AV.sub θ)) (σ.sub θ):=by simp only[AS.sub,AS.enter,oy0];rfl
theorem qc0{T:Tab}{θ:Nat->AV}{s:AS}{r:ResultVar}{v:AV}(h:lh0 T s r=some v):lh0 T (s.sub θ) r=some (v.sub θ):=by
 cases r with
 | tmp t=>simp only[lh0,ai]at h ⊢;rw[AS.sub_get,h]
 | cell a t=>simp only[lh0]at h ⊢;rw[AS.sub_get];exact ia0 h
theorem hX0{T:Tab}{θ:Nat->AV}{s:AS}:∀ {rs:List ResultVar} {l:List AV},fn0 T s rs=some l->fn0 T (s.sub θ) rs=some (l.map (AV.sub θ))
 | [],l,h=>by simp only[fn0,ai]at h;subst h;rfl
 | r::rs,l,h=>by
  unfold fn0 at h;split at h
  ·rename_i v a h1 h2
   cases h;simp only[fn0,qc0 h1,hX0 h2];rfl
  cases h
theorem dj0{T:Tab}{θ:Nat->AV}{fn:Func}{s:AS}{v:AV}(h:D1 T fn s=some v):D1 T fn (s.sub θ)=some (v.sub θ):=by
 unfold D1 at h;split at h
 ·rename_i u hu;cases h;simp[D1,hX0 hu]
 ·rename_i l a hl
  cases h;simp only[D1,hX0 hl];split
  ·rename_i u e
   simp only[ai]at e;have hlen:=Ap gB e;simp only[aB,ax,aU]at hlen;obtain⟨x,rfl⟩:=List.length_eq_one_iff.1 hlen;exact Am rfl (a x)
  ·rename_i b _ e;simp only[ai]at e;subst e;simp
  rename_i e;cases e
 cases h
theorem aS0:∀ {t:Tr j5} {k:Nat} {e:TypeId} {z j:Nat},t.get k=some (.xrow e z j)->j∈al0 t
 | .leaf,k,e,z,j,h=>by rw[Tr.get_leaf]at h;cases h
 | .node v l r,0,e,z,j,h=>by simp only[Tr.get]at h;subst h;simp[al0]
 | .node v l r,k+1,e,z,j,h=>by
  simp only[Tr.get]at h;simp only[al0,aK];split at h
  ·exact .inr (.inl (aS0 h))
  exact .inr (.inr (aS0 h))
theorem X8:∀ {t:Tr j5} {k:Nat} {j:Nat},t.get k=some (.xmap (.sy j))->j∈al0 t
 | .leaf,k,j,h=>by rw[Tr.get_leaf]at h;cases h
 | .node v l r,0,j,h=>by simp only[Tr.get]at h;subst h;simp[al0]
 | .node v l r,k+1,j,h=>by
  simp only[Tr.get]at h;simp only[al0,aK];split at h
  ·exact .inr (.inl (X8 h))
  exact .inr (.inr (X8 h))
mutual
theorem refr_sub{θ:Nat->AV}{id j fr:Nat}(hl:(rowsOf (θ fr)).length=(rowsOf (θ j)).length):∀ v:AV,(v.refr id j fr).sub θ=v.sub θ
 | .ss a z i=>by
  simp only[AV.refr];split
  ·rename_i h
   simp only[ab,bk]at h;obtain⟨rfl,rfl⟩:=h;simp only[P8,hl]
  rfl
 | .rs es=>by simp only[AV.refr,AV.sub];rw[it0 hl es]
 | .rp cs=>by simp only[AV.refr,AV.sub];rw[aE0 hl cs]
 | .fn f a c=>by simp only[AV.refr,AV.sub];rw[aE0 hl a,aE0 hl c]
 | .agg cs=>by simp only[AV.refr,AV.sub];rw[aE0 hl cs]
 | .tup cs=>by simp only[AV.refr,AV.sub];rw[aE0 hl cs]
 | .any=>rfl
 | .sc _=>rfl
 | .ms _ _ _ _=>rfl
 | .mp _ _ _=>rfl
 | .mm _=>rfl
 | .it _=>rfl
 | .sy _=>rfl
 | .xp _ _ _=>rfl
 | .xs _ _ _ _=>rfl
 | .rm _=>rfl
theorem aE0{θ:Nat->AV}{id j fr:Nat}(hl:(rowsOf (θ fr)).length=(rowsOf (θ j)).length):∀ l:List AV,af0 θ (ka0 id j fr l)=af0 θ l
 | []=>rfl
 | c::cs=>by simp only[ka0,af0];rw[refr_sub hl c,aE0 hl cs]
theorem it0{θ:Nat->AV}{id j fr:Nat}(hl:(rowsOf (θ fr)).length=(rowsOf (θ j)).length):∀ l:List (List AV),dP0 θ (sa0 id j fr l)=dP0 θ l
 | []=>rfl
 | c::cs=>by simp only[sa0,dP0];rw[aE0 hl c,it0 hl cs]
end
theorem j5.refr_sub{θ:Nat->AV}{id j fr:Nat}(hl:(rowsOf (θ fr)).length=(rowsOf (θ j)).length)(o:j5):(o.refr id j fr).sub θ=o.sub θ:=by
 cases o with
 | row e z es=>simp only[j5.refr,j5.sub,<-bo0];rw[it0 hl]
 | map agg es c=>simp only[j5.refr,j5.sub,cQ];congr 1;apply bq;intro e _;simp[Go.Ab.refr_sub hl]
 | _=>rfl
theorem AS.refr_sub{θ:Nat->AV}{id j fr:Nat}(hl:(rowsOf (θ fr)).length=(rowsOf (θ j)).length)(s:AS):(s.refr id j fr).sub θ=s.sub θ:=by simp only[AS.refr,AS.sub,c8.sub,Tr.map_map];have h1:(fun x=>AV.sub θ (AV.refr id j fr x))=AV.sub θ:=funext fun x=>Go.Ab.refr_sub hl x;have h2:(fun x=>j5.sub θ (j5.refr id j fr x))=j5.sub θ:=funext fun x=>j5.refr_sub hl x;rw[h1,h2]
theorem kU0{T:Tab}{σ σ1 b:c8}{t:TypeId}{id a i j:Nat}{e:TypeId}{z:Nat}{es:List (List AV)}{v:AV}(h1:σ1.objs a=some (.row e z es))(h2:σ.objs id=some (.row e z es))(h:X2 T σ1 t (.mp a i j) v=some b) :
  ∃ c,b.objs a=some (.row e z c)/\X2 T σ t (.mp id i j) v=some (σ.set id (.row e z c)):=by
 unfold X2 at h ⊢;split at h
 ·rename_i id' f g vs ti e1 e2 e3
  cases e1;simp only[h1]at h;simp only[e2,e3,h2];split at h
  ·rename_i cs d
   split at h
   ·rename_i hc
    cases h;rw[Af hc];exact⟨_,by simp[c8.objs_set],rfl⟩
   cases h
  cases h
 cases h
theorem xst_ok{T:Tab}{Φ:G6}{θ b:Nat->AV}{fr:Nat}(ha:∀ i,i<fr->b i=θ i){s:AS}(c:s.bnd fr=true){t e:TypeId}{a x:Operand}{id z j off:Nat}{i:AV}(hp:ku0 (s.eval a)=some (id,i,off))(f:s.st.objs id=some (.xrow e z j))
  (he:j4 T Φ θ (.xst t e z (.sy j) i off (s.eval x))=some (b fr)):(∀ id0,aop T (s.sub b).eval (s.st.sub b) id0 (.store t a x)=some (.sc undef,(s.st.sub b).set id (.row e z (rowsOf (b fr)))))/\(rowsOf (b fr)).length=(rowsOf (b j)).length:=by
 obtain⟨g,hj⟩:=ed0 (θ:=θ) ha c f;have h:=kW0 (θ:=θ) ha c (s.bnd_eval c a) hp;simp only[j4,p7]at he;split at he
 ·rename_i σ1 d
  have k:(ah0 e z (θ j)).objs 0=some (.row e z (rowsOf (θ j))):=by simp[ah0,c8.objs_set]
  obtain⟨l,g1,g2⟩:=kU0 k g d;rw[g1]at he;simp only at he;split at he
  ·rename_i hlen
   simp only[ai]at he;have hlen:=af hlen;refine⟨fun id0=>?_,by rw[<- he,ha j hj];exact hlen⟩;simp only[aop,AS.sub_eval,h,sub_agree ha _ (s.bnd_eval c x),g2,<-he,rowsOf]
  cases he
 cases he
theorem rq0{T:Tab}{Φ:G6}{θ d:Nat->AV}{fr:Nat}(ha:∀ i,i<fr->d i=θ i){s s':AS}(k:s.bnd fr=true){op:Op}{ro:RO}{v:AV}(h:qH0 s op fr=some (ro,v,s'))(he:j4 T Φ θ ro=some (AV.sub d (.sy fr))) :
  ∃ p,(∀ id,aop T (s.sub d).eval (s.st.sub d) id op=some (v.sub d,p))/\s'.sub d={ s.sub d with st:=p }:=by
 unfold qH0 at h;split at h
 ·rename_i t a x
  split at h
  ·rename_i id i off hp
   split at h
   ·rename_i e z j q
    cases h;obtain⟨D,hj⟩:=ed0 (θ:=θ) ha k q;have W:=kW0 (θ:=θ) ha k (s.bnd_eval k a) hp;simp only[j4,p7]at he;split at he
    ·rename_i σ1 E
     have G:(ah0 e z (θ j)).objs 0=some (.row e z (rowsOf (θ j))):=by simp[ah0,c8.objs_set]
     obtain⟨H,g1,g2⟩:=kU0 G D E;rw[g1]at he;simp only at he;split at he
     ·rename_i hlen
      simp only[ai]at he;have hlen:=af hlen;have hl:(rowsOf (d fr)).length=(rowsOf (d j)).length:=by rw[<- he,ha j hj];exact hlen
      refine⟨(s.st.sub d).set id (.row e z H),fun id0=>?_,?_⟩
      ·simp only[aop,AS.sub_eval,W,sub_agree ha _ (s.bnd_eval k x),g2,F9]
      have e1:=AS.refr_sub (id:=id) (j:=j) (fr:=fr) hl s;have e2:({ s.refr id j fr with st:=(s.refr id j fr).st.set id (.xrow e z fr) }:AS).sub d={ (s.refr id j fr).sub d with st:=((s.refr id j fr).st.set id (.xrow e z fr)).sub d }:=rfl;rw[e2,c8.sub_set];have e3:(s.refr id j fr).st.sub d=s.st.sub d:=Ap AS.st e1;rw[e3,e1];simp only[j5.sub,<-he,rowsOf]
     cases he
    cases he
   cases h
  cases h
 ·rename_i t x hi
  split at h
  ·rename_i id z j R
   split at h
   ·rename_i e9 z9 S q
    cases h;obtain⟨_,I⟩:=ed0 (θ:=θ) ha k q;have n:=s.bnd_eval k x;rw[R]at n;simp only[AV.bnd,aV]at n;simp only[j4,p7]at he;split at he
    ·rename_i d1 d2 o l X
     split at he
     ·rename_i hl
      rw[ab,bk,bk]at hl;obtain⟨rfl,rfl⟩:=hl;refine⟨s.st.sub d,fun id0=>?_,rfl⟩;simp only[aop,AS.sub_eval,R,P8,bO,aj,ha j n,ha S I,sub_agree ha _ (s.bnd_eval k hi)];rw[oo0 (id:=id) X]
     cases he
    cases he
   cases h
  cases h
 ·rename_i args ts
  split at h
  ·rename_i t t2 id z j y J f
   split at h
   ·rename_i e z' S c q hc
    split at h
    ·rename_i r
     cases h;rw[ab,bk,bk]at r;obtain⟨rfl,rfl⟩:=r;obtain⟨D,hj⟩:=ed0 (θ:=θ) ha k q;obtain⟨U,K,m⟩:∃ U K,args.toList=[U,K]:=by
      cases L:args.toList with
      | nil=>rw[L]at f;simp at f
      | cons a l=>cases l with
       | nil=>rw[L]at f;simp at f
       | cons b l=>cases l with
        | nil=>exact⟨_,_,rfl⟩
        | cons _ _=>rw[L]at f;simp at f
     rw[m]at f;simp only[ay,bA,b_,and_true]at f;obtain⟨M,u⟩:=f;have N:y.bnd fr=true:=by rw[<- u];exact s.bnd_eval k K
     simp only[j4,p7]at he;split at he
     ·rename_i w
      obtain⟨xs,B⟩:∃ xs,c.sub θ=.rs xs:=by cases O:c.sub θ<;>rw[O]at w<;>simp[isRs]at w;exact⟨_,rfl⟩
      have C:=my0 (θ:=θ) ha k N hc B;rw[B]at he;have G:(ah0 e z (θ j)).objs 0=some (.row e z (rowsOf (θ j))):=by simp[ah0,c8.objs_set]
      unfold dx0 at he;split at he
      ·rename_i elem _ _ _ _ Y P V Z e1
       cases e1;simp only[G,N9]at he;split at he
       ·rename_i ei e2 z2 es2 xs2 Q e3 e4
        cases e3;cases e4;split at he
        ·rename_i g
         simp only[dB,sp0,c8.objs_set,Al,ai]at he;have hl:(rowsOf (d fr)).length=(rowsOf (d j)).length:=by rw[<- he,ha j hj];exact g.2.2.2.1
         refine⟨(s.st.sub d).set id (.row e z xs),fun id0=>?_,?_⟩
         ·simp only[aop,C6,J,m,ay,bA,AS.sub_eval,M,u,P8,ha j hj,dx0,Z,Q,D,C]
          rw[Af ⟨g.1,g.2.1,trivial,g.2.2.2⟩];simp
         have e1:=AS.refr_sub (id:=id) (j:=j) (fr:=fr) hl s;have e2:({ s.refr id j fr with st:=(s.refr id j fr).st.set id (.xrow e z fr) }:AS).sub d={ (s.refr id j fr).sub d with st:=((s.refr id j fr).st.set id (.xrow e z fr)).sub d }:=rfl;rw[e2,c8.sub_set];have e3:(s.refr id j fr).st.sub d=s.st.sub d:=Ap AS.st e1;rw[e3,e1];simp only[j5.sub,<-he,rowsOf]
        cases he
       cases he
      cases he
     cases he
    cases h
   cases h
  cases h
 cases h
theorem fF0{σ:c8}{id:Nat}{o:j5}(i:Nat):(I8 σ id o).objs i=if i=id then some o else none:=by
 unfold I8;rw[c8.objs_set];split
 ·rfl
 exact Tr.get_leaf i
theorem lA0(θ:Nat->AV)(σ:c8)(id:Nat)(o:j5):(I8 σ id o).sub θ=I8 (σ.sub θ) id (o.sub θ):=by unfold I8;rw[c8.sub_set];rfl
theorem gJ0{G:c9}{σ:c8}{w:World}(h:Rel G σ w){id:Nat}{o:j5}(b:σ.objs id=some o):Rel G (I8 σ id o) w :=
 h.less rfl fun i x a=>by
  rw[fF0]at a;split at a
  ·rename_i e;subst e;cases a;exact b
  cases a
noncomputable abbrev c9.froz1(G:c9)(σ:c8)(w:World)(id:Nat)(o:j5):c9:=G.frozen (I8 σ id o) w G.pl
theorem O5{G:c9}{σ:c8}{w:World}(h:Rel G σ w){id:Nat}{o:j5}(a:σ.objs id=some o):G.le (G.froz1 σ w id o) :=⟨rfl,fun _ _ b=>H6 (gJ0 h a) b,fun _ _ hp=>hp⟩
theorem pt0{G:c9}{σ:c8}{id:Nat}{o:j5}{b:Nat}(h:Live G (I8 σ id o) b):∃ p,G.pl id=some p/\p.virt=false/\p.block=b:=by
 obtain⟨i,x,p,h1,h2,a,c⟩:=h;rw[fF0]at h1;split at h1
 ·rename_i e;subst e;exact⟨p,h2,a,c⟩
 cases h1
theorem sr0{G:c9}{s s':AS}{a:Act}{w:World}(B:ba0 G s a w){id:Nat}{o:j5}(D:s.st.objs id=some o)(M:s'.n=s.n)(L:s'.st.next=s.st.next)
  (d:∀ i x,s'.st.objs i=some x->i≠id/\∃ y,s.st.objs i=some y/\(∀ p m,P1 G p y m->P1 (G.froz1 s.st w id o) p x m)/\((∃ e z,y=.row e z [])->∃ e z,x=.row e z []))
  (g:∀ t u,Rep G (s.get t) u->Rep (G.froz1 s.st w id o) (s'.get t) u) {n:Nat} (E:n<=s.st.next):ba0 (G.froz1 s.st w id o) s' a w/\U7 n G s.st w (G.froz1 s.st w id o) s'.st w:=by
 have c:=B.rel;have l:=gJ0 c D;have himm:∀ b x,(G.froz1 s.st w id o).imm b=some x->(∃ p,G.pl id=some p/\p.virt=false/\p.block=b/\w.heap[b]?=some x)\/G.imm b=some x:=fun b x f=>by
  simp only[c9.froz1,c9.frozen]at f;split at f
  ·rename_i hl
   obtain⟨p,h1,h2,k⟩:=pt0 hl;exact .inl ⟨p,h1,h2,k,f⟩
  exact .inr f
 refine⟨⟨B.defers,by rw[M];exact B.size,fun t=>g t _ (B.tmps t),?_⟩,?_⟩
 ·refine⟨c.os,c.tape,c.output,c.size,fun b x f=>?_,by rw[L];exact c.fresh,fun i x hi=>?_,fun i j oi oj pi pj h1 h2 k N v1 v2 O=>?_,fun b o' v hv=>eh0 l (c.glob b o' v hv)⟩
  ·rcases himm b x f with ⟨p,_,_,_,h⟩ | h
   ·exact h
   exact c.imm b x h
  ·obtain⟨H,y,C,I,r⟩:=d i x hi
   obtain⟨p,hp,hl⟩:=c.objs i y C;refine⟨p,hp,?_⟩;rcases hl with ⟨hv,e,z,rfl⟩ | ⟨hv,l1,l2,l3⟩
   ·exact .inl ⟨hv,r ⟨e,z,rfl⟩⟩
   refine .inr ⟨hv,?_,l2,I p _ l3⟩;cases f:(G.froz1 s.st w id o).imm p.block with
   | none=>rfl
   | some q=>
    rcases himm _ _ f with ⟨P,h1,h2,k,_⟩ | h
    ·exact Am (c.sep i id y o p P C D hp h1 hv h2 k.symm) H
    rw[l1]at h;cases h
  obtain⟨_,Q,J,_⟩:=d i oi h1;obtain⟨_,R,K,_⟩:=d j oj h2;exact c.sep i j Q R pi pj J K k N v1 v2 O
 refine⟨rfl,fun b x f=>H6 l f,fun _ _=>rfl,by rw[L];exact E,⟨ar _,fun _ _ _=>rfl,fun i x p h1 h2 k _=>?_,fun b x f=>?_,ar _⟩⟩
 ·obtain⟨_,y,C,_⟩:=d i x h1
  exact⟨i,y,p,C,h2,k,rfl⟩
 rcases himm b x f with ⟨p,h1,h2,k,_⟩ | h
 ·exact .inr (.inr ⟨id,o,p,D,h1,h2,k⟩)
 exact .inl h
section
variable {θ:Nat->AV} (hθ:Fit θ) {G:c9} {σ:c8} {w:World} {id:Nat} {o:j5} (h:Rel G (σ.sub θ) w) (ho:σ.objs id=some o) (hxv:∀ j,j∈al0 (I8 σ id o).tr->∃ es,θ j=.rs es)
include hθ h ho hxv in
theorem iv0(v c:AV)(u:Value)(hc:ak0 (I8 σ id o) 3 v=some c)(a:Rep G (v.sub θ) u):Rep (G.froz1 (σ.sub θ) w id (o.sub θ)) (c.sub θ) u:=by
 have h1:Rel G ((I8 σ id o).sub θ) w:=by rw[lA0];exact gJ0 h (by rw[c8.sub_objs,ho];rfl)
 have:=du0 hθ h1 G.pl (fun i e z j hi=>hxv j (aS0 hi)) (fun i j hi=>hxv j (X8 hi)) 3 v c u hc a;rw[lA0]at this;exact this
include hθ h ho hxv
mutual
theorem qR0:∀ (v:AV) (u:Value),Rep G (v.sub θ) u->Rep (G.froz1 (σ.sub θ) w id (o.sub θ)) ((v.frz (I8 σ id o)).sub θ) u
 | .agg cs,u,b=>by
  simp only[AV.frz,AV.sub]at b ⊢;cases b with
  | agg _ vs h1 h2=>have:=gS0 cs vs ⟨h1,h2⟩;exact .agg _ vs this.1 this.2
 | .tup cs,u,b=>by
  simp only[AV.frz,AV.sub]at b ⊢;cases b with
  | tup _ vs h1 h2=>have:=gS0 cs vs ⟨h1,h2⟩;exact .tup _ vs this.1 this.2
 | .fn f a c,u,b=>by
  simp only[AV.frz,AV.sub]at b ⊢;cases b with
  | fn _ _ _ fv cv h1 h2 g k=>have d:=gS0 a fv ⟨h1,g⟩;have e:=gS0 c cv ⟨h2,k⟩;exact .fn _ _ _ fv cv d.1 e.1 d.2 e.2
 | .ss a z i,u,b=>by
  simp only[AV.frz];cases hc:ak0 (I8 σ id o) 3 (.ss a z i)with
  | some c=>simp only[bR];exact iv0 hθ h ho hxv _ _ _ hc b
  | none=>exact b.mono (O5 h (by rw[c8.sub_objs,ho];rfl))
 | .ms a z i j,u,b=>by
  simp only[AV.frz];cases hc:ak0 (I8 σ id o) 3 (.ms a z i j)with
  | some c=>simp only[bR];exact iv0 hθ h ho hxv _ _ _ hc b
  | none=>exact b.mono (O5 h (by rw[c8.sub_objs,ho];rfl))
 | .mp a i j,u,b=>by
  simp only[AV.frz];cases hc:ak0 (I8 σ id o) 3 (.mp a i j)with
  | some c=>simp only[bR];exact iv0 hθ h ho hxv _ _ _ hc b
  | none=>exact b.mono (O5 h (by rw[c8.sub_objs,ho];rfl))
 | .any,u,b=>by simp only[AV.frz];exact b.mono (O5 h (by rw[c8.sub_objs,ho];rfl))
 | .sc _,u,b=>by simp only[AV.frz];exact b.mono (O5 h (by rw[c8.sub_objs,ho];rfl))
 | .rs _,u,b=>by simp only[AV.frz];exact b.mono (O5 h (by rw[c8.sub_objs,ho];rfl))
 | .rp _,u,b=>by simp only[AV.frz];exact b.mono (O5 h (by rw[c8.sub_objs,ho];rfl))
 | .mm _,u,b=>by simp only[AV.frz];exact b.mono (O5 h (by rw[c8.sub_objs,ho];rfl))
 | .it _,u,b=>by simp only[AV.frz];exact b.mono (O5 h (by rw[c8.sub_objs,ho];rfl))
 | .sy _,u,b=>by simp only[AV.frz];exact b.mono (O5 h (by rw[c8.sub_objs,ho];rfl))
 | .xp _ _ _,u,b=>by simp only[AV.frz];exact b.mono (O5 h (by rw[c8.sub_objs,ho];rfl))
 | .xs _ _ _ _,u,b=>by simp only[AV.frz];exact b.mono (O5 h (by rw[c8.sub_objs,ho];rfl))
 | .rm _,u,b=>by simp only[AV.frz];exact b.mono (O5 h (by rw[c8.sub_objs,ho];rfl))
theorem gS0:∀ (l:List AV) (us:List Value),B6 G (af0 θ l) us->B6 (G.froz1 (σ.sub θ) w id (o.sub θ)) (af0 θ (jF0 (I8 σ id o) l)) us
 | [],us,a=>by simp only[jF0,af0]at a ⊢;rw[a.nil_inv];exact B6.nil _
 | c::cs,us,a=>by simp only[jF0,af0]at a ⊢;obtain⟨v,vs,rfl,h1,h2⟩:=a.cons_inv;exact(gS0 cs vs h2).cons (qR0 c v h1)
end
theorem qV0(y:j5)(p:Pl)(f:Option Obj)(hk:P1 G p (y.sub θ) f):P1 (G.froz1 (σ.sub θ) w id (o.sub θ)) p ((y.frz (I8 σ id o)).sub θ) f:=by
 have hle:G.le (G.froz1 (σ.sub θ) w id (o.sub θ)):=O5 h (by rw[c8.sub_objs,ho];rfl);cases y with
 | row e z es=>
  simp only[j5.frz,j5.sub]at hk ⊢;obtain⟨cs,h1,h2,x,B,C⟩:=hk;refine⟨cs,h1,h2,x,by simpa using B,fun i hi=>?_⟩;have n:i<es.length:=by simpa using hi
  have q:i<(es.map (bP (AV.sub θ))).length:=by simpa using n
  obtain⟨g1,g2⟩:=C i q;have e1:(es.map (bP (AV.sub θ)))[i]=af0 θ es[i]:=by simp[I3]
  have e2:((es.map (jF0 (I8 σ id o))).map (bP (AV.sub θ)))[i]=af0 θ (jF0 (I8 σ id o) es[i]):=by simp[I3]
  have g:∀ l:List AV,(jF0 (I8 σ id o) l).length=l.length:=fun l=>by
   induction l with
   | nil=>rfl
   | cons c cs r=>simp[jF0,r]
  have hlen:(af0 θ (jF0 (I8 σ id o) es[i])).length=es[i].length:=by rw[I3,aB,g]
  refine⟨by rw[e2,hlen];rw[e1,I3,aB]at g1;exact g1,fun j hj t=>?_⟩;have d:j<es[i].length:=by rw[e2,hlen]at hj;exact hj
  have u:j<(es.map (bP (AV.sub θ)))[i].length:=by simpa using d
  have g3:=g2 j u t;have e3:(es.map (bP (AV.sub θ)))[i][j]=(es[i][j]).sub θ:=by simp
  have v:j<(jF0 (I8 σ id o) es[i]).length:=by rw[g];exact d
  have e5:∀ (l:List AV) (j:Nat) (hj:j<l.length) (k:j<(jF0 (I8 σ id o) l).length),(jF0 (I8 σ id o) l)[j]=(l[j]).frz (I8 σ id o):=fun l=>by
   induction l with
   | nil=>intro j hj;simp at hj
   | cons c cs r=>
    intro j hj k;cases j with
    | zero=>rfl
    | succ j=>exact r j (by simpa using hj) (by simpa[jF0]using k)
  have e4:((es.map (jF0 (I8 σ id o))).map (bP (AV.sub θ)))[i][j]=((es[i][j]).frz (I8 σ id o)).sub θ:=by simp[e5 es[i] j d v]
  rw[e4];rw[e3]at g3;exact qR0 hθ h ho hxv _ _ g3
 | map agg es c=>exact P1.mono hle hk
 | siter s pos=>exact P1.mono hle hk
 | miter m a b c=>exact P1.mono hle hk
 | xrow e z i=>exact P1.mono hle hk
 | xmap c=>exact P1.mono hle hk
 | frow=>exact P1.mono hle hk
 | xiter s p=>exact P1.mono hle hk
end
theorem AS.frz_get(σ1:c8)(id:Nat)(s:AS)(t:Nat):(s.frz σ1 id).get t=(s.get t).frz σ1:=by simp only[AS.get,AS.frz,Tr.map_get];cases s.tr.get t<;>simp[AV.frz]
theorem AS.frz_objs(σ1:c8)(id:Nat)(s:AS)(i:Nat):(s.frz σ1 id).st.objs i=if i=id then none else (s.st.objs i).map (j5.frz σ1):=by
 show ((s.st.del id).tr.map (j5.frz σ1)).get i=_;rw[Tr.map_get];have:(s.st.del id).tr.get i=if i=id then none else s.st.objs i:=c8.objs_del s.st id i
 rw[this];split<;>rfl
theorem nJ0{s:AS}{θ:Nat->AV}(b:Fit θ){id:Nat}{o:j5}(f:s.st.objs id=some o)(d:∀ j,j∈al0 (I8 s.st id o).tr->∃ es,θ j=.rs es){G:c9}{a:Act}{w:World}(g:ba0 G (s.sub θ) a w){n:Nat}(h:n<=s.st.next) :
  ba0 (G.froz1 (s.st.sub θ) w id (o.sub θ)) ((s.frz (I8 s.st id o) id).sub θ) a w/\U7 n G (s.sub θ).st w (G.froz1 (s.st.sub θ) w id (o.sub θ)) ((s.frz (I8 s.st id o) id).sub θ).st w:=by
 have l:(s.sub θ).st.objs id=some (o.sub θ):=by rw[AS.sub_st,c8.sub_objs,f];rfl
 exact sr0 (s':=(s.frz (I8 s.st id o) id).sub θ) g l rfl rfl (fun i x hi=>by
   rw[AS.sub_st,c8.sub_objs,AS.frz_objs]at hi;split at hi
   ·cases hi
   rename_i m;cases r:s.st.objs i with
   | none=>rw[r]at hi;cases hi
   | some y=>
    rw[r]at hi;cases hi;refine⟨m,y.sub θ,by rw[AS.sub_st,c8.sub_objs,r];rfl,fun p q hk=>qV0 b g.rel f d y p q hk,?_⟩;rintro ⟨e,z,he⟩;cases y with
    | row B C es=>
     simp only[j5.sub,j5.row.injEq]at he;have:es=[]:=by simpa using he.2.2
     subst this;exact⟨B,C,by simp[j5.frz,j5.sub]⟩
    | xrow B C j=>exact⟨e,z,by simp only[j5.frz];exact he⟩
    | frow B C c cols k off v=>exact⟨e,z,by simp only[j5.frz];exact he⟩
    | _=>simp only[j5.sub,R1]at he;first | (cases he;done) | (split at he<;>cases he))
  (fun t u hu=>by
   rw[AS.sub_get]at hu ⊢;rw[AS.frz_get];exact qR0 b g.rel f d _ _ hu) h
theorem BWp.freeze{P:Program}{n:Nat}{c:Code}{Q:Exit->AS->Prop}{s:AS}{θ:Nat->AV}(b:Fit θ){id:Nat}{o:j5}(g:s.st.objs id=some o)(d:∀ j,j∈al0 (I8 s.st id o).tr->∃ es,θ j=.rs es)
  (h:BWp P n c Q ((s.frz (I8 s.st id o) id).sub θ)):BWp P n c Q (s.sub θ):=by
 intro f G a w i;obtain⟨h1,h2⟩:=nJ0 b g d i (n:=n) f;refine wp_mono (h f _ a w h1) ?_;rintro e q w' ⟨s2,k,l,m,p⟩;exact⟨s2,k,h2.trans l (ar _),m,p⟩
theorem ad0.freeze{P:Program}{ops:Array Oper}{n0 n:Nat}{f:AS->Prop}{l:List Nat}{s:AS}{θ:Nat->AV}(b:Fit θ){id:Nat}{o:j5}(g:s.st.objs id=some o)(c:∀ j,j∈al0 (I8 s.st id o).tr->∃ es,θ j=.rs es)
  (h:ad0 P ops n0 n f l ((s.frz (I8 s.st id o) id).sub θ)):ad0 P ops n0 n f l (s.sub θ):=by
 intro G a w i hf k d;obtain⟨h1,h2⟩:=nJ0 b g c i (n:=n) (by have:(s.sub θ).st.next=s.st.next:=rfl;omega);have:=h _ a w h1 (fun j hj=>hf j hj) k d;refine C5 ?_ _ _ _ this;rintro e t w' ⟨e1,s2,m,p,q,r⟩;exact⟨e1,s2,m,h2.trans p (ar _),q,r⟩
theorem iV0{s:AS}{fr:Nat}(k:s.bnd fr=true){a:Nat}{x:j5}(f:s.st.objs a=some x){θ g:Nat->AV}(q:∀ i,i<fr->g i=θ i)
  (d:((al0 (I8 s.st a x).tr).all fun j=>match θ j with | .rs _=>true | _=>false)=true):∀ j,j∈al0 (I8 s.st a x).tr->∃ es,g j=.rs es:=fun j hj=>by
 have h:=ak.1 d j hj;have m:j<fr:=by
  have u:=s.bnd_obj k f;have hm:∀ i,(I8 s.st a x).tr.get i=if i=a then some x else none:=fun i=>fF0 i
  have key:∀ (t:Tr j5),(∀ i y,t.get i=some y->y.bnd fr=true)->j∈al0 t->j<fr:=by
   intro t
   induction t with
   | leaf=>intro _ hm;simp[al0]at hm
   | node v l r n o=>
    intro b hm;simp only[al0,aK]at hm;rcases hm with hm | hm | hm
    ·have p:=b 0
     simp only[Tr.get]at p;split at hm
     ·rename_i e z w
      have:=p _ rfl;simp only[aT]at hm;subst hm;simpa[j5.bnd,aV]using this
     ·rename_i w
      have:=p _ rfl;simp only[aT]at hm;subst hm;simpa[j5.bnd,AV.bnd,aV]using this
     simp at hm
    ·exact n (fun i y c=>b (2*i+1) y (by simp only[Tr.get];rw[show 2*i%2=0 by omega,show 2*i / 2=i by omega];exact c)) hm
    exact o (fun i y c=>b (2*i+1+1) y (by simp only[Tr.get];rw[show (2*i+1)%2=1 by omega,show (2*i+1) / 2=i by omega];exact c)) hm
  refine key _ (fun i y c=>?_) hj;rw[hm]at c;split at c
  ·cases c;exact u
  cases c
 rw[q j m];split at h
 ·rename_i es he;exact⟨es,he⟩
 cases h
section
variable {P:Program} {T:Tab} (hT:B7 P T) {Φ:G6} (hΦ:ir0 P Φ) {F:FuncId->Option Func} (hF:∀ f fn,F f=some fn->P.funcs[f]?=some fn) {Q:AV->Prop}
def xz0(T:Tab)(Φ:G6)(Q:AV->Prop)(fr:Nat)(θ:Nat->AV)(A:Nat->List AV->Prop)(k:KS)(s':AS):Prop :=∃ a c b d,fr<=b/\Fit a/\(∀ i,i<fr->a i=θ i)/\(∀ l,l<fr->d l=A l)/\s'=AS.sub a c/\E1 T Φ Q (k c b) a d
def qQ0(T:Tab)(Φ:G6)(Q:AV->Prop)(fr:Nat)(θ:Nat->AV)(A:Nat->List AV->Prop)(k:KE)(e:Exit)(s':AS):Prop :=∃ c a d b g,e=EX.toExit c/\fr<=b/\Fit a/\(∀ i,i<fr->a i=θ i)/\(∀ l,l<fr->g l=A l)/\s'=AS.sub a d/\E1 T Φ Q (k c d b) a g
def ExOk(P:Program)(T:Tab)(Φ:G6)(Q:AV->Prop)(ex:Exe):Prop :=∀ n c s fr k θ A,Fit θ->E1 T Φ Q (ex n c s fr k) θ A->BWp P n c (qQ0 T Φ Q fr θ A k) (AS.sub θ s)
omit hT hΦ hF in
theorem nA0{Φ:G6}{f:FuncId}{φ:List AV->Option AV}(h:Φ.srt f=some φ):f<XT/\Φ (XT+f)=some φ:=by
 unfold G6.srt at h;split at h
 ·rename_i a
  exact⟨by simpa using a,h⟩
 cases h
omit hT hΦ hF in
theorem sw0{T:Tab}{σ:c8}{t k g:TypeId}{ti a:TI}{x ix w:AV}(h:E5 T σ t x ix true=some (.tup [w,.sc (.bool false)]))(i:T t=some ti)(hu:ti.und=.map k g)(e:T g=some a):E5 T σ t x ix false=some a.zeroAV:=by
 obtain⟨und,size,zero,bytes,flat⟩:=ti;simp only at hu;subst hu;unfold E5 at h ⊢;split at h
 ·rename_i m n _ _ _ _ b l d hk
  rw[i]at d;cases d;simp only[i,hk,e]at h ⊢;have fin:∀ {es:List (List Int×AV×Nat)},AV.tup [(match I5 b l es 0 with | some (_,c)=>(c,true) | none=>(a.zeroAV,false)).1,.sc (.bool (match I5 b l es 0 with | some (_,c)=>(c,true) | none=>(a.zeroAV,false)).2)]=.tup [w,.sc (.bool false)]->(match I5 b l es 0 with | some (_,c)=>(c,true) | none=>(a.zeroAV,false)).1=a.zeroAV:=fun {es} he=>by
   cases hm:I5 b l es 0 with
   | none=>rfl
   | some q=>rw[hm]at he;simp at he
  cases x with
  | mm id=>
   simp only at h ⊢;cases j:σ.objs id with
   | none=>rw[j]at h;cases h
   | some o=>
    rw[j]at h;cases o with
    | map agg es c=>
     simp only at h ⊢;split at h
     ·rename_i hc
      rw[Af hc];simp only[Al,ai]at h;simp only[au,Ah,ai];exact fin h
     cases h
    | _=>cases h
  | rm c=>
   cases c with
   | rs rows=>
    simp only at h ⊢;split at h
    ·rename_i hc
     rw[Af hc];simp only[Al,ai]at h;simp only[au,Ah,ai];exact fin h
    cases h
   | _=>cases h
  | _=>cases h
 cases h
include hT in
theorem ny0{ops:Array Oper}{n0 n i:Nat}{rest:List Nat}{o:Oper}(t:ops[i]?=some o)(hi:i∉rest){s:AS}{fr:Nat}{u:KS}{θ:Nat->AV}{A:Nat->List AV->Prop}(p:Fit θ)
  (hw:E4 ops (s.sub θ) o=some true) (k:U6 (s.sub θ).n o.dst=true) {w:AS->Prop}
  (hk:∀ s' e a x,fr<=e->Fit a->(∀ j,j<fr->a j=θ j)->(∀ l,l<fr->x l=A l)->E1 T Φ Q (u s' e) a x->ad0 P ops n0 n w rest (AS.sub a s'))
  (h:E1 T Φ Q (sX0 T (n0+i) o o.op s fr u) θ A):ad0 P ops n0 n w (i::rest) (s.sub θ):=by
 unfold sX0 at h;split at h
 ·rename_i ro pat v σ' e z
  split at h
  ·rename_i b
   rw[ab]at b;obtain⟨a,g,f1,e1,hl⟩:=h;have d:=nO0 (T:=T) (Φ:=Φ) g b.1 p z e1;have c:s.sub a=s.sub θ:=AS.sub_agree g b.1;have hst:s.st.sub a=(s.sub θ).st:=by rw[<- c];rfl
   rw[c,hst]at d;refine ad0.plain hT t hi hw k d ?_;have:=hk _ _ _ _ (aQ b.2) f1 g (fun _ _=>rfl) hl;rw[AS.sub_put,c]at this;exact this
  exact h.elim
 split at h
 ·rename_i ro v s' hst
  split at h
  ·rename_i b
   obtain⟨a,g,f1,e1,hl⟩:=h;obtain⟨q,d,r⟩:=rq0 (T:=T) (Φ:=Φ) g b hst e1;have c:s.sub a=s.sub θ:=AS.sub_agree g b;have m:s.st.sub a=(s.sub θ).st:=by rw[<- c];rfl
   rw[c,m]at d;refine ad0.plain hT t hi hw k (d _) ?_;have:=hk _ _ _ _ (eR _) f1 g (fun _ _=>rfl) hl;have e2:(s'.put o.dst v).sub a=({ s.sub θ with st:=q }.put o.dst (v.sub a)):=by have e4:=AS.sub_put a s' s'.st o.dst v;have e5:({ s'.sub a with st:=s'.st.sub a }:AS)=s'.sub a:=rfl;rw[e5,r,c]at e4;exact e4
   rw[e2]at this;exact this
  exact h.elim
 exact h.elim
include hT hΦ hF in
theorem qU0{ex:Exe}(hex:ExOk P T Φ Q ex){ops:Array Oper}{n0 n i:Nat}{rest:List Nat}{o:Oper}(ho:ops[i]?=some o)(hi:i∉rest){s:AS}{fr:Nat}{kk:KS}{θ:Nat->AV}{A:Nat->List AV->Prop}(hθ:Fit θ)
  (hw:E4 ops (s.sub θ) o=some true) (hd:U6 s.n o.dst=true) {Qs:AS->Prop}
  (hk:∀ s' X d A',fr<=X->Fit d->(∀ j,j<fr->d j=θ j)->(∀ l,l<fr->A' l=A l)->E1 T Φ Q (kk s' X) d A'->ad0 P ops n0 n Qs rest (AS.sub d s'))
  (h:E1 T Φ Q (sOne T Φ F ex (n0+i) o s fr kk) θ A):ad0 P ops n0 n Qs (i::rest) (s.sub θ):=by
 have K:U6 (s.sub θ).n o.dst=true:=hd;unfold sOne at h;split at h
 ·rename_i fo args ts Y
  split at h
  ·rename_i f first cap hfo
   have U:(s.sub θ).eval fo=.fn (.func f) (first.map (AV.sub θ)) (cap.map (AV.sub θ)):=by rw[AS.sub_eval,hfo,rI0]
   have r:first.map (AV.sub θ)++args.toList.map (s.sub θ).eval++cap.map (AV.sub θ)=(first++args.toList.map s.eval++cap).map (AV.sub θ):=by simp only[cF,cQ];congr 2;apply bq;intro x _;exact AS.sub_eval θ s x
   split at h
   ·
    rename_i xv ro s' k;split at h
    ·rename_i p
     obtain⟨g,a0,f0,e0,d,a1',f1,e1,hl⟩:=h;have I:∀ i,i<fr->d i=θ i:=fun i hi=>(a1' i hi).trans (a0 i hi);unfold sSort at k;split at k
     ·cases k
     rename_i φ C;split at k
     ·rename_i id z j rest L
      split at k
      ·rename_i e z' V hobj
       split at k
       ·rename_i crest hcc hcr
        simp only[ab,bk]at hcc;obtain⟨rfl,rfl⟩:=hcc;cases k;obtain⟨k1,hj⟩:=ed0 (θ:=θ) I p hobj;have u:s.sub d=s.sub θ:=AS.sub_agree I p;have J:s.st.sub d=s.st.sub θ:=Ap AS.st u;have hs0:s.sub g=s.sub θ:=AS.sub_agree a0 p;have hst0:s.st.sub g=s.st.sub θ:=Ap AS.st hs0;simp only[j4]at e0;split at e0;rotate_left
        ·cases e0
        rename_i M;have hφ':Φ (XT+f)=some φ:=(nA0 C).2;simp only[j4,hφ',ay,p7,F9]at e1;split at e1
        ·rename_i c hc
         simp only[au,false_implies,Al,ai]at e1;obtain⟨es,es',q1,q2,q3,q4⟩:=hΦ.sort f φ (nA0 C).1 hφ' _ _ _ _ hc;have q1':θ j=.rs es:=by rw[<- a0 j hj];exact q1
         have hl':(rowsOf (d fr)).length=(rowsOf (d j)).length:=by rw[<- e1,I j hj,q1',q2];exact q3
         rw[q1']at k1;have k2:(s.st.sub θ).objs id=some (.row e z es):=by rw[<- J];exact k1
         have hread:∀ G vs w,B6 G (rest.map (AV.sub g)) vs->Rel G ((s.st.sub θ).del id) w->B6 (G.frozen ((s.st.sub θ).del id) w (fun _=>none)) (crest.map (AV.sub g)) vs:=fun G vs w h1 h2=>by
          rw[<- hst0,<-c8.sub_del]at h2 ⊢;obtain⟨g1,g2⟩:=av0 hcr;refine⟨by rw[h1.1];simp[g1],fun a ha ha'=>?_⟩;have ha1:a<crest.length:=by simpa using ha
          have ha2:a<rest.length:=by omega
          have hxv:∀ V,V∈al0 (s.st.del id).tr->bY V fr=true->∃ es,g V=.rs es:=fun V hm W=>by
           have hm:=ak.1 M V hm;rw[a0 V (by simpa using W)];split at hm
           ·rename_i es he;exact⟨es,he⟩
           cases hm
          have hold:∀ id' o',(s.st.del id).objs id'=some o'->s.st.objs id'=some o':=fun id' o' D=>fc0 D;have:=du0 (θ:=g) f0 h2 (fun _=>none) (fun id' e' z' V D=>?_) (fun id' V D=>?_) 50 _ _ vs[a] (g2 a ha2 ha1) (by
           have:=h1.2 a (by simpa using ha2) ha';rw[cd]at this;exact this)
          ·simpa using this
          ·have W:=s.bnd_obj p (hold _ _ D)
           simp only[j5.bnd]at W;exact hxv V (aS0 D) W
          have W:=s.bnd_obj p (hold _ _ D);simp only[j5.bnd,AV.bnd]at W;exact hxv V (X8 D) W
         have H:=q4 (s.st.sub θ) id e (rest.map (AV.sub g)) k2 hread;have N:first.map (AV.sub θ)++args.toList.map (s.sub θ).eval++cap.map (AV.sub θ)=.ms id z 0 es.length::rest.map (AV.sub g):=by
          have O:=s.bnd_eval p fo;rw[hfo]at O;simp only[AV.bnd,ab]at O;have q1:first.map (AV.sub g)=first.map (AV.sub θ):=by rw[<- I3,<-I3,K7 a0 first O.1]
          have q2:cap.map (AV.sub g)=cap.map (AV.sub θ):=by rw[<- I3,<-I3,K7 a0 cap O.2]
          have q3:(first++args.toList.map s.eval++cap).map (AV.sub θ)=(first++args.toList.map s.eval++cap).map (AV.sub g):=by simp only[cF,cQ];rw[q1,q2];congr 2;apply bq;intro x _;exact(sub_agree a0 _ (s.bnd_eval p x)).symm
          rw[r,q3,L,ay];simp only[AV.sub,a0 j hj,q1',rowsOf]
         rw[<- N]at H;refine ad0.turns ho Y hw K U (σ1:=(s.st.sub θ).set id (.row e z es')) (ar _) H ?_;have:=hk _ _ _ _ (eR _) f1 I (fun _ _=>rfl) hl;have e2:(({ s.refr id j fr with st:=(s.refr id j fr).st.set id (.xrow e z fr) }:AS).put o.dst (.tup [])).sub d=({ s.sub θ with st:=(s.st.sub θ).set id (.row e z es') }.put o.dst (.tup [])):=by have r1:=AS.refr_sub (id:=id) (j:=j) (fr:=fr) hl' s;have r2:(s.refr id j fr).st.sub d=s.st.sub d:=Ap AS.st r1;have e4:=AS.sub_put d (s.refr id j fr) ((s.refr id j fr).st.set id (.xrow e z fr)) o.dst (.tup []);rw[e4,r1,c8.sub_set,r2,u,J];simp only[j5.sub,<-e1,q2,rowsOf];rfl
         rw[e2]at this;exact this
        cases e1
       cases k
      cases k
     cases k
    exact h.elim
   split at h
   ·
    rename_i ro v s' k;split at h
    ·rename_i p
     obtain⟨d,I,f1,e1,hl⟩:=h;unfold sRow at k;split at k
     ·cases k
     rename_i φ C;split at k
     ·rename_i j L
      split at k
      ·rename_i fn hfn
       split at k
       ·rename_i t hrt
        split at k
        ·rename_i elem z1 z2 z3 z4 ht
         split at k
         ·rename_i ei hei
          cases k;simp only[j4,C,ay,bA,p7]at e1;split at e1
          ·rename_i c hc
           simp only[au,false_implies,Al,ai]at e1;obtain⟨es,q1,q2⟩:=hΦ.row f φ C _ _ hc;have H:=q2 T fn t elem _ ei hT (hF f fn hfn) hrt ht rfl hei (s.st.sub θ);have N:first.map (AV.sub θ)++args.toList.map (s.sub θ).eval++cap.map (AV.sub θ)=[θ j]:=by rw[r,L];rfl
           rw[<- N]at H;refine ad0.turns ho Y hw K U (c:=.ms ((s.st.sub θ).next+5) ei.size 0 es.length) (σ1:=({ s.st.sub θ with next:=(s.st.sub θ).next+7 }:c8).set ((s.st.sub θ).next+5) (.row elem ei.size es)) (aO _ 7) H ?_;have:=hk _ _ _ _ (eR _) f1 I (fun _ _=>rfl) hl;have e2:(({ s with st:=({ s.st with next:=s.st.next+7 }:c8).set (s.st.next+5) (.xrow elem ei.size fr) }:AS).put o.dst (.ss (s.st.next+5) ei.size fr)).sub d=({ s.sub θ with st:=({ s.st.sub θ with next:=(s.st.sub θ).next+7 }:c8).set ((s.st.sub θ).next+5) (.row elem ei.size es) }.put o.dst (.ms ((s.st.sub θ).next+5) ei.size 0 es.length)):=by have e4:=AS.sub_put d s (({ s.st with next:=s.st.next+7 }:c8).set (s.st.next+5) (.xrow elem ei.size fr)) o.dst (.ss (s.st.next+5) ei.size fr);have u:s.sub d=s.sub θ:=AS.sub_agree I p;have J:s.st.sub d=s.st.sub θ:=Ap AS.st u;rw[e4,u,c8.sub_set];have e5:({ s.st with next:=s.st.next+7 }:c8).sub d={ s.st.sub d with next:=(s.st.sub d).next+7 }:=rfl;rw[e5,J];simp only[j5.sub,AV.sub,<-e1,q1,rowsOf];rfl
           rw[e2]at this;exact this
          cases e1
         cases k
        cases k
       cases k
      cases k
     cases k
    exact h.elim
   unfold sCall at h;split at h
   ·exact h.elim
   rename_i fn hfn;split at h
   ·rename_i φ C
    replace C:=G6.at_fn C;split at h
    ·rename_i pat X hpat
     split at h
     ·rename_i p
      rw[ab]at p;have hle:=aQ p.2;split at h
      ·rename_i Z E
       obtain⟨g,I,f1,e1,B,a2,f2,e2,hl⟩:=h;simp only[j4]at e1 e2;split at e1
       ·rename_i M
        rw[(G6.fn_eq C).2]at e2;simp only at e2;split at e2
        ·rename_i c hc
         split at e2
         ·rename_i hflat
          simp only[ai]at e2;have u:s.sub g=s.sub θ:=AS.sub_agree I p.1;have hs2:s.sub B=s.sub θ:=by rw[AS.sub_agree a2 p.1,u]
          obtain⟨cargs0,R,rfl⟩:∃ l,od0 (ak0 s.st 50) (first++args.toList.map s.eval++cap)=some l/\Z=kn0 l:=by
           unfold nj0 at E;split at E
           ·cases E
           split at E
           ·rename_i l hl2;cases E;exact⟨_,hl2,rfl⟩
           cases E
          have S:=hΦ.memo f φ (G6.fn_eq C).1 (G6.fn_eq C).2 _ _ hc;have htold:Told P f ((first++args.toList.map s.eval++cap).map (AV.sub g)) (s.st.sub g) c:=by
           refine kR0 S (hflat trivial) (fun G vs w hr hrel=>?_);obtain⟨g1,g2⟩:=av0 R;refine⟨by rw[hr.1,cl0];simp[g1],fun j hj hj'=>?_⟩;have hj1:j<cargs0.length:=by simpa[cl0]using hj
           have hj2:j<(first++args.toList.map s.eval++cap).length:=by omega
           have:=du0 (θ:=g) f1 hrel (fun _=>none) (fun id e z V D=>?_) (fun id V D=>?_) 50 _ _ vs[j] (g2 j hj2 hj1) (by
            have:=hr.2 j (by simpa using hj2) hj';rw[cd]at this;exact this)
           ·have:=dl0 _ _ this
            simpa[cl0]using this
           ·have hm:=ak.1 M V (aS0 D)
            have W:=s.bnd_obj p.1 D;simp only[j5.bnd,aV]at W;rw[I V W];split at hm
            ·rename_i es he;exact⟨es,he⟩
            cases hm
           have hm:=ak.1 M V (X8 D);have W:=s.bnd_obj p.1 D;simp only[j5.bnd,AV.bnd,aV]at W;rw[I V W];split at hm
           ·rename_i es he;exact⟨es,he⟩
           cases hm
          have hargs1:(first++args.toList.map s.eval++cap).map (AV.sub g)=(first++args.toList.map s.eval++cap).map (AV.sub θ):=by
           rw[<- r];have e:(s.sub g).eval=(s.sub θ).eval:=by rw[u]
           have O:=s.bnd_eval p.1 fo;rw[hfo]at O;simp only[AV.bnd,ab]at O;have q1:first.map (AV.sub g)=first.map (AV.sub θ):=by rw[<- I3,<-I3,K7 I first O.1]
           have q2:cap.map (AV.sub g)=cap.map (AV.sub θ):=by rw[<- I3,<-I3,K7 I cap O.2]
           simp only[cF,cQ];rw[q1,q2];congr 2;apply bq;intro x _;have:=congrFun e x;rw[AS.sub_eval]at this;exact this
          have J:s.st.sub g=s.st.sub θ:=c8.sub_agree I p.1;rw[hargs1,J,<-r]at htold;refine ad0.told ho Y hw K U htold ?_;have:=hk (s.put o.dst pat) X B A hle f2 (fun j hj=>(a2 j hj).trans (I j hj)) (fun _ _=>rfl) hl;have e3:=AS.sub_put B s s.st o.dst pat;have e4:({ s with st:=s.st }:AS)=s:=rfl;rw[e4]at e3;rw[e3]at this;have e5:({ s.sub B with st:=s.st.sub B }:AS)=s.sub B:=rfl;rw[e5,hs2,<-e2]at this;exact this
         cases e2
        cases e2
       cases e1
      ·rename_i Z E
       obtain⟨B,a2,f2,e2,hl⟩:=h;simp only[j4]at e2;rw[(G6.fn_eq C).2]at e2;simp only at e2;split at e2
       ·rename_i c hc
        split at e2
        ·simp only[ai]at e2
         have hs2:s.sub B=s.sub θ:=AS.sub_agree a2 p.1;have R:Z=first++args.toList.map s.eval++cap:=by
          unfold nj0 at E;split at E
          ·cases E;rfl
          split at E<;>cases E
         rw[R]at hc;have S:=hΦ.memo f φ (G6.fn_eq C).1 (G6.fn_eq C).2 _ _ hc (s.st.sub θ);rw[<- r]at S;refine ad0.told ho Y hw K U S ?_;have:=hk (s.put o.dst pat) X B A hle f2 a2 (fun _ _=>rfl) hl;have e3:=AS.sub_put B s s.st o.dst pat;have e4:({ s with st:=s.st }:AS)=s:=rfl;rw[e4]at e3;rw[e3]at this;have e5:({ s.sub B with st:=s.st.sub B }:AS)=s.sub B:=rfl;rw[e5,hs2,<-e2]at this;exact this
        cases e2
       cases e2
      exact h.elim
     exact h.elim
    exact h.elim
   split at h
   ·rename_i c W
    split at h
    ·rename_i hcc
     simp only[ab,bL]at hcc;obtain⟨⟨c1,c2⟩,c3⟩:=hcc;have:=hex _ _ _ _ _ _ _ hθ h;rw[gX0]at this;refine ad0.inline (n:=n) hT ho Y hw K U (hF f fn hfn) c2 W (by rw[r,aB];exact aQ c1) ?_;rw[r];refine BWp.mono this ?_;rintro e s' ⟨e',g,S1,fr1,A1,rfl,hfr,f1,I,b1,rfl,hl⟩;have u:s.sub g=s.sub θ:=AS.sub_agree I c3;have fin:∀ v,D1 T fn S1=some v->E1 T Φ Q (kk ({ s with st:=S1.st }.put o.dst v) fr1) g A1->∃ v,D1 T fn (S1.sub g)=some v/\ad0 P ops n0 n Qs rest ({ s.sub θ with st:=(S1.sub g).st }.put o.dst v):=fun v hv hl=>by refine⟨v.sub g,dj0 hv,?_⟩;have:=hk _ _ _ _ hfr f1 I b1 hl;rw[AS.sub_put,u]at this;exact this
     cases e' with
     | exi j=>exact hl.elim
     | nor=>
      simp only at hl;split at hl
      ·rename_i v hv;exact⟨.inl rfl,fin v hv hl⟩
      exact hl.elim
     | ret=>
      simp only at hl;split at hl
      ·rename_i v hv;exact⟨.inr rfl,fin v hv hl⟩
      exact hl.elim
    exact h.elim
   exact h.elim
  exact h.elim
 split at h
 ·rename_i v σ' ha
  have ha':=ru0 hθ (sn0 ha);have e:(fun x=>(s.eval x).sub θ)=(s.sub θ).eval:=(AS.sub_evalF θ s).symm;rw[e]at ha';refine ad0.plain hT ho hi hw K ha' ?_;have:=hk _ _ _ _ (ar _) hθ (fun _ _=>rfl) (fun _ _=>rfl) h;rw[AS.sub_put]at this;exact this
 split at h
 ·rename_i ro vz q
  split at h
  ·rename_i p
   obtain⟨d,I,f1,e1,hl⟩:=h;have u:s.sub d=s.sub θ:=AS.sub_agree I p;rcases hl with ⟨_,hl⟩ | ⟨W,hl⟩
   ·have:=ny0 hT ho hi f1 (by rw[u];exact hw) (by rw[u];exact K) (fun s' X B A' q1 q2 q3 q4 q5=>hk s' X B A' (by omega) q2 (fun j hj=>(q3 j (by omega)).trans (I j hj)) (fun l hl=>q4 l (by omega)) q5) hl
    rw[u]at this;exact this
   have ha':aop T (s.sub θ).eval (s.sub θ).st (n0+i) o.op=some (vz,(s.sub θ).st):=by
    unfold rc0 at q;split at q
    ·rename_i t x ix Y
     split at q
     ·rename_i kt et _ _ _ _ m ht hx
      split at q
      ·rename_i ei hei
       split at q
       ·cases q
        simp only[j4,p7]at e1;have hev:∀ y,(s.sub θ).eval y=(s.eval y).sub θ:=fun y=>AS.sub_eval θ s y;split at e1
        ·rename_i w b hlk
         rw[W]at e1;cases e1;simp only[Y,aop,hev,hx,p7];rw[fq0 (s.sub θ).st c8.none (fun id e=>by have:=hθ m;rw[e]at this;exact this),sw0 hlk ht rfl hei]
        cases e1
       cases q
      cases q
     cases q
    cases q
   have hvz:vz.sub d=vz:=by
    unfold rc0 at q;split at q
    ·split at q
     ·split at q
      ·split at q
       ·cases q;exact bM0 _
       cases q
      cases q
     cases q
    cases q
   refine ad0.plain hT ho hi hw K ha' ?_;have:=hk _ _ _ _ (eR _) f1 I (fun _ _=>rfl) hl;have e4:=AS.sub_put d s s.st o.dst vz;have e5:({ s.sub d with st:=s.st.sub d }:AS)=s.sub d:=rfl;rw[e5,hvz,u]at e4;have e6:({ s with st:=s.st }:AS)=s:=rfl;rw[e6]at e4;rw[e4]at this;exact this
  exact h.elim
 exact ny0 hT ho hi hθ hw K hk h
include hT hΦ hF in
theorem sf0{ex:Exe}(hex:ExOk P T Φ Q ex){ops:Array Oper}{n0 n i:Nat}{rest:List Nat}{o:Oper}(w:ops[i]?=some o)(hi:i∉rest){E:AS->Prop}:∀ (m:Nat) {s:AS} {fr:Nat} {u:KS} {θ:Nat->AV} {A:Nat->List AV->Prop} (d:Fit θ)
  (hw:E4 ops (s.sub θ) o=some true) (q:U6 s.n o.dst=true)
  (hk:∀ s' e c v,fr<=e->Fit c->(∀ j,j<fr->c j=θ j)->(∀ l,l<fr->v l=A l)->E1 T Φ Q (u s' e) c v->ad0 P ops n0 n E rest (AS.sub c s'))
  (h:E1 T Φ Q (sFz T Φ F ex ops (n0+i) o fr u m s) θ A),ad0 P ops n0 n E (i::rest) (s.sub θ)
 | 0,s,fr,u,θ,A,d,hw,q,hk,h=>qU0 hT hΦ hF hex w hi d hw q hk h
 | m+1,s,fr,u,θ,A,d,hw,q,hk,h=>by
  unfold sFz at h;split at h
  ·rename_i a x b
   have g:s.st.objs a=some x:=by
    unfold rU0 at b;split at b
    ·rename_i p hp
     cases b;unfold frzOf at hp;split at hp
     ·split at hp
      ·rename_i z;cases hp;exact z
      cases hp
     cases hp
    split at b
    ·split at b
     ·split at b
      ·split at b
       ·cases b
       split at b
       ·split at b
        ·rename_i z;cases b;exact z
        cases b
       cases b
      cases b
     cases b
    cases b
   split at h
   ·rename_i r
    split at h
    ·rename_i B
     obtain⟨t,C,f1,e1,hl⟩:=h;simp only[j4]at e1;split at e1
     ·rename_i k
      have D:s.sub t=s.sub θ:=AS.sub_agree C r;rw[<- D];refine ad0.freeze f1 g (iV0 r g C k) ?_;exact sf0 hex w hi m f1 (aM0 t B) q (fun s' e c v q1 q2 q3 q4 q5=>hk s' e c v q1 q2 (fun j hj=>(q3 j hj).trans (C j hj)) q4 q5) hl
     cases e1
    exact h.elim
   exact h.elim
  exact qU0 hT hΦ hF hex w hi d hw q hk h
include hT in
theorem sC0{G:c9}{σ:c8}{w:World}(h:Rel G σ w){t:TypeId}{id:Nat}(hid:G.pl id=none)(a:id<σ.next){c:Nat}{z:Value}{d:Nat}{e:Option Nat}(g:T t=some ⟨.string,c,z,d,e⟩){b:ByteArray}{u:Value}(i:Rep G (.sc (.string b)) u) :
  I7 G σ w (σ.set id (.siter b 0)) id (.it id) ((iX t u).run P w):=by
 cases i;simp only[iX,al,A5 hT g,ah,ao,run_newObj];let q:Pl:={ block:=w.heap.size,size:=1,cap:=1 };have j:=h.push (.stringIter b 0) id hid a q rfl rfl (.siter b 0) rfl;exact I7.place (p:=q) hid (.it id q (c9.place_same _ _ _)) j (Fr.push _ id hid q (fun _=>rfl) _ w.drawn)
theorem oz0{G:c9}{σ:c8}{w:World}(h:Rel G σ w){id a:Nat}{b:ByteArray}{pos:Nat}(g:σ.objs a=some (.siter b pos)){ty:TypeId}{u:Value}(m:Rep G (.it a) u) :
  (pos<b.size->I7 G σ w (σ.set a (.siter b (pos+(bS b pos).2))) id (.tup [.sc (.bool true),.sc (.int .i64 pos),.sc (.int .i32 (bS b pos).1)]) ((fR u true ty).run P w)) /\
  (¬ pos<b.size->I7 G σ w σ id (.tup [.sc (.bool false)]) ((fR u true ty).run P w)):=by
 cases m with
 | it _ p hp=>
 have hv:p.virt=false:=by
  rcases h.lies g hp with ⟨_,_,_,e2⟩ | ⟨e2,_⟩
  ·cases e2
  exact e2
 obtain⟨_,_,d⟩:=h.real g hp hv;have j:w.heap[p.block]?=some (.stringIter b pos):=d;have N6:(getObj p.block).run P w=.ok (.stringIter b pos) w:=by simp[getObj,Sem.run,j]
 have e:∀ o,(setObj p.block o).run P w=.ok () (D0 w p.block o):=fun o=>do0 j (by intro _ _ _ h;cases h);constructor
 ·intro c
  refine⟨G,.tuple #[.bool true,.int .i64 pos,.int .i32 (bS b pos).1],D0 w p.block (.stringIter b (pos+(bS b pos).2)),.refl G,fun _ _ h=>h,?_,?_,?_,?_⟩
  ·simp only[fR,al,N6,ah,c,Al,e,ao]
   rfl
  ·exact .tup _ _ rfl (fun i hi l=>by
    match i,hi with
    | 0,_=>exact .sc _
    | 1,_=>exact .sc _
    | 2,_=>exact .sc _)
  ·exact h.write g hp hv _ _ rfl rfl rfl (C2 _ _ _) (fun k hk=>A9 _ _ _ _ hk) (L7 _ _ _ _ j) rfl
  exact Fr.write g hp hv _ (C2 _ _ _) (fun k hk=>A9 _ _ _ _ hk)
 intro c;refine⟨G,.tuple #[.bool false],w,.refl G,fun _ _ h=>h,?_,.tup _ _ rfl (fun i hi l=>?_),h,.refl _ _ _⟩
 ·simp only[fR,al,N6,ah,c,Ah,ao]
 have:i=0:=by simp at hi;omega
 subst this;exact .sc _
theorem ad0.step{ops:Array Oper}{n0 n i:Nat}{rest:List Nat}{o:Oper}{s:AS}{Q:AS->Prop}{v:AV}{σ':c8}(q:ops[i]?=some o)(hi:i∉rest)(hw:E4 ops s o=some true)(t:U6 s.n o.dst=true)(z:σ'.next=s.st.next)
  (ha:∀ (G:c9) (w:World) (ev:Operand->Value),Rel G s.st w->(∀ x,Rep G (s.eval x) (ev x))->G.pl (n0+i)=none->n0+i<s.st.next->aK0 G s.st w σ' (n0+i) v ((execOp ev o).run P w)) (h:ad0 P ops n0 n Q rest ({ s with st:=σ' }.put o.dst v)):ad0 P ops n0 n Q (i::rest) s:=by
 intro G a w d hf N g;have B:i<ops.size:=(Array.getElem?_eq_some_iff.1 q).1;simp only[wpOps,q,U4 d hw,Al];left;obtain⟨G',u,w',h1,h2,c,C,D,l⟩:=ha G w a.eval d.rel d.eval (hf i (by simp)).2 (by omega);have m:∀ j∈rest,n0+j≠n0+i:=fun j hj e=>hi (by have E:j=i:=Nat.add_left_cancel e;rw[<- E];exact hj);have key:=h G' (a.put o.dst u) w' (d.put h1 D C t) (fun j hj=>⟨(hf j (by simp[hj])).1,h2 _ (m j hj) (hf j (by simp[hj])).2⟩) (by simp;omega) g;have H:U7 n G s.st w G' σ' w':=⟨h1.w0,h1.imm,fun k hk=>by
  cases hp:G.pl k with
  | none=>exact h2 k (by omega) hp
  | some p=>exact h1.pl k p hp,by omega,l⟩
 have b:=C5 (P:=P) (ops:=ops) (Q':=fun e r w'=>e=.normal/\∃ s' G',U7 n G s.st w G' s'.st w'/\ba0 G' s' r w'/\Q s') (fun e r w' ⟨e1,s',I,J,K,L⟩ =>
  ⟨e1,s',I,H.trans (by simpa using J) (ar _),K,L⟩) rest _ _ key
 unfold Oper.wp;rcases c with c | ⟨c,M⟩
 ·rw[c];exact b
 rw[c];subst M;exact b
include hT hΦ hF in
theorem uY0{ex:Exe}(hex:ExOk P T Φ Q ex){ops:Array Oper}{n0 n i:Nat}{rest:List Nat}{o:Oper}(K:ops[i]?=some o)(hi:i∉rest){W:AS->Prop}{s:AS}{fr:Nat}{X:KS}{θ:Nat->AV}{A:Nat->List AV->Prop}(L:Fit θ)
  (hw:E4 ops (s.sub θ) o=some true) (S:U6 s.n o.dst=true)
  (hk:∀ s' M k Y,fr<=M->Fit k->(∀ j,j<fr->k j=θ j)->(∀ l,l<fr->Y l=A l)->E1 T Φ Q (X s' M) k Y->ad0 P ops n0 n W rest (AS.sub k s'))
  (h:E1 T Φ Q (sIt T Φ F ex ops (n0+i) o fr X s) θ A):ad0 P ops n0 n W (i::rest) (s.sub θ):=by
 have E:U6 (s.sub θ).n o.dst=true:=S;unfold sIt at h;split at h
 ·rename_i t x m
  split at h
  ·rename_i sz z bt fl ht
   split at h
   ·rename_i j hj
    split at h
    ·rename_i d
     obtain⟨c,q,f1,e1,hl⟩:=h;have r:s.sub c=s.sub θ:=AS.sub_agree q d;simp only[j4]at e1;split at e1
     ·rename_i b H
      rw[p7]at H;have N:j<fr:=by have:=s.bnd_eval d x;rw[hj]at this;simpa[AV.bnd,aV]using this
      have hst:s.st.sub c=(s.sub θ).st:=by rw[<- r];rfl
      refine ad0.step (σ':=(s.sub θ).st.set (n0+i) (.siter b 0)) (v:=.it (n0+i)) K hi hw E rfl (fun G w ev O e I J=>?_) ?_
      ·have C:=e x
       rw[AS.sub_eval,hj,p7,H]at C;simp only[execOp,m];exact aK0.of (sC0 hT O I J ht C)
      have:=hk _ _ _ _ (ar _) f1 q (fun _ _=>rfl) hl;rw[AS.sub_put,r,c8.sub_set,hst]at this;have e2:(j5.xiter (.sy j) (.sc (.int .i64 0))).sub c=.siter b 0:=by simp only[j5.sub,p7,F9,q j N,H,strOf,Q5];rfl
      rw[e2]at this;exact this
     cases e1
    exact h.elim
   exact h.elim
  exact sf0 hT hΦ hF hex K hi 3 L hw S hk h
 ·rename_i it m
  split at h
  ·rename_i a ha
   split at h
   ·rename_i st p D
    split at h
    ·rename_i d
     obtain⟨c,q,f1,e1,hl⟩:=h;have r:s.sub c=s.sub θ:=AS.sub_agree q d;have u:=s.bnd_obj d D;simp only[j5.bnd,ab]at u;simp only[j4]at e1;split at e1
     ·rename_i b H
      split at e1
      ·rename_i n Z
       simp only[ai,p7]at e1;have g:(s.sub θ).st.objs a=some (.siter b n.toNat):=by rw[AS.sub_st,c8.sub_objs,D];simp only[aj,j5.sub,H,Z,strOf,Q5]
       rcases hl with ⟨t1,hl⟩ | ⟨t1,hl⟩
       ·
        rw[<- e1]at t1;simp only[AV.sc.injEq,gd,Ad]at t1;obtain⟨B,a2,f2,e2,hl⟩:=hl;have U:st.sub c=.sc (.string b):=by rw[sub_agree q st u.1,H]
        have V:p.sub c=.sc (.int .i64 n):=by rw[sub_agree q p u.2,Z]
        simp only[j4,U,V,Ao t1,ai,hM0,ay,bA,p7,AV.tup.injEq,b_,and_true]at e2;obtain⟨q1,q2,q3⟩:=e2;have a12:∀ j,j<fr->B j=θ j:=fun j hj=>(a2 j (by omega)).trans (q j hj);have R:s.sub B=s.sub θ:=AS.sub_agree a12 d;have hst:s.st.sub B=(s.sub θ).st:=by rw[<- R];rfl
        refine ad0.step (σ':=(s.sub θ).st.set a (.siter b (n.toNat+(bS b n.toNat).2))) (v:=.tup [.sc (.bool true),.sc (.int .i64 n.toNat),.sc (.int .i32 (bS b n.toNat).1)]) K hi hw E rfl (fun G w ev O e I J=>?_) ?_
        ·have C:=e it
         rw[AS.sub_eval,ha,qI0]at C;simp only[execOp,m];exact aK0.of ((oz0 O g C).1 t1)
        have:=hk _ _ _ _ (show fr<=fr+4 by omega) f2 a12 (fun _ _=>rfl) hl;rw[AS.sub_put,R,c8.sub_set,hst]at this;have e3:(j5.xiter st (.sy (fr+3))).sub B=.siter b (n.toNat+(bS b n.toNat).2):=by simp only[j5.sub,p7,sub_agree a12 st u.1,H,strOf,<-q3,Q5];rfl
        rw[e3]at this;simp only[hM0,ay,bA,F9,p7,<-q1,<-q2]at this;exact this
       
       rw[<- e1]at t1;simp only[AV.sc.injEq,gd,An]at t1;refine ad0.step (σ':=(s.sub θ).st) (v:=.tup [.sc (.bool false)]) K hi hw E rfl (fun G w ev O e I J=>?_) ?_
       ·have C:=e it
        rw[AS.sub_eval,ha,qI0]at C;simp only[execOp,m];exact aK0.of ((oz0 O g C).2 t1)
       have:=hk _ _ _ _ (show fr<=fr+1 by omega) f1 q (fun _ _=>rfl) hl;have e3:=AS.sub_put c s s.st o.dst (.tup [.sc (.bool false)]);have e4:({ s with st:=s.st }:AS)=s:=rfl;rw[e4]at e3;rw[e3]at this;have e5:({ s.sub c with st:=s.st.sub c }:AS)=s.sub c:=rfl;rw[e5,r]at this;rw[hM0,ay,bA,F9]at this;exact this
      cases e1
     cases e1
    exact h.elim
   exact h.elim
  exact h.elim
 exact sf0 hT hΦ hF hex K hi 3 L hw S hk h
include hT hΦ hF in
theorem nf0{ex:Exe}(hex:ExOk P T Φ Q ex){ops:Array Oper}{n0 n:Nat}:∀ (l:List Oper) (i:Nat) (s:AS) (fr:Nat) (k:KS) (θ:Nat->AV) (A:Nat->List AV->Prop),(∀ j:Nat,l[j]?=ops[i+j]?)->i+l.length=ops.size->Fit θ ->
  E1 T Φ Q (st0 T Φ F ex ops n0 l i s fr k) θ A->ad0 P ops n0 n (xz0 T Φ Q fr θ A k) (cW i l.length) (s.sub θ)
 | [],i,s,fr,k,θ,A,_,_,c,h=>ad0.nil ⟨θ,s,fr,A,ar _,c,fun _ _=>rfl,fun _ _=>rfl,rfl,h⟩
 | o::rest,i,s,fr,k,θ,A,hl,hlen,c,h=>by
  have C:ops[i]?=some o:=by have:=hl 0;simpa using this.symm
  have H:∀ j:Nat,rest[j]?=ops[i+1+j]?:=fun j=>by have:=hl (j+1);simpa[dy,d_ 1 j]using this
  have v:i+1+rest.length=ops.size:=by simp at hlen;omega
  have t:i∉cW (i+1) rest.length:=by simp[List.mem_range'_1];omega
  simp only[ax,List.range'_succ];have D:=fun s' g m I (J:fr<=g) (K:Fit m) (ha:∀ j,j<fr->m j=θ j) (U:∀ l,l<fr->I l=A l) (r:E1 T Φ Q (st0 T Φ F ex ops n0 rest (i+1) s' g k) m I)=>
   (show ad0 P ops n0 n (xz0 T Φ Q fr θ A k) (cW (i+1) rest.length) (AS.sub m s')from by
    have h1:=nf0 (n:=n) hex rest (i+1) s' g k m I H v K r;intro G a w g1 g2 g3 g4;refine C5 ?_ _ _ _ (h1 G a w g1 g2 g3 g4);rintro e a' w' ⟨e1,s2,V,W,X,L,Y,M,Z,q1,q2,q3,q4,q5,q6⟩;exact⟨e1,s2,V,W,X,L,Y,M,Z,bo J q1,q2,fun j hj=>(q3 j (by omega)).trans (ha j hj),fun l hl=>(q4 l (by omega)).trans (U l hl),q5,q6⟩)
  unfold st0 at h;split at h
  ·exact h.elim
  rename_i E;split at h
  ·rename_i hw
   exact uY0 hT hΦ hF hex C t c (aM0 θ hw) E D h
  ·rename_i hw
   refine ad0.skip C (aM0 θ hw) E ?_;have:=D _ _ _ _ (ar _) c (fun _ _=>rfl) (fun _ _=>rfl) h;have e3:=AS.sub_put θ s s.st o.dst (.sc undef);have e4:({ s with st:=s.st }:AS)=s:=rfl;have e5:({ s.sub θ with st:=s.st.sub θ }:AS)=s.sub θ:=rfl;rw[e4,e5,F9]at e3;rw[e3]at this;exact this
  rename_i hw;split at h
  ·rename_i j want q
   have x:∀ b,θ j=.sc (.bool b)->E4 ops (s.sub θ) o=some (b==want):=fun b u=>by
    unfold gs0 at q;unfold E4;split at q
    ·cases q
    rename_i j' w' N;rw[N];simp only;split at q
    ·rename_i d O
     rw[O];simp only;split at q
     ·rename_i B
      rw[aV]at B;rw[AS.sub_n,Af B,AS.sub_get];split at q
      ·rename_i i' R
       cases q;rw[R,p7,u]
      cases q
     cases q
    cases q
   have both:∀ b:Bool,θ j=.sc (.bool b)->E1 T Φ Q (match b==want with
     | true=>sIt T Φ F ex ops (n0+i) o fr (fun s' g=>st0 T Φ F ex ops n0 rest (i+1) s' g k) (s.ssub (aN0 j b))
     | false=>st0 T Φ F ex ops n0 rest (i+1) ((s.ssub (aN0 j b)).put o.dst (.sc undef)) fr k) θ A->ad0 P ops n0 n (xz0 T Φ Q fr θ A k) (i::cW (i+1) rest.length) (s.sub θ):=fun b u r=>by
    have S:=eI0 (θ:=θ) (j:=j) (b:=b) u s;have p:=x b u;rw[<- S]at p ⊢;split at r
    ·rename_i z
     rw[z]at p;exact uY0 hT hΦ hF hex C t c p E D r
    rename_i z;rw[z]at p;refine ad0.skip C p E ?_;have:=D _ _ _ _ (ar _) c (fun _ _=>rfl) (fun _ _=>rfl) r;have e3:=AS.sub_put θ (s.ssub (aN0 j b)) (s.ssub (aN0 j b)).st o.dst (.sc undef);have e4:({ s.ssub (aN0 j b)with st:=(s.ssub (aN0 j b)).st }:AS)=s.ssub (aN0 j b):=rfl;have e5:({ (s.ssub (aN0 j b)).sub θ with st:=(s.ssub (aN0 j b)).st.sub θ }:AS)=(s.ssub (aN0 j b)).sub θ:=rfl;rw[e4,e5,F9]at e3;rw[e3]at this;exact this
   rcases h with ⟨u,r⟩ | ⟨u,r⟩
   ·exact both true u r
   exact both false u r
  exact h.elim
theorem BWp.convEnd'{n:Nat}{c:Code}{Q':Exit->AS->Prop}{s:AS}(h:BWp P n c (fun e s1=>(∃ ι s2,Ren ι n s2 s1/\Q' e s2)\/Q' e s1) s):BWp P n c Q' s:=by
 intro i G a w j;refine wp_mono (h i G a w j) ?_;rintro e m w' ⟨s1,k,d,g,⟨ι,s2,l,b⟩ | b⟩
 ·obtain⟨h1,h2⟩:=l.rel g
  exact⟨s2,_,d.trans h2 (ar _),h1,b⟩
 exact⟨s1,k,d,g,b⟩
theorem hy0(θ:Nat->AV)(σ:c8):∀ (is:List Nat) (t:c8),(cT0 σ is t).sub θ=cT0 (σ.sub θ) is (t.sub θ)
 | [],t=>rfl
 | i::is,t=>by
  simp only[cT0];rw[hy0 θ σ is,c8.sub_objs];cases σ.objs i with
  | none=>rfl
  | some o=>simp only[aj];rw[c8.sub_set]
theorem hQ0(θ:Nat->AV)(σ:c8)(ids:List Nat):(small σ ids).sub θ=small (σ.sub θ) ids:=hy0 θ σ ids _
theorem ca0(θ:Nat->AV)(σ1:c8):∀ (is:List Nat) (σ:c8),(X0 σ1 is σ).sub θ=X0 (σ1.sub θ) is (σ.sub θ)
 | [],σ=>rfl
 | i::is,σ=>by
  simp only[X0];rw[ca0 θ σ1 is,c8.sub_objs];cases σ1.objs i with
  | none=>simp only[bO];rw[c8.sub_del]
  | some o=>simp only[aj];rw[c8.sub_set]
theorem qm0(θ:Nat->AV)(σ:c8)(ids:List Nat):saved (σ.sub θ) ids=(saved σ ids).map fun p=>(p.1,p.2.sub θ):=by unfold saved;rw[List.map_filterMap];congr 1;funext id;rw[c8.sub_objs];cases σ.objs id<;>rfl
theorem jk0(θ:Nat->AV):∀ (l:List (Nat×j5)) (σ:c8),(X4 l σ).sub θ=X4 (l.map fun p=>(p.1,p.2.sub θ)) (σ.sub θ)
 | [],σ=>rfl
 | p::l,σ=>by simp only[X4,ay];rw[jk0 θ l,c8.sub_del]
theorem jw0(θ:Nat->AV):∀ (l:List (Nat×j5)) (σ:c8),(bg0 l σ).sub θ=bg0 (l.map fun p=>(p.1,p.2.sub θ)) (σ.sub θ)
 | [],σ=>rfl
 | p::l,σ=>by simp only[bg0,ay];rw[jw0 θ l,c8.sub_set]
theorem nk0(θ:Nat->AV)(σ:c8)(ids:List Nat):(ik0 σ ids).sub θ=ik0 (σ.sub θ) ids:=by unfold ik0;rw[qm0];have a:=jw0 θ (saved σ ids) { X4 (saved σ ids) σ with low:=σ.next };have b:=jk0 θ (saved σ ids) σ;have c:c8.sub θ { X4 (saved σ ids) σ with low:=σ.next }={ c8.sub θ (X4 (saved σ ids) σ)with low:=σ.next }:=rfl;have d:∀ (x:c8) (l:Nat),c8.sub θ { x with low:=l }={ c8.sub θ x with low:=l }:=fun _ _=>rfl;rw[d,a,c,b];rfl
theorem nX0{θ:Nat->AV}(a:Fit θ)(v:AV):(v.sub θ).ids0=v.ids0:=by
 cases v with
 | sy i=>simpa[AV.ids0]using(a i).ids0
 | _=>simp[AV.ids0]
theorem kC0{θ:Nat->AV}(a:Fit θ)(s:AS)(op:Op):bj0 (s.sub θ).eval op=bj0 s.eval op:=by
 cases op with
 | call c=>obtain⟨callee,args,ts⟩:=c;cases callee<;>simp[bj0,AS.sub_eval,nX0 a]
 | _=>simp[bj0,AS.sub_eval,nX0 a]
def bV0(Φ:G6)(f:FuncId)(args:List AV)(σ:c8):Option (AV×c8):=match Φ.fn f with
 | some φ=>match φ args with
  | some c=>some (c,σ)
  | none=>none
 | none=>none
theorem nW0{ops:Array Oper}{n0 N mask i:Nat}{bar:Bool}{o:Oper}(hbar:bar=true->gd0 o.op=true){s:AS}{fr:Nat}{kk:KD}{θ:Nat->AV}{A:Nat->List AV->Prop}(D:Fit θ)(hw:E4 ops (s.sub θ) o=some true)(hd:U6 s.n o.dst=true)
  (h:E1 T Φ Q (sv0 T Φ F n0 N mask i bar o s fr kk) θ A):∃ b S' m f,fr<=m/\Fit b/\(∀ j,j<fr->b j=θ j)/\gj0 T (bV0 Φ) ops n0 N mask i bar (s.sub θ) o=some (AS.sub b S',f)/\E1 T Φ Q (kk S' m f) b A:=by
 have G:U6 (s.sub θ).n o.dst=true:=hd;unfold sv0 at h;split at h
 ·rename_i fo args ts q
  split at h
  ·rename_i f first cap V
   have E:(s.sub θ).eval fo=.fn (.func f) (first.map (AV.sub θ)) (cap.map (AV.sub θ)):=by rw[AS.sub_eval,V,rI0]
   have w:first.map (AV.sub θ)++args.toList.map (s.sub θ).eval++cap.map (AV.sub θ)=(first++args.toList.map s.eval++cap).map (AV.sub θ):=by simp only[cF,cQ];congr 2;apply bq;intro x _;exact AS.sub_eval θ s x
   unfold vO0 at h;split at h
   ·rename_i fn φ hfn I
    split at h
    ·rename_i pat m hpat
     split at h
     ·rename_i g
      simp only[ab]at g;obtain⟨⟨c1,c2⟩,c3⟩:=g;obtain⟨b,u,f1,e1,hl⟩:=h;simp only[j4,(G6.fn_eq I).2]at e1;split at e1
      ·rename_i c hc
       split at e1
       ·simp only[ai]at e1
        have r:s.sub b=s.sub θ:=AS.sub_agree u c1;have J:s.st.sub b=s.st.sub θ:=c8.sub_agree u c1;have K:∀ σ,bV0 Φ f ((first++args.toList.map s.eval++cap).map (AV.sub θ)) σ=some (c,σ):=fun σ=>by simp only[bV0,I,hc]
        cases bar with
        | true=>simp only at hl;refine⟨b,s.put o.dst pat,m,_,aQ c2,f1,u,?_,hl⟩;unfold gj0;rw[hw,G];simp only[q,E,Al];rw[w,K];simp only[ar,Al];have e3:=AS.sub_put b s s.st o.dst pat;have e4:({ s with st:=s.st }:AS)=s:=rfl;have e5:({ s.sub b with st:=s.st.sub b }:AS)=s.sub b:=rfl;rw[e4,e5,r,<-e1]at e3;rw[e3]
        | false=>simp only at hl;refine⟨b,_,m,_,aQ c2,f1,u,?_,hl⟩;unfold gj0;rw[hw,G];simp only[q,E,au,Ah];rw[w,K];show (if _ then some ({ s.sub θ with st:=ik0 (s.sub θ).st (bB0 n0 N mask) }.put o.dst c,(⟨[],[],true,(s.sub θ).st.next,false⟩:Inf))else none)=_;rw[Af ⟨ar _,by rw[show ∀ (x:c8) (l:Nat),({ x with low:=l }:c8).next=x.next from fun _ _=>rfl,dS0];exact ar _⟩];rw[AS.sub_put,<-e1,nk0,J,r];rfl
       cases e1
      cases e1
     exact h.elim
    exact h.elim
   exact h.elim
  exact h.elim
 rename_i U;have p:∀ (d:Nat->AV) (v:AV) (σ1:c8),aop T (s.sub d).eval (small (s.st.sub d) (bj0 (s.sub d).eval o.op)) (n0+i) o.op=some (v,σ1)->s.sub d=s.sub θ ->
   gj0 T (bV0 Φ) ops n0 N mask i bar (s.sub θ) o=some ({ s.sub d with st:=(match σ1.objs (n0+i)with
    | some x=>(if isE o.op then X0 σ1 (bj0 (s.sub d).eval o.op) (s.st.sub d)else (s.st.sub d)).set (n0+i) x
    | none=>(if isE o.op then X0 σ1 (bj0 (s.sub d).eval o.op) (s.st.sub d)else (s.st.sub d))) }.put o.dst v,⟨bj0 (s.sub d).eval o.op,if isE o.op then bj0 (s.sub d).eval o.op else [],false,0,false⟩):=fun d v σ1 ha hs=>by
  have hst:s.st.sub d=(s.sub θ).st:=by rw[<- hs];rfl
  rw[hst,hs]at ha ⊢;unfold gj0;rw[hw,G];simp only;rw[ha];rfl
 split at h
 ·rename_i v σ1 ha
  have L:=ru0 D (sn0 ha);have e:(fun x=>(s.eval x).sub θ)=(s.sub θ).eval:=(AS.sub_evalF θ s).symm;rw[e,hQ0]at L;have k:=kC0 D s o.op;refine⟨θ,_,fr,_,ar _,D,fun _ _=>rfl,?_,h⟩;have:=p θ (v.sub θ) (σ1.sub θ) (by rw[k];exact L) rfl;rw[this,k,AS.sub_put];congr 3;rw[c8.sub_objs];cases σ1.objs (n0+i)with
  | none=>
   simp only[bO];split
   ·rw[ca0]
   rfl
  | some x=>
   simp only[aj];rw[c8.sub_set];split
   ·rw[ca0]
   rfl
 split at h
 ·rename_i ro pat v σ1 m hr
  split at h
  ·rename_i g
   simp only[ab]at g;obtain⟨⟨W,X⟩,Y⟩:=g;obtain⟨b,u,f1,e1,hl⟩:=h;have r:s.sub b=s.sub θ:=AS.sub_agree u W;have M:=nO0 (T:=T) (Φ:=Φ) (s:={ s with st:=small s.st (bj0 s.eval o.op) }) u X D hr e1;have e0:(({ s with st:=small s.st (bj0 s.eval o.op) }:AS).sub b).eval=(s.sub b).eval:=by funext x;rw[AS.sub_eval,AS.sub_eval];cases x<;>rfl
   have k:=kC0 f1 s o.op;rw[e0,hQ0]at M;have:=p b (v.sub b) (σ1.sub b) (by rw[k];exact M) r;refine⟨b,_,m,_,aQ Y,f1,u,?_,hl⟩;rw[this,k,AS.sub_put];congr 3;rw[c8.sub_objs];cases σ1.objs (n0+i)with
   | none=>
    simp only[bO];split
    ·rw[ca0]
    rfl
   | some x=>
    simp only[aj];rw[c8.sub_set];split
    ·rw[ca0]
    rfl
  exact h.elim
 split at h
 ·rename_i ro s' hst
  split at h
  ·rename_i g
   rw[ab]at g;obtain⟨b,u,f1,e1,hl⟩:=h;have r:s.sub b=s.sub θ:=AS.sub_agree u g.1;refine⟨b,_,fr+1,_,eR _,f1,u,?_,hl⟩;unfold rO0 at hst;split at hst
   ·rename_i t a x q
    split at hst
    ·rename_i id i1 off hp
     split at hst
     ·rename_i e z j B O
      cases hst;have C:bj0 s.eval o.op=[id]:=by
       rw[q];simp only[bj0];unfold ku0 at hp;split at hp
       ·rename_i e9;cases hp;rw[e9];rfl
       ·rename_i e9;cases hp;rw[e9];rfl
       cases hp
      have B:id≠n0+i:=fun e=>by rw[e]at B;simp at B
      have Z:(small s.st [id]).objs id=some (.xrow e z j):=by rw[az0];simp[O]
      have R:∀ σ:c8,(small σ [id]).objs (n0+i)=none:=fun σ=>by rw[az0];simp only[aT];rw[Ae (fun e=>B e.symm)]
      have H:∀ y,({ s with st:=small s.st [id] }:AS).eval y=s.eval y:=fun y=>by cases y<;>rfl
      rw[C]at g;have e1':j4 T Φ θ (.xst t e z (.sy j) i1 off (({ s with st:=small s.st [id] }:AS).eval x))=some (b fr):=by rw[H];simpa using e1
      obtain⟨g1,g2⟩:=xst_ok (T:=T) (Φ:=Φ) (s:={ s with st:=small s.st [id] }) u g.2 (a:=a) (by rw[H];exact hp) Z e1';have S:(({ s with st:=small s.st [id] }:AS).sub b).eval=(s.sub b).eval:=by funext y;rw[AS.sub_eval,AS.sub_eval,H]
      have k:bj0 (s.sub b).eval o.op=[id]:=by rw[kC0 f1 s o.op,C]
      have M:=g1 (n0+i);rw[S,hQ0,<-q]at M;have hE:isE o.op=true:=by rw[q];rfl
      have:=p b (.sc undef) _ (by rw[k];exact M) r;rw[this,k,C,hE];have n1:((small (s.st.sub b) [id]).set id (.row e z (rowsOf (b fr)))).objs (n0+i)=none:=by rw[c8.objs_set,Ae (fun e=>B e.symm),R]
      have n2:((small (s.st.sub b) [id]).set id (.row e z (rowsOf (b fr)))).objs id=some (.row e z (rowsOf (b fr))):=by rw[c8.objs_set,Af rfl]
      simp only[n1,Al,X0,n2];have e4:=AS.sub_put b ({ s.refr id j fr with st:=(s.refr id j fr).st.set id (.xrow e z fr) }:AS) ((s.refr id j fr).st.set id (.xrow e z fr)) o.dst (.sc undef);have e5:=AS.refr_sub (id:=id) (j:=j) (fr:=fr) g2 s;have e6:(s.refr id j fr).st.sub b=s.st.sub b:=Ap AS.st e5;have e7:({ s.refr id j fr with st:=(s.refr id j fr).st.set id (.xrow e z fr) }:AS).sub b={ (s.refr id j fr).sub b with st:=((s.refr id j fr).st.set id (.xrow e z fr)).sub b }:=rfl;rw[e7,c8.sub_set,e6,e5]at e4;simp only[j5.sub,F9]at e4;rw[<- e4]
     cases hst
    cases hst
   cases hst
  exact h.elim
 exact h.elim
theorem jY0{ops:Array Oper}{n0 N:Nat}{a:List Nat}:∀ (l:List Oper) (i:Nat) (s:AS) (fr:Nat) (acc:List Inf) (k:AS->Nat->List Inf->RT) (θ:Nat->AV) (A:Nat->List AV->Prop),Fit θ ->
  E1 T Φ Q (gQ0 T Φ F ops n0 N a l i s fr acc k) θ A->∃ c u e fs,fr<=e/\Fit c/\(∀ j,j<fr->c j=θ j)/\tH0 T (bV0 Φ) ops n0 N a l i (s.sub θ)=some (AS.sub c u,fs)/\E1 T Φ Q (k u e (acc++fs)) c A
 | [],i,s,fr,acc,k,θ,A,q,h=>⟨θ,s,fr,[],ar _,q,fun _ _=>rfl,rfl,by rw[List.append_nil];exact h⟩
 | o::rest,i,s,fr,acc,k,θ,A,q,h=>by
  have fin:∀ (s1:AS) (g:Nat->AV) (m:Nat) (f:Inf),fr<=m->Fit g->(∀ j,j<fr->g j=θ j)->gj0 T (bV0 Φ) ops n0 N (a.getD i 0) i (gd0 o.op&&pj0 ops a i) (s.sub θ) o=some (AS.sub g s1,f) ->
    E1 T Φ Q (gQ0 T Φ F ops n0 N a rest (i+1) s1 m (acc++[f]) k) g A->∃ c u e fs,fr<=e/\Fit c/\(∀ j,j<fr->c j=θ j)/\tH0 T (bV0 Φ) ops n0 N a (o::rest) i (s.sub θ)=some (AS.sub c u,fs)/\E1 T Φ Q (k u e (acc++fs)) c A:=by
   intro s1 g m f D E G hst hl;obtain⟨H,R,I,fs,g1,g2,g3,g4,g5⟩:=jY0 rest (i+1) s1 m (acc++[f]) k g A E hl;refine⟨H,R,I,f::fs,bo D g1,g2,fun j hj=>(g3 j (by omega)).trans (G j hj),?_,by simpa using g5⟩;simp only[tH0,hst,g4]
  have skip:∀ s0:AS,s0.sub θ=s.sub θ->s0.n=s.n->E4 ops (s.sub θ) o=some false->U6 s.n o.dst=true->gj0 T (bV0 Φ) ops n0 N (a.getD i 0) i (gd0 o.op&&pj0 ops a i) (s.sub θ) o=some (AS.sub θ (s0.put o.dst (.sc undef)),⟨[],[],false,0,false⟩):=fun s0 S _ hw B=>by have J:U6 (s.sub θ).n o.dst=true:=B;unfold gj0;rw[hw,J];have e3:=AS.sub_put θ s0 s0.st o.dst (.sc undef);have e4:({ s0 with st:=s0.st }:AS)=s0:=rfl;have e5:({ s0.sub θ with st:=s0.st.sub θ }:AS)=s0.sub θ:=rfl;rw[e4,e5,F9,S]at e3;rw[e3]
  unfold gQ0 at h;split at h
  ·exact h.elim
  rename_i B;split at h
  ·rename_i hw
   obtain⟨g,K,m,f,g1,g2,g3,g4,g5⟩:=nW0 (T:=T) (Φ:=Φ) (F:=F) (ops:=ops) (fun p=>by rw[ab]at p;exact p.1) q (aM0 θ hw) B h;exact fin K g m f g1 g2 g3 g4 g5
  ·rename_i hw
   exact fin _ θ fr _ (ar _) q (fun _ _=>rfl) (skip s rfl rfl (aM0 θ hw) B) h
  rename_i hw;split at h
  ·rename_i j want t
   have v:∀ b,θ j=.sc (.bool b)->E4 ops (s.sub θ) o=some (b==want):=fun b p=>by
    unfold gs0 at t;unfold E4;split at t
    ·cases t
    rename_i U w' L;rw[L];simp only;split at t
    ·rename_i d M
     rw[M];simp only;split at t
     ·rename_i C
      rw[aV]at C;rw[AS.sub_n,Af C,AS.sub_get];split at t
      ·rename_i V O
       cases t;rw[O,p7,p]
      cases t
     cases t
    cases t
   have both:∀ b:Bool,θ j=.sc (.bool b)->E1 T Φ Q (match b==want with
     | true=>sv0 T Φ F n0 N (a.getD i 0) i (gd0 o.op&&pj0 ops a i) o (s.ssub (aN0 j b)) fr fun s' e f=>gQ0 T Φ F ops n0 N a rest (i+1) s' e (acc++[f]) k
     | false=>gQ0 T Φ F ops n0 N a rest (i+1) ((s.ssub (aN0 j b)).put o.dst (.sc undef)) fr (acc++[⟨[],[],false,0,false⟩]) k) θ A->∃ c u e fs,fr<=e/\Fit c/\(∀ j,j<fr->c j=θ j)/\tH0 T (bV0 Φ) ops n0 N a (o::rest) i (s.sub θ)=some (AS.sub c u,fs)/\E1 T Φ Q (k u e (acc++fs)) c A:=fun b p w=>by
    have x:=eI0 (θ:=θ) (j:=j) (b:=b) p s;have r:=v b p;split at w
    ·rename_i z
     rw[z]at r;rw[<- x]at r;obtain⟨g,K,m,f,g1,g2,g3,g4,g5⟩:=nW0 (T:=T) (Φ:=Φ) (F:=F) (ops:=ops) (fun p=>by rw[ab]at p;exact p.1) q r B w;rw[x]at g4;exact fin K g m f g1 g2 g3 g4 g5
    rename_i z;rw[z]at r;exact fin _ θ fr _ (ar _) q (fun _ _=>rfl) (skip _ x rfl r B) w
   rcases h with ⟨p,w⟩ | ⟨p,w⟩
   ·exact both true p w
   exact both false p w
  exact h.elim
include hΦ in
theorem lJ0:∀ f args σ v σ',bV0 Φ f args σ=some (v,σ')->F3 P f args σ (fun d a=>d=v/\a=σ')/\ag0 σ σ':=by
 intro f args σ v σ' h;unfold bV0 at h;split at h
 ·rename_i φ b
  split at h
  ·rename_i c hc
   cases h;exact⟨hΦ.memo f φ (G6.fn_eq b).1 (G6.fn_eq b).2 args v hc σ,.refl _⟩
  cases h
 cases h
variable (hm:P.follows .mixedOrders=true)
def hk0(P:Program)(n:Nat)(c:Code)(Q:Exit->AS->Prop):Nat->AS->Prop
 | 0,_=>False
 | j+1,s=>BWp P n c (mD0 (hk0 P n c Q j) Q) s
theorem hk0.wp{n:Nat}{c:Code}{Q':Exit->AS->Prop}{j:Nat}{s:AS}(h:hk0 P n c Q' j s):BWp P n (.loop c) Q' s:=by
 refine BWp.loop (hk0 P n c Q') ?_ h;intro k s1 hk;cases k with
 | zero=>exact hk.elim
 | succ k=>
  refine BWp.mono hk ?_;intro e s2 h2;cases e with
  | normal=>exact⟨k,Nat.lt_succ_self _,h2⟩
  | _=>exact h2
theorem jh0{ex:Exe}(hex:ExOk P T Φ Q ex){n:Nat}{b:Code}{k:KE}{a:Nat}{d:Nat->AV}{o:Nat->List AV->Prop}:∀ (j:Nat) (s:AS) (fr:Nat) (θ:Nat->AV) (A:Nat->List AV->Prop),a<=fr->Fit θ->(∀ i,i<a->θ i=d i)->(∀ l,l<a->A l=o l) ->
  E1 T Φ Q (nh0 ex n b k j s fr) θ A->hk0 P n b (qQ0 T Φ Q a d o k) j (s.sub θ)
 | 0,s,fr,θ,A,_,_,_,_,h=>h.elim
 | j+1,s,fr,θ,A,t,p,h1,h2,h=>by
  refine BWp.mono (hex n b s fr _ θ A p h) ?_;rintro e s' ⟨r,c,q,g,m,rfl,q1,q2,q3,q4,rfl,q6⟩;have g1:∀ i,i<a->c i=d i:=fun i hi=>(q3 i (by omega)).trans (h1 i hi);have g2:∀ l,l<a->m l=o l:=fun l hl=>(q4 l (by omega)).trans (h2 l hl);cases r with
  | nor=>exact jh0 hex j q g c m (by omega) q2 g1 g2 q6
  | exi i=>exact⟨.exi i,c,q,g,m,rfl,by omega,q2,g1,g2,rfl,q6⟩
  | ret=>exact⟨.ret,c,q,g,m,rfl,by omega,q2,g1,g2,rfl,q6⟩
theorem qz0{n:Nat}{c:Code}{h:Hint}{fr:Nat}{k:AS->RT}{G:KE}{A:Nat->List AV->Prop}(hk:∀ s θ,Fit θ->E1 T Φ Q (k s) θ A->BWp P n c (qQ0 T Φ Q fr θ A G) (AS.sub θ s)):∀ (m:Nat) (s:AS) (θ:Nat->AV),Fit θ ->
  E1 T Φ Q (sPre h fr k m s) θ A->BWp P n c (qQ0 T Φ Q fr θ A G) (AS.sub θ s)
 | 0,s,θ,g,hl=>hk s θ g hl
 | m+1,s,θ,g,hl=>by
  unfold sPre at hl;split at hl
  ·rename_i a x b
   have d:s.st.objs a=some x:=by
    have:∀ (l:List AV) (t:Nat),fzAt s l t=some (a,x)->s.st.objs a=some x:=by
     intro l
     induction l with
     | nil=>intro t h;simp[fzAt]at h
     | cons v l r=>
      intro t h;unfold fzAt at h;split at h
      ·split at h
       ·rename_i z;cases h;exact z
       exact r _ h
      exact r _ h
    have j:∀ (l:List (Nat×j5)),fzOb s l=some (a,x)->s.st.objs a=some x:=by
     intro l
     induction l with
     | nil=>intro h;simp[fzOb]at h
     | cons v l r=>
      obtain⟨i,o⟩:=v;intro h;unfold fzOb at h;split at h
      ·split at h
       ·rename_i z;cases h;exact z
       exact r h
      exact r h
    unfold we0 at b;split at b
    ·rename_i p hp;cases b;exact this _ _ hp
    exact j _ b
   split at hl
   ·rename_i u
    obtain⟨w,B,f1,e1,hl⟩:=hl;simp only[j4]at e1;split at e1
    ·rename_i q
     have C:s.sub w=s.sub θ:=AS.sub_agree B u;rw[<- C];refine BWp.freeze f1 d (iV0 u d B q) (BWp.mono (qz0 hk m _ w f1 hl) fun e s' hp=>?_);obtain⟨H,D,I,E,J,q1,q2,q3,q4,q5,q6,q7⟩:=hp;exact⟨H,D,I,E,J,q1,q2,q3,fun i hi=>(q4 i hi).trans (B i hi),q5,q6,q7⟩
    cases e1
   exact hl.elim
  exact hk s θ g hl
omit hT hΦ hF in
def fx(θ:Nat->AV)(fr:Nat)(vals:List AV)(i:Nat):AV:=if i<fr then θ i else (vals[i-fr]?).getD (.sc (.bool false))
include hT hΦ hF hm in
theorem mF0{H:Nat->Option Hint}:∀ m,ExOk P T Φ Q (exec T Φ F H m)
 | 0=>fun n c s fr k θ A _ h=>by simp[exec,E1]at h
 | m+1=>by
  intro n c s fr k θ A o h;have R:=mF0 (H:=H) m;have self:∀ e,E1 T Φ Q (k e s fr) θ A->qQ0 T Φ Q fr θ A k (EX.toExit e) (s.sub θ):=fun e hh=>⟨e,θ,s,fr,A,rfl,ar _,o,fun _ _=>rfl,fun _ _=>rfl,rfl,hh⟩;unfold exec at h;split at h
  ·exact BWp.of_awp (AWp.skip (self .nor h))
  ·exact BWp.of_awp (AWp.label (self .nor h))
  ·rename_i id ops
   refine BWp.region ?_;have:=nf0 hT hΦ hF R (n0:=s.st.next) (n:=n) ops.toList 0 _ fr _ θ A (fun j=>by simp) (by simp) o h;simp only[Array.length_toList]at this;rw[List.range_eq_range'];intro G a w g1 g2 g3 g4;refine C5 ?_ _ _ _ (this G a w g1 g2 g3 g4);rintro e a' w' ⟨e1,s2,G2,b1,b2,g,S,p,E,q⟩;exact⟨e1,s2,G2,b1,b2,.nor,g,S,p,E,rfl,q⟩
  ·rename_i id ops
   split at h
   ·rename_i l0 t hbar
    obtain⟨hops0,hlw⟩:=iY0 hbar;have hops:ops=⟨l0++t⟩:=by apply Array.ext';rw[<- hops0];simp
    split at h
    ·rename_i hst
     obtain⟨D,J,fr',fs,g1,g2,g3,g4,g5⟩:=jY0 (T:=T) (Φ:=Φ) (F:=F) (ops:=(⟨l0⟩:Array Oper)) l0 0 _ fr [] _ θ A o h;simp only[bG]at g5;split at g5
     ·rename_i hdyn
      subst hops;refine BWp.drawnTail hT hm (cl:=bV0 Φ) (lJ0 hΦ) hlw (s':=AS.sub D J) ?_ ?_
      ·unfold cv0
       rw[Af hst];have e:({ s.sub θ with st:={ (s.sub θ).st with next:=(s.sub θ).st.next+(⟨l0⟩:Array Oper).size } }:AS)=AS.sub θ { s with st:={ s.st with next:=s.st.next+l0.length } }:=rfl;rw[e];have e2:(s.sub θ).st.next=s.st.next:=rfl;rw[e2];have e3:(⟨l0⟩:Array Oper).size=l0.length:=rfl;rw[e3,g4];simp only;rw[Af hdyn]
      have e4:({ AS.sub D J with st:={ (AS.sub D J).st with next:=(AS.sub D J).st.next+(l0++t).length } }:AS)=AS.sub D { J with st:={ J.st with next:=J.st.next+(l0++t).length } }:=rfl;rw[e4];have:=nf0 hT hΦ hF R (ops:=(⟨l0++t⟩:Array Oper)) (n0:=J.st.next) (n:=n) t l0.length { J with st:={ J.st with next:=J.st.next+(l0++t).length } } fr' (fun s2 p=>k .nor s2 p) D A (fun j=>by rw[List.getElem?_toArray,cV (by omega),cN]) (by simp) g2 g5;intro G a w q1 q2 q3 q4;refine C5 ?_ _ _ _ (this G a w q1 q2 q3 q4);rintro e a' w' ⟨e1,s2,G2,b1,b2,g,S,p,E,r1,r2,r3,r4,r5,r6⟩;exact⟨e1,s2,G2,b1,b2,.nor,g,S,p,E,rfl,bo g1 r1,r2,fun i hi=>(r3 i (by omega)).trans (g3 i hi),fun l hl=>r4 l (by omega),r5,r6⟩
     exact g5.elim
    exact h.elim
   split at h
   ·rename_i hst
    obtain⟨D,J,fr',fs,g1,g2,g3,g4,g5⟩:=jY0 (T:=T) (Φ:=Φ) (F:=F) ops.toList 0 _ fr [] _ θ A o h;simp only[bG]at g5;split at g5
    ·rename_i hdyn
     refine BWp.of_awp (AWp.drawn hT hm (cl:=bV0 Φ) (lJ0 hΦ) (s':=AS.sub D J) ?_ ⟨.nor,D,J,fr',A,rfl,g1,g2,g3,fun _ _=>rfl,rfl,g5⟩);unfold cv0;rw[Af hst];have e:({ s.sub θ with st:={ (s.sub θ).st with next:=(s.sub θ).st.next+ops.size } }:AS)=AS.sub θ { s with st:={ s.st with next:=s.st.next+ops.size } }:=rfl;rw[e];have e2:(s.sub θ).st.next=s.st.next:=rfl;rw[e2,g4];simp only;rw[Af hdyn]
    exact g5.elim
   exact h.elim
  ·rename_i a b
   split at h
   ·rename_i hint hH
    split at h
    ·rename_i hchk
     simp only[ab,bk]at hchk;obtain⟨⟨hsb,hbd⟩,⟨hdl,hdf⟩,hdb⟩:=hchk;obtain⟨I,⟨n1,hI0⟩,r⟩:=h;have hlt:∀ (vals:List AV) i,i<fr->fx θ fr vals i=θ i:=fun vals i hi=>by simp[fx,hi]
     have U:∀ (vals:List AV) j (hj:j<vals.length),fx θ fr vals (fr+j)=vals[j]:=fun vals j hj=>by unfold fx;rw[Ae (by omega),cN,ae hj];rfl
     have hend:∀ (vals:List AV),vals.length=hint.k+1->fx θ fr vals (fr+(hint.k+1))=.sc (.bool false):=fun vals hv=>by unfold fx;rw[Ae (by omega),cN,bz (by omega)];rfl
     have K:∀ (vals:List AV),(∀ v∈vals,am0 v)->Fit (fx θ fr vals):=fun vals hv i=>by
      show am0 (if i<fr then θ i else (vals[i-fr]?).getD (.sc (.bool false)));split
      ·exact o i
      cases hx:vals[i-fr]? with
      | none=>trivial
      | some v=>exact hv v (aD hx)
     have hD:∀ v∈((yC0 hint s)++[AV.sc (.bool false)]).map (AV.sub θ),am0 v:=fun v hv=>by
      obtain⟨u,hu,rfl⟩:=aY.1 hv;rcases aK.1 hu with hu | hu
      ·exact rF0 o (ak.1 hdf u hu)
      rw[aT.1 hu,F9];trivial
     have V:(((yC0 hint s)++[AV.sc (.bool false)]).map (AV.sub θ)).length=hint.k+1:=by simp[hdl]
     have h1:=r n1 _ hI0 V hD (fx θ fr _) (hlt _) (U _) (hend _ V) (K _ hD);generalize W:fx θ fr (((yC0 hint s)++[AV.sc (.bool false)]).map (AV.sub θ))=d at h1;have hθ1f:Fit d:=by rw[<- W];exact K _ hD
     have z:∀ i,i<fr->d i=θ i:=fun i hi=>by rw[<- W];exact hlt _ i hi
     have hflag:d (fr+hint.k)=.sc (.bool false):=by rw[<- W,U _ hint.k (by omega)];simp[hdl]
     rcases h1 with ⟨hc,_⟩ | ⟨_,h1⟩
     ·rw[hflag]at hc;cases hc
     have hs1:s.sub d=s.sub θ:=AS.sub_agree z hsb;rw[<- hs1];refine BWp.seq (BWp.mono (R n a s _ _ d _ hθ1f h1) ?_);rintro e s' ⟨e',g,S,p,E,rfl,q1,q2,q3,q4,rfl,q6⟩;cases e' with
     | nor=>
      simp only at q6;split at q6
      ·rename_i vals hm
       simp only[E1]at q6;rw[q4 fr (by omega)]at q6;simp only[Al]at q6;obtain⟨m',hm',hI1⟩:=q6;obtain⟨v1,v2,v3,ι,X⟩:=aU0 q2 hm;refine BWp.conv X ?_;have hV:∀ v∈(vals++[AV.sc (.bool true)]).map (AV.sub g),am0 v:=fun v hv=>by
        obtain⟨u,hu,rfl⟩:=aY.1 hv;rcases aK.1 hu with hu | hu
        ·exact v2 u hu
        rw[aT.1 hu,F9];trivial
       have Y:((vals++[AV.sc (.bool true)]).map (AV.sub g)).length=hint.k+1:=by have:vals.length=hint.k:=v1;simp[this]
       have h2:=r m' _ hI1 Y hV (fx θ fr _) (hlt _) (U _) (hend _ Y) (K _ hV);generalize L:fx θ fr ((vals++[AV.sc (.bool true)]).map (AV.sub g))=Z at h2;have hθ3f:Fit Z:=by rw[<- L];exact K _ hV
       have M:∀ i,i<fr->Z i=θ i:=fun i hi=>by rw[<- L];exact hlt _ i hi
       have hv1:vals.length=hint.k:=v1;have hflag3:Z (fr+hint.k)=.sc (.bool true):=by rw[<- L,U _ hint.k (by omega)];simp[hv1]
       rcases h2 with ⟨_,h2⟩ | ⟨hc,_⟩
       ·have hst:(jst hint s).state.sub (fun i=>(X7 fr vals i).sub g)=(jst hint s).state.sub Z:=by
         refine AS.sub_agree (fun i hi=>?_) hbd;by_cases hif:i<fr
         ·have:cJ fr i=false:=by
           cases hb:cJ fr i with
           | false=>rfl
           | true=>have:=aQ hb;omega
          simp only[X7,this,p7];rw[q3 i (by omega),z i hif,M i hif]
         obtain⟨j,rfl⟩:∃ j,i=fr+j:=⟨i-fr,by omega⟩;have hj:j<vals.length:=by omega
         rw[<- L,U _ j (by simp;omega)];unfold X7;rw[gC (aO fr j)];simp[hj]
        rw[hst];refine BWp.mono (R n b _ _ k Z _ hθ3f h2) ?_;rintro e2 s2 ⟨e2',θ4,S4,fr4,A4,rfl,r1,r2,r3,r4,r5,r6⟩;exact⟨e2',θ4,S4,fr4,A4,rfl,by omega,r2,fun i hi=>(r3 i (by omega)).trans (M i hi),fun l hl=>(r4 l (by omega)).trans (Ae (by omega)),r5,r6⟩
       rw[hflag3]at hc;cases hc
      exact q6.elim
     | exi j=>exact⟨.exi j,g,S,p,E,rfl,by omega,q2,fun i hi=>(q3 i (by omega)).trans (z i hi),fun l hl=>(q4 l (by omega)).trans (Ae (by omega)),rfl,q6⟩
     | ret=>exact⟨.ret,g,S,p,E,rfl,by omega,q2,fun i hi=>(q3 i (by omega)).trans (z i hi),fun l hl=>(q4 l (by omega)).trans (Ae (by omega)),rfl,q6⟩
    exact h.elim
   refine BWp.seq (BWp.mono (R n a s fr _ θ A o h) ?_);rintro e s' ⟨e',d,S1,C,A1,rfl,q1,q2,q3,q4,rfl,q6⟩;cases e' with
   | nor=>refine BWp.mono (R n b S1 C k d A1 q2 q6) ?_;rintro e2 s2 ⟨e2',g,S,p,E,rfl,r1,r2,r3,r4,r5,r6⟩;exact⟨e2',g,S,p,E,rfl,bo q1 r1,r2,fun i hi=>(r3 i (by omega)).trans (q3 i hi),fun l hl=>(r4 l (by omega)).trans (q4 l hl),r5,r6⟩
   | exi j=>exact⟨.exi j,d,S1,C,A1,rfl,q1,q2,q3,q4,rfl,q6⟩
   | ret=>exact⟨.ret,d,S1,C,A1,rfl,q1,q2,q3,q4,rfl,q6⟩
  ·rename_i x a b
   split at h
   ·rename_i t hx
    refine BWp.cond (t:=t) (by rw[AS.sub_eval,hx,F9]) ?_;exact R n _ s fr k θ A o h
   ·rename_i i hx
    have hev:∀ t,θ i=.sc (.bool t)->(s.sub θ).eval x=.sc (.bool t):=fun t ht=>by rw[AS.sub_eval,hx,p7,ht]
    rcases h with ⟨hb,hh⟩ | ⟨hb,hh⟩
    ·refine BWp.cond (t:=true) (hev true hb) ?_
     have:=R n a _ fr k θ A o hh;rw[eI0 hb]at this;exact this
    refine BWp.cond (t:=false) (hev false hb) ?_;have:=R n b _ fr k θ A o hh;rw[eI0 hb]at this;exact this
   exact h.elim
  ·rename_i id b
   refine BWp.block (BWp.mono (R n b s fr _ θ A o h) ?_);rintro e s' ⟨e',d,S1,C,A1,rfl,q1,q2,q3,q4,rfl,q6⟩;cases e' with
   | nor=>exact⟨.nor,d,S1,C,A1,rfl,q1,q2,q3,q4,rfl,q6⟩
   | ret=>exact⟨.ret,d,S1,C,A1,rfl,q1,q2,q3,q4,rfl,q6⟩
   | exi j=>
    simp only[EX.toExit,gA0];simp only at q6;split
    ·rename_i e;rw[Af e]at q6;exact⟨.nor,d,S1,C,A1,rfl,q1,q2,q3,q4,rfl,q6⟩
    rename_i e;rw[Ae e]at q6;exact⟨.exi j,d,S1,C,A1,rfl,q1,q2,q3,q4,rfl,q6⟩
  ·rename_i b
   split at h
   ·rename_i hint hH
    refine qz0 (fun s θ o h=>?_) 8 s θ o h;split at h
    ·rename_i inits hm hbd
     obtain⟨I,⟨n1,hI0⟩,r⟩:=h;obtain⟨v1,v2,v3,ι,X⟩:=aU0 o hm;refine BWp.conv X ?_;have N:∀ (vals:List AV) (d:Nat->AV) i,i<fr->(X7 fr vals i).sub d=d i:=fun vals d i hi=>by
      unfold X7;have:cJ fr i=false:=by
       cases hb:cJ fr i with
       | false=>rfl
       | true=>have:=aQ hb;omega
      rw[this];simp
     have O:∀ (vals:List AV) (d:Nat->AV) j (hj:j<vals.length),(X7 fr vals (fr+j)).sub d=(vals[j]).sub d:=fun vals d j hj=>by unfold X7;rw[gC (aO fr j)];simp[hj]
     have pad:∀ (vals:List AV) (d:Nat->AV),vals.length=hint.k->(∀ i,i<fr->d i=θ i)->(∀ j (hj:j<vals.length),d (fr+j)=vals[j])->Fit d->∃ g,(∀ i,i<fr->g i=θ i)/\(∀ j (hj:j<vals.length),g (fr+j)=vals[j])/\g (fr+hint.k)=.sc (.bool false)/\Fit g/\hint.state.sub d=hint.state.sub g:=fun vals d p1 p2 p3 p4=>by
      refine⟨fun i=>if i=fr+hint.k then .sc (.bool false)else d i,fun i hi=>?_,fun j hj=>?_,by simp,fun i=>?_,?_⟩
      ·simp only[show ¬ i=fr+hint.k by omega,Ah];exact p2 i hi
      ·simp only[show ¬ fr+j=fr+hint.k by omega,Ah];exact p3 j hj
      ·show am0 (if i=fr+hint.k then .sc (.bool false)else d i)
       split
       ·trivial
       exact p4 i
      refine(AS.sub_agree (fun i hi=>?_) hbd).symm;simp only[show ¬ i=fr+hint.k by omega,Ah]
     refine BWp.loop (fun k1 s1=>∃ vals d,I k1 vals/\vals.length=hint.k/\(∀ v∈vals,am0 v)/\(∀ i,i<fr->d i=θ i)/\(∀ j (hj:j<vals.length),d (fr+j)=vals[j])/\Fit d/\s1=hint.state.sub d) ?_ (k:=n1) ?_
     ·rintro k1 s1 ⟨vals,θ0,g1,g2,g3,g40,g50,g60,rfl⟩
      obtain⟨d,g4,g5,g5',g6,g7⟩:=pad vals θ0 g2 g40 g50 g60;rw[g7];have hb:=R n b hint.state (fr+hint.k+1) _ d _ g6 (r k1 vals g1 g2 g3 d g4 g5 g5' g6);refine BWp.convEnd' (BWp.mono hb ?_);rintro e s' ⟨e',g,S,p,E,rfl,q1,q2,q3,q4,rfl,q6⟩;have hA2:E fr=fun B=>∃ m,m<k1/\I m B:=by rw[q4 fr (by omega)];simp
      have hlo:∀ i,i<fr->g i=θ i:=fun i hi=>(q3 i (by omega)).trans (g4 i hi);have hAlo:∀ l,l<fr->E l=A l:=fun l hl=>by rw[q4 l (by omega)];simp[Nat.ne_of_lt hl]
      cases e' with
      | nor=>
       left;simp only at q6;split at q6
       ·rename_i B hm'
        obtain⟨w1,w2,w3,ι',hren'⟩:=aU0 q2 hm';refine⟨ι',_,hren',?_⟩;simp only[EX.toExit,mD0];have q7:E fr (B.map (AV.sub g)):=q6;rw[hA2]at q7;obtain⟨m1,hm1,hI1⟩:=q7;refine⟨m1,hm1,B.map (AV.sub g),_,hI1,by simpa using w1,fun v hv=>?_,fun i hi=>by rw[N];exact hlo i hi;exact hi,fun j hj=>?_,w3,rfl⟩
        ·obtain⟨v0,hv0,rfl⟩:=aY.1 hv;exact w2 v0 hv0
        simp only[aB]at hj;rw[O B g j hj];simp
       exact q6.elim
      | exi j=>right;exact⟨.exi j,g,S,p,E,rfl,by omega,q2,hlo,hAlo,rfl,q6⟩
      | ret=>right;exact⟨.ret,g,S,p,E,rfl,by omega,q2,hlo,hAlo,rfl,q6⟩
     refine⟨inits.map (AV.sub θ),_,hI0,by simpa using v1,fun v hv=>?_,fun i hi=>N _ _ i hi,fun j hj=>?_,v3,rfl⟩
     ·obtain⟨v0,hv0,rfl⟩:=aY.1 hv;exact v2 v0 hv0
     simp only[aB]at hj;rw[O inits θ j hj];simp
    exact h.elim
   exact(jh0 R 1000 s fr θ A (ar _) o (fun _ _=>rfl) (fun _ _=>rfl) h).wp
  ·exact BWp.of_awp (AWp.exit (self (.exi _) h))
  ·exact BWp.of_awp (AWp.ret (self .ret h))
  ·rename_i b
   refine BWp.scope (BWp.mono (R n b s fr _ θ A o h) ?_);rintro e s' ⟨e',d,S1,C,A1,rfl,q⟩;exact⟨by cases e'<;>trivial,e',d,S1,C,A1,rfl,q⟩
  exact h.elim
include hT hΦ hF hm in
theorem fn_ok {H:Nat->Option Hint} {m fr:Nat} {f:FuncId} {fn:Func} {c:Code} (t:F f=some fn) (n:(fn.name== "runtime.NumGoroutine")=false) (x:fn.body=some c) {a:List AV} (I:a.length<=fn.ntmps) (hp:dz0 a=true)
  {θ:Nat->AV} (q:Fit θ) {r:AV} (h:E1 T Φ (fun c=>c=r) (exec T Φ F H m 0 c (AS.enter fn.ntmps a c8.none) fr (kTop T fn)) θ (fun _ _=>False)):J1 P ⟨f,a.map (AV.sub θ),r⟩:=by
 refine J1.of_body hT (hF f fn t) n x (by simpa using I) (by rw[<- ai0,<-I3];exact R9 q a hp) ?_;have:=mF0 hT hΦ hF hm (H:=H) m 0 c _ fr _ θ _ q h;rw[gX0]at this;refine BWp.mono this ?_;rintro e s' ⟨E,i,p,J,K,rfl,_,f1,_,_,rfl,hl⟩;have fin:∀ g,E=g->(g=.nor\/g=.ret)->(g.toExit=.normal\/g.toExit=.ret)/\∃ v,D1 T fn (p.sub i)=some v/\∀ G w u pl,Rel G (p.sub i).st w->Rep G v u->Rep (G.frozen (p.sub i).st w pl) r u:=by
  intro g he s;subst he;refine⟨by rcases s with rfl | rfl<;>simp[EX.toExit],?_⟩;have d:E1 T Φ (fun c=>c=r) (match D1 T fn p with
   | some v=>match v.contP with
    | true=>.ret v.nilz []
    | false=>match ak0 p.st 50 v with
     | some c=>.ret c.nilz (al0 p.st.tr)
     | none=>.stuck
   | none=>.stuck) i K:=by rcases s with rfl | rfl<;>exact hl
  split at d
  ·rename_i v hv
   refine⟨v.sub i,dj0 hv,?_⟩;intro G w u pl l hrep;split at d
   ·rename_i B
    obtain⟨_,C⟩:=d;rw[<- C];exact dl0 v u (Q1 (fun b o x=>H6 l x) hrep (bR0 f1 v B))
   split at d
   ·rename_i c hc
    obtain⟨k,C⟩:=d;rw[<- C];exact dl0 c u (du0 f1 l pl (fun id e z j D=>k j (aS0 D)) (fun id j D=>k j (X8 D)) 50 v c u hc hrep)
   exact d.elim
  exact d.elim
 cases E with
 | exi j=>exact hl.elim
 | nor=>exact fin .nor rfl (.inl rfl)
 | ret=>exact fin .ret rfl (.inr rfl)
end
end Go.Ab
namespace Go.Ab
open Go
variable [B5]
section
variable {T:Tab} {Φ:G6} {Q:AV->Prop} {θ:Nat->AV} {A:Nat->List AV->Prop}
end
@[simp] theorem fit_int (k:IntKind) (n:Int):am0 (.sc (.int k n)):=trivial
@[simp] theorem fit_bool (b:Bool):am0 (.sc (.bool b)):=trivial
@[simp] theorem fit_str (b:ByteArray):am0 (.sc (.string b)):=trivial
def xL0:List (Nat×Hint)->Nat->Option Hint
 | [],_=>none
 | (g,h)::l,f=>match aA g f with
  | true=>some h
  | false=>xL0 l f
def hO0(T:Tab)(Φ:G6)(F:FuncId->Option Func)(H:List (Nat×Hint))(m:Nat)(f:FuncId)(a:List AV)(fr:Nat):RT :=
 match F f with
 | some fn=>match fn.body with
  | some c=>match !(fn.name== "runtime.NumGoroutine")&&cJ a.length fn.ntmps&&dz0 a with
   | true=>exec T Φ F (xL0 H) m 0 c (AS.enter fn.ntmps a c8.none) fr (kTop T fn)
   | false=>.stuck
  | none=>.stuck
 | none=>.stuck
theorem oS0{P:Program}{T:Tab}(hT:B7 P T){Φ:G6}(b:ir0 P Φ){F:FuncId->Option Func}(hF:∀ f fn,F f=some fn->P.funcs[f]?=some fn)(hm:P.follows .mixedOrders=true){H:List (Nat×Hint)}{m:Nat}{f:FuncId}{a:List AV}{fr:Nat}
  {θ:Nat->AV} (d:Fit θ) {r:AV} (h:E1 T Φ (fun c=>c=r) (hO0 T Φ F H m f a fr) θ (fun _ _=>False)):J1 P ⟨f,a.map (AV.sub θ),r⟩:=by
 unfold hO0 at h;split at h
 ·rename_i fn e
  split at h
  ·rename_i c g
   split at h
   ·grind [bL,fn_ok,aQ]
   exact h.elim
  exact h.elim
 exact h.elim
def env(l:List AV)(i:Nat):AV:=(l[i]?).getD (.sc (.bool false))
theorem Fit.env{l:List AV}(h:∀ v∈l,am0 v):Fit (env l):=fun i=>by
 unfold Go.Ab.env;cases hi:l[i]? with
 | none=>trivial
 | some v=>exact h v (aD hi)
end Go.Ab
namespace Go.Ab
variable [B5]
open Go Go.RowKit Go.WideShapes Go.ChangeShapes
section
variable {H:Type} {enc:TypeId×Value->H} {P:Program} {N:Nat}
theorem ex0(hl:laidOutB P=true){W f:World}(g:Below W.heap.size W f){sp:Nat->Bool}:∀ {ts:List TypeId} {vs:List Value} {i:List (DataW H)} {c:List MemPlace},(∀ t∈ts,P.readableRec t=true/\t<P.types.size) ->
  eS enc P W 0 (fun _=>true) true ts vs i c->(∀ p∈c,p.block<W.heap.size)->(∀ p∈c,sp p.block=true)->eS enc P f 0 sp true ts vs i c
 | [],[],[],_,_,h,_,_=>h
 | t::ts,_::_,_::_,_,d,⟨p,q,h1,h2,e⟩,b,hs=>by
  refine⟨p,q,?_,?_,e⟩
  ·exact WideElems.Trod_stays hl (d t (by simp)).1 (d t (by simp)).2 h1 (fun x a=>g.same (b x (by rw[e];simp[a]))) (fun x a=>hs x (by rw[e];simp[a]))
  exact ex0 hl g (fun u hu=>d u (by simp[hu])) h2 (fun x a=>b x (by rw[e];simp[a])) (fun x a=>hs x (by rw[e];simp[a]))
theorem tz0(hl:laidOutB P=true){f:Func}{s:ChangeSpec}{apart fresh handsOn again:Bool}{W h:World}{args:Array Value}{d gs:List (DataW H)}{before:List MemPlace}{w:TypeId}
  (hv:s.vars=[]) (u:∀ t∈f.params.toList,P.readableRec t=true/\t<P.types.size) (i:f.resultTypes=#[w]) (k:P.underlying w=some .bool)
  (l:(s.fn H (d++gs)).results=[.lit (.bool true)]/\(s.fn H (d++gs)).args=d/\(s.fn H (d++gs)).vars=[])
  (z:DataW.Whole enc P f.params.toList s.vars apart W args.toList d gs before) (B:Below W.heap.size W h):s.post enc P f apart fresh handsOn again W args (.bool true) h:=by
 have m:=z;obtain⟨p,q,E,C,rfl,hz,G⟩:=z;rw[hv]at C;obtain⟨rfl,rfl⟩:=trodVars_none C;have n:∀ x∈p++[],x.block<W.heap.size:=fun x e=>m.lt x e;have g:∀ (b:Nat) (sp:Nat->Bool) (D:Bool),eS enc P h b sp D f.resultTypes.toList ((jg true).resultList f.resultTypes.size) (s.fn H (d++[])).results []:=fun b sp D=>by rw[i,l.1];exact trodAll_mk1 (shut_bool k _)
 have a:∀ sp:Nat->Bool,(∀ x∈p++[],sp x.block=true)->eS enc P h 0 sp true f.params.toList args.toList (s.fn H (d++[])).args p:=fun sp hsp=>by grind [ex0]
 have c:∀ sp:Nat->Bool,(∀ x∈p++[],sp x.block=true)->DataW.TrodVars enc P h sp s.vars (s.fn H (d++[])).vars []:=fun sp _=>by rw[hv,l.2.2];rfl
 have v:∀ (j:Nat) (t:TypeId) (r:Value),f.resultTypes[j]?=some t->((jg true).resultList f.resultTypes.size)[j]?=some r->gj P h .any 0 t r:=ok_one i rfl (okWide_bool_mk k _);have hold:∀ x∈p++[],(fun b=>decide (b<W.heap.size)) x.block=true:=fun x e=>by simpa using n x e
 refine⟨d,[],p++[],[],p,[],m,g _ _ _,a _ hold,c _ hold,World.keptBut_mono (fun x e=>⟨e,?_⟩) (B.frame (·∈p++[])),fun _=>?_⟩
 ·exact Or.inr (by simpa using e)
 refine⟨v,_,_,([]++p)++[],⟨[]++p,[],trodAll_append (a _ (fun _ _=>rfl)) (g _ _ _),c _ (fun _ _=>rfl),rfl,?_,?_⟩,?_⟩
 ·intro b off hp
  have o:MemPlace.cell b off∈p++[]:=by simpa using hp
  rw[B.frozen (n _ o)];exact hz b off o
 ·grind
 intro x e _;simpa using e
theorem ju0{W:World}{base:Nat}{t:TypeId}{fs:Array Field}{v:Value}{d:DataW H}{p:List MemPlace}{k:Nat}(b:P.underlying t=some (.struct fs))(hp:da0 P k t=true)(hv:gj P W .any base t v)
  (h:DataW.Trod enc P W 0 (fun _=>true) true t v d p) (c:∀ n∈d.weights P t,n<=N):∃ cs,Rep (c9.ofWorld W) (.agg cs) v/\Sh P N t cs:=by
 obtain⟨fuel,hf⟩:=h;obtain⟨avs,h1,h2⟩:=kv0 k t hp fuel _ _ hf c;unfold gj at hv;rw[b]at hv;obtain⟨cs,rfl,_⟩:=hv;refine⟨avs,?_,h2⟩;have a:B6 (c9.ofWorld W) avs cs.toList:=h1;have:=Rep.agg (G:=c9.ofWorld W) avs cs.toList a.1 a.2;simpa using this
theorem rj0 {f:FuncId} {fn:Func} {avs:List AV} (d:P.funcs[f]?=some fn) (a:(fn.name== "runtime.NumGoroutine")=false) (b:fn.body.isNone=false) (hm:J1 P ⟨f,avs,.sc (.bool true)⟩)
  {W:World} {args:Array Value} (c:B6 (c9.ofWorld W) avs args.toList) (h:ne0 W):Calls P f args W fun e g=>e=.returned (.bool true)/\Below W.heap.size W g:=by
 have:=J1.calls d a b hm c (Rel.ofWorld h);simp only[Array.toArray_toList]at this;refine this.mono ?_;rintro e g ⟨v,G',rfl,i,_,_,j⟩;cases i;exact⟨rfl,j⟩
end
end Go.Ab
namespace Go.Ab
open Go
variable [B5]
def bndO(k:Nat):Option AV->Bool
 | none=>true
 | some x=>x.bnd k
def RO.bnd(k:Nat):RO->Bool
 | .bin _ _ x y=>x.bnd k&&y.bnd k
 | .un _ x=>x.bnd k
 | .conv _ _ x=>x.bnd k
 | .pick c a b=>c.bnd k&&(a.bnd k&&b.bnd k)
 | .idx _ x i=>x.bnd k&&i.bnd k
 | .index _ x i=>x.bnd k&&i.bnd k
 | .slc _ x lo hi=>x.bnd k&&(bndO k lo&&bndO k hi)
 | .len _ x=>x.bnd k
 | .mx l=>iD0 k l
 | .mn l=>iD0 k l
 | .cat _ _ x y=>x.bnd k&&y.bnd k
 | .call _ args _=>iD0 k args
 | .rows l=>l.all fun j=>bY j k
 | .look _ c ix _=>c.bnd k&&ix.bnd k
 | .lookr _ c ix _=>c.bnd k&&ix.bnd k
 | .mput _ c ix v=>c.bnd k&&(ix.bnd k&&v.bnd k)
 | .mlen _ c=>c.bnd k
 | .nop=>true
 | .isp x=>x.bnd k
 | .opn _ x=>x.bnd k
 | .zer _ x=>x.bnd k
 | .gl _ _=>true
 | .iss x=>x.bnd k
 | .more s p=>s.bnd k&&p.bnd k
 | .sdec s p=>s.bnd k&&p.bnd k
 | .ownr _ x=>x.bnd k
 | .xin c i _=>c.bnd k&&i.bnd k
 | .inb _ c i=>c.bnd k&&i.bnd k
 | .xld _ _ _ c i _=>c.bnd k&&i.bnd k
 | .xst _ _ _ c i _ v=>c.bnd k&&(i.bnd k&&v.bnd k)
 | .tail _ _ c lo=>c.bnd k&&lo.bnd k
 | .tke _ _ c c' hi=>c.bnd k&&(c'.bnd k&&hi.bnd k)
 | .cut _ _ _ c o l=>c.bnd k&&(o.bnd k&&l.bnd k)
 | .nng l=>l.bnd k
 | .hask _ c ix=>c.bnd k&&ix.bnd k
 | .ixx _ o l i=>o.bnd k&&(l.bnd k&&i.bnd k)
 | .mks _ n=>n.bnd k
 | .cpy _ _ _ c y=>c.bnd k&&y.bnd k
theorem bG0{θ b:Nat->AV}{k:Nat}(h:∀ i,i<k->b i=θ i):∀ l:List AV,iD0 k l=true->l.map (AV.sub b)=l.map (AV.sub θ)
 | [],_=>rfl
 | a::l,c=>by simp only[iD0,ab]at c;simp only[ay,sub_agree h a c.1,bG0 h l c.2]
theorem jn0{θ b:Nat->AV}{k:Nat}(h:∀ i,i<k->b i=θ i):∀ l:Option AV,bndO k l=true->l.map (AV.sub b)=l.map (AV.sub θ)
 | none,_=>rfl
 | some a,c=>by simp only[aj,sub_agree h a c]
theorem lQ0{T:Tab}{Φ:G6}{θ q:Nat->AV}{k:Nat}(h:∀ i,i<k->q i=θ i)(o:RO)(m:o.bnd k=true):j4 T Φ q o=j4 T Φ θ o:=by
 cases o with
 | bin o t x y=>simp only[RO.bnd,ab]at m;simp only[j4,sub_agree h _ m.1,sub_agree h _ m.2]
 | un o x=>simp only[RO.bnd]at m;simp only[j4,sub_agree h _ m]
 | conv s d x=>simp only[RO.bnd]at m;simp only[j4,sub_agree h _ m]
 | pick c a b=>simp only[RO.bnd,ab]at m;simp only[j4,sub_agree h _ m.1,sub_agree h _ m.2.1,sub_agree h _ m.2.2]
 | idx t x i=>simp only[RO.bnd,ab]at m;simp only[j4,sub_agree h _ m.1,sub_agree h _ m.2]
 | index t x i=>simp only[RO.bnd,ab]at m;simp only[j4,sub_agree h _ m.1,sub_agree h _ m.2]
 | slc t x lo hi=>simp only[RO.bnd,ab]at m;simp only[j4,sub_agree h _ m.1,jn0 h _ m.2.1,jn0 h _ m.2.2]
 | len t x=>simp only[RO.bnd]at m;simp only[j4,sub_agree h _ m]
 | mx l=>simp only[RO.bnd]at m;simp only[j4,bG0 h _ m]
 | mn l=>simp only[RO.bnd]at m;simp only[j4,bG0 h _ m]
 | cat s x a b=>simp only[RO.bnd,ab]at m;simp only[j4,sub_agree h _ m.1,sub_agree h _ m.2]
 | call f args flat=>simp only[RO.bnd]at m;simp only[j4,bG0 h _ m]
 | look t c ix ok=>simp only[RO.bnd,ab]at m;simp only[j4,sub_agree h _ m.1,sub_agree h _ m.2]
 | lookr t c ix ok=>simp only[RO.bnd,ab]at m;simp only[j4,sub_agree h _ m.1,sub_agree h _ m.2]
 | mput t c ix v=>simp only[RO.bnd,ab]at m;simp only[j4,sub_agree h _ m.1,sub_agree h _ m.2.1,sub_agree h _ m.2.2]
 | mlen t c=>simp only[RO.bnd]at m;simp only[j4,sub_agree h _ m]
 | nop=>rfl
 | gl t g=>rfl
 | iss x=>simp only[RO.bnd]at m;simp only[j4,sub_agree h _ m]
 | more s p=>simp only[RO.bnd,ab]at m;simp only[j4,sub_agree h _ m.1,sub_agree h _ m.2]
 | ownr cols x=>simp only[RO.bnd]at m;simp only[j4,sub_agree h _ m]
 | sdec s p=>simp only[RO.bnd,ab]at m;simp only[j4,sub_agree h _ m.1,sub_agree h _ m.2]
 | xin c i off=>simp only[RO.bnd,ab]at m;simp only[j4,sub_agree h _ m.1,sub_agree h _ m.2]
 | isp x=>simp only[RO.bnd]at m;simp only[j4,sub_agree h _ m]
 | opn n x=>simp only[RO.bnd]at m;simp only[j4,sub_agree h _ m]
 | zer t x=>simp only[RO.bnd]at m;simp only[j4,sub_agree h _ m]
 | inb t c i=>simp only[RO.bnd,ab]at m;simp only[j4,sub_agree h _ m.1,sub_agree h _ m.2]
 | xld t e z c i off=>simp only[RO.bnd,ab]at m;simp only[j4,sub_agree h _ m.1,sub_agree h _ m.2]
 | xst t e z c i off v=>simp only[RO.bnd,ab]at m;simp only[j4,sub_agree h _ m.1,sub_agree h _ m.2.1,sub_agree h _ m.2.2]
 | tail t z c lo=>simp only[RO.bnd,ab]at m;simp only[j4,sub_agree h _ m.1,sub_agree h _ m.2]
 | tke t z c c' hi=>simp only[RO.bnd,ab]at m;simp only[j4,sub_agree h _ m.1,sub_agree h _ m.2.1,sub_agree h _ m.2.2]
 | cut t e z c o l=>simp only[RO.bnd,ab]at m;simp only[j4,sub_agree h _ m.1,sub_agree h _ m.2.1,sub_agree h _ m.2.2]
 | hask t c ix=>simp only[RO.bnd,ab]at m;simp only[j4,sub_agree h _ m.1,sub_agree h _ m.2]
 | nng l=>simp only[RO.bnd]at m;simp only[j4,sub_agree h _ m]
 | ixx t o l i=>simp only[RO.bnd,ab]at m;simp only[j4,sub_agree h _ m.1,sub_agree h _ m.2.1,sub_agree h _ m.2.2]
 | mks t n=>simp only[RO.bnd]at m;simp only[j4,sub_agree h _ m]
 | cpy t e z c y=>simp only[RO.bnd,ab]at m;simp only[j4,sub_agree h _ m.1,sub_agree h _ m.2]
 | rows l=>
  simp only[RO.bnd,ak,aV]at m;have e:∀ g:AV->Bool,l.all (fun j=>g (q j))=l.all (fun j=>g (θ j)):=fun g=>by
   rw[Bool.eq_iff_iff,ak,ak];constructor
   ·intro H j hj;rw[<- h j (m j hj)];exact H j hj
   intro H j hj;rw[h j (m j hj)];exact H j hj
  exact Ap (fun b=>match b with | true=>some (AV.sc (.bool true)) | false=>none) (e (fun v=>match v with | .rs _=>true | _=>false))
mutual
def AV.top:AV->Nat
 | .sy i=>i+1
 | .rp cs=>topL cs
 | .agg cs=>topL cs
 | .tup cs=>topL cs
 | _=>0
def topL:List AV->Nat
 | []=>0
 | c::cs=>max c.top (topL cs)
end
def RT.bnd:RT->Nat->Bool
 | .stuck,_=>true
 | .ret c l,m=>c.bnd m&&l.all fun j=>bY j m
 | .op o fr pat r,m=>aA fr m&&(o.bnd m&&(pat.bnd (max m pat.top)&&r.bnd (max m pat.top)))
 | .test i a b,m=>bY i m&&(a.bnd m&&b.bnd m)
 | .loop l _ inits _,m=>aA l m&&iD0 m inits
 | .again _ vals,m=>iD0 m vals
theorem E1.agree{T:Tab}{Φ:G6}{Q:AV->Prop}:∀ (r:RT) {m:Nat} {θ d:Nat->AV} {A:Nat->List AV->Prop},r.bnd m=true->Fit d->(∀ i,i<m->d i=θ i)->E1 T Φ Q r θ A->E1 T Φ Q r d A
 | .stuck,_,_,_,_,_,_,_,h=>h.elim
 | .ret c l,m,θ,d,A,e,hf,ha,h=>by
  simp only[RT.bnd,ab,ak,aV]at e;refine⟨fun j hj=>?_,?_⟩
  ·rw[ha j (e.2 j hj)];exact h.1 j hj
  rw[sub_agree ha c e.1];exact h.2
 | .op o fr pat r,m,θ,d,A,e,hf,ha,⟨f,h1,h2,w,x⟩=>by
  simp only[RT.bnd,ab,bk]at e;obtain⟨rfl,s,t,u⟩:=e;have p:∀ i,i<max fr pat.top->(fun i=>if i<fr then d i else f i) i=f i:=fun i _=>by
   by_cases hi:i<fr
   ·simp only[hi,Al];rw[ha i hi,h1 i hi]
   simp only[hi,Ah]
  have g:Fit (fun i=>if i<fr then d i else f i):=fun i=>by
   show am0 (if i<fr then d i else f i);split
   ·exact hf i
   exact h2 i
  refine⟨fun i=>if i<fr then d i else f i,fun i hi=>by simp[hi],g,?_,?_⟩
  ·rw[lQ0 ha o s,w,sub_agree p pat t]
  exact E1.agree r u g p x
 | .test i a b,m,θ,d,A,e,hf,ha,h=>by
  simp only[RT.bnd,ab,aV]at e;rcases h with ⟨h1,h2⟩ | ⟨h1,h2⟩
  ·exact .inl ⟨by rw[ha i e.1];exact h1,E1.agree a e.2.1 hf ha h2⟩
  exact .inr ⟨by rw[ha i e.1];exact h1,E1.agree b e.2.2 hf ha h2⟩
 | .loop l k inits body,m,θ,d,A,e,hf,ha,⟨I,h1,h2⟩=>by simp only[RT.bnd,ab,bk]at e;obtain⟨rfl,e⟩:=e;exact⟨I,by rw[bG0 ha inits e];exact h1,fun n vals hi hl hv v q=>h2 n vals hi hl hv v (fun i hi=>by rw[q i hi,ha i hi])⟩
 | .again l vals,m,θ,d,A,e,hf,ha,h=>by simp only[RT.bnd]at e;show A l _;rw[bG0 ha vals e];exact h
def ae0(T:Tab)(Φ:G6)(Q:AV->Prop)(r:RT)(L:List AV)(A:Nat->List AV->Prop):Prop:=(∀ v∈L,am0 v)->E1 T Φ Q r (env L) A
section
variable {T:Tab} {Φ:G6} {Q:AV->Prop} {L:List AV} {A:Nat->List AV->Prop}
theorem wi0{L vs:List AV}{i:Nat}(h:i<L.length):env (L++vs) i=env L i:=by unfold env;rw[fS h]
theorem ae0.opL{o:RO}{fr:Nat}{pat:AV}{r:RT}(vs:List AV)(he:j4 T Φ (env L) o=some (pat.sub (env (L++vs))))(c:L.length=fr)(hv:∀ v∈vs,am0 v)(h:ae0 T Φ Q r (L++vs) A):ae0 T Φ Q (.op o fr pat r) L A:=fun b=>by
 have a:∀ v∈L++vs,am0 v:=fun v hm=>by
  rcases aK.1 hm with hm | hm
  ·exact b v hm
  exact hv v hm
 exact⟨env (L++vs),fun i hi=>wi0 (by omega),Fit.env a,he,h a⟩
theorem ae0.test{i:Nat}{a b:RT}(t:Bool)(hi:env L i=.sc (.bool t))(h1:t=true->ae0 T Φ Q a L A)(h2:t=false->ae0 T Φ Q b L A):ae0 T Φ Q (.test i a b) L A:=fun c=>by
 cases t with
 | true=>exact .inl ⟨hi,h1 rfl c⟩
 | false=>exact .inr ⟨hi,h2 rfl c⟩
theorem ae0.retL{c:AV}{l:List Nat}(hl:∀ j∈l,∃ es,env L j=.rs es)(h:Q (c.sub (env L))):ae0 T Φ Q (.ret c l) L A:=fun _=>⟨hl,h⟩
theorem ae0.loop{l k:Nat}{inits:List AV}{body:RT}(I:Nat->List AV->Prop)(d:L.length=l)(e:body.bnd (l+k+1)=true)(n0:Nat)(f:I n0 (inits.map (AV.sub (env L))))
  (h:∀ n vals,I n vals->vals.length=k->ae0 T Φ Q body (L++(vals++[.sc (.bool false)])) (fun c=>if c=l then (fun a=>∃ m,m<n/\I m a)else A c)):ae0 T Φ Q (.loop l k inits body) L A:=fun g=>by
 refine⟨I,⟨n0,f⟩,fun n vals hi hl hv o h1 h2 p hf=>?_⟩;have b:∀ v∈L++(vals++[.sc (.bool false)]),am0 v:=fun v hm=>by
  rcases aK.1 hm with hm | hm
  ·exact g v hm
  rcases aK.1 hm with hm | hm
  ·exact hv v hm
  simp only[aT]at hm;subst hm;trivial
 refine E1.agree body e hf (fun i hi=>?_) (h n vals hi hl b);subst d;by_cases c1:i<L.length
 ·rw[wi0 c1];exact h1 i c1
 obtain⟨j,rfl⟩:∃ j,i=L.length+j:=⟨i-L.length,by omega⟩;by_cases c2:j<vals.length
 ·rw[h2 j c2]
  unfold env;rw[cV (by omega),cN,fS c2];simp[c2]
 have:j=k:=by omega
 subst this;unfold env;rw[cV (by omega),cN,cV (by omega),hl,p];simp
end
end Go.Ab
namespace Go.Ab
open Go
variable [B5]
def nN0:Operand->Bool
 | .const (.slice none 0 0)=>true
 | _=>false
theorem ln0{x:Operand}(h:nN0 x=true):x=wX0:=by
 unfold nN0 at h;split at h
 ·rfl
 cases h
def bu0(o:Oper)(d:Nat):Bool:=match o.guard,o.dst with
 | none,some e=>aA e d
 | _,_=>false
theorem U5{o:Oper}{d:Nat}{op:Op}(h:bu0 o d=true)(a:o.op=op):nB0 o (some d) op:=by
 unfold bu0 at h;split at h
 ·rename_i h1 h2
  rw[bk]at h;subst h;exact⟨h2,a,h1⟩
 cases h
def nF0(o:Oper):Bool:=match o.op with
 | .assign x=>nN0 x
 | _=>false
theorem lO0{o:Oper}(h:nF0 o=true):o.op=.assign wX0:=by grind [nF0,ln0]
def mb0(n:Nat):Operand->Bool
 | .tmp m=>aA m n
 | _=>false
theorem eP0{n:Nat}{x:Operand}(h:mb0 n x=true):x=.tmp n:=by
 unfold mb0 at h
 grind [bk]
def mov0(o:Oper):Bool:=match o.op with
 | .move x=>mb0 0 x
 | _=>false
theorem qg0{o:Oper}(h:mov0 o=true):o.op=.move (.tmp 0):=by grind [mov0,eP0]
def asg7(o:Oper):Bool:=match o.op with
 | .assign x=>mb0 7 x
 | _=>false
theorem yp0{o:Oper}(h:asg7 o=true):o.op=.assign (.tmp 7):=by grind [asg7,eP0]
def yf0(t:Nat)(o:Oper):Bool:=match o.op with
 | .binOp .eql a x y _=>aA a t&&mb0 3 x&&nN0 y
 | _=>false
theorem ue0{t:Nat}{o:Oper}(h:yf0 t o=true):∃ yt,o.op=.binOp .eql t (.tmp 3) wX0 yt:=by grind [yf0,bk,eP0,ln0]
def bs0(t:Nat)(o:Oper):Bool:=match o.op with
 | .buildSlice a 0 ⟨[]⟩=>aA a t
 | _=>false
theorem bs0_eq{t:Nat}{o:Oper}(h:bs0 t o=true):o.op=.buildSlice t 0 #[]:=by grind [bs0,bk]
def yg0(t:Nat)(o:Oper):Bool:=match o.op with
 | .call { callee:=.builtin .append,args:=⟨[x,y]⟩,argTypes:=⟨[a,b]⟩ }=>mb0 5 x&&mb0 6 y&&aA a t&&aA b t
 | _=>false
theorem ug0{t:Nat}{o:Oper}(h:yg0 t o=true):o.op=.call { callee:=.builtin .append,args:=#[.tmp 5,.tmp 6],argTypes:=#[t,t] }:=by grind [yg0,bk,eP0]
def iW0(fn:Func)(t:Nat):Bool:=aA fn.ntmps 8&&(match fn.results with
  | ⟨[.tmp n]⟩=>aA n 2
  | _=>false)&&match fn.body with
 | some (.seq (.region _ ⟨[o0]⟩ false) (.seq (.seq (.region _ ⟨[o1,o2]⟩ false) (.cond x (.seq (.region _ ⟨[o3]⟩ false) .ret) .skip)) (.seq (.region _ ⟨[o4,o5,o6,o7]⟩ false) .ret)))=>mb0 4 x&&bu0 o0 2&&nF0 o0&&bu0 o1 3&&mov0 o1&&bu0 o2 4&&yf0 t o2&&bu0 o3 2&&nF0 o3&&bu0 o4 5&&bs0 t o4&&bu0 o5 6&&mov0 o5&&bu0 o6 7&&yg0 t o6&&bu0 o7 2&&asg7 o7
 | _=>false
theorem qn0{fn:Func}{t:Nat}(h:iW0 fn t=true):mA0 fn t:=by
 unfold iW0 at h;simp only[ab,bk]at h;obtain⟨⟨h1,h2⟩,a⟩:=h;split at h2
 ·rename_i x b
  split at a
  ·rename_i i0 o0 i1 o1 o2 y i2 o3 i3 o4 o5 o6 o7 c
   simp only[ab]at a;obtain⟨⟨⟨⟨⟨⟨⟨⟨⟨⟨⟨⟨⟨⟨⟨⟨d,a0⟩,e⟩,f⟩,g⟩,a2⟩,i⟩,a3⟩,j⟩,a4⟩,k⟩,a5⟩,l⟩,m⟩,n⟩,o⟩,p⟩:=a;obtain⟨yt,e2⟩:=ue0 i;refine⟨h1,by rw[b,af h2],i0,i1,i2,i3,o0,o1,o2,o3,o4,o5,o6,o7,yt,?_,U5 a0 (lO0 e),U5 f (qg0 g),U5 a2 e2,U5 a3 (lO0 j),U5 a4 (bs0_eq k),U5 a5 (qg0 l),U5 m (ug0 n),U5 o (yp0 p)⟩;rw[c,eP0 d]
  cases a
 cases h2
end Go.Ab
namespace Go.Ab
open Go
variable [B5]
abbrev I64(n:Int):AV:=.sc (.int .i64 n)
abbrev BB(b:Bool):AV:=.sc (.bool b)
section
variable {T:Tab} {Φ:G6} {θ:Nat->AV} {x y:AV} {a b:Int} {t:TypeId}
theorem xk0{l:List Nat}(h:∀ j∈l,∃ es,θ j=.rs es):j4 T Φ θ (.rows l)=some (BB true):=by
 simp only[j4]
 grind
end
end Go.Ab
namespace Go.Ab
open Go
variable [B5]
theorem Rel.frameH{G G':c9}{σ σv σv' σ':c8}{w w':World}(c:Rel G σ w)(h:∀ id o,σv.objs id=some o->σ.objs id=some o)(d:Rel G' σv' w')(e:Fr G σv w G' σv' w')(t:G'.w0=G.w0)
  (k:∀ id o,σ.objs id=some o->σv.objs id=none->G'.pl id=G.pl id) (u:∀ id o,σ.objs id=some o->σv.objs id=none->∀ p s,P1 G p o s->P1 G' p o s)
  (n:∀ id,σ'.next<=id->G'.pl id=none) (l:∀ id o,σ'.objs id=some o->σv'.objs id=some o\/(σ.objs id=some o/\σv.objs id=none)):Rel G' σ' w'/\Fr G σ w G' σ' w':=by
 have hs:=e.size;have f:∀ id o p,σ.objs id=some o->σv.objs id=none->G.pl id=some p->p.virt=false->∀ id0 o0 p0,σv.objs id0=some o0->G.pl id0=some p0->p0.virt=false->p0.block≠p.block :=fun id o p h1 h2 m q id0 o0 p0 g1 g2 g3 g4=>by have:=c.sep id0 id o0 o p0 p (h _ _ g1) h1 g2 m g3 q g4;rw[this,h2]at g1;cases g1
 refine⟨⟨d.os,d.tape,d.output,d.size,d.imm,n,fun id o s=>?_,fun i j oi oj pi pj h1 h2 m q v1 v2 C=>?_,d.glob⟩,?_⟩
 ·rcases l id o s with h1 | ⟨h1,h2⟩
  ·exact d.objs id o h1
  obtain⟨p,hp,hl⟩:=c.objs id o h1;refine⟨p,by rw[k _ _ h1 h2];exact hp,?_⟩;rcases hl with hl | ⟨hv,v,z,B⟩
  ·exact .inl hl
  refine .inr ⟨hv,?_,by rw[t];exact z,?_⟩
  ·cases r:G'.imm p.block with
   | none=>rfl
   | some x=>
    rcases e.imm _ _ r with g | g | ⟨id0,o0,p0,g1,g2,g3,g4⟩
    ·rw[v]at g;cases g
    ·have:=c.obj_lt h1 hp hv;omega
    grind
  rw[e.same p.block (c.obj_lt h1 hp hv) (fun id0 o0 p0 g1 g2 g3=>f id o p h1 h2 hp hv id0 o0 p0 g1 g2 g3)];exact u _ _ h1 h2 _ _ B
 ·have ee0:∀ i j oi oj pi pj,σv'.objs i=some oi->σ.objs j=some oj->σv.objs j=none->G'.pl i=some pi->G'.pl j=some pj->pi.virt=false->pj.virt=false->pi.block≠pj.block:=by
   intro i j oi oj pi pj I a2 a3 a4 a5 J D N;have E:G.pl j=some pj:=by rw[<- k _ _ a2 a3];exact a5
   have K:=c.obj_lt a2 E D;obtain⟨id0,o0,p0,g1,g2,g3,g4⟩:=e.live i oi pi I a4 J (by omega);exact f j oj pj a2 a3 E D id0 o0 p0 g1 g2 g3 (by omega)
  rcases l i oi h1 with a | ⟨a,H⟩<;>rcases l j oj h2 with b | ⟨b,L⟩
  ·exact d.sep i j oi oj pi pj a b m q v1 v2 C
  ·grind
  ·grind
  exact c.sep i j oi oj pi pj a b (by rw[<- k _ _ a H];exact m) (by rw[<- k _ _ b L];exact q) v1 v2 C
 refine⟨e.size,fun b r M=>e.same b r (fun id o p h1 h2 m=>M id o p (h _ _ h1) h2 m),fun id o p h1 h2 m q=>?_,fun b o r=>?_,e.drawn⟩
 ·rcases l id o h1 with a | ⟨a,H⟩
  ·obtain⟨id0,o0,p0,g1,g2,g3,g4⟩:=e.live id o p a h2 m q
   grind
  grind
 rcases e.imm b o r with g | g | ⟨id0,o0,p0,g1,g2,g3,g4⟩
 ·exact .inl g
 ·exact .inr (.inl g)
 grind
def N6:List (Nat×j5)->Nat->Option j5
 | [],_=>none
 | p::l,i=>if i=p.1 then some p.2 else N6 l i
def addH:List (Nat×j5)->c8->c8
 | [],σ=>σ
 | p::l,σ=>(addH l σ).set p.1 p.2
theorem F7(σ:c8)(i:Nat):∀ H:List (Nat×j5),(addH H σ).objs i=match N6 H i with | some o=>some o | none=>σ.objs i
 | []=>rfl
 | p::l=>by
  simp only[addH,c8.objs_set,N6];split
  ·rfl
  exact F7 σ i l
theorem Z4(σ:c8):∀ H:List (Nat×j5),(addH H σ).next=σ.next
 | []=>rfl
 | p::l=>by simp only[addH,c8.set_next];exact Z4 σ l
theorem V5:∀ {H:List (Nat×j5)} {i:Nat} {o:j5},N6 H i=some o->(i,o)∈H
 | [],_,_,h=>by cases h
 | p::l,i,o,h=>by
  unfold N6 at h;split at h
  ·rename_i e;cases h;subst e;exact List.mem_cons_self
  exact List.mem_cons_of_mem _ (V5 h)
def AS.addH(H:List (Nat×j5))(s:AS):AS:={ s with st:=Go.Ab.addH H s.st }
@[simp] theorem AS.addH_st (H:List (Nat×j5)) (s:AS):(s.addH H).st=Go.Ab.addH H s.st:=rfl
@[simp] theorem AS.addH_n (H:List (Nat×j5)) (s:AS):(s.addH H).n=s.n:=rfl
def pureRow:j5->Bool
 | .row _ _ es=>kO0 es
 | _=>false
theorem pf0{G G':c9}(f:∀ b o,G.imm b=some o->G'.imm b=some o){o:j5}(h:pureRow o=true){p:Pl}{c:Option Obj}(hk:P1 G p o c):P1 G' p o c:=by
 cases o with
 | row e z es=>obtain⟨cs,g,k,l,m,d⟩:=hk;refine⟨cs,g,k,l,m,fun i hi=>⟨(d i hi).1,fun j hj a=>?_⟩⟩;exact Q1 f ((d i hi).2 j hj a) (X1 (es:=es) (by simp only[AV.pur];exact h) i hi j hj)
 | _=>simp[pureRow]at h
theorem BWp.frame{P:Program}{n:Nat}{c:Code}{Q:Exit->AS->Prop}{s:AS}{H:List (Nat×j5)}(q:∀ p∈H,p.1<n/\pureRow p.2=true/\s.st.objs p.1=none)(h:BWp P n c Q s) :
  BWp P n c (fun e t=>∃ s',Q e s'/\t=s'.addH H) (s.addH H):=by
 intro u G a w l;have b:∀ i o,s.st.objs i=some o->(Go.Ab.addH H s.st).objs i=some o:=fun i o f=>by
  rw[F7];cases k:N6 H i with
  | none=>exact f
  | some o'=>have:=(q _ (V5 k)).2.2;rw[show ((i,o'):Nat×j5).1=i from rfl,f]at this;cases this
 have m:n<=s.st.next:=by have:(s.addH H).st.next=s.st.next:=Z4 _ _;omega
 have r:ba0 G s a w:=⟨l.defers,l.size,l.tmps,l.rel.less (Z4 _ _).symm b⟩;refine wp_mono (h m G a w r) ?_;rintro e x w' ⟨s',G',g,d,v⟩;have j:∀ id o,(Go.Ab.addH H s.st).objs id=some o->s.st.objs id=none->N6 H id=some o:=fun id o h1 h2=>by grind [F7,N6]
 have key:=Rel.frameH (σ:=Go.Ab.addH H s.st) (σv:=s.st) (σv':=s'.st) (σ':=Go.Ab.addH H s'.st) l.rel b d.rel g.fr g.w0
  (fun id o h1 h2=>g.pl id (q _ (V5 (j id o h1 h2))).1)
  (fun id o h1 h2 p f=>pf0 g.imm (q _ (V5 (j id o h1 h2))).2.1)
  (fun id hid=>d.rel.fresh id (by rw[Z4]at hid;exact hid))
  (fun id o f=>by
   rw[F7]at f;cases k:N6 H id with
   | none=>rw[k]at f;exact .inl f
   | some o' =>
    rw[k]at f;simp only[ai]at f;subst f;exact .inr ⟨by rw[F7,k],(q _ (V5 k)).2.2⟩)
 refine⟨s'.addH H,G',⟨g.w0,g.imm,g.pl,?_,key.2⟩,⟨d.defers,d.size,d.tmps,key.1⟩,s',v,rfl⟩;have:(s'.addH H).st.next=s'.st.next:=Z4 _ _;rw[this];exact g.nx
theorem BWp.lower{P:Program}{n m:Nat}{c:Code}{Q:Exit->AS->Prop}{s:AS}(hm:m<=n)(f:n<=s.st.next)(h:BWp P n c Q s):BWp P m c Q s:=by intro _ G a w g;refine wp_mono (h f G a w g) ?_;rintro e k w' ⟨s',G',b,d,j⟩;exact⟨s',G',⟨b.w0,b.imm,fun i hi=>b.pl i (by omega),bo hm b.nx,b.fr⟩,d,j⟩
theorem BWp.raise{P:Program}{n k:Nat}{c:Code}{Q:Exit->AS->Prop}{s:AS}(hk:s.st.next<=k)(h:BWp P n c Q { s with st:={ s.st with next:=k } }):BWp P n c Q s:=by intro i G a w d;have f:ba0 G { s with st:={ s.st with next:=k } } a w:=⟨d.defers,d.size,d.tmps,d.rel.next hk⟩;refine wp_mono (h (bo i hk) G a w f) ?_;rintro e l w' ⟨s',G',b,g,j⟩;exact⟨s',G',⟨b.w0,b.imm,b.pl,b.nx,(Fr.less (σ:=s.st) (σ':={ s.st with next:=k }) (fun _ _ h=>h)).trans b.fr⟩,g,j⟩
end Go.Ab
namespace Go.Ab
open Go
variable [B5]
mutual
def AV.ids(p:Nat->Bool):AV->Bool
 | .ms id _ _ _=>p id
 | .mp id _ _=>p id
 | .mm id=>p id
 | .it id=>p id
 | .ss id _ _=>p id
 | .xp id _ _=>p id
 | .xs id _ _ _=>p id
 | .rs es=>ni0 p es
 | .rp cs=>kN0 p cs
 | .fn _ a c=>kN0 p a&&kN0 p c
 | .agg cs=>kN0 p cs
 | .tup cs=>kN0 p cs
 | .rm c=>c.ids p
 | _=>true
def kN0(p:Nat->Bool):List AV->Bool
 | []=>true
 | c::cs=>c.ids p&&kN0 p cs
def ni0(p:Nat->Bool):List (List AV)->Bool
 | []=>true
 | c::cs=>kN0 p c&&ni0 p cs
end
theorem W3{p:Nat->Bool}:∀ {l:List AV},kN0 p l=true->∀ v∈l,v.ids p=true
 | [],_,v,hv=>by cases hv
 | c::cs,h,v,hv=>by
  simp only[kN0,ab]at h;rcases aC.1 hv with rfl | hv
  ·exact h.1
  exact W3 h.2 v hv
theorem dt0{p:Nat->Bool}:∀ {l:List (List AV)},ni0 p l=true->∀ r∈l,kN0 p r=true
 | [],_,v,hv=>by cases hv
 | c::cs,h,v,hv=>by
  simp only[ni0,ab]at h;rcases aC.1 hv with rfl | hv
  ·exact h.1
  exact dt0 h.2 v hv
mutual
theorem jL0(p:Nat->Bool):∀ v:AV,v.pur=true->v.ids p=true
 | .sc _,_=>by simp[AV.ids]
 | .rs es,h=>by simp only[AV.pur]at h;simp only[AV.ids];exact ob0 p es h
 | .rp cs,h=>by simp only[AV.pur]at h;simp only[AV.ids];exact cx0 p cs h
 | .fn _ a c,h=>by simp only[AV.pur,ab]at h;simp only[AV.ids,ab];exact⟨cx0 p a h.1,cx0 p c h.2⟩
 | .agg cs,h=>by simp only[AV.pur]at h;simp only[AV.ids];exact cx0 p cs h
 | .tup cs,h=>by simp only[AV.pur]at h;simp only[AV.ids];exact cx0 p cs h
 | .rm c,h=>by simp only[AV.pur]at h;simp only[AV.ids];exact jL0 p c h
 | .any,h=>by simp[AV.pur]at h
 | .ms ..,h=>by simp[AV.pur]at h
 | .mp ..,h=>by simp[AV.pur]at h
 | .mm _,h=>by simp[AV.pur]at h
 | .it _,h=>by simp[AV.pur]at h
 | .sy _,h=>by simp[AV.pur]at h
 | .ss ..,h=>by simp[AV.pur]at h
 | .xp ..,h=>by simp[AV.pur]at h
 | .xs ..,h=>by simp[AV.pur]at h
theorem cx0(p:Nat->Bool):∀ l:List AV,kh0 l=true->kN0 p l=true
 | [],_=>by simp[kN0]
 | c::cs,h=>by simp only[kh0,ab]at h;simp only[kN0,ab];exact⟨jL0 p c h.1,cx0 p cs h.2⟩
theorem ob0(p:Nat->Bool):∀ l:List (List AV),kO0 l=true->ni0 p l=true
 | [],_=>by simp[ni0]
 | c::cs,h=>by simp only[kO0,ab]at h;simp only[ni0,ab];exact⟨cx0 p c h.1,ob0 p cs h.2⟩
end
mutual
theorem fi0{θ:Nat->AV}(b:Fit θ)(p:Nat->Bool):∀ v:AV,v.ids p=true->(v.sub θ).ids p=true
 | .sc _,_=>by simp[AV.sub,AV.ids]
 | .any,_=>by simp[AV.sub,AV.ids]
 | .sy i,_=>by rw[p7];exact jL0 p _ (b i).pur
 | .rs es,h=>by simp only[AV.ids]at h;simp only[AV.sub,AV.ids];exact kr0 b p es h
 | .rp cs,h=>by simp only[AV.ids]at h;simp only[AV.sub,AV.ids];exact cd0 b p cs h
 | .fn _ a c,h=>by simp only[AV.ids,ab]at h;simp only[AV.sub,AV.ids,ab];exact⟨cd0 b p a h.1,cd0 b p c h.2⟩
 | .agg cs,h=>by simp only[AV.ids]at h;simp only[AV.sub,AV.ids];exact cd0 b p cs h
 | .tup cs,h=>by simp only[AV.ids]at h;simp only[AV.sub,AV.ids];exact cd0 b p cs h
 | .rm c,h=>by simp only[AV.ids]at h;simp only[AV.sub,AV.ids];exact fi0 b p c h
 | .ms ..,h=>by simpa[AV.sub,AV.ids]using h
 | .mp ..,h=>by simpa[AV.sub,AV.ids]using h
 | .mm _,h=>by simpa[AV.sub,AV.ids]using h
 | .it _,h=>by simpa[AV.sub,AV.ids]using h
 | .ss ..,h=>by simpa[AV.sub,AV.ids]using h
 | .xp ..,h=>by simpa[AV.sub,AV.ids]using h
 | .xs ..,h=>by simpa[AV.sub,AV.ids]using h
theorem cd0{θ:Nat->AV}(a:Fit θ)(p:Nat->Bool):∀ l:List AV,kN0 p l=true->kN0 p (af0 θ l)=true
 | [],_=>by simp[af0,kN0]
 | c::cs,h=>by simp only[kN0,ab]at h;simp only[af0,kN0,ab];exact⟨fi0 a p c h.1,cd0 a p cs h.2⟩
theorem kr0{θ:Nat->AV}(a:Fit θ)(p:Nat->Bool):∀ l:List (List AV),ni0 p l=true->ni0 p (dP0 θ l)=true
 | [],_=>by simp[dP0,ni0]
 | c::cs,h=>by simp only[ni0,ab]at h;simp only[dP0,ni0,ab];exact⟨cd0 a p c h.1,kr0 a p cs h.2⟩
end
theorem xR0{G:c9}{ι:Nat->Option (Option Nat)}{p:Nat->Bool}(hp:∀ i,p i=true->ι i=some (some i)){v:AV}{u:Value}(o:Rep G v u):v.ids p=true->Rep (G.ren ι) v u:=by
 have e:∀ i q,p i=true->G.pl i=some q->(G.ren ι).pl i=some q:=fun i q hi g=>by simp only[c9.ren,hp i hi];exact g
 induction o with
 | any v=>intro _;exact .any v
 | sc v=>intro _;exact .sc v
 | rsNil=>intro _;exact .rsNil
 | rs es a cap size val hs hc hlen himm _ k=>intro h;simp only[AV.ids]at h;exact .rs es a cap size val hs hc hlen himm (fun i j hi hj=>k i j hi hj (W3 (dt0 h _ (aq hi)) _ (aq hj)))
 | rp cs a val hs himm _ k=>intro h;simp only[AV.ids]at h;exact .rp cs a val hs himm (fun j hj=>k j hj (W3 h _ (aq hj)))
 | ms id size off len q g hv hz a c ha s hl hsp=>intro h;simp only[AV.ids]at h;exact .ms id size off len q (e _ _ h g) hv hz a c ha s hl hsp
 | msNil id size q g hv=>intro h;simp only[AV.ids]at h;exact .msNil id size q (e _ _ h g) hv
 | mp id i j q g=>intro h;simp only[AV.ids]at h;exact .mp id i j q (e _ _ h g)
 | mm id q g=>intro h;simp only[AV.ids]at h;exact .mm id q (e _ _ h g)
 | it id q g=>intro h;simp only[AV.ids]at h;exact .it id q (e _ _ h g)
 | rm rows b ents himm hlen iJ0 _ k=>
  intro h;simp only[AV.ids]at h;refine .rm rows b ents himm hlen iJ0 (fun i hi d=>k i hi d ?_);have l:=dt0 h _ (aq hi);generalize rows[i]=r at l;unfold D4;split
  ·exact W3 l _ (by simp)
  simp[AV.ids]
 | fn f first cap fv cv h1 h2 _ _ m n=>intro h;simp only[AV.ids,ab]at h;exact .fn f first cap fv cv h1 h2 (fun i hi d=>m i hi d (W3 h.1 _ (aq hi))) (fun i hi d=>n i hi d (W3 h.2 _ (aq hi)))
 | agg cs vs h1 _ k=>intro h;simp only[AV.ids]at h;exact .agg cs vs h1 (fun i hi d=>k i hi d (W3 h _ (aq hi)))
 | tup cs vs h1 _ k=>intro h;simp only[AV.ids]at h;exact .tup cs vs h1 (fun i hi d=>k i hi d (W3 h _ (aq hi)))
theorem RV.ids{ι:Nat->Option (Option Nat)}{p:Nat->Bool}(hp:∀ i,p i=true->ι i=some (some i)){v:AV}(h:v.ids p=true):RV ι v v:=fun _ _ a=>xR0 hp a h
def j5.ids(p:Nat->Bool):j5->Bool
 | .row _ _ es=>ni0 p es
 | .map _ es _=>es.all fun e=>e.2.1.ids p
 | .siter _ _=>true
 | .miter none _ _ _=>true
 | .miter (some i) _ _ _=>p i
 | .xrow _ _ _=>true
 | .xmap c=>c.ids p
 | .frow ..=>false
 | .xiter _ _=>true
theorem go0.ids{ι:Nat->Option (Option Nat)}{p:Nat->Bool}(hp:∀ i,p i=true->ι i=some (some i)){θ:Nat->AV}(f:Fit θ){o:j5}(h:o.ids p=true):go0 ι (o.sub θ) (o.sub θ):=by
 cases o with
 | row e z es=>simp only[j5.ids]at h;have h2:=kr0 f p es h;rw[bo0]at h2;refine⟨rfl,rfl,ar _,fun i hi k=>⟨rfl,fun j hj q=>RV.ids hp ?_⟩⟩;exact W3 (dt0 h2 _ (aq hi)) _ (aq hj)
 | map agg es c=>
  simp only[j5.ids]at h;refine⟨rfl,rfl,rfl,fun i hi k=>⟨rfl,RV.ids hp ?_,rfl⟩⟩;have d:i<es.length:=by simpa using hi
  simp only[cd];exact fi0 f p _ (ak.1 h _ (aq d))
 | siter a b=>exact⟨rfl,rfl⟩
 | miter m a b c=>
  cases m with
  | none=>exact⟨rfl,rfl,rfl⟩
  | some i=>exact⟨hp i h,rfl,rfl,rfl⟩
 | xrow e z i=>
  refine⟨rfl,rfl,ar _,fun a ha t=>⟨rfl,fun b n u=>?_⟩⟩;rcases(f i).cases with ⟨_,_,e1⟩ | ⟨_,e1⟩ | ⟨_,e1⟩ | ⟨es,e1⟩ | ⟨_,e1⟩ | ⟨_,e1⟩
  ·simp[e1,rowsOf]at ha
  ·simp[e1,rowsOf]at ha
  ·simp[e1,rowsOf]at ha
  ·have l:=(f i).pur
   rw[e1]at l;simp only[e1,rowsOf]at ha n ⊢;exact RV.ids hp (jL0 p _ (X1 l a ha b n))
  ·simp[e1,rowsOf]at ha
  simp[e1,rowsOf]at ha
 | xmap c=>
  simp only[j5.ids]at h;have h2:=fi0 f p c h;simp only[j5.sub];refine⟨rfl,rfl,rfl,fun i hi k=>⟨rfl,RV.ids hp ?_,rfl⟩⟩;have d:i<(rowsOf (c.sub θ)).length:=by rw[F8]at hi;exact hi
  rw[aa0 _ _ _ hi d];generalize c.sub θ=cc at *;cases cc with
  | rs es=>
   simp only[AV.ids]at h2;simp only[rowsOf]at d ⊢;have g:=dt0 h2 _ (aq d);generalize es[i]=r at g;unfold D4;split
   ·exact W3 g _ (by simp)
   simp[AV.ids]
  | _=>simp[rowsOf]at d
 | frow=>simp[j5.ids]at h
 | xiter s p=>exact⟨rfl,rfl⟩
end Go.Ab
namespace Go.Ab
open Go
variable [B5]
def cz0(row:List AV)(c:Nat×TypeId×Nat):j5:=.row c.2.1 c.2.2 (rowsOf (row.getD c.1 (.rs [])))
def fK0(r:Nat)(row:List AV):bE0->List (Nat×j5)
 | []=>[]
 | c::cs=>(hid r c.1,cz0 row c)::fK0 r row cs
def dq0(cols:bE0):Nat->List (List AV)->List (Nat×j5)
 | _,[]=>[]
 | r,row::rows=>fK0 r row cols++dq0 cols (r+1) rows
theorem lX0{r c:Nat}(hc:c<16)(a:16*(r+1)<=R2):hid r c=16*r+c:=Nat.mod_eq_of_lt (by omega)
theorem is0(i:Nat):∀ a b:List (Nat×j5),N6 (a++b) i=match N6 a i with | some o=>some o | none=>N6 b i
 | [],b=>rfl
 | p::a,b=>by
  simp only[List.cons_append,N6];split
  ·rfl
  exact is0 i a b
theorem hG0{r:Nat}(a:16*(r+1)<=R2)(row:List AV)(i:Nat):∀ {cols:bE0},(∀ c∈cols,c.1<16)->N6 (fK0 r row cols) i=if i / 16=r then (W9 cols (i%16)).map (cz0 row)else none
 | [],_=>by simp[fK0,N6,W9]
 | c::cs,hc=>by
  have h1:=hc c (by simp);have b:=hG0 a row i (cols:=cs) (fun c hm=>hc c (by simp[hm]));simp only[fK0,N6,lX0 h1 a];by_cases e:i=16*r+c.1
  ·have e1:i / 16=r:=by omega
   have e2:i%16=c.1:=by omega
   rw[Af e,Af e1,e2];simp[W9]
  rw[Ae e,b];split
  ·rename_i e1
   have e2:aA c.1 (i%16)=false:=by
    cases d:aA c.1 (i%16)with
    | false=>rfl
    | true=>have:=af d;omega
   simp[W9,e2]
  rfl
theorem eQ0{cols:bE0}(hc:∀ c∈cols,c.1<16)(i:Nat):∀ (rows:List (List AV)) (a:Nat),16*(a+rows.length)<=R2->N6 (dq0 cols a rows) i=if a<=i / 16 then (match rows[i / 16-a]? with | some row=>(W9 cols (i%16)).map (cz0 row) | none=>none)else none
 | [],a,_=>by simp[dq0,N6]
 | row::rows,a,b=>by
  have d:=eQ0 hc i rows (a+1) (by simp at b;omega);simp only[dq0];rw[is0,hG0 (by simp at b;omega) row i hc,d];by_cases e:i / 16=a
  ·simp only[e,Al,ar,Nat.sub_self,List.getElem?_cons_zero]
   cases W9 cols (i%16)with
   | some c=>rfl
   | none=>simp;intro h;omega
  simp only[e,Ah];by_cases e2:a<=i / 16
  ·have e3:a+1<=i / 16:=by omega
   have e4:i / 16-a=(i / 16-(a+1))+1:=by omega
   rw[Af e3,Af e2,e4,aI]
  rw[Ae (by omega),Ae e2]
def kE0(cols:bE0)(rows:List (List AV)):Prop:=16*rows.length<=R2/\(∀ c∈cols,c.1<16)/\(AV.rs rows).pur=true/\∀ r∈rows,∀ c∈cols,∃ xs,r[c.1]?=some (.rs xs)
theorem gB0{cols:bE0}:∀ {rows:List (List AV)} {a:Nat} {p:Nat×j5},p∈dq0 cols a rows->∃ r row c,rows[r]?=some row/\c∈cols/\p=(hid (a+r) c.1,cz0 row c)
 | [],_,_,h=>by simp[dq0]at h
 | row::rows,a,p,h=>by
  simp only[dq0,aK]at h;rcases h with h | h
  ·have aux:∀ cs:bE0,p∈fK0 a row cs->∃ c∈cs,p=(hid a c.1,cz0 row c):=by
    intro cs
    induction cs with
    | nil=>intro h;simp[fK0]at h
    | cons c cs d=>
     intro h;simp only[fK0,aC]at h;rcases h with h | h
     ·exact⟨c,by simp,h⟩
     obtain⟨c',h1,h2⟩:=d h;exact⟨c',by simp[h1],h2⟩
   obtain⟨c,h1,h2⟩:=aux cols h;exact⟨0,row,c,by simp,h1,by simpa using h2⟩
  obtain⟨r,b,c,h1,h2,e⟩:=gB0 h;exact⟨r+1,b,c,by simpa using h1,h2,by rw[e];congr 2;omega⟩
theorem eO0{cols:bE0}{rows:List (List AV)}(h:kE0 cols rows){p:Nat×j5}(hp:p∈dq0 cols 0 rows):p.1<R2/\pureRow p.2=true:=by obtain⟨r,row,c,h1,h2,rfl⟩:=gB0 hp;refine⟨dF0 _ _,?_⟩;obtain⟨e,rfl⟩:=an.1 h1;obtain⟨xs,f⟩:=h.2.2.2 _ (aq e) c h2;have a:=h.2.2.1;obtain⟨b,d⟩:=an.1 f;have:=X1 a r e c.1 b;rw[d]at this;simp only[cz0,List.getD_eq_getElem?_getD,f,bR,rowsOf,pureRow];simpa only[AV.pur]using this
theorem RV.pur{ι:Nat->Option (Option Nat)}{v:AV}(h:v.pur=true):RV ι v v:=fun G _ a=>Q1 (G:=G) (G':=G.ren ι) (fun _ _ b=>b) a h
theorem go0.pureRow{ι:Nat->Option (Option Nat)}{o:j5}(h:pureRow o=true):go0 ι o o:=by
 cases o with
 | row e z es=>exact⟨rfl,rfl,ar _,fun i hi a=>⟨rfl,fun j hj b=>RV.pur (X1 (es:=es) (by simp only[AV.pur];exact h) i hi j hj)⟩⟩
 | _=>simp[Go.Ab.pureRow]at h
theorem RV.ms{ι:Nat->Option (Option Nat)}{a b z o l:Nat}(h:ι a=some (some b)):RV ι (.ms a z o l) (.ms b z o l):=by
 intro G u d;cases d with
 | ms _ _ _ _ p hp hv hz e c f g hl hsp=>exact .ms a z o l p (by simp only[c9.ren,h];exact hp) hv hz e c f g hl hsp
 | msNil _ _ p hp hv=>exact .msNil a z p (by simp only[c9.ren,h];exact hp) hv
theorem RV.msNone{ι:Nat->Option (Option Nat)}{a z:Nat}(h:ι a=some none):RV ι (.ms a z 0 0) (.sc (.slice none 0 0)):=by intro G u b;cases b;exact .msNil a z ⟨0,0,0,true⟩ (by simp only[c9.ren,h]) rfl
theorem cy0(cols:bE0):∀ (row:List AV) (a j:Nat),(K4 cols a row)[j]?=(row[j]?).map (bi0 cols (a+j))
 | [],a,j=>by simp[K4]
 | v::vs,a,0=>by simp[K4]
 | v::vs,a,j+1=>by simp only[K4,aI];rw[cy0 cols vs (a+1) j];congr 2;omega
theorem dB0(cols:bE0):∀ (row:List AV) (a:Nat),(K4 cols a row).length=row.length
 | [],_=>rfl
 | _::vs,a=>by simp[K4,dB0 cols vs]
theorem Y6(cols:bE0)(r j:Nat)(v:AV):aG0 cols r j v=match W9 cols j with | some c=>.ms (hid r j) c.2.2 0 (rowsOf v).length | none=>v:=rfl
theorem go0.cells{ι:Nat->Option (Option Nat)}{e:TypeId}{z:Nat}{A B:List (List AV)}(hl:A.length=B.length)(h:∀ (r:Nat) (a b:List AV),A[r]?=some a->B[r]?=some b->a.length=b.length/\∀ (j:Nat) (x y:AV),a[j]?=some x->b[j]?=some y->RV ι x y):go0 ι (.row e z A) (.row e z B):=by refine⟨rfl,rfl,jf hl,fun i hi c=>?_⟩;obtain⟨h1,h2⟩:=h i _ _ (ae hi) (ae c);exact⟨h1,fun j hj d=>h2 j _ _ (ae hj) (ae d)⟩
theorem cu0(q:Nat)(i:Nat):∀ H:List (Nat×j5),N6 (H.filter (fun p=>!Nat.beq p.1 q)) i=if i=q then none else N6 H i
 | []=>by simp[N6]
 | p::H=>by
  have a:=cu0 q i H;by_cases e:p.1=q
  ·have:aA p.1 q=true:=by rw[bk];exact e
   simp only[bI,this,Bool.not_true,au,Ah,a,N6];by_cases e2:i=q
   ·simp[e2]
   rw[Ae e2,Ae e2,Ae (by omega)]
  have:aA p.1 q=false:=by
   cases b:aA p.1 q with
   | false=>rfl
   | true=>exact Am (af b) e
  simp only[bI,this,Bool.not_false,Al,N6,a];by_cases e2:i=q
  ·subst e2;rw[Af rfl,Ae (by omega)];simp
  rw[Ae e2];simp[e2]
theorem Q7{cols:bE0}{j:Nat}{c:Nat×TypeId×Nat}(h:W9 cols j=some c):c∈cols/\c.1=j:=by refine⟨List.mem_of_find?_eq_some h,?_⟩;have:=List.find?_some h;exact af this
theorem mo0{cols:bE0}{r a j b n:Nat}(e:16*n<=R2)(f:r<n)(d:a<n)(hj:j<16)(c:b<16)(h:hid r j=hid a b):r=a/\j=b:=by rw[lX0 hj (by omega),lX0 c (by omega)]at h;omega
theorem jS0{cols:bE0}(hc:∀ c∈cols,c.1<16){rows:List (List AV)}(hl:16*rows.length<=R2){r j:Nat}{row:List AV}(a:rows[r]?=some row)(hj:j<16):N6 (dq0 cols 0 rows) (hid r j)=(W9 cols j).map (cz0 row):=by
 have b:=(an.1 a).1;rw[eQ0 hc _ _ _ (by simpa using hl),lX0 hj (by omega)];have e1:(16*r+j) / 16=r:=by omega
 have e2:(16*r+j)%16=j:=by omega
 simp only[e1,e2,Nat.zero_le,Al,Nat.sub_zero,a]
theorem jG0{cols:bE0}{rows:List (List AV)}{i:Nat}(hi:R2<=i):N6 (dq0 cols 0 rows) i=none:=by
 cases a:N6 (dq0 cols 0 rows) i with
 | none=>rfl
 | some o=>obtain⟨r,row,c,_,_,q3⟩:=gB0 (V5 a);cases q3;have:=dF0 (0+r) c.1;omega
def Q0(rows:List (List AV))(k off:Nat)(v:AV):List (List AV):=match rows[k]? with
 | some row=>rows.set k (row.set off v)
 | none=>rows
theorem gP0{rows:List (List AV)}{k off:Nat}{v:AV}{row:List AV}(a:rows[k]?=some row)(r:Nat):(Q0 rows k off v)[r]?=if r=k then some (row.set off v)else rows[r]?:=by
 have hk:=(an.1 a).1;simp only[Q0,a,bW];by_cases e:k=r
 ·subst e;simp[hk]
 simp[e,Ne.symm e]
theorem R7{rows:List (List AV)}{k off:Nat}{v:AV}:(Q0 rows k off v).length=rows.length:=by unfold Q0;split<;>simp
theorem kE0.put{cols:bE0}{rows:List (List AV)}(h:kE0 cols rows){k off:Nat}{xs:List (List AV)}(m:(AV.rs xs).pur=true):kE0 cols (Q0 rows k off (.rs xs)):=by
 obtain⟨h1,h2,j,l⟩:=h;cases a:rows[k]? with
 | none=>
  have:Q0 rows k off (.rs xs)=rows:=by simp[Q0,a]
  rw[this];exact⟨h1,h2,j,l⟩
 | some row=>
  have g:row∈rows:=aD a;have f:∀ r∈Q0 rows k off (.rs xs),r=row.set off (.rs xs)\/r∈rows:=fun r b=>by
   obtain⟨i,hi⟩:=List.mem_iff_getElem?.1 b;rw[gP0 a]at hi;split at hi
   ·cases hi;exact .inl rfl
   exact .inr (aD hi)
  refine⟨by rw[R7];exact h1,h2,?_,fun r b c hc=>?_⟩
  ·simp only[AV.pur,fB0,ak]at j m ⊢
   intro r b x d;rcases f r b with rfl | b
   ·rcases List.mem_or_eq_of_mem_set d with d | rfl
    ·exact j row g x d
    simp only[AV.pur,fB0,ak];exact m
   exact j r b x d
  rcases f r b with rfl | b
  ·obtain⟨ys,n⟩:=l row g c hc
   rw[bW];split
   ·rename_i e
    have o:=(an.1 n).1;rw[Af (by omega)];exact⟨xs,rfl⟩
   exact⟨ys,n⟩
  exact l r b c hc
end Go.Ab
namespace Go.Ab
open Go
variable [B5]
def ph0(n:Nat)(R:List AV)(i:Nat):AV:=match bY i n with
 | true=>(R[n-1-i]?).getD (.sc (.bool false))
 | false=>.sc (.bool false)
theorem br0(R:List AV):env R.reverse=ph0 R.length R:=by grind [env,ph0,bY,aV,bz]
def Z5(T:Tab)(Φ:G6)(Q:AV->Prop)(r:RT)(n:Nat)(R:List AV)(A:Nat->List AV->Prop):Prop:=n=R.length->ae0 T Φ Q r R.reverse A
section
variable {T:Tab} {Φ:G6} {Q:AV->Prop} {n:Nat} {R:List AV} {A:Nat->List AV->Prop}
theorem Z5.opL{o:RO}{pat:AV}{r:RT}(vs:List AV)(he:j4 T Φ (ph0 n R) o=some (pat.sub (ph0 (n+vs.length) (vs++R))))(hv:∀ v∈vs,am0 v)(h:Z5 T Φ Q r (n+vs.length) (vs++R) A):Z5 T Φ Q (.op o n pat r) n R A:=fun a=>by
 subst a;have e:(vs++R).reverse=R.reverse++vs.reverse:=by simp
 refine ae0.opL vs.reverse (by grind [br0,d_]) (by simp) (fun v hm=>hv v (by simpa using hm)) ?_;have:=h (by simp[d_]);rw[e]at this;exact this
theorem Z5.test{i:Nat}{a b:RT}(t:Bool)(hi:ph0 n R i=.sc (.bool t))(h1:t=true->Z5 T Φ Q a n R A)(h2:t=false->Z5 T Φ Q b n R A):Z5 T Φ Q (.test i a b) n R A:=fun c=>by subst c;exact ae0.test t (by rw[br0];exact hi) (fun h=>h1 h rfl) (fun h=>h2 h rfl)
theorem Z5.retL{c:AV}{l:List Nat}(hl:∀ j∈l,∃ es,ph0 n R j=.rs es)(h:Q (c.sub (ph0 n R))):Z5 T Φ Q (.ret c l) n R A:=fun a=>by subst a;exact ae0.retL (by rw[br0];exact hl) (by rw[br0];exact h)
theorem Z5.loop{k:Nat}{inits:List AV}{body:RT}(I:Nat->List AV->Prop)(d:body.bnd (n+k+1)=true)(n0:Nat)(e:I n0 (inits.map (AV.sub (ph0 n R))))
  (h:∀ m vals,I m vals->vals.length=k->Z5 T Φ Q body (n+k+1) (.sc (.bool false)::(vals.reverse++R)) (fun b=>if b=n then (fun a=>∃ c,c<m/\I c a)else A b)):Z5 T Φ Q (.loop n k inits body) n R A:=fun f=>by
 subst f;refine ae0.loop I (by simp) d n0 (by rw[br0];exact e) (fun m vals hi hl=>?_);have:=h m vals hi hl (by simp[hl];omega);simpa using this
end
end Go.Ab
namespace Go.Ab
open Go
variable [B5]
mutual
inductive Sp where
 | int (k:IntKind)
 | bool
 | str
 | tt
 | nl
 | sl (l:SpL)
 | agg (l:SpL)
 | ptr (l:SpL)
 | fmap (l:SpL)
 | tup (l:SpL)
 | fn (g:Nat) (l:SpL)
inductive SpL where
 | nil
 | one (s:Sp)
 | cons (s:Sp) (l:SpL)
end
mutual
@[reducible] def Sp.T:Sp->Type
 | .int _=>Int
 | .bool=>Bool
 | .str=>ByteArray
 | .tt=>Unit
 | .nl=>Unit
 | .sl l=>List l.T
 | .agg l=>l.T
 | .ptr l=>l.T
 | .fmap l=>List l.T
 | .tup l=>l.T
 | .fn _ l=>l.T
@[reducible] def SpL.T:SpL->Type
 | .nil=>Unit
 | .one s=>s.T
 | .cons s l=>s.T×l.T
end
mutual
def enc:(s:Sp)->s.T->AV
 | .int k,n=>.sc (.int k n)
 | .bool,b=>.sc (.bool b)
 | .str,s=>.sc (.string s)
 | .tt,_=>.sc (.bool true)
 | .nl,_=>.sc (.slice none 0 0)
 | .sl l,xs=>.rs (xs.map (y3 l))
 | .agg l,x=>.agg (y3 l x)
 | .ptr l,x=>.rp (y3 l x)
 | .fmap l,xs=>.rm (.rs (xs.map (y3 l)))
 | .tup l,x=>.tup (y3 l x)
 | .fn g l,x=>.fn (.func g) [] (y3 l x)
def y3:(l:SpL)->l.T->List AV
 | .nil,_=>[]
 | .one s,x=>[enc s x]
 | .cons s l,x=>enc s x.1::y3 l x.2
end
def IntKind.eqb:IntKind->IntKind->Bool
 | .i8,.i8=>true
 | .i16,.i16=>true
 | .i32,.i32=>true
 | .i64,.i64=>true
 | .u8,.u8=>true
 | .u16,.u16=>true
 | .u32,.u32=>true
 | .u64,.u64=>true
 | _,_=>false
theorem IntKind.eqb_eq:∀ {a b:IntKind},IntKind.eqb a b=true->a=b:=by intro a b h;cases a<;>cases b<;>first | rfl | (simp[IntKind.eqb]at h)
mutual
def Sp.eqb:Sp->Sp->Bool
 | .int k,.int b=>IntKind.eqb k b
 | .bool,.bool=>true
 | .str,.str=>true
 | .tt,.tt=>true
 | .nl,.nl=>true
 | .sl l,.sl a=>l.eqb a
 | .agg l,.agg a=>l.eqb a
 | .ptr l,.ptr a=>l.eqb a
 | .fmap l,.fmap a=>l.eqb a
 | .tup l,.tup a=>l.eqb a
 | .fn g l,.fn c a=>aA g c&&l.eqb a
 | _,_=>false
def SpL.eqb:SpL->SpL->Bool
 | .nil,.nil=>true
 | .one s,.one s'=>s.eqb s'
 | .cons s l,.cons s' a=>s.eqb s'&&l.eqb a
 | _,_=>false
end
mutual
theorem Sp.eqb_eq:∀ (a b:Sp),a.eqb b=true->a=b
 | .int k,b,h=>by cases b<;>simp[Sp.eqb]at h;rw[IntKind.eqb_eq h]
 | .bool,b,h=>by cases b<;>simp[Sp.eqb]at h;rfl
 | .str,b,h=>by cases b<;>simp[Sp.eqb]at h;rfl
 | .tt,b,h=>by cases b<;>simp[Sp.eqb]at h;rfl
 | .nl,b,h=>by cases b<;>simp[Sp.eqb]at h;rfl
 | .sl l,b,h=>by cases b<;>simp[Sp.eqb]at h;rw[SpL.eqb_eq l _ h]
 | .agg l,b,h=>by cases b<;>simp[Sp.eqb]at h;rw[SpL.eqb_eq l _ h]
 | .ptr l,b,h=>by cases b<;>simp[Sp.eqb]at h;rw[SpL.eqb_eq l _ h]
 | .fmap l,b,h=>by cases b<;>simp[Sp.eqb]at h;rw[SpL.eqb_eq l _ h]
 | .tup l,b,h=>by cases b<;>simp[Sp.eqb]at h;rw[SpL.eqb_eq l _ h]
 | .fn g l,b,h=>by cases b<;>simp[Sp.eqb]at h;rw[h.1,SpL.eqb_eq l _ h.2]
theorem SpL.eqb_eq:∀ (a b:SpL),a.eqb b=true->a=b
 | .nil,b,h=>by cases b<;>simp[SpL.eqb]at h;rfl
 | .one s,b,h=>by cases b<;>simp[SpL.eqb]at h;rw[Sp.eqb_eq s _ h]
 | .cons s l,b,h=>by cases b<;>simp[SpL.eqb]at h;rw[Sp.eqb_eq s _ h.1,SpL.eqb_eq l _ h.2]
end
def mC0{a b:Sp}(h:a.eqb b=true)(x:a.T):b.T:=(Sp.eqb_eq a b h)▸x
theorem bN0{a b:Sp}(h:a.eqb b=true)(x:a.T):enc b (mC0 h x)=enc a x:=by have:=Sp.eqb_eq a b h;subst this;rfl
def SpL.len:SpL->Nat
 | .nil=>0
 | .one _=>1
 | .cons _ l=>l.len+1
theorem C4:∀ (l:SpL) (x:l.T),(y3 l x).length=l.len
 | .nil,_=>rfl
 | .one _,_=>rfl
 | .cons s l,x=>by simp[y3,SpL.len,C4 l x.2]
mutual
theorem mL0:∀ (s:Sp) (x:s.T),(enc s x).pur=true
 | .int _,_=>rfl
 | .bool,_=>rfl
 | .str,_=>rfl
 | .tt,_=>rfl
 | .nl,_=>rfl
 | .sl l,xs=>by simp only[enc,AV.pur,fB0,dc,ak];intro x _;exact ar0 l x
 | .agg l,x=>by simp only[enc,AV.pur,ai0];exact ar0 l x
 | .ptr l,x=>by simp only[enc,AV.pur,ai0];exact ar0 l x
 | .fmap l,xs=>by simp only[enc,AV.pur,fB0,dc,ak];intro x _;exact ar0 l x
 | .tup l,x=>by simp only[enc,AV.pur,ai0];exact ar0 l x
 | .fn g l,x=>by simp only[enc,AV.pur,ai0,fU,Bool.true_and];exact ar0 l x
theorem ar0:∀ (l:SpL) (x:l.T),(y3 l x).all AV.pur=true
 | .nil,_=>rfl
 | .one s,x=>by simp only[y3,bZ,fU,eG];exact mL0 s x
 | .cons s l,x=>by simp only[y3,bZ,mL0 s x.1,ar0 l x.2,iL]
end
def Sp.cell:Sp->Bool
 | .int _=>true
 | .bool=>true
 | .str=>true
 | .sl _=>true
 | .ptr _=>true
 | .fmap _=>true
 | _=>false
theorem tj0{s:Sp}(h:s.cell=true)(x:s.T):am0 (enc s x):=by have hp:=mL0 s x;cases s<;>simp[Sp.cell]at h<;>simp only[enc]at hp ⊢<;>first | trivial | exact hp
def Env:List Sp->Type
 | []=>Unit
 | s::Γ=>s.T×Env Γ
def fN0:(Γ:List Sp)->Env Γ->List AV
 | [],_=>[]
 | s::Γ,e=>enc s e.1::fN0 Γ e.2
theorem D8:∀ (Γ:List Sp) (e:Env Γ),(fN0 Γ e).length=Γ.length
 | [],_=>rfl
 | s::Γ,e=>by simp[fN0,D8 Γ e.2]
def thE(Γ:List Sp)(e:Env Γ):Nat->AV:=ph0 Γ.length (fN0 Γ e)
def pE0:(Γ:List Sp)->Nat->(s:Sp)->Option (Env Γ->s.T)
 | [],_,_=>none
 | g::_,0,s=>match h:g.eqb s with
  | true=>some fun e=>mC0 h e.1
  | false=>none
 | _::Γ,j+1,s=>match pE0 Γ j s with
  | some f=>some fun e=>f e.2
  | none=>none
theorem oA0:∀ (Γ:List Sp) (j:Nat) (s:Sp) (f:Env Γ->s.T),pE0 Γ j s=some f->∀ e,(fN0 Γ e)[j]?=some (enc s (f e))
 | [],_,_,_,h,_=>by simp[pE0]at h
 | g::Γ,0,s,f,h,e=>by
  unfold pE0 at h;split at h
  ·rename_i b
   cases h;simp[fN0,bN0]
  cases h
 | g::Γ,j+1,s,f,h,e=>by
  unfold pE0 at h;split at h
  ·rename_i a hf
   cases h;have:=oA0 Γ j s a hf e.2;simpa[fN0]using this
  cases h
def xg0(Γ:List Sp)(i:Nat)(s:Sp):Option (Env Γ->s.T):=match bY i Γ.length with
 | true=>pE0 Γ (Γ.length-1-i) s
 | false=>none
theorem mu0{Γ:List Sp}{i:Nat}{s:Sp}{f:Env Γ->s.T}(h:xg0 Γ i s=some f)(e:Env Γ):thE Γ e i=enc s (f e):=by
 unfold xg0 at h;split at h
 ·rename_i a
  have:=oA0 Γ _ s f h e;unfold thE ph0;rw[a];simp only[this,bR]
 cases h
def shOf(Γ:List Sp)(i:Nat):Option Sp:=match bY i Γ.length with
 | true=>Γ[Γ.length-1-i]?
 | false=>none
def tsc:Value->(s:Sp)->Option s.T
 | .int k n,.int a=>match IntKind.eqb k a with
  | true=>some n
  | false=>none
 | .bool b,.bool=>some b
 | .string s,.str=>some s
 | .slice none 0 0,.nl=>some ()
 | _,_=>none
theorem vo0{v:Value}{s:Sp}{x:s.T}(h:tsc v s=some x):AV.sc v=enc s x:=by
 unfold tsc at h;split at h
 ·split at h
  ·rename_i a
   cases h;rw[IntKind.eqb_eq a];rfl
  cases h
 ·cases h;rfl
 ·cases h;rfl
 ·rfl
 cases h
mutual
def H8(Γ:List Sp):AV->(s:Sp)->Option (Env Γ->s.T)
 | .sy i,s=>xg0 Γ i s
 | .sc v,s=>match tsc v s with
  | some x=>some fun _=>x
  | none=>none
 | .agg cs,.agg l=>bD0 Γ cs l
 | .tup cs,.tup l=>bD0 Γ cs l
 | .rp cs,.ptr l=>bD0 Γ cs l
 | .rs es,.sl l=>qu0 Γ es l
 | .rm c,.fmap l=>H8 Γ c (.sl l)
 | .fn (.func g) [] c,.fn a l=>match aA g a with
  | true=>bD0 Γ c l
  | false=>none
 | _,_=>none
def bD0(Γ:List Sp):List AV->(l:SpL)->Option (Env Γ->l.T)
 | [],.nil=>some fun _=>()
 | [a],.one s=>H8 Γ a s
 | a::az,.cons s l=>match H8 Γ a s with
  | some f=>match bD0 Γ az l with
   | some g=>some fun e=>(f e,g e)
   | none=>none
  | none=>none
 | _,_=>none
def qu0(Γ:List Sp):List (List AV)->(l:SpL)->Option (Env Γ->List l.T)
 | [],_=>some fun _=>[]
 | r::rs,l=>match bD0 Γ r l with
  | some f=>match qu0 Γ rs l with
   | some g=>some fun e=>f e::g e
   | none=>none
  | none=>none
end
mutual
theorem l7{Γ:List Sp}:∀ (a:AV) (s:Sp) (f:Env Γ->s.T),H8 Γ a s=some f->∀ e,a.sub (thE Γ e)=enc s (f e)
 | .sy i,s,f,h,e=>by simp only[H8]at h;simp only[AV.sub];exact mu0 h e
 | .sc v,s,f,h,e=>by
  simp only[H8]at h;split at h
  ·rename_i x b;cases h;simp only[AV.sub];exact vo0 b
  cases h
 | .agg cs,s,f,h,e=>by
  cases s<;>simp only[H8]at h<;>try (cases h;done)
  simp only[AV.sub,enc,Z0 cs _ _ h e]
 | .tup cs,s,f,h,e=>by
  cases s<;>simp only[H8]at h<;>try (cases h;done)
  simp only[AV.sub,enc,Z0 cs _ _ h e]
 | .rp cs,s,f,h,e=>by
  cases s<;>simp only[H8]at h<;>try (cases h;done)
  simp only[AV.sub,enc,Z0 cs _ _ h e]
 | .rs es,s,f,h,e=>by
  cases s<;>simp only[H8]at h<;>try (cases h;done)
  simp only[AV.sub,enc,nZ0 es _ _ h e]
 | .rm c,s,f,h,e=>by
  cases s<;>simp only[H8]at h<;>try (cases h;done)
  simp only[AV.sub,enc,l7 c _ _ h e]
 | .fn g a c,s,f,h,e=>by
  cases g<;>cases a<;>cases s<;>simp only[H8]at h<;>try (cases h;done)
  split at h
  ·rename_i d
   have:=af d;subst this;simp only[AV.sub,enc,Z0 c _ _ h e,af0]
  cases h
 | .any,s,f,h,e=>by cases s<;>simp only[H8]at h<;>cases h
 | .ms _ _ _ _,s,f,h,e=>by cases s<;>simp only[H8]at h<;>cases h
 | .mp _ _ _,s,f,h,e=>by cases s<;>simp only[H8]at h<;>cases h
 | .mm _,s,f,h,e=>by cases s<;>simp only[H8]at h<;>cases h
 | .it _,s,f,h,e=>by cases s<;>simp only[H8]at h<;>cases h
 | .ss _ _ _,s,f,h,e=>by cases s<;>simp only[H8]at h<;>cases h
 | .xp _ _ _,s,f,h,e=>by cases s<;>simp only[H8]at h<;>cases h
 | .xs _ _ _ _,s,f,h,e=>by cases s<;>simp only[H8]at h<;>cases h
theorem Z0{Γ:List Sp}:∀ (az:List AV) (l:SpL) (f:Env Γ->l.T),bD0 Γ az l=some f->∀ e,af0 (thE Γ e) az=y3 l (f e)
 | [],l,f,h,e=>by
  cases l<;>simp only[bD0]at h<;>try (cases h;done)
  rfl
 | [a],l,f,h,e=>by
  cases l with
  | nil=>simp only[bD0]at h;cases h
  | one s=>simp only[bD0]at h;simp only[af0,y3,l7 a s f h e]
  | cons s l=>
   simp only[bD0]at h;split at h
   ·rename_i c hf
    split at h
    ·rename_i g d
     cases h;have:=Z0 [] l g (by simpa only[bD0]using d) e;simp only[af0]at this;simp only[af0,y3,l7 a s c hf e,<-this]
    cases h
   cases h
 | a::b::az,l,f,h,e=>by
  cases l with
  | nil=>simp only[bD0]at h;cases h
  | one s=>simp only[bD0]at h;cases h
  | cons s l=>
   simp only[bD0]at h;split at h
   ·rename_i c hf
    split at h
    ·rename_i g d
     cases h;have:=Z0 (b::az) l g d e;rw[af0,y3,l7 a s c hf e,this]
    cases h
   cases h
theorem nZ0{Γ:List Sp}:∀ (es:List (List AV)) (l:SpL) (f:Env Γ->List l.T),qu0 Γ es l=some f->∀ e,dP0 (thE Γ e) es=(f e).map (y3 l)
 | [],l,f,h,e=>by simp only[qu0]at h;cases h;rfl
 | r::rs,l,f,h,e=>by
  simp only[qu0]at h;split at h
  ·rename_i a hf
   split at h
   ·rename_i g b
    cases h;simp only[dP0,ay,Z0 r l a hf e,nZ0 rs l g b e]
   cases h
  cases h
end
def SpL.ofList:List Sp->SpL
 | []=>.nil
 | [s]=>.one s
 | s::t=>.cons s (SpL.ofList t)
mutual
def shp(Γ:List Sp):AV->Option Sp
 | .sy i=>shOf Γ i
 | .sc (.int k _)=>some (.int k)
 | .sc (.bool _)=>some .bool
 | .sc (.string _)=>some .str
 | .sc (.slice none 0 0)=>some .nl
 | .agg cs=>match shpL Γ cs with
  | some l=>some (.agg (SpL.ofList l))
  | none=>none
 | .rp cs=>match shpL Γ cs with
  | some l=>some (.ptr (SpL.ofList l))
  | none=>none
 | .rs (r::_)=>match shpL Γ r with
  | some l=>some (.sl (SpL.ofList l))
  | none=>none
 | .rm c=>match shp Γ c with
  | some (.sl l)=>some (.fmap l)
  | _=>none
 | _=>none
def shpL(Γ:List Sp):List AV->Option (List Sp)
 | []=>some []
 | a::az=>match shp Γ a with
  | some s=>match shpL Γ az with
   | some l=>some (s::l)
   | none=>none
  | none=>none
end
structure Ext(X:Type)(Γ:List Sp) where
 Γ':List Sp
 push:X->Env Γ->Env Γ'
def yd0:Value->(s:Sp)->(Γ:List Sp)->Option (Ext s.T Γ)
 | .bool b,.tt,Γ=>match b with
  | true=>some ⟨Γ,fun _ e=>e⟩
  | false=>none
 | _,_,_=>none
mutual
def bz0:AV->(s:Sp)->(Γ:List Sp)->Option (Ext s.T Γ)
 | .sy i,s,Γ=>match aA i Γ.length&&s.cell with
  | true=>some ⟨s::Γ,fun v e=>(v,e)⟩
  | false=>none
 | .sc w,s,Γ=>yd0 w s Γ
 | .agg cs,.agg l,Γ=>cM0 cs l Γ
 | .rp cs,.ptr l,Γ=>cM0 cs l Γ
 | .tup cs,.tup l,Γ=>cM0 cs l Γ
 | .fn (.func g) [] cs,.fn g2 l,Γ=>match aA g g2 with
  | true=>cM0 cs l Γ
  | false=>none
 | _,_,_=>none
def cM0:List AV->(l:SpL)->(Γ:List Sp)->Option (Ext l.T Γ)
 | [],.nil,Γ=>some ⟨Γ,fun _ e=>e⟩
 | [a],.one s,Γ=>bz0 a s Γ
 | a::az,.cons s l,Γ=>match bz0 a s Γ with
  | some ⟨b,p1⟩=>match cM0 az l b with
   | some ⟨c,p2⟩=>some ⟨c,fun v e=>p2 v.2 (p1 v.1 e)⟩
   | none=>none
  | none=>none
 | _,_,_=>none
end
def sB0{Γ:List Sp}{X:Type}(x:Ext X Γ)(sub:(Nat->AV)->Prop)(v:X)(e:Env Γ):Prop :=∃ vs,fN0 x.Γ' (x.push v e)=vs++fN0 Γ e/\(∀ u∈vs,am0 u)/\∀ us,sub (ph0 (us++(vs++fN0 Γ e)).length (us++(vs++fN0 Γ e)))
theorem wz0(us:List AV)(v:AV)(R:List AV):ph0 (us++(v::R)).length (us++(v::R)) R.length=v:=by
 unfold ph0;have h:bY R.length (us++(v::R)).length=true:=by rw[aV];simp;omega
 rw[h];simp only;have h2:(us++(v::R)).length-1-R.length=us.length:=by simp
 rw[h2];simp
theorem tC0{w:Value}{s:Sp}{Γ:List Sp}{x:Ext s.T Γ}(h:yd0 w s Γ=some x)(v:s.T)(e:Env Γ):sB0 x (fun θ=>(AV.sc w).sub θ=enc s v) v e:=by
 unfold yd0 at h;split at h
 ·split at h
  ·cases h
   exact⟨[],rfl,by simp,fun us=>rfl⟩
  cases h
 cases h
mutual
theorem gE0:∀ (a:AV) (s:Sp) (Γ:List Sp) (x:Ext s.T Γ),bz0 a s Γ=some x->∀ v e,sB0 x (fun θ=>a.sub θ=enc s v) v e
 | .sy i,s,Γ,x,h,v,e=>by
  simp only[bz0]at h;split at h
  ·rename_i d
   cases h;simp only[ab]at d;have hi:=af d.1;refine⟨[enc s v],rfl,?_,fun us=>?_⟩
   ·intro u hu
    simp only[aT]at hu;subst hu;exact tj0 d.2 v
   simp only[AV.sub];rw[hi,<-D8 Γ e];exact wz0 us _ _
  cases h
 | .sc w,s,Γ,x,h,v,e=>by simp only[bz0]at h;exact tC0 h v e
 | .agg cs,s,Γ,x,h,v,e=>by
  cases s<;>simp only[bz0]at h<;>try (cases h;done)
  rename_i l;obtain⟨vs,h1,h2,b⟩:=bl0 cs l Γ x h v e;exact⟨vs,h1,h2,fun us=>by simp only[AV.sub,enc,b us]⟩
 | .rp cs,s,Γ,x,h,v,e=>by
  cases s<;>simp only[bz0]at h<;>try (cases h;done)
  rename_i l;obtain⟨vs,h1,h2,b⟩:=bl0 cs l Γ x h v e;exact⟨vs,h1,h2,fun us=>by simp only[AV.sub,enc,b us]⟩
 | .tup cs,s,Γ,x,h,v,e=>by
  cases s<;>simp only[bz0]at h<;>try (cases h;done)
  rename_i l;obtain⟨vs,h1,h2,b⟩:=bl0 cs l Γ x h v e;exact⟨vs,h1,h2,fun us=>by simp only[AV.sub,enc,b us]⟩
 | .rs _,s,Γ,x,h,v,e=>by cases s<;>simp only[bz0]at h<;>cases h
 | .rm _,s,Γ,x,h,v,e=>by cases s<;>simp only[bz0]at h<;>cases h
 | .fn g a c,s,Γ,x,h,v,e=>by
  cases g<;>cases a<;>cases s<;>simp only[bz0]at h<;>try (cases h;done)
  split at h
  ·rename_i d
   have:=af d;subst this;obtain⟨vs,h1,h2,b⟩:=bl0 c _ Γ x h v e;exact⟨vs,h1,h2,fun us=>by simp only[AV.sub,enc,b us,af0]⟩
  cases h
 | .any,s,Γ,x,h,v,e=>by cases s<;>simp only[bz0]at h<;>cases h
 | .ms _ _ _ _,s,Γ,x,h,v,e=>by cases s<;>simp only[bz0]at h<;>cases h
 | .mp _ _ _,s,Γ,x,h,v,e=>by cases s<;>simp only[bz0]at h<;>cases h
 | .mm _,s,Γ,x,h,v,e=>by cases s<;>simp only[bz0]at h<;>cases h
 | .it _,s,Γ,x,h,v,e=>by cases s<;>simp only[bz0]at h<;>cases h
 | .ss _ _ _,s,Γ,x,h,v,e=>by cases s<;>simp only[bz0]at h<;>cases h
 | .xp _ _ _,s,Γ,x,h,v,e=>by cases s<;>simp only[bz0]at h<;>cases h
 | .xs _ _ _ _,s,Γ,x,h,v,e=>by cases s<;>simp only[bz0]at h<;>cases h
theorem bl0:∀ (az:List AV) (l:SpL) (Γ:List Sp) (x:Ext l.T Γ),cM0 az l Γ=some x->∀ v e,sB0 x (fun θ=>af0 θ az=y3 l v) v e
 | [],l,Γ,x,h,v,e=>by
  cases l<;>simp only[cM0]at h<;>try (cases h;done)
  cases h;exact⟨[],rfl,by simp,fun us=>rfl⟩
 | [a],l,Γ,x,h,v,e=>by
  cases l with
  | nil=>simp only[cM0]at h;cases h
  | one s=>simp only[cM0]at h;obtain⟨vs,h1,h2,j⟩:=gE0 a s Γ x h v e;exact⟨vs,h1,h2,fun us=>by simp only[af0,y3,j us]⟩
  | cons s l=>
   simp only[cM0]at h;split at h
   ·rename_i f p1 hf
    split at h
    ·rename_i m p2 n
     cases h;obtain⟨vs,h1,h2,j⟩:=gE0 a s Γ _ hf v.1 e;obtain⟨c,d,g,i⟩:=bl0 [] l f _ (by simpa only[cM0]using n) v.2 (p1 v.1 e);simp only at h1 d;refine⟨c++vs,by simp only[d,h1,df],?_,fun us=>?_⟩
     ·intro u hu
      rcases aK.1 hu with hu | hu
      ·exact g u hu
      exact h2 u hu
     have k:=j (us++c);have a2:=i us;rw[h1]at a2;simp only[df]at k a2 ⊢;rw[af0,y3,k,<-a2]
    cases h
   cases h
 | a::b::az,l,Γ,x,h,v,e=>by
  cases l with
  | nil=>simp only[cM0]at h;cases h
  | one s=>simp only[cM0]at h;cases h
  | cons s l=>
   simp only[cM0]at h;split at h
   ·rename_i f p1 hf
    split at h
    ·rename_i m p2 n
     cases h;obtain⟨vs,h1,h2,j⟩:=gE0 a s Γ _ hf v.1 e;obtain⟨c,d,g,i⟩:=bl0 (b::az) l f _ n v.2 (p1 v.1 e);simp only at h1 d;refine⟨c++vs,by simp only[d,h1,df],?_,fun us=>?_⟩
     ·intro u hu
      rcases aK.1 hu with hu | hu
      ·exact g u hu
      exact h2 u hu
     have k:=j (us++c);have a2:=i us;rw[h1]at a2;simp only[df]at k a2 ⊢;rw[af0,y3,k,<-a2]
    cases h
   cases h
end
end Go.Ab
namespace Go.Ab
open Go
variable [B5]
structure TF where
 f:FuncId
 dom:SpL
 cod:Sp
 fn:dom.T->Option cod.T
def TF.Ok(Φ:G6)(t:TF):Prop:=∀ x r,t.fn x=some r->∃ φ,Φ t.f=some φ/\φ (y3 t.dom x)=some (enc t.cod r)
structure TO(Γ:List Sp) where
 s:Sp
 g:Env Γ->Option s.T
def TO.Ok(T:Tab)(Φ:G6){Γ:List Sp}(o:RO)(t:TO Γ):Prop:=∀ e v,t.g e=some v->j4 T Φ (thE Γ e) o=some (enc t.s v)
def binI(o:BinOp)(k:IntKind):Option ((s:Sp)×(Int->Int->Option s.T)):=match o with
 | .add=>some ⟨.int k,fun a b=>some (k.wrap (a+b))⟩
 | .sub=>some ⟨.int k,fun a b=>some (k.wrap (a-b))⟩
 | .mul=>some ⟨.int k,fun a b=>some (k.wrap (a*b))⟩
 | .quo=>some ⟨.int k,fun a b=>bif decide (b=0)then none else some (k.wrap (a.tdiv b))⟩
 | .rem=>some ⟨.int k,fun a b=>bif decide (b=0)then none else some (a.tmod b)⟩
 | .and=>some ⟨.int k,fun a b=>some (k.wrap (cB k.bits a &&& cB k.bits b).toNat)⟩
 | .or=>some ⟨.int k,fun a b=>some (k.wrap (cB k.bits a ||| cB k.bits b).toNat)⟩
 | .eql=>some ⟨.bool,fun a b=>some (decide (a=b))⟩
 | .neq=>some ⟨.bool,fun a b=>some (!decide (a=b))⟩
 | .lss=>some ⟨.bool,fun a b=>some (decide (a<b))⟩
 | .leq=>some ⟨.bool,fun a b=>some (decide (a<=b))⟩
 | .gtr=>some ⟨.bool,fun a b=>some (decide (b<a))⟩
 | .geq=>some ⟨.bool,fun a b=>some (decide (b<=a))⟩
 | _=>none
theorem xH0{T:Tab}{o:BinOp}{k:IntKind}{q:(s:Sp)×(Int->Int->Option s.T)}(h:binI o k=some q){a b:Int}{v:q.1.T}(hv:q.2 a b=some v)(t:TypeId):iR0 T o t (.sc (.int k a)) (.sc (.int k b))=some (enc q.1 v):=by
 unfold binI at h;split at h<;>first | (cases h;done) | skip
 all_goals (cases h;simp only[ai]at hv)
 case h_4=>
  by_cases c:b=0
  ·simp[c]at hv
  simp only[c,Ag,Aa,ai]at hv;subst hv;simp[iR0,uu0,enc,c]
 case h_5=>
  by_cases c:b=0
  ·simp[c]at hv
  simp only[c,Ag,Aa,ai]at hv;subst hv;simp[iR0,uu0,enc,c]
 all_goals (subst hv;simp[iR0,uu0,enc])
 ·rfl
 rfl
def shI(o:BinOp)(k:IntKind):Option (Int->Int->Option Int):=match o with
 | .shl=>some fun a b=>bif decide (b<0)then none else some (k.wrap (a*2^(min b.toNat k.bits)))
 | .shr=>some fun a b=>bif decide (b<0)then none else some (a.fdiv (2^(min b.toNat k.bits)))
 | _=>none
theorem shI_ok{T:Tab}{o:BinOp}{k d:IntKind}{q:Int->Int->Option Int}(h:shI o k=some q){a b v:Int}(hv:q a b=some v)(t:TypeId):iR0 T o t (.sc (.int k a)) (.sc (.int d b))=some (.sc (.int k v)):=by
 unfold shI at h;split at h<;>first | (cases h;done) | skip
 all_goals
  cases h;by_cases c:b<0
  ·simp[c]at hv
  simp only[c,Ag,Aa,ai]at hv;subst hv;simp[iR0,uu0,c]
def pV0:(l:SpL)->Option (l.T->l.T->Bool)
 | .one (.int .i64)=>some fun a b=>decide (a=b)
 | .cons (.int .i64) l=>match pV0 l with
  | some g=>some fun a b=>decide (a.1=b.1)&&g a.2 b.2
  | none=>none
 | _=>none
theorem rz0:∀ (l:SpL) (g:l.T->l.T->Bool),pV0 l=some g->∃ ints:l.T->List Int,(∀ x,AV.i64s (y3 l x)=some (ints x)/\(ints x).length=l.len)/\∀ a b,(ints a==ints b)=g a b
 | .nil,g,h=>by simp[pV0]at h
 | .one s,g,h=>by
  cases s with
  | int k=>
   cases k<;>simp only[pV0]at h<;>try (cases h;done)
   cases h;refine⟨fun x=>[x],fun x=>⟨rfl,rfl⟩,fun a b=>?_⟩;by_cases c:a=b<;>simp[c]
  | _=>simp[pV0]at h
 | .cons s l,g,h=>by
  cases s with
  | int k=>
   cases k<;>simp only[pV0]at h<;>try (cases h;done)
   split at h
   ·rename_i e f
    cases h;obtain⟨ints,h1,h2⟩:=rz0 l e f;refine⟨fun x=>x.1::ints x.2,fun x=>⟨?_,by simp[SpL.len,(h1 x.2).2]⟩,fun a b=>?_⟩
    ·simp only[y3,enc,AV.i64s,(h1 x.2).1]
    have e1:∀ (p q:Int) (x y:List Int),((p::x)==(q::y))=(decide (p=q)&&(x==y)):=fun p q x y=>by by_cases d:p=q<;>simp[d]
    rw[e1,h2]
   cases h
  | _=>simp[pV0]at h
def tBin(T:Tab)(Γ:List Sp)(o:BinOp)(t:TypeId)(x y:AV):Option (TO Γ):=match shp Γ x with
 | some (.int k)=>match H8 Γ x (.int k)with
  | some fx=>match shI o k with
   | some q=>match shp Γ y with
    | some (.int b)=>match H8 Γ y (.int b)with
     | some a=>some ⟨.int k,fun e=>q (fx e) (a e)⟩
     | none=>none
    | _=>none
   | none=>match H8 Γ y (.int k)with
    | some a=>match binI o k with
     | some q=>some ⟨q.1,fun e=>q.2 (fx e) (a e)⟩
     | none=>none
    | none=>none
  | none=>none
 | some .bool=>match H8 Γ x .bool with
  | some fx=>match H8 Γ y .bool with
   | some a=>match T t with
    | some { und:=.bool,.. }=>match o with
     | .eql=>some ⟨.bool,fun e=>some (fx e==a e)⟩
     | .neq=>some ⟨.bool,fun e=>some (!(fx e==a e))⟩
     | _=>none
    | _=>none
   | none=>none
  | none=>none
 | some .str=>match H8 Γ x .str with
  | some fx=>match H8 Γ y .str with
   | some a=>match o with
    | .eql=>some ⟨.bool,fun e=>some ((fx e).toList==(a e).toList)⟩
    | .neq=>some ⟨.bool,fun e=>some (!((fx e).toList==(a e).toList))⟩
    | _=>none
   | none=>none
  | none=>none
 | some (.agg l)=>match H8 Γ x (.agg l)with
  | some fx=>match H8 Γ y (.agg l)with
   | some a=>match pV0 l with
    | some q=>match T t with
     | some ti=>match ti.flat with
      | some n=>match aA n l.len with
       | true=>match o with
        | .eql=>some ⟨.bool,fun e=>some (q (fx e) (a e))⟩
        | .neq=>some ⟨.bool,fun e=>some (!(q (fx e) (a e)))⟩
        | _=>none
       | false=>none
      | none=>none
     | none=>none
    | none=>none
   | none=>none
  | none=>none
 | _=>none
theorem yb0{T:Tab}{Φ:G6}{Γ:List Sp}{o:BinOp}{t:TypeId}{x y:AV}{r:TO Γ}(h:tBin T Γ o t x y=some r):r.Ok T Φ (.bin o t x y):=by
 intro e v hv;unfold tBin at h;split at h
 ·split at h
  ·rename_i fx b
   split at h
   ·rename_i q c
    split at h
    ·split at h
     ·rename_i f a
      cases h;simp only[j4,l7 _ _ _ b e,l7 _ _ _ a e,enc];exact shI_ok c hv t
     cases h
    cases h
   split at h
   ·rename_i f a
    split at h
    ·rename_i q c
     cases h;simp only[j4,l7 _ _ _ b e,l7 _ _ _ a e];exact xH0 c hv t
    cases h
   cases h
  cases h
 ·split at h
  ·rename_i fx b
   split at h
   ·rename_i f a
    split at h
    ·rename_i d
     split at h
     ·cases h;cases hv
      simp[j4,l7 _ _ _ b e,l7 _ _ _ a e,enc,iR0,d]
     ·cases h;cases hv
      simp[j4,l7 _ _ _ b e,l7 _ _ _ a e,enc,iR0,d]
     cases h
    cases h
   cases h
  cases h
 ·split at h
  ·rename_i fx b
   split at h
   ·rename_i f a
    split at h
    ·cases h;cases hv
     simp[j4,l7 _ _ _ b e,l7 _ _ _ a e,enc,iR0,uu0]
    ·cases h;cases hv
     simp[j4,l7 _ _ _ b e,l7 _ _ _ a e,enc,iR0,uu0]
    cases h
   cases h
  cases h
 ·split at h
  ·rename_i fx b
   split at h
   ·rename_i f a
    split at h
    ·rename_i q c
     obtain⟨ints,h1,h2⟩:=rz0 _ _ c;split at h
     ·rename_i ti d
      split at h
      ·rename_i n i
       split at h
       ·rename_i g
        have g:=af g;split at h
        ·cases h;cases hv
         simp only[j4,l7 _ _ _ b e,l7 _ _ _ a e,enc,iR0,(h1 _).1,d,i,(h1 _).2,g,and_self,Al,h2]
        ·cases h;cases hv
         simp only[j4,l7 _ _ _ b e,l7 _ _ _ a e,enc,iR0,(h1 _).1,d,i,(h1 _).2,g,and_self,Al,h2]
        cases h
       cases h
      cases h
     cases h
    cases h
   cases h
  cases h
 cases h
def tUn(Γ:List Sp)(o:UnOp)(x:AV):Option (TO Γ):=match o with
 | .neg=>match shp Γ x with
  | some (.int k)=>match H8 Γ x (.int k)with
   | some fx=>some ⟨.int k,fun e=>some (k.wrap (0-fx e))⟩
   | none=>none
  | _=>none
 | .not=>match H8 Γ x .bool with
  | some fx=>some ⟨.bool,fun e=>some (!(fx e))⟩
  | none=>none
 | _=>none
theorem tUn_ok{T:Tab}{Φ:G6}{Γ:List Sp}{o:UnOp}{x:AV}{r:TO Γ}(h:tUn Γ o x=some r):r.Ok T Φ (.un o x):=by
 intro e v hv;unfold tUn at h;split at h
 ·split at h
  ·split at h
   ·rename_i fx a
    cases h;cases hv;simp[j4,l7 _ _ _ a e,enc,aUn]
   cases h
  cases h
 ·split at h
  ·rename_i fx a
   cases h;cases hv;simp[j4,l7 _ _ _ a e,enc,aUn]
  cases h
 cases h
def yB0(T:Tab)(Γ:List Sp)(s d:TypeId)(x:AV):Option (TO Γ):=match T s with
 | some _=>match T d with
  | some { und:=.int k,.. }=>match shp Γ x with
   | some (.int a)=>match H8 Γ x (.int a)with
    | some fx=>some ⟨.int k,fun e=>some (k.wrap (fx e))⟩
    | none=>none
   | _=>none
  | _=>none
 | none=>none
theorem tu0{T:Tab}{Φ:G6}{Γ:List Sp}{s d:TypeId}{x:AV}{r:TO Γ}(h:yB0 T Γ s d x=some r):r.Ok T Φ (.conv s d x):=by
 intro e v hv;unfold yB0 at h;split at h
 ·rename_i hs
  split at h
  ·rename_i b
   split at h
   ·split at h
    ·rename_i fx a
     cases h;cases hv;simp[j4,l7 _ _ _ a e,enc,jE0,hs,b]
    cases h
   cases h
  cases h
 cases h
def wT0(Γ:List Sp)(c a b:AV):Option (TO Γ):=match H8 Γ c .bool with
 | some d=>match shp Γ a with
  | some s=>match H8 Γ a s with
   | some f=>match H8 Γ b s with
    | some g=>some ⟨s,fun e=>some (bif d e then f e else g e)⟩
    | none=>none
   | none=>none
  | none=>none
 | none=>none
theorem tM0{T:Tab}{Φ:G6}{Γ:List Sp}{c a b:AV}{r:TO Γ}(h:wT0 Γ c a b=some r):r.Ok T Φ (.pick c a b):=by
 intro e v hv;unfold wT0 at h;split at h
 ·rename_i i d
  split at h
  ·split at h
   ·rename_i j f
    split at h
    ·rename_i k g
     cases h;cases hv;simp only[j4,l7 _ _ _ d e,l7 _ _ _ f e,l7 _ _ _ g e,enc];cases i e<;>rfl
    cases h
   cases h
  cases h
 cases h
def nth{α:Type}(xs:List α)(i:Int):Option α:=bif decide (0<=i)then xs[i.toNat]? else none
def tIdx(T:Tab)(Γ:List Sp)(t:TypeId)(x i:AV):Option (TO Γ):=match T t with
 | some { und:=.slice el,.. }=>match T el with
  | some a=>match shp Γ x with
   | some (.sl l)=>match H8 Γ x (.sl l)with
    | some fx=>match shp Γ i with
     | some (.int k)=>match H8 Γ i (.int k)with
      | some b=>match aA l.len a.size with
       | true=>some ⟨.ptr l,fun e=>nth (fx e) (b e)⟩
       | false=>none
      | none=>none
     | _=>none
    | none=>none
   | _=>none
  | none=>none
 | _=>none
theorem xM0{T:Tab}{Φ:G6}{Γ:List Sp}{t:TypeId}{x i:AV}{r:TO Γ}(h:tIdx T Γ t x i=some r):r.Ok T Φ (.idx t x i):=by
 intro e v hv;unfold tIdx at h;split at h
 ·rename_i f
  split at h
  ·rename_i j he
   split at h
   ·rename_i l hl
    split at h
    ·rename_i fx a
     split at h
     ·split at h
      ·rename_i g b
       split at h
       ·rename_i c
        have c:=af c;cases h;simp only[nth]at hv;by_cases d:0<=g e
        ·simp only[d,Ai,Ac]at hv
         simp only[j4,l7 _ _ _ a e,l7 _ _ _ b e,enc,A6,f,he,d,Al];rw[aM,hv];simp only[aj,C4,c,Al]
        simp[d]at hv
       cases h
      cases h
     cases h
    cases h
   cases h
  cases h
 cases h
def homL(s:Sp):(l:SpL)->Option (l.T->List s.T)
 | .nil=>some fun _=>[]
 | .one s'=>match h:s'.eqb s with
  | true=>some fun x=>[mC0 h x]
  | false=>none
 | .cons s' l=>match h:s'.eqb s with
  | true=>match homL s l with
   | some g=>some fun x=>mC0 h x.1::g x.2
   | none=>none
  | false=>none
theorem mU0(s:Sp):∀ (l:SpL) (g:l.T->List s.T),homL s l=some g->∀ x,y3 l x=(g x).map (enc s)
 | .nil,g,h,x=>by simp only[homL]at h;cases h;rfl
 | .one s',g,h,x=>by
  unfold homL at h;split at h
  ·cases h;simp only[y3,ay,bA,bN0]
  cases h
 | .cons s' l,g,h,x=>by
  unfold homL at h;split at h
  ·split at h
   ·rename_i a b
    cases h;simp only[y3,ay,bN0,mU0 s l a b x.2]
   cases h
  cases h
def SpL.head:SpL->Sp
 | .nil=>.tt
 | .one s=>s
 | .cons s _=>s
def oH0(s:ByteArray)(i:Int):Option Int:=bif decide (0<=i)then (s[i.toNat]?).map (fun b=>(b.toNat:Int))else none
def jz0(T:Tab)(Γ:List Sp)(t:TypeId)(x i:AV):Option (TO Γ):=match shp Γ i with
 | some (.int k)=>match H8 Γ i (.int k)with
  | some a=>match T t with
   | some { und:=.array len el,.. }=>match T el with
    | some b=>match shp Γ x with
     | some (.agg l)=>match H8 Γ x (.agg l)with
      | some fx=>match homL l.head l with
       | some g=>match aA l.len len&&(aA b.size 1&&!b.isAgg)with
        | true=>some ⟨l.head,fun e=>nth (g (fx e)) (a e)⟩
        | false=>none
       | none=>none
      | none=>none
     | _=>none
    | none=>none
   | some { und:=.string,.. }=>match H8 Γ x .str with
    | some fx=>some ⟨.int .u8,fun e=>oH0 (fx e) (a e)⟩
    | none=>none
   | _=>none
  | none=>none
 | _=>none
theorem qy0{T:Tab}{Φ:G6}{Γ:List Sp}{t:TypeId}{x i:AV}{r:TO Γ}(h:jz0 T Γ t x i=some r):r.Ok T Φ (.index t x i):=by
 intro e v hv;unfold jz0 at h;split at h
 ·split at h
  ·rename_i f j
   split at h
   ·rename_i len el _ _ _ _ n
    split at h
    ·rename_i q he
     split at h
     ·rename_i l hl
      split at h
      ·rename_i fx d
       split at h
       ·rename_i g o
        split at h
        ·rename_i m
         simp only[ab,bk,bL]at m;cases h;simp only[nth]at hv;by_cases c:0<=f e
         ·simp only[c,Ai,Ac]at hv
          have hlen:(g (fx e)).length=l.len:=by have:=Ap gB (mU0 _ _ _ o (fx e));rw[C4,aB]at this;exact this.symm
          have k:=(an.1 hv).1;have h1:f e<(len:Int):=by
           have:(f e).toNat<l.len:=by rw[hlen]at k;exact k
           rw[m.1]at this;have key:∀ z:Int,0<=z->z.toNat<len->z<(len:Int):=fun z a b=>by omega
           exact key _ c this
          simp only[j4,l7 _ _ _ d e,l7 _ _ _ j e,enc,cE0,n,he,c,h1,and_self,Al,ky0,E6,m.2.2,au,Ah,m.2.1,Nat.mul_one];rw[mU0 _ _ _ o,aM,hv];rfl
         simp[c]at hv
        cases h
       cases h
      cases h
     cases h
    cases h
   ·rename_i n
    split at h
    ·rename_i fx d
     cases h;simp only[oH0]at hv;by_cases c:0<=f e
     ·simp only[c,Ai,Ac]at hv
      simp only[j4,l7 _ _ _ d e,l7 _ _ _ j e,enc,cE0,n,c,Al];cases p:(fx e)[(f e).toNat]? with
      | none=>rw[p]at hv;cases hv
      | some b=>rw[p]at hv;cases hv;rfl
     simp[c]at hv
    cases h
   cases h
  cases h
 cases h
def vQ0(n:Nat)(x:Option Int)(d:Nat):Option Nat:=match x with
 | none=>some d
 | some i=>bif decide (0<=i)&&decide (i<=n)then some i.toNat else none
def sK0{α:Type}(xs:List α)(lo hi:Option Int):Option (List α):=match vQ0 xs.length hi xs.length with
 | some h=>match vQ0 h lo 0 with
  | some l=>some ((xs.take h).drop l)
  | none=>none
 | none=>none
def pg0(Γ:List Sp):Option AV->Option (Env Γ->Option Int)
 | none=>some fun _=>none
 | some a=>match shp Γ a with
  | some (.int k)=>match H8 Γ a (.int k)with
   | some f=>some fun e=>some (f e)
   | none=>none
  | _=>none
theorem gC0{Γ:List Sp}{a:Option AV}{f:Env Γ->Option Int}(h:pg0 Γ a=some f)(e:Env Γ)(n d:Nat):bound n (a.map (AV.sub (thE Γ e))) d=vQ0 n (f e) d:=by
 unfold pg0 at h;split at h
 ·cases h;rfl
 split at h
 ·split at h
  ·rename_i b hf
   cases h;simp only[aj,l7 _ _ _ hf e,enc,bound,vQ0];by_cases c:0<=b e<;>by_cases h1:b e<=n<;>simp[c,h1]
  cases h
 cases h
def slcB(s:ByteArray)(lo hi:Option Int):Option ByteArray:=match vQ0 s.size hi s.size with
 | some h=>match vQ0 h lo 0 with
  | some l=>some (s.extract l h)
  | none=>none
 | none=>none
def tSlc(T:Tab)(Γ:List Sp)(t:TypeId)(x:AV)(lo hi:Option AV):Option (TO Γ):=match T t with
 | some { und:=.slice el,.. }=>match T el with
  | some c=>match shp Γ x with
   | some (.sl l)=>match H8 Γ x (.sl l)with
    | some fx=>match pg0 Γ lo with
     | some a=>match pg0 Γ hi with
      | some b=>match aA l.len c.size with
       | true=>some ⟨.sl l,fun e=>sK0 (fx e) (a e) (b e)⟩
       | false=>none
      | none=>none
     | none=>none
    | none=>none
   | _=>none
  | none=>none
 | some { und:=.string,.. }=>match H8 Γ x .str with
  | some fx=>match pg0 Γ lo with
   | some a=>match pg0 Γ hi with
    | some b=>some ⟨.str,fun e=>slcB (fx e) (a e) (b e)⟩
    | none=>none
   | none=>none
  | none=>none
 | _=>none
theorem yE0{T:Tab}{Φ:G6}{Γ:List Sp}{t:TypeId}{x:AV}{lo hi:Option AV}{r:TO Γ}(h:tSlc T Γ t x lo hi=some r):r.Ok T Φ (.slc t x lo hi):=by
 intro e v hv;unfold tSlc at h;split at h
 ·rename_i g
  split at h
  ·rename_i l he
   split at h
   ·split at h
    ·rename_i fx a
     split at h
     ·rename_i j b
      split at h
      ·rename_i k c
       split at h
       ·rename_i i
        have i:=af i;cases h;simp only[sK0]at hv;simp only[j4,l7 _ _ _ a e,enc,R6,g,he,aB,gC0 c e,gC0 b e];split at hv
        ·rename_i h1 d
         split at hv
         ·rename_i l1 f
          cases hv;simp only[d,f];rw[Af]
          ·rw[<- cY,<-cZ]
          rw[dc,ak];intro y _;simp[C4,i]
         cases hv
        cases hv
       cases h
      cases h
     cases h
    cases h
   cases h
  cases h
 ·rename_i g
  split at h
  ·rename_i fx a
   split at h
   ·rename_i j b
    split at h
    ·rename_i k c
     cases h;simp only[slcB]at hv;simp only[j4,l7 _ _ _ a e,enc,R6,g,gC0 c e,gC0 b e];split at hv
     ·rename_i h1 d
      split at hv
      ·rename_i l1 f
       cases hv;simp only[d,f]
      cases hv
     cases hv
    cases h
   cases h
  cases h
 cases h
def tLen(T:Tab)(Γ:List Sp)(t:TypeId)(x:AV):Option (TO Γ):=match T t with
 | some { und:=.slice _,.. }=>match shp Γ x with
  | some (.sl l)=>match H8 Γ x (.sl l)with
   | some fx=>some ⟨.int .i64,fun e=>some ((fx e).length:Int)⟩
   | none=>none
  | _=>none
 | some { und:=.string,.. }=>match H8 Γ x .str with
  | some fx=>some ⟨.int .i64,fun e=>some ((fx e).size:Int)⟩
  | none=>none
 | _=>none
theorem xI0{T:Tab}{Φ:G6}{Γ:List Sp}{t:TypeId}{x:AV}{r:TO Γ}(h:tLen T Γ t x=some r):r.Ok T Φ (.len t x):=by
 intro e v hv;unfold tLen at h;split at h
 ·rename_i b
  split at h
  ·split at h
   ·rename_i fx a
    cases h;cases hv;simp[j4,l7 _ _ _ a e,enc,gb0,b,goInt]
   cases h
  cases h
 ·rename_i b
  split at h
  ·rename_i fx a
   cases h;cases hv;simp[j4,l7 _ _ _ a e,enc,gb0,b,goInt]
  cases h
 cases h
def mxI(a b:Int):Int:=if b > a then b else a
def mnI(a b:Int):Int:=if b<a then b else a
def pp0(Γ:List Sp)(k:IntKind):List AV->Option (Env Γ->List Int)
 | []=>some fun _=>[]
 | a::az=>match H8 Γ a (.int k)with
  | some f=>match pp0 Γ k az with
   | some g=>some fun e=>f e::g e
   | none=>none
  | none=>none
theorem kG0{Γ:List Sp}{k:IntKind}:∀ (az:List AV) (f:Env Γ->List Int),pp0 Γ k az=some f->∀ e,az.map (AV.sub (thE Γ e))=(f e).map (fun n=>AV.sc (.int k n))
 | [],f,h,e=>by simp only[pp0]at h;cases h;rfl
 | a::az,f,h,e=>by
  simp only[pp0]at h;split at h
  ·rename_i c hf
   split at h
   ·rename_i g b
    cases h;simp only[ay,l7 _ _ _ hf e,enc,kG0 az g b e]
   cases h
  cases h
theorem im0(k:IntKind):∀ (l:List Int) (a:Int),eS0 k a (l.map (fun n=>AV.sc (.int k n)))=some (.int k (l.foldl mxI a))
 | [],_=>rfl
 | b::l,a=>by simp only[ay,eS0,fB,mxI];exact im0 k l _
theorem hT0(k:IntKind):∀ (l:List Int) (a:Int),fe0 k a (l.map (fun n=>AV.sc (.int k n)))=some (.int k (l.foldl mnI a))
 | [],_=>rfl
 | b::l,a=>by simp only[ay,fe0,fB,mnI];exact hT0 k l _
def tMx(Γ:List Sp)(l:List AV):Option (TO Γ):=match l with
 | a::az=>match shp Γ a with
  | some (.int k)=>match H8 Γ a (.int k)with
   | some f=>match pp0 Γ k az with
    | some g=>some ⟨.int k,fun e=>some ((g e).foldl mxI (f e))⟩
    | none=>none
   | none=>none
  | _=>none
 | []=>none
def tMn(Γ:List Sp)(l:List AV):Option (TO Γ):=match l with
 | a::az=>match shp Γ a with
  | some (.int k)=>match H8 Γ a (.int k)with
   | some f=>match pp0 Γ k az with
    | some g=>some ⟨.int k,fun e=>some ((g e).foldl mnI (f e))⟩
    | none=>none
   | none=>none
  | _=>none
 | []=>none
theorem tMx_ok{T:Tab}{Φ:G6}{Γ:List Sp}{l:List AV}{r:TO Γ}(h:tMx Γ l=some r):r.Ok T Φ (.mx l):=by
 intro e v hv;unfold tMx at h;split at h
 ·split at h
  ·split at h
   ·rename_i f hf
    split at h
    ·rename_i g a
     cases h;cases hv;simp only[j4,ay,l7 _ _ _ hf e,enc,vy0,kG0 _ _ a e,im0,aj]
    cases h
   cases h
  cases h
 cases h
theorem tMn_ok{T:Tab}{Φ:G6}{Γ:List Sp}{l:List AV}{r:TO Γ}(h:tMn Γ l=some r):r.Ok T Φ (.mn l):=by
 intro e v hv;unfold tMn at h;split at h
 ·split at h
  ·split at h
   ·rename_i f hf
    split at h
    ·rename_i g a
     cases h;cases hv;simp only[j4,ay,l7 _ _ _ hf e,enc,vq0,kG0 _ _ a e,hT0,aj]
    cases h
   cases h
  cases h
 cases h
def Sp.cel1:Sp->Bool
 | .nl=>true
 | s=>s.cell
theorem jN0{s:Sp}(h:s.cel1=true)(x:s.T):(enc s x).one=true:=by cases s<;>first | rfl | (simp[Sp.cel1,Sp.cell]at h)
def SpL.cells:SpL->Bool
 | .nil=>true
 | .one s=>s.cel1
 | .cons s l=>s.cel1&&l.cells
theorem cells_one:∀ {l:SpL},l.cells=true->∀ x:l.T,(y3 l x).all AV.one=true
 | .nil,_,_=>rfl
 | .one s,h,x=>by simp only[y3,bZ,fU,eG];exact jN0 h x
 | .cons s l,h,x=>by simp only[SpL.cells,ab]at h;simp only[y3,bZ,jN0 h.1,cells_one h.2,iL]
def G5{α:Type}(bytes:Nat)(xs ys:List α):Option (List α):=bif decide ((2*(xs.length+ys.length)+1000)*bytes<=2^48)&&decide (xs.length+ys.length<=2^62)then some (xs++ys)else none
def tCat(T:Tab)(Γ:List Sp)(sT xT:TypeId)(x y:AV):Option (TO Γ):=match T sT with
 | some { und:=.slice el,.. }=>match T xT with
  | some b=>match T el with
   | some a=>match (match shp Γ x with | some s=>some s | none=>shp Γ y)with
    | some (.sl l)=>match H8 Γ x (.sl l)with
     | some fx=>match H8 Γ y (.sl l)with
      | some c=>match (!b.isInt)&&(aA l.len a.size&&(l.cells&&bY 0 a.size))with
       | true=>some ⟨.sl l,fun e=>G5 a.bytes (fx e) (c e)⟩
       | false=>none
      | none=>none
     | none=>none
    | _=>none
   | none=>none
  | none=>none
 | _=>none
theorem xi0{T:Tab}{Φ:G6}{Γ:List Sp}{sT xT:TypeId}{x y:AV}{r:TO Γ}(h:tCat T Γ sT xT x y=some r):r.Ok T Φ (.cat sT xT x y):=by
 intro e v hv;unfold tCat at h;split at h
 ·rename_i g
  split at h
  ·rename_i o a
   split at h
   ·rename_i i he
    generalize (match shp Γ x with | some s=>some s | none=>shp Γ y)=p at h;split at h
    ·rename_i l
     split at h
     ·rename_i fx b
      split at h
      ·rename_i d c
       split at h
       ·rename_i f
        simp only[ab,bk,bL,aV]at f;obtain⟨j,k,m,n⟩:=f;cases h;simp only[G5]at hv;cases hc:(decide ((2*((fx e).length+(d e).length)+1000)*i.bytes<=2^48)&&decide ((fx e).length+(d e).length<=2^62))with
        | false=>rw[hc]at hv;cases hv
        | true=>
         rw[hc]at hv;simp only[ab,Ad]at hc;cases hv;simp only[j4,l7 _ _ _ b e,l7 _ _ _ c e,enc,tb0,g,a,he,aB];rw[Af]
         ·rw[cF]
         refine⟨j,?_,hc.1,hc.2,n⟩;rw[dc,ak];intro y _;simp[C4,k,cells_one m y]
       cases h
      cases h
     cases h
    cases h
   cases h
  cases h
 cases h
def Sp.flat1:Sp->Bool
 | .int _=>true
 | .bool=>true
 | .str=>true
 | .tt=>true
 | _=>false
def SpL.flat1:SpL->Bool
 | .nil=>true
 | .one s=>s.flat1
 | .cons s l=>s.flat1&&l.flat1
def Sp.flat2:Sp->Bool
 | .agg l=>l.flat1
 | s=>s.flat1
def SpL.flat2:SpL->Bool
 | .nil=>true
 | .one s=>s.flat2
 | .cons s l=>s.flat2&&l.flat2
def Sp.flatS:Sp->Bool
 | .tup l=>l.flat2
 | .agg l=>l.flat1
 | s=>s.flat1
theorem oD0{s:Sp}(h:s.flat1=true)(x:s.T):∃ v,enc s x=.sc v:=by cases s<;>simp[Sp.flat1]at h<;>exact⟨_,rfl⟩
theorem eL0:∀ {l:SpL},l.flat1=true->∀ (x:l.T),(y3 l x).all (fun c=>match c with | .sc _=>true | _=>false)=true
 | .nil,_,_=>rfl
 | .one s,h,x=>by obtain⟨v,hv⟩:=oD0 (s:=s) h x;simp[y3,hv]
 | .cons s l,h,x=>by simp only[SpL.flat1,ab]at h;obtain⟨v,hv⟩:=oD0 h.1 x.1;simp[y3,hv,eL0 h.2]
theorem lB0:∀ {l:SpL},l.flat2=true->∀ (x:l.T),(y3 l x).all (fun c=>match c with | .sc _=>true | .agg b=>b.all (fun d=>match d with | .sc _=>true | _=>false) | _=>false)=true
 | .nil,_,_=>rfl
 | .one s,h,x=>by cases s<;>simp[SpL.flat2,Sp.flat2,Sp.flat1]at h<;>simp[y3,enc];exact fun d a=>ak.1 (eL0 h x) d a
 | .cons s l,h,x=>by simp only[SpL.flat2,ab]at h;have:=lB0 h.2 x.2;rw[y3,bZ,this,eG];have h1:=h.1;cases s<;>simp[Sp.flat2,Sp.flat1]at h1<;>simp[enc];exact fun d a=>ak.1 (eL0 h1 x.1) d a
theorem sQ0{s:Sp}(h:s.flatS=true)(x:s.T):oY0 (enc s x)=true:=by
 cases s<;>simp[Sp.flatS,Sp.flat1]at h<;>simp only[enc,oY0]
 ·exact eL0 h x
 exact lB0 h x
def rl0(Γ:List Sp)(f:FuncId)(args:List AV)(a:Bool)(t:TF):Option (TO Γ):=match aA t.f f&&(!a||t.cod.flatS)with
 | true=>match bD0 Γ args t.dom with
  | some b=>some ⟨t.cod,fun e=>t.fn (b e)⟩
  | none=>none
 | false=>none
def pZ0(Γ:List Sp)(f:FuncId)(args:List AV)(a:Bool):List TF->Option (TO Γ)
 | []=>none
 | t::ts=>match rl0 Γ f args a t with
  | some r=>some r
  | none=>pZ0 Γ f args a ts
theorem eK0(θ:Nat->AV):∀ l,af0 θ l=l.map (AV.sub θ):=fun l=>I3 θ l
theorem qY0{T:Tab}{Φ:G6}{Γ:List Sp}{f:FuncId}{args:List AV}{d:Bool}{t:TF}{r:TO Γ}(i:t.Ok Φ)(h:rl0 Γ f args d t=some r):r.Ok T Φ (.call f args d):=by
 intro e v hv;unfold rl0 at h;split at h
 ·rename_i a
  simp only[ab,bk,eo,bL]at a;obtain⟨rfl,a⟩:=a;split at h
  ·rename_i j c
   cases h;obtain⟨φ,h1,h2⟩:=i _ _ hv;have g:=Z0 _ _ _ c e;rw[eK0]at g;simp only[j4,h1,g,h2];rw[Af];intro b;rcases a with a | a
   ·rw[a]at b;cases b
   exact sQ0 a v
  cases h
 cases h
theorem nD0{T:Tab}{Φ:G6}{Γ:List Sp}{f:FuncId}{args:List AV}{a:Bool}:∀ (b:List TF) {r:TO Γ},(∀ t∈b,t.Ok Φ)->pZ0 Γ f args a b=some r->r.Ok T Φ (.call f args a)
 | [],r,_,h=>by simp[pZ0]at h
 | t::ts,r,c,h=>by
  simp only[pZ0]at h;split at h
  ·rename_i e d
   cases h;exact qY0 (c t (by simp)) d
  exact nD0 ts (fun t h=>c t (by simp[h])) h
def isSl(Γ:List Sp)(j:Nat):Bool:=match shOf Γ j with
 | some (.sl l)=>(xg0 Γ j (.sl l)).isSome
 | _=>false
theorem rb0{Γ:List Sp}{j:Nat}(h:isSl Γ j=true)(e:Env Γ):∃ es,thE Γ e j=.rs es:=by
 unfold isSl at h;split at h
 ·rename_i l _
  cases hv:xg0 Γ j (.sl l)with
  | none=>rw[hv]at h;cases h
  | some f=>exact⟨_,mu0 hv e⟩
 cases h
def xj0(Γ:List Sp)(l:List Nat):Option (TO Γ):=match l.all (isSl Γ)with
 | true=>some ⟨.tt,fun _=>some ()⟩
 | false=>none
theorem ta0{T:Tab}{Φ:G6}{Γ:List Sp}{l:List Nat}{r:TO Γ}(h:xj0 Γ l=some r):r.Ok T Φ (.rows l):=by
 intro e v hv;unfold xj0 at h;split at h
 ·rename_i a
  cases h;exact xk0 fun j hj=>rb0 (ak.1 a j hj) e
 cases h
end Go.Ab
