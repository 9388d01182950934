/- A part of the proof; its readable source lies in wip of the prover's repo (squeezed here for the limit of bytes). -/
import Derived.Test.YtlnpfkdodfgdcaaGreatDoorMb
import Derived.IntWalk
import Derived.Carry
import Derived.ChangeSame
set_option linter.unusedVariables false
set_option linter.unusedSimpArgs false
set_option linter.unusedSectionVars false
open BitVec renaming ofInt->bu
open Bool renaming and_eq_true->ab,and_self->eB,and_true->eP,false_eq_true->aq,not_eq_true'->cO,or_eq_true->br,true_and->dD
open Function renaming comp_def->cF
open Go.DataW renaming Trod->kP,TrodAll->gf
open Go.Instr renaming next->fV,range->jH
open Go.IntKind renaming i64->aa
open Go.Result renaming andThen_ok->ae
open Go.Sem renaming run_bind->ao,run_pure->au
open Go.Utf8 renaming decode->bV
open Go.Value renaming bool->kO,okWide->fS
open Go.Value.bool renaming injEq->iz
open List renaming all_cons->bU,all_eq_true->aj,all_map->dR,all_nil->gg,append_assoc->cL,cons_append->dB,drop_succ_cons->fY,eq_nil_of_length_eq_zero->cI,filter_cons->cA,foldl_cons->iC,getElem?_append_left->ie,getElem?_append_right->dA,getElem?_cons_succ->aR,getElem?_cons_zero->cq,getElem?_eq_getElem->ai,getElem?_eq_none->bD,getElem?_eq_some_iff->ar,getElem?_map->aS,getElem?_set->cd,getElem?_set_ne->iW,getElem_map->cn,getElem_mem->aw,length->gn,length_cons->ay,length_map->aD,length_nil->bx,length_set->jU,length_singleton->cZ,map->bZ,map_append->dL,map_congr_left->bo,map_cons->az,map_drop->ec,map_map->cY,map_nil->cB,map_take->eO,mem_append->aQ,mem_cons->aC,mem_map->aM,mem_of_getElem?->aN,mem_singleton->bJ,nil_append->aT,range'->dx,replicate->bm,take_succ_cons->ja
open List.cons renaming injEq->cG
open Nat renaming add_assoc->dq,add_comm->gr,add_mul->bI,add_sub_cancel_left->fG,beq->aB,beq_eq->b_,beq_refl->d_,ble->di,blt->cm,blt_eq->aZ,eq_of_beq_eq_true->af,le_of_ble_eq_true->aU,le_refl->ax,le_succ->kW,le_trans->bC,mod_two_eq_zero_or_one->ic,mul_le_mul_right->bq,zero_add->aG,zero_le->cN
open Option renaming getD_some->bS,map_none->cC,map_some->ak
open Option.some renaming injEq->ah
namespace Go.Ab
open Go
variable [B6]
theorem M4(cols:List (Nat×TypeId×Nat))(r:Nat):∀ (row:List AV) (a j:Nat),(Z7 cols r a row)[j]?=(row[j]?).map (aw0 cols r (a+j))
 | [],a,j=>by simp[Z7]
 | v::vs,a,0=>by simp[Z7]
 | v::vs,a,j+1=>by simp only[Z7,aR];rw[M4 cols r vs (a+1) j];congr 2;omega
theorem G6(cols:List (Nat×TypeId×Nat)):∀ (rows:List (List AV)) (a i:Nat),(H6 cols a rows)[i]?=(rows[i]?).map (Z7 cols (a+i) 0)
 | [],a,i=>by simp[H6]
 | v::vs,a,0=>by simp[H6]
 | v::vs,a,i+1=>by simp only[H6,aR];rw[G6 cols vs (a+1) i];congr 2;omega
theorem F6(cols:List (Nat×TypeId×Nat))(r:Nat):∀ (row:List AV) (a:Nat),(Z7 cols r a row).length=row.length
 | [],_=>rfl
 | _::vs,a=>by simp[Z7,F6 cols r vs]
theorem J2(cols:List (Nat×TypeId×Nat)):∀ (rows:List (List AV)) (a:Nat),(H6 cols a rows).length=rows.length
 | [],_=>rfl
 | _::vs,a=>by simp[H6,J2 cols vs]
theorem mF0{cols:List (Nat×TypeId×Nat)}{r j:Nat}{v:AV}(h:cols.all (fun q=>!Nat.beq q.1 j)=true):aw0 cols r j v=v:=by
 unfold aw0;have:cols.find? (fun c=>aB c.1 j)=none:=by rw[List.find?_eq_none];intro x a;have:=aj.1 h x a;rw[cO]at this;rw[this];simp
 rw[this]
theorem aC0{rows:List (List AV)}{i off:Nat}{v:Option AV}{a:Nat}:(T0 rows i off v)[a]?=match v with
  | none=>rows[a]?
  | some v=>if a=i then (rows[a]?).map (fun cs=>cs.set off v)else rows[a]?:=by
 unfold T0;cases v with
 | none=>rfl
 | some v=>
  simp only;cases h:rows[i]? with
  | none=>
   by_cases e:a=i
   ·subst e;simp[h]
   simp[e]
  | some cs=>
   by_cases e:a=i
   ·subst e
    obtain⟨hl,he⟩:=ar.1 h;simp[hl,he]
   simp only[e,Ah];rw[iW (by omega)]
theorem pb0{cs:List AV}{j:Nat}{a v:AV}(h:j<cs.length):N5 (cs.set j a) j [v]=cs.set j v:=by
 apply List.ext_getElem?;intro k;rw[eY0 _ _ _ (by simp;omega)];simp only[cZ,cd];by_cases e:j=k
 ·subst e;simp[h]
 rw[Ae (by omega)];simp[e]
theorem dC0(r c:Nat):hid r c<O6:=Nat.mod_lt _ (by decide)
theorem Tr.set_setF{α:Type}(u v:Option α):∀ (f k:Nat) (t:Tr α),Tr.setF v f k (Tr.setF u f k t)=Tr.setF v f k t
 | 0,0,.leaf=>rfl
 | 0,0,.node _ _ _=>rfl
 | _+1,0,.leaf=>rfl
 | _+1,0,.node _ _ _=>rfl
 | 0,_+1,t=>by simp[Tr.setF]
 | f+1,k+1,.leaf=>by rcases ic k with e | e<;>simp[Tr.setF,e,Tr.set_setF u v f (k / 2)]
 | f+1,k+1,.node x l r=>by rcases ic k with e | e<;>simp[Tr.setF,e,Tr.set_setF u v f (k / 2)]
theorem j3.del_set(σ:j3)(id:Nat)(o:l6):(σ.set id o).del id=σ.del id:=by simp only[j3.set,j3.del,Tr.set,Tr.set_setF,j3.mk.injEq,Aq];omega
theorem jx0{T:Tab}(σ σ':j3){t:TypeId}{x ix:AV}{ok:Bool}(h:∀ id,x≠.mm id):G7 T σ t x ix ok=G7 T σ' t x ix ok:=by
 cases x with
 | mm id=>exact Am rfl (h id)
 | rm c=>cases c<;>rfl
 | _=>rfl
section bnds
theorem Tr.all_get{α:Type}{p:α->Bool}:∀ {t:Tr α} {k:Nat} {v:α},t.all p=true->t.get k=some v->p v=true
 | .leaf,k,v,_,h=>by rw[Tr.get_leaf]at h;cases h
 | .node x l r,0,v,a,h=>by simp only[Tr.get]at h;subst h;simp only[Tr.all,ab]at a;exact a.1.1
 | .node x l r,k+1,v,a,h=>by
  simp only[Tr.all,ab]at a;simp only[Tr.get]at h;split at h
  ·exact Tr.all_get a.1.2 h
  exact Tr.all_get a.2 h
theorem AS.bnd_get{k:Nat}{s:AS}(h:s.bnd k=true)(t:Nat):(s.get t).bnd k=true:=by
 simp only[AS.bnd,ab]at h;simp only[AS.get];cases a:s.tr.get t with
 | none=>rfl
 | some v=>exact Tr.all_get h.1 a
theorem oB0(k:Nat):∀ l:List Value,jp0 k (l.map .sc)=true
 | []=>by simp[jp0]
 | v::l=>by simp[jp0,AV.bnd,oB0 k l]
theorem AS.bnd_eval{k:Nat}{s:AS}(h:s.bnd k=true)(x:Operand):(s.eval x).bnd k=true:=by
 cases x with
 | tmp t=>exact s.bnd_get h t
 | const v=>cases v<;>simp[AS.eval,AV.ofValue,AV.bnd,oB0]
 | global g=>simp[AS.eval,AV.bnd]
 | func f=>simp[AS.eval,AV.bnd,jp0]
theorem AS.bnd_obj{k:Nat}{s:AS}(h:s.bnd k=true){id:Nat}{o:l6}(a:s.st.objs id=some o):o.bnd k=true:=by simp only[AS.bnd,ab]at h;exact Tr.all_get h.2 a
end bnds
section
variable {T:Tab} {Φ:H7} {θ θ':Nat->AV} {fr:Nat} (ha:∀ i,i<fr->θ' i=θ i) {s:AS} (hb:s.bnd fr=true)
include ha hb
theorem oJ0(x:Operand):(s.eval x).sub θ'=(s.eval x).sub θ:=sub_agree ha _ (s.bnd_eval hb x)
theorem tr0{elem:TypeId}{size:Nat}{a:AV}{c:Option Nat}{x:AV}(l:a.bnd fr=true)(h:wf0 s.st elem size a=some (c,x)){es:List (List AV)}(b:x.sub θ=.rs es) :
  R8 (s.st.sub θ') elem size (a.sub θ')=some (c,es)/\y5 (s.st.sub θ') (a.sub θ')=s.st.sub θ':=by
 unfold wf0 at h;split at h
 ·cases h
  simp only[dv0,cB,AV.rs.injEq]at b;subst b;exact⟨by simp[R8],by simp[y5]⟩
 ·split at h
  ·rename_i id z len _ e f rows d
   split at h
   ·rename_i hc
    cases h;have g:=s.bnd_obj hb d;have h1:(s.st.sub θ').objs id=some (.row e f es):=by rw[j3.sub_objs,d,ak,l6.sub_agree ha _ g];simp only[l6.sub];simp only[dv0,AV.rs.injEq]at b;rw[b]
    have hl:rows.length=es.length:=by simp only[dv0,AV.rs.injEq]at b;rw[<- b];simp
    refine⟨?_,?_⟩
    ·simp only[cI0,R8,h1]
     rw[Af ⟨by omega,hc.2⟩]
    simp only[cI0,y5,h1];rw[Ae (by omega)]
   cases h
  cases h
 ·split at h
  ·rename_i id z i _ e f j d
   split at h
   ·rename_i hc
    cases h;obtain⟨rfl,k,he⟩:=hc;have hj:j<fr:=by have:=s.bnd_obj hb d;simpa[l6.bnd,aZ]using this
    rw[u9]at b;have h1:(s.st.sub θ').objs id=some (.row e f es):=by rw[j3.sub_objs,d,ak];simp only[l6.sub,ha j hj,b,rowsOf]
    refine⟨?_,?_⟩
    ·simp only[S3,ha j hj,b,rowsOf,R8,h1]
     simp[k,he]
    simp only[S3,ha j hj,b,rowsOf,y5,h1];rw[Ae (by omega)]
   cases h
  cases h
 cases h
theorem rT0{c y:AV}(b:c.bnd fr=true)(h:ssrc s.st c=some y){xs:List (List AV)}(a:y.sub θ=.rs xs):P6 (s.st.sub θ') (c.sub θ')=some xs:=by
 unfold ssrc at h;split at h
 ·cases h
  simp only[dv0,cB,AV.rs.injEq]at a;subst a;simp[P6]
 ·cases h
  rw[sub_agree ha _ b,a];simp[P6]
 ·cases h
  rw[sub_agree ha _ b,a];simp[P6]
 ·split at h
  ·rename_i id z off len _ e g rows d
   split at h
   ·rename_i hc
    cases h;have f:=s.bnd_obj hb d;simp only[dv0,AV.rs.injEq]at a;simp only[cI0,P6,j3.sub_objs,d,ak];rw[l6.sub_agree ha _ f];simp only[l6.sub,aD];rw[Af hc,<-a];simp[eO,ec]
   cases h
  cases h
 ·split at h
  ·rename_i id z i _ e g j d
   split at h
   ·rename_i hc
    cases h;subst hc;have hj:j<fr:=by have:=s.bnd_obj hb d;simpa[l6.bnd,aZ]using this
    rw[u9]at a;simp only[S3,ha j hj,a,rowsOf,P6,j3.sub_objs,d,ak,l6.sub];simp
   cases h
  cases h
 cases h
theorem vo0{id:Nat}{sT xT:TypeId}{a c pat v:AV}{ro:RO}{σ':j3}{e:Nat}(h1:a.bnd fr=true)(h2:c.bnd fr=true)(h:sApp T s.st id sT xT a c fr=some (ro,pat,v,σ',e))(he:j9 T Φ θ ro=some (pat.sub θ')) :
  E4 T (s.st.sub θ') id sT xT (a.sub θ') (c.sub θ')=some (v.sub θ',σ'.sub θ'):=by
 unfold sApp at h;split at h
 ·rename_i elem _ _ _ _ j
  split at h
  ·rename_i p d
   split at h
   ·rename_i f x y k l
    cases h;simp only[j9,tA0,j]at he;split at he
    ·rename_i q _ _ _ _ r e1 e2
     cases e1;rw[d]at he;simp only at he;split at he
     ·rename_i es xs hex g
      split at he
      ·rename_i hc
       simp only[ah,u9]at he;obtain⟨m,n⟩:=tr0 ha hb h1 k hex;have o:=rT0 ha hb h2 l g;have b:E4 T (s.st.sub θ') id sT xT (a.sub θ') (c.sub θ')=N8 T (y5 (s.st.sub θ') (a.sub θ')) id sT xT (a.sub θ') (c.sub θ'):=by
        unfold E4;split
        ·rename_i e3 e4
         rw[e2]at e4;cases e4;simp[TI.isInt]at hc
        rfl
       rw[b,n];simp only[N8,j,e2,d,m,o];rw[Af hc];simp only[S3,j3.sub_set,l6.sub,<-he,rowsOf,List.length_append];cases f<;>simp[j3.sub_del]
      cases he
     cases he
    cases he
   cases h
  cases h
 cases h
include ha hb in
theorem vi0{id:Nat}{sT xT:TypeId}{a c pat v:AV}{ro:RO}{σ':j3}{d:Nat}{e:TI}{k:IntKind}(h2:c.bnd fr=true)(f:T xT=some e)(g:e.und=.int k)(h:sZer T s.st id sT a c fr=some (ro,pat,v,σ',d))(he:j9 T Φ θ ro=some (pat.sub θ')) :
  E4 T (s.st.sub θ') id sT xT (a.sub θ') (c.sub θ')=some (v.sub θ',σ'.sub θ'):=by
 unfold sZer at h;split at h
 ·rename_i elem _ _ _ _ j
  split at h
  ·rename_i m b
   split at h
   ·cases h
    obtain⟨u0,z0,z1,z2,z3⟩:=e;cases g;simp only[j9,vx0,j,b]at he;rw[sub_agree ha _ h2];split at he
    ·rename_i o n l
     split at he
     ·rename_i hc
      simp only[ah,u9]at he;simp only[E4,j,f,I0,dJ0,b,l];rw[Af hc];simp only[S3,j3.sub_set,l6.sub,<-he,rowsOf,List.length_replicate]
     cases he
    cases he
   cases h
  cases h
 cases h
include ha hb in
theorem vg0{i:Nat}{c y:AV}(a:c.bnd fr=true)(h:src0 s.st i c=some y){xs:List (List AV)}(f:y.sub θ=.rs xs){σ0:j3}(g:∀ j,j≠i->σ0.objs j=(s.st.sub θ').objs j):P6 σ0 (c.sub θ')=some xs:=by
 unfold src0 at h;split at h
 ·cases h
  rename_i hi;rw[sub_agree ha _ a,f];simp[P6]
 split at h
 ·rename_i i2 z o l _
  split at h
  ·cases h
  rename_i b;have:=rT0 ha hb a h f;rw[<- this,cI0];have d:i2≠i:=fun e=>by rw[e,d_]at b;cases b
  simp only[P6,g i2 d]
 cases h
include ha hb in
theorem sE0{id:Nat}{sT xT:TypeId}{a c pat v:AV}{ro:RO}{σ':j3}{p:Nat}(h2:c.bnd fr=true)(h:vj0 T s.st id sT xT a c fr=some (ro,pat,v,σ',p))(he:j9 T Φ θ ro=some (pat.sub θ')) :
  E4 T (s.st.sub θ') id sT xT (a.sub θ') (c.sub θ')=some (v.sub θ',σ'.sub θ'):=by
 unfold vj0 at h;split at h
 ·rename_i elem _ _ _ _ t
  split at h
  ·rename_i o g
   split at h
   ·rename_i i z0
    split at h
    ·rename_i e w j u
     split at h
     ·rename_i y k q
      simp only[ab,b_]at k;obtain⟨rfl,rfl⟩:=k;cases h;simp only[j9,tA0,t]at he;split at he
      ·rename_i x _ _ _ _ z e1 e2
       cases e1;rw[g]at he;simp only[dv0,cB]at he;split at he
       ·rename_i es xs hex r
        cases hex;split at he
        ·rename_i hc
         simp only[aT,ah,u9]at he;have l:P6 (y5 (s.st.sub θ') (.ms i z0 0 0)) (c.sub θ')=some xs:=vg0 ha hb h2 q r fun j hj=>by
          simp only[y5];split
          ·split
           ·rw[j3.objs_set,Ae hj]
           rfl
          rfl
         have b:(s.st.sub θ').objs i=some (.row e o.size (rowsOf (θ' j))):=by rw[j3.sub_objs,u];rfl
         have m:∃ o0,y5 (s.st.sub θ') (.ms i z0 0 0)=(s.st.sub θ').set i o0/\o0=.row e o.size []\/y5 (s.st.sub θ') (.ms i z0 0 0)=s.st.sub θ'/\rowsOf (θ' j)=[]:=by
          simp only[y5,b];by_cases hl:0<(rowsOf (θ' j)).length
          ·rw[Af hl];exact⟨_,.inl ⟨rfl,by simp⟩⟩
          rw[Ae hl];exact⟨.row e o.size [],.inr ⟨rfl,cI (by omega)⟩⟩
         have d:E4 T (s.st.sub θ') id sT xT (AV.sub θ' (.ms i z0 0 0)) (c.sub θ')=N8 T (y5 (s.st.sub θ') (.ms i z0 0 0)) id sT xT (.ms i z0 0 0) (c.sub θ'):=by
          rw[cI0];unfold E4;split
          ·rename_i e3 e4
           rw[e2]at e4;cases e4;simp[TI.isInt]at hc
          rfl
         rw[d];have f:R8 (y5 (s.st.sub θ') (.ms i z0 0 0)) e o.size (.ms i z0 0 0)=some (some i,[]):=by
          obtain⟨o0,⟨q1,rfl⟩ | ⟨q1,q2⟩⟩:=m
          ·rw[q1];simp[R8,j3.objs_set]
          rw[q1];simp[R8,b,q2]
         have n:(y5 (s.st.sub θ') (.ms i z0 0 0)).del i=(s.st.sub θ').del i:=by
          obtain⟨o0,⟨q1,rfl⟩ | ⟨q1,q2⟩⟩:=m
          ·rw[q1,j3.del_set]
          rw[q1]
         simp only[N8,t,e2,g,f,l];rw[Af hc];simp only[S3,j3.sub_set,j3.sub_del,l6.sub,<-he,rowsOf,n,bx,aG,aT]
        cases he
       cases he
      cases he
     cases h
    cases h
   cases h
  cases h
 cases h
include ha hb in
theorem fl0{m:Nat}{c:AV}(h:(s.st.objs m).bind gL0=some c):(s.st.sub θ').objs m=some (O8 (c.sub θ))/\(s.st.sub θ').objs m=(dr0 (c.sub θ)).objs 0:=by
 have key:(s.st.sub θ').objs m=some (O8 (c.sub θ)):=by
  cases b:s.st.objs m with
  | none=>rw[b]at h;cases h
  | some o=>
   rw[b]at h;simp only[Option.bind_some]at h;have a:=s.bnd_obj hb b;rw[j3.sub_objs,b,ak];unfold gL0 at h;split at h
   ·cases h
    simp only[l6.bnd]at a;simp only[l6.sub,sub_agree ha _ a]
   ·cases h
    simp[l6.sub,AV.sub,dI0,O8,rowsOf,aW0,y3]
   cases h
 refine⟨key,?_⟩;rw[key];simp[dr0,j3.objs_set]
theorem qV0(g:Fit θ){id:Nat}{b:Builtin}{ts:Array TypeId}{args:List AV}{pat v:AV}{ro:RO}{σ':j3}{j:Nat}(h1:∀ a∈args,a.bnd fr=true)(h:rv0 T s.st id b ts.toList args fr=some (ro,pat,v,σ',j))
  (he:j9 T Φ θ ro=some (pat.sub θ')):F2 T (s.st.sub θ') id b ts (args.map (AV.sub θ'))=some (v.sub θ',σ'.sub θ'):=by
 have hst:s.st.sub θ'=s.st.sub θ:=j3.sub_agree ha hb;have f:args.map (AV.sub θ')=args.map (AV.sub θ):=bo fun a hm=>sub_agree ha a (h1 a hm);unfold rv0 at h;split at h
 ·rename_i t i d
  cases h;simp only[j9,u9]at he;rw[f];simp only[F2,d,az,cB,u9];have h2:fZ0 T (s.st.sub θ') t (θ i)=some (θ' fr):=by
   have hf:=g i;unfold fZ0 at he ⊢;split at he
   ·rename_i ti o
    rcases hf.cases with ⟨k,n,e⟩ | ⟨b,e⟩ | ⟨x,e⟩ | ⟨es,e⟩ | ⟨cs,e⟩ | ⟨c,e⟩<;>rw[e]at he ⊢<;>(cases hu:ti.und<;>rw[hu]at he<;>first | exact he | (simp only at he ⊢;exact he))
   cases he
  rw[h2]
 ·rename_i t id' z i d
  split at h
  ·rename_i B _ _ _ _ o
   cases h;simp only[j9,u9]at he;rw[f];simp only[F2,d,az,cB,S3];have h2:fZ0 T (s.st.sub θ') t (.ms id' z 0 (rowsOf (θ i)).length)=some (θ' fr):=by
    have hf:=g i;simp only[fZ0,o]at he ⊢;rcases hf.cases with ⟨k,n,e⟩ | ⟨b,e⟩ | ⟨x,e⟩ | ⟨es,e⟩ | ⟨cs,e⟩ | ⟨c,e⟩<;>rw[e]at he ⊢<;>simp[rowsOf]at he ⊢
    exact he
   rw[h2];simp
  cases h
 ·cases h
  simp only[j9,u9]at he;rw[f];generalize bZ (AV.sub θ) _=l at *;cases hm:uy0 l with
  | none=>rw[hm]at he;cases he
  | some u=>rw[hm]at he;simp only[ak,ah]at he;simp[F2,hm,he]
 ·cases h
  simp only[j9,u9]at he;rw[f];generalize bZ (AV.sub θ) _=l at *;cases hm:uk0 l with
  | none=>rw[hm]at he;cases he
  | some u=>rw[hm]at he;simp only[ak,ah]at he;simp[F2,hm,he]
 ·rename_i sT xT a c d
  simp only[F2,d,az,cB];split at h
  ·rename_i p
   exact vi0 (T:=T) (Φ:=Φ) ha hb (h1 c (by simp)) p rfl h he
  split at h
  ·rename_i q r
   cases h;exact sE0 (T:=T) (Φ:=Φ) ha hb (h1 c (by simp)) r he
  exact vo0 (T:=T) (Φ:=Φ) ha hb (h1 a (by simp)) (h1 c (by simp)) h he
 ·rename_i t m d
  split at h
  ·rename_i c hc
   cases h;simp only[j9,u9]at he;obtain⟨_,w⟩:=fl0 (θ:=θ) ha hb hc;have h2:fZ0 T (s.st.sub θ') t (.mm m)=some (θ' fr):=by
    unfold fZ0 at he ⊢;split at he
    ·rename_i ti o
     cases hu:ti.und<;>rw[hu]at he<;>simp only[w]at he ⊢<;>first | exact he | (simp only at he ⊢;exact he) | cases he
    cases he
   simp only[F2,d,az,cB,dz0,h2,u9]
  cases h
 cases h
include ha hb in
theorem gV0{t:TypeId}{m k x pat v:AV}{ro:RO}{σ':j3}{a:Nat}(h1:k.bnd fr=true)(h2:x.bnd fr=true)(h:gB0 s.st t m k x fr=some (ro,pat,v,σ',a))(he:j9 T Φ θ ro=some (pat.sub θ')) :
  C1 T (s.st.sub θ') t (m.sub θ') (k.sub θ') (x.sub θ')=some (σ'.sub θ')/\v=.sc undef:=by
 unfold gB0 at h;split at h
 ·rename_i id
  split at h
  ·rename_i c hc
   cases h;obtain⟨d,_⟩:=fl0 (θ:=θ) ha hb hc;simp only[j9,u9]at he;split at he
   ·rename_i e hu
    split at he
    ·rename_i b l hk
     simp only[ah]at he;refine⟨?_,rfl⟩;rw[sub_agree ha k h1,sub_agree ha x h2,dz0,iI0 d hk hu,j3.sub_set];simp only[l6.sub,u9,<-he]
    cases he
   cases he
  cases h
 cases h
omit ha hb in
theorem tZ0{T:Tab}{t d:TypeId}{ti a:TI}{id z len:Nat}{b:AV}(e:T t=some ti)(hu:ti.und=.slice d)(c:T d=some a)(hz:z=a.size){q:AV}(h:D4 T t (.ms 0 a.size 0 len) b=some q):D4 T t (.ms id z 0 len) b=some (.mp id (Y8 b) 0):=by
 obtain⟨und,size,zero,bytes,flat⟩:=ti;simp only at hu;subst hu;subst hz;unfold D4 at h ⊢;rw[e]at h ⊢;split at h
 ·rename_i f n e1
  cases e1;simp only[c]at h ⊢;split at h
  ·rename_i hc
   rw[Af hc];simp[Y8]
  cases h
 ·rename_i e1;cases e1
 cases h
include ha hb in
theorem mt0{id j:Nat}{e:TypeId}{z:Nat}(a:s.st.objs id=some (.xrow e z j)):(s.st.sub θ').objs id=some (.row e z (rowsOf (θ j)))/\j<fr:=by
 have hj:j<fr:=by have:=s.bnd_obj hb a;simpa[l6.bnd,aZ]using this
 exact⟨by rw[j3.sub_objs,a,ak];simp only[l6.sub,ha j hj],hj⟩
include ha in
theorem nJ0{a:AV}(b:a.bnd fr=true){id off:Nat}{i:AV}(h:qq0 a=some (id,i,off)):a.sub θ'=.mp id (Y8 (i.sub θ)) off:=by
 unfold qq0 at h;split at h
 ·rename_i id k off
  cases h;simp only[AV.bnd,aZ]at b;simp only[AV.sub,ha k b]
 ·cases h
  simp[AV.sub,Y8]
 cases h
theorem nI0(S:Fit θ){id:Nat}{op:Op}{pat v:AV}{ro:RO}{σ':j3}{fr':Nat}(h:sR0 T s.eval s.st id op fr=some (ro,pat,v,σ',fr'))
  (he:j9 T Φ θ ro=some (pat.sub θ')):aop T (s.sub θ').eval (s.st.sub θ') id op=some (v.sub θ',σ'.sub θ'):=by
 have d:∀ x,(s.sub θ').eval x=(s.eval x).sub θ:=fun x=>by rw[AS.sub_eval,oJ0 ha hb x]
 unfold sR0 at h;split at h
 ·cases h
  simp only[j9,u9]at he;simp only[aop,d,he,u9]
 ·cases h
  simp only[j9,u9]at he;simp only[aop,d,he,u9]
 ·cases h
  simp only[j9,u9]at he;simp only[aop,d,he,u9]
 ·cases h
  simp only[j9,u9]at he;simp only[aop,d];split at he
  ·rename_i t l
   simp only[ah]at he;rw[l];simp[he]
  cases he
 ·split at h
  ·rename_i id k off f
   cases h;simp only[aop,AS.sub_eval,f,AV.sub]
  ·rename_i i f
   cases h;have e1:=d;simp only[j9,u9]at he;split at he
   ·rename_i cs B
    simp only[aop,d,f,u9,B];have r:=s.bnd_eval hb ‹Operand›;rw[f]at r;simp only[AV.bnd,aZ]at r;rw[ha i r,B]
   cases he
  cases h
 ·split at h
  ·rename_i id k off fields _ _ _ _ f l
   split at h
   ·rename_i fd hfd
    split at h
    ·rename_i fi hfi
     split at h
     ·cases h
     rename_i hz;cases h;have hz':¬ fi.size=0:=fun e=>by rw[e]at hz;simp at hz
     simp only[aop,AS.sub_eval,f,AV.sub,M7,l,hfd,hfi];rw[Ae hz']
    cases h
   cases h
  ·rename_i i ti f l
   split at h
   ·rename_i v1 N
    cases h;simp only[j9,u9]at he;split at he
    ·rename_i cs B
     split at he
     ·simp only[ah]at he
      simp only[aop,d,f,u9,B,he,dN0 (θ:=θ') N]
     cases he
    cases he
   cases h
  cases h
 ·rename_i t x
  split at h
  ·rename_i g hg
   split at h
   ·rename_i p D I
    cases h;simp only[j9]at he;have f:=gE0 hg;simp only[aop,d,f,I0,aD0,cl0,he]
   cases h
  split at h
  ·rename_i id i off hp
   split at h
   ·rename_i e z j p D O I
    cases h;simp only[j9,u9]at he;obtain⟨J,_⟩:=mt0 (θ:=θ) ha hb O;have K:=nJ0 (θ:=θ) ha hb (s.bnd_eval hb x) hp;have U:U3 T (s.st.sub θ') t (.mp id (Y8 (i.sub θ)) off)=some (pat.sub θ'):=by rw[<- he];simp[U3,J,dX0,j3.objs_set]
    simp only[aop,AS.sub_eval,K,aD0,cl0,U]
   ·rename_i e z c cols k E v0 p D O I
    have K:=nJ0 (θ:=θ) ha hb (s.bnd_eval hb x) hp;have u:=s.bnd_obj hb O;have J:(s.st.sub θ').objs id=some (l6.sub θ (.frow e z c cols k E v0)):=by rw[j3.sub_objs,O,ak,l6.sub_agree ha _ u]
    simp only[l6.sub]at J;split at h
    ·rename_i ti l
     split at h
     ·cases h
     rename_i M;split at h
     ·rename_i hoff
      have hoff:=af hoff;subst hoff;split at h
      ·rename_i v1 hk
       obtain⟨m,rfl,rfl⟩:=oG0 hk;cases h;simp only[j9]at he;split at he
       ·rename_i row w
        split at he
        ·rename_i G
         rw[aZ]at G;simp only[l6.bnd,ab]at u;have hv1:v.sub θ'=v.sub θ:=sub_agree ha _ u.2.2;have U:U3 T (s.st.sub θ') t (.mp id (Y8 ((AV.sy m).sub θ)) off)=some (v.sub θ):=by simp only[U3,J,aC0,ak,Al,G6,w,l,E2,M,aq,Ah];simp[F6,G]
         simp only[aop,AS.sub_eval,K,aD0,cl0,U,hv1]
        cases he
       cases he
      cases h
     rename_i hoff;have hoff:off≠E:=fun e=>by rw[e]at hoff;simp at hoff
     split at h
     ·rename_i P
      cases h;simp only[j9]at he;have U:U3 T (s.st.sub θ') t (.mp id (Y8 (i.sub θ)) off)=some (pat.sub θ'):=by
       rw[<- he];have e9:(dX0 e z (c.sub θ)).objs 0=some (.row e z (rowsOf (c.sub θ))):=by simp[dX0,j3.objs_set]
       simp only[U3,J,e9,aC0,G6,l,E2,M,aq,Ah];cases w:(rowsOf (c.sub θ))[Y8 (i.sub θ)]? with
       | none=>cases v0<;>simp
       | some row=>
        have o:(Z7 cols (0+Y8 (i.sub θ)) 0 row)[off]?=row[off]?:=by
         rw[M4];cases row[off]? with
         | none=>rfl
         | some x=>simp[mF0 P]
        cases v0 with
        | none=>simp only[cC,ak];exact o
        | some v0=>
         simp only[ak];by_cases e:Y8 (i.sub θ)=Y8 (k.sub θ)
         ·simp only[e,Al]at o ⊢
          rw[iW (by omega)];exact o
         simp only[e,Ah];exact o
      simp only[aop,AS.sub_eval,K,aD0,cl0,U]
     cases h
    cases h
   cases h
  split at h
  ·rename_i i ti f l
   split at h
   ·rename_i v1 N
    cases h;simp only[j9,u9]at he;split at he
    ·rename_i cs B
     split at he
     ·simp only[ah]at he
      have h3:=hP0 (θ:=θ') N;rw[<- he]at h3;have h4:U3 T (s.st.sub θ') t (.rp cs)=some (v.sub θ'):=by simp only[U3]at h3 ⊢;exact h3
      simp only[aop,d,f,u9,B,aD0,cl0,h4]
     cases he
    cases he
   cases h
  cases h
 ·rename_i t a x
  split at h
  ·rename_i id' i off ti m z' j hp l f
   split at h
   ·rename_i e z c cols k E v1 O
    split at h
    ·rename_i hc
     simp only[ab,b_]at hc;obtain⟨⟨hsz,rfl⟩,hk⟩:=hc;obtain⟨H,rfl,rfl⟩:=oG0 hk;cases h;have K:=nJ0 (θ:=θ) ha hb (s.bnd_eval hb a) hp;have u:=s.bnd_obj hb O;have J:(s.st.sub θ').objs id'=some (l6.sub θ (.frow e z c cols (.sy H) off (some v1))):=by rw[j3.sub_objs,O,ak,l6.sub_agree ha _ u]
     simp only[l6.sub]at J;simp only[l6.bnd,ab]at u;simp only[j9]at he;split at he
     ·rename_i row w
      split at he
      ·rename_i G
       rw[aZ]at G;have hn1:Y8 (AV.sub θ' (.sy H))=Y8 (AV.sub θ (.sy H)):=by rw[sub_agree ha _ u.2.1]
       have hxv:(s.eval x).sub θ=AV.sub θ' (.ss m z' j):=by rw[<- f];exact(sub_agree ha _ (s.bnd_eval hb x)).symm
       have L2:(T0 (H6 cols 0 (rowsOf (c.sub θ))) (Y8 ((AV.sy H).sub θ)) off (some (v1.sub θ)))[Y8 ((AV.sy H).sub θ)]?=some ((Z7 cols (Y8 ((AV.sy H).sub θ)) 0 row).set off (v1.sub θ)):=by rw[aC0];simp only[Al,G6,w,ak,aG]
       have hst:U7 T (s.st.sub θ') t (.mp id' (Y8 ((AV.sy H).sub θ)) off) (AV.sub θ' (.ss m z' j))=some ((s.st.sub θ').set id' (l6.sub θ' (.frow e z c cols (.sy H) off (some (.ss m z' j))))):=by
        simp only[U7,S3,AV.cells,l,J,ak,L2,hsz,cZ,jU,F6];rw[Af ⟨trivial,by omega,by simp[AV.one]⟩];have V:off<(Z7 cols (Y8 (AV.sub θ (.sy H))) 0 row).length:=by rw[F6];exact G
        rw[pb0 V];simp only[l6.sub,ak,S3,hn1,sub_agree ha _ u.1];simp only[T0,G6,w,ak,aG,List.set_set]
       simp only[aop,AS.sub_eval,K];rw[f,hst];simp only[I0,j3.sub_set]
      cases he
     cases he
    cases h
   cases h
  cases h
 ·rename_i t x i
  split at h
  ·rename_i el _ _ _ _ l
   split at h
   ·rename_i ei C
    split at h
    ·rename_i id z j f
     have r:=s.bnd_eval hb x;rw[f]at r;simp only[AV.bnd,aZ]at r;have Q:=s.bnd_eval hb i;split at h
     ·rename_i hz
      have hz:=af hz;split at h
      ·rename_i k hi
       cases h;rw[hi]at Q;simp only[AV.bnd,aZ]at Q;simp only[j9,l,C,u9]at he;split at he
       ·rename_i q hq
        have:=tZ0 (id:=id) (z:=z) l rfl C hz hq;simp only[aop,AS.sub_eval,f,hi,S3,u9,AV.sub,ha j r,ha k Q,this]
       cases he
      ·rename_i kd n hi
       cases h;simp only[j9,l,C,u9,I0]at he;split at he
       ·rename_i q hq
        have:=tZ0 (id:=id) (z:=z) l rfl C hz hq;simp only[aop,AS.sub_eval,f,hi,S3,I0,AV.sub,ha j r,this,Y8]
       cases he
      cases h
     cases h
    cases h;simp only[j9]at he;simp only[aop,d,he]
   cases h
  cases h
 ·split at h
  ·split at h
   ·cases h
    simp only[j9]at he;simp only[aop,d,he]
   cases h
  cases h;simp only[j9,u9]at he;simp only[aop,d,he,u9]
 ·rename_i t x lo hi
  have e:(s.sub θ').eval=fun x=>(s.eval x).sub θ:=funext d;split at h
  ·rename_i elem _ _ _ _ id' z j kd l f hlo R
   split at h
   ·rename_i ei C
    split at h
    ·rename_i hz
     cases h;rw[b_]at hz;subst hz;have Y:lo=none:=by cases lo with | none=>rfl | some _=>simp at hlo
     subst Y;cases hi with
     | none=>simp at R
     | some hh=>simp only[ak,ah]at R;simp only[aop,e,f,S3,cC,ak,R,I0,bx0,l,C,bound];simp
    cases h
   cases h
  cases h;simp only[j9,u9,Option.map_map]at he;simp only[aop,e,cC];simp only[cF]at he;rw[he];simp
 ·rename_i b args ts
  simp only[aop];have hm:args.toList.map (s.sub θ').eval=(args.toList.map s.eval).map (AV.sub θ'):=by rw[cY];apply bo;intro x _;exact AS.sub_eval θ' s x
  rw[hm];refine qV0 (T:=T) (Φ:=Φ) ha hb S (fun a Z=>?_) h he;obtain⟨x,_,rfl⟩:=aM.1 Z;exact s.bnd_eval hb x
 ·rename_i t x i ok
  split at h
  ·rename_i kt et _ _ _ _ m l f
   split at h
   ·rename_i c hc
    obtain⟨_,K⟩:=fl0 (θ:=θ) ha hb hc;have hl:∀ b,G7 T (s.st.sub θ') t (.mm m) ((s.eval i).sub θ) b=G7 T (dr0 (c.sub θ)) t (.mm 0) ((s.eval i).sub θ) b:=fun b=>by simp only[G7,K]
    split at h
    ·rename_i p D hp
     split at h
     ·cases h
      simp only[j9]at he;simp only[aop,d,f,dz0,hl,he]
     cases h;simp only[j9]at he;simp only[aop,d,f,dz0,hl,he]
    cases h
   cases h
  ·rename_i kt et _ _ _ _ m l f
   have hl:∀ b,G7 T (s.st.sub θ') t (θ m) ((s.eval i).sub θ) b=G7 T j3.none t (θ m) ((s.eval i).sub θ) b:=fun b=>jx0 _ _ (fun id e=>by have:=S m;rw[e]at this;exact this);have hb2:θ' m=θ m:=by have:=s.bnd_eval hb x;rw[f]at this;simp only[AV.bnd,aZ]at this;exact ha m this
   split at h
   ·rename_i p D hp
    split at h
    ·cases h
     simp only[j9,u9]at he;simp only[aop,d,f,u9,hl,he]
    cases h;simp only[j9,u9]at he;simp only[aop,d,f,u9,hl,he]
   cases h
  ·rename_i kt et _ _ _ _ c l f
   have hl:∀ b,G7 T (s.st.sub θ') t (.rm (c.sub θ)) ((s.eval i).sub θ) b=G7 T j3.none t (.rm (c.sub θ)) ((s.eval i).sub θ) b:=fun b=>jx0 _ _ (fun id e=>by cases e);split at h
   ·rename_i p D hp
    split at h
    ·cases h
     simp only[j9,fB0]at he;simp only[aop,d,f,fB0,hl,he]
    cases h;simp only[j9,fB0]at he;simp only[aop,d,f,fB0,hl,he]
   cases h
  cases h
 ·rename_i t m k x
  have:=gV0 (T:=T) (Φ:=Φ) ha hb (s.bnd_eval hb _) (s.bnd_eval hb _) h he;simp only[aop,AS.sub_eval];rw[this.1,this.2];simp
 ·rename_i t m k x
  have:=gV0 (T:=T) (Φ:=Φ) ha hb (s.bnd_eval hb _) (s.bnd_eval hb _) h he;simp only[aop,AS.sub_eval];rw[this.1,this.2];simp
 cases h
end
mutual
theorem bz0{θ:Nat->AV}(b:Fit θ):∀ v:AV,v.contP=true->(v.sub θ).pur=true
 | .sc v,_=>by simp[AV.pur]
 | .sy i,_=>by rw[u9];exact(b i).pur
 | .rs es,h=>by simp only[AV.contP]at h;simp only[AV.sub,AV.pur];exact hT0 b es h
 | .agg cs,h=>by simp only[AV.contP]at h;simp only[AV.sub,AV.pur];exact P4 b cs h
 | .tup cs,h=>by simp only[AV.contP]at h;simp only[AV.sub,AV.pur];exact P4 b cs h
 | .any,h=>by simp[AV.contP]at h
 | .rp cs,h=>by simp only[AV.contP]at h;simp only[AV.sub,AV.pur];exact P4 b cs h
 | .ms ..,h=>by simp[AV.contP]at h
 | .mp ..,h=>by simp[AV.contP]at h
 | .mm _,h=>by simp[AV.contP]at h
 | .it _,h=>by simp[AV.contP]at h
 | .rm c,h=>by simp only[AV.contP]at h;simp only[AV.sub,AV.pur];exact bz0 b c h
 | .fn _ a c,h=>by simp only[AV.contP,ab]at h;simp only[AV.sub,AV.pur,ab];exact⟨P4 b a h.1,P4 b c h.2⟩
 | .ss ..,h=>by simp[AV.contP]at h
theorem P4{θ:Nat->AV}(a:Fit θ):∀ l:List AV,dt0 l=true->kw0 (Y9 θ l)=true
 | [],_=>by simp[Y9,kw0]
 | c::cs,h=>by simp only[dt0,ab]at h;simp only[Y9,kw0,ab];exact⟨bz0 a c h.1,P4 a cs h.2⟩
theorem hT0{θ:Nat->AV}(a:Fit θ):∀ l:List (List AV),so0 l=true->kA0 (dI0 θ l)=true
 | [],_=>by simp[dI0,kA0]
 | c::cs,h=>by simp only[so0,ab]at h;simp only[dI0,kA0,ab];exact⟨P4 a c h.1,hT0 a cs h.2⟩
end
theorem eu0{G:j4}{σ:j3}{w:World}(h:Rel G σ w)(pl:Nat->Option Pl){id z off len:Nat}{u:Value}(t:Rep G (.ms id z off len) u){elem:TypeId}{size:Nat}{es:List (List AV)}(q:σ.objs id=some (.row elem size es))
  (hle:off+len<=es.length) {l:List (List AV)} (k:l.length=len)
  (d:∀ i (hi:i<l.length) (b:off+i<es.length),l[i].length=es[off+i].length/\∀ j (hj:j<l[i].length) (v:j<es[off+i].length) u,Rep G es[off+i][j] u->Rep (G.frozen σ w pl) l[i][j] u) :
  Rep (G.frozen σ w pl) (.rs l) u:=by
 cases t with
 | msNil _ _ p hp hv=>have:l=[]:=cI k;subst this;exact .rsNil
 | ms _ _ _ _ p hp hv hz a c x hoff B hsp=>
  obtain⟨C,D,cells,E,m,r,s,e⟩:=h.real q hp hv;have g:(G.frozen σ w pl).imm p.block=some (.cells cells elem (0,0)):=by simp only[j4.frozen];rw[Af ⟨id,_,p,q,hp,hv,rfl⟩];exact E
  rw[<- k];by_cases n:c=0
  ·have:l=[]:=cI (by omega)
   subst this;exact .rs [] a c 0 (fun _ _=>undef) (fun _=>hsp) (by simp) (fun i hi=>by simp at hi) (fun i j hi=>by simp at hi) (fun i j hi=>by simp at hi)
  rw[x n];refine .rs l _ c size (fun i j=>cells.getD ((off+i)*size+j) undef) (fun _=>rfl) (by omega) (fun i hi=>?_) (fun i j hi hj=>?_) (fun i j hi hj=>?_)
  ·have b:off+i<es.length:=by omega
   rw[(d i hi b).1];exact(e _ b).1
  ·have b:off+i<es.length:=by omega
   have f:(off+i)*size+j<cells.size:=by rw[r];have:(off+i+1)*size<=p.cap*size:=bq _ (by omega);rw[bI]at this;omega
   simp only[j4.cell,g,m];have e3:off*size+i*size+j=(off+i)*size+j:=by rw[bI]
   rw[e3];simp[f]
  have b:off+i<es.length:=by omega
  obtain⟨g1,g2⟩:=d i hi b;have H:=(e _ b).1;have f:(off+i)*size+j<cells.size:=by rw[r];have:(off+i+1)*size<=p.cap*size:=bq _ (by omega);rw[bI]at this;omega
  have:=(e _ b).2 j (by omega) f;have o:cells.getD ((off+i)*size+j) undef=cells[(off+i)*size+j]:=by simp[f]
  rw[o];exact g2 j hj (by omega) _ this
theorem db0{θ:Nat->AV}(E:Fit θ){σ:j3}{G:j4}{w:World}(h:Rel G (σ.sub θ) w)(pl:Nat->Option Pl)(hx:∀ id e z j,σ.objs id=some (.xrow e z j)->∃ es,θ j=.rs es)(hy:∀ id j,σ.objs id=some (.xmap (.sy j))->∃ es,θ j=.rs es) :
  ∀ (k:Nat) (v c:AV) (u:Value),aV0 σ k v=some c->Rep G (v.sub θ) u->Rep (G.frozen (σ.sub θ) w pl) (c.sub θ) u
 | 0,v,c,u,d,_=>by simp[aV0]at d
 | k+1,v,c,u,d,n=>by
  have M:=db0 E h pl hx hy k;unfold aV0 at d;split at d
  ·rename_i hp
   cases d;exact O0 (fun b o H=>F3 h H) n (bz0 E _ hp)
  split at d
  ·rename_i cs _
   split at d
   ·rename_i l hl
    cases d;obtain⟨e1,e2⟩:=K8 hl;simp only[cK0]at n ⊢;cases n with
    | agg _ vs h1 h2=>
     refine .agg _ vs (by rw[h1];simp[e1]) (fun i hi m=>?_);have B:i<cs.length:=by simp at hi;omega
     have:=M _ _ vs[i] (e2 i B (by simpa using hi)) (by have:=h2 i (by simpa using B) m;simpa using this);simpa using this
   cases d
  ·rename_i cs _
   split at d
   ·rename_i l hl
    cases d;obtain⟨e1,e2⟩:=K8 hl;simp only[kt0]at n ⊢;cases n with
    | tup _ vs h1 h2=>
     refine .tup _ vs (by rw[h1];simp[e1]) (fun i hi m=>?_);have B:i<cs.length:=by simp at hi;omega
     have:=M _ _ vs[i] (e2 i B (by simpa using hi)) (by have:=h2 i (by simpa using B) m;simpa using this);simpa using this
   cases d
  ·rename_i id z off len _
   split at d
   ·rename_i elem size es C
    split at d
    ·rename_i hle
     split at d
     ·rename_i l hl
      cases d;obtain⟨e1,e2⟩:=gC0 hl;rw[cI0]at n;rw[dv0];refine eu0 h pl n (elem:=elem) (size:=size) (es:=es.map (bZ (AV.sub θ))) (by rw[j3.sub_objs,C];rfl) (by simpa using hle) (by simp[e1];omega) (fun i hi m=>?_);have x:i<l.length:=by simpa using hi
      have hi2:off+i<es.length:=by simpa using m
      have hm:=e2 i (by rw[<- e1];exact x) x;simp only[List.getElem_take,List.getElem_drop]at hm;obtain⟨f1,f2⟩:=K8 hm;refine⟨by simp[f1],fun j hj hj' u hu=>?_⟩;have I:j<l[i].length:=by simpa using hj
      have:=M _ _ u (f2 j (by omega) I) (by simpa using hu);simpa using this
     cases d
    cases d
   cases d
  ·rename_i id z i _
   split at d
   ·rename_i elem size j C
    split at d
    ·rename_i U
     cases d;subst U;obtain⟨es,hes⟩:=hx id elem size j C;rw[S3,hes]at n;rw[u9,hes];refine eu0 h pl n (elem:=elem) (size:=size) (es:=es) (by rw[j3.sub_objs,C];simp[l6.sub,hes,rowsOf]) (by simp[rowsOf]) (by simp[rowsOf]) (fun i hi m=>?_);have g:=(E j).pur;rw[hes]at g;simp only[aG];exact⟨trivial,fun a ha N u hu=>O0 (fun b o H=>F3 h H) hu (U6 g i hi a ha)⟩
    cases d
   cases d
  ·rename_i id _
   split at d
   ·rename_i elem size cs C
    split at d
    ·rename_i l hl
     cases d;obtain⟨e1,e2⟩:=K8 hl;rw[lo0]at n;rw[nr0];cases n with
     | mp _ _ _ p hp=>
     have q:(σ.sub θ).objs id=some (.row elem size [cs.map (AV.sub θ)]):=by rw[j3.sub_objs,C];rfl
     have hv:p.virt=false:=by
      rcases h.lies q hp with ⟨_,_,_,e3⟩ | ⟨e3,_⟩
      ·cases e3
      exact e3
     obtain⟨V,Y,cells,H,hps,hn,O,t⟩:=h.real q hp hv;have s:(G.frozen (σ.sub θ) w pl).imm p.block=some (.cells cells elem (0,0)):=by simp only[j4.frozen];rw[Af ⟨id,_,p,q,hp,hv,rfl⟩];exact H
     obtain⟨r1,r2⟩:=t 0 (by simp);have hlen:cs.length=size:=by simpa using r1
     have P:size<=cells.size:=by rw[hn];have:1*size<=p.cap*size:=bq _ (by simpa using O);omega
     refine .rp _ _ (fun j=>cells.getD j undef) rfl (fun j hj=>?_) (fun j hj=>?_)
     ·have I:j<l.length:=by simpa using hj
      have J:j<cells.size:=by omega
      simp only[j4.cell,s];have e3:0*p.size+0+j=j:=by omega
      rw[e3];simp[J]
     have I:j<l.length:=by simpa using hj
     have J:j<cells.size:=by omega
     have Q:j<cs.length:=by omega
     have:=r2 j (by simpa using Q) (by omega);have Z:cells.getD j undef=cells[j]:=by simp[J]
     rw[Z];have h5:Rep G ((cs[j]).sub θ) cells[j]:=by
      have e4:cells[0*size+j]'(by omega)=cells[j]:=by congr 1;omega
      rw[<- e4];simpa using this
     have:=M _ _ _ (e2 j Q I) h5;simpa using this
    cases d
   cases d
  ·rename_i id _
   have fin:∀ rows:List (List AV),(σ.sub θ).objs id=some (O8 (.rs rows))->(AV.rs rows).pur=true->Rep (G.frozen (σ.sub θ) w pl) (.rm (.rs rows)) u:=fun rows q g=>by
    rw[dz0]at n;cases n with
    | mm _ p hp=>
    have hv:p.virt=false:=by
     rcases h.lies q hp with ⟨_,_,_,e3⟩ | ⟨e3,_⟩
     ·simp[O8]at e3
     exact e3
    obtain⟨V,Y,ents,H,P,K⟩:=h.real q hp hv;have s:(G.frozen (σ.sub θ) w pl).imm p.block=some (.map ents rows.length):=by simp only[j4.frozen];rw[Af ⟨id,_,p,q,hp,hv,rfl⟩];exact H
    have hl:ents.toList.length=rows.length:=by have:ents.size=(y3 0 rows).length:=P;rw[E7]at this;simpa using this
    have D:∀ i (h1:i<rows.length) (h2:i<ents.toList.length),ents.toList[i].key=B0 (aW0 rows) (D5 i rows[i]).1/\Rep G (D5 i rows[i]).2.1 ents.toList[i].val/\ents.toList[i].born=i:=fun i h1 h2=>by
     have S:i<(y3 0 rows).length:=by rw[E7];exact h1
     have R:=K i S (by simpa using h2);simp only[rowsOf]at R;rw[X8 _ _ _ S h1,aG]at R;simpa[hU0]using R
    refine .rm rows p.block ents.toList s hl (fun i h1 h2=>⟨(D i h1 h2).1,(D i h1 h2).2.2⟩) (fun i h1 h2=>?_);refine O0 (fun b o H=>F3 h H) (D i h1 h2).2.1 ?_;have t:=U6 g i h1;generalize rows[i]=r at t;unfold D5;split
    ·exact t 1 (by simp)
    simp[AV.pur]
   split at d
   ·rename_i j C
    cases d;obtain⟨es,hes⟩:=hy id j C;rw[fB0,u9,hes];have g:=(E j).pur;rw[hes]at g;exact fin es (by rw[j3.sub_objs,C];simp[l6.sub,hes]) g
   ·rename_i C
    cases d;rw[fB0,dv0];exact fin [] (by rw[j3.sub_objs,C];simp[l6.sub,O8,rowsOf,y3,aW0]) (by simp[AV.pur,kA0])
   cases d
  ·rename_i f a c0 _
   split at d
   ·rename_i a' c' N hc'
    cases d;obtain⟨e1,e2⟩:=K8 N;obtain⟨g1,g2⟩:=K8 hc';rw[qs0]at n ⊢;cases n with
    | fn _ _ _ fv cv h1 h2 S R=>
     refine .fn f _ _ fv cv (by simp at h1 ⊢;omega) (by simp at h2 ⊢;omega) (fun i hi m=>?_) (fun i hi m=>?_)
     ·have x:i<a'.length:=by simpa using hi
      have:=M _ _ fv[i] (e2 i (by omega) x) (by have:=S i (by simp;omega) m;simpa using this);simpa using this
     have x:i<c'.length:=by simpa using hi
     have:=M _ _ cv[i] (g2 i (by omega) x) (by have:=R i (by simp;omega) m;simpa using this);simpa using this
   cases d
  cases d
end Go.Ab
namespace Go.Ab
open Go
variable [B6]
theorem vc0{θ:Nat->AV}(a:Fit θ){v:AV}(h:fitB v=true):aU0 (v.sub θ):=by
 unfold fitB at h;split at h
 ·simp[aU0]
 ·simp[aU0]
 ·simp[aU0]
 ·rw[u9];exact a _
 ·rename_i es
  simp only[AV.sub,aU0,AV.pur];exact hT0 a es h
 ·rename_i cs
  simp only[AV.sub,aU0,AV.pur];exact P4 a cs h
 ·rename_i c
  simp only[AV.sub,aU0,AV.pur];exact bz0 a c h
 cases h
theorem RVr.map{ι:gb0}{θ:Nat->AV}{a b:List (List AV)}(h:RVr ι (dI0 θ a) (dI0 θ b)):RVr ι (a.map (bZ (AV.sub θ))) (b.map (bZ (AV.sub θ))):=by rw[<- bm0,<-bm0];exact h
theorem dU0{ι:gb0}{c:AV}(hf:aU0 c):gf0 ι (O8 c) (O8 c):=by
 refine⟨rfl,rfl,rfl,fun i hi f=>⟨rfl,?_,rfl⟩⟩;intro G u g;have a:i<(rowsOf c).length:=by rw[E7]at hi;exact hi
 refine O0 (G:=G) (G':=G.ren ι) (fun _ _ h=>h) g ?_;rw[X8 _ _ _ hi a];rcases hf.cases with ⟨k,n,e⟩ | ⟨b',e⟩ | ⟨x,e⟩ | ⟨es,e⟩ | ⟨cs,e⟩ | ⟨c2,e⟩
 rotate_right
 ·simp[e,rowsOf]at a
 rotate_right
 ·simp[e,rowsOf]at a
 ·simp[e,rowsOf]at a
 ·simp[e,rowsOf]at a
 ·simp[e,rowsOf]at a
 subst e;have hp:=hf.pur;have d:i<es.length:=a;have b:=U6 hp i d;show (D5 (0+i) es[i]).2.1.pur=true;generalize es[i]=r at b;unfold D5;split
 ·rename_i k v
  exact b 1 (by simp)
 simp[AV.pur]
theorem oa0:∀ {a b:List (Nat×TypeId×Nat)},pI0 a b=true->a=b
 | [],[],_=>rfl
 | [],_::_,h=>by simp[pI0]at h
 | _::_,[],h=>by simp[pI0]at h
 | (x,y,z)::as,(e,f,g)::bs,h=>by simp only[pI0,ab,b_]at h;obtain⟨⟨⟨h1,h2⟩,c⟩,d⟩:=h;rw[h1,h2,c,oa0 d]
theorem uf0{θ:Nat->AV}{a b:AV}(h:eqX a b=true):a.sub θ=b.sub θ:=by
 unfold eqX at h;split at h
 ·rw[af h]
 ·rw[Aj h]
 cases h
theorem tS0{θ:Nat->AV}(f:Fit θ){lo:Bool}{ι:gb0}(I:lo=true->∀ i,i<O6->ι i=some (some i)){o o':l6}(h:bH0 lo ι o o'=true):gf0 ι (o.sub θ) (o'.sub θ):=by
 cases o with
 | row e z es=>
  cases o' with
  | row P Q r =>simp only[bH0,ab]at h;have h2:=(mO0 f es r h.2).map;exact⟨af h.1.1,af h.1.2,h2.1,h2.2⟩
  | _=>simp[bH0]at h
 | xrow e z i=>
  cases o' with
  | xrow P Q i' =>
   simp only[bH0,ab]at h;have D:=af h.2;subst D;refine⟨af h.1.1,af h.1.2,rfl,fun a ha J=>⟨rfl,fun b E K=>?_⟩⟩;intro G u l;have hf:=f i;rcases hf.cases with ⟨k,n,e⟩ | ⟨b',e⟩ | ⟨x,e⟩ | ⟨es,e⟩ | ⟨cs,e⟩ | ⟨c2,e⟩
   rotate_right
   ·simp[e,rowsOf]at ha
   rotate_right
   ·simp[e,rowsOf]at ha
   ·simp[e,rowsOf]at ha
   ·simp[e,rowsOf]at ha
   ·simp[e,rowsOf]at ha
   have hp:=hf.pur;rw[e]at hp;simp only[e,rowsOf]at l ⊢;exact O0 (G:=G) (G':=G.ren ι) (fun _ _ M=>M) l (U6 hp a (by simpa[e,rowsOf]using ha) b (by simpa[e,rowsOf]using E))
  | _=>simp[bH0]at h
 | xmap c=>
  cases o' with
  | xmap c' =>
   simp only[bH0]at h;split at h
   ·rename_i i j
    have D:=af h;subst D;exact dU0 (f i)
   ·exact dU0 (c:=.rs []) (by simp[aU0,AV.pur,kA0])
   cases h
  | map agg es clock=>
   by_cases hc:c=.rs []/\agg=false/\es=[]
   ·obtain⟨rfl,rfl,rfl⟩:=hc
    simp only[bH0]at h;rw[b_]at h;subst h;exact dU0 (c:=.rs []) (by simp[aU0,AV.pur,kA0])
   exfalso;unfold bH0 at h;split at h
   ·rename_i e1 e2;cases e1
   ·rename_i e1 e2;cases e1
   ·rename_i e1 e2;cases e1
   ·rename_i e1 e2;cases e2
   ·rename_i e1 e2;cases e1;cases e2;exact hc ⟨rfl,rfl,rfl⟩
   ·rename_i e1 e2;cases e1
   ·rename_i e1 e2;cases e1
   cases h
  | _=>simp[bH0]at h
 | map agg es c=>
  cases o' with
  | map R r c' =>
   simp only[bH0,ab]at h;obtain⟨⟨⟨h1,h2⟩,D⟩,U⟩:=h;have hl:=af D;refine⟨by simpa using h1,af h2,by simpa using hl,fun i hi N=>?_⟩;have V:i<es.length:=by simpa using hi
   have Y:i<r.length:=by simpa using N
   have hm:=aj.1 U (es[i],r[i]) (by
    rw[List.mem_iff_getElem];exact⟨i,by simp;omega,by simp⟩)
   simp only[ab,Ad]at hm;simp only[cn];exact⟨hm.1.1,nf0 f _ _ hm.1.2,af hm.2⟩
  | _=>simp[bH0]at h
 | frow e z c d k off v=>
  cases o' with
  | frow P Q c' O k' S Z =>
   cases v with
   | some v0=>simp[bH0]at h
   | none=>
   cases Z with
   | some v0=>simp[bH0]at h
   | none=>
   simp only[bH0,ab]at h;obtain⟨⟨⟨⟨hl,h1⟩,h2⟩,hc⟩,B⟩:=h;have h1:=af h1;have h2:=af h2;subst h1;subst h2;obtain⟨i,rfl,rfl⟩:=oG0 hc;have:=oa0 B;subst this;have hid:=I hl;refine⟨rfl,rfl,rfl,fun a ha J=>⟨rfl,fun b E K=>?_⟩⟩;intro G u l;simp only[cC,T0,u9]at l ha E ⊢;have g:a<(rowsOf (θ i)).length:=by rw[J2]at ha;exact ha
   obtain⟨es,hes⟩:∃ es,θ i=.rs es:=by
    rcases(f i).cases with ⟨_,_,e⟩ | ⟨_,e⟩ | ⟨_,e⟩ | ⟨es,e⟩ | ⟨_,e⟩ | ⟨_,e⟩
    ·simp[e,rowsOf]at g
    ·simp[e,rowsOf]at g
    ·simp[e,rowsOf]at g
    ·exact⟨es,e⟩
    ·simp[e,rowsOf]at g
    simp[e,rowsOf]at g
   have hp:=(f i).pur;rw[hes]at hp;have t:a<es.length:=by simpa[hes,rowsOf]using g
   have w:(H6 d 0 (rowsOf (θ i)))[a]=Z7 d a 0 es[a]:=by have:=G6 d (rowsOf (θ i)) 0 a;rw[ai ha]at this;simp only[hes,rowsOf,ai t,ak,ah,aG]at this;simpa[hes,rowsOf]using this
   have H:b<es[a].length:=by have:=E;simp only[w,F6]at this;exact this
   have C:(H6 d 0 (rowsOf (θ i)))[a][b]=aw0 d a b es[a][b]:=by
    have:=M4 d a es[a] 0 b;rw[ai H,ak,aG]at this;have h2:(H6 d 0 (rowsOf (θ i)))[a][b]?=some (aw0 d a b es[a][b]):=by rw[w];exact this
    rw[ai E]at h2;simpa using h2
   rw[C]at l ⊢;unfold aw0 at l ⊢;split at l
   ·rename_i q hq
    have hi:=hid _ (dC0 a b);generalize (rowsOf es[a][b]).length=ln at l ⊢;cases l with
    | ms _ _ _ _ p hp hv hz ad cp hA ho hl hsp=>exact .ms _ _ 0 _ p (by simp only[j4.ren,hi];exact hp) hv hz ad cp hA ho hl hsp
    | msNil _ _ p hp hv=>exact .msNil _ _ p (by simp only[j4.ren,hi];exact hp) hv
   rename_i hq;exact O0 (G:=G) (G':=G.ren ι) (fun _ _ M=>M) l (U6 hp a t b H)
  | _=>simp[bH0]at h
 | siter a b=>cases o'<;>simp[bH0]at h
 | xiter s p=>
  cases o' with
  | xiter s' p' =>simp only[bH0,ab]at h;simp only[l6.sub,uf0 h.1,uf0 h.2];exact⟨rfl,rfl⟩
  | _=>simp[bH0]at h
 | miter m a b c=>cases o'<;>simp[bH0]at h
theorem fS0{ι:gb0}{c:Nat->AV}{s:AS}:∀ {l:List AV} {t0:Nat},gz0 ι c s l t0=true->∀ i (h:i<l.length),ck0 ι ((l[i]).ssub c) (s.get (t0+i))=true
 | [],_,_,i,h=>by simp at h
 | a::as,t0,b,i,h=>by
  simp only[gz0,ab]at b;cases i with
  | zero=>exact b.1
  | succ i=>have:=fS0 b.2 i (by simpa using h);simpa[dq,gr 1 i]using this
theorem qU0{ι:gb0}:∀ {l:List (Nat×l6)},injB ι l=true->∀ p∈l,∀ q∈l,∀ k,ι p.1=some (some k)->ι q.1=some (some k)->p.1=q.1
 | [],_,p,hp,_,_,_,_,_=>by cases hp
 | a::l,h,p,hp,q,e,k,h1,h2=>by
  simp only[injB,ab]at h;have key:∀ r∈l,ι a.1=some (some k)->ι r.1=some (some k)->a.1=r.1:=fun r f e1 e2=>by
   have:=aj.1 h.1 r f;rw[e1]at this;simp only[br]at this;rcases this with d | d
   ·exact(af d).symm
   simp[W7,e2]at d
  rcases aC.1 hp with e1 | c
  ·rcases aC.1 e with e2 | b
   ·rw[e1,e2]
   rw[e1]at h1 ⊢;exact key q b h1 h2
  rcases aC.1 e with e2 | b
  ·rw[e2]at h2 ⊢;exact(key p c h2 h1).symm
  exact qU0 h.2 p c q b k h1 h2
theorem ex0(a:Acc):∀ (k l:Nat),(cV0 a l k).length=k
 | 0,_=>rfl
 | k+1,l=>by simp[cV0,ex0 a k]
theorem Hint.state_get(h:Hint)(t:Nat):h.state.get t=(h.slots[t]?).getD (.sc undef):=AS.enter_get _ _ _ _
theorem bP0{θ:Nat->AV}(c:Fit θ){n l:Nat}{h:Hint}{s:AS}{vals:List AV}(hm:dk0 n l h s=some vals) :
  vals.length=h.k/\(∀ v∈vals,aU0 (v.sub θ))/\Fit (fun i=>(ak0 l vals i).sub θ)/\∃ ι,Ren ι n (h.state.sub (fun i=>(ak0 l vals i).sub θ)) (s.sub θ):=by
 unfold dk0 at hm;simp only at hm;split at hm
 ·rename_i hc
  cases hm;generalize E:guess s n l h=acc at *;generalize G:acc.io.filter (fun p=>di n p.1)=io at *;simp only[ab]at hc;obtain⟨⟨⟨⟨⟨⟨c1,c2⟩,H⟩,I⟩,J⟩,K⟩,M⟩:=hc;have u:=af c2;have w:=aU H;have g:∀ v∈cV0 acc l h.k,aU0 (v.sub θ):=fun v hv=>vc0 c (aj.1 c1 v hv);refine⟨ex0 _ _ _,g,fun i=>?_,jr0 n io,?_⟩
  ·show aU0 ((ak0 l (cV0 acc l h.k) i).sub θ)
   unfold ak0;split
   ·cases q:(cV0 acc l h.k)[i-l]? with
    | none=>simpa using c i
    | some v=>exact g v (aN q)
   simpa using c i
  have hst:h.state.sub (fun i=>(ak0 l (cV0 acc l h.k) i).sub θ)=(h.state.ssub (ak0 l (cV0 acc l h.k))).sub θ:=(AS.ssub_sub _ _ _).symm;have d:∀ i o,(h.state.sub (fun i=>(ak0 l (cV0 acc l h.k) i).sub θ)).st.objs i=some o->∃ o0,(i,o0)∈h.objs/\o=(o0.ssub (ak0 l (cV0 acc l h.k))).sub θ:=fun i o m=>by
   rw[AS.sub_st,j3.sub_objs]at m;cases q:h.state.st.objs i with
   | none=>rw[q]at m;cases m
   | some o0=>
    rw[q]at m;simp only[ak,ah]at m;refine⟨o0,?_,by rw[l6.ssub_sub];exact m.symm⟩;rcases Tr.ofList_get h.objs .leaf i o0 q with h1 | h1
    ·exact h1
    rw[Tr.get_leaf]at h1;cases h1
  have x:∀ i k,py0 io i=some k->n<=i/\i<h.next:=fun i k hk=>by
   have aux:∀ (L:List (Nat×Option Nat)),L.all (fun p=>di n p.1&&cm p.1 h.next)=true->py0 L i=some k->n<=i/\i<h.next:=by
    intro L
    induction L with
    | nil=>intro _ r;simp[py0]at r
    | cons a L N=>
     intro b r;simp only[bU,ab]at b;unfold py0 at r;split at r
     ·rename_i he
      have:=af he;subst this;exact⟨aU b.1.1,by simpa[aZ]using b.1.2⟩
     exact N (by simpa using b.2) r
   exact aux io I hk
  refine⟨u,fun i hi=>?_,fun i k hk=>?_,w,fun i j k oi oj h1 h2 O P=>?_,fun t B=>?_,fun t B=>?_,fun i o m=>?_⟩
  ·have:cm i n=true:=by rw[aZ];exact hi
   simp only[jr0,this]
  ·show i<h.next
   simp only[jr0]at hk;split at hk
   ·rename_i Q;rw[aZ]at Q;omega
   exact(x i k hk).2
  ·obtain⟨o1,m1,_⟩:=d i oi O
   obtain⟨o2,m2,_⟩:=d j oj P;exact qU0 M _ m1 _ m2 k h1 h2
  ·have f:t<h.slots.length:=by rw[u];exact B
   have:=fS0 J t f;rw[aG]at this;rw[AS.sub_get,AS.sub_get,Hint.state_get,ai f,bS,<-ssub_sub];exact nf0 c _ _ this
  ·have f:h.slots.length<=t:=by rw[u];exact B
   rw[AS.sub_get,Hint.state_get,bD f];simp
  obtain⟨o0,m0,rfl⟩:=d i o m;have:=aj.1 K (i,o0) m0;simp only[us0]at this;split at this
  ·rename_i k hk
   split at this
   ·rename_i o' C
    exact .inl ⟨k,o'.sub θ,hk,by rw[AS.sub_st,j3.sub_objs,C];rfl,tS0 c (fun D i hi=>by
     have R:=aU D;have:cm i n=true:=by rw[aZ];omega
     simp only[jr0,this]) this⟩
   cases this
  ·rename_i hk
   refine .inr ⟨hk,?_⟩;unfold nv0 at this;split at this
   ·rename_i e z he;exact⟨e,z,by rw[he];simp[l6.sub]⟩
   cases this
  cases this
 cases hm
theorem ot0(f:AV->AV):∀ (l:List AV) (i:Nat) (t:Tr AV),(uw0 l i t).map f=uw0 (l.map f) i (t.map f)
 | [],i,t=>rfl
 | v::l,i,t=>by simp only[uw0,az];rw[ot0 f l,Tr.map_set];rfl
theorem gP0(θ:Nat->AV)(n:Nat)(args:List AV)(σ:j3):(AS.enter n args σ).sub θ=AS.enter n (args.map (AV.sub θ)) (σ.sub θ):=by simp only[AS.sub,AS.enter,ot0];rfl
theorem qP0{T:Tab}{θ:Nat->AV}{s:AS}{r:ResultVar}{v:AV}(h:lP0 T s r=some v):lP0 T (s.sub θ) r=some (v.sub θ):=by
 cases r with
 | tmp t=>simp only[lP0,ah]at h ⊢;rw[AS.sub_get,h]
 | cell a t=>simp only[lP0]at h ⊢;rw[AS.sub_get];exact hP0 h
theorem hZ0{T:Tab}{θ:Nat->AV}{s:AS}:∀ {rs:List ResultVar} {l:List AV},fd0 T s rs=some l->fd0 T (s.sub θ) rs=some (l.map (AV.sub θ))
 | [],l,h=>by simp only[fd0,ah]at h;subst h;rfl
 | r::rs,l,h=>by
  unfold fd0 at h;split at h
  ·rename_i v a h1 h2
   cases h;simp only[fd0,qP0 h1,hZ0 h2];rfl
  cases h
theorem cG0{T:Tab}{θ:Nat->AV}{fn:Func}{s:AS}{v:AV}(h:C8 T fn s=some v):C8 T fn (s.sub θ)=some (v.sub θ):=by
 unfold C8 at h;split at h
 ·rename_i u hu;cases h;simp[C8,hZ0 hu]
 ·rename_i l a hl
  cases h;simp only[C8,hZ0 hl];split
  ·rename_i u e
   simp only[ah]at e;have hlen:=Ap gn e;simp only[aD,ay,bx]at hlen;obtain⟨x,rfl⟩:=List.length_eq_one_iff.1 hlen;exact Am rfl (a x)
  ·rename_i b _ e;simp only[ah]at e;subst e;simp
  rename_i e;cases e
 cases h
theorem aQ0:∀ {t:Tr l6} {k:Nat} {e:TypeId} {z j:Nat},t.get k=some (.xrow e z j)->j∈Z4 t
 | .leaf,k,e,z,j,h=>by rw[Tr.get_leaf]at h;cases h
 | .node v l r,0,e,z,j,h=>by simp only[Tr.get]at h;subst h;simp[Z4]
 | .node v l r,k+1,e,z,j,h=>by
  simp only[Tr.get]at h;simp only[Z4,aQ];split at h
  ·exact .inr (.inl (aQ0 h))
  exact .inr (.inr (aQ0 h))
theorem V1:∀ {t:Tr l6} {k:Nat} {j:Nat},t.get k=some (.xmap (.sy j))->j∈Z4 t
 | .leaf,k,j,h=>by rw[Tr.get_leaf]at h;cases h
 | .node v l r,0,j,h=>by simp only[Tr.get]at h;subst h;simp[Z4]
 | .node v l r,k+1,j,h=>by
  simp only[Tr.get]at h;simp only[Z4,aQ];split at h
  ·exact .inr (.inl (V1 h))
  exact .inr (.inr (V1 h))
mutual
theorem refr_sub{θ:Nat->AV}{id j fr:Nat}(hl:(rowsOf (θ fr)).length=(rowsOf (θ j)).length):∀ v:AV,(v.refr id j fr).sub θ=v.sub θ
 | .ss a z i=>by
  simp only[AV.refr];split
  ·rename_i h
   simp only[ab,b_]at h;obtain⟨rfl,rfl⟩:=h;simp only[S3,hl]
  rfl
 | .rs es=>by simp only[AV.refr,AV.sub];rw[gR0 hl es]
 | .rp cs=>by simp only[AV.refr,AV.sub];rw[aR0 hl cs]
 | .fn f a c=>by simp only[AV.refr,AV.sub];rw[aR0 hl a,aR0 hl c]
 | .agg cs=>by simp only[AV.refr,AV.sub];rw[aR0 hl cs]
 | .tup cs=>by simp only[AV.refr,AV.sub];rw[aR0 hl cs]
 | .any=>rfl
 | .sc _=>rfl
 | .ms _ _ _ _=>rfl
 | .mp _ _ _=>rfl
 | .mm _=>rfl
 | .it _=>rfl
 | .sy _=>rfl
 | .xp _ _ _=>rfl
 | .rm _=>rfl
theorem aR0{θ:Nat->AV}{id j fr:Nat}(hl:(rowsOf (θ fr)).length=(rowsOf (θ j)).length):∀ l:List AV,Y9 θ (jI0 id j fr l)=Y9 θ l
 | []=>rfl
 | c::cs=>by simp only[jI0,Y9];rw[refr_sub hl c,aR0 hl cs]
theorem gR0{θ:Nat->AV}{id j fr:Nat}(hl:(rowsOf (θ fr)).length=(rowsOf (θ j)).length):∀ l:List (List AV),dI0 θ (qL0 id j fr l)=dI0 θ l
 | []=>rfl
 | c::cs=>by simp only[qL0,dI0];rw[aR0 hl c,gR0 hl cs]
end
theorem l6.refr_sub{θ:Nat->AV}{id j fr:Nat}(hl:(rowsOf (θ fr)).length=(rowsOf (θ j)).length)(o:l6):(o.refr id j fr).sub θ=o.sub θ:=by
 cases o with
 | row e z es=>simp only[l6.refr,l6.sub,<-bm0];rw[gR0 hl]
 | map agg es c=>simp only[l6.refr,l6.sub,cY];congr 1;apply bo;intro e _;simp[Go.Ab.refr_sub hl]
 | _=>rfl
theorem AS.refr_sub{θ:Nat->AV}{id j fr:Nat}(hl:(rowsOf (θ fr)).length=(rowsOf (θ j)).length)(s:AS):(s.refr id j fr).sub θ=s.sub θ:=by simp only[AS.refr,AS.sub,j3.sub,Tr.map_map];have h1:(fun x=>AV.sub θ (AV.refr id j fr x))=AV.sub θ:=funext fun x=>Go.Ab.refr_sub hl x;have h2:(fun x=>l6.sub θ (l6.refr id j fr x))=l6.sub θ:=funext fun x=>l6.refr_sub hl x;rw[h1,h2]
theorem rL0{T:Tab}{σ σ1 b:j3}{t:TypeId}{id a i j:Nat}{e:TypeId}{z:Nat}{es:List (List AV)}{v:AV}(h1:σ1.objs a=some (.row e z es))(h2:σ.objs id=some (.row e z es))(h:U7 T σ1 t (.mp a i j) v=some b) :
  ∃ c,b.objs a=some (.row e z c)/\U7 T σ t (.mp id i j) v=some (σ.set id (.row e z c)):=by
 unfold U7 at h ⊢;split at h
 ·rename_i id' f g vs ti e1 e2 e3
  cases e1;simp only[h1]at h;simp only[e2,e3,h2];split at h
  ·rename_i cs d
   split at h
   ·rename_i hc
    cases h;rw[Af hc];exact⟨_,by simp[j3.objs_set],rfl⟩
   cases h
  cases h
 cases h
theorem sh0{T:Tab}{Φ:H7}{θ b:Nat->AV}{fr:Nat}(ha:∀ i,i<fr->b i=θ i){s s':AS}(d:s.bnd fr=true){op:Op}{ro:RO}(h:qZ0 s op fr=some (ro,s'))(he:j9 T Φ θ ro=some (AV.sub b (.sy fr))) :
  ∃ c,(∀ id,aop T (s.sub b).eval (s.st.sub b) id op=some (.sc undef,c))/\s'.sub b={ s.sub b with st:=c }:=by
 unfold qZ0 at h;split at h
 ·rename_i t a x
  split at h
  ·rename_i id i off hp
   split at h
   ·rename_i e z j k
    cases h;obtain⟨l,hj⟩:=mt0 (θ:=θ) ha d k;have m:=nJ0 (θ:=θ) ha d (s.bnd_eval d a) hp;simp only[j9,u9]at he;split at he
    ·rename_i σ1 f
     have n:(dX0 e z (θ j)).objs 0=some (.row e z (rowsOf (θ j))):=by simp[dX0,j3.objs_set]
     obtain⟨g,g1,g2⟩:=rL0 n l f;rw[g1]at he;simp only at he;split at he
     ·rename_i hlen
      simp only[ah]at he;have hlen:=af hlen;have hl:(rowsOf (b fr)).length=(rowsOf (b j)).length:=by rw[<- he,ha j hj];exact hlen
      refine⟨(s.st.sub b).set id (.row e z g),fun id0=>?_,?_⟩
      ·simp only[aop,AS.sub_eval,m,sub_agree ha _ (s.bnd_eval d x),g2]
      have e1:=AS.refr_sub (id:=id) (j:=j) (fr:=fr) hl s;have e2:({ s.refr id j fr with st:=(s.refr id j fr).st.set id (.xrow e z fr) }:AS).sub b={ (s.refr id j fr).sub b with st:=((s.refr id j fr).st.set id (.xrow e z fr)).sub b }:=rfl;rw[e2,j3.sub_set];have e3:(s.refr id j fr).st.sub b=s.st.sub b:=Ap AS.st e1;rw[e3,e1];simp only[l6.sub,<-he,rowsOf]
     cases he
    cases he
   cases h
  cases h
 cases h
theorem fa0{σ:j3}{id:Nat}{o:l6}(i:Nat):(I1 σ id o).objs i=if i=id then some o else none:=by
 unfold I1;rw[j3.objs_set];split
 ·rfl
 exact Tr.get_leaf i
theorem lX0(θ:Nat->AV)(σ:j3)(id:Nat)(o:l6):(I1 σ id o).sub θ=I1 (σ.sub θ) id (o.sub θ):=by unfold I1;rw[j3.sub_set];rfl
theorem hG0{G:j4}{σ:j3}{w:World}(h:Rel G σ w){id:Nat}{o:l6}(b:σ.objs id=some o):Rel G (I1 σ id o) w :=
 h.less rfl fun i x a=>by
  rw[fa0]at a;split at a
  ·rename_i e;subst e;cases a;exact b
  cases a
noncomputable abbrev j4.froz1(G:j4)(σ:j3)(w:World)(id:Nat)(o:l6):j4:=G.frozen (I1 σ id o) w G.pl
theorem O3{G:j4}{σ:j3}{w:World}(h:Rel G σ w){id:Nat}{o:l6}(a:σ.objs id=some o):G.le (G.froz1 σ w id o) :=⟨rfl,fun _ _ b=>F3 (hG0 h a) b,fun _ _ hp=>hp⟩
theorem pv0{G:j4}{σ:j3}{id:Nat}{o:l6}{b:Nat}(h:Live G (I1 σ id o) b):∃ p,G.pl id=some p/\p.virt=false/\p.block=b:=by
 obtain⟨i,x,p,h1,h2,a,c⟩:=h;rw[fa0]at h1;split at h1
 ·rename_i e;subst e;exact⟨p,h2,a,c⟩
 cases h1
theorem qE0{G:j4}{s s':AS}{a:Act}{w:World}(B:W6 G s a w){id:Nat}{o:l6}(D:s.st.objs id=some o)(N:s'.n=s.n)(M:s'.st.next=s.st.next)
  (d:∀ i x,s'.st.objs i=some x->i≠id/\∃ y,s.st.objs i=some y/\(∀ p m,N1 G p y m->N1 (G.froz1 s.st w id o) p x m)/\((∃ e z,y=.row e z [])->∃ e z,x=.row e z []))
  (g:∀ t u,Rep G (s.get t) u->Rep (G.froz1 s.st w id o) (s'.get t) u) {n:Nat} (E:n<=s.st.next):W6 (G.froz1 s.st w id o) s' a w/\S8 n G s.st w (G.froz1 s.st w id o) s'.st w:=by
 have c:=B.rel;have l:=hG0 c D;have himm:∀ b x,(G.froz1 s.st w id o).imm b=some x->(∃ p,G.pl id=some p/\p.virt=false/\p.block=b/\w.heap[b]?=some x)\/G.imm b=some x:=fun b x f=>by
  simp only[j4.froz1,j4.frozen]at f;split at f
  ·rename_i hl
   obtain⟨p,h1,h2,k⟩:=pv0 hl;exact .inl ⟨p,h1,h2,k,f⟩
  exact .inr f
 refine⟨⟨B.defers,by rw[N];exact B.size,fun t=>g t _ (B.tmps t),?_⟩,?_⟩
 ·refine⟨c.os,c.tape,c.output,c.size,fun b x f=>?_,by rw[M];exact c.fresh,fun i x hi=>?_,fun i j oi oj pi pj h1 h2 k O v1 v2 P=>?_,fun b o' v hv=>cd0 l (c.glob b o' v hv)⟩
  ·rcases himm b x f with ⟨p,_,_,_,h⟩ | h
   ·exact h
   exact c.imm b x h
  ·obtain⟨H,y,C,I,r⟩:=d i x hi
   obtain⟨p,hp,hl⟩:=c.objs i y C;refine⟨p,hp,?_⟩;rcases hl with ⟨hv,e,z,rfl⟩ | ⟨hv,l1,l2,l3⟩
   ·exact .inl ⟨hv,r ⟨e,z,rfl⟩⟩
   refine .inr ⟨hv,?_,l2,I p _ l3⟩;cases f:(G.froz1 s.st w id o).imm p.block with
   | none=>rfl
   | some q=>
    rcases himm _ _ f with ⟨Q,h1,h2,k,_⟩ | h
    ·exact Am (c.sep i id y o p Q C D hp h1 hv h2 k.symm) H
    rw[l1]at h;cases h
  obtain⟨_,R,J,_⟩:=d i oi h1;obtain⟨_,S,K,_⟩:=d j oj h2;exact c.sep i j R S pi pj J K k O v1 v2 P
 refine⟨rfl,fun b x f=>F3 l f,fun _ _=>rfl,by rw[M];exact E,⟨ax _,fun _ _ _=>rfl,fun i x p h1 h2 k _=>?_,fun b x f=>?_,ax _⟩⟩
 ·obtain⟨_,y,C,_⟩:=d i x h1
  exact⟨i,y,p,C,h2,k,rfl⟩
 rcases himm b x f with ⟨p,h1,h2,k,_⟩ | h
 ·exact .inr (.inr ⟨id,o,p,D,h1,h2,k⟩)
 exact .inl h
section
variable {θ:Nat->AV} (hθ:Fit θ) {G:j4} {σ:j3} {w:World} {id:Nat} {o:l6} (h:Rel G (σ.sub θ) w) (ho:σ.objs id=some o) (hxv:∀ j,j∈Z4 (I1 σ id o).tr->∃ es,θ j=.rs es)
include hθ h ho hxv in
theorem lO0(v c:AV)(u:Value)(hc:aV0 (I1 σ id o) 3 v=some c)(a:Rep G (v.sub θ) u):Rep (G.froz1 (σ.sub θ) w id (o.sub θ)) (c.sub θ) u:=by
 have h1:Rel G ((I1 σ id o).sub θ) w:=by rw[lX0];exact hG0 h (by rw[j3.sub_objs,ho];rfl)
 have:=db0 hθ h1 G.pl (fun i e z j hi=>hxv j (aQ0 hi)) (fun i j hi=>hxv j (V1 hi)) 3 v c u hc a;rw[lX0]at this;exact this
include hθ h ho hxv
mutual
theorem sb0:∀ (v:AV) (u:Value),Rep G (v.sub θ) u->Rep (G.froz1 (σ.sub θ) w id (o.sub θ)) ((v.frz (I1 σ id o)).sub θ) u
 | .agg cs,u,b=>by
  simp only[AV.frz,AV.sub]at b ⊢;cases b with
  | agg _ vs h1 h2=>have:=gJ0 cs vs ⟨h1,h2⟩;exact .agg _ vs this.1 this.2
 | .tup cs,u,b=>by
  simp only[AV.frz,AV.sub]at b ⊢;cases b with
  | tup _ vs h1 h2=>have:=gJ0 cs vs ⟨h1,h2⟩;exact .tup _ vs this.1 this.2
 | .fn f a c,u,b=>by
  simp only[AV.frz,AV.sub]at b ⊢;cases b with
  | fn _ _ _ fv cv h1 h2 g k=>have d:=gJ0 a fv ⟨h1,g⟩;have e:=gJ0 c cv ⟨h2,k⟩;exact .fn _ _ _ fv cv d.1 e.1 d.2 e.2
 | .ss a z i,u,b=>by
  simp only[AV.frz];cases hc:aV0 (I1 σ id o) 3 (.ss a z i)with
  | some c=>simp only[bS];exact lO0 hθ h ho hxv _ _ _ hc b
  | none=>exact b.mono (O3 h (by rw[j3.sub_objs,ho];rfl))
 | .mp a i j,u,b=>by
  simp only[AV.frz];cases hc:aV0 (I1 σ id o) 3 (.mp a i j)with
  | some c=>simp only[bS];exact lO0 hθ h ho hxv _ _ _ hc b
  | none=>exact b.mono (O3 h (by rw[j3.sub_objs,ho];rfl))
 | .any,u,b=>by simp only[AV.frz];exact b.mono (O3 h (by rw[j3.sub_objs,ho];rfl))
 | .sc _,u,b=>by simp only[AV.frz];exact b.mono (O3 h (by rw[j3.sub_objs,ho];rfl))
 | .rs _,u,b=>by simp only[AV.frz];exact b.mono (O3 h (by rw[j3.sub_objs,ho];rfl))
 | .rp _,u,b=>by simp only[AV.frz];exact b.mono (O3 h (by rw[j3.sub_objs,ho];rfl))
 | .ms _ _ _ _,u,b=>by simp only[AV.frz];exact b.mono (O3 h (by rw[j3.sub_objs,ho];rfl))
 | .mm _,u,b=>by simp only[AV.frz];exact b.mono (O3 h (by rw[j3.sub_objs,ho];rfl))
 | .it _,u,b=>by simp only[AV.frz];exact b.mono (O3 h (by rw[j3.sub_objs,ho];rfl))
 | .sy _,u,b=>by simp only[AV.frz];exact b.mono (O3 h (by rw[j3.sub_objs,ho];rfl))
 | .xp _ _ _,u,b=>by simp only[AV.frz];exact b.mono (O3 h (by rw[j3.sub_objs,ho];rfl))
 | .rm _,u,b=>by simp only[AV.frz];exact b.mono (O3 h (by rw[j3.sub_objs,ho];rfl))
theorem gJ0:∀ (l:List AV) (us:List Value),B8 G (Y9 θ l) us->B8 (G.froz1 (σ.sub θ) w id (o.sub θ)) (Y9 θ (kh0 (I1 σ id o) l)) us
 | [],us,a=>by simp only[kh0,Y9]at a ⊢;rw[a.nil_inv];exact B8.nil _
 | c::cs,us,a=>by simp only[kh0,Y9]at a ⊢;obtain⟨v,vs,rfl,h1,h2⟩:=a.cons_inv;exact(gJ0 cs vs h2).cons (sb0 c v h1)
end
theorem sa0(y:l6)(p:Pl)(f:Option Obj)(hk:N1 G p (y.sub θ) f):N1 (G.froz1 (σ.sub θ) w id (o.sub θ)) p ((y.frz (I1 σ id o)).sub θ) f:=by
 have hle:G.le (G.froz1 (σ.sub θ) w id (o.sub θ)):=O3 h (by rw[j3.sub_objs,ho];rfl);cases y with
 | row e z es=>
  simp only[l6.frz,l6.sub]at hk ⊢;obtain⟨cs,h1,h2,x,B,C⟩:=hk;refine⟨cs,h1,h2,x,by simpa using B,fun i hi=>?_⟩;have n:i<es.length:=by simpa using hi
  have q:i<(es.map (bZ (AV.sub θ))).length:=by simpa using n
  obtain⟨g1,g2⟩:=C i q;have e1:(es.map (bZ (AV.sub θ)))[i]=Y9 θ es[i]:=by simp[G4]
  have e2:((es.map (kh0 (I1 σ id o))).map (bZ (AV.sub θ)))[i]=Y9 θ (kh0 (I1 σ id o) es[i]):=by simp[G4]
  have g:∀ l:List AV,(kh0 (I1 σ id o) l).length=l.length:=fun l=>by
   induction l with
   | nil=>rfl
   | cons c cs r=>simp[kh0,r]
  have hlen:(Y9 θ (kh0 (I1 σ id o) es[i])).length=es[i].length:=by rw[G4,aD,g]
  refine⟨by rw[e2,hlen];rw[e1,G4,aD]at g1;exact g1,fun j hj t=>?_⟩;have d:j<es[i].length:=by rw[e2,hlen]at hj;exact hj
  have u:j<(es.map (bZ (AV.sub θ)))[i].length:=by simpa using d
  have g3:=g2 j u t;have e3:(es.map (bZ (AV.sub θ)))[i][j]=(es[i][j]).sub θ:=by simp
  have v:j<(kh0 (I1 σ id o) es[i]).length:=by rw[g];exact d
  have e5:∀ (l:List AV) (j:Nat) (hj:j<l.length) (k:j<(kh0 (I1 σ id o) l).length),(kh0 (I1 σ id o) l)[j]=(l[j]).frz (I1 σ id o):=fun l=>by
   induction l with
   | nil=>intro j hj;simp at hj
   | cons c cs r=>
    intro j hj k;cases j with
    | zero=>rfl
    | succ j=>exact r j (by simpa using hj) (by simpa[kh0]using k)
  have e4:((es.map (kh0 (I1 σ id o))).map (bZ (AV.sub θ)))[i][j]=((es[i][j]).frz (I1 σ id o)).sub θ:=by simp[e5 es[i] j d v]
  rw[e4];rw[e3]at g3;exact sb0 hθ h ho hxv _ _ g3
 | map agg es c=>exact N1.mono hle hk
 | siter s pos=>exact N1.mono hle hk
 | miter m a b c=>exact N1.mono hle hk
 | xrow e z i=>exact N1.mono hle hk
 | xmap c=>exact N1.mono hle hk
 | frow=>exact N1.mono hle hk
 | xiter s p=>exact N1.mono hle hk
end
theorem AS.frz_get(σ1:j3)(id:Nat)(s:AS)(t:Nat):(s.frz σ1 id).get t=(s.get t).frz σ1:=by simp only[AS.get,AS.frz,Tr.map_get];cases s.tr.get t<;>simp[AV.frz]
theorem AS.frz_objs(σ1:j3)(id:Nat)(s:AS)(i:Nat):(s.frz σ1 id).st.objs i=if i=id then none else (s.st.objs i).map (l6.frz σ1):=by
 show ((s.st.del id).tr.map (l6.frz σ1)).get i=_;rw[Tr.map_get];have:(s.st.del id).tr.get i=if i=id then none else s.st.objs i:=j3.objs_del s.st id i
 rw[this];split<;>rfl
theorem nC0{s:AS}{θ:Nat->AV}(b:Fit θ){id:Nat}{o:l6}(f:s.st.objs id=some o)(d:∀ j,j∈Z4 (I1 s.st id o).tr->∃ es,θ j=.rs es){G:j4}{a:Act}{w:World}(g:W6 G (s.sub θ) a w){n:Nat}(h:n<=s.st.next) :
  W6 (G.froz1 (s.st.sub θ) w id (o.sub θ)) ((s.frz (I1 s.st id o) id).sub θ) a w/\S8 n G (s.sub θ).st w (G.froz1 (s.st.sub θ) w id (o.sub θ)) ((s.frz (I1 s.st id o) id).sub θ).st w:=by
 have l:(s.sub θ).st.objs id=some (o.sub θ):=by rw[AS.sub_st,j3.sub_objs,f];rfl
 exact qE0 (s':=(s.frz (I1 s.st id o) id).sub θ) g l rfl rfl (fun i x hi=>by
   rw[AS.sub_st,j3.sub_objs,AS.frz_objs]at hi;split at hi
   ·cases hi
   rename_i m;cases r:s.st.objs i with
   | none=>rw[r]at hi;cases hi
   | some y=>
    rw[r]at hi;cases hi;refine⟨m,y.sub θ,by rw[AS.sub_st,j3.sub_objs,r];rfl,fun p q hk=>sa0 b g.rel f d y p q hk,?_⟩;rintro ⟨e,z,he⟩;cases y with
    | row B C es=>
     simp only[l6.sub,l6.row.injEq]at he;have:es=[]:=by simpa using he.2.2
     subst this;exact⟨B,C,by simp[l6.frz,l6.sub]⟩
    | xrow B C j=>exact⟨e,z,by simp only[l6.frz];exact he⟩
    | frow B C c cols k off v=>exact⟨e,z,by simp only[l6.frz];exact he⟩
    | _=>simp only[l6.sub,O8]at he;first | (cases he;done) | (split at he<;>cases he))
  (fun t u hu=>by
   rw[AS.sub_get]at hu ⊢;rw[AS.frz_get];exact sb0 b g.rel f d _ _ hu) h
theorem BWp.freeze{P:Program}{n:Nat}{c:Code}{Q:Exit->AS->Prop}{s:AS}{θ:Nat->AV}(b:Fit θ){id:Nat}{o:l6}(g:s.st.objs id=some o)(d:∀ j,j∈Z4 (I1 s.st id o).tr->∃ es,θ j=.rs es)
  (h:BWp P n c Q ((s.frz (I1 s.st id o) id).sub θ)):BWp P n c Q (s.sub θ):=by
 intro f G a w i;obtain⟨h1,h2⟩:=nC0 b g d i (n:=n) f;refine wp_mono (h f _ a w h1) ?_;rintro e a' w' ⟨s2,k,l,m,p⟩;exact⟨s2,k,h2.trans l (ax _),m,p⟩
theorem ae0.freeze{P:Program}{ops:Array Oper}{n0 n:Nat}{f:AS->Prop}{l:List Nat}{s:AS}{θ:Nat->AV}(b:Fit θ){id:Nat}{o:l6}(g:s.st.objs id=some o)(c:∀ j,j∈Z4 (I1 s.st id o).tr->∃ es,θ j=.rs es)
  (h:ae0 P ops n0 n f l ((s.frz (I1 s.st id o) id).sub θ)):ae0 P ops n0 n f l (s.sub θ):=by
 intro G a w i hf k d;obtain⟨h1,h2⟩:=nC0 b g c i (n:=n) (by have:(s.sub θ).st.next=s.st.next:=rfl;omega);have:=h _ a w h1 (fun j hj=>hf j hj) k d;refine B3 ?_ _ _ _ this;rintro e a' w' ⟨e1,s2,m,p,q,r⟩;exact⟨e1,s2,m,h2.trans p (ax _),q,r⟩
theorem js0{s:AS}{fr:Nat}(k:s.bnd fr=true){a:Nat}{x:l6}(f:s.st.objs a=some x){θ g:Nat->AV}(q:∀ i,i<fr->g i=θ i)
  (d:((Z4 (I1 s.st a x).tr).all fun j=>match θ j with | .rs _=>true | _=>false)=true):∀ j,j∈Z4 (I1 s.st a x).tr->∃ es,g j=.rs es:=fun j hj=>by
 have h:=aj.1 d j hj;have m:j<fr:=by
  have u:=s.bnd_obj k f;have hm:∀ i,(I1 s.st a x).tr.get i=if i=a then some x else none:=fun i=>fa0 i
  have key:∀ (t:Tr l6),(∀ i y,t.get i=some y->y.bnd fr=true)->j∈Z4 t->j<fr:=by
   intro t
   induction t with
   | leaf=>intro _ hm;simp[Z4]at hm
   | node v l r n o=>
    intro b hm;simp only[Z4,aQ]at hm;rcases hm with hm | hm | hm
    ·have p:=b 0
     simp only[Tr.get]at p;split at hm
     ·rename_i e z w
      have:=p _ rfl;simp only[bJ]at hm;subst hm;simpa[l6.bnd,aZ]using this
     ·rename_i w
      have:=p _ rfl;simp only[bJ]at hm;subst hm;simpa[l6.bnd,AV.bnd,aZ]using this
     simp at hm
    ·exact n (fun i y c=>b (2*i+1) y (by simp only[Tr.get];rw[show 2*i%2=0 by omega,show 2*i / 2=i by omega];exact c)) hm
    exact o (fun i y c=>b (2*i+1+1) y (by simp only[Tr.get];rw[show (2*i+1)%2=1 by omega,show (2*i+1) / 2=i by omega];exact c)) hm
  refine key _ (fun i y c=>?_) hj;rw[hm]at c;split at c
  ·cases c;exact u
  cases c
 rw[q j m];split at h
 ·rename_i es he;exact⟨es,he⟩
 cases h
section
variable {P:Program} {T:Tab} (hT:C0 P T) {Φ:H7} (hΦ:il0 P Φ) {F:FuncId->Option Func} (hF:∀ f fn,F f=some fn->P.funcs[f]?=some fn) {Q:AV->Prop}
def vu0(T:Tab)(Φ:H7)(Q:AV->Prop)(fr:Nat)(θ:Nat->AV)(A:Nat->List AV->Prop)(k:KS)(s':AS):Prop :=∃ a c b d,fr<=b/\Fit a/\(∀ i,i<fr->a i=θ i)/\(∀ l,l<fr->d l=A l)/\s'=AS.sub a c/\E3 T Φ Q (k c b) a d
def rj0(T:Tab)(Φ:H7)(Q:AV->Prop)(fr:Nat)(θ:Nat->AV)(A:Nat->List AV->Prop)(k:KE)(e:Exit)(s':AS):Prop :=∃ c a d b g,e=EX.toExit c/\fr<=b/\Fit a/\(∀ i,i<fr->a i=θ i)/\(∀ l,l<fr->g l=A l)/\s'=AS.sub a d/\E3 T Φ Q (k c d b) a g
def ExOk(P:Program)(T:Tab)(Φ:H7)(Q:AV->Prop)(ex:Exe):Prop :=∀ n c s fr k θ A,Fit θ->E3 T Φ Q (ex n c s fr k) θ A->BWp P n c (rj0 T Φ Q fr θ A k) (AS.sub θ s)
include hT hΦ hF in
theorem qK0{ex:Exe}(hex:ExOk P T Φ Q ex){ops:Array Oper}{n0 n i:Nat}{rest:List Nat}{o:Oper}(ho:ops[i]?=some o)(hi:i∉rest){s:AS}{fr:Nat}{kk:KS}{θ:Nat->AV}{A:Nat->List AV->Prop}(hθ:Fit θ)
  (hw:D0 ops (s.sub θ) o=some true) (hd:P1 s.n o.dst=true) {Qs:AS->Prop}
  (hk:∀ s' S d A',fr<=S->Fit d->(∀ j,j<fr->d j=θ j)->(∀ l,l<fr->A' l=A l)->E3 T Φ Q (kk s' S) d A'->ae0 P ops n0 n Qs rest (AS.sub d s'))
  (h:E3 T Φ Q (sOne T Φ F ex (n0+i) o s fr kk) θ A):ae0 P ops n0 n Qs (i::rest) (s.sub θ):=by
 have M:P1 (s.sub θ).n o.dst=true:=hd;unfold sOne at h;split at h
 ·rename_i fo args ts hop
  split at h
  ·rename_i f first cap hfo
   have O:(s.sub θ).eval fo=.fn (.func f) (first.map (AV.sub θ)) (cap.map (AV.sub θ)):=by rw[AS.sub_eval,hfo,qs0]
   have m:first.map (AV.sub θ)++args.toList.map (s.sub θ).eval++cap.map (AV.sub θ)=(first++args.toList.map s.eval++cap).map (AV.sub θ):=by simp only[dL,cY];congr 2;apply bo;intro x _;exact AS.sub_eval θ s x
   split at h
   ·
    rename_i xv ro s' B;split at h
    ·rename_i g
     obtain⟨b,a0,f0,e0,d,a1',f1,e1,hl⟩:=h;have t:∀ i,i<fr->d i=θ i:=fun i hi=>(a1' i hi).trans (a0 i hi);unfold sSort at B;split at B
     ·cases B
     rename_i φ u;split at B
     ·rename_i id z j rest hargs0
      split at B
      ·rename_i e z' K hobj
       split at B
       ·rename_i U V hcr
        simp only[ab,b_]at V;obtain⟨rfl,rfl⟩:=V;cases B;obtain⟨k1,hj⟩:=mt0 (θ:=θ) t g hobj;have k:s.sub d=s.sub θ:=AS.sub_agree t g;have R:s.st.sub d=s.st.sub θ:=Ap AS.st k;have hs0:s.sub b=s.sub θ:=AS.sub_agree a0 g;have hst0:s.st.sub b=s.st.sub θ:=Ap AS.st hs0;simp only[j9]at e0;split at e0;rotate_left
        ·cases e0
        rename_i D;have hφ':Φ (XT+f)=some φ:=u;simp only[j9,hφ',az,u9,I0]at e1;split at e1
        ·rename_i c hc
         simp only[aq,false_implies,Al,ah]at e1;obtain⟨es,es',q1,q2,q3,q4⟩:=hΦ.sort f φ u _ _ _ _ hc;have q1':θ j=.rs es:=by rw[<- a0 j hj];exact q1
         have hl':(rowsOf (d fr)).length=(rowsOf (d j)).length:=by rw[<- e1,t j hj,q1',q2];exact q3
         rw[q1']at k1;have k2:(s.st.sub θ).objs id=some (.row e z es):=by rw[<- R];exact k1
         have hread:∀ G vs w,B8 G (rest.map (AV.sub b)) vs->Rel G ((s.st.sub θ).del id) w->B8 (G.frozen ((s.st.sub θ).del id) w (fun _=>none)) (U.map (AV.sub b)) vs:=fun G vs w h1 h2=>by
          rw[<- hst0,<-j3.sub_del]at h2 ⊢;obtain⟨g1,g2⟩:=K8 hcr;refine⟨by rw[h1.1];simp[g1],fun a ha C=>?_⟩;have ha1:a<U.length:=by simpa using ha
          have ha2:a<rest.length:=by omega
          have hxv:∀ K,K∈Z4 (s.st.del id).tr->cm K fr=true->∃ es,b K=.rs es:=fun K hm N=>by
           have hm:=aj.1 D K hm;rw[a0 K (by simpa using N)];split at hm
           ·rename_i es he;exact⟨es,he⟩
           cases hm
          have hold:∀ id' o',(s.st.del id).objs id'=some o'->s.st.objs id'=some o':=fun id' o' p=>eM0 p;have:=db0 (θ:=b) f0 h2 (fun _=>none) (fun id' e' z' K p=>?_) (fun id' K p=>?_) 50 _ _ vs[a] (g2 a ha2 ha1) (by
           have:=h1.2 a (by simpa using ha2) C;rw[cn]at this;exact this)
          ·simpa using this
          ·have N:=s.bnd_obj g (hold _ _ p)
           simp only[l6.bnd]at N;exact hxv K (aQ0 p) N
          have N:=s.bnd_obj g (hold _ _ p);simp only[l6.bnd,AV.bnd]at N;exact hxv K (V1 p) N
         have Y:=q4 (s.st.sub θ) id e (rest.map (AV.sub b)) k2 hread;have hargs2:first.map (AV.sub θ)++args.toList.map (s.sub θ).eval++cap.map (AV.sub θ)=.ms id z 0 es.length::rest.map (AV.sub b):=by
          have E:=s.bnd_eval g fo;rw[hfo]at E;simp only[AV.bnd,ab]at E;have q1:first.map (AV.sub b)=first.map (AV.sub θ):=by rw[<- G4,<-G4,J4 a0 first E.1]
          have q2:cap.map (AV.sub b)=cap.map (AV.sub θ):=by rw[<- G4,<-G4,J4 a0 cap E.2]
          have q3:(first++args.toList.map s.eval++cap).map (AV.sub θ)=(first++args.toList.map s.eval++cap).map (AV.sub b):=by simp only[dL,cY];rw[q1,q2];congr 2;apply bo;intro x _;exact(sub_agree a0 _ (s.bnd_eval g x)).symm
          rw[m,q3,hargs0,az];simp only[AV.sub,a0 j hj,q1',rowsOf]
         rw[<- hargs2]at Y;refine ae0.turns ho hop hw M O (σ1:=(s.st.sub θ).set id (.row e z es')) rfl Y ?_;have:=hk _ _ _ _ (kW _) f1 t (fun _ _=>rfl) hl;have e2:(({ s.refr id j fr with st:=(s.refr id j fr).st.set id (.xrow e z fr) }:AS).put o.dst (.tup [])).sub d=({ s.sub θ with st:=(s.st.sub θ).set id (.row e z es') }.put o.dst (.tup [])):=by have r1:=AS.refr_sub (id:=id) (j:=j) (fr:=fr) hl' s;have r2:(s.refr id j fr).st.sub d=s.st.sub d:=Ap AS.st r1;have e4:=AS.sub_put d (s.refr id j fr) ((s.refr id j fr).st.set id (.xrow e z fr)) o.dst (.tup []);rw[e4,r1,j3.sub_set,r2,k,R];simp only[l6.sub,<-e1,q2,rowsOf];rfl
         rw[e2]at this;exact this
        cases e1
       cases B
      cases B
     cases B
    exact h.elim
   unfold sCall at h;split at h
   ·exact h.elim
   rename_i fn hfn;split at h
   ·rename_i φ u
    replace u:=H7.at_fn u;split at h
    ·rename_i pat S hpat
     split at h
     ·rename_i g
      rw[ab]at g;have hle:=aU g.2;split at h
      ·rename_i H r
       obtain⟨b,t,f1,e1,q,a2,f2,e2,hl⟩:=h;simp only[j9]at e1 e2;split at e1
       ·rename_i D
        rw[(H7.fn_eq u).2]at e2;simp only at e2;split at e2
        ·rename_i c hc
         split at e2
         ·rename_i hflat
          simp only[ah]at e2;have k:s.sub b=s.sub θ:=AS.sub_agree t g.1;have hs2:s.sub q=s.sub θ:=by rw[AS.sub_agree a2 g.1,k]
          have I:kb0 (aV0 s.st 50) (first++args.toList.map s.eval++cap)=some H:=by
           unfold mR0 at r;split at r
           ·cases r
           split at r
           ·rename_i l hl2;cases r;exact hl2
           cases r
          have J:=hΦ.memo f φ (H7.fn_eq u).1 (H7.fn_eq u).2 _ _ hc;have Z:Told P f ((first++args.toList.map s.eval++cap).map (AV.sub b)) (s.st.sub b) c:=by
           refine lV0 J (hflat trivial) (fun G vs w hr hrel=>?_);obtain⟨g1,g2⟩:=K8 I;refine⟨by rw[hr.1];simp[g1],fun j hj hj'=>?_⟩;have hj1:j<H.length:=by simpa using hj
           have hj2:j<(first++args.toList.map s.eval++cap).length:=by omega
           have:=db0 (θ:=b) f1 hrel (fun _=>none) (fun id e z K p=>?_) (fun id K p=>?_) 50 _ _ vs[j] (g2 j hj2 hj1) (by
            have:=hr.2 j (by simpa using hj2) hj';rw[cn]at this;exact this)
           ·simpa using this
           ·have hm:=aj.1 D K (aQ0 p)
            have N:=s.bnd_obj g.1 p;simp only[l6.bnd,aZ]at N;rw[t K N];split at hm
            ·rename_i es he;exact⟨es,he⟩
            cases hm
           have hm:=aj.1 D K (V1 p);have N:=s.bnd_obj g.1 p;simp only[l6.bnd,AV.bnd,aZ]at N;rw[t K N];split at hm
           ·rename_i es he;exact⟨es,he⟩
           cases hm
          have hargs1:(first++args.toList.map s.eval++cap).map (AV.sub b)=(first++args.toList.map s.eval++cap).map (AV.sub θ):=by
           rw[<- m];have e:(s.sub b).eval=(s.sub θ).eval:=by rw[k]
           have E:=s.bnd_eval g.1 fo;rw[hfo]at E;simp only[AV.bnd,ab]at E;have q1:first.map (AV.sub b)=first.map (AV.sub θ):=by rw[<- G4,<-G4,J4 t first E.1]
           have q2:cap.map (AV.sub b)=cap.map (AV.sub θ):=by rw[<- G4,<-G4,J4 t cap E.2]
           simp only[dL,cY];rw[q1,q2];congr 2;apply bo;intro x _;have:=congrFun e x;rw[AS.sub_eval]at this;exact this
          have R:s.st.sub b=s.st.sub θ:=j3.sub_agree t g.1;rw[hargs1,R,<-m]at Z;refine ae0.told ho hop hw M O Z ?_;have:=hk (s.put o.dst pat) S q A hle f2 (fun j hj=>(a2 j hj).trans (t j hj)) (fun _ _=>rfl) hl;have e3:=AS.sub_put q s s.st o.dst pat;have e4:({ s with st:=s.st }:AS)=s:=rfl;rw[e4]at e3;rw[e3]at this;have e5:({ s.sub q with st:=s.st.sub q }:AS)=s.sub q:=rfl;rw[e5,hs2,<-e2]at this;exact this
         cases e2
        cases e2
       cases e1
      ·rename_i H r
       obtain⟨q,a2,f2,e2,hl⟩:=h;simp only[j9]at e2;rw[(H7.fn_eq u).2]at e2;simp only at e2;split at e2
       ·rename_i c hc
        split at e2
        ·simp only[ah]at e2
         have hs2:s.sub q=s.sub θ:=AS.sub_agree a2 g.1;have I:H=first++args.toList.map s.eval++cap:=by
          unfold mR0 at r;split at r
          ·cases r;rfl
          split at r<;>cases r
         rw[I]at hc;have J:=hΦ.memo f φ (H7.fn_eq u).1 (H7.fn_eq u).2 _ _ hc (s.st.sub θ);rw[<- m]at J;refine ae0.told ho hop hw M O J ?_;have:=hk (s.put o.dst pat) S q A hle f2 a2 (fun _ _=>rfl) hl;have e3:=AS.sub_put q s s.st o.dst pat;have e4:({ s with st:=s.st }:AS)=s:=rfl;rw[e4]at e3;rw[e3]at this;have e5:({ s.sub q with st:=s.st.sub q }:AS)=s.sub q:=rfl;rw[e5,hs2,<-e2]at this;exact this
        cases e2
       cases e2
      exact h.elim
     exact h.elim
    exact h.elim
   split at h
   ·rename_i c N
    split at h
    ·rename_i V
     simp only[ab,cO]at V;obtain⟨⟨c1,c2⟩,c3⟩:=V;have:=hex _ _ _ _ _ _ _ hθ h;rw[gP0]at this;refine ae0.inline (n:=n) hT ho hop hw M O (hF f fn hfn) c2 N (by rw[m,aD];exact aU c1) ?_;rw[m];refine BWp.mono this ?_;rintro e s' ⟨e',b,S1,fr1,A1,rfl,hfr,f1,t,b1,rfl,hl⟩;have k:s.sub b=s.sub θ:=AS.sub_agree t c3;have fin:∀ v,C8 T fn S1=some v->E3 T Φ Q (kk ({ s with st:=S1.st }.put o.dst v) fr1) b A1->∃ v,C8 T fn (S1.sub b)=some v/\ae0 P ops n0 n Qs rest ({ s.sub θ with st:=(S1.sub b).st }.put o.dst v):=fun v hv hl=>by refine⟨v.sub b,cG0 hv,?_⟩;have:=hk _ _ _ _ hfr f1 t b1 hl;rw[AS.sub_put,k]at this;exact this
     cases e' with
     | exi j=>exact hl.elim
     | nor=>
      simp only at hl;split at hl
      ·rename_i v hv;exact⟨.inl rfl,fin v hv hl⟩
      exact hl.elim
     | ret=>
      simp only at hl;split at hl
      ·rename_i v hv;exact⟨.inr rfl,fin v hv hl⟩
      exact hl.elim
    exact h.elim
   exact h.elim
  exact h.elim
 split at h
 ·rename_i v σ' ha
  have C:=st0 hθ (sm0 ha);have e:(fun x=>(s.eval x).sub θ)=(s.sub θ).eval:=(AS.sub_evalF θ s).symm;rw[e]at C;refine ae0.plain hT ho hi hw M C ?_;have:=hk _ _ _ _ (ax _) hθ (fun _ _=>rfl) (fun _ _=>rfl) h;rw[AS.sub_put]at this;exact this
 split at h
 ·rename_i ro pat v σ' S hr
  split at h
  ·rename_i g
   rw[ab]at g;obtain⟨d,t,f1,e1,hl⟩:=h;have C:=nI0 (T:=T) (Φ:=Φ) t g.1 hθ hr e1;have k:s.sub d=s.sub θ:=AS.sub_agree t g.1;have hst:s.st.sub d=(s.sub θ).st:=by rw[<- k];rfl
   rw[k,hst]at C;refine ae0.plain hT ho hi hw M C ?_;have:=hk _ _ _ _ (aU g.2) f1 t (fun _ _=>rfl) hl;rw[AS.sub_put,k]at this;exact this
  exact h.elim
 split at h
 ·rename_i ro s' hst
  split at h
  ·rename_i g
   obtain⟨d,t,f1,e1,hl⟩:=h;obtain⟨σ2,C,hs'⟩:=sh0 (T:=T) (Φ:=Φ) t g hst e1;have k:s.sub d=s.sub θ:=AS.sub_agree t g;have hst2:s.st.sub d=(s.sub θ).st:=by rw[<- k];rfl
   rw[k,hst2]at C;refine ae0.plain hT ho hi hw M (C _) ?_;have:=hk _ _ _ _ (kW _) f1 t (fun _ _=>rfl) hl;have e2:(s'.put o.dst (.sc undef)).sub d=({ s.sub θ with st:=σ2 }.put o.dst (.sc undef)):=by have e4:=AS.sub_put d s' s'.st o.dst (.sc undef);rw[I0]at e4;have e5:({ s'.sub d with st:=s'.st.sub d }:AS)=s'.sub d:=rfl;rw[e5,hs',k]at e4;exact e4
   rw[e2]at this;exact this
  exact h.elim
 exact h.elim
include hT hΦ hF in
theorem rR0{ex:Exe}(hex:ExOk P T Φ Q ex){ops:Array Oper}{n0 n i:Nat}{rest:List Nat}{o:Oper}(v:ops[i]?=some o)(hi:i∉rest){C:AS->Prop}:∀ (m:Nat) {s:AS} {fr:Nat} {t:KS} {θ:Nat->AV} {A:Nat->List AV->Prop} (d:Fit θ)
  (hw:D0 ops (s.sub θ) o=some true) (p:P1 s.n o.dst=true)
  (hk:∀ s' e b u,fr<=e->Fit b->(∀ j,j<fr->b j=θ j)->(∀ l,l<fr->u l=A l)->E3 T Φ Q (t s' e) b u->ae0 P ops n0 n C rest (AS.sub b s'))
  (h:E3 T Φ Q (sFz T Φ F ex ops (n0+i) o fr t m s) θ A),ae0 P ops n0 n C (i::rest) (s.sub θ)
 | 0,s,fr,t,θ,A,d,hw,p,hk,h=>qK0 hT hΦ hF hex v hi d hw p hk h
 | m+1,s,fr,t,θ,A,d,hw,p,hk,h=>by
  unfold sFz at h;split at h
  ·rename_i a x c
   have g:s.st.objs a=some x:=by
    unfold frzOf at c;split at c
    ·split at c
     ·rename_i D;cases c;exact D
     cases c
    cases c
   split at h
   ·rename_i q
    split at h
    ·rename_i w
     obtain⟨r,z,f1,e1,hl⟩:=h;simp only[j9]at e1;split at e1
     ·rename_i k
      have B:s.sub r=s.sub θ:=AS.sub_agree z q;rw[<- B];refine ae0.freeze f1 g (js0 q g z k) ?_;exact rR0 hex v hi m f1 (aA0 r w) p (fun s' e b u q1 q2 q3 q4 q5=>hk s' e b u q1 q2 (fun j hj=>(q3 j hj).trans (z j hj)) q4 q5) hl
     cases e1
    exact h.elim
   exact h.elim
  exact qK0 hT hΦ hF hex v hi d hw p hk h
include hT in
theorem qC0{G:j4}{σ:j3}{w:World}(h:Rel G σ w){t:TypeId}{id:Nat}(hid:G.pl id=none)(a:id<σ.next){c:Nat}{z:Value}{d:Nat}{e:Option Nat}(g:T t=some ⟨.string,c,z,d,e⟩){b:ByteArray}{u:Value}(i:Rep G (.sc (.string b)) u) :
  H3 G σ w (σ.set id (.siter b 0)) id (.it id) ((jH t u).run P w):=by
 cases i;simp only[jH,ao,A8 hT g,ae,au,run_newObj];let q:Pl:={ block:=w.heap.size,size:=1,cap:=1 };have j:=h.push (.stringIter b 0) id hid a q rfl rfl (.siter b 0) rfl;exact H3.place (p:=q) hid (.it id q (j4.place_same _ _ _)) j (Fr.push _ id hid q (fun _=>rfl) _ w.drawn)
theorem nP0{G:j4}{σ:j3}{w:World}(h:Rel G σ w){id a:Nat}{b:ByteArray}{pos:Nat}(g:σ.objs a=some (.siter b pos)){ty:TypeId}{u:Value}(m:Rep G (.it a) u) :
  (pos<b.size->H3 G σ w (σ.set a (.siter b (pos+(bV b pos).2))) id (.tup [.sc (.bool true),.sc (.int .i64 pos),.sc (.int .i32 (bV b pos).1)]) ((fV u true ty).run P w)) /\
  (¬ pos<b.size->H3 G σ w σ id (.tup [.sc (.bool false)]) ((fV u true ty).run P w)):=by
 cases m with
 | it _ p hp=>
 have hv:p.virt=false:=by
  rcases h.lies g hp with ⟨_,_,_,e2⟩ | ⟨e2,_⟩
  ·cases e2
  exact e2
 obtain⟨_,_,d⟩:=h.real g hp hv;have j:w.heap[p.block]?=some (.stringIter b pos):=d;have L2:(getObj p.block).run P w=.ok (.stringIter b pos) w:=by simp[getObj,Sem.run,j]
 have e:∀ o,(setObj p.block o).run P w=.ok () (C5 w p.block o):=fun o=>ao0 j (by intro _ _ _ h;cases h);constructor
 ·intro c
  refine⟨G,.tuple #[.bool true,.int .i64 pos,.int .i32 (bV b pos).1],C5 w p.block (.stringIter b (pos+(bV b pos).2)),.refl G,fun _ _ h=>h,?_,?_,?_,?_⟩
  ·simp only[fV,ao,L2,ae,c,Al,e,au]
   rfl
  ·exact .tup _ _ rfl (fun i hi l=>by
    match i,hi with
    | 0,_=>exact .sc _
    | 1,_=>exact .sc _
    | 2,_=>exact .sc _)
  ·exact h.write g hp hv _ _ rfl rfl rfl (B5 _ _ _) (fun k hk=>A6 _ _ _ _ hk) (I6 _ _ _ _ j) rfl
  exact Fr.write g hp hv _ (B5 _ _ _) (fun k hk=>A6 _ _ _ _ hk)
 intro c;refine⟨G,.tuple #[.bool false],w,.refl G,fun _ _ h=>h,?_,.tup _ _ rfl (fun i hi l=>?_),h,.refl _ _ _⟩
 ·simp only[fV,ao,L2,ae,c,Ah,au]
 have:i=0:=by simp at hi;omega
 subst this;exact .sc _
theorem ae0.step{ops:Array Oper}{n0 n i:Nat}{rest:List Nat}{o:Oper}{s:AS}{Q:AS->Prop}{v:AV}{σ':j3}(q:ops[i]?=some o)(hi:i∉rest)(hw:D0 ops s o=some true)(r:P1 s.n o.dst=true)(t:σ'.next=s.st.next)
  (ha:∀ (G:j4) (w:World) (ev:Operand->Value),Rel G s.st w->(∀ x,Rep G (s.eval x) (ev x))->G.pl (n0+i)=none->n0+i<s.st.next->aa0 G s.st w σ' (n0+i) v ((execOp ev o).run P w)) (h:ae0 P ops n0 n Q rest ({ s with st:=σ' }.put o.dst v)):ae0 P ops n0 n Q (i::rest) s:=by
 intro G a w d hf N g;have z:i<ops.size:=(Array.getElem?_eq_some_iff.1 q).1;simp only[wpOps,q,K3 d hw,Al];left;obtain⟨G',u,w',h1,h2,c,B,C,l⟩:=ha G w a.eval d.rel d.eval (hf i (by simp)).2 (by omega);have m:∀ j∈rest,n0+j≠n0+i:=fun j hj e=>hi (by have D:j=i:=Nat.add_left_cancel e;rw[<- D];exact hj);have key:=h G' (a.put o.dst u) w' (d.put h1 C B r) (fun j hj=>⟨(hf j (by simp[hj])).1,h2 _ (m j hj) (hf j (by simp[hj])).2⟩) (by simp;omega) g;have E:S8 n G s.st w G' σ' w':=⟨h1.w0,h1.imm,fun k hk=>by
  cases hp:G.pl k with
  | none=>exact h2 k (by omega) hp
  | some p=>exact h1.pl k p hp,by omega,l⟩
 have b:=B3 (P:=P) (ops:=ops) (Q':=fun e a' w'=>e=.normal/\∃ s' G',S8 n G s.st w G' s'.st w'/\W6 G' s' a' w'/\Q s') (fun e a' w' ⟨e1,s',H,I,J,K⟩ =>
  ⟨e1,s',H,E.trans (by simpa using I) (ax _),J,K⟩) rest _ _ key
 unfold Oper.wp;rcases c with c | ⟨c,M⟩
 ·rw[c];exact b
 rw[c];subst M;exact b
include hT hΦ hF in
theorem tY0{ex:Exe}(hex:ExOk P T Φ Q ex){ops:Array Oper}{n0 n i:Nat}{rest:List Nat}{o:Oper}(K:ops[i]?=some o)(hi:i∉rest){Z:AS->Prop}{s:AS}{fr:Nat}{kk:KS}{θ:Nat->AV}{A:Nat->List AV->Prop}(M:Fit θ)
  (hw:D0 ops (s.sub θ) o=some true) (U:P1 s.n o.dst=true)
  (hk:∀ s' N k A',fr<=N->Fit k->(∀ j,j<fr->k j=θ j)->(∀ l,l<fr->A' l=A l)->E3 T Φ Q (kk s' N) k A'->ae0 P ops n0 n Z rest (AS.sub k s'))
  (h:E3 T Φ Q (sIt T Φ F ex ops (n0+i) o fr kk s) θ A):ae0 P ops n0 n Z (i::rest) (s.sub θ):=by
 have E:P1 (s.sub θ).n o.dst=true:=U;unfold sIt at h;split at h
 ·rename_i t x m
  split at h
  ·rename_i sz z bt fl ht
   split at h
   ·rename_i j hj
    split at h
    ·rename_i d
     obtain⟨c,q,f1,e1,hl⟩:=h;have r:s.sub c=s.sub θ:=AS.sub_agree q d;simp only[j9]at e1;split at e1
     ·rename_i b H
      rw[u9]at H;have O:j<fr:=by have:=s.bnd_eval d x;rw[hj]at this;simpa[AV.bnd,aZ]using this
      have hst:s.st.sub c=(s.sub θ).st:=by rw[<- r];rfl
      refine ae0.step (σ':=(s.sub θ).st.set (n0+i) (.siter b 0)) (v:=.it (n0+i)) K hi hw E rfl (fun G w ev R e I J=>?_) ?_
      ·have C:=e x
       rw[AS.sub_eval,hj,u9,H]at C;simp only[execOp,m];exact aa0.of (qC0 hT R I J ht C)
      have:=hk _ _ _ _ (ax _) f1 q (fun _ _=>rfl) hl;rw[AS.sub_put,r,j3.sub_set,hst]at this;have e2:(l6.xiter (.sy j) (.sc (.int .i64 0))).sub c=.siter b 0:=by simp only[l6.sub,u9,I0,q j O,H,MI0,Y8];rfl
      rw[e2]at this;exact this
     cases e1
    exact h.elim
   exact h.elim
  exact rR0 hT hΦ hF hex K hi 3 M hw U hk h
 ·rename_i it m
  split at h
  ·rename_i a ha
   split at h
   ·rename_i st p D
    split at h
    ·rename_i d
     obtain⟨c,q,f1,e1,hl⟩:=h;have r:s.sub c=s.sub θ:=AS.sub_agree q d;have u:=s.bnd_obj d D;simp only[l6.bnd,ab]at u;simp only[j9]at e1;split at e1
     ·rename_i b H
      split at e1
      ·rename_i n hn
       simp only[ah,u9]at e1;have g:(s.sub θ).st.objs a=some (.siter b n.toNat):=by rw[AS.sub_st,j3.sub_objs,D];simp only[ak,l6.sub,H,hn,MI0,Y8]
       rcases hl with ⟨t1,hl⟩ | ⟨t1,hl⟩
       ·
        rw[<- e1]at t1;simp only[AV.sc.injEq,iz,Ad]at t1;obtain⟨B,a2,f2,e2,hl⟩:=hl;have V:st.sub c=.sc (.string b):=by rw[sub_agree q st u.1,H]
        have Y:p.sub c=.sc (.int .i64 n):=by rw[sub_agree q p u.2,hn]
        simp only[j9,V,Y,Ao t1,ah,kt0,az,cB,u9,AV.tup.injEq,cG,and_true]at e2;obtain⟨q1,q2,q3⟩:=e2;have a12:∀ j,j<fr->B j=θ j:=fun j hj=>(a2 j (by omega)).trans (q j hj);have S:s.sub B=s.sub θ:=AS.sub_agree a12 d;have hst:s.st.sub B=(s.sub θ).st:=by rw[<- S];rfl
        refine ae0.step (σ':=(s.sub θ).st.set a (.siter b (n.toNat+(bV b n.toNat).2))) (v:=.tup [.sc (.bool true),.sc (.int .i64 n.toNat),.sc (.int .i32 (bV b n.toNat).1)]) K hi hw E rfl (fun G w ev R e I J=>?_) ?_
        ·have C:=e it
         rw[AS.sub_eval,ha,ry0]at C;simp only[execOp,m];exact aa0.of ((nP0 R g C).1 t1)
        have:=hk _ _ _ _ (show fr<=fr+4 by omega) f2 a12 (fun _ _=>rfl) hl;rw[AS.sub_put,S,j3.sub_set,hst]at this;have e3:(l6.xiter st (.sy (fr+3))).sub B=.siter b (n.toNat+(bV b n.toNat).2):=by simp only[l6.sub,u9,sub_agree a12 st u.1,H,MI0,<-q3,Y8];rfl
        rw[e3]at this;simp only[kt0,az,cB,I0,u9,<-q1,<-q2]at this;exact this
       
       rw[<- e1]at t1;simp only[AV.sc.injEq,iz,An]at t1;refine ae0.step (σ':=(s.sub θ).st) (v:=.tup [.sc (.bool false)]) K hi hw E rfl (fun G w ev R e I J=>?_) ?_
       ·have C:=e it
        rw[AS.sub_eval,ha,ry0]at C;simp only[execOp,m];exact aa0.of ((nP0 R g C).2 t1)
       have:=hk _ _ _ _ (show fr<=fr+1 by omega) f1 q (fun _ _=>rfl) hl;have e3:=AS.sub_put c s s.st o.dst (.tup [.sc (.bool false)]);have e4:({ s with st:=s.st }:AS)=s:=rfl;rw[e4]at e3;rw[e3]at this;have e5:({ s.sub c with st:=s.st.sub c }:AS)=s.sub c:=rfl;rw[e5,r]at this;rw[kt0,az,cB,I0]at this;exact this
      cases e1
     cases e1
    exact h.elim
   exact h.elim
  exact h.elim
 exact rR0 hT hΦ hF hex K hi 3 M hw U hk h
include hT hΦ hF in
theorem mC0{ex:Exe}(hex:ExOk P T Φ Q ex){ops:Array Oper}{n0 n:Nat}:∀ (l:List Oper) (i:Nat) (s:AS) (fr:Nat) (k:KS) (θ:Nat->AV) (A:Nat->List AV->Prop),(∀ j:Nat,l[j]?=ops[i+j]?)->i+l.length=ops.size->Fit θ ->
  E3 T Φ Q (qw0 T Φ F ex ops n0 l i s fr k) θ A->ae0 P ops n0 n (vu0 T Φ Q fr θ A k) (dx i l.length) (s.sub θ)
 | [],i,s,fr,k,θ,A,_,_,c,h=>ae0.nil ⟨θ,s,fr,A,ax _,c,fun _ _=>rfl,fun _ _=>rfl,rfl,h⟩
 | o::rest,i,s,fr,k,θ,A,hl,hlen,c,h=>by
  have C:ops[i]?=some o:=by have:=hl 0;simpa using this.symm
  have H:∀ j:Nat,rest[j]?=ops[i+1+j]?:=fun j=>by have:=hl (j+1);simpa[dq,gr 1 j]using this
  have v:i+1+rest.length=ops.size:=by simp at hlen;omega
  have t:i∉dx (i+1) rest.length:=by simp[List.mem_range'_1];omega
  simp only[ay,List.range'_succ];have D:=fun s' g m I (J:fr<=g) (K:Fit m) (ha:∀ j,j<fr->m j=θ j) (V:∀ l,l<fr->I l=A l) (r:E3 T Φ Q (qw0 T Φ F ex ops n0 rest (i+1) s' g k) m I)=>
   (show ae0 P ops n0 n (vu0 T Φ Q fr θ A k) (dx (i+1) rest.length) (AS.sub m s')from by
    have h1:=mC0 (n:=n) hex rest (i+1) s' g k m I H v K r;intro G a w g1 g2 g3 g4;refine B3 ?_ _ _ _ (h1 G a w g1 g2 g3 g4);rintro e a' w' ⟨e1,s2,Y,Z,b2,M,S2,N,A2,q1,q2,q3,q4,q5,q6⟩;exact⟨e1,s2,Y,Z,b2,M,S2,N,A2,bC J q1,q2,fun j hj=>(q3 j (by omega)).trans (ha j hj),fun l hl=>(q4 l (by omega)).trans (V l hl),q5,q6⟩)
  unfold qw0 at h;split at h
  ·exact h.elim
  rename_i E;split at h
  ·rename_i hw
   exact tY0 hT hΦ hF hex C t c (aA0 θ hw) E D h
  ·rename_i hw
   refine ae0.skip C (aA0 θ hw) E ?_;have:=D _ _ _ _ (ax _) c (fun _ _=>rfl) (fun _ _=>rfl) h;have e3:=AS.sub_put θ s s.st o.dst (.sc undef);have e4:({ s with st:=s.st }:AS)=s:=rfl;have e5:({ s.sub θ with st:=s.st.sub θ }:AS)=s.sub θ:=rfl;rw[e4,e5,I0]at e3;rw[e3]at this;exact this
  rename_i hw;split at h
  ·rename_i j want q
   have x:∀ b,θ j=.sc (.bool b)->D0 ops (s.sub θ) o=some (b==want):=fun b u=>by
    unfold gs0 at q;unfold D0;split at q
    ·cases q
    rename_i j' w' O;rw[O];simp only;split at q
    ·rename_i d R
     rw[R];simp only;split at q
     ·rename_i B
      rw[aZ]at B;rw[AS.sub_n,Af B,AS.sub_get];split at q
      ·rename_i i' S
       cases q;rw[S,u9,u]
      cases q
     cases q
    cases q
   have both:∀ b:Bool,θ j=.sc (.bool b)->E3 T Φ Q (match b==want with
     | true=>sIt T Φ F ex ops (n0+i) o fr (fun s' g=>qw0 T Φ F ex ops n0 rest (i+1) s' g k) (s.ssub (aO0 j b))
     | false=>qw0 T Φ F ex ops n0 rest (i+1) ((s.ssub (aO0 j b)).put o.dst (.sc undef)) fr k) θ A->ae0 P ops n0 n (vu0 T Φ Q fr θ A k) (i::dx (i+1) rest.length) (s.sub θ):=fun b u r=>by
    have U:=ef0 (θ:=θ) (j:=j) (b:=b) u s;have p:=x b u;rw[<- U]at p ⊢;split at r
    ·rename_i z
     rw[z]at p;exact tY0 hT hΦ hF hex C t c p E D r
    rename_i z;rw[z]at p;refine ae0.skip C p E ?_;have:=D _ _ _ _ (ax _) c (fun _ _=>rfl) (fun _ _=>rfl) r;have e3:=AS.sub_put θ (s.ssub (aO0 j b)) (s.ssub (aO0 j b)).st o.dst (.sc undef);have e4:({ s.ssub (aO0 j b)with st:=(s.ssub (aO0 j b)).st }:AS)=s.ssub (aO0 j b):=rfl;have e5:({ (s.ssub (aO0 j b)).sub θ with st:=(s.ssub (aO0 j b)).st.sub θ }:AS)=(s.ssub (aO0 j b)).sub θ:=rfl;rw[e4,e5,I0]at e3;rw[e3]at this;exact this
   rcases h with ⟨u,r⟩ | ⟨u,r⟩
   ·exact both true u r
   exact both false u r
  exact h.elim
theorem BWp.convEnd'{n:Nat}{c:Code}{Q':Exit->AS->Prop}{s:AS}(h:BWp P n c (fun e s1=>(∃ ι s2,Ren ι n s2 s1/\Q' e s2)\/Q' e s1) s):BWp P n c Q' s:=by
 intro i G a w j;refine wp_mono (h i G a w j) ?_;rintro e a' w' ⟨s1,k,d,g,⟨ι,s2,l,b⟩ | b⟩
 ·obtain⟨h1,h2⟩:=l.rel g
  exact⟨s2,_,d.trans h2 (ax _),h1,b⟩
 exact⟨s1,k,d,g,b⟩
theorem he0(θ:Nat->AV)(σ:j3):∀ (is:List Nat) (t:j3),(cL0 σ is t).sub θ=cL0 (σ.sub θ) is (t.sub θ)
 | [],t=>rfl
 | i::is,t=>by
  simp only[cL0];rw[he0 θ σ is,j3.sub_objs];cases σ.objs i with
  | none=>rfl
  | some o=>simp only[ak];rw[j3.sub_set]
theorem lk0(θ:Nat->AV)(σ:j3)(ids:List Nat):(small σ ids).sub θ=small (σ.sub θ) ids:=he0 θ σ ids _
theorem bq0(θ:Nat->AV)(σ1:j3):∀ (is:List Nat) (σ:j3),(S7 σ1 is σ).sub θ=S7 (σ1.sub θ) is (σ.sub θ)
 | [],σ=>rfl
 | i::is,σ=>by
  simp only[S7];rw[bq0 θ σ1 is,j3.sub_objs];cases σ1.objs i with
  | none=>simp only[cC];rw[j3.sub_del]
  | some o=>simp only[ak];rw[j3.sub_set]
theorem rK0(θ:Nat->AV)(σ:j3)(ids:List Nat):saved (σ.sub θ) ids=(saved σ ids).map fun p=>(p.1,p.2.sub θ):=by unfold saved;rw[List.map_filterMap];congr 1;funext id;rw[j3.sub_objs];cases σ.objs id<;>rfl
theorem je0(θ:Nat->AV):∀ (l:List (Nat×l6)) (σ:j3),(S0 l σ).sub θ=S0 (l.map fun p=>(p.1,p.2.sub θ)) (σ.sub θ)
 | [],σ=>rfl
 | p::l,σ=>by simp only[S0,az];rw[je0 θ l,j3.sub_del]
theorem iV0(θ:Nat->AV):∀ (l:List (Nat×l6)) (σ:j3),(Z8 l σ).sub θ=Z8 (l.map fun p=>(p.1,p.2.sub θ)) (σ.sub θ)
 | [],σ=>rfl
 | p::l,σ=>by simp only[Z8,az];rw[iV0 θ l,j3.sub_set]
theorem mY0(θ:Nat->AV)(σ:j3)(ids:List Nat):(hb0 σ ids).sub θ=hb0 (σ.sub θ) ids:=by unfold hb0;rw[rK0];have a:=iV0 θ (saved σ ids) { S0 (saved σ ids) σ with low:=σ.next };have b:=je0 θ (saved σ ids) σ;have c:j3.sub θ { S0 (saved σ ids) σ with low:=σ.next }={ j3.sub θ (S0 (saved σ ids) σ)with low:=σ.next }:=rfl;have d:∀ (x:j3) (l:Nat),j3.sub θ { x with low:=l }={ j3.sub θ x with low:=l }:=fun _ _=>rfl;rw[d,a,c,b];rfl
theorem or0{θ:Nat->AV}(a:Fit θ)(v:AV):(v.sub θ).ids0=v.ids0:=by
 cases v with
 | sy i=>simpa[AV.ids0]using(a i).ids0
 | _=>simp[AV.ids0]
theorem oh0{θ:Nat->AV}(a:Fit θ)(s:AS)(op:Op):bQ0 (s.sub θ).eval op=bQ0 s.eval op:=by
 cases op with
 | call c=>obtain⟨callee,args,ts⟩:=c;cases callee<;>simp[bQ0,AS.sub_eval,or0 a]
 | _=>simp[bQ0,AS.sub_eval,or0 a]
def bE0(Φ:H7)(f:FuncId)(args:List AV)(σ:j3):Option (AV×j3):=match Φ.fn f with
 | some φ=>match φ args with
  | some c=>some (c,σ)
  | none=>none
 | none=>none
theorem oe0{ops:Array Oper}{n0 N mask i:Nat}{bar:Bool}{o:Oper}(M:bar=true->fQ0 o.op=true){s:AS}{fr:Nat}{O:KD}{θ:Nat->AV}{A:Nat->List AV->Prop}(q:Fit θ)(hw:D0 ops (s.sub θ) o=some true)(V:P1 s.n o.dst=true)
  (h:E3 T Φ Q (qc0 T Φ F n0 N mask i bar o s fr O) θ A):∃ a R d f,fr<=d/\Fit a/\(∀ j,j<fr->a j=θ j)/\eJ0 T (bE0 Φ) ops n0 N mask i bar (s.sub θ) o=some (AS.sub a R,f)/\E3 T Φ Q (O R d f) a A:=by
 have w:P1 (s.sub θ).n o.dst=true:=V;unfold qc0 at h;split at h
 ·rename_i Y args ts z
  split at h
  ·rename_i f first cap H
   have t:(s.sub θ).eval Y=.fn (.func f) (first.map (AV.sub θ)) (cap.map (AV.sub θ)):=by rw[AS.sub_eval,H,qs0]
   have g:first.map (AV.sub θ)++args.toList.map (s.sub θ).eval++cap.map (AV.sub θ)=(first++args.toList.map s.eval++cap).map (AV.sub θ):=by simp only[dL,cY];congr 2;apply bo;intro x _;exact AS.sub_eval θ s x
   unfold un0 at h;split at h
   ·rename_i fn φ Z B
    split at h
    ·rename_i pat d S
     split at h
     ·rename_i k
      simp only[ab]at k;obtain⟨⟨c1,c2⟩,c3⟩:=k;obtain⟨a,u,f1,e1,hl⟩:=h;simp only[j9,(H7.fn_eq B).2]at e1;split at e1
      ·rename_i c hc
       split at e1
       ·simp only[ah]at e1
        have r:s.sub a=s.sub θ:=AS.sub_agree u c1;have C:s.st.sub a=s.st.sub θ:=j3.sub_agree u c1;have D:∀ σ,bE0 Φ f ((first++args.toList.map s.eval++cap).map (AV.sub θ)) σ=some (c,σ):=fun σ=>by simp only[bE0,B,hc]
        cases bar with
        | true=>simp only at hl;refine⟨a,s.put o.dst pat,d,_,aU c2,f1,u,?_,hl⟩;unfold eJ0;rw[hw,w];simp only[z,t,Al];rw[g,D];simp only[ax,Al];have e3:=AS.sub_put a s s.st o.dst pat;have e4:({ s with st:=s.st }:AS)=s:=rfl;have e5:({ s.sub a with st:=s.st.sub a }:AS)=s.sub a:=rfl;rw[e4,e5,r,<-e1]at e3;rw[e3]
        | false=>simp only at hl;refine⟨a,_,d,_,aU c2,f1,u,?_,hl⟩;unfold eJ0;rw[hw,w];simp only[z,t,aq,Ah];rw[g,D];show (if _ then some ({ s.sub θ with st:=hb0 (s.sub θ).st (Y3 n0 N mask) }.put o.dst c,(⟨[],[],true,(s.sub θ).st.next,false⟩:Inf))else none)=_;rw[Af ⟨ax _,by rw[show ∀ (x:j3) (l:Nat),({ x with low:=l }:j3).next=x.next from fun _ _=>rfl,dZ0];exact ax _⟩];rw[AS.sub_put,<-e1,mY0,C,r];rfl
       cases e1
      cases e1
     exact h.elim
    exact h.elim
   exact h.elim
  exact h.elim
 rename_i G;have m:∀ (b:Nat->AV) (v:AV) (σ1:j3),aop T (s.sub b).eval (small (s.st.sub b) (bQ0 (s.sub b).eval o.op)) (n0+i) o.op=some (v,σ1)->s.sub b=s.sub θ ->
   eJ0 T (bE0 Φ) ops n0 N mask i bar (s.sub θ) o=some ({ s.sub b with st:=(match σ1.objs (n0+i)with
    | some x=>(if isE o.op then S7 σ1 (bQ0 (s.sub b).eval o.op) (s.st.sub b)else (s.st.sub b)).set (n0+i) x
    | none=>(if isE o.op then S7 σ1 (bQ0 (s.sub b).eval o.op) (s.st.sub b)else (s.st.sub b))) }.put o.dst v,⟨bQ0 (s.sub b).eval o.op,if isE o.op then bQ0 (s.sub b).eval o.op else [],false,0,false⟩):=fun b v σ1 ha hs=>by
  have hst:s.st.sub b=(s.sub θ).st:=by rw[<- hs];rfl
  rw[hst,hs]at ha ⊢;unfold eJ0;rw[hw,w];simp only;rw[ha];rfl
 split at h
 ·rename_i v σ1 ha
  have E:=st0 q (sm0 ha);have e:(fun x=>(s.eval x).sub θ)=(s.sub θ).eval:=(AS.sub_evalF θ s).symm;rw[e,lk0]at E;have p:=oh0 q s o.op;refine⟨θ,_,fr,_,ax _,q,fun _ _=>rfl,?_,h⟩;have:=m θ (v.sub θ) (σ1.sub θ) (by rw[p];exact E) rfl;rw[this,p,AS.sub_put];congr 3;rw[j3.sub_objs];cases σ1.objs (n0+i)with
  | none=>
   simp only[cC];split
   ·rw[bq0]
   rfl
  | some x=>
   simp only[ak];rw[j3.sub_set];split
   ·rw[bq0]
   rfl
 split at h
 ·rename_i ro pat v σ1 d hr
  split at h
  ·rename_i k
   simp only[ab]at k;obtain⟨⟨I,J⟩,K⟩:=k;obtain⟨a,u,f1,e1,hl⟩:=h;have r:s.sub a=s.sub θ:=AS.sub_agree u I;have U:=nI0 (T:=T) (Φ:=Φ) (s:={ s with st:=small s.st (bQ0 s.eval o.op) }) u J q hr e1;have e0:(({ s with st:=small s.st (bQ0 s.eval o.op) }:AS).sub a).eval=(s.sub a).eval:=by funext x;rw[AS.sub_eval,AS.sub_eval];cases x<;>rfl
   have p:=oh0 f1 s o.op;rw[e0,lk0]at U;have:=m a (v.sub a) (σ1.sub a) (by rw[p];exact U) r;refine⟨a,_,d,_,aU K,f1,u,?_,hl⟩;rw[this,p,AS.sub_put];congr 3;rw[j3.sub_objs];cases σ1.objs (n0+i)with
   | none=>
    simp only[cC];split
    ·rw[bq0]
    rfl
   | some x=>
    simp only[ak];rw[j3.sub_set];split
    ·rw[bq0]
    rfl
  exact h.elim
 exact h.elim
theorem km0{ops:Array Oper}{n0 N:Nat}{a:List Nat}:∀ (l:List Oper) (i:Nat) (s:AS) (fr:Nat) (acc:List Inf) (k:AS->Nat->List Inf->RT) (θ:Nat->AV) (A:Nat->List AV->Prop),Fit θ ->
  E3 T Φ Q (hR0 T Φ F ops n0 N a l i s fr acc k) θ A->∃ c u e fs,fr<=e/\Fit c/\(∀ j,j<fr->c j=θ j)/\pX0 T (bE0 Φ) ops n0 N a l i (s.sub θ)=some (AS.sub c u,fs)/\E3 T Φ Q (k u e (acc++fs)) c A
 | [],i,s,fr,acc,k,θ,A,q,h=>⟨θ,s,fr,[],ax _,q,fun _ _=>rfl,rfl,by rw[List.append_nil];exact h⟩
 | o::rest,i,s,fr,acc,k,θ,A,q,h=>by
  have fin:∀ (s1:AS) (g:Nat->AV) (m:Nat) (f:Inf),fr<=m->Fit g->(∀ j,j<fr->g j=θ j)->eJ0 T (bE0 Φ) ops n0 N (a.getD i 0) i (fQ0 o.op&&oX0 ops a i) (s.sub θ) o=some (AS.sub g s1,f) ->
    E3 T Φ Q (hR0 T Φ F ops n0 N a rest (i+1) s1 m (acc++[f]) k) g A->∃ c u e fs,fr<=e/\Fit c/\(∀ j,j<fr->c j=θ j)/\pX0 T (bE0 Φ) ops n0 N a (o::rest) i (s.sub θ)=some (AS.sub c u,fs)/\E3 T Φ Q (k u e (acc++fs)) c A:=by
   intro s1 g m f D E G hst hl;obtain⟨H,S,I,fs,g1,g2,g3,g4,g5⟩:=km0 rest (i+1) s1 m (acc++[f]) k g A E hl;refine⟨H,S,I,f::fs,bC D g1,g2,fun j hj=>(g3 j (by omega)).trans (G j hj),?_,by simpa using g5⟩;simp only[pX0,hst,g4]
  have skip:∀ s0:AS,s0.sub θ=s.sub θ->s0.n=s.n->D0 ops (s.sub θ) o=some false->P1 s.n o.dst=true->eJ0 T (bE0 Φ) ops n0 N (a.getD i 0) i (fQ0 o.op&&oX0 ops a i) (s.sub θ) o=some (AS.sub θ (s0.put o.dst (.sc undef)),⟨[],[],false,0,false⟩):=fun s0 U _ hw B=>by have J:P1 (s.sub θ).n o.dst=true:=B;unfold eJ0;rw[hw,J];have e3:=AS.sub_put θ s0 s0.st o.dst (.sc undef);have e4:({ s0 with st:=s0.st }:AS)=s0:=rfl;have e5:({ s0.sub θ with st:=s0.st.sub θ }:AS)=s0.sub θ:=rfl;rw[e4,e5,I0,U]at e3;rw[e3]
  unfold hR0 at h;split at h
  ·exact h.elim
  rename_i B;split at h
  ·rename_i hw
   obtain⟨g,K,m,f,g1,g2,g3,g4,g5⟩:=oe0 (T:=T) (Φ:=Φ) (F:=F) (ops:=ops) (fun p=>by rw[ab]at p;exact p.1) q (aA0 θ hw) B h;exact fin K g m f g1 g2 g3 g4 g5
  ·rename_i hw
   exact fin _ θ fr _ (ax _) q (fun _ _=>rfl) (skip s rfl rfl (aA0 θ hw) B) h
  rename_i hw;split at h
  ·rename_i j want t
   have v:∀ b,θ j=.sc (.bool b)->D0 ops (s.sub θ) o=some (b==want):=fun b p=>by
    unfold gs0 at t;unfold D0;split at t
    ·cases t
    rename_i V w' M;rw[M];simp only;split at t
    ·rename_i d O
     rw[O];simp only;split at t
     ·rename_i C
      rw[aZ]at C;rw[AS.sub_n,Af C,AS.sub_get];split at t
      ·rename_i Y R
       cases t;rw[R,u9,p]
      cases t
     cases t
    cases t
   have both:∀ b:Bool,θ j=.sc (.bool b)->E3 T Φ Q (match b==want with
     | true=>qc0 T Φ F n0 N (a.getD i 0) i (fQ0 o.op&&oX0 ops a i) o (s.ssub (aO0 j b)) fr fun s' e f=>hR0 T Φ F ops n0 N a rest (i+1) s' e (acc++[f]) k
     | false=>hR0 T Φ F ops n0 N a rest (i+1) ((s.ssub (aO0 j b)).put o.dst (.sc undef)) fr (acc++[⟨[],[],false,0,false⟩]) k) θ A->∃ c u e fs,fr<=e/\Fit c/\(∀ j,j<fr->c j=θ j)/\pX0 T (bE0 Φ) ops n0 N a (o::rest) i (s.sub θ)=some (AS.sub c u,fs)/\E3 T Φ Q (k u e (acc++fs)) c A:=fun b p w=>by
    have x:=ef0 (θ:=θ) (j:=j) (b:=b) p s;have r:=v b p;split at w
    ·rename_i z
     rw[z]at r;rw[<- x]at r;obtain⟨g,K,m,f,g1,g2,g3,g4,g5⟩:=oe0 (T:=T) (Φ:=Φ) (F:=F) (ops:=ops) (fun p=>by rw[ab]at p;exact p.1) q r B w;rw[x]at g4;exact fin K g m f g1 g2 g3 g4 g5
    rename_i z;rw[z]at r;exact fin _ θ fr _ (ax _) q (fun _ _=>rfl) (skip _ x rfl r B) w
   rcases h with ⟨p,w⟩ | ⟨p,w⟩
   ·exact both true p w
   exact both false p w
  exact h.elim
include hΦ in
theorem lr0:∀ f args σ v σ',bE0 Φ f args σ=some (v,σ')->B4 P f args σ (fun d a=>d=v/\a=σ')/\J1 σ σ':=by
 intro f args σ v σ' h;unfold bE0 at h;split at h
 ·rename_i φ b
  split at h
  ·rename_i c hc
   cases h;exact⟨hΦ.memo f φ (H7.fn_eq b).1 (H7.fn_eq b).2 args v hc σ,.refl _⟩
  cases h
 cases h
variable (hm:P.follows .mixedOrders=true)
def gK0(P:Program)(n:Nat)(c:Code)(Q:Exit->AS->Prop):Nat->AS->Prop
 | 0,_=>False
 | j+1,s=>BWp P n c (kp0 (gK0 P n c Q j) Q) s
theorem gK0.wp{n:Nat}{c:Code}{Q':Exit->AS->Prop}{j:Nat}{s:AS}(h:gK0 P n c Q' j s):BWp P n (.loop c) Q' s:=by
 refine BWp.loop (gK0 P n c Q') ?_ h;intro k s1 hk;cases k with
 | zero=>exact hk.elim
 | succ k=>
  refine BWp.mono hk ?_;intro e s2 h2;cases e with
  | normal=>exact⟨k,Nat.lt_succ_self _,h2⟩
  | _=>exact h2
theorem iO0{ex:Exe}(hex:ExOk P T Φ Q ex){n:Nat}{b:Code}{k:KE}{a:Nat}{d:Nat->AV}{o:Nat->List AV->Prop}:∀ (j:Nat) (s:AS) (fr:Nat) (θ:Nat->AV) (A:Nat->List AV->Prop),a<=fr->Fit θ->(∀ i,i<a->θ i=d i)->(∀ l,l<a->A l=o l) ->
  E3 T Φ Q (mv0 ex n b k j s fr) θ A->gK0 P n b (rj0 T Φ Q a d o k) j (s.sub θ)
 | 0,s,fr,θ,A,_,_,_,_,h=>h.elim
 | j+1,s,fr,θ,A,t,p,h1,h2,h=>by
  refine BWp.mono (hex n b s fr _ θ A p h) ?_;rintro e s' ⟨r,c,q,g,m,rfl,q1,q2,q3,q4,rfl,q6⟩;have g1:∀ i,i<a->c i=d i:=fun i hi=>(q3 i (by omega)).trans (h1 i hi);have g2:∀ l,l<a->m l=o l:=fun l hl=>(q4 l (by omega)).trans (h2 l hl);cases r with
  | nor=>exact iO0 hex j q g c m (by omega) q2 g1 g2 q6
  | exi i=>exact⟨.exi i,c,q,g,m,rfl,by omega,q2,g1,g2,rfl,q6⟩
  | ret=>exact⟨.ret,c,q,g,m,rfl,by omega,q2,g1,g2,rfl,q6⟩
theorem sl0{n:Nat}{c:Code}{h:Hint}{fr:Nat}{k:AS->RT}{z:KE}{A:Nat->List AV->Prop}(hk:∀ s θ,Fit θ->E3 T Φ Q (k s) θ A->BWp P n c (rj0 T Φ Q fr θ A z) (AS.sub θ s)):∀ (m:Nat) (s:AS) (θ:Nat->AV),Fit θ ->
  E3 T Φ Q (sPre h fr k m s) θ A->BWp P n c (rj0 T Φ Q fr θ A z) (AS.sub θ s)
 | 0,s,θ,d,hl=>hk s θ d hl
 | m+1,s,θ,d,hl=>by
  unfold sPre at hl;split at hl
  ·rename_i a x p
   have b:s.st.objs a=some x:=by
    have:∀ (l:List AV) (t:Nat),fzAt s l t=some (a,x)->s.st.objs a=some x:=by
     intro l
     induction l with
     | nil=>intro t h;simp[fzAt]at h
     | cons v l B=>
      intro t h;unfold fzAt at h;split at h
      ·split at h
       ·rename_i C;cases h;exact C
       exact B _ h
      exact B _ h
    exact this _ _ p
   split at hl
   ·rename_i j
    obtain⟨o,q,f1,e1,hl⟩:=hl;simp only[j9]at e1;split at e1
    ·rename_i g
     have r:s.sub o=s.sub θ:=AS.sub_agree q j;rw[<- r];refine BWp.freeze f1 b (js0 j b q g) (BWp.mono (sl0 hk m _ o f1 hl) fun e s' hp=>?_);obtain⟨D,u,E,w,G,q1,q2,q3,q4,q5,q6,q7⟩:=hp;exact⟨D,u,E,w,G,q1,q2,q3,fun i hi=>(q4 i hi).trans (q i hi),q5,q6,q7⟩
    cases e1
   exact hl.elim
  exact hk s θ d hl
include hT hΦ hF hm in
theorem mf0{H:Nat->Option Hint}:∀ m,ExOk P T Φ Q (exec T Φ F H m)
 | 0=>fun n c s fr k θ A _ h=>by simp[exec,E3]at h
 | m+1=>by
  intro n c s fr k θ A o h;have E:=mf0 (H:=H) m;have self:∀ e,E3 T Φ Q (k e s fr) θ A->rj0 T Φ Q fr θ A k (EX.toExit e) (s.sub θ):=fun e hh=>⟨e,θ,s,fr,A,rfl,ax _,o,fun _ _=>rfl,fun _ _=>rfl,rfl,hh⟩;unfold exec at h;split at h
  ·exact BWp.of_awp (AWp.skip (self .nor h))
  ·exact BWp.of_awp (AWp.label (self .nor h))
  ·rename_i id ops
   refine BWp.region ?_;have:=mC0 hT hΦ hF E (n0:=s.st.next) (n:=n) ops.toList 0 _ fr _ θ A (fun j=>by simp) (by simp) o h;simp only[Array.length_toList]at this;rw[List.range_eq_range'];intro G a w g1 g2 g3 g4;refine B3 ?_ _ _ _ (this G a w g1 g2 g3 g4);rintro e a' w' ⟨e1,s2,G2,b1,b2,g,R,r,J,q⟩;exact⟨e1,s2,G2,b1,b2,.nor,g,R,r,J,rfl,q⟩
  ·rename_i id ops
   split at h
   ·rename_i l0 t hbar
    obtain⟨V,hlw⟩:=jw0 hbar;have hops:ops=⟨l0++t⟩:=by apply Array.ext';rw[<- V];simp
    split at h
    ·rename_i hst
     obtain⟨z,B,Y,fs,g1,g2,g3,g4,g5⟩:=km0 (T:=T) (Φ:=Φ) (F:=F) (ops:=(⟨l0⟩:Array Oper)) l0 0 _ fr [] _ θ A o h;simp only[aT]at g5;split at g5
     ·rename_i hdyn
      subst hops;refine BWp.drawnTail hT hm (cl:=bE0 Φ) (lr0 hΦ) hlw (s':=AS.sub z B) ?_ ?_
      ·unfold W4
       rw[Af hst];have e:({ s.sub θ with st:={ (s.sub θ).st with next:=(s.sub θ).st.next+(⟨l0⟩:Array Oper).size } }:AS)=AS.sub θ { s with st:={ s.st with next:=s.st.next+l0.length } }:=rfl;rw[e];have e2:(s.sub θ).st.next=s.st.next:=rfl;rw[e2];have e3:(⟨l0⟩:Array Oper).size=l0.length:=rfl;rw[e3,g4];simp only;rw[Af hdyn]
      have e4:({ AS.sub z B with st:={ (AS.sub z B).st with next:=(AS.sub z B).st.next+(l0++t).length } }:AS)=AS.sub z { B with st:={ B.st with next:=B.st.next+(l0++t).length } }:=rfl;rw[e4];have:=mC0 hT hΦ hF E (ops:=(⟨l0++t⟩:Array Oper)) (n0:=B.st.next) (n:=n) t l0.length { B with st:={ B.st with next:=B.st.next+(l0++t).length } } Y (fun s2 r=>k .nor s2 r) z A (fun j=>by rw[List.getElem?_toArray,dA (by omega),fG]) (by simp) g2 g5;intro G a w q1 q2 q3 q4;refine B3 ?_ _ _ _ (this G a w q1 q2 q3 q4);rintro e a' w' ⟨e1,s2,G2,b1,b2,g,R,r,J,r1,r2,r3,r4,r5,r6⟩;exact⟨e1,s2,G2,b1,b2,.nor,g,R,r,J,rfl,bC g1 r1,r2,fun i hi=>(r3 i (by omega)).trans (g3 i hi),fun l hl=>r4 l (by omega),r5,r6⟩
     exact g5.elim
    exact h.elim
   split at h
   ·rename_i hst
    obtain⟨z,B,Y,fs,g1,g2,g3,g4,g5⟩:=km0 (T:=T) (Φ:=Φ) (F:=F) ops.toList 0 _ fr [] _ θ A o h;simp only[aT]at g5;split at g5
    ·rename_i hdyn
     refine BWp.of_awp (AWp.drawn hT hm (cl:=bE0 Φ) (lr0 hΦ) (s':=AS.sub z B) ?_ ⟨.nor,z,B,Y,A,rfl,g1,g2,g3,fun _ _=>rfl,rfl,g5⟩);unfold W4;rw[Af hst];have e:({ s.sub θ with st:={ (s.sub θ).st with next:=(s.sub θ).st.next+ops.size } }:AS)=AS.sub θ { s with st:={ s.st with next:=s.st.next+ops.size } }:=rfl;rw[e];have e2:(s.sub θ).st.next=s.st.next:=rfl;rw[e2,g4];simp only;rw[Af hdyn]
    exact g5.elim
   exact h.elim
  ·rename_i a b
   refine BWp.seq (BWp.mono (E n a s fr _ θ A o h) ?_);rintro e s' ⟨S,d,K,u,M,rfl,q1,q2,q3,q4,rfl,q6⟩;cases S with
   | nor=>refine BWp.mono (E n b K u k d M q2 q6) ?_;rintro e2 s2 ⟨e2',g,R,r,J,rfl,r1,r2,r3,r4,r5,r6⟩;exact⟨e2',g,R,r,J,rfl,bC q1 r1,r2,fun i hi=>(r3 i (by omega)).trans (q3 i hi),fun l hl=>(r4 l (by omega)).trans (q4 l hl),r5,r6⟩
   | exi j=>exact⟨.exi j,d,K,u,M,rfl,q1,q2,q3,q4,rfl,q6⟩
   | ret=>exact⟨.ret,d,K,u,M,rfl,q1,q2,q3,q4,rfl,q6⟩
  ·rename_i x a b
   split at h
   ·rename_i t hx
    refine BWp.cond (t:=t) (by rw[AS.sub_eval,hx,I0]) ?_;exact E n _ s fr k θ A o h
   ·rename_i i hx
    have hev:∀ t,θ i=.sc (.bool t)->(s.sub θ).eval x=.sc (.bool t):=fun t ht=>by rw[AS.sub_eval,hx,u9,ht]
    rcases h with ⟨N,hh⟩ | ⟨N,hh⟩
    ·refine BWp.cond (t:=true) (hev true N) ?_
     have:=E n a _ fr k θ A o hh;rw[ef0 N]at this;exact this
    refine BWp.cond (t:=false) (hev false N) ?_;have:=E n b _ fr k θ A o hh;rw[ef0 N]at this;exact this
   exact h.elim
  ·rename_i id b
   refine BWp.block (BWp.mono (E n b s fr _ θ A o h) ?_);rintro e s' ⟨S,d,K,u,M,rfl,q1,q2,q3,q4,rfl,q6⟩;cases S with
   | nor=>exact⟨.nor,d,K,u,M,rfl,q1,q2,q3,q4,rfl,q6⟩
   | ret=>exact⟨.ret,d,K,u,M,rfl,q1,q2,q3,q4,rfl,q6⟩
   | exi j=>
    simp only[EX.toExit,cg0];simp only at q6;split
    ·rename_i e;rw[Af e]at q6;exact⟨.nor,d,K,u,M,rfl,q1,q2,q3,q4,rfl,q6⟩
    rename_i e;rw[Ae e]at q6;exact⟨.exi j,d,K,u,M,rfl,q1,q2,q3,q4,rfl,q6⟩
  ·rename_i b
   split at h
   ·rename_i hint hH
    refine sl0 (fun s θ o h=>?_) 4 s θ o h;split at h
    ·rename_i inits hm hbd
     obtain⟨I,⟨n1,hI0⟩,O⟩:=h;obtain⟨v1,v2,v3,ι,hren⟩:=bP0 o hm;refine BWp.conv hren ?_;have C:∀ (vals:List AV) (d:Nat->AV) i,i<fr->(ak0 fr vals i).sub d=d i:=fun vals d i hi=>by
      unfold ak0;have:di fr i=false:=by
       cases N:di fr i with
       | false=>rfl
       | true=>have:=aU N;omega
      rw[this];simp
     have D:∀ (vals:List AV) (d:Nat->AV) j (hj:j<vals.length),(ak0 fr vals (fr+j)).sub d=(vals[j]).sub d:=fun vals d j hj=>by unfold ak0;rw[Nat.ble_eq_true_of_le (Nat.le_add_right fr j)];simp[hj]
     have pad:∀ (vals:List AV) (d:Nat->AV),vals.length=hint.k->(∀ i,i<fr->d i=θ i)->(∀ j (hj:j<vals.length),d (fr+j)=vals[j])->Fit d->∃ g,(∀ i,i<fr->g i=θ i)/\(∀ j (hj:j<vals.length),g (fr+j)=vals[j])/\g (fr+hint.k)=.sc (.bool false)/\Fit g/\hint.state.sub d=hint.state.sub g:=fun vals d p1 p2 p3 p4=>by
      refine⟨fun i=>if i=fr+hint.k then .sc (.bool false)else d i,fun i hi=>?_,fun j hj=>?_,by simp,fun i=>?_,?_⟩
      ·simp only[show ¬ i=fr+hint.k by omega,Ah];exact p2 i hi
      ·simp only[show ¬ fr+j=fr+hint.k by omega,Ah];exact p3 j hj
      ·show aU0 (if i=fr+hint.k then .sc (.bool false)else d i)
       split
       ·trivial
       exact p4 i
      refine(AS.sub_agree (fun i hi=>?_) hbd).symm;simp only[show ¬ i=fr+hint.k by omega,Ah]
     refine BWp.loop (fun k1 s1=>∃ vals d,I k1 vals/\vals.length=hint.k/\(∀ v∈vals,aU0 v)/\(∀ i,i<fr->d i=θ i)/\(∀ j (hj:j<vals.length),d (fr+j)=vals[j])/\Fit d/\s1=hint.state.sub d) ?_ (k:=n1) ?_
     ·rintro k1 s1 ⟨vals,θ0,g1,g2,g3,g40,g50,g60,rfl⟩
      obtain⟨d,g4,g5,g5',g6,g7⟩:=pad vals θ0 g2 g40 g50 g60;rw[g7];have N:=E n b hint.state (fr+hint.k+1) _ d _ g6 (O k1 vals g1 g2 g3 d g4 g5 g5' g6);refine BWp.convEnd' (BWp.mono N ?_);rintro e s' ⟨S,g,R,r,J,rfl,q1,q2,q3,q4,rfl,q6⟩;have hA2:J fr=fun p=>∃ m,m<k1/\I m p:=by rw[q4 fr (by omega)];simp
      have Z:∀ i,i<fr->g i=θ i:=fun i hi=>(q3 i (by omega)).trans (g4 i hi);have U:∀ l,l<fr->J l=A l:=fun l hl=>by rw[q4 l (by omega)];simp[Nat.ne_of_lt hl]
      cases S with
      | nor=>
       left;simp only at q6;split at q6
       ·rename_i p hm'
        obtain⟨w1,w2,w3,ι',hren'⟩:=bP0 q2 hm';refine⟨ι',_,hren',?_⟩;simp only[EX.toExit,kp0];have q7:J fr (p.map (AV.sub g)):=q6;rw[hA2]at q7;obtain⟨m1,hm1,hI1⟩:=q7;refine⟨m1,hm1,p.map (AV.sub g),_,hI1,by simpa using w1,fun v hv=>?_,fun i hi=>by rw[C];exact Z i hi;exact hi,fun j hj=>?_,w3,rfl⟩
        ·obtain⟨v0,hv0,rfl⟩:=aM.1 hv;exact w2 v0 hv0
        simp only[aD]at hj;rw[D p g j hj];simp
       exact q6.elim
      | exi j=>right;exact⟨.exi j,g,R,r,J,rfl,by omega,q2,Z,U,rfl,q6⟩
      | ret=>right;exact⟨.ret,g,R,r,J,rfl,by omega,q2,Z,U,rfl,q6⟩
     refine⟨inits.map (AV.sub θ),_,hI0,by simpa using v1,fun v hv=>?_,fun i hi=>C _ _ i hi,fun j hj=>?_,v3,rfl⟩
     ·obtain⟨v0,hv0,rfl⟩:=aM.1 hv;exact v2 v0 hv0
     simp only[aD]at hj;rw[D inits θ j hj];simp
    exact h.elim
   exact(iO0 E 1000 s fr θ A (ax _) o (fun _ _=>rfl) (fun _ _=>rfl) h).wp
  ·exact BWp.of_awp (AWp.exit (self (.exi _) h))
  ·exact BWp.of_awp (AWp.ret (self .ret h))
  ·rename_i b
   refine BWp.scope (BWp.mono (E n b s fr _ θ A o h) ?_);rintro e s' ⟨S,d,K,u,M,rfl,q⟩;exact⟨by cases S<;>trivial,S,d,K,u,M,rfl,q⟩
  exact h.elim
include hT hΦ hF hm in
theorem fn_ok {H:Nat->Option Hint} {m fr:Nat} {f:FuncId} {fn:Func} {c:Code} (s:F f=some fn) (n:(fn.name== "runtime.NumGoroutine")=false) (t:fn.body=some c) {a:List AV} (E:a.length<=fn.ntmps) (hp:dt0 a=true)
  {θ:Nat->AV} (q:Fit θ) {r:AV} (h:E3 T Φ (fun c=>c=r) (exec T Φ F H m 0 c (AS.enter fn.ntmps a j3.none) fr (kTop T fn)) θ (fun _ _=>False)):E0 P ⟨f,a.map (AV.sub θ),r⟩:=by
 refine E0.of_body hT (hF f fn s) n t (by simpa using E) (by rw[<- Z1,<-G4];exact P4 q a hp) ?_;have:=mf0 hT hΦ hF hm (H:=H) m 0 c _ fr _ θ _ q h;rw[gP0]at this;refine BWp.mono this ?_;rintro e s' ⟨D,i,p,I,J,rfl,_,f1,_,_,rfl,hl⟩;have fin:∀ g,D=g->(g=.nor\/g=.ret)->(g.toExit=.normal\/g.toExit=.ret)/\∃ v,C8 T fn (p.sub i)=some v/\∀ G w u pl,Rel G (p.sub i).st w->Rep G v u->Rep (G.frozen (p.sub i).st w pl) r u:=by
  intro g he hor;subst he;refine⟨by rcases hor with rfl | rfl<;>simp[EX.toExit],?_⟩;have d:E3 T Φ (fun c=>c=r) (match C8 T fn p with
   | some v=>match v.contP with
    | true=>.ret v.nilz []
    | false=>match aV0 p.st 50 v with
     | some c=>.ret c.nilz (Z4 p.st.tr)
     | none=>.stuck
   | none=>.stuck) i J:=by rcases hor with rfl | rfl<;>exact hl
  split at d
  ·rename_i v hv
   refine⟨v.sub i,cG0 hv,?_⟩;intro G w u pl l hrep;split at d
   ·rename_i x
    obtain⟨_,B⟩:=d;rw[<- B];exact el0 v u (O0 (fun b o t=>F3 l t) hrep (bz0 f1 v x))
   split at d
   ·rename_i c hc
    obtain⟨k,B⟩:=d;rw[<- B];exact el0 c u (db0 f1 l pl (fun id e z j C=>k j (aQ0 C)) (fun id j C=>k j (V1 C)) 50 v c u hc hrep)
   exact d.elim
  exact d.elim
 cases D with
 | exi j=>exact hl.elim
 | nor=>exact fin .nor rfl (.inl rfl)
 | ret=>exact fin .ret rfl (.inr rfl)
end
end Go.Ab
namespace Go.Ab
open Go
variable [B6]
section
variable {T:Tab} {Φ:H7} {Q:AV->Prop} {θ:Nat->AV} {A:Nat->List AV->Prop}
end
@[simp] theorem fit_int (k:IntKind) (n:Int):aU0 (.sc (.int k n)):=trivial
@[simp] theorem fit_bool (b:Bool):aU0 (.sc (.bool b)):=trivial
@[simp] theorem fit_str (b:ByteArray):aU0 (.sc (.string b)):=trivial
def tellL:List (Nat×(List AV->Option AV))->H7
 | [],_=>none
 | (g,φ)::l,f=>match aB g f with
  | true=>some φ
  | false=>tellL l f
def vB0:List (Nat×Hint)->Nat->Option Hint
 | [],_=>none
 | (g,h)::l,f=>match aB g f with
  | true=>some h
  | false=>vB0 l f
def ia0(T:Tab)(Φ:H7)(F:FuncId->Option Func)(H:List (Nat×Hint))(m:Nat)(f:FuncId)(a:List AV)(fr:Nat):RT :=
 match F f with
 | some fn=>match fn.body with
  | some c=>match !(fn.name== "runtime.NumGoroutine")&&di a.length fn.ntmps&&dt0 a with
   | true=>exec T Φ F (vB0 H) m 0 c (AS.enter fn.ntmps a j3.none) fr (kTop T fn)
   | false=>.stuck
  | none=>.stuck
 | none=>.stuck
theorem oW0{P:Program}{T:Tab}(hT:C0 P T){Φ:H7}(b:il0 P Φ){F:FuncId->Option Func}(hF:∀ f fn,F f=some fn->P.funcs[f]?=some fn)(hm:P.follows .mixedOrders=true){H:List (Nat×Hint)}{m:Nat}{f:FuncId}{a:List AV}{fr:Nat}
  {θ:Nat->AV} (d:Fit θ) {r:AV} (h:E3 T Φ (fun c=>c=r) (ia0 T Φ F H m f a fr) θ (fun _ _=>False)):E0 P ⟨f,a.map (AV.sub θ),r⟩:=by
 unfold ia0 at h;split at h
 ·rename_i fn e
  split at h
  ·rename_i c g
   split at h
   ·rename_i hc
    simp only[ab,cO]at hc;exact fn_ok hT b hF hm e hc.1.1 g (aU hc.1.2) hc.2 d h
   exact h.elim
  exact h.elim
 exact h.elim
def env(l:List AV)(i:Nat):AV:=(l[i]?).getD (.sc (.bool false))
theorem Fit.env{l:List AV}(h:∀ v∈l,aU0 v):Fit (env l):=fun i=>by
 unfold Go.Ab.env;cases hi:l[i]? with
 | none=>trivial
 | some v=>exact h v (aN hi)
end Go.Ab
namespace Go.Ab
variable [B6]
open Go Go.RowKit Go.WideShapes Go.ChangeShapes
section
variable {H:Type} {enc:TypeId×Value->H} {P:Program} {N:Nat}
theorem en0(hl:laidOutB P=true){W d:World}(f:Below W.heap.size W d){sp:Nat->Bool}:∀ {ts:List TypeId} {vs:List Value} {g:List (DataW H)} {ps:List MemPlace},(∀ t∈ts,P.readableRec t=true/\t<P.types.size) ->
  gf enc P W 0 (fun _=>true) true ts vs g ps->(∀ p∈ps,p.block<W.heap.size)->(∀ p∈ps,sp p.block=true)->gf enc P d 0 sp true ts vs g ps
 | [],[],[],_,_,h,_,_=>h
 | t::ts,_::_,_::_,_,c,⟨p,q,h1,h2,e⟩,b,hs=>by
  refine⟨p,q,?_,?_,e⟩
  ·exact WideElems.Trod_stays hl (c t (by simp)).1 (c t (by simp)).2 h1 (fun x a=>f.same (b x (by rw[e];simp[a]))) (fun x a=>hs x (by rw[e];simp[a]))
  exact en0 hl f (fun u hu=>c u (by simp[hu])) h2 (fun x a=>b x (by rw[e];simp[a])) (fun x a=>hs x (by rw[e];simp[a]))
theorem nK0(hl:laidOutB P=true){f:Func}{s:ChangeSpec}{apart fresh handsOn again:Bool}{W l:World}{args:Array Value}{e gs:List (DataW H)}{before:List MemPlace}{z:TypeId}
  (hv:s.vars=[]) (h:∀ t∈f.params.toList,P.readableRec t=true/\t<P.types.size) (m:f.resultTypes=#[z]) (n:P.underlying z=some .bool)
  (i:(s.fn H (e++gs)).results=[.lit (.bool true)]/\(s.fn H (e++gs)).args=e/\(s.fn H (e++gs)).vars=[])
  (B:DataW.Whole enc P f.params.toList s.vars apart W args.toList e gs before) (v:Below W.heap.size W l):s.post enc P f apart fresh handsOn again W args (.bool true) l:=by
 have o:=B;obtain⟨p,q,E,C,rfl,hz,G⟩:=B;rw[hv]at C;obtain⟨rfl,rfl⟩:=trodVars_none C;have k:∀ x∈p++[],x.block<W.heap.size:=fun x a=>o.lt x a;have g:∀ (b:Nat) (sp:Nat->Bool) (D:Bool),gf enc P l b sp D f.resultTypes.toList ((kO true).resultList f.resultTypes.size) (s.fn H (e++[])).results []:=fun b sp D=>by rw[m,i.1];exact trodAll_mk1 (shut_bool n _)
 have c:∀ sp:Nat->Bool,(∀ x∈p++[],sp x.block=true)->gf enc P l 0 sp true f.params.toList args.toList (s.fn H (e++[])).args p:=fun sp hsp=>by rw[i.2.1];exact en0 hl v h E (fun x a=>k x (by simpa using a)) (fun x a=>hsp x (by simpa using a))
 have d:∀ sp:Nat->Bool,(∀ x∈p++[],sp x.block=true)->DataW.TrodVars enc P l sp s.vars (s.fn H (e++[])).vars []:=fun sp _=>by rw[hv,i.2.2];rfl
 have w:∀ (j:Nat) (t:TypeId) (r:Value),f.resultTypes[j]?=some t->((kO true).resultList f.resultTypes.size)[j]?=some r->fS P l .any 0 t r:=ok_one m rfl (okWide_bool_mk n _);have hold:∀ x∈p++[],(fun b=>decide (b<W.heap.size)) x.block=true:=fun x a=>by simpa using k x a
 refine⟨e,[],p++[],[],p,[],o,g _ _ _,c _ hold,d _ hold,World.keptBut_mono (fun x a=>⟨a,?_⟩) (v.frame (·∈p++[])),fun _=>?_⟩
 ·exact Or.inr (by simpa using a)
 refine⟨w,_,_,([]++p)++[],⟨[]++p,[],trodAll_append (c _ (fun _ _=>rfl)) (g _ _ _),d _ (fun _ _=>rfl),rfl,?_,?_⟩,?_⟩
 ·intro b off hp
  have u:MemPlace.cell b off∈p++[]:=by simpa using hp
  rw[v.frozen (k _ u)];exact hz b off u
 ·intro ha
  have:=G ha;simpa using this
 intro x a _;simpa using a
theorem do0{W:World}{base:Nat}{t:TypeId}{fs:Array Field}{v:Value}{d:DataW H}{p:List MemPlace}{k:Nat}(b:P.underlying t=some (.struct fs))(hp:cP0 P k t=true)(hv:fS P W .any base t v)
  (h:kP enc P W 0 (fun _=>true) true t v d p) (c:∀ n∈d.weights P t,n<=N):∃ cs,Rep (j4.ofWorld W) (.agg cs) v/\Sh P N t cs:=by
 obtain⟨fuel,hf⟩:=h;obtain⟨avs,h1,h2⟩:=kn0 k t hp fuel _ _ hf c;unfold fS at hv;rw[b]at hv;obtain⟨cs,rfl,_⟩:=hv;refine⟨avs,?_,h2⟩;have a:B8 (j4.ofWorld W) avs cs.toList:=h1;have:=Rep.agg (G:=j4.ofWorld W) avs cs.toList a.1 a.2;simpa using this
theorem jM0{W:World}{t:TypeId}{a:IntKind}{v:Value}{d:DataW H}{p:List MemPlace}(b:P.underlying t=some (.int a))
  (h:kP enc P W 0 (fun _=>true) true t v d p) (hv:v.cells.toList=[v]):∃ n,v=.int a n/\(Lit.int a n).wf=true:=by
 obtain⟨fuel,hf⟩:=h;rw[hv]at hf;obtain⟨n,e,_,hw⟩:=DataW.trod_int b hf;exact⟨n,by simpa using e,hw⟩
theorem lH0 {f:FuncId} {fn:Func} {avs:List AV} (d:P.funcs[f]?=some fn) (a:(fn.name== "runtime.NumGoroutine")=false) (b:fn.body.isNone=false) (hm:E0 P ⟨f,avs,.sc (.bool true)⟩)
  {W:World} {args:Array Value} (c:B8 (j4.ofWorld W) avs args.toList) (h:nj0 W):Calls P f args W fun e g=>e=.returned (.bool true)/\Below W.heap.size W g:=by
 have:=E0.calls d a b hm c (Rel.ofWorld h);simp only[Array.toArray_toList]at this;refine this.mono ?_;rintro e g ⟨v,G',rfl,i,_,_,j⟩;cases i;exact⟨rfl,j⟩
end
end Go.Ab
namespace Go.Ab
open Go
variable [B6]
def bndO(k:Nat):Option AV->Bool
 | none=>true
 | some x=>x.bnd k
def RO.bnd(k:Nat):RO->Bool
 | .bin _ _ x y=>x.bnd k&&y.bnd k
 | .un _ x=>x.bnd k
 | .conv _ _ x=>x.bnd k
 | .pick c a b=>c.bnd k&&(a.bnd k&&b.bnd k)
 | .idx _ x i=>x.bnd k&&i.bnd k
 | .index _ x i=>x.bnd k&&i.bnd k
 | .slc _ x lo hi=>x.bnd k&&(bndO k lo&&bndO k hi)
 | .len _ x=>x.bnd k
 | .mx l=>jp0 k l
 | .mn l=>jp0 k l
 | .cat _ _ x y=>x.bnd k&&y.bnd k
 | .call _ args _=>jp0 k args
 | .rows l=>l.all fun j=>cm j k
 | .look _ c ix _=>c.bnd k&&ix.bnd k
 | .lookr _ c ix _=>c.bnd k&&ix.bnd k
 | .mput _ c ix v=>c.bnd k&&(ix.bnd k&&v.bnd k)
 | .mlen _ c=>c.bnd k
 | .nop=>true
 | .isp x=>x.bnd k
 | .opn _ x=>x.bnd k
 | .zer _ x=>x.bnd k
 | .gl _ _=>true
 | .iss x=>x.bnd k
 | .more s p=>s.bnd k&&p.bnd k
 | .sdec s p=>s.bnd k&&p.bnd k
 | .ownr _ x=>x.bnd k
 | .xin c i _=>c.bnd k&&i.bnd k
 | .inb _ c i=>c.bnd k&&i.bnd k
 | .xld _ _ _ c i _=>c.bnd k&&i.bnd k
 | .xst _ _ _ c i _ v=>c.bnd k&&(i.bnd k&&v.bnd k)
theorem bF0{θ b:Nat->AV}{k:Nat}(h:∀ i,i<k->b i=θ i):∀ l:List AV,jp0 k l=true->l.map (AV.sub b)=l.map (AV.sub θ)
 | [],_=>rfl
 | a::l,c=>by simp only[jp0,ab]at c;simp only[az,sub_agree h a c.1,bF0 h l c.2]
theorem iS0{θ b:Nat->AV}{k:Nat}(h:∀ i,i<k->b i=θ i):∀ l:Option AV,bndO k l=true->l.map (AV.sub b)=l.map (AV.sub θ)
 | none,_=>rfl
 | some a,c=>by simp only[ak,sub_agree h a c]
theorem kR0{T:Tab}{Φ:H7}{θ q:Nat->AV}{k:Nat}(h:∀ i,i<k->q i=θ i)(o:RO)(m:o.bnd k=true):j9 T Φ q o=j9 T Φ θ o:=by
 cases o with
 | bin o t x y=>simp only[RO.bnd,ab]at m;simp only[j9,sub_agree h _ m.1,sub_agree h _ m.2]
 | un o x=>simp only[RO.bnd]at m;simp only[j9,sub_agree h _ m]
 | conv s d x=>simp only[RO.bnd]at m;simp only[j9,sub_agree h _ m]
 | pick c a b=>simp only[RO.bnd,ab]at m;simp only[j9,sub_agree h _ m.1,sub_agree h _ m.2.1,sub_agree h _ m.2.2]
 | idx t x i=>simp only[RO.bnd,ab]at m;simp only[j9,sub_agree h _ m.1,sub_agree h _ m.2]
 | index t x i=>simp only[RO.bnd,ab]at m;simp only[j9,sub_agree h _ m.1,sub_agree h _ m.2]
 | slc t x lo hi=>simp only[RO.bnd,ab]at m;simp only[j9,sub_agree h _ m.1,iS0 h _ m.2.1,iS0 h _ m.2.2]
 | len t x=>simp only[RO.bnd]at m;simp only[j9,sub_agree h _ m]
 | mx l=>simp only[RO.bnd]at m;simp only[j9,bF0 h _ m]
 | mn l=>simp only[RO.bnd]at m;simp only[j9,bF0 h _ m]
 | cat s x a b=>simp only[RO.bnd,ab]at m;simp only[j9,sub_agree h _ m.1,sub_agree h _ m.2]
 | call f args flat=>simp only[RO.bnd]at m;simp only[j9,bF0 h _ m]
 | look t c ix ok=>simp only[RO.bnd,ab]at m;simp only[j9,sub_agree h _ m.1,sub_agree h _ m.2]
 | lookr t c ix ok=>simp only[RO.bnd,ab]at m;simp only[j9,sub_agree h _ m.1,sub_agree h _ m.2]
 | mput t c ix v=>simp only[RO.bnd,ab]at m;simp only[j9,sub_agree h _ m.1,sub_agree h _ m.2.1,sub_agree h _ m.2.2]
 | mlen t c=>simp only[RO.bnd]at m;simp only[j9,sub_agree h _ m]
 | nop=>rfl
 | gl t g=>rfl
 | iss x=>simp only[RO.bnd]at m;simp only[j9,sub_agree h _ m]
 | more s p=>simp only[RO.bnd,ab]at m;simp only[j9,sub_agree h _ m.1,sub_agree h _ m.2]
 | ownr cols x=>simp only[RO.bnd]at m;simp only[j9,sub_agree h _ m]
 | sdec s p=>simp only[RO.bnd,ab]at m;simp only[j9,sub_agree h _ m.1,sub_agree h _ m.2]
 | xin c i off=>simp only[RO.bnd,ab]at m;simp only[j9,sub_agree h _ m.1,sub_agree h _ m.2]
 | isp x=>simp only[RO.bnd]at m;simp only[j9,sub_agree h _ m]
 | opn n x=>simp only[RO.bnd]at m;simp only[j9,sub_agree h _ m]
 | zer t x=>simp only[RO.bnd]at m;simp only[j9,sub_agree h _ m]
 | inb t c i=>simp only[RO.bnd,ab]at m;simp only[j9,sub_agree h _ m.1,sub_agree h _ m.2]
 | xld t e z c i off=>simp only[RO.bnd,ab]at m;simp only[j9,sub_agree h _ m.1,sub_agree h _ m.2]
 | xst t e z c i off v=>simp only[RO.bnd,ab]at m;simp only[j9,sub_agree h _ m.1,sub_agree h _ m.2.1,sub_agree h _ m.2.2]
 | rows l=>
  simp only[RO.bnd,aj,aZ]at m;have e:∀ g:AV->Bool,l.all (fun j=>g (q j))=l.all (fun j=>g (θ j)):=fun g=>by
   rw[Bool.eq_iff_iff,aj,aj];constructor
   ·intro H j hj;rw[<- h j (m j hj)];exact H j hj
   intro H j hj;rw[h j (m j hj)];exact H j hj
  exact Ap (fun b=>match b with | true=>some (AV.sc (.bool true)) | false=>none) (e (fun v=>match v with | .rs _=>true | _=>false))
mutual
def AV.top:AV->Nat
 | .sy i=>i+1
 | .rp cs=>topL cs
 | .agg cs=>topL cs
 | .tup cs=>topL cs
 | _=>0
def topL:List AV->Nat
 | []=>0
 | c::cs=>max c.top (topL cs)
end
def RT.bnd:RT->Nat->Bool
 | .stuck,_=>true
 | .ret c l,m=>c.bnd m&&l.all fun j=>cm j m
 | .op o fr pat r,m=>aB fr m&&(o.bnd m&&(pat.bnd (max m pat.top)&&r.bnd (max m pat.top)))
 | .test i a b,m=>cm i m&&(a.bnd m&&b.bnd m)
 | .loop l _ inits _,m=>aB l m&&jp0 m inits
 | .again _ vals,m=>jp0 m vals
theorem E3.agree{T:Tab}{Φ:H7}{Q:AV->Prop}:∀ (r:RT) {m:Nat} {θ d:Nat->AV} {A:Nat->List AV->Prop},r.bnd m=true->Fit d->(∀ i,i<m->d i=θ i)->E3 T Φ Q r θ A->E3 T Φ Q r d A
 | .stuck,_,_,_,_,_,_,_,h=>h.elim
 | .ret c l,m,θ,d,A,e,hf,ha,h=>by
  simp only[RT.bnd,ab,aj,aZ]at e;refine⟨fun j hj=>?_,?_⟩
  ·rw[ha j (e.2 j hj)];exact h.1 j hj
  rw[sub_agree ha c e.1];exact h.2
 | .op o fr pat r,m,θ,d,A,e,hf,ha,⟨f,h1,h2,w,x⟩=>by
  simp only[RT.bnd,ab,b_]at e;obtain⟨rfl,s,t,u⟩:=e;have p:∀ i,i<max fr pat.top->(fun i=>if i<fr then d i else f i) i=f i:=fun i _=>by
   by_cases hi:i<fr
   ·simp only[hi,Al];rw[ha i hi,h1 i hi]
   simp only[hi,Ah]
  have g:Fit (fun i=>if i<fr then d i else f i):=fun i=>by
   show aU0 (if i<fr then d i else f i);split
   ·exact hf i
   exact h2 i
  refine⟨fun i=>if i<fr then d i else f i,fun i hi=>by simp[hi],g,?_,?_⟩
  ·rw[kR0 ha o s,w,sub_agree p pat t]
  exact E3.agree r u g p x
 | .test i a b,m,θ,d,A,e,hf,ha,h=>by
  simp only[RT.bnd,ab,aZ]at e;rcases h with ⟨h1,h2⟩ | ⟨h1,h2⟩
  ·exact .inl ⟨by rw[ha i e.1];exact h1,E3.agree a e.2.1 hf ha h2⟩
  exact .inr ⟨by rw[ha i e.1];exact h1,E3.agree b e.2.2 hf ha h2⟩
 | .loop l k inits body,m,θ,d,A,e,hf,ha,⟨I,h1,h2⟩=>by simp only[RT.bnd,ab,b_]at e;obtain⟨rfl,e⟩:=e;exact⟨I,by rw[bF0 ha inits e];exact h1,fun n vals hi hl hv v q=>h2 n vals hi hl hv v (fun i hi=>by rw[q i hi,ha i hi])⟩
 | .again l vals,m,θ,d,A,e,hf,ha,h=>by simp only[RT.bnd]at e;show A l _;rw[bF0 ha vals e];exact h
def Y6(T:Tab)(Φ:H7)(Q:AV->Prop)(r:RT)(L:List AV)(A:Nat->List AV->Prop):Prop:=(∀ v∈L,aU0 v)->E3 T Φ Q r (env L) A
section
variable {T:Tab} {Φ:H7} {Q:AV->Prop} {L:List AV} {A:Nat->List AV->Prop}
theorem uR0{L vs:List AV}{i:Nat}(h:i<L.length):env (L++vs) i=env L i:=by unfold env;rw[ie h]
theorem Y6.opL{o:RO}{fr:Nat}{pat:AV}{r:RT}(vs:List AV)(he:j9 T Φ (env L) o=some (pat.sub (env (L++vs))))(c:L.length=fr)(hv:∀ v∈vs,aU0 v)(h:Y6 T Φ Q r (L++vs) A):Y6 T Φ Q (.op o fr pat r) L A:=fun b=>by
 have a:∀ v∈L++vs,aU0 v:=fun v hm=>by
  rcases aQ.1 hm with hm | hm
  ·exact b v hm
  exact hv v hm
 exact⟨env (L++vs),fun i hi=>uR0 (by omega),Fit.env a,he,h a⟩
theorem Y6.test{i:Nat}{a b:RT}(t:Bool)(hi:env L i=.sc (.bool t))(h1:t=true->Y6 T Φ Q a L A)(h2:t=false->Y6 T Φ Q b L A):Y6 T Φ Q (.test i a b) L A:=fun c=>by
 cases t with
 | true=>exact .inl ⟨hi,h1 rfl c⟩
 | false=>exact .inr ⟨hi,h2 rfl c⟩
theorem Y6.retL{c:AV}{l:List Nat}(hl:∀ j∈l,∃ es,env L j=.rs es)(h:Q (c.sub (env L))):Y6 T Φ Q (.ret c l) L A:=fun _=>⟨hl,h⟩
theorem Y6.loop{l k:Nat}{inits:List AV}{body:RT}(I:Nat->List AV->Prop)(d:L.length=l)(e:body.bnd (l+k+1)=true)(n0:Nat)(f:I n0 (inits.map (AV.sub (env L))))
  (h:∀ n vals,I n vals->vals.length=k->Y6 T Φ Q body (L++(vals++[.sc (.bool false)])) (fun c=>if c=l then (fun a=>∃ m,m<n/\I m a)else A c)):Y6 T Φ Q (.loop l k inits body) L A:=fun g=>by
 refine⟨I,⟨n0,f⟩,fun n vals hi hl hv o h1 h2 p hf=>?_⟩;have b:∀ v∈L++(vals++[.sc (.bool false)]),aU0 v:=fun v hm=>by
  rcases aQ.1 hm with hm | hm
  ·exact g v hm
  rcases aQ.1 hm with hm | hm
  ·exact hv v hm
  simp only[bJ]at hm;subst hm;trivial
 refine E3.agree body e hf (fun i hi=>?_) (h n vals hi hl b);subst d;by_cases c1:i<L.length
 ·rw[uR0 c1];exact h1 i c1
 obtain⟨j,rfl⟩:∃ j,i=L.length+j:=⟨i-L.length,by omega⟩;by_cases c2:j<vals.length
 ·rw[h2 j c2]
  unfold env;rw[dA (by omega),fG,ie c2];simp[c2]
 have:j=k:=by omega
 subst this;unfold env;rw[dA (by omega),fG,dA (by omega),hl,p];simp
end
end Go.Ab
namespace Go.Ab
open Go
variable [B6]
def nA0:Operand->Bool
 | .const (.slice none 0 0)=>true
 | _=>false
theorem lU0{x:Operand}(h:nA0 x=true):x=uX0:=by
 unfold nA0 at h;split at h
 ·rfl
 cases h
def bh0(o:Oper)(d:Nat):Bool:=match o.guard,o.dst with
 | none,some e=>aB e d
 | _,_=>false
theorem R3{o:Oper}{d:Nat}{op:Op}(h:bh0 o d=true)(a:o.op=op):oA0 o (some d) op:=by
 unfold bh0 at h;split at h
 ·rename_i h1 h2
  rw[b_]at h;subst h;exact⟨h2,a,h1⟩
 cases h
def nD0(o:Oper):Bool:=match o.op with
 | .assign x=>nA0 x
 | _=>false
theorem lA0{o:Oper}(h:nD0 o=true):o.op=.assign uX0:=by
 unfold nD0 at h;split at h
 ·rename_i x a;rw[a,lU0 h]
 cases h
def kV0(n:Nat):Operand->Bool
 | .tmp m=>aB m n
 | _=>false
theorem dj0{n:Nat}{x:Operand}(h:kV0 n x=true):x=.tmp n:=by
 unfold kV0 at h;split at h
 ·rw[b_]at h;rw[h]
 cases h
def mov0(o:Oper):Bool:=match o.op with
 | .move x=>kV0 0 x
 | _=>false
theorem qY0{o:Oper}(h:mov0 o=true):o.op=.move (.tmp 0):=by
 unfold mov0 at h;split at h
 ·rename_i x a;rw[a,dj0 h]
 cases h
def asg7(o:Oper):Bool:=match o.op with
 | .assign x=>kV0 7 x
 | _=>false
theorem vr0{o:Oper}(h:asg7 o=true):o.op=.assign (.tmp 7):=by
 unfold asg7 at h;split at h
 ·rename_i x a;rw[a,dj0 h]
 cases h
def wL0(t:Nat)(o:Oper):Bool:=match o.op with
 | .binOp .eql a x y _=>aB a t&&kV0 3 x&&nA0 y
 | _=>false
theorem tc0{t:Nat}{o:Oper}(h:wL0 t o=true):∃ yt,o.op=.binOp .eql t (.tmp 3) uX0 yt:=by
 unfold wL0 at h;split at h
 ·rename_i c x y yt a
  simp only[ab,b_]at h;obtain⟨⟨rfl,h2⟩,b⟩:=h;exact⟨yt,by rw[a,dj0 h2,lU0 b]⟩
 cases h
def bs0(t:Nat)(o:Oper):Bool:=match o.op with
 | .buildSlice a 0 ⟨[]⟩=>aB a t
 | _=>false
theorem bs0_eq{t:Nat}{o:Oper}(h:bs0 t o=true):o.op=.buildSlice t 0 #[]:=by
 unfold bs0 at h;split at h
 ·rename_i b a;rw[b_]at h;rw[a,h]
 cases h
def wv0(t:Nat)(o:Oper):Bool:=match o.op with
 | .call { callee:=.builtin .append,args:=⟨[x,y]⟩,argTypes:=⟨[a,b]⟩ }=>kV0 5 x&&kV0 6 y&&aB a t&&aB b t
 | _=>false
theorem sH0{t:Nat}{o:Oper}(h:wv0 t o=true):o.op=.call { callee:=.builtin .append,args:=#[.tmp 5,.tmp 6],argTypes:=#[t,t] }:=by
 unfold wv0 at h;split at h
 ·rename_i x y a b c
  simp only[ab,b_]at h;obtain⟨⟨⟨h1,h2⟩,rfl⟩,rfl⟩:=h;rw[c,dj0 h1,dj0 h2]
 cases h
def la0(fn:Func)(t:Nat):Bool:=aB fn.ntmps 8&&(match fn.results with
  | ⟨[.tmp n]⟩=>aB n 2
  | _=>false)&&match fn.body with
 | some (.seq (.region _ ⟨[o0]⟩ false) (.seq (.seq (.region _ ⟨[o1,o2]⟩ false) (.cond x (.seq (.region _ ⟨[o3]⟩ false) .ret) .skip)) (.seq (.region _ ⟨[o4,o5,o6,o7]⟩ false) .ret)))=>kV0 4 x&&bh0 o0 2&&nD0 o0&&bh0 o1 3&&mov0 o1&&bh0 o2 4&&wL0 t o2&&bh0 o3 2&&nD0 o3&&bh0 o4 5&&bs0 t o4&&bh0 o5 6&&mov0 o5&&bh0 o6 7&&wv0 t o6&&bh0 o7 2&&asg7 o7
 | _=>false
theorem ss0{fn:Func}{t:Nat}(h:la0 fn t=true):mo0 fn t:=by
 unfold la0 at h;simp only[ab,b_]at h;obtain⟨⟨h1,h2⟩,a⟩:=h;split at h2
 ·rename_i x b
  split at a
  ·rename_i i0 o0 i1 o1 o2 y i2 o3 i3 o4 o5 o6 o7 c
   simp only[ab]at a;obtain⟨⟨⟨⟨⟨⟨⟨⟨⟨⟨⟨⟨⟨⟨⟨⟨d,a0⟩,e⟩,f⟩,g⟩,a2⟩,i⟩,a3⟩,j⟩,a4⟩,k⟩,a5⟩,l⟩,m⟩,n⟩,o⟩,p⟩:=a;obtain⟨yt,e2⟩:=tc0 i;refine⟨h1,by rw[b,af h2],i0,i1,i2,i3,o0,o1,o2,o3,o4,o5,o6,o7,yt,?_,R3 a0 (lA0 e),R3 f (qY0 g),R3 a2 e2,R3 a3 (lA0 j),R3 a4 (bs0_eq k),R3 a5 (qY0 l),R3 m (sH0 n),R3 o (vr0 p)⟩;rw[c,dj0 d]
  cases a
 cases h2
end Go.Ab
namespace Go.Ab
open Go
variable [B6]
end Go.Ab
namespace Go.Ab
open Go
variable [B6]
abbrev I64(n:Int):AV:=.sc (.int .i64 n)
abbrev BB(b:Bool):AV:=.sc (.bool b)
section
variable {T:Tab} {Φ:H7} {θ:Nat->AV} {x y:AV} {a b:Int} {t:TypeId}
theorem wq0{l:List Nat}(h:∀ j∈l,∃ es,θ j=.rs es):j9 T Φ θ (.rows l)=some (BB true):=by
 simp only[j9];split
 ·rfl
 rename_i hf;exfalso;rw[Bool.eq_false_iff]at hf;apply hf;refine aj.2 fun j hj=>?_;obtain⟨es,e⟩:=h j hj;rw[e]
end
end Go.Ab
namespace Go.Ab
open Go
variable [B6]
theorem ev0{f:AV->Option AV}:∀ {l:List AV},(∀ c∈l,f c=some c)->kb0 f l=some l
 | [],_=>rfl
 | c::l,h=>by simp only[kb0,h c (by simp),ev0 (l:=l) (fun d a=>h d (by simp[a]))]
theorem ij0{f:AV->Option AV}:∀ {l:List (List AV)},(∀ c∈l,∀ d∈c,f d=some d)->tq0 f l=some l
 | [],_=>rfl
 | c::l,h=>by simp only[tq0,ev0 (h c (by simp)),ij0 (l:=l) (fun d a=>h d (by simp[a]))]
theorem kX0{σ:j3}:∀ (k:Nat) (v:AV),AV.pure k v=true->deep σ k v=some v
 | 0,v,h=>by simp[AV.pure]at h
 | k+1,v,h=>by
  have a:=kX0 (σ:=σ) k;cases v with
  | sc x=>rfl
  | rs es=>simp only[AV.pure]at h;simp only[deep];rw[ij0 (fun c hc d b=>a d (aj.1 (aj.1 h c hc) d b))]
  | agg cs=>simp only[AV.pure]at h;simp only[deep];rw[ev0 (fun c hc=>a c (aj.1 h c hc))]
  | tup cs=>simp only[AV.pure]at h;simp only[deep];rw[ev0 (fun c hc=>a c (aj.1 h c hc))]
  | _=>simp[AV.pure]at h
theorem wp0{k:Nat}{es:List (List AV)}(h:∀ c∈es,∀ d∈c,AV.pure k d=true):AV.pure (k+1) (.rs es)=true:=by simp only[AV.pure];exact aj.2 fun c hc=>aj.2 fun d a=>h c hc d a
theorem wh0{σ:j3}{k id z:Nat}{e:TypeId}{es:List (List AV)}(b:σ.objs id=some (.row e z es))(h:∀ c∈es,∀ d∈c,AV.pure k d=true):deep σ (k+1) (.ms id z 0 es.length)=some (.rs es):=by simp only[deep,b];rw[Af (by omega)];simp only[List.drop_zero,List.take_length];rw[ij0 (fun c a d f=>kX0 k d (h c a d f))]
theorem rB0{T:Tab}{t elem:TypeId}{z g:Nat}(h1:(T t).map TI.und=some (.slice elem))(h2:(T elem).map TI.size=some z)(a:(T elem).map TI.bytes=some g){es:List (List AV)}
  (hc:(es.all fun c=>c.length==z&&c.all AV.one)=true) (hl:(2*es.length+1000)*g<=2^48) (b:es.length<=2^62) (hz:0<z):∃ σ',oE0 T t [.rs es] j3.none=some (.ms 5 z 0 es.length,σ')/\σ'.objs 5=some (.row elem z es):=by
 cases d:T t with
 | none=>rw[d]at h1;cases h1
 | some ti=>
  rw[d]at h1;obtain⟨und,size,zero,bytes,flat⟩:=ti;simp only[ak,ah]at h1;subst h1;cases f:T elem with
  | none=>rw[f]at h2;cases h2
  | some i=>
   rw[f]at h2 a;simp only[ak,ah]at h2 a;subst h2;subst a;simp only[oE0,d,f,P6];rw[Af ⟨hc,hl,b,hz⟩];have h:(AV.rs es).isNil≠some true:=by cases es<;>simp[AV.isNil]
   split
   ·rename_i e;exact Am e h
   exact⟨_,rfl,by rw[j3.objs_set];rfl⟩
theorem jj0 {P:Program} {T:Tab} (hT:C0 P T) {f:FuncId} {fn:Func} {t elem:TypeId} {z h:Nat} (hf:P.funcs[f]?=some fn) (a:(fn.name== "runtime.NumGoroutine")=false) (e:la0 fn t=true)
  (h1:(T t).map TI.und=some (.slice elem)) (h2:(T elem).map TI.size=some z) (i:(T elem).map TI.bytes=some h) {es:List (List AV)} (hp:∀ c∈es,∀ d∈c,AV.pure 99 d=true)
  (hc:(es.all fun c=>c.length==z&&c.all AV.one)=true) (hl:(2*es.length+1000)*h<=2^48) (g:es.length<=2^62) (hz:0<z):E0 P ⟨f,[.rs es],.rs es⟩:=by
 obtain⟨σ',ha,j⟩:=rB0 h1 h2 i hc hl g hz;have b:([AV.rs es]).all (AV.pure 100)=true:=by rw[bU,gg,eP];exact wp0 (k:=99) hp
 exact fun σ=>lv0 (k:=100) b (wh0 (k:=99) j hp) (rs0 hT hf a (ss0 e) ha).1 σ
end Go.Ab
namespace Go.Ab
open Go
variable [B6]
noncomputable def pick(P:Program)(f:FuncId)(Q:List AV->AV->Prop)(args:List AV):Option AV :=open Classical in if h:∃ r,Q args r/\E0 P ⟨f,args,r⟩then some h.choose else none
end Go.Ab
namespace Go.Ab
open Go
variable [B6]
theorem Rel.frameH{G G':j4}{σ σv σv' σ':j3}{w w':World}(c:Rel G σ w)(f:∀ id o,σv.objs id=some o->σ.objs id=some o)(d:Rel G' σv' w')(h:Fr G σv w G' σv' w')(u:G'.w0=G.w0)
  (k:∀ id o,σ.objs id=some o->σv.objs id=none->G'.pl id=G.pl id) (v:∀ id o,σ.objs id=some o->σv.objs id=none->∀ p s,N1 G p o s->N1 G' p o s)
  (q:∀ id,σ'.next<=id->G'.pl id=none) (m:∀ id o,σ'.objs id=some o->σv'.objs id=some o\/(σ.objs id=some o/\σv.objs id=none)):Rel G' σ' w'/\Fr G σ w G' σ' w':=by
 have hs:=h.size;have e:∀ id o p,σ.objs id=some o->σv.objs id=none->G.pl id=some p->p.virt=false->∀ id0 o0 p0,σv.objs id0=some o0->G.pl id0=some p0->p0.virt=false->p0.block≠p.block :=fun id o p h1 h2 l n id0 o0 p0 g1 g2 g3 g4=>by have:=c.sep id0 id o0 o p0 p (f _ _ g1) h1 g2 l g3 n g4;rw[this,h2]at g1;cases g1
 refine⟨⟨d.os,d.tape,d.output,d.size,d.imm,q,fun id o s=>?_,fun i j oi oj pi pj h1 h2 l n v1 v2 t=>?_,d.glob⟩,?_⟩
 ·rcases m id o s with h1 | ⟨h1,h2⟩
  ·exact d.objs id o h1
  obtain⟨p,hp,hl⟩:=c.objs id o h1;refine⟨p,by rw[k _ _ h1 h2];exact hp,?_⟩;rcases hl with hl | ⟨hv,z,B,C⟩
  ·exact .inl hl
  refine .inr ⟨hv,?_,by rw[u];exact B,?_⟩
  ·cases r:G'.imm p.block with
   | none=>rfl
   | some x=>
    rcases h.imm _ _ r with g | g | ⟨id0,o0,p0,g1,g2,g3,g4⟩
    ·rw[z]at g;cases g
    ·have:=c.obj_lt h1 hp hv;omega
    exact Am g4 (e id o p h1 h2 hp hv id0 o0 p0 g1 g2 g3)
  rw[h.same p.block (c.obj_lt h1 hp hv) (fun id0 o0 p0 g1 g2 g3=>e id o p h1 h2 hp hv id0 o0 p0 g1 g2 g3)];exact v _ _ h1 h2 _ _ C
 ·have cross:∀ i j oi oj pi pj,σv'.objs i=some oi->σ.objs j=some oj->σv.objs j=none->G'.pl i=some pi->G'.pl j=some pj->pi.virt=false->pj.virt=false->pi.block≠pj.block:=by
   intro i j oi oj pi pj H a2 a3 a4 a5 I D M;have E:G.pl j=some pj:=by rw[<- k _ _ a2 a3];exact a5
   have J:=c.obj_lt a2 E D;obtain⟨id0,o0,p0,g1,g2,g3,g4⟩:=h.live i oi pi H a4 I (by omega);exact e j oj pj a2 a3 E D id0 o0 p0 g1 g2 g3 (by omega)
  rcases m i oi h1 with a | ⟨a,a'⟩<;>rcases m j oj h2 with b | ⟨b,b'⟩
  ·exact d.sep i j oi oj pi pj a b l n v1 v2 t
  ·exact Am t (cross i j oi oj pi pj a b b' l n v1 v2)
  ·exact Am t.symm (cross j i oj oi pj pi b a a' n l v2 v1)
  exact c.sep i j oi oj pi pj a b (by rw[<- k _ _ a a'];exact l) (by rw[<- k _ _ b b'];exact n) v1 v2 t
 refine⟨h.size,fun b r K=>h.same b r (fun id o p h1 h2 l=>K id o p (f _ _ h1) h2 l),fun id o p h1 h2 l n=>?_,fun b o r=>?_,h.drawn⟩
 ·rcases m id o h1 with a | ⟨a,a'⟩
  ·obtain⟨id0,o0,p0,g1,g2,g3,g4⟩:=h.live id o p a h2 l n
   exact⟨id0,o0,p0,f _ _ g1,g2,g3,g4⟩
  exact⟨id,o,p,a,by rw[<- k _ _ a a'];exact h2,l,rfl⟩
 rcases h.imm b o r with g | g | ⟨id0,o0,p0,g1,g2,g3,g4⟩
 ·exact .inl g
 ·exact .inr (.inl g)
 exact .inr (.inr ⟨id0,o0,p0,f _ _ g1,g2,g3,g4⟩)
def L2:List (Nat×l6)->Nat->Option l6
 | [],_=>none
 | p::l,i=>if i=p.1 then some p.2 else L2 l i
def addH:List (Nat×l6)->j3->j3
 | [],σ=>σ
 | p::l,σ=>(addH l σ).set p.1 p.2
theorem E8(σ:j3)(i:Nat):∀ H:List (Nat×l6),(addH H σ).objs i=match L2 H i with | some o=>some o | none=>σ.objs i
 | []=>rfl
 | p::l=>by
  simp only[addH,j3.objs_set,L2];split
  ·rfl
  exact E8 σ i l
theorem X9(σ:j3):∀ H:List (Nat×l6),(addH H σ).next=σ.next
 | []=>rfl
 | p::l=>by simp only[addH,j3.set_next];exact X9 σ l
theorem T6:∀ {H:List (Nat×l6)} {i:Nat} {o:l6},L2 H i=some o->(i,o)∈H
 | [],_,_,h=>by cases h
 | p::l,i,o,h=>by
  unfold L2 at h;split at h
  ·rename_i e;cases h;subst e;exact List.mem_cons_self
  exact List.mem_cons_of_mem _ (T6 h)
def AS.addH(H:List (Nat×l6))(s:AS):AS:={ s with st:=Go.Ab.addH H s.st }
@[simp] theorem AS.addH_st (H:List (Nat×l6)) (s:AS):(s.addH H).st=Go.Ab.addH H s.st:=rfl
@[simp] theorem AS.addH_n (H:List (Nat×l6)) (s:AS):(s.addH H).n=s.n:=rfl
def pureRow:l6->Bool
 | .row _ _ es=>kA0 es
 | _=>false
theorem pF0{G G':j4}(f:∀ b o,G.imm b=some o->G'.imm b=some o){o:l6}(h:pureRow o=true){p:Pl}{c:Option Obj}(hk:N1 G p o c):N1 G' p o c:=by
 cases o with
 | row e z es=>obtain⟨cs,g,k,l,m,d⟩:=hk;refine⟨cs,g,k,l,m,fun i hi=>⟨(d i hi).1,fun j hj a=>?_⟩⟩;exact O0 f ((d i hi).2 j hj a) (U6 (es:=es) (by simp only[AV.pur];exact h) i hi j hj)
 | _=>simp[pureRow]at h
theorem BWp.frame{P:Program}{n:Nat}{c:Code}{Q:Exit->AS->Prop}{s:AS}{H:List (Nat×l6)}(q:∀ p∈H,p.1<n/\pureRow p.2=true/\s.st.objs p.1=none)(h:BWp P n c Q s) :
  BWp P n c (fun e t=>∃ s',Q e s'/\t=s'.addH H) (s.addH H):=by
 intro u G a w l;have b:∀ i o,s.st.objs i=some o->(Go.Ab.addH H s.st).objs i=some o:=fun i o f=>by
  rw[E8];cases g:L2 H i with
  | none=>exact f
  | some o'=>have:=(q _ (T6 g)).2.2;rw[show ((i,o'):Nat×l6).1=i from rfl,f]at this;cases this
 have m:n<=s.st.next:=by have:(s.addH H).st.next=s.st.next:=X9 _ _;omega
 have r:W6 G s a w:=⟨l.defers,l.size,l.tmps,l.rel.less (X9 _ _).symm b⟩;refine wp_mono (h m G a w r) ?_;rintro e a' w' ⟨s',G',j,d,v⟩;have k:∀ id o,(Go.Ab.addH H s.st).objs id=some o->s.st.objs id=none->L2 H id=some o:=fun id o h1 h2=>by
  rw[E8]at h1;cases g:L2 H id with
  | none=>rw[g]at h1;simp only[h2]at h1;cases h1
  | some o'=>rw[g]at h1;exact h1
 have key:=Rel.frameH (σ:=Go.Ab.addH H s.st) (σv:=s.st) (σv':=s'.st) (σ':=Go.Ab.addH H s'.st) l.rel b d.rel j.fr j.w0
  (fun id o h1 h2=>j.pl id (q _ (T6 (k id o h1 h2))).1)
  (fun id o h1 h2 p f=>pF0 j.imm (q _ (T6 (k id o h1 h2))).2.1)
  (fun id hid=>d.rel.fresh id (by rw[X9]at hid;exact hid))
  (fun id o f=>by
   rw[E8]at f;cases g:L2 H id with
   | none=>rw[g]at f;exact .inl f
   | some o' =>
    rw[g]at f;simp only[ah]at f;subst f;exact .inr ⟨by rw[E8,g],(q _ (T6 g)).2.2⟩)
 refine⟨s'.addH H,G',⟨j.w0,j.imm,j.pl,?_,key.2⟩,⟨d.defers,d.size,d.tmps,key.1⟩,s',v,rfl⟩;have:(s'.addH H).st.next=s'.st.next:=X9 _ _;rw[this];exact j.nx
theorem BWp.lower{P:Program}{n m:Nat}{c:Code}{Q:Exit->AS->Prop}{s:AS}(hm:m<=n)(f:n<=s.st.next)(h:BWp P n c Q s):BWp P m c Q s:=by intro _ G a w g;refine wp_mono (h f G a w g) ?_;rintro e a' w' ⟨s',G',b,d,j⟩;exact⟨s',G',⟨b.w0,b.imm,fun i hi=>b.pl i (by omega),bC hm b.nx,b.fr⟩,d,j⟩
theorem BWp.raise{P:Program}{n k:Nat}{c:Code}{Q:Exit->AS->Prop}{s:AS}(hk:s.st.next<=k)(h:BWp P n c Q { s with st:={ s.st with next:=k } }):BWp P n c Q s:=by intro i G a w d;have f:W6 G { s with st:={ s.st with next:=k } } a w:=⟨d.defers,d.size,d.tmps,d.rel.next hk⟩;refine wp_mono (h (bC i hk) G a w f) ?_;rintro e a' w' ⟨s',G',b,g,j⟩;exact⟨s',G',⟨b.w0,b.imm,b.pl,b.nx,(Fr.less (σ:=s.st) (σ':={ s.st with next:=k }) (fun _ _ h=>h)).trans b.fr⟩,g,j⟩
end Go.Ab
namespace Go.Ab
open Go
variable [B6]
mutual
def AV.ids(p:Nat->Bool):AV->Bool
 | .ms id _ _ _=>p id
 | .mp id _ _=>p id
 | .mm id=>p id
 | .it id=>p id
 | .ss id _ _=>p id
 | .xp id _ _=>p id
 | .rs es=>mD0 p es
 | .rp cs=>kz0 p cs
 | .fn _ a c=>kz0 p a&&kz0 p c
 | .agg cs=>kz0 p cs
 | .tup cs=>kz0 p cs
 | .rm c=>c.ids p
 | _=>true
def kz0(p:Nat->Bool):List AV->Bool
 | []=>true
 | c::cs=>c.ids p&&kz0 p cs
def mD0(p:Nat->Bool):List (List AV)->Bool
 | []=>true
 | c::cs=>kz0 p c&&mD0 p cs
end
theorem U0{p:Nat->Bool}:∀ {l:List AV},kz0 p l=true->∀ v∈l,v.ids p=true
 | [],_,v,hv=>by cases hv
 | c::cs,h,v,hv=>by
  simp only[kz0,ab]at h;rcases aC.1 hv with rfl | hv
  ·exact h.1
  exact U0 h.2 v hv
theorem dc0{p:Nat->Bool}:∀ {l:List (List AV)},mD0 p l=true->∀ r∈l,kz0 p r=true
 | [],_,v,hv=>by cases hv
 | c::cs,h,v,hv=>by
  simp only[mD0,ab]at h;rcases aC.1 hv with rfl | hv
  ·exact h.1
  exact dc0 h.2 v hv
mutual
theorem kq0(p:Nat->Bool):∀ v:AV,v.pur=true->v.ids p=true
 | .sc _,_=>by simp[AV.ids]
 | .rs es,h=>by simp only[AV.pur]at h;simp only[AV.ids];exact nB0 p es h
 | .rp cs,h=>by simp only[AV.pur]at h;simp only[AV.ids];exact ci0 p cs h
 | .fn _ a c,h=>by simp only[AV.pur,ab]at h;simp only[AV.ids,ab];exact⟨ci0 p a h.1,ci0 p c h.2⟩
 | .agg cs,h=>by simp only[AV.pur]at h;simp only[AV.ids];exact ci0 p cs h
 | .tup cs,h=>by simp only[AV.pur]at h;simp only[AV.ids];exact ci0 p cs h
 | .rm c,h=>by simp only[AV.pur]at h;simp only[AV.ids];exact kq0 p c h
 | .any,h=>by simp[AV.pur]at h
 | .ms ..,h=>by simp[AV.pur]at h
 | .mp ..,h=>by simp[AV.pur]at h
 | .mm _,h=>by simp[AV.pur]at h
 | .it _,h=>by simp[AV.pur]at h
 | .sy _,h=>by simp[AV.pur]at h
 | .ss ..,h=>by simp[AV.pur]at h
 | .xp ..,h=>by simp[AV.pur]at h
theorem ci0(p:Nat->Bool):∀ l:List AV,kw0 l=true->kz0 p l=true
 | [],_=>by simp[kz0]
 | c::cs,h=>by simp only[kw0,ab]at h;simp only[kz0,ab];exact⟨kq0 p c h.1,ci0 p cs h.2⟩
theorem nB0(p:Nat->Bool):∀ l:List (List AV),kA0 l=true->mD0 p l=true
 | [],_=>by simp[mD0]
 | c::cs,h=>by simp only[kA0,ab]at h;simp only[mD0,ab];exact⟨ci0 p c h.1,nB0 p cs h.2⟩
end
mutual
theorem fu0{θ:Nat->AV}(b:Fit θ)(p:Nat->Bool):∀ v:AV,v.ids p=true->(v.sub θ).ids p=true
 | .sc _,_=>by simp[AV.sub,AV.ids]
 | .any,_=>by simp[AV.sub,AV.ids]
 | .sy i,_=>by rw[u9];exact kq0 p _ (b i).pur
 | .rs es,h=>by simp only[AV.ids]at h;simp only[AV.sub,AV.ids];exact jF0 b p es h
 | .rp cs,h=>by simp only[AV.ids]at h;simp only[AV.sub,AV.ids];exact ce0 b p cs h
 | .fn _ a c,h=>by simp only[AV.ids,ab]at h;simp only[AV.sub,AV.ids,ab];exact⟨ce0 b p a h.1,ce0 b p c h.2⟩
 | .agg cs,h=>by simp only[AV.ids]at h;simp only[AV.sub,AV.ids];exact ce0 b p cs h
 | .tup cs,h=>by simp only[AV.ids]at h;simp only[AV.sub,AV.ids];exact ce0 b p cs h
 | .rm c,h=>by simp only[AV.ids]at h;simp only[AV.sub,AV.ids];exact fu0 b p c h
 | .ms ..,h=>by simpa[AV.sub,AV.ids]using h
 | .mp ..,h=>by simpa[AV.sub,AV.ids]using h
 | .mm _,h=>by simpa[AV.sub,AV.ids]using h
 | .it _,h=>by simpa[AV.sub,AV.ids]using h
 | .ss ..,h=>by simpa[AV.sub,AV.ids]using h
 | .xp ..,h=>by simpa[AV.sub,AV.ids]using h
theorem ce0{θ:Nat->AV}(a:Fit θ)(p:Nat->Bool):∀ l:List AV,kz0 p l=true->kz0 p (Y9 θ l)=true
 | [],_=>by simp[Y9,kz0]
 | c::cs,h=>by simp only[kz0,ab]at h;simp only[Y9,kz0,ab];exact⟨fu0 a p c h.1,ce0 a p cs h.2⟩
theorem jF0{θ:Nat->AV}(a:Fit θ)(p:Nat->Bool):∀ l:List (List AV),mD0 p l=true->mD0 p (dI0 θ l)=true
 | [],_=>by simp[dI0,mD0]
 | c::cs,h=>by simp only[mD0,ab]at h;simp only[dI0,mD0,ab];exact⟨ce0 a p c h.1,jF0 a p cs h.2⟩
end
theorem vO0{G:j4}{ι:Nat->Option (Option Nat)}{p:Nat->Bool}(hp:∀ i,p i=true->ι i=some (some i)){v:AV}{u:Value}(o:Rep G v u):v.ids p=true->Rep (G.ren ι) v u:=by
 have e:∀ i q,p i=true->G.pl i=some q->(G.ren ι).pl i=some q:=fun i q hi g=>by simp only[j4.ren,hp i hi];exact g
 induction o with
 | any v=>intro _;exact .any v
 | sc v=>intro _;exact .sc v
 | rsNil=>intro _;exact .rsNil
 | rs es a cap size val hs hc hlen himm _ k=>intro h;simp only[AV.ids]at h;exact .rs es a cap size val hs hc hlen himm (fun i j hi hj=>k i j hi hj (U0 (dc0 h _ (aw hi)) _ (aw hj)))
 | rp cs a val hs himm _ k=>intro h;simp only[AV.ids]at h;exact .rp cs a val hs himm (fun j hj=>k j hj (U0 h _ (aw hj)))
 | ms id size off len q g hv hz a c ha s hl hsp=>intro h;simp only[AV.ids]at h;exact .ms id size off len q (e _ _ h g) hv hz a c ha s hl hsp
 | msNil id size q g hv=>intro h;simp only[AV.ids]at h;exact .msNil id size q (e _ _ h g) hv
 | mp id i j q g=>intro h;simp only[AV.ids]at h;exact .mp id i j q (e _ _ h g)
 | mm id q g=>intro h;simp only[AV.ids]at h;exact .mm id q (e _ _ h g)
 | it id q g=>intro h;simp only[AV.ids]at h;exact .it id q (e _ _ h g)
 | rm rows b ents himm hlen iB0 _ k=>
  intro h;simp only[AV.ids]at h;refine .rm rows b ents himm hlen iB0 (fun i hi d=>k i hi d ?_);have l:=dc0 h _ (aw hi);generalize rows[i]=r at l;unfold D5;split
  ·exact U0 l _ (by simp)
  simp[AV.ids]
 | fn f first cap fv cv h1 h2 _ _ m n=>intro h;simp only[AV.ids,ab]at h;exact .fn f first cap fv cv h1 h2 (fun i hi d=>m i hi d (U0 h.1 _ (aw hi))) (fun i hi d=>n i hi d (U0 h.2 _ (aw hi)))
 | agg cs vs h1 _ k=>intro h;simp only[AV.ids]at h;exact .agg cs vs h1 (fun i hi d=>k i hi d (U0 h _ (aw hi)))
 | tup cs vs h1 _ k=>intro h;simp only[AV.ids]at h;exact .tup cs vs h1 (fun i hi d=>k i hi d (U0 h _ (aw hi)))
theorem RV.ids{ι:Nat->Option (Option Nat)}{p:Nat->Bool}(hp:∀ i,p i=true->ι i=some (some i)){v:AV}(h:v.ids p=true):RV ι v v:=fun _ _ a=>vO0 hp a h
def l6.ids(p:Nat->Bool):l6->Bool
 | .row _ _ es=>mD0 p es
 | .map _ es _=>es.all fun e=>e.2.1.ids p
 | .siter _ _=>true
 | .miter none _ _ _=>true
 | .miter (some i) _ _ _=>p i
 | .xrow _ _ _=>true
 | .xmap c=>c.ids p
 | .frow ..=>false
 | .xiter _ _=>true
theorem gf0.ids{ι:Nat->Option (Option Nat)}{p:Nat->Bool}(hp:∀ i,p i=true->ι i=some (some i)){θ:Nat->AV}(f:Fit θ){o:l6}(h:o.ids p=true):gf0 ι (o.sub θ) (o.sub θ):=by
 cases o with
 | row e z es=>simp only[l6.ids]at h;have h2:=jF0 f p es h;rw[bm0]at h2;refine⟨rfl,rfl,rfl,fun i hi k=>⟨rfl,fun j hj q=>RV.ids hp ?_⟩⟩;exact U0 (dc0 h2 _ (aw hi)) _ (aw hj)
 | map agg es c=>
  simp only[l6.ids]at h;refine⟨rfl,rfl,rfl,fun i hi k=>⟨rfl,RV.ids hp ?_,rfl⟩⟩;have d:i<es.length:=by simpa using hi
  simp only[cn];exact fu0 f p _ (aj.1 h _ (aw d))
 | siter a b=>exact⟨rfl,rfl⟩
 | miter m a b c=>
  cases m with
  | none=>exact⟨rfl,rfl,rfl⟩
  | some i=>exact⟨hp i h,rfl,rfl,rfl⟩
 | xrow e z i=>
  refine⟨rfl,rfl,rfl,fun a ha t=>⟨rfl,fun b n u=>?_⟩⟩;rcases(f i).cases with ⟨_,_,e1⟩ | ⟨_,e1⟩ | ⟨_,e1⟩ | ⟨es,e1⟩ | ⟨_,e1⟩ | ⟨_,e1⟩
  ·simp[e1,rowsOf]at ha
  ·simp[e1,rowsOf]at ha
  ·simp[e1,rowsOf]at ha
  ·have l:=(f i).pur
   rw[e1]at l;simp only[e1,rowsOf]at ha n ⊢;exact RV.ids hp (kq0 p _ (U6 l a ha b n))
  ·simp[e1,rowsOf]at ha
  simp[e1,rowsOf]at ha
 | xmap c=>
  simp only[l6.ids]at h;have h2:=fu0 f p c h;simp only[l6.sub];refine⟨rfl,rfl,rfl,fun i hi k=>⟨rfl,RV.ids hp ?_,rfl⟩⟩;have d:i<(rowsOf (c.sub θ)).length:=by rw[E7]at hi;exact hi
  rw[X8 _ _ _ hi d];generalize c.sub θ=cc at *;cases cc with
  | rs es=>
   simp only[AV.ids]at h2;simp only[rowsOf]at d ⊢;have g:=dc0 h2 _ (aw d);generalize es[i]=r at g;unfold D5;split
   ·exact U0 g _ (by simp)
   simp[AV.ids]
  | _=>simp[rowsOf]at d
 | frow=>simp[l6.ids]at h
 | xiter s p=>exact⟨rfl,rfl⟩
end Go.Ab
namespace Go.Ab
open Go
variable [B6]
def cq0(row:List AV)(c:Nat×TypeId×Nat):l6:=.row c.2.1 c.2.2 (rowsOf (row.getD c.1 (.rs [])))
def fN0(r:Nat)(row:List AV):bt0->List (Nat×l6)
 | []=>[]
 | c::cs=>(hid r c.1,cq0 row c)::fN0 r row cs
def dh0(cols:bt0):Nat->List (List AV)->List (Nat×l6)
 | _,[]=>[]
 | r,row::rows=>fN0 r row cols++dh0 cols (r+1) rows
theorem ly0{r c:Nat}(hc:c<16)(a:16*(r+1)<=O6):hid r c=16*r+c:=Nat.mod_eq_of_lt (by omega)
theorem gD0(i:Nat):∀ a b:List (Nat×l6),L2 (a++b) i=match L2 a i with | some o=>some o | none=>L2 b i
 | [],b=>rfl
 | p::a,b=>by
  simp only[dB,L2];split
  ·rfl
  exact gD0 i a b
theorem gZ0{r:Nat}(a:16*(r+1)<=O6)(row:List AV)(i:Nat):∀ {cols:bt0},(∀ c∈cols,c.1<16)->L2 (fN0 r row cols) i=if i / 16=r then (U4 cols (i%16)).map (cq0 row)else none
 | [],_=>by simp[fN0,L2,U4]
 | c::cs,hc=>by
  have h1:=hc c (by simp);have b:=gZ0 a row i (cols:=cs) (fun c hm=>hc c (by simp[hm]));simp only[fN0,L2,ly0 h1 a];by_cases e:i=16*r+c.1
  ·have e1:i / 16=r:=by omega
   have e2:i%16=c.1:=by omega
   rw[Af e,Af e1,e2];simp[U4]
  rw[Ae e,b];split
  ·rename_i e1
   have e2:aB c.1 (i%16)=false:=by
    cases d:aB c.1 (i%16)with
    | false=>rfl
    | true=>have:=af d;omega
   simp[U4,e2]
  rfl
theorem em0{cols:bt0}(hc:∀ c∈cols,c.1<16)(i:Nat):∀ (rows:List (List AV)) (a:Nat),16*(a+rows.length)<=O6->L2 (dh0 cols a rows) i=if a<=i / 16 then (match rows[i / 16-a]? with | some row=>(U4 cols (i%16)).map (cq0 row) | none=>none)else none
 | [],a,_=>by simp[dh0,L2]
 | row::rows,a,b=>by
  have d:=em0 hc i rows (a+1) (by simp at b;omega);simp only[dh0];rw[gD0,gZ0 (by simp at b;omega) row i hc,d];by_cases e:i / 16=a
  ·simp only[e,Al,ax,Nat.sub_self,cq]
   cases U4 cols (i%16)with
   | some c=>rfl
   | none=>simp;intro h;omega
  simp only[e,Ah];by_cases e2:a<=i / 16
  ·have e3:a+1<=i / 16:=by omega
   have e4:i / 16-a=(i / 16-(a+1))+1:=by omega
   rw[Af e3,Af e2,e4,aR]
  rw[Ae (by omega),Ae e2]
def jO0(cols:bt0)(rows:List (List AV)):Prop:=16*rows.length<=O6/\(∀ c∈cols,c.1<16)/\(AV.rs rows).pur=true/\∀ r∈rows,∀ c∈cols,∃ xs,r[c.1]?=some (.rs xs)
theorem gy0{cols:bt0}:∀ {rows:List (List AV)} {a:Nat} {p:Nat×l6},p∈dh0 cols a rows->∃ r row c,rows[r]?=some row/\c∈cols/\p=(hid (a+r) c.1,cq0 row c)
 | [],_,_,h=>by simp[dh0]at h
 | row::rows,a,p,h=>by
  simp only[dh0,aQ]at h;rcases h with h | h
  ·have aux:∀ cs:bt0,p∈fN0 a row cs->∃ c∈cs,p=(hid a c.1,cq0 row c):=by
    intro cs
    induction cs with
    | nil=>intro h;simp[fN0]at h
    | cons c cs d=>
     intro h;simp only[fN0,aC]at h;rcases h with h | h
     ·exact⟨c,by simp,h⟩
     obtain⟨c',h1,h2⟩:=d h;exact⟨c',by simp[h1],h2⟩
   obtain⟨c,h1,h2⟩:=aux cols h;exact⟨0,row,c,by simp,h1,by simpa using h2⟩
  obtain⟨r,b,c,h1,h2,e⟩:=gy0 h;exact⟨r+1,b,c,by simpa using h1,h2,by rw[e];congr 2;omega⟩
theorem eB0{cols:bt0}{rows:List (List AV)}(h:jO0 cols rows){p:Nat×l6}(hp:p∈dh0 cols 0 rows):p.1<O6/\pureRow p.2=true:=by obtain⟨r,row,c,h1,h2,rfl⟩:=gy0 hp;refine⟨dC0 _ _,?_⟩;obtain⟨e,rfl⟩:=ar.1 h1;obtain⟨xs,f⟩:=h.2.2.2 _ (aw e) c h2;have a:=h.2.2.1;obtain⟨b,d⟩:=ar.1 f;have:=U6 a r e c.1 b;rw[d]at this;simp only[cq0,List.getD_eq_getElem?_getD,f,bS,rowsOf,pureRow];simpa only[AV.pur]using this
theorem RV.pur{ι:Nat->Option (Option Nat)}{v:AV}(h:v.pur=true):RV ι v v:=fun G _ a=>O0 (G:=G) (G':=G.ren ι) (fun _ _ b=>b) a h
theorem gf0.pureRow{ι:Nat->Option (Option Nat)}{o:l6}(h:pureRow o=true):gf0 ι o o:=by
 cases o with
 | row e z es=>exact⟨rfl,rfl,rfl,fun i hi a=>⟨rfl,fun j hj b=>RV.pur (U6 (es:=es) (by simp only[AV.pur];exact h) i hi j hj)⟩⟩
 | _=>simp[Go.Ab.pureRow]at h
theorem RV.ms{ι:Nat->Option (Option Nat)}{a b z o l:Nat}(h:ι a=some (some b)):RV ι (.ms a z o l) (.ms b z o l):=by
 intro G u d;cases d with
 | ms _ _ _ _ p hp hv hz e c f g hl hsp=>exact .ms a z o l p (by simp only[j4.ren,h];exact hp) hv hz e c f g hl hsp
 | msNil _ _ p hp hv=>exact .msNil a z p (by simp only[j4.ren,h];exact hp) hv
theorem RV.msNone{ι:Nat->Option (Option Nat)}{a z:Nat}(h:ι a=some none):RV ι (.ms a z 0 0) (.sc (.slice none 0 0)):=by intro G u b;cases b;exact .msNil a z ⟨0,0,0,true⟩ (by simp only[j4.ren,h]) rfl
theorem cf0(cols:bt0):∀ (row:List AV) (a j:Nat),(J5 cols a row)[j]?=(row[j]?).map (bf0 cols (a+j))
 | [],a,j=>by simp[J5]
 | v::vs,a,0=>by simp[J5]
 | v::vs,a,j+1=>by simp only[J5,aR];rw[cf0 cols vs (a+1) j];congr 2;omega
theorem dE0(cols:bt0):∀ (row:List AV) (a:Nat),(J5 cols a row).length=row.length
 | [],_=>rfl
 | _::vs,a=>by simp[J5,dE0 cols vs]
theorem V8(cols:bt0)(r j:Nat)(v:AV):aw0 cols r j v=match U4 cols j with | some c=>.ms (hid r j) c.2.2 0 (rowsOf v).length | none=>v:=rfl
theorem gf0.cells{ι:Nat->Option (Option Nat)}{e:TypeId}{z:Nat}{A B:List (List AV)}(hl:A.length=B.length)(h:∀ (r:Nat) (a b:List AV),A[r]?=some a->B[r]?=some b->a.length=b.length/\∀ (j:Nat) (x y:AV),a[j]?=some x->b[j]?=some y->RV ι x y):gf0 ι (.row e z A) (.row e z B):=by refine⟨rfl,rfl,hl,fun i hi c=>?_⟩;obtain⟨h1,h2⟩:=h i _ _ (ai hi) (ai c);exact⟨h1,fun j hj d=>h2 j _ _ (ai hj) (ai d)⟩
theorem ch0(q:Nat)(i:Nat):∀ H:List (Nat×l6),L2 (H.filter (fun p=>!Nat.beq p.1 q)) i=if i=q then none else L2 H i
 | []=>by simp[L2]
 | p::H=>by
  have a:=ch0 q i H;by_cases e:p.1=q
  ·have:aB p.1 q=true:=by rw[b_];exact e
   simp only[cA,this,Bool.not_true,aq,Ah,a,L2];by_cases e2:i=q
   ·simp[e2]
   rw[Ae e2,Ae e2,Ae (by omega)]
  have:aB p.1 q=false:=by
   cases b:aB p.1 q with
   | false=>rfl
   | true=>exact Am (af b) e
  simp only[cA,this,Bool.not_false,Al,L2,a];by_cases e2:i=q
  ·subst e2;rw[Af rfl,Ae (by omega)];simp
  rw[Ae e2];simp[e2]
theorem O2{cols:bt0}{j:Nat}{c:Nat×TypeId×Nat}(h:U4 cols j=some c):c∈cols/\c.1=j:=by refine⟨List.mem_of_find?_eq_some h,?_⟩;have:=List.find?_some h;exact af this
theorem mj0{cols:bt0}{r a j b n:Nat}(e:16*n<=O6)(f:r<n)(d:a<n)(hj:j<16)(c:b<16)(h:hid r j=hid a b):r=a/\j=b:=by rw[ly0 hj (by omega),ly0 c (by omega)]at h;omega
theorem jS0{cols:bt0}(hc:∀ c∈cols,c.1<16){rows:List (List AV)}(hl:16*rows.length<=O6){r j:Nat}{row:List AV}(a:rows[r]?=some row)(hj:j<16):L2 (dh0 cols 0 rows) (hid r j)=(U4 cols j).map (cq0 row):=by
 have b:=(ar.1 a).1;rw[em0 hc _ _ _ (by simpa using hl),ly0 hj (by omega)];have e1:(16*r+j) / 16=r:=by omega
 have e2:(16*r+j)%16=j:=by omega
 simp only[e1,e2,cN,Al,Nat.sub_zero,a]
theorem kd0{cols:bt0}{rows:List (List AV)}{i:Nat}(hi:O6<=i):L2 (dh0 cols 0 rows) i=none:=by
 cases a:L2 (dh0 cols 0 rows) i with
 | none=>rfl
 | some o=>obtain⟨r,row,c,_,_,q3⟩:=gy0 (T6 a);cases q3;have:=dC0 (0+r) c.1;omega
def N2(rows:List (List AV))(k off:Nat)(v:AV):List (List AV):=match rows[k]? with
 | some row=>rows.set k (row.set off v)
 | none=>rows
theorem im0{rows:List (List AV)}{k off:Nat}{v:AV}{row:List AV}(a:rows[k]?=some row)(r:Nat):(N2 rows k off v)[r]?=if r=k then some (row.set off v)else rows[r]?:=by
 have hk:=(ar.1 a).1;simp only[N2,a,cd];by_cases e:k=r
 ·subst e;simp[hk]
 simp[e,Ne.symm e]
theorem P5{rows:List (List AV)}{k off:Nat}{v:AV}:(N2 rows k off v).length=rows.length:=by unfold N2;split<;>simp
theorem jO0.put{cols:bt0}{rows:List (List AV)}(h:jO0 cols rows){k off:Nat}{xs:List (List AV)}(m:(AV.rs xs).pur=true):jO0 cols (N2 rows k off (.rs xs)):=by
 obtain⟨h1,h2,j,l⟩:=h;cases a:rows[k]? with
 | none=>
  have:N2 rows k off (.rs xs)=rows:=by simp[N2,a]
  rw[this];exact⟨h1,h2,j,l⟩
 | some row=>
  have g:row∈rows:=aN a;have f:∀ r∈N2 rows k off (.rs xs),r=row.set off (.rs xs)\/r∈rows:=fun r b=>by
   obtain⟨i,hi⟩:=List.mem_iff_getElem?.1 b;rw[im0 a]at hi;split at hi
   ·cases hi;exact .inl rfl
   exact .inr (aN hi)
  refine⟨by rw[P5];exact h1,h2,?_,fun r b c hc=>?_⟩
  ·simp only[AV.pur,eX0,aj]at j m ⊢
   intro r b x d;rcases f r b with rfl | b
   ·rcases List.mem_or_eq_of_mem_set d with d | rfl
    ·exact j row g x d
    simp only[AV.pur,eX0,aj];exact m
   exact j r b x d
  rcases f r b with rfl | b
  ·obtain⟨o,n⟩:=l row g c hc
   rw[cd];split
   ·rename_i e
    have p:=(ar.1 n).1;rw[Af (by omega)];exact⟨xs,rfl⟩
   exact⟨o,n⟩
  exact l r b c hc
end Go.Ab
namespace Go.Ab
open Go
variable [B6]
def pQ0(n:Nat)(R:List AV)(i:Nat):AV:=match cm i n with
 | true=>(R[n-1-i]?).getD (.sc (.bool false))
 | false=>.sc (.bool false)
theorem aL0(R:List AV):env R.reverse=pQ0 R.length R:=by
 funext i;unfold env pQ0;cases a:cm i R.length with
 | true=>
  have hi:i<R.length:=by simpa[aZ]using a
  simp only;rw[List.getElem?_reverse hi]
 | false=>
  have hi:¬ i<R.length:=fun h=>by rw[<- aZ]at h;rw[a]at h;cases h
  simp only;rw[bD (by simp;omega)];rfl
def X4(T:Tab)(Φ:H7)(Q:AV->Prop)(r:RT)(n:Nat)(R:List AV)(A:Nat->List AV->Prop):Prop:=n=R.length->Y6 T Φ Q r R.reverse A
section
variable {T:Tab} {Φ:H7} {Q:AV->Prop} {n:Nat} {R:List AV} {A:Nat->List AV->Prop}
theorem X4.opL{o:RO}{pat:AV}{r:RT}(vs:List AV)(he:j9 T Φ (pQ0 n R) o=some (pat.sub (pQ0 (n+vs.length) (vs++R))))(hv:∀ v∈vs,aU0 v)(h:X4 T Φ Q r (n+vs.length) (vs++R) A):X4 T Φ Q (.op o n pat r) n R A:=fun a=>by
 subst a;have e:(vs++R).reverse=R.reverse++vs.reverse:=by simp
 refine Y6.opL vs.reverse (by rw[aL0,he,<-e,aL0];congr 3;simp[gr]) (by simp) (fun v hm=>hv v (by simpa using hm)) ?_;have:=h (by simp[gr]);rw[e]at this;exact this
theorem X4.test{i:Nat}{a b:RT}(t:Bool)(hi:pQ0 n R i=.sc (.bool t))(h1:t=true->X4 T Φ Q a n R A)(h2:t=false->X4 T Φ Q b n R A):X4 T Φ Q (.test i a b) n R A:=fun c=>by subst c;exact Y6.test t (by rw[aL0];exact hi) (fun h=>h1 h rfl) (fun h=>h2 h rfl)
theorem X4.retL{c:AV}{l:List Nat}(hl:∀ j∈l,∃ es,pQ0 n R j=.rs es)(h:Q (c.sub (pQ0 n R))):X4 T Φ Q (.ret c l) n R A:=fun a=>by subst a;exact Y6.retL (by rw[aL0];exact hl) (by rw[aL0];exact h)
theorem X4.loop{k:Nat}{inits:List AV}{body:RT}(I:Nat->List AV->Prop)(d:body.bnd (n+k+1)=true)(n0:Nat)(e:I n0 (inits.map (AV.sub (pQ0 n R))))
  (h:∀ m vals,I m vals->vals.length=k->X4 T Φ Q body (n+k+1) (.sc (.bool false)::(vals.reverse++R)) (fun b=>if b=n then (fun a=>∃ c,c<m/\I c a)else A b)):X4 T Φ Q (.loop n k inits body) n R A:=fun f=>by
 subst f;refine Y6.loop I (by simp) d n0 (by rw[aL0];exact e) (fun m vals hi hl=>?_);have:=h m vals hi hl (by simp[hl];omega);simpa using this
end
end Go.Ab
namespace Go.Ab
open Go
variable [B6]
section
variable {T:Tab} {Φ:H7} {θ:Nat->AV} {x y:AV} {a b:Int} {t:TypeId} {k:IntKind}
end
end Go.Ab
namespace Go.Ab
open Go
variable [B6]
mutual
inductive Sp where
 | int (k:IntKind)
 | bool
 | str
 | tt
 | nl
 | sl (l:SpL)
 | agg (l:SpL)
 | ptr (l:SpL)
 | fmap (l:SpL)
 | tup (l:SpL)
 | fn (g:Nat) (l:SpL)
inductive SpL where
 | nil
 | one (s:Sp)
 | cons (s:Sp) (l:SpL)
end
mutual
@[reducible] def Sp.T:Sp->Type
 | .int _=>Int
 | .bool=>Bool
 | .str=>ByteArray
 | .tt=>Unit
 | .nl=>Unit
 | .sl l=>List l.T
 | .agg l=>l.T
 | .ptr l=>l.T
 | .fmap l=>List l.T
 | .tup l=>l.T
 | .fn _ l=>l.T
@[reducible] def SpL.T:SpL->Type
 | .nil=>Unit
 | .one s=>s.T
 | .cons s l=>s.T×l.T
end
mutual
def enc:(s:Sp)->s.T->AV
 | .int k,n=>.sc (.int k n)
 | .bool,b=>.sc (.bool b)
 | .str,s=>.sc (.string s)
 | .tt,_=>.sc (.bool true)
 | .nl,_=>.sc (.slice none 0 0)
 | .sl l,xs=>.rs (xs.map (y9 l))
 | .agg l,x=>.agg (y9 l x)
 | .ptr l,x=>.rp (y9 l x)
 | .fmap l,xs=>.rm (.rs (xs.map (y9 l)))
 | .tup l,x=>.tup (y9 l x)
 | .fn g l,x=>.fn (.func g) [] (y9 l x)
def y9:(l:SpL)->l.T->List AV
 | .nil,_=>[]
 | .one s,x=>[enc s x]
 | .cons s l,x=>enc s x.1::y9 l x.2
end
def IntKind.eqb:IntKind->IntKind->Bool
 | .i8,.i8=>true
 | .i16,.i16=>true
 | .i32,.i32=>true
 | .i64,.i64=>true
 | .u8,.u8=>true
 | .u16,.u16=>true
 | .u32,.u32=>true
 | .u64,.u64=>true
 | _,_=>false
theorem IntKind.eqb_eq:∀ {a b:IntKind},IntKind.eqb a b=true->a=b:=by intro a b h;cases a<;>cases b<;>first | rfl | (simp[IntKind.eqb]at h)
mutual
def Sp.eqb:Sp->Sp->Bool
 | .int k,.int b=>IntKind.eqb k b
 | .bool,.bool=>true
 | .str,.str=>true
 | .tt,.tt=>true
 | .nl,.nl=>true
 | .sl l,.sl a=>l.eqb a
 | .agg l,.agg a=>l.eqb a
 | .ptr l,.ptr a=>l.eqb a
 | .fmap l,.fmap a=>l.eqb a
 | .tup l,.tup a=>l.eqb a
 | .fn g l,.fn c a=>aB g c&&l.eqb a
 | _,_=>false
def SpL.eqb:SpL->SpL->Bool
 | .nil,.nil=>true
 | .one s,.one s'=>s.eqb s'
 | .cons s l,.cons s' a=>s.eqb s'&&l.eqb a
 | _,_=>false
end
mutual
theorem Sp.eqb_eq:∀ (a b:Sp),a.eqb b=true->a=b
 | .int k,b,h=>by cases b<;>simp[Sp.eqb]at h;rw[IntKind.eqb_eq h]
 | .bool,b,h=>by cases b<;>simp[Sp.eqb]at h;rfl
 | .str,b,h=>by cases b<;>simp[Sp.eqb]at h;rfl
 | .tt,b,h=>by cases b<;>simp[Sp.eqb]at h;rfl
 | .nl,b,h=>by cases b<;>simp[Sp.eqb]at h;rfl
 | .sl l,b,h=>by cases b<;>simp[Sp.eqb]at h;rw[SpL.eqb_eq l _ h]
 | .agg l,b,h=>by cases b<;>simp[Sp.eqb]at h;rw[SpL.eqb_eq l _ h]
 | .ptr l,b,h=>by cases b<;>simp[Sp.eqb]at h;rw[SpL.eqb_eq l _ h]
 | .fmap l,b,h=>by cases b<;>simp[Sp.eqb]at h;rw[SpL.eqb_eq l _ h]
 | .tup l,b,h=>by cases b<;>simp[Sp.eqb]at h;rw[SpL.eqb_eq l _ h]
 | .fn g l,b,h=>by cases b<;>simp[Sp.eqb]at h;rw[h.1,SpL.eqb_eq l _ h.2]
theorem SpL.eqb_eq:∀ (a b:SpL),a.eqb b=true->a=b
 | .nil,b,h=>by cases b<;>simp[SpL.eqb]at h;rfl
 | .one s,b,h=>by cases b<;>simp[SpL.eqb]at h;rw[Sp.eqb_eq s _ h]
 | .cons s l,b,h=>by cases b<;>simp[SpL.eqb]at h;rw[Sp.eqb_eq s _ h.1,SpL.eqb_eq l _ h.2]
end
def nb0{a b:Sp}(h:a.eqb b=true)(x:a.T):b.T:=(Sp.eqb_eq a b h)▸x
theorem bK0{a b:Sp}(h:a.eqb b=true)(x:a.T):enc b (nb0 h x)=enc a x:=by have:=Sp.eqb_eq a b h;subst this;rfl
def SpL.len:SpL->Nat
 | .nil=>0
 | .one _=>1
 | .cons _ l=>l.len+1
theorem D1:∀ (l:SpL) (x:l.T),(y9 l x).length=l.len
 | .nil,_=>rfl
 | .one _,_=>rfl
 | .cons s l,x=>by simp[y9,SpL.len,D1 l x.2]
mutual
theorem mE0:∀ (s:Sp) (x:s.T),(enc s x).pur=true
 | .int _,_=>rfl
 | .bool,_=>rfl
 | .str,_=>rfl
 | .tt,_=>rfl
 | .nl,_=>rfl
 | .sl l,xs=>by simp only[enc,AV.pur,eX0,dR,aj];intro x _;exact ac0 l x
 | .agg l,x=>by simp only[enc,AV.pur,Z1];exact ac0 l x
 | .ptr l,x=>by simp only[enc,AV.pur,Z1];exact ac0 l x
 | .fmap l,xs=>by simp only[enc,AV.pur,eX0,dR,aj];intro x _;exact ac0 l x
 | .tup l,x=>by simp only[enc,AV.pur,Z1];exact ac0 l x
 | .fn g l,x=>by simp only[enc,AV.pur,Z1,gg,dD];exact ac0 l x
theorem ac0:∀ (l:SpL) (x:l.T),(y9 l x).all AV.pur=true
 | .nil,_=>rfl
 | .one s,x=>by simp only[y9,bU,gg,eP];exact mE0 s x
 | .cons s l,x=>by simp only[y9,bU,mE0 s x.1,ac0 l x.2,eB]
end
def Sp.cell:Sp->Bool
 | .int _=>true
 | .bool=>true
 | .str=>true
 | .sl _=>true
 | .ptr _=>true
 | .fmap _=>true
 | _=>false
theorem tP0{s:Sp}(h:s.cell=true)(x:s.T):aU0 (enc s x):=by have hp:=mE0 s x;cases s<;>simp[Sp.cell]at h<;>simp only[enc]at hp ⊢<;>first | trivial | exact hp
def Env:List Sp->Type
 | []=>Unit
 | s::Γ=>s.T×Env Γ
def fY0:(Γ:List Sp)->Env Γ->List AV
 | [],_=>[]
 | s::Γ,e=>enc s e.1::fY0 Γ e.2
theorem D7:∀ (Γ:List Sp) (e:Env Γ),(fY0 Γ e).length=Γ.length
 | [],_=>rfl
 | s::Γ,e=>by simp[fY0,D7 Γ e.2]
def thE(Γ:List Sp)(e:Env Γ):Nat->AV:=pQ0 Γ.length (fY0 Γ e)
def oN0:(Γ:List Sp)->Nat->(s:Sp)->Option (Env Γ->s.T)
 | [],_,_=>none
 | g::_,0,s=>match h:g.eqb s with
  | true=>some fun e=>nb0 h e.1
  | false=>none
 | _::Γ,j+1,s=>match oN0 Γ j s with
  | some f=>some fun e=>f e.2
  | none=>none
theorem nt0:∀ (Γ:List Sp) (j:Nat) (s:Sp) (f:Env Γ->s.T),oN0 Γ j s=some f->∀ e,(fY0 Γ e)[j]?=some (enc s (f e))
 | [],_,_,_,h,_=>by simp[oN0]at h
 | g::Γ,0,s,f,h,e=>by
  unfold oN0 at h;split at h
  ·rename_i b
   cases h;simp[fY0,bK0]
  cases h
 | g::Γ,j+1,s,f,h,e=>by
  unfold oN0 at h;split at h
  ·rename_i a hf
   cases h;have:=nt0 Γ j s a hf e.2;simpa[fY0]using this
  cases h
def vF0(Γ:List Sp)(i:Nat)(s:Sp):Option (Env Γ->s.T):=match cm i Γ.length with
 | true=>oN0 Γ (Γ.length-1-i) s
 | false=>none
theorem mW0{Γ:List Sp}{i:Nat}{s:Sp}{f:Env Γ->s.T}(h:vF0 Γ i s=some f)(e:Env Γ):thE Γ e i=enc s (f e):=by
 unfold vF0 at h;split at h
 ·rename_i a
  have:=nt0 Γ _ s f h e;unfold thE pQ0;rw[a];simp only[this,bS]
 cases h
def shOf(Γ:List Sp)(i:Nat):Option Sp:=match cm i Γ.length with
 | true=>Γ[Γ.length-1-i]?
 | false=>none
def tsc:Value->(s:Sp)->Option s.T
 | .int k n,.int a=>match IntKind.eqb k a with
  | true=>some n
  | false=>none
 | .bool b,.bool=>some b
 | .string s,.str=>some s
 | .slice none 0 0,.nl=>some ()
 | _,_=>none
theorem ui0{v:Value}{s:Sp}{x:s.T}(h:tsc v s=some x):AV.sc v=enc s x:=by
 unfold tsc at h;split at h
 ·split at h
  ·rename_i a
   cases h;rw[IntKind.eqb_eq a];rfl
  cases h
 ·cases h;rfl
 ·cases h;rfl
 ·rfl
 cases h
mutual
def L3(Γ:List Sp):AV->(s:Sp)->Option (Env Γ->s.T)
 | .sy i,s=>vF0 Γ i s
 | .sc v,s=>match tsc v s with
  | some x=>some fun _=>x
  | none=>none
 | .agg cs,.agg l=>bu0 Γ cs l
 | .tup cs,.tup l=>bu0 Γ cs l
 | .rp cs,.ptr l=>bu0 Γ cs l
 | .rs es,.sl l=>qF0 Γ es l
 | .rm c,.fmap l=>L3 Γ c (.sl l)
 | .fn (.func g) [] c,.fn a l=>match aB g a with
  | true=>bu0 Γ c l
  | false=>none
 | _,_=>none
def bu0(Γ:List Sp):List AV->(l:SpL)->Option (Env Γ->l.T)
 | [],.nil=>some fun _=>()
 | [a],.one s=>L3 Γ a s
 | a::as,.cons s l=>match L3 Γ a s with
  | some f=>match bu0 Γ as l with
   | some g=>some fun e=>(f e,g e)
   | none=>none
  | none=>none
 | _,_=>none
def qF0(Γ:List Sp):List (List AV)->(l:SpL)->Option (Env Γ->List l.T)
 | [],_=>some fun _=>[]
 | r::rs,l=>match bu0 Γ r l with
  | some f=>match qF0 Γ rs l with
   | some g=>some fun e=>f e::g e
   | none=>none
  | none=>none
end
mutual
theorem n4{Γ:List Sp}:∀ (a:AV) (s:Sp) (f:Env Γ->s.T),L3 Γ a s=some f->∀ e,a.sub (thE Γ e)=enc s (f e)
 | .sy i,s,f,h,e=>by simp only[L3]at h;simp only[AV.sub];exact mW0 h e
 | .sc v,s,f,h,e=>by
  simp only[L3]at h;split at h
  ·rename_i x b;cases h;simp only[AV.sub];exact ui0 b
  cases h
 | .agg cs,s,f,h,e=>by
  cases s<;>simp only[L3]at h<;>try (cases h;done)
  simp only[AV.sub,enc,X2 cs _ _ h e]
 | .tup cs,s,f,h,e=>by
  cases s<;>simp only[L3]at h<;>try (cases h;done)
  simp only[AV.sub,enc,X2 cs _ _ h e]
 | .rp cs,s,f,h,e=>by
  cases s<;>simp only[L3]at h<;>try (cases h;done)
  simp only[AV.sub,enc,X2 cs _ _ h e]
 | .rs es,s,f,h,e=>by
  cases s<;>simp only[L3]at h<;>try (cases h;done)
  simp only[AV.sub,enc,nZ0 es _ _ h e]
 | .rm c,s,f,h,e=>by
  cases s<;>simp only[L3]at h<;>try (cases h;done)
  simp only[AV.sub,enc,n4 c _ _ h e]
 | .fn g a c,s,f,h,e=>by
  cases g<;>cases a<;>cases s<;>simp only[L3]at h<;>try (cases h;done)
  split at h
  ·rename_i d
   have:=af d;subst this;simp only[AV.sub,enc,X2 c _ _ h e,Y9]
  cases h
 | .any,s,f,h,e=>by cases s<;>simp only[L3]at h<;>cases h
 | .ms _ _ _ _,s,f,h,e=>by cases s<;>simp only[L3]at h<;>cases h
 | .mp _ _ _,s,f,h,e=>by cases s<;>simp only[L3]at h<;>cases h
 | .mm _,s,f,h,e=>by cases s<;>simp only[L3]at h<;>cases h
 | .it _,s,f,h,e=>by cases s<;>simp only[L3]at h<;>cases h
 | .ss _ _ _,s,f,h,e=>by cases s<;>simp only[L3]at h<;>cases h
 | .xp _ _ _,s,f,h,e=>by cases s<;>simp only[L3]at h<;>cases h
theorem X2{Γ:List Sp}:∀ (as:List AV) (l:SpL) (f:Env Γ->l.T),bu0 Γ as l=some f->∀ e,Y9 (thE Γ e) as=y9 l (f e)
 | [],l,f,h,e=>by
  cases l<;>simp only[bu0]at h<;>try (cases h;done)
  rfl
 | [a],l,f,h,e=>by
  cases l with
  | nil=>simp only[bu0]at h;cases h
  | one s=>simp only[bu0]at h;simp only[Y9,y9,n4 a s f h e]
  | cons s l=>
   simp only[bu0]at h;split at h
   ·rename_i c hf
    split at h
    ·rename_i g d
     cases h;have:=X2 [] l g (by simpa only[bu0]using d) e;simp only[Y9]at this;simp only[Y9,y9,n4 a s c hf e,<-this]
    cases h
   cases h
 | a::b::as,l,f,h,e=>by
  cases l with
  | nil=>simp only[bu0]at h;cases h
  | one s=>simp only[bu0]at h;cases h
  | cons s l=>
   simp only[bu0]at h;split at h
   ·rename_i c hf
    split at h
    ·rename_i g d
     cases h;have:=X2 (b::as) l g d e;rw[Y9,y9,n4 a s c hf e,this]
    cases h
   cases h
theorem nZ0{Γ:List Sp}:∀ (es:List (List AV)) (l:SpL) (f:Env Γ->List l.T),qF0 Γ es l=some f->∀ e,dI0 (thE Γ e) es=(f e).map (y9 l)
 | [],l,f,h,e=>by simp only[qF0]at h;cases h;rfl
 | r::rs,l,f,h,e=>by
  simp only[qF0]at h;split at h
  ·rename_i a hf
   split at h
   ·rename_i g b
    cases h;simp only[dI0,az,X2 r l a hf e,nZ0 rs l g b e]
   cases h
  cases h
end
def SpL.ofList:List Sp->SpL
 | []=>.nil
 | [s]=>.one s
 | s::t=>.cons s (SpL.ofList t)
mutual
def shp(Γ:List Sp):AV->Option Sp
 | .sy i=>shOf Γ i
 | .sc (.int k _)=>some (.int k)
 | .sc (.bool _)=>some .bool
 | .sc (.string _)=>some .str
 | .sc (.slice none 0 0)=>some .nl
 | .agg cs=>match shpL Γ cs with
  | some l=>some (.agg (SpL.ofList l))
  | none=>none
 | .rp cs=>match shpL Γ cs with
  | some l=>some (.ptr (SpL.ofList l))
  | none=>none
 | .rs (r::_)=>match shpL Γ r with
  | some l=>some (.sl (SpL.ofList l))
  | none=>none
 | .rm c=>match shp Γ c with
  | some (.sl l)=>some (.fmap l)
  | _=>none
 | _=>none
def shpL(Γ:List Sp):List AV->Option (List Sp)
 | []=>some []
 | a::as=>match shp Γ a with
  | some s=>match shpL Γ as with
   | some l=>some (s::l)
   | none=>none
  | none=>none
end
structure Ext(X:Type)(Γ:List Sp) where
 Γ':List Sp
 push:X->Env Γ->Env Γ'
def wE0:Value->(s:Sp)->(Γ:List Sp)->Option (Ext s.T Γ)
 | .bool b,.tt,Γ=>match b with
  | true=>some ⟨Γ,fun _ e=>e⟩
  | false=>none
 | _,_,_=>none
mutual
def bD0:AV->(s:Sp)->(Γ:List Sp)->Option (Ext s.T Γ)
 | .sy i,s,Γ=>match aB i Γ.length&&s.cell with
  | true=>some ⟨s::Γ,fun v e=>(v,e)⟩
  | false=>none
 | .sc w,s,Γ=>wE0 w s Γ
 | .agg cs,.agg l,Γ=>cC0 cs l Γ
 | .rp cs,.ptr l,Γ=>cC0 cs l Γ
 | .tup cs,.tup l,Γ=>cC0 cs l Γ
 | .fn (.func g) [] cs,.fn g2 l,Γ=>match aB g g2 with
  | true=>cC0 cs l Γ
  | false=>none
 | _,_,_=>none
def cC0:List AV->(l:SpL)->(Γ:List Sp)->Option (Ext l.T Γ)
 | [],.nil,Γ=>some ⟨Γ,fun _ e=>e⟩
 | [a],.one s,Γ=>bD0 a s Γ
 | a::as,.cons s l,Γ=>match bD0 a s Γ with
  | some ⟨b,p1⟩=>match cC0 as l b with
   | some ⟨c,p2⟩=>some ⟨c,fun v e=>p2 v.2 (p1 v.1 e)⟩
   | none=>none
  | none=>none
 | _,_,_=>none
end
def rc0{Γ:List Sp}{X:Type}(x:Ext X Γ)(sub:(Nat->AV)->Prop)(v:X)(e:Env Γ):Prop :=∃ vs,fY0 x.Γ' (x.push v e)=vs++fY0 Γ e/\(∀ u∈vs,aU0 u)/\∀ us,sub (pQ0 (us++(vs++fY0 Γ e)).length (us++(vs++fY0 Γ e)))
theorem vA0(us:List AV)(v:AV)(R:List AV):pQ0 (us++(v::R)).length (us++(v::R)) R.length=v:=by
 unfold pQ0;have h:cm R.length (us++(v::R)).length=true:=by rw[aZ];simp;omega
 rw[h];simp only;have h2:(us++(v::R)).length-1-R.length=us.length:=by simp
 rw[h2];simp
theorem tG0{w:Value}{s:Sp}{Γ:List Sp}{x:Ext s.T Γ}(h:wE0 w s Γ=some x)(v:s.T)(e:Env Γ):rc0 x (fun θ=>(AV.sc w).sub θ=enc s v) v e:=by
 unfold wE0 at h;split at h
 ·split at h
  ·cases h
   exact⟨[],rfl,by simp,fun us=>rfl⟩
  cases h
 cases h
mutual
theorem gm0:∀ (a:AV) (s:Sp) (Γ:List Sp) (x:Ext s.T Γ),bD0 a s Γ=some x->∀ v e,rc0 x (fun θ=>a.sub θ=enc s v) v e
 | .sy i,s,Γ,x,h,v,e=>by
  simp only[bD0]at h;split at h
  ·rename_i d
   cases h;simp only[ab]at d;have hi:=af d.1;refine⟨[enc s v],rfl,?_,fun us=>?_⟩
   ·intro u hu
    simp only[bJ]at hu;subst hu;exact tP0 d.2 v
   simp only[AV.sub];rw[hi,<-D7 Γ e];exact vA0 us _ _
  cases h
 | .sc w,s,Γ,x,h,v,e=>by simp only[bD0]at h;exact tG0 h v e
 | .agg cs,s,Γ,x,h,v,e=>by
  cases s<;>simp only[bD0]at h<;>try (cases h;done)
  rename_i l;obtain⟨vs,h1,h2,b⟩:=bg0 cs l Γ x h v e;exact⟨vs,h1,h2,fun us=>by simp only[AV.sub,enc,b us]⟩
 | .rp cs,s,Γ,x,h,v,e=>by
  cases s<;>simp only[bD0]at h<;>try (cases h;done)
  rename_i l;obtain⟨vs,h1,h2,b⟩:=bg0 cs l Γ x h v e;exact⟨vs,h1,h2,fun us=>by simp only[AV.sub,enc,b us]⟩
 | .tup cs,s,Γ,x,h,v,e=>by
  cases s<;>simp only[bD0]at h<;>try (cases h;done)
  rename_i l;obtain⟨vs,h1,h2,b⟩:=bg0 cs l Γ x h v e;exact⟨vs,h1,h2,fun us=>by simp only[AV.sub,enc,b us]⟩
 | .rs _,s,Γ,x,h,v,e=>by cases s<;>simp only[bD0]at h<;>cases h
 | .rm _,s,Γ,x,h,v,e=>by cases s<;>simp only[bD0]at h<;>cases h
 | .fn g a c,s,Γ,x,h,v,e=>by
  cases g<;>cases a<;>cases s<;>simp only[bD0]at h<;>try (cases h;done)
  split at h
  ·rename_i d
   have:=af d;subst this;obtain⟨vs,h1,h2,b⟩:=bg0 c _ Γ x h v e;exact⟨vs,h1,h2,fun us=>by simp only[AV.sub,enc,b us,Y9]⟩
  cases h
 | .any,s,Γ,x,h,v,e=>by cases s<;>simp only[bD0]at h<;>cases h
 | .ms _ _ _ _,s,Γ,x,h,v,e=>by cases s<;>simp only[bD0]at h<;>cases h
 | .mp _ _ _,s,Γ,x,h,v,e=>by cases s<;>simp only[bD0]at h<;>cases h
 | .mm _,s,Γ,x,h,v,e=>by cases s<;>simp only[bD0]at h<;>cases h
 | .it _,s,Γ,x,h,v,e=>by cases s<;>simp only[bD0]at h<;>cases h
 | .ss _ _ _,s,Γ,x,h,v,e=>by cases s<;>simp only[bD0]at h<;>cases h
 | .xp _ _ _,s,Γ,x,h,v,e=>by cases s<;>simp only[bD0]at h<;>cases h
theorem bg0:∀ (as:List AV) (l:SpL) (Γ:List Sp) (x:Ext l.T Γ),cC0 as l Γ=some x->∀ v e,rc0 x (fun θ=>Y9 θ as=y9 l v) v e
 | [],l,Γ,x,h,v,e=>by
  cases l<;>simp only[cC0]at h<;>try (cases h;done)
  cases h;exact⟨[],rfl,by simp,fun us=>rfl⟩
 | [a],l,Γ,x,h,v,e=>by
  cases l with
  | nil=>simp only[cC0]at h;cases h
  | one s=>simp only[cC0]at h;obtain⟨vs,h1,h2,j⟩:=gm0 a s Γ x h v e;exact⟨vs,h1,h2,fun us=>by simp only[Y9,y9,j us]⟩
  | cons s l=>
   simp only[cC0]at h;split at h
   ·rename_i f p1 hf
    split at h
    ·rename_i m p2 n
     cases h;obtain⟨vs,h1,h2,j⟩:=gm0 a s Γ _ hf v.1 e;obtain⟨c,d,g,i⟩:=bg0 [] l f _ (by simpa only[cC0]using n) v.2 (p1 v.1 e);simp only at h1 d;refine⟨c++vs,by simp only[d,h1,cL],?_,fun us=>?_⟩
     ·intro u hu
      rcases aQ.1 hu with hu | hu
      ·exact g u hu
      exact h2 u hu
     have k:=j (us++c);have a2:=i us;rw[h1]at a2;simp only[cL]at k a2 ⊢;rw[Y9,y9,k,<-a2]
    cases h
   cases h
 | a::b::as,l,Γ,x,h,v,e=>by
  cases l with
  | nil=>simp only[cC0]at h;cases h
  | one s=>simp only[cC0]at h;cases h
  | cons s l=>
   simp only[cC0]at h;split at h
   ·rename_i f p1 hf
    split at h
    ·rename_i m p2 n
     cases h;obtain⟨vs,h1,h2,j⟩:=gm0 a s Γ _ hf v.1 e;obtain⟨c,d,g,i⟩:=bg0 (b::as) l f _ n v.2 (p1 v.1 e);simp only at h1 d;refine⟨c++vs,by simp only[d,h1,cL],?_,fun us=>?_⟩
     ·intro u hu
      rcases aQ.1 hu with hu | hu
      ·exact g u hu
      exact h2 u hu
     have k:=j (us++c);have a2:=i us;rw[h1]at a2;simp only[cL]at k a2 ⊢;rw[Y9,y9,k,<-a2]
    cases h
   cases h
end
end Go.Ab
namespace Go.Ab
open Go
variable [B6]
structure TF where
 f:FuncId
 dom:SpL
 cod:Sp
 fn:dom.T->Option cod.T
def TF.Ok(Φ:H7)(t:TF):Prop:=∀ x r,t.fn x=some r->∃ φ,Φ t.f=some φ/\φ (y9 t.dom x)=some (enc t.cod r)
structure TO(Γ:List Sp) where
 s:Sp
 g:Env Γ->Option s.T
def TO.Ok(T:Tab)(Φ:H7){Γ:List Sp}(o:RO)(t:TO Γ):Prop:=∀ e v,t.g e=some v->j9 T Φ (thE Γ e) o=some (enc t.s v)
def binI(o:BinOp)(k:IntKind):Option ((s:Sp)×(Int->Int->Option s.T)):=match o with
 | .add=>some ⟨.int k,fun a b=>some (k.wrap (a+b))⟩
 | .sub=>some ⟨.int k,fun a b=>some (k.wrap (a-b))⟩
 | .mul=>some ⟨.int k,fun a b=>some (k.wrap (a*b))⟩
 | .quo=>some ⟨.int k,fun a b=>bif decide (b=0)then none else some (k.wrap (a.tdiv b))⟩
 | .rem=>some ⟨.int k,fun a b=>bif decide (b=0)then none else some (a.tmod b)⟩
 | .and=>some ⟨.int k,fun a b=>some (k.wrap (bu k.bits a &&& bu k.bits b).toNat)⟩
 | .or=>some ⟨.int k,fun a b=>some (k.wrap (bu k.bits a ||| bu k.bits b).toNat)⟩
 | .eql=>some ⟨.bool,fun a b=>some (decide (a=b))⟩
 | .neq=>some ⟨.bool,fun a b=>some (!decide (a=b))⟩
 | .lss=>some ⟨.bool,fun a b=>some (decide (a<b))⟩
 | .leq=>some ⟨.bool,fun a b=>some (decide (a<=b))⟩
 | .gtr=>some ⟨.bool,fun a b=>some (decide (b<a))⟩
 | .geq=>some ⟨.bool,fun a b=>some (decide (b<=a))⟩
 | _=>none
theorem wK0{T:Tab}{o:BinOp}{k:IntKind}{q:(s:Sp)×(Int->Int->Option s.T)}(h:binI o k=some q){a b:Int}{v:q.1.T}(hv:q.2 a b=some v)(t:TypeId):is0 T o t (.sc (.int k a)) (.sc (.int k b))=some (enc q.1 v):=by
 unfold binI at h;split at h<;>first | (cases h;done) | skip
 all_goals (cases h;simp only[ah]at hv)
 case h_4=>
  by_cases c:b=0
  ·simp[c]at hv
  simp only[c,Ag,Aa,ah]at hv;subst hv;simp[is0,sK0,enc,c]
 case h_5=>
  by_cases c:b=0
  ·simp[c]at hv
  simp only[c,Ag,Aa,ah]at hv;subst hv;simp[is0,sK0,enc,c]
 all_goals (subst hv;simp[is0,sK0,enc])
 ·rfl
 rfl
def shI(o:BinOp)(k:IntKind):Option (Int->Int->Option Int):=match o with
 | .shl=>some fun a b=>bif decide (b<0)then none else some (k.wrap (a*2^(min b.toNat k.bits)))
 | .shr=>some fun a b=>bif decide (b<0)then none else some (a.fdiv (2^(min b.toNat k.bits)))
 | _=>none
theorem shI_ok{T:Tab}{o:BinOp}{k d:IntKind}{q:Int->Int->Option Int}(h:shI o k=some q){a b v:Int}(hv:q a b=some v)(t:TypeId):is0 T o t (.sc (.int k a)) (.sc (.int d b))=some (.sc (.int k v)):=by
 unfold shI at h;split at h<;>first | (cases h;done) | skip
 all_goals
  cases h;by_cases c:b<0
  ·simp[c]at hv
  simp only[c,Ag,Aa,ah]at hv;subst hv;simp[is0,sK0,c]
def pY0:(l:SpL)->Option (l.T->l.T->Bool)
 | .one (.int .i64)=>some fun a b=>decide (a=b)
 | .cons (.int .i64) l=>match pY0 l with
  | some g=>some fun a b=>decide (a.1=b.1)&&g a.2 b.2
  | none=>none
 | _=>none
theorem qM0:∀ (l:SpL) (g:l.T->l.T->Bool),pY0 l=some g->∃ ints:l.T->List Int,(∀ x,AV.i64s (y9 l x)=some (ints x)/\(ints x).length=l.len)/\∀ a b,(ints a==ints b)=g a b
 | .nil,g,h=>by simp[pY0]at h
 | .one s,g,h=>by
  cases s with
  | int k=>
   cases k<;>simp only[pY0]at h<;>try (cases h;done)
   cases h;refine⟨fun x=>[x],fun x=>⟨rfl,rfl⟩,fun a b=>?_⟩;by_cases c:a=b<;>simp[c]
  | _=>simp[pY0]at h
 | .cons s l,g,h=>by
  cases s with
  | int k=>
   cases k<;>simp only[pY0]at h<;>try (cases h;done)
   split at h
   ·rename_i e f
    cases h;obtain⟨ints,h1,h2⟩:=qM0 l e f;refine⟨fun x=>x.1::ints x.2,fun x=>⟨?_,by simp[SpL.len,(h1 x.2).2]⟩,fun a b=>?_⟩
    ·simp only[y9,enc,AV.i64s,(h1 x.2).1]
    have e1:∀ (p q:Int) (x y:List Int),((p::x)==(q::y))=(decide (p=q)&&(x==y)):=fun p q x y=>by by_cases d:p=q<;>simp[d]
    rw[e1,h2]
   cases h
  | _=>simp[pY0]at h
def tBin(T:Tab)(Γ:List Sp)(o:BinOp)(t:TypeId)(x y:AV):Option (TO Γ):=match shp Γ x with
 | some (.int k)=>match L3 Γ x (.int k)with
  | some b=>match shI o k with
   | some q=>match shp Γ y with
    | some (.int c)=>match L3 Γ y (.int c)with
     | some a=>some ⟨.int k,fun e=>q (b e) (a e)⟩
     | none=>none
    | _=>none
   | none=>match L3 Γ y (.int k)with
    | some a=>match binI o k with
     | some q=>some ⟨q.1,fun e=>q.2 (b e) (a e)⟩
     | none=>none
    | none=>none
  | none=>none
 | some .bool=>match L3 Γ x .bool with
  | some b=>match L3 Γ y .bool with
   | some a=>match T t with
    | some { und:=.bool,.. }=>match o with
     | .eql=>some ⟨.bool,fun e=>some (b e==a e)⟩
     | .neq=>some ⟨.bool,fun e=>some (!(b e==a e))⟩
     | _=>none
    | _=>none
   | none=>none
  | none=>none
 | some .str=>match L3 Γ x .str with
  | some b=>match L3 Γ y .str with
   | some a=>match o with
    | .eql=>some ⟨.bool,fun e=>some ((b e).toList==(a e).toList)⟩
    | .neq=>some ⟨.bool,fun e=>some (!((b e).toList==(a e).toList))⟩
    | _=>none
   | none=>none
  | none=>none
 | some (.agg l)=>match L3 Γ x (.agg l)with
  | some b=>match L3 Γ y (.agg l)with
   | some a=>match pY0 l with
    | some q=>match T t with
     | some ti=>match ti.flat with
      | some n=>match aB n l.len with
       | true=>match o with
        | .eql=>some ⟨.bool,fun e=>some (q (b e) (a e))⟩
        | .neq=>some ⟨.bool,fun e=>some (!(q (b e) (a e)))⟩
        | _=>none
       | false=>none
      | none=>none
     | none=>none
    | none=>none
   | none=>none
  | none=>none
 | _=>none
theorem wD0{T:Tab}{Φ:H7}{Γ:List Sp}{o:BinOp}{t:TypeId}{x y:AV}{r:TO Γ}(h:tBin T Γ o t x y=some r):r.Ok T Φ (.bin o t x y):=by
 intro e v hv;unfold tBin at h;split at h
 ·split at h
  ·rename_i i b
   split at h
   ·rename_i q c
    split at h
    ·split at h
     ·rename_i f a
      cases h;simp only[j9,n4 _ _ _ b e,n4 _ _ _ a e,enc];exact shI_ok c hv t
     cases h
    cases h
   split at h
   ·rename_i f a
    split at h
    ·rename_i q c
     cases h;simp only[j9,n4 _ _ _ b e,n4 _ _ _ a e];exact wK0 c hv t
    cases h
   cases h
  cases h
 ·split at h
  ·rename_i i b
   split at h
   ·rename_i f a
    split at h
    ·rename_i d
     split at h
     ·cases h;cases hv
      simp[j9,n4 _ _ _ b e,n4 _ _ _ a e,enc,is0,d]
     ·cases h;cases hv
      simp[j9,n4 _ _ _ b e,n4 _ _ _ a e,enc,is0,d]
     cases h
    cases h
   cases h
  cases h
 ·split at h
  ·rename_i i b
   split at h
   ·rename_i f a
    split at h
    ·cases h;cases hv
     simp[j9,n4 _ _ _ b e,n4 _ _ _ a e,enc,is0,sK0]
    ·cases h;cases hv
     simp[j9,n4 _ _ _ b e,n4 _ _ _ a e,enc,is0,sK0]
    cases h
   cases h
  cases h
 ·split at h
  ·rename_i i b
   split at h
   ·rename_i f a
    split at h
    ·rename_i q c
     obtain⟨ints,h1,h2⟩:=qM0 _ _ c;split at h
     ·rename_i ti d
      split at h
      ·rename_i n j
       split at h
       ·rename_i g
        have g:=af g;split at h
        ·cases h;cases hv
         simp only[j9,n4 _ _ _ b e,n4 _ _ _ a e,enc,is0,(h1 _).1,d,j,(h1 _).2,g,and_self,Al,h2]
        ·cases h;cases hv
         simp only[j9,n4 _ _ _ b e,n4 _ _ _ a e,enc,is0,(h1 _).1,d,j,(h1 _).2,g,and_self,Al,h2]
        cases h
       cases h
      cases h
     cases h
    cases h
   cases h
  cases h
 cases h
def tUn(Γ:List Sp)(o:UnOp)(x:AV):Option (TO Γ):=match o with
 | .neg=>match shp Γ x with
  | some (.int k)=>match L3 Γ x (.int k)with
   | some a=>some ⟨.int k,fun e=>some (k.wrap (0-a e))⟩
   | none=>none
  | _=>none
 | .not=>match L3 Γ x .bool with
  | some a=>some ⟨.bool,fun e=>some (!(a e))⟩
  | none=>none
 | _=>none
theorem tUn_ok{T:Tab}{Φ:H7}{Γ:List Sp}{o:UnOp}{x:AV}{r:TO Γ}(h:tUn Γ o x=some r):r.Ok T Φ (.un o x):=by
 intro e v hv;unfold tUn at h;split at h
 ·split at h
  ·split at h
   ·rename_i b a
    cases h;cases hv;simp[j9,n4 _ _ _ a e,enc,aUn]
   cases h
  cases h
 ·split at h
  ·rename_i b a
   cases h;cases hv;simp[j9,n4 _ _ _ a e,enc,aUn]
  cases h
 cases h
def wA0(T:Tab)(Γ:List Sp)(s d:TypeId)(x:AV):Option (TO Γ):=match T s with
 | some _=>match T d with
  | some { und:=.int k,.. }=>match shp Γ x with
   | some (.int a)=>match L3 Γ x (.int a)with
    | some b=>some ⟨.int k,fun e=>some (k.wrap (b e))⟩
    | none=>none
   | _=>none
  | _=>none
 | none=>none
theorem sz0{T:Tab}{Φ:H7}{Γ:List Sp}{s d:TypeId}{x:AV}{r:TO Γ}(h:wA0 T Γ s d x=some r):r.Ok T Φ (.conv s d x):=by
 intro e v hv;unfold wA0 at h;split at h
 ·rename_i hs
  split at h
  ·rename_i b
   split at h
   ·split at h
    ·rename_i c a
     cases h;cases hv;simp[j9,n4 _ _ _ a e,enc,kx0,hs,b]
    cases h
   cases h
  cases h
 cases h
def wH0(Γ:List Sp)(c a b:AV):Option (TO Γ):=match L3 Γ c .bool with
 | some d=>match shp Γ a with
  | some s=>match L3 Γ a s with
   | some f=>match L3 Γ b s with
    | some g=>some ⟨s,fun e=>some (bif d e then f e else g e)⟩
    | none=>none
   | none=>none
  | none=>none
 | none=>none
theorem tw0{T:Tab}{Φ:H7}{Γ:List Sp}{c a b:AV}{r:TO Γ}(h:wH0 Γ c a b=some r):r.Ok T Φ (.pick c a b):=by
 intro e v hv;unfold wH0 at h;split at h
 ·rename_i i d
  split at h
  ·split at h
   ·rename_i j f
    split at h
    ·rename_i k g
     cases h;cases hv;simp only[j9,n4 _ _ _ d e,n4 _ _ _ f e,n4 _ _ _ g e,enc];cases i e<;>rfl
    cases h
   cases h
  cases h
 cases h
def nth{α:Type}(xs:List α)(i:Int):Option α:=bif decide (0<=i)then xs[i.toNat]? else none
def tIdx(T:Tab)(Γ:List Sp)(t:TypeId)(x i:AV):Option (TO Γ):=match T t with
 | some { und:=.slice a,.. }=>match T a with
  | some b=>match shp Γ x with
   | some (.sl l)=>match L3 Γ x (.sl l)with
    | some c=>match shp Γ i with
     | some (.int k)=>match L3 Γ i (.int k)with
      | some d=>match aB l.len b.size with
       | true=>some ⟨.ptr l,fun e=>nth (c e) (d e)⟩
       | false=>none
      | none=>none
     | _=>none
    | none=>none
   | _=>none
  | none=>none
 | _=>none
theorem vX0{T:Tab}{Φ:H7}{Γ:List Sp}{t:TypeId}{x i:AV}{r:TO Γ}(h:tIdx T Γ t x i=some r):r.Ok T Φ (.idx t x i):=by
 intro e v hv;unfold tIdx at h;split at h
 ·rename_i f
  split at h
  ·rename_i j he
   split at h
   ·rename_i l hl
    split at h
    ·rename_i k a
     split at h
     ·split at h
      ·rename_i g b
       split at h
       ·rename_i c
        have c:=af c;cases h;simp only[nth]at hv;by_cases d:0<=g e
        ·simp only[d,Ai,Ac]at hv
         simp only[j9,n4 _ _ _ a e,n4 _ _ _ b e,enc,D4,f,he,d,Al];rw[aS,hv];simp only[ak,D1,c,Al]
        simp[d]at hv
       cases h
      cases h
     cases h
    cases h
   cases h
  cases h
 cases h
def homL(s:Sp):(l:SpL)->Option (l.T->List s.T)
 | .nil=>some fun _=>[]
 | .one s'=>match h:s'.eqb s with
  | true=>some fun x=>[nb0 h x]
  | false=>none
 | .cons s' l=>match h:s'.eqb s with
  | true=>match homL s l with
   | some g=>some fun x=>nb0 h x.1::g x.2
   | none=>none
  | false=>none
theorem mN0(s:Sp):∀ (l:SpL) (g:l.T->List s.T),homL s l=some g->∀ x,y9 l x=(g x).map (enc s)
 | .nil,g,h,x=>by simp only[homL]at h;cases h;rfl
 | .one s',g,h,x=>by
  unfold homL at h;split at h
  ·cases h;simp only[y9,az,cB,bK0]
  cases h
 | .cons s' l,g,h,x=>by
  unfold homL at h;split at h
  ·split at h
   ·rename_i a b
    cases h;simp only[y9,az,bK0,mN0 s l a b x.2]
   cases h
  cases h
def SpL.head:SpL->Sp
 | .nil=>.tt
 | .one s=>s
 | .cons s _=>s
def kT0(s:ByteArray)(i:Int):Option Int:=bif decide (0<=i)then (s[i.toNat]?).map (fun b=>(b.toNat:Int))else none
def iR0(T:Tab)(Γ:List Sp)(t:TypeId)(x i:AV):Option (TO Γ):=match shp Γ i with
 | some (.int k)=>match L3 Γ i (.int k)with
  | some b=>match T t with
   | some { und:=.array len d,.. }=>match T d with
    | some c=>match shp Γ x with
     | some (.agg l)=>match L3 Γ x (.agg l)with
      | some a=>match homL l.head l with
       | some g=>match aB l.len len&&(aB c.size 1&&!c.isAgg)with
        | true=>some ⟨l.head,fun e=>nth (g (a e)) (b e)⟩
        | false=>none
       | none=>none
      | none=>none
     | _=>none
    | none=>none
   | some { und:=.string,.. }=>match L3 Γ x .str with
    | some a=>some ⟨.int .u8,fun e=>kT0 (a e) (b e)⟩
    | none=>none
   | _=>none
  | none=>none
 | _=>none
theorem rz0{T:Tab}{Φ:H7}{Γ:List Sp}{t:TypeId}{x i:AV}{r:TO Γ}(h:iR0 T Γ t x i=some r):r.Ok T Φ (.index t x i):=by
 intro e v hv;unfold iR0 at h;split at h
 ·split at h
  ·rename_i f j
   split at h
   ·rename_i len s _ _ _ _ o
    split at h
    ·rename_i u he
     split at h
     ·rename_i l hl
      split at h
      ·rename_i m d
       split at h
       ·rename_i g p
        split at h
        ·rename_i n
         simp only[ab,b_,cO]at n;cases h;simp only[nth]at hv;by_cases c:0<=f e
         ·simp only[c,Ai,Ac]at hv
          have hlen:(g (m e)).length=l.len:=by have:=Ap gn (mN0 _ _ _ p (m e));rw[D1,aD]at this;exact this.symm
          have k:=(ar.1 hv).1;have h1:f e<(len:Int):=by
           have:(f e).toNat<l.len:=by rw[hlen]at k;exact k
           rw[n.1]at this;have key:∀ z:Int,0<=z->z.toNat<len->z<(len:Int):=fun z a b=>by omega
           exact key _ c this
          simp only[j9,n4 _ _ _ d e,n4 _ _ _ j e,enc,cm0,o,he,c,h1,and_self,Al,jV0,E2,n.2.2,aq,Ah,n.2.1,Nat.mul_one];rw[mN0 _ _ _ p,aS,hv];rfl
         simp[c]at hv
        cases h
       cases h
      cases h
     cases h
    cases h
   ·rename_i o
    split at h
    ·rename_i m d
     cases h;simp only[kT0]at hv;by_cases c:0<=f e
     ·simp only[c,Ai,Ac]at hv
      simp only[j9,n4 _ _ _ d e,n4 _ _ _ j e,enc,cm0,o,c,Al];cases q:(m e)[(f e).toNat]? with
      | none=>rw[q]at hv;cases hv
      | some b=>rw[q]at hv;cases hv;rfl
     simp[c]at hv
    cases h
   cases h
  cases h
 cases h
def bndI(n:Nat)(x:Option Int)(d:Nat):Option Nat:=match x with
 | none=>some d
 | some i=>bif decide (0<=i)&&decide (i<=n)then some i.toNat else none
def td0{α:Type}(xs:List α)(lo hi:Option Int):Option (List α):=match bndI xs.length hi xs.length with
 | some h=>match bndI h lo 0 with
  | some l=>some ((xs.take h).drop l)
  | none=>none
 | none=>none
def sF0(Γ:List Sp):Option AV->Option (Env Γ->Option Int)
 | none=>some fun _=>none
 | some a=>match shp Γ a with
  | some (.int k)=>match L3 Γ a (.int k)with
   | some f=>some fun e=>some (f e)
   | none=>none
  | _=>none
theorem oi0{Γ:List Sp}{a:Option AV}{f:Env Γ->Option Int}(h:sF0 Γ a=some f)(e:Env Γ)(n d:Nat):bound n (a.map (AV.sub (thE Γ e))) d=bndI n (f e) d:=by
 unfold sF0 at h;split at h
 ·cases h;rfl
 split at h
 ·split at h
  ·rename_i b hf
   cases h;simp only[ak,n4 _ _ _ hf e,enc,bound,bndI];by_cases c:0<=b e<;>by_cases h1:b e<=n<;>simp[c,h1]
  cases h
 cases h
def tSlc(T:Tab)(Γ:List Sp)(t:TypeId)(x:AV)(lo hi:Option AV):Option (TO Γ):=match T t with
 | some { und:=.slice a,.. }=>match T a with
  | some b=>match shp Γ x with
   | some (.sl l)=>match L3 Γ x (.sl l)with
    | some c=>match sF0 Γ lo with
     | some d=>match sF0 Γ hi with
      | some f=>match aB l.len b.size with
       | true=>some ⟨.sl l,fun e=>td0 (c e) (d e) (f e)⟩
       | false=>none
      | none=>none
     | none=>none
    | none=>none
   | _=>none
  | none=>none
 | _=>none
theorem wm0{T:Tab}{Φ:H7}{Γ:List Sp}{t:TypeId}{x:AV}{lo hi:Option AV}{r:TO Γ}(h:tSlc T Γ t x lo hi=some r):r.Ok T Φ (.slc t x lo hi):=by
 intro e v hv;unfold tSlc at h;split at h
 ·rename_i i
  split at h
  ·rename_i j he
   split at h
   ·split at h
    ·rename_i k a
     split at h
     ·rename_i l b
      split at h
      ·rename_i m c
       split at h
       ·rename_i d
        have d:=af d;cases h;simp only[td0]at hv;simp only[j9,n4 _ _ _ a e,enc,bx0,i,he,aD,oi0 c e,oi0 b e];split at hv
        ·rename_i h1 f
         split at hv
         ·rename_i l1 g
          cases hv;simp only[f,g];rw[Af]
          ·rw[<- eO,<-ec]
          rw[dR,aj];intro y _;simp[D1,d]
         cases hv
        cases hv
       cases h
      cases h
     cases h
    cases h
   cases h
  cases h
 cases h
def tLen(T:Tab)(Γ:List Sp)(t:TypeId)(x:AV):Option (TO Γ):=match T t with
 | some { und:=.slice _,.. }=>match shp Γ x with
  | some (.sl l)=>match L3 Γ x (.sl l)with
   | some a=>some ⟨.int .i64,fun e=>some ((a e).length:Int)⟩
   | none=>none
  | _=>none
 | some { und:=.string,.. }=>match L3 Γ x .str with
  | some a=>some ⟨.int .i64,fun e=>some ((a e).size:Int)⟩
  | none=>none
 | _=>none
theorem wM0{T:Tab}{Φ:H7}{Γ:List Sp}{t:TypeId}{x:AV}{r:TO Γ}(h:tLen T Γ t x=some r):r.Ok T Φ (.len t x):=by
 intro e v hv;unfold tLen at h;split at h
 ·rename_i b
  split at h
  ·split at h
   ·rename_i c a
    cases h;cases hv;simp[j9,n4 _ _ _ a e,enc,fZ0,b,goInt]
   cases h
  cases h
 ·rename_i b
  split at h
  ·rename_i c a
   cases h;cases hv;simp[j9,n4 _ _ _ a e,enc,fZ0,b,goInt]
  cases h
 cases h
def mxI(a b:Int):Int:=if b > a then b else a
def mnI(a b:Int):Int:=if b<a then b else a
def pD0(Γ:List Sp)(k:IntKind):List AV->Option (Env Γ->List Int)
 | []=>some fun _=>[]
 | a::as=>match L3 Γ a (.int k)with
  | some f=>match pD0 Γ k as with
   | some g=>some fun e=>f e::g e
   | none=>none
  | none=>none
theorem jX0{Γ:List Sp}{k:IntKind}:∀ (as:List AV) (f:Env Γ->List Int),pD0 Γ k as=some f->∀ e,as.map (AV.sub (thE Γ e))=(f e).map (fun n=>AV.sc (.int k n))
 | [],f,h,e=>by simp only[pD0]at h;cases h;rfl
 | a::as,f,h,e=>by
  simp only[pD0]at h;split at h
  ·rename_i c hf
   split at h
   ·rename_i g b
    cases h;simp only[az,n4 _ _ _ hf e,enc,jX0 as g b e]
   cases h
  cases h
theorem hW0(k:IntKind):∀ (l:List Int) (a:Int),eg0 k a (l.map (fun n=>AV.sc (.int k n)))=some (.int k (l.foldl mxI a))
 | [],_=>rfl
 | b::l,a=>by simp only[az,eg0,iC,mxI];exact hW0 k l _
theorem hm0(k:IntKind):∀ (l:List Int) (a:Int),eS0 k a (l.map (fun n=>AV.sc (.int k n)))=some (.int k (l.foldl mnI a))
 | [],_=>rfl
 | b::l,a=>by simp only[az,eS0,iC,mnI];exact hm0 k l _
def tMx(Γ:List Sp)(l:List AV):Option (TO Γ):=match l with
 | a::as=>match shp Γ a with
  | some (.int k)=>match L3 Γ a (.int k)with
   | some f=>match pD0 Γ k as with
    | some g=>some ⟨.int k,fun e=>some ((g e).foldl mxI (f e))⟩
    | none=>none
   | none=>none
  | _=>none
 | []=>none
def tMn(Γ:List Sp)(l:List AV):Option (TO Γ):=match l with
 | a::as=>match shp Γ a with
  | some (.int k)=>match L3 Γ a (.int k)with
   | some f=>match pD0 Γ k as with
    | some g=>some ⟨.int k,fun e=>some ((g e).foldl mnI (f e))⟩
    | none=>none
   | none=>none
  | _=>none
 | []=>none
theorem tMx_ok{T:Tab}{Φ:H7}{Γ:List Sp}{l:List AV}{r:TO Γ}(h:tMx Γ l=some r):r.Ok T Φ (.mx l):=by
 intro e v hv;unfold tMx at h;split at h
 ·split at h
  ·split at h
   ·rename_i f hf
    split at h
    ·rename_i g a
     cases h;cases hv;simp only[j9,az,n4 _ _ _ hf e,enc,uy0,jX0 _ _ a e,hW0,ak]
    cases h
   cases h
  cases h
 cases h
theorem tMn_ok{T:Tab}{Φ:H7}{Γ:List Sp}{l:List AV}{r:TO Γ}(h:tMn Γ l=some r):r.Ok T Φ (.mn l):=by
 intro e v hv;unfold tMn at h;split at h
 ·split at h
  ·split at h
   ·rename_i f hf
    split at h
    ·rename_i g a
     cases h;cases hv;simp only[j9,az,n4 _ _ _ hf e,enc,uk0,jX0 _ _ a e,hm0,ak]
    cases h
   cases h
  cases h
 cases h
def Sp.cel1:Sp->Bool
 | .nl=>true
 | s=>s.cell
theorem jY0{s:Sp}(h:s.cel1=true)(x:s.T):(enc s x).one=true:=by cases s<;>first | rfl | (simp[Sp.cel1,Sp.cell]at h)
def SpL.cells:SpL->Bool
 | .nil=>true
 | .one s=>s.cel1
 | .cons s l=>s.cel1&&l.cells
theorem Kk0:∀ {l:SpL},l.cells=true->∀ x:l.T,(y9 l x).all AV.one=true
 | .nil,_,_=>rfl
 | .one s,h,x=>by simp only[y9,bU,gg,eP];exact jY0 h x
 | .cons s l,h,x=>by simp only[SpL.cells,ab]at h;simp only[y9,bU,jY0 h.1,Kk0 h.2,eB]
def Q5{α:Type}(bytes:Nat)(xs a:List α):Option (List α):=bif decide ((2*(xs.length+a.length)+1000)*bytes<=2^48)&&decide (xs.length+a.length<=2^62)then some (xs++a)else none
def tCat(T:Tab)(Γ:List Sp)(sT xT:TypeId)(x y:AV):Option (TO Γ):=match T sT with
 | some { und:=.slice b,.. }=>match T xT with
  | some c=>match T b with
   | some a=>match (match shp Γ x with | some s=>some s | none=>shp Γ y)with
    | some (.sl l)=>match L3 Γ x (.sl l)with
     | some d=>match L3 Γ y (.sl l)with
      | some f=>match (!c.isInt)&&(aB l.len a.size&&(l.cells&&cm 0 a.size))with
       | true=>some ⟨.sl l,fun e=>Q5 a.bytes (d e) (f e)⟩
       | false=>none
      | none=>none
     | none=>none
    | _=>none
   | none=>none
  | none=>none
 | _=>none
theorem wn0{T:Tab}{Φ:H7}{Γ:List Sp}{sT xT:TypeId}{x y:AV}{r:TO Γ}(h:tCat T Γ sT xT x y=some r):r.Ok T Φ (.cat sT xT x y):=by
 intro e v hv;unfold tCat at h;split at h
 ·rename_i i
  split at h
  ·rename_i p a
   split at h
   ·rename_i j he
    generalize (match shp Γ x with | some s=>some s | none=>shp Γ y)=q at h;split at h
    ·rename_i l
     split at h
     ·rename_i d b
      split at h
      ·rename_i f c
       split at h
       ·rename_i g
        simp only[ab,b_,cO,aZ]at g;obtain⟨k,m,n,o⟩:=g;cases h;simp only[Q5]at hv;cases hc:(decide ((2*((d e).length+(f e).length)+1000)*j.bytes<=2^48)&&decide ((d e).length+(f e).length<=2^62))with
        | false=>rw[hc]at hv;cases hv
        | true=>
         rw[hc]at hv;simp only[ab,Ad]at hc;cases hv;simp only[j9,n4 _ _ _ b e,n4 _ _ _ c e,enc,tA0,i,a,he,aD];rw[Af]
         ·rw[dL]
         refine⟨k,?_,hc.1,hc.2,o⟩;rw[dR,aj];intro y _;simp[D1,m,Kk0 n y]
       cases h
      cases h
     cases h
    cases h
   cases h
  cases h
 cases h
def Sp.flat1:Sp->Bool
 | .int _=>true
 | .bool=>true
 | .str=>true
 | .tt=>true
 | _=>false
def SpL.flat1:SpL->Bool
 | .nil=>true
 | .one s=>s.flat1
 | .cons s l=>s.flat1&&l.flat1
def Sp.flat2:Sp->Bool
 | .agg l=>l.flat1
 | s=>s.flat1
def SpL.flat2:SpL->Bool
 | .nil=>true
 | .one s=>s.flat2
 | .cons s l=>s.flat2&&l.flat2
def Sp.flatS:Sp->Bool
 | .tup l=>l.flat2
 | .agg l=>l.flat1
 | s=>s.flat1
def isSc:AV->Bool
 | .sc _=>true
 | _=>false
theorem nH0{s:Sp}(h:s.flat1=true)(x:s.T):∃ v,enc s x=.sc v:=by cases s<;>simp[Sp.flat1]at h<;>exact⟨_,rfl⟩
theorem es0:∀ {l:SpL},l.flat1=true->∀ (x:l.T),(y9 l x).all (fun c=>match c with | .sc _=>true | _=>false)=true
 | .nil,_,_=>rfl
 | .one s,h,x=>by obtain⟨v,hv⟩:=nH0 (s:=s) h x;simp[y9,hv]
 | .cons s l,h,x=>by simp only[SpL.flat1,ab]at h;obtain⟨v,hv⟩:=nH0 h.1 x.1;simp[y9,hv,es0 h.2]
theorem kC0:∀ {l:SpL},l.flat2=true->∀ (x:l.T),(y9 l x).all (fun c=>match c with | .sc _=>true | .agg b=>b.all (fun d=>match d with | .sc _=>true | _=>false) | _=>false)=true
 | .nil,_,_=>rfl
 | .one s,h,x=>by cases s<;>simp[SpL.flat2,Sp.flat2,Sp.flat1]at h<;>simp[y9,enc];exact fun d a=>aj.1 (es0 h x) d a
 | .cons s l,h,x=>by simp only[SpL.flat2,ab]at h;have:=kC0 h.2 x.2;rw[y9,bU,this,eP];have h1:=h.1;cases s<;>simp[Sp.flat2,Sp.flat1]at h1<;>simp[enc];exact fun d a=>aj.1 (es0 h1 x.1) d a
theorem tC0{s:Sp}(h:s.flatS=true)(x:s.T):pC0 (enc s x)=true:=by
 cases s<;>simp[Sp.flatS,Sp.flat1]at h<;>simp only[enc,pC0]
 ·exact es0 h x
 exact kC0 h x
def rg0(Γ:List Sp)(f:FuncId)(args:List AV)(a:Bool)(t:TF):Option (TO Γ):=match aB t.f f&&(!a||t.cod.flatS)with
 | true=>match bu0 Γ args t.dom with
  | some b=>some ⟨t.cod,fun e=>t.fn (b e)⟩
  | none=>none
 | false=>none
def ql0(Γ:List Sp)(f:FuncId)(args:List AV)(a:Bool):List TF->Option (TO Γ)
 | []=>none
 | t::ts=>match rg0 Γ f args a t with
  | some r=>some r
  | none=>ql0 Γ f args a ts
theorem eO0(θ:Nat->AV):∀ l,Y9 θ l=l.map (AV.sub θ):=fun l=>G4 θ l
theorem qb0{T:Tab}{Φ:H7}{Γ:List Sp}{f:FuncId}{args:List AV}{d:Bool}{t:TF}{r:TO Γ}(i:t.Ok Φ)(h:rg0 Γ f args d t=some r):r.Ok T Φ (.call f args d):=by
 intro e v hv;unfold rg0 at h;split at h
 ·rename_i a
  simp only[ab,b_,br,cO]at a;obtain⟨rfl,a⟩:=a;split at h
  ·rename_i j c
   cases h;obtain⟨φ,h1,h2⟩:=i _ _ hv;have g:=X2 _ _ _ c e;rw[eO0]at g;simp only[j9,h1,g,h2];rw[Af];intro b;rcases a with a | a
   ·rw[a]at b;cases b
   exact tC0 a v
  cases h
 cases h
theorem nY0{T:Tab}{Φ:H7}{Γ:List Sp}{f:FuncId}{args:List AV}{a:Bool}:∀ (b:List TF) {r:TO Γ},(∀ t∈b,t.Ok Φ)->ql0 Γ f args a b=some r->r.Ok T Φ (.call f args a)
 | [],r,_,h=>by simp[ql0]at h
 | t::ts,r,c,h=>by
  simp only[ql0]at h;split at h
  ·rename_i e d
   cases h;exact qb0 (c t (by simp)) d
  exact nY0 ts (fun t h=>c t (by simp[h])) h
def isSl(Γ:List Sp)(j:Nat):Bool:=match shOf Γ j with
 | some (.sl l)=>(vF0 Γ j (.sl l)).isSome
 | _=>false
theorem qf0{Γ:List Sp}{j:Nat}(h:isSl Γ j=true)(e:Env Γ):∃ es,thE Γ e j=.rs es:=by
 unfold isSl at h;split at h
 ·rename_i l _
  cases hv:vF0 Γ j (.sl l)with
  | none=>rw[hv]at h;cases h
  | some f=>exact⟨_,mW0 hv e⟩
 cases h
def vw0(Γ:List Sp)(l:List Nat):Option (TO Γ):=match l.all (isSl Γ)with
 | true=>some ⟨.tt,fun _=>some ()⟩
 | false=>none
theorem ts0{T:Tab}{Φ:H7}{Γ:List Sp}{l:List Nat}{r:TO Γ}(h:vw0 Γ l=some r):r.Ok T Φ (.rows l):=by
 intro e v hv;unfold vw0 at h;split at h
 ·rename_i a
  cases h;exact wq0 fun j hj=>qf0 (aj.1 a j hj) e
 cases h
end Go.Ab
namespace Go.Ab
open Go
variable [B6]
def ilL:(l:SpL)->Option (l.T->List Int)
 | .one (.int .i64)=>some fun a=>[a]
 | .cons (.int .i64) l=>match ilL l with
  | some g=>some fun a=>a.1::g a.2
  | none=>none
 | _=>none
theorem nV0:∀ (l:SpL) (g:l.T->List Int),ilL l=some g->∀ x,AV.i64s (y9 l x)=some (g x)/\(g x).length=l.len
 | .nil,g,h=>by simp[ilL]at h
 | .one s,g,h=>by
  cases s with
  | int k=>
   cases k<;>simp only[ilL]at h<;>try (cases h;done)
   cases h;exact fun x=>⟨rfl,rfl⟩
  | _=>simp[ilL]at h
 | .cons s l,g,h=>by
  cases s with
  | int k=>
   cases k<;>simp only[ilL]at h<;>try (cases h;done)
   split at h
   ·rename_i a b
    cases h;intro x;have:=nV0 l a b x.2;exact⟨by simp only[y9,enc,AV.i64s,this.1],by simp[SpL.len,this.2]⟩
   cases h
  | _=>simp[ilL]at h
def kyS:(K:Sp)->Option (Bool×(K.T->List Int))
 | .int .i64=>some (false,fun n=>[n])
 | .agg l=>match ilL l with
  | some g=>some (true,g)
  | none=>none
 | _=>none
def eqK:(K:Sp)->Option (K.T->K.T->Bool)
 | .int .i64=>some fun a b=>decide (a=b)
 | .agg l=>pY0 l
 | _=>none
theorem hO0{K:Sp}{b:Bool}{g:K.T->List Int}(h:kyS K=some (b,g))(x:K.T):(enc K x).key=some (b,g x):=by
 cases K with
 | int k=>
  cases k<;>simp only[kyS]at h<;>try (cases h;done)
  cases h;rfl
 | agg l=>
  simp only[kyS]at h;split at h
  ·rename_i c a
   cases h;simp only[enc,AV.key,(nV0 l _ a x).1]
  cases h
 | _=>simp[kyS]at h
theorem qa0:∀ (l:SpL) (g:l.T->List Int) (q:l.T->l.T->Bool),ilL l=some g->pY0 l=some q->∀ a b,(g a==g b)=q a b
 | .nil,g,q,h,_=>by simp[ilL]at h
 | .one s,g,q,h,h2=>by
  cases s with
  | int k=>
   cases k<;>simp only[ilL]at h<;>try (cases h;done)
   cases h;simp only[pY0]at h2;cases h2;intro a b;by_cases c:a=b<;>simp[c]
  | _=>simp[ilL]at h
 | .cons s l,g,q,h,h2=>by
  cases s with
  | int k=>
   cases k<;>simp only[ilL]at h<;>try (cases h;done)
   split at h
   ·rename_i e f
    cases h;simp only[pY0]at h2;split at h2
    ·rename_i i j
     cases h2;intro a b;have:=qa0 l e i f j a.2 b.2;have e1:∀ (p q:Int) (x y:List Int),((p::x)==(q::y))=(decide (p=q)&&(x==y)):=fun p q x y=>by by_cases d:p=q<;>simp[d]
     rw[e1,this]
    cases h2
   cases h
  | _=>simp[ilL]at h
theorem ut0{K:Sp}{b:Bool}{g:K.T->List Int}{q:K.T->K.T->Bool}(h:kyS K=some (b,g))(h2:eqK K=some q)(x y:K.T):cu0 b (g x) (g y)=q x y:=by
 cases K with
 | int k=>
  cases k<;>simp only[kyS]at h<;>try (cases h;done)
  cases h;simp only[eqK]at h2;cases h2;by_cases a:x=y<;>simp[cu0,a]
 | agg l=>
  simp only[kyS]at h;split at h
  ·rename_i d c
   cases h;simp only[eqK]at h2;simp only[cu0];exact qa0 l _ q c h2 x y
  cases h
 | _=>simp[kyS]at h
def lkp{K V:Type}(q:K->K->Bool)(k:K):List (K×V)->Option V
 | []=>none
 | p::C=>bif q k p.1 then some p.2 else lkp q k C
def V9{K V:Type}(q:K->K->Bool)(k:K)(v:V):List (K×V)->List (K×V)
 | []=>[(k,v)]
 | p::C=>bif q k p.1 then (k,v)::C else p::V9 q k v C
section
variable {K V:Sp} {b:Bool} {g:K.T->List Int} {q:K.T->K.T->Bool}
theorem jP0(hk:kyS K=some (b,g))(j:Nat)(p:K.T×V.T):D5 j (y9 (.cons K (.one V)) p)=(g p.1,enc V p.2,j):=by simp only[y9,D5,hO0 hk]
theorem nl0(hk:kyS K=some (b,g))(a:eqK K=some q)(k:K.T):∀ (C:List (K.T×V.T)) (j i:Nat),(I7 b (g k) (y3 j (C.map (y9 (.cons K (.one V))))) i).map (·.2)=(lkp q k C).map (enc V)
 | [],j,i=>rfl
 | p::C,j,i=>by
  have c:=nl0 hk a k C (j+1) (i+1);simp only[az,y3,jP0 hk,I7,ut0 hk a,lkp];cases q k p.1 with
  | true=>rfl
  | false=>simpa using c
theorem put_t(hk:kyS K=some (b,g))(a:eqK K=some q)(k:K.T)(v:V.T):∀ C:List (K.T×V.T),O1 (enc K k) (enc V v) b (g k) (C.map (y9 (.cons K (.one V))))=(V9 q k v C).map (y9 (.cons K (.one V)))
 | []=>by simp[O1,V9,y9]
 | p::C=>by
  have c:=put_t hk a k v C;simp only[az,O1,on0,jP0 hk,ut0 hk a,V9];cases q k p.1 with
  | true=>simp[y9]
  | false=>simp[c]
theorem mU0(hk:kyS K=some (b,g))(C:List (K.T×V.T)):aW0 (C.map (y9 (.cons K (.one V))))=b\/C=[]:=by
 cases C with
 | nil=>exact .inr rfl
 | cons p C=>left;simp[aW0,y9,hO0 hk]
theorem oD0(hk:kyS K=some (b,g)){n:Nat}(a:∀ x,(g x).length=n):∀ (C:List (K.T×V.T)) (j:Nat),((y3 j (C.map (y9 (.cons K (.one V))))).all fun e=>e.1.length==n)=true
 | [],_=>rfl
 | p::C,j=>by simp only[az,y3,jP0 hk,bU,a,beq_self_eq_true,dD];exact oD0 hk a C (j+1)
theorem pS0(hk:kyS K=some (b,g))(C:List (K.T×V.T)):((C.map (y9 (.cons K (.one V)))).all Q2)=true:=by rw[dR,aj];intro p _;simp[Q2,y9,hO0 hk]
end
def fitK(T:Tab)(a:TypeId):Sp->Bool
 | .int .i64=>match T a with
  | some { und:=.int _,.. }=>true
  | _=>false
 | .agg l=>match T a with
  | some ti=>match ti.flat with
   | some n=>aB n l.len
   | none=>false
  | none=>false
 | _=>false
theorem jH0{T:Tab}{c:TypeId}{K V:Sp}{b:Bool}{g:K.T->List Int}(h:kyS K=some (b,g))(hf:fitK T c K=true)(k:K.T)(C:List (K.T×V.T))(j:Nat):U8 T c b (g k) (y3 j (C.map (y9 (.cons K (.one V)))))=true:=by
 cases K with
 | int e=>
  cases e<;>simp only[kyS]at h<;>try (cases h;done)
  cases h;simp only[fitK]at hf;split at hf
  ·rename_i a
   simp[U8,a]
  cases hf
 | agg l=>
  have f:=h;simp only[kyS]at h;split at h
  ·rename_i o d
   cases h;simp only[fitK]at hf;split at hf
   ·rename_i ti a
    split at hf
    ·rename_i n i
     have m:=af hf;simp only[U8,a,Al,i,m,(nV0 l g d k).2,ab,beq_self_eq_true,Aq];exact oD0 f (fun x=>(nV0 l g d x).2) C j
    cases hf
   cases hf
  cases h
 | _=>simp[kyS]at h
mutual
def une:AV->(s:Sp)->Option s.T
 | .sc v,s=>tsc v s
 | .agg cs,.agg l=>qW0 cs l
 | _,_=>none
def qW0:List AV->(l:SpL)->Option l.T
 | [],.nil=>some ()
 | [a],.one s=>une a s
 | a::as,.cons s l=>match une a s with
  | some x=>match qW0 as l with
   | some y=>some (x,y)
   | none=>none
  | none=>none
 | _,_=>none
end
mutual
theorem fU0:∀ (a:AV) (s:Sp) (x:s.T),une a s=some x->a=enc s x
 | .sc v,s,x,h=>by simp only[une]at h;exact ui0 h
 | .agg cs,s,x,h=>by
  cases s<;>simp only[une]at h<;>try (cases h;done)
  simp only[enc,mq0 cs _ _ h]
 | .any,s,x,h=>by cases s<;>simp only[une]at h<;>cases h
 | .rs _,s,x,h=>by cases s<;>simp only[une]at h<;>cases h
 | .rp _,s,x,h=>by cases s<;>simp only[une]at h<;>cases h
 | .ms _ _ _ _,s,x,h=>by cases s<;>simp only[une]at h<;>cases h
 | .mp _ _ _,s,x,h=>by cases s<;>simp only[une]at h<;>cases h
 | .mm _,s,x,h=>by cases s<;>simp only[une]at h<;>cases h
 | .it _,s,x,h=>by cases s<;>simp only[une]at h<;>cases h
 | .fn _ _ _,s,x,h=>by cases s<;>simp only[une]at h<;>cases h
 | .tup _,s,x,h=>by cases s<;>simp only[une]at h<;>cases h
 | .sy _,s,x,h=>by cases s<;>simp only[une]at h<;>cases h
 | .ss _ _ _,s,x,h=>by cases s<;>simp only[une]at h<;>cases h
 | .xp _ _ _,s,x,h=>by cases s<;>simp only[une]at h<;>cases h
 | .rm _,s,x,h=>by cases s<;>simp only[une]at h<;>cases h
theorem mq0:∀ (as:List AV) (l:SpL) (x:l.T),qW0 as l=some x->as=y9 l x
 | [],l,x,h=>by (cases l<;>simp only[qW0]at h<;>try (cases h;done));rfl
 | [a],l,x,h=>by
  cases l with
  | nil=>simp only[qW0]at h;cases h
  | one s=>simp only[qW0]at h;simp only[y9];rw[fU0 a s x h]
  | cons s l=>
   simp only[qW0]at h;split at h
   ·rename_i y c
    split at h
    ·rename_i z hz
     cases h;have:=mq0 [] l z (by simpa only[qW0]using hz);simp only[y9];rw[fU0 a s y c,<-this]
    cases h
   cases h
 | a::b::as,l,x,h=>by
  cases l with
  | nil=>simp only[qW0]at h;cases h
  | one s=>simp only[qW0]at h;cases h
  | cons s l=>
   simp only[qW0]at h;split at h
   ·rename_i y c
    split at h
    ·rename_i z hz
     cases h;simp only[y9];rw[fU0 a s y c,<-mq0 (b::as) l z hz]
    cases h
   cases h
end
def orO{α:Type}:Option α->Option α->Option α
 | some a,_=>some a
 | none,z=>z
def oo0(T:Tab)(Γ:List Sp)(t:TypeId)(ix:AV)(ok:Bool)(K V:Sp)(a:Env Γ->List (K.T×V.T)):Option (TO Γ):=match T t with
 | some { und:=.map d f,.. }=>match T f with
  | some b=>match kyS K with
   | some _=>match eqK K with
    | some q=>match fitK T d K with
     | true=>match L3 Γ ix K with
      | some c=>match ok with
       | false=>some ⟨V,fun e=>orO (lkp q (c e) (a e)) (une b.zeroAV V)⟩
       | true=>some ⟨.tup (.cons V (.one .bool)),fun e=>match lkp q (c e) (a e)with
        | some v=>some (v,true)
        | none=>match une b.zeroAV V with
         | some z=>some (z,false)
         | none=>none⟩
      | none=>none
     | false=>none
    | none=>none
   | none=>none
  | none=>none
 | _=>none
theorem op0{m:Option (Nat×AV)}{V:Sp}{o:Option V.T}{z:AV}{ok:Bool}{w:AV}(h:m.map (·.2)=o.map (enc V))
  (hs:∀ v,o=some v->w=(if ok then .tup [enc V v,.sc (.bool true)]else enc V v)) (a:o=none->w=(if ok then .tup [z,.sc (.bool false)]else z)) :
  some (if ok=true then AV.tup [(match m with | some (_,c)=>(c,true) | none=>(z,false)).1,.sc (.bool (match m with | some (_,c)=>(c,true) | none=>(z,false)).2)]else (match m with | some (_,c)=>(c,true) | none=>(z,false)).1)=some w:=by
 cases m with
 | none=>cases o with
  | none=>rw[a rfl]
  | some v=>cases h
 | some p=>cases o with
  | none=>cases h
  | some v=>simp only[ak,ah]at h;rw[hs v rfl,<-h]
def wR0(T:Tab)(Γ:List Sp)(t:TypeId)(c ix:AV)(ok:Bool):Option (TO Γ):=match shp Γ c with
 | some (.sl (.cons K (.one V)))=>match L3 Γ c (.sl (.cons K (.one V)))with
  | some a=>oo0 T Γ t ix ok K V a
  | none=>none
 | _=>none
def ro0(T:Tab)(Γ:List Sp)(t:TypeId)(c ix:AV)(ok:Bool):Option (TO Γ):=match shp Γ c with
 | some (.fmap (.cons K (.one V)))=>match L3 Γ c (.fmap (.cons K (.one V)))with
  | some a=>oo0 T Γ t ix ok K V a
  | none=>none
 | _=>none
theorem sM0{T:Tab}{Φ:H7}{Γ:List Sp}{t:TypeId}{c ix:AV}{ok:Bool}{r:TO Γ}(h:wR0 T Γ t c ix ok=some r):r.Ok T Φ (.look t c ix ok):=by
 intro e v hv;unfold wR0 at h;split at h
 ·rename_i K V _
  split at h
  ·rename_i a f
   unfold oo0 at h;split at h
   ·rename_i m u _ _ _ _ n
    split at h
    ·rename_i x i
     split at h
     ·rename_i o hk
      obtain⟨b,g⟩:=o;split at h
      ·rename_i q p
       split at h
       ·rename_i hf
        split at h
        ·rename_i j k
         have hc:c.sub (thE Γ e)=.rs ((a e).map (y9 (.cons K (.one V)))):=n4 _ _ _ f e;have l:ix.sub (thE Γ e)=enc K (j e):=n4 _ _ _ k e;have hst:(dr0 (.rs ((a e).map (y9 (.cons K (.one V)))))).objs 0=some (O8 (.rs ((a e).map (y9 (.cons K (.one V)))))):=by simp[dr0,j3.objs_set]
         have s:∀ es,rowsOf (.rs es)=es:=fun _=>rfl;have d:(aW0 ((a e).map (y9 (.cons K (.one V))))=b\/(y3 0 ((a e).map (y9 (.cons K (.one V))))).isEmpty=true)/\U8 T m b (g (j e)) (y3 0 ((a e).map (y9 (.cons K (.one V)))))=true:=by
          refine⟨?_,jH0 hk hf _ _ _⟩;rcases mU0 (V:=V) hk (a e)with h1 | h1
          ·exact .inl h1
          rw[h1];right;rfl
         simp only[j9,hc,l,G7,n,hO0 hk,i,hst,O8,s];rw[Af d];refine op0 (nl0 (V:=V) hk p (j e) (a e) 0 0) (fun w hl=>?_) (fun hl=>?_)
         ·cases ok with
          | false=>cases h;simp only[hl,orO]at hv;cases hv;rfl
          | true=>cases h;simp only[hl]at hv;cases hv;rfl
         cases ok with
         | false=>cases h;simp only[hl,orO]at hv;exact(fU0 _ _ _ hv).symm
         | true=>
          cases h;simp only[hl]at hv;split at hv
          ·rename_i z hz
           cases hv;simp only[enc,y9,Al,fU0 _ _ _ hz]
          cases hv
        cases h
       cases h
      cases h
     cases h
    cases h
   cases h
  cases h
 cases h
theorem rx0{T:Tab}{Φ:H7}{Γ:List Sp}{t:TypeId}{c ix:AV}{ok:Bool}{r:TO Γ}(h:ro0 T Γ t c ix ok=some r):r.Ok T Φ (.lookr t c ix ok):=by
 intro e v hv;unfold ro0 at h;split at h
 ·rename_i K V _
  split at h
  ·rename_i a f
   unfold oo0 at h;split at h
   ·rename_i m s _ _ _ _ n
    split at h
    ·rename_i u i
     split at h
     ·rename_i o hk
      obtain⟨b,g⟩:=o;split at h
      ·rename_i q p
       split at h
       ·rename_i hf
        split at h
        ·rename_i j k
         have hc:c.sub (thE Γ e)=.rm (.rs ((a e).map (y9 (.cons K (.one V))))):=n4 _ _ _ f e;have l:ix.sub (thE Γ e)=enc K (j e):=n4 _ _ _ k e;have d:(aW0 ((a e).map (y9 (.cons K (.one V))))=b\/((a e).map (y9 (.cons K (.one V)))).isEmpty=true)/\U8 T m b (g (j e)) (y3 0 ((a e).map (y9 (.cons K (.one V)))))=true/\((a e).map (y9 (.cons K (.one V)))).all Q2=true:=by
          refine⟨?_,jH0 hk hf _ _ _,pS0 hk _⟩;rcases mU0 (V:=V) hk (a e)with h1 | h1
          ·exact .inl h1
          rw[h1];right;rfl
         simp only[j9,hc,l,G7,n,hO0 hk,i];rw[Af d];refine op0 (nl0 (V:=V) hk p (j e) (a e) 0 0) (fun w hl=>?_) (fun hl=>?_)
         ·cases ok with
          | false=>cases h;simp only[hl,orO]at hv;cases hv;rfl
          | true=>cases h;simp only[hl]at hv;cases hv;rfl
         cases ok with
         | false=>cases h;simp only[hl,orO]at hv;exact(fU0 _ _ _ hv).symm
         | true=>
          cases h;simp only[hl]at hv;split at hv
          ·rename_i z hz
           cases hv;simp only[enc,y9,Al,fU0 _ _ _ hz]
          cases hv
        cases h
       cases h
      cases h
     cases h
    cases h
   cases h
  cases h
 cases h
def wN0(T:Tab)(Γ:List Sp)(t:TypeId)(c ix v:AV):Option (TO Γ):=match T t with
 | some { und:=.map a _,.. }=>match shp Γ ix with
  | some K=>match shp Γ v with
   | some V=>match kyS K with
    | some _=>match eqK K with
     | some q=>match fitK T a K with
      | true=>match L3 Γ c (.sl (.cons K (.one V)))with
       | some b=>match L3 Γ ix K with
        | some d=>match L3 Γ v V with
         | some fv=>some ⟨.sl (.cons K (.one V)),fun e=>some (V9 q (d e) (fv e) (b e))⟩
         | none=>none
        | none=>none
       | none=>none
      | false=>none
     | none=>none
    | none=>none
   | none=>none
  | none=>none
 | _=>none
theorem tz0{T:Tab}{Φ:H7}{Γ:List Sp}{t:TypeId}{c ix u:AV}{r:TO Γ}(h:wN0 T Γ t c ix u=some r):r.Ok T Φ (.mput t c ix u):=by
 intro e v hv;unfold wN0 at h;split at h
 ·rename_i w _ _ _ _ _ n
  split at h
  ·rename_i K _
   split at h
   ·rename_i V _
    split at h
    ·rename_i o hk
     obtain⟨b,g⟩:=o;split at h
     ·rename_i q p
      split at h
      ·rename_i hf
       split at h
       ·rename_i a f
        split at h
        ·rename_i d i
         split at h
         ·rename_i fv j
          cases h;cases hv;have hc:c.sub (thE Γ e)=.rs ((a e).map (y9 (.cons K (.one V)))):=n4 _ _ _ f e;have k:ix.sub (thE Γ e)=enc K (d e):=n4 _ _ _ i e;have l:u.sub (thE Γ e)=enc V (fv e):=n4 _ _ _ j e;have hst:(dr0 (.rs ((a e).map (y9 (.cons K (.one V)))))).objs 0=some (O8 (.rs ((a e).map (y9 (.cons K (.one V)))))):=by simp[dr0,j3.objs_set]
          have m:∀ es,rowsOf (.rs es)=es:=fun _=>rfl;have hu:∃ σ,C1 T (dr0 (.rs ((a e).map (y9 (.cons K (.one V)))))) t (.mm 0) (enc K (d e)) (enc V (fv e))=some σ:=by
           simp only[C1,n,hO0 hk,hst,O8,m];have h1:=jH0 (V:=V) hk hf (d e) (a e) 0;have s:=jH0 (V:=V) hk hf (d e) [] 0;rcases mU0 (V:=V) hk (a e)with h2 | h2
           ·split
            ·exact⟨_,rfl⟩
            rw[Af ⟨h2,h1⟩];exact⟨_,rfl⟩
           rw[Af ⟨by rw[h2];rfl,s⟩];exact⟨_,rfl⟩
          obtain⟨σ,hu⟩:=hu;simp only[j9,hc,k,l,hu,hO0 hk,m,put_t hk p];rfl
         cases h
        cases h
       cases h
      cases h
     cases h
    cases h
   cases h
  cases h
 cases h
def uV0(T:Tab)(Γ:List Sp)(t:TypeId)(c:AV):Option (TO Γ):=match T t with
 | some { und:=.map _ _,.. }=>match shp Γ c with
  | some (.sl l)=>match L3 Γ c (.sl l)with
   | some a=>some ⟨.int .i64,fun e=>some ((a e).length:Int)⟩
   | none=>none
  | _=>none
 | _=>none
theorem tF0{T:Tab}{Φ:H7}{Γ:List Sp}{t:TypeId}{c:AV}{r:TO Γ}(h:uV0 T Γ t c=some r):r.Ok T Φ (.mlen t c):=by
 intro e v hv;unfold uV0 at h;split at h
 ·rename_i b
  split at h
  ·split at h
   ·rename_i f a
    cases h;cases hv;have hst:∀ c,(dr0 c).objs 0=some (O8 c):=fun c=>by simp[dr0,j3.objs_set]
    have d:∀ es,rowsOf (.rs es)=es:=fun _=>rfl;simp only[j9,fZ0,b,hst,O8,E7,n4 _ _ _ a e,enc,d,aD,goInt]
   cases h
  cases h
 cases h
def tIsp(Γ:List Sp)(x:AV):Option (TO Γ):=match shp Γ x with
 | some (.ptr l)=>match L3 Γ x (.ptr l)with
  | some _=>some ⟨.tt,fun _=>some ()⟩
  | none=>none
 | _=>none
theorem vW0{T:Tab}{Φ:H7}{Γ:List Sp}{x:AV}{r:TO Γ}(h:tIsp Γ x=some r):r.Ok T Φ (.isp x):=by
 intro e v hv;unfold tIsp at h;split at h
 ·split at h
  ·rename_i f hf
   cases h;simp only[j9,n4 _ _ _ hf e,enc]
  cases h
 cases h
def tOpn(Γ:List Sp)(n:Nat)(x:AV):Option (TO Γ):=match shp Γ x with
 | some (.ptr l)=>match L3 Γ x (.ptr l)with
  | some f=>match aB l.len n with
   | true=>some ⟨.ptr l,fun e=>some (f e)⟩
   | false=>none
  | none=>none
 | _=>none
theorem wB0{T:Tab}{Φ:H7}{Γ:List Sp}{n:Nat}{x:AV}{r:TO Γ}(h:tOpn Γ n x=some r):r.Ok T Φ (.opn n x):=by
 intro e v hv;unfold tOpn at h;split at h
 ·split at h
  ·rename_i f hf
   split at h
   ·rename_i a
    have a:=af a;cases h;cases hv;simp only[j9,n4 _ _ _ hf e,enc,D1,a,d_]
   cases h
  cases h
 cases h
def shA(T:Tab):Nat->TypeId->Option (List Sp)
 | 0,_=>none
 | n+1,t=>match T t with
  | some { und:=.int k,.. }=>some [.int k]
  | some { und:=.bool,.. }=>some [.bool]
  | some { und:=.string,.. }=>some [.str]
  | some { und:=.array m e,.. }=>match shA T n e with
   | some l=>some (bm m l).flatten
   | none=>none
  | some { und:=.struct fields,.. }=>fields.toList.foldr (fun f acc=>match shA T n f.type,acc with
   | some a,some b=>some (a++b)
   | _,_=>none) (some [])
  | _=>none
def shT(T:Tab)(t:TypeId):Option Sp:=match T t with
 | some { und:=.int k,.. }=>some (.int k)
 | some { und:=.bool,.. }=>some .bool
 | some { und:=.string,.. }=>some .str
 | some ti=>match ti.isAgg,shA T 6 t with
  | true,some l=>some (.agg (SpL.ofList l))
  | _,_=>none
 | _=>none
def tGl(T:Tab)(Γ:List Sp)(t:TypeId)(g:Nat):Option (TO Γ):=match shT T t with
 | some s=>some ⟨s,fun _=>match rZ0 T t g with
  | some a=>une a s
  | none=>none⟩
 | none=>none
theorem tGl_ok{T:Tab}{Φ:H7}{Γ:List Sp}{t:TypeId}{g:Nat}{r:TO Γ}(h:tGl T Γ t g=some r):r.Ok T Φ (.gl t g):=by
 intro e v hv;unfold tGl at h;split at h
 ·cases h
  simp only at hv;split at hv
  ·rename_i a ha
   simp only[j9,ha,fU0 _ _ _ hv]
  cases hv
 cases h
def tInb(T:Tab)(Γ:List Sp)(t:TypeId)(c i:AV):Option (TO Γ):=match T t with
 | some { und:=.slice b,.. }=>match T b with
  | some _=>match shp Γ c with
   | some (.sl l)=>match L3 Γ c (.sl l)with
    | some d=>match shp Γ i with
     | some (.int k)=>match L3 Γ i (.int k)with
      | some a=>some ⟨.tt,fun e=>bif decide (0<=a e)&&decide (a e<(d e).length)then some ()else none⟩
      | none=>none
     | _=>none
    | none=>none
   | _=>none
  | none=>none
 | _=>none
theorem wJ0{T:Tab}{Φ:H7}{Γ:List Sp}{t:TypeId}{c i:AV}{r:TO Γ}(h:tInb T Γ t c i=some r):r.Ok T Φ (.inb t c i):=by
 intro e v hv;unfold tInb at h;split at h
 ·rename_i m _ _ _ _ j
  split at h
  ·rename_i n b
   split at h
   ·split at h
    ·rename_i k d
     split at h
     ·split at h
      ·rename_i g f
       cases h;simp only at hv;cases a:(decide (0<=g e)&&decide (g e<(k e).length))with
       | false=>rw[a]at hv;cases hv
       | true=>simp only[ab,Ad]at a;have l:∀ es,rowsOf (.rs es)=es:=fun _=>rfl;simp only[j9,n4 _ _ _ d e,n4 _ _ _ f e,enc,j,b,D4,l,aD];rw[Af ⟨a.1,a.2,trivial⟩]
      cases h
     cases h
    cases h
   cases h
  cases h
 cases h
def SpL.at:(l:SpL)->Nat->Option ((s:Sp)×(l.T->s.T))
 | .nil,_=>none
 | .one s,j=>match j with
  | 0=>some ⟨s,fun x=>x⟩
  | _+1=>none
 | .cons s l,j=>match j with
  | 0=>some ⟨s,fun x=>x.1⟩
  | j+1=>match l.at j with
   | some ⟨s',f⟩=>some ⟨s',fun x=>f x.2⟩
   | none=>none
theorem vC0:∀ (l:SpL) (j:Nat) (q:(s:Sp)×(l.T->s.T)),l.at j=some q->∀ x,(y9 l x)[j]?=some (enc q.1 (q.2 x))
 | .nil,j,q,h=>by simp[SpL.at]at h
 | .one s,0,q,h=>by simp only[SpL.at]at h;cases h;exact fun x=>rfl
 | .one s,j+1,q,h=>by simp[SpL.at]at h
 | .cons s l,0,q,h=>by simp only[SpL.at]at h;cases h;exact fun x=>rfl
 | .cons s l,j+1,q,h=>by
  simp only[SpL.at]at h;split at h
  ·rename_i s' f hf
   cases h;intro x;have:=vC0 l j _ hf x.2;simpa[y9]using this
  cases h
def SpL.tk:(l:SpL)->Nat->Option ((a:SpL)×(l.T->a.T))
 | _,0=>some ⟨.nil,fun _=>()⟩
 | .nil,_+1=>none
 | .one s,n+1=>match n with
  | 0=>some ⟨.one s,fun x=>x⟩
  | _+1=>none
 | .cons s l,n+1=>match n with
  | 0=>some ⟨.one s,fun x=>x.1⟩
  | n+1=>match l.tk (n+1)with
   | some ⟨a,f⟩=>some ⟨.cons s a,fun x=>(x.1,f x.2)⟩
   | none=>none
theorem vN0:∀ (l:SpL) (n:Nat) (q:(a:SpL)×(l.T->a.T)),l.tk n=some q->∀ x,(y9 l x).take n=y9 q.1 (q.2 x)/\n<=l.len
 | l,0,q,h=>by cases l<;>(simp only[SpL.tk]at h;cases h;exact fun x=>⟨by simp[y9],cN _⟩)
 | .nil,n+1,q,h=>by simp[SpL.tk]at h
 | .one s,1,q,h=>by simp only[SpL.tk]at h;cases h;exact fun x=>⟨rfl,ax _⟩
 | .one s,n+2,q,h=>by simp[SpL.tk]at h
 | .cons s l,1,q,h=>by simp only[SpL.tk]at h;cases h;exact fun x=>⟨rfl,by simp[SpL.len]⟩
 | .cons s l,n+2,q,h=>by
  simp only[SpL.tk]at h;split at h
  ·rename_i a f hf
   cases h;intro x;have:=vN0 l (n+1) _ hf x.2;exact⟨by simp only[y9,ja,this.1],by simp[SpL.len];omega⟩
  cases h
def SpL.dr:(l:SpL)->Nat->Option ((a:SpL)×(l.T->a.T))
 | l,0=>some ⟨l,fun x=>x⟩
 | .cons _ l,n+1=>match l.dr n with
  | some ⟨a,f⟩=>some ⟨a,fun x=>f x.2⟩
  | none=>none
 | _,_+1=>none
theorem wO0:∀ (l:SpL) (n:Nat) (q:(a:SpL)×(l.T->a.T)),l.dr n=some q->∀ x,(y9 l x).drop n=y9 q.1 (q.2 x)/\q.1.len+n=l.len
 | l,0,q,h=>by cases l<;>(simp only[SpL.dr]at h;cases h;exact fun x=>⟨rfl,by simp⟩)
 | .nil,n+1,q,h=>by simp[SpL.dr]at h
 | .one s,n+1,q,h=>by simp[SpL.dr]at h
 | .cons s l,n+1,q,h=>by
  simp only[SpL.dr]at h;split at h
  ·rename_i a f hf
   cases h;intro x;have:=wO0 l n _ hf x.2;have h2:=this.2;exact⟨by simp only[y9,fY,this.1],by simp only[SpL.len]at h2 ⊢;omega⟩
  cases h
def ldL(ti:TI)(l:SpL)(off:Nat):Option ((s:Sp)×(l.T->s.T)):=match ti.isAgg with
 | true=>match l.dr off with
  | some ⟨l1,f1⟩=>match l1.tk ti.size with
   | some ⟨l2,f2⟩=>some ⟨.agg l2,fun x=>f2 (f1 x)⟩
   | none=>none
  | none=>none
 | false=>l.at off
theorem ldL_ok{ti:TI}{l:SpL}{off:Nat}{q:(s:Sp)×(l.T->s.T)}(h:ldL ti l off=some q)(x:l.T):E2 ti (y9 l x) off=some (enc q.1 (q.2 x)):=by
 unfold ldL at h;split at h
 ·rename_i ha
  split at h
  ·rename_i l1 f1 h1
   split at h
   ·rename_i l2 f2 h2
    cases h;obtain⟨a,a2⟩:=wO0 l off _ h1 x;obtain⟨b,c⟩:=vN0 l1 ti.size _ h2 (f1 x);simp only[E2,ha,Al,D1];rw[Af (by simp only at a2;omega),a,b];simp only[enc]
   cases h
  cases h
 rename_i ha;simp only[E2,ha];exact vC0 l off q h x
def tXld(T:Tab)(Γ:List Sp)(t:TypeId)(c i:AV)(off:Nat):Option (TO Γ):=match T t with
 | some ti=>match shp Γ c with
  | some (.sl l)=>match L3 Γ c (.sl l)with
   | some a=>match shp Γ i with
    | some (.int k)=>match L3 Γ i (.int k)with
     | some b=>match ldL ti l off with
      | some ⟨s,f⟩=>some ⟨s,fun e=>((a e)[(b e).toNat]?).map f⟩
      | none=>none
     | none=>none
    | _=>none
   | none=>none
  | _=>none
 | none=>none
theorem vk0{T:Tab}{Φ:H7}{Γ:List Sp}{t a:TypeId}{z:Nat}{c i:AV}{off:Nat}{r:TO Γ}(h:tXld T Γ t c i off=some r):r.Ok T Φ (.xld t a z c i off):=by
 intro e v hv;unfold tXld at h;split at h
 ·rename_i ti j
  split at h
  ·split at h
   ·rename_i k b
    split at h
    ·split at h
     ·rename_i l d
      split at h
      ·rename_i s f hf
       cases h;simp only at hv;have hst:∀ c,(dX0 a z c).objs 0=some (.row a z (rowsOf c)):=fun c=>by simp[dX0,j3.objs_set]
       have m:∀ es,rowsOf (.rs es)=es:=fun _=>rfl;simp only[j9,n4 _ _ _ b e,n4 _ _ _ d e,enc,U3,hst,m,Y8,aS,j];cases g:(k e)[(l e).toNat]? with
       | none=>rw[g]at hv;cases hv
       | some x=>rw[g]at hv;cases hv;simp only[ak];exact ldL_ok hf x
      cases h
     cases h
    cases h
   cases h
  cases h
 cases h
def SpL.ups:(l:SpL)->(a:SpL)->Option (l.T->a.T->l.T)
 | _,.nil=>some fun x _=>x
 | .one s,.one s'=>match h:s'.eqb s with
  | true=>some fun _ y=>nb0 h y
  | false=>none
 | .cons s _,.one s'=>match h:s'.eqb s with
  | true=>some fun x y=>(nb0 h y,x.2)
  | false=>none
 | .cons s l,.cons s' a=>match h:s'.eqb s with
  | true=>match l.ups a with
   | some f=>some fun x y=>(nb0 h y.1,f x.2 y.2)
   | none=>none
  | false=>none
 | _,_=>none
theorem ux0:∀ (l a:SpL) (f:l.T->a.T->l.T),l.ups a=some f->∀ x y,y9 l (f x y)=y9 a y++(y9 l x).drop a.len/\a.len<=l.len
 | l,.nil,f,h=>by cases l<;>(simp only[SpL.ups]at h;cases h;exact fun x y=>⟨by simp[y9,SpL.len],cN _⟩)
 | .nil,.one s',f,h=>by simp[SpL.ups]at h
 | .nil,.cons s' a,f,h=>by simp[SpL.ups]at h
 | .one s,.one s',f,h=>by
  unfold SpL.ups at h;split at h
  ·rename_i b;cases h
   exact fun x y=>⟨by simp[y9,bK0,SpL.len],ax _⟩
  cases h
 | .one s,.cons s' a,f,h=>by simp[SpL.ups]at h
 | .cons s l,.one s',f,h=>by
  unfold SpL.ups at h;split at h
  ·rename_i b;cases h
   exact fun x y=>⟨by simp[y9,bK0,SpL.len],by simp[SpL.len]⟩
  cases h
 | .cons s l,.cons s' a,f,h=>by
  unfold SpL.ups at h;split at h
  ·rename_i b
   split at h
   ·rename_i c hf
    cases h;intro x y;obtain⟨h1,h2⟩:=ux0 l a c hf x.2 y.2;exact⟨by simp only[y9,bK0,SpL.len,fY,h1,dB],by simp[SpL.len];exact h2⟩
   cases h
  cases h
def SpL.upAt:(l:SpL)->Nat->(a:SpL)->Option (l.T->a.T->l.T)
 | l,0,a=>l.ups a
 | .cons _ l,n+1,a=>match l.upAt n a with
  | some f=>some fun x y=>(x.1,f x.2 y)
  | none=>none
 | _,_+1,_=>none
theorem rF0:∀ (l:SpL) (n:Nat) (a:SpL) (f:l.T->a.T->l.T),l.upAt n a=some f->∀ x y,y9 l (f x y)=N5 (y9 l x) n (y9 a y)/\n+a.len<=l.len
 | l,0,a,f,h=>by
  intro x y;have h':l.ups a=some f:=by cases l<;>simpa only[SpL.upAt]using h
  obtain⟨h1,h2⟩:=ux0 l a f h' x y;exact⟨by simp[N5,h1,D1],by simpa using h2⟩
 | .nil,n+1,a,f,h=>by simp[SpL.upAt]at h
 | .one s,n+1,a,f,h=>by simp[SpL.upAt]at h
 | .cons s l,n+1,a,f,h=>by
  simp only[SpL.upAt]at h;split at h
  ·rename_i b hf
   cases h;intro x y;obtain⟨h1,h2⟩:=rF0 l n a b hf x.2 y;refine⟨?_,by simp[SpL.len];omega⟩;simp only[y9,N5,ja,dB];have e:n+1+(y9 a y).length=(n+(y9 a y).length)+1:=by omega
   rw[e,fY,h1,N5]
  cases h
def celS:(s:Sp)->Option ((l:SpL)×(s.T->l.T))
 | .agg l=>match l.cells with
  | true=>some ⟨l,fun x=>x⟩
  | false=>none
 | s=>match s.cell with
  | true=>some ⟨.one s,fun x=>x⟩
  | false=>none
theorem wd0{s:Sp}{q:(l:SpL)×(s.T->l.T)}(h:celS s=some q)(x:s.T):(enc s x).cells=some (y9 q.1 (q.2 x))/\(y9 q.1 (q.2 x)).all AV.one=true:=by
 cases s<;>simp only[celS,Sp.cell]at h<;>first
  | (cases h;done)
  | (cases h;exact⟨rfl,rfl⟩)
  | (split at h<;>first | (cases h;done) | (rename_i a;cases h;exact⟨rfl,Kk0 a x⟩))
def setO{α β:Type}(xs:List α)(i:Nat)(f:α->β->α)(y:β):Option (List α):=match xs[i]? with
 | some x=>some (xs.set i (f x y))
 | none=>none
def tXst(T:Tab)(Γ:List Sp)(t:TypeId)(c i:AV)(off:Nat)(v:AV):Option (TO Γ):=match T t with
 | some ti=>match shp Γ c with
  | some (.sl l)=>match L3 Γ c (.sl l)with
   | some b=>match shp Γ i with
    | some (.int k)=>match L3 Γ i (.int k)with
     | some d=>match shp Γ v with
      | some s=>match L3 Γ v s with
       | some fv=>match celS s with
        | some ⟨a,g⟩=>match l.upAt off a with
         | some f=>match aB a.len ti.size with
          | true=>some ⟨.sl l,fun e=>setO (b e) (d e).toNat f (g (fv e))⟩
          | false=>none
         | none=>none
        | none=>none
       | none=>none
      | none=>none
     | none=>none
    | _=>none
   | none=>none
  | _=>none
 | none=>none
theorem vG0{T:Tab}{Φ:H7}{Γ:List Sp}{t a:TypeId}{z:Nat}{c i:AV}{off:Nat}{u:AV}{r:TO Γ}(h:tXst T Γ t c i off u=some r):r.Ok T Φ (.xst t a z c i off u):=by
 intro e v hv;unfold tXst at h;split at h
 ·rename_i ti o
  split at h
  ·rename_i l _
   split at h
   ·rename_i m b
    split at h
    ·split at h
     ·rename_i p d
      split at h
      ·rename_i s _
       split at h
       ·rename_i fv j
        split at h
        ·rename_i q g w
         split at h
         ·rename_i f hf
          split at h
          ·rename_i k
           have k:=af k;cases h;simp only[setO]at hv;have hst:∀ c,(dX0 a z c).objs 0=some (.row a z (rowsOf c)):=fun c=>by simp[dX0,j3.objs_set]
           have B:∀ es,rowsOf (.rs es)=es:=fun _=>rfl;have hc:c.sub (thE Γ e)=.rs ((m e).map (y9 l)):=n4 _ _ _ b e;obtain⟨c1,c2⟩:=wd0 w (fv e);simp only[j9,hc,n4 _ _ _ d e,n4 _ _ _ j e,U7,enc,Y8,c1,o,hst,B,aS];cases n:(m e)[(p e).toNat]? with
           | none=>rw[n]at hv;cases hv
           | some x=>rw[n]at hv;cases hv;obtain⟨C,D⟩:=rF0 l off q f hf x (g (fv e));simp only[ak];rw[Af ⟨by rw[D1,k],by rw[D1,D1];exact D,c2⟩];simp only[j3.objs_set,Al,jU,aD,d_];rw[<- C,List.map_set]
          cases h
         cases h
        cases h
       cases h
      cases h
     cases h
    cases h
   cases h
  cases h
 cases h
def zI:(n:Nat)->Option ((l:SpL)×l.T)
 | 0=>none
 | 1=>some ⟨.one (.int .i64),(0:Int)⟩
 | n+2=>match zI (n+1)with
  | some ⟨l,z⟩=>some ⟨.cons (.int .i64) l,((0:Int),z)⟩
  | none=>none
def zerO{α:Type}(bytes:Nat)(z:α)(n:Int):Option (List α):=bif decide (aa.wrap n=n)&&(decide (0<n)&&(decide ((2*n.toNat+1000)*bytes<=2^48)&&decide (n.toNat<=2^62)))then some (bm n.toNat z)else none
def qR0:List AV->List AV->Bool
 | [],[]=>true
 | .sc (.int .i64 a)::as,.sc (.int .i64 b)::bs=>decide (a=b)&&qR0 as bs
 | _,_=>false
theorem nX0:∀ {as bs:List AV},qR0 as bs=true->as=bs
 | [],[],_=>rfl
 | [],b::bs,h=>by simp[qR0]at h
 | a::as,bs,h=>by
  unfold qR0 at h;split at h
  ·rename_i h2;cases h2
  ·rename_i a' c b' d h1
   cases h1;simp only[ab,Ad]at h;rw[h.1,nX0 h.2]
  cases h
def tZer(T:Tab)(Γ:List Sp)(sT:TypeId)(x:AV):Option (TO Γ):=match T sT with
 | some { und:=.slice b,.. }=>match T b with
  | some a=>match zI a.size with
   | some ⟨l,z⟩=>match qR0 a.zeroCells (y9 l z)&&cm 0 a.size with
    | true=>match shp Γ x with
     | some (.int k)=>match L3 Γ x (.int k)with
      | some c=>some ⟨.sl l,fun e=>zerO a.bytes z (c e)⟩
      | none=>none
     | _=>none
    | false=>none
   | none=>none
  | none=>none
 | _=>none
theorem vz0{T:Tab}{Φ:H7}{Γ:List Sp}{sT:TypeId}{x:AV}{r:TO Γ}(h:tZer T Γ sT x=some r):r.Ok T Φ (.zer sT x):=by
 intro e v hv;unfold tZer at h;split at h
 ·rename_i f
  split at h
  ·rename_i g b
   split at h
   ·rename_i l z hz
    split at h
    ·rename_i c
     simp only[ab,aZ]at c;split at h
     ·split at h
      ·rename_i a d
       cases h;simp only[zerO]at hv;cases hc:(decide (aa.wrap (a e)=a e)&&(decide (0<a e)&&(decide ((2*(a e).toNat+1000)*g.bytes<=2^48)&&decide ((a e).toNat<=2^62))))with
       | false=>rw[hc]at hv;cases hv
       | true=>rw[hc]at hv;simp only[ab,Ad]at hc;cases hv;simp only[j9,vx0,f,b,n4 _ _ _ d e,enc];rw[Af ⟨hc.1,hc.2.1,hc.2.2.1,hc.2.2.2,c.2⟩,nX0 c.1];simp
      cases h
     cases h
    cases h
   cases h
  cases h
 cases h
def tIss(Γ:List Sp)(x:AV):Option (TO Γ):=match L3 Γ x .str with
 | some _=>some ⟨.tt,fun _=>some ()⟩
 | none=>none
theorem wu0{T:Tab}{Φ:H7}{Γ:List Sp}{x:AV}{r:TO Γ}(h:tIss Γ x=some r):r.Ok T Φ (.iss x):=by
 intro e v hv;unfold tIss at h;split at h
 ·rename_i f hf
  cases h;simp only[j9,n4 _ _ _ hf e,enc]
 cases h
def wo0(Γ:List Sp)(x p:AV):Option (TO Γ):=match L3 Γ x .str with
 | some a=>match L3 Γ p (.int .i64)with
  | some b=>some ⟨.bool,fun e=>some (decide ((b e).toNat<(a e).size))⟩
  | none=>none
 | none=>none
theorem tL0{T:Tab}{Φ:H7}{Γ:List Sp}{x p:AV}{r:TO Γ}(h:wo0 Γ x p=some r):r.Ok T Φ (.more x p):=by
 intro e v hv;unfold wo0 at h;split at h
 ·rename_i c a
  split at h
  ·rename_i d b
   cases h;cases hv;simp only[j9,n4 _ _ _ a e,n4 _ _ _ b e,enc]
  cases h
 cases h
def rw0(b:ByteArray)(n:Int):Option (Int×Int×Int):=bif decide (n.toNat<b.size)then some ((n.toNat:Int),((bV b n.toNat).1:Int),((n.toNat+(bV b n.toNat).2:Nat):Int))else none
def wS0(Γ:List Sp)(x p:AV):Option (TO Γ):=match L3 Γ x .str with
 | some a=>match L3 Γ p (.int .i64)with
  | some b=>some ⟨.tup (.cons (.int .i64) (.cons (.int .i32) (.one (.int .i64)))),fun e=>rw0 (a e) (b e)⟩
  | none=>none
 | none=>none
theorem sQ0{T:Tab}{Φ:H7}{Γ:List Sp}{x p:AV}{r:TO Γ}(h:wS0 Γ x p=some r):r.Ok T Φ (.sdec x p):=by
 intro e v hv;unfold wS0 at h;split at h
 ·rename_i c a
  split at h
  ·rename_i d b
   cases h;simp only[rw0]at hv;cases hc:decide ((d e).toNat<(c e).size)with
   | false=>rw[hc]at hv;cases hv
   | true=>rw[hc]at hv;cases hv;simp only[j9,n4 _ _ _ a e,n4 _ _ _ b e,enc,y9,hc]
  cases h
 cases h
def shD(T:Tab):Nat->TypeId->Option Sp
 | 0,_=>none
 | k+1,t=>match T t with
  | some { und:=.int k,.. }=>some (.int k)
  | some { und:=.bool,.. }=>some .bool
  | some { und:=.string,.. }=>some .str
  | some { und:=.slice e,.. }=>match shD T k e with
   | some s=>some (.sl (.one s))
   | none=>none
  | _=>none
def owS(T:Tab)(cols:bt0)(j:Nat)(s:Sp):Option ((s':Sp)×(s.T->s'.T)):=match U4 cols j with
 | some c=>match shD T 4 c.2.1 with
  | some s'=>some ⟨.sl (.one s'),fun _=>[]⟩
  | none=>none
 | none=>some ⟨s,fun x=>x⟩
theorem uh0{T:Tab}{cols:bt0}{j:Nat}{s:Sp}{r:(s':Sp)×(s.T->s'.T)}(h:owS T cols j s=some r)(x:s.T):bf0 cols j (enc s x)=enc r.1 (r.2 x):=by
 unfold owS at h;unfold bf0;split at h
 ·rename_i c hc
  split at h
  ·cases h;rw[hc];rfl
  cases h
 rename_i hc;cases h;rw[hc]
def owL(T:Tab)(cols:bt0):Nat->(l:SpL)->Option ((a:SpL)×(l.T->a.T))
 | _,.nil=>some ⟨.nil,fun x=>x⟩
 | j,.one s=>match owS T cols j s with
  | some ⟨s',f⟩=>some ⟨.one s',f⟩
  | none=>none
 | j,.cons s l=>match owS T cols j s with
  | some ⟨s',f⟩=>match owL T cols (j+1) l with
   | some ⟨a,g⟩=>some ⟨.cons s' a,fun x=>(f x.1,g x.2)⟩
   | none=>none
  | none=>none
theorem uF0{T:Tab}{cols:bt0}:∀ (j:Nat) (l:SpL) (r:(a:SpL)×(l.T->a.T)),owL T cols j l=some r->∀ x,J5 cols j (y9 l x)=y9 r.1 (r.2 x)
 | _,.nil,r,h,x=>by simp only[owL]at h;cases h;rfl
 | j,.one s,r,h,x=>by
  simp only[owL]at h;split at h
  ·rename_i s' f hf
   cases h;simp only[y9,J5,uh0 hf x]
  cases h
 | j,.cons s l,r,h,x=>by
  simp only[owL]at h;split at h
  ·rename_i s' f hf
   split at h
   ·rename_i a g b
    cases h;simp only[y9,J5,uh0 hf x.1,uF0 (j+1) l _ b x.2]
   cases h
  cases h
def nlAt(l:SpL)(j:Nat):Bool:=match l.at j with
 | some ⟨.nl,_⟩=>true
 | _=>false
theorem vy0{l:SpL}{j:Nat}(h:nlAt l j=true)(x:l.T):(y9 l x)[j]?=some (.sc (.slice none 0 0)):=by
 unfold nlAt at h;split at h
 ·rename_i f hf
  exact vC0 l j _ hf x
 cases h
def ownO{α β:Type}(f:α->β)(xs:List α):Option (List β):=bif decide (16*xs.length<=O6)then some (xs.map f)else none
def vm0(T:Tab)(Γ:List Sp)(cols:bt0)(x:AV):Option (TO Γ):=match shp Γ x with
 | some (.sl l)=>match L3 Γ x (.sl l),owL T cols 0 l,cols.all (fun c=>cm c.1 16&&nlAt l c.1)with
  | some a,some ⟨b,f⟩,true=>some ⟨.sl b,fun e=>ownO f (a e)⟩
  | _,_,_=>none
 | _=>none
theorem ti0{T:Tab}{Φ:H7}{Γ:List Sp}{cols:bt0}{x:AV}{r:TO Γ}(h:vm0 T Γ cols x=some r):r.Ok T Φ (.ownr cols x):=by
 intro e v hv;unfold vm0 at h;split at h
 ·rename_i l hl
  split at h
  ·rename_i g m f i hf hc
   cases h;simp only[ownO]at hv;have b:decide (16*(g e).length<=O6)=true:=by
    cases j:decide (16*(g e).length<=O6)with
    | true=>rfl
    | false=>rw[j]at hv;cases hv
   rw[b]at hv;cases hv;have d:vl0 cols ((g e).map (y9 l))=true:=by
    simp only[vl0,ab,aD,aj];refine⟨⟨b,fun c a=>?_⟩,fun r k c a=>?_⟩
    ·have:=aj.1 hc c a
     simp only[ab]at this;exact this.1
    obtain⟨y,_,rfl⟩:=aM.1 k;have:=aj.1 hc c a;simp only[ab]at this;rw[vy0 this.2 y];rfl
   simp only[j9,n4 _ _ _ i e,enc,d,cY];congr 2;refine bo fun y _=>?_;exact uF0 0 l _ hf y
  cases h
 cases h
def inO{α:Type}(xs:List α)(i:Int):Option Unit:=(xs[i.toNat]?).map fun _=>()
def tXin(Γ:List Sp)(c i:AV)(off:Nat):Option (TO Γ):=match shp Γ c with
 | some (.sl l)=>match L3 Γ c (.sl l),shp Γ i with
  | some a,some (.int k)=>match L3 Γ i (.int k),cm off l.len with
   | some b,true=>some ⟨.tt,fun e=>inO (a e) (b e)⟩
   | _,_=>none
  | _,_=>none
 | _=>none
theorem vR0{T:Tab}{Φ:H7}{Γ:List Sp}{c i:AV}{off:Nat}{r:TO Γ}(h:tXin Γ c i off=some r):r.Ok T Φ (.xin c i off):=by
 intro e v hv;unfold tXin at h;split at h
 ·rename_i l hl
  split at h
  ·rename_i g k a _
   split at h
   ·rename_i j b f
    cases h;simp only[inO]at hv;cases d:(g e)[(j e).toNat]? with
    | none=>rw[d]at hv;cases hv
    | some y=>
     have m:off<l.len:=by simpa[aZ]using f
     rw[d]at hv;cases hv;simp only[j9,n4 _ _ _ a e,n4 _ _ _ b e,enc,rowsOf,Y8,aS,d,ak,D1,f]
   cases h
  cases h
 cases h
def castL{a b:SpL}(h:a.eqb b=true)(x:a.T):b.T:=(SpL.eqb_eq a b h)▸x
theorem qi0{a b:SpL}(h:a.eqb b=true)(x:a.T):y9 b (castL h x)=y9 a x:=by have:=SpL.eqb_eq a b h;subst this;rfl
def chAt(l:SpL)(m i:Nat):Option ((a:SpL)×(l.T->a.T)):=match l.dr (i*m)with
 | some ⟨l1,f1⟩=>match l1.tk m with
  | some ⟨l2,f2⟩=>some ⟨l2,fun x=>f2 (f1 x)⟩
  | none=>none
 | none=>none
theorem vE0{l:SpL}{m i:Nat}{q:(b:SpL)×(l.T->b.T)}(h:chAt l m i=some q)(x:l.T):((y9 l x).drop (i*m)).take m=y9 q.1 (q.2 x)/\i*m+m<=(y9 l x).length:=by
 unfold chAt at h;split at h
 ·rename_i l1 f1 h1
  split at h
  ·rename_i l2 f2 h2
   cases h;obtain⟨a,a2⟩:=wO0 _ _ _ h1 x;obtain⟨c,d⟩:=vN0 _ _ _ h2 (f1 x);simp only at a a2;rw[a,D1];exact⟨c,by omega⟩
  cases h
 cases h
def chS(m:Nat)(s:SpL)(l:SpL):Nat->Nat->Option (l.T->List s.T)
 | 0,_=>some fun _=>[]
 | k+1,i=>match chAt l m i with
  | some ⟨l2,f⟩=>match h:l2.eqb s with
   | true=>match chS m s l k (i+1)with
    | some g=>some fun x=>castL h (f x)::g x
    | none=>none
   | false=>none
  | none=>none
theorem uN0{m:Nat}{s l:SpL}:∀ (k i:Nat) (g:l.T->List s.T),chS m s l k i=some g->∀ x,(g x).length=k/\∀ j y,(g x)[j]?=some y->((y9 l x).drop ((i+j)*m)).take m=y9 s y/\(i+j)*m+m<=(y9 l x).length
 | 0,i,g,h,x=>by simp only[chS]at h;cases h;exact⟨rfl,fun j y a=>by simp at a⟩
 | k+1,i,g,h,x=>by
  unfold chS at h;split at h
  ·rename_i l2 f h2
   split at h
   ·rename_i n
    split at h
    ·rename_i b c
     cases h;obtain⟨d,e⟩:=uN0 k (i+1) b c x;refine⟨by simp[d],fun j y a=>?_⟩;cases j with
     | zero=>simp only[cq,ah]at a;subst a;rw[qi0];exact vE0 h2 x
     | succ j=>rw[aR]at a;have:=e j y a;rw[show i+1+j=i+(j+1)by omega]at this;exact this
    cases h
   cases h
  cases h
def gI0(T:Tab)(Γ:List Sp)(t:TypeId)(x i:AV):Option (TO Γ):=match shp Γ i with
 | some (.int k)=>match L3 Γ i (.int k)with
  | some b=>match T t with
   | some { und:=.array len c,.. }=>match T c with
    | some a=>match shp Γ x with
     | some (.agg l)=>match L3 Γ x (.agg l)with
      | some d=>match chAt l a.size 0 with
       | some ⟨s,_⟩=>match chS a.size s l len 0 with
        | some g=>match a.isAgg with
         | true=>some ⟨.agg s,fun e=>nth (g (d e)) (b e)⟩
         | false=>none
        | none=>none
       | none=>none
      | none=>none
     | _=>none
    | none=>none
   | _=>none
  | none=>none
 | _=>none
theorem pm0{T:Tab}{Φ:H7}{Γ:List Sp}{t:TypeId}{x i:AV}{r:TO Γ}(h:gI0 T Γ t x i=some r):r.Ok T Φ (.index t x i):=by
 intro e v hv;unfold gI0 at h;split at h
 ·split at h
  ·rename_i m j
   split at h
   ·rename_i len B _ _ _ _ n
    split at h
    ·rename_i C he
     split at h
     ·rename_i l hl
      split at h
      ·rename_i o k
       split at h
       ·rename_i s f0 p
        split at h
        ·rename_i g q
         split at h
         ·rename_i c
          cases h;simp only[nth]at hv;by_cases f:0<=m e
          ·simp only[f,Ai,Ac]at hv
           obtain⟨u,w⟩:=uN0 _ _ _ q (o e);have d:=(ar.1 hv).1;have h1:m e<(len:Int):=by
            rw[u]at d;have key:∀ z:Int,0<=z->z.toNat<len->z<(len:Int):=fun z a b=>by omega
            exact key _ f d
           have:=w _ _ hv;rw[aG]at this;simp only[j9,n4 _ _ _ k e,n4 _ _ _ j e,enc,cm0,n,he,f,h1,and_self,Al,jV0,E2,c];rw[Af this.2,this.1]
          simp[f]at hv
         cases h
        cases h
       cases h
      cases h
     cases h
    cases h
   cases h
  cases h
 cases h
end Go.Ab
