/- A part of the proof; its readable source lies in wip of the prover's repo (squeezed here for the limit of bytes). -/
import Derived.Test.YtlnpfkdodfgdcaaGreatDoorMa
import Derived.Laws.Externs
import Derived.Laws.StructEq
import GoSem.ClaimJoined
import Derived.Below
import Derived.ChangeArms
import Derived.Deep.Slices
set_option linter.unusedVariables false
set_option linter.unusedSimpArgs false
set_option linter.unusedSectionVars false
open Array renaming all_eq_true_iff_forall_mem->cX,eq_empty_of_size_eq_zero->gA,ext'->dm,getD_eq_getD_getElem?->eG,getElem?_eq_getElem->aH,getElem?_eq_some_iff->aL,getElem?_push->bA,getElem?_setIfInBounds_ne->gw,getElem?_setIfInBounds_self_of_lt->fL,length_toList->fR,replicate->bn
open Bool renaming and_eq_true->ab,false_and->iS,false_eq_true->aq,false_or->cw,not_false->aY,not_true->aA,true_and->dD
open ForInStep renaming yield->gv
open Function renaming comp_def->cF
open Go.Act renaming put->kg
open Go.DataW renaming weights->ez,weightsAll->fC,weightsEach->eX
open Go.Deferred renaming ofValue->gm
open Go.Instr renaming checkKey->bP
open Go.Op renaming eqFields->jw,equalIn->fz
open Go.Oper renaming apart_spec->gY,upon->eF,wp->fO
open Go.Region renaming binds->cz,ready->bE,wanted->de
open Go.Result renaming andThen_ok->ae
open Go.Sem renaming run->ey,run_bind->ao,run_pure->au
open Go.Utf8 renaming decode->bV
open Go.Value renaming int->bk
open Go.World renaming cells?_some->eY
open List renaming all_cons->bU,all_eq_true->aj,all_map->dR,cons_append->dB,cons_beq_cons->ji,drop_eq_getElem_cons->bM,drop_zero->gz,eq_nil_of_length_eq_zero->cI,ext_getElem?->h_,filter_cons->cA,filter_eq_self->fW,forIn_cons->gZ,getD->iF,getElem?_cons_succ->aR,getElem?_cons_zero->cq,getElem?_eq_getElem->ai,getElem?_eq_some_iff->ar,getElem?_map->aS,getElem?_modify->iT,getElem_map->cn,getElem_mem->aw,getElem_of_mem->bH,isEmpty_map->fF,length_cons->ay,length_map->aD,length_range->hY,map->bZ,map_congr_left->bo,map_cons->az,map_drop->ec,map_map->cY,map_nil->cB,map_set->kG,map_take->eO,mem_append_left->eN,mem_append_right->ga,mem_cons->aC,mem_cons_of_mem->bO,mem_filterMap->dy,mem_map->aM,nil_append->aT,range'->dx,range'_succ->jI,range->aJ
open Nat renaming add_mul->bI,add_zero->cM,beq->aB,ble->di,blt->cm,blt_eq->aZ,eq_of_beq_eq_true->af,le_add_right->bc,le_of_ble_eq_true->aU,le_refl->ax,le_trans->bC,lt_or_ge->cg,mul_le_mul_right->bq,strongRecOn->gu,zero_add->aG,zero_le->cN
open Ne renaming symm->kr
open Option renaming getD_none->gT,isNone_some->iU,map_map->fX,map_some->ak,none->iK
open Option.some renaming injEq->ah
open PUnit renaming unit->dH
open Prod.mk renaming injEq->cy
open Std.Legacy.Range renaming forIn_eq_forIn_range'->eI
namespace Go.Ab
open Go
variable [B6]
def Cond(ops:Array Oper)(n0 N mask:Nat)(o:Oper)(f:Inf)(s:AS)(tm:Nat->AV)(σ:j3):Prop :=
 (∀ t∈o.looksAt ops,tm t=s.get t)/\(∀ id∈f.rd,σ.objs id=s.st.objs id)/\(f.call=true->σ.next=s.st.next/\∀ id,id∉Y3 n0 N mask->σ.objs id=s.st.objs id) /\
  (f.bar=true->σ.next=s.st.next/\∀ id,σ.objs id=s.st.objs id)
structure EvOk(n0 N i:Nat)(o:Oper)(f:Inf)(ev:Ev):Prop where
 tmp:∀ t,ev.uT t≠none->o.dst=some t
 obj:∀ id,ev.uO id≠none->id∈f.wr\/id=n0+i\/(f.call=true/\f.nx<=id)\/f.bar=true
 num:f.call=false->f.bar=false->ev.uN=none
 start:f.call=true->n0+N<=f.nx
 idle:idle o.op=true->(∀ id,ev.uO id=none)/\f.call=false/\f.rd=[]/\f.bar=false
theorem jL0(s:AS)(σ:j3)(d:Option Tmp)(v:AV)(t:Nat):({ s with st:=σ }.put d v).get t=(my0 d v t).getD (s.get t):=by
 cases d with
 | none=>rfl
 | some d=>
  rw[AS.get_put];simp only[my0];by_cases e:t=d
  ·simp[e]
  rw[Ae e,Ae (by simp;exact fun h=>e h.symm)];rfl
theorem bl0.weak{P:Program}{ops:Array Oper}{n n0 N i:Nat}{c c':(Nat->AV)->j3->Prop}{ev:Ev}(h:bl0 P ops n n0 N i c ev)(hc:∀ tm σ,c' tm σ->c tm σ):bl0 P ops n n0 N i c' ev :=fun G a w tm σ d b=>h G a w tm σ d (hc tm σ b)
theorem lj0{n0 N mask id:Nat}:id∈Y3 n0 N mask↔∃ j,j<N/\mask.testBit j=false/\id=n0+j:=by
 unfold Y3;rw[dy];constructor
 ·rintro ⟨j,hj,h⟩
  split at h
  ·cases h
  rename_i a;cases h;exact⟨j,by simpa using hj,by simpa using a,rfl⟩
 rintro ⟨j,hj,a,rfl⟩;exact⟨j,by simpa using hj,by simp[a]⟩
section
variable {P:Program} {T:Tab} (hT:C0 P T) {cl:FuncId->List AV->j3->Option (AV×j3)}
 (hcl:∀ f args σ v σ',cl f args σ=some (v,σ')->B4 P f args σ (fun v' σ''=>v'=v/\σ''=σ')/\J1 σ σ')
 {ops:Array Oper} {n0 N:Nat}
include hT hcl
theorem th0{mask i:Nat}{bar:Bool}{s s1:AS}{o:Oper}{f:Inf}(C:ops[i]?=some o)(hi:i<N)(Q:n0+N<=s.st.next)(h:eJ0 T cl ops n0 N mask i bar s o=some (s1,f)) :
  ∃ ev,EvOk n0 N i o f ev/\(∀ t,s1.get t=(ev.uT t).getD (s.get t))/\(∀ id,s1.st.objs id=(ev.uO id).getD (s.st.objs id))/\s1.st.next=ev.uN.getD s.st.next/\s1.n=s.n/\s.st.next<=s1.st.next /\
   bl0 P ops s.n n0 N i (Cond ops n0 N mask o f s) ev:=by
 unfold eJ0 at h;split at h
 ·rename_i hw w
  cases h;refine⟨⟨my0 o.dst (.sc undef),fun _=>none,none⟩,⟨fun t b=>?_,fun id hid=>Am rfl hid,fun _ _=>rfl,(fun h=>by cases h),fun _=>⟨fun _=>rfl,rfl,rfl,rfl⟩⟩,fun t=>?_,fun id=>by simp,by simp,by simp,by simp,?_⟩
  ·simp only[my0]at b;split at b
   ·assumption
   exact Am rfl b
  ·have:=jL0 s s.st o.dst (.sc undef) t;exact this
  exact(lZ0 C hw w).weak fun tm σ hc=>hc.1
 ·rename_i hw w
  split at h
  ·rename_i U args ts k
   split at h
   ·rename_i V first cap z
    split at h
    ·split at h
     ·rename_i v σ1 hc
      split at h
      ·rename_i D
       cases h;obtain⟨a,B⟩:=hcl _ _ _ _ _ hc;have c:args.toList.map s.eval=args.toList.map (Q7 s.get):=bo fun x _=>AS.eval_eq s x;refine⟨⟨my0 o.dst v,fun id=>some (σ1.objs id),some σ1.next⟩,⟨fun t b=>?_,fun id hid=>.inr (.inr (.inr rfl)),(fun _ h=>by cases h),(fun h=>by cases h),(fun h=>by rw[k]at h;simp[Go.Ab.idle]at h)⟩,fun t=>jL0 s _ o.dst v t,fun id=>by simp,by simp,by simp,by simpa using D,?_⟩
       ·simp only[my0]at b;split at b
        ·assumption
        exact Am rfl b
       refine(mT0 (n0:=n0) (N:=N) C k hw w (by rw[<- AS.eval_eq];exact z) s.st v σ1 (by rw[<- c];exact a)).weak ?_;rintro tm σ ⟨c1,c2,M,E⟩;exact⟨c1,E rfl⟩
      cases h
     cases h
    split at h
    ·rename_i v σ1 hc
     split at h
     ·rename_i p
      cases h;obtain⟨a,B⟩:=hcl _ _ _ _ _ hc;obtain⟨G,l⟩:=jh0 s.st (Y3 n0 N mask);have d:∀ id,({ S0 (saved s.st (Y3 n0 N mask)) s.st with low:=s.st.next }:j3).objs id=if (Y3 n0 N mask).contains id then none else s.st.objs id:=fun id=>by
       show (S0 (saved s.st (Y3 n0 N mask)) s.st).objs id=_;rw[eb0];by_cases e:id∈Y3 n0 N mask
       ·have:(Y3 n0 N mask).contains id=true:=by simpa using e
        rw[this];simp only[Al];cases r:s.st.objs id with
        | none=>simp
        | some x=>rw[Af ((l id).2 ⟨e,by simp[r]⟩)]
       have:(Y3 n0 N mask).contains id=false:=by simpa using e
       rw[this];rw[Ae (fun H=>e ((l id).1 H).1)];simp
      have q:∀ id,id<s.st.next->σ1.objs id=({ S0 (saved s.st (Y3 n0 N mask)) s.st with low:=s.st.next }:j3).objs id:=fun id hid=>B.2 id (by omega);have hex:∀ id,id∈Y3 n0 N mask->id<s.st.next:=fun id hid=>by obtain⟨j,hj,_,rfl⟩:=lj0.1 hid;omega
      refine⟨⟨my0 o.dst v,fun id=>if id<s.st.next then none else some (σ1.objs id),some σ1.next⟩,⟨fun t b=>?_,fun id hid=>?_,(fun h _=>by cases h),fun _=>Q,(fun h=>by rw[k]at h;simp[Go.Ab.idle]at h)⟩,fun t=>jL0 s _ o.dst v t,fun id=>?_,?_,by simp,?_,?_⟩
      ·simp only[my0]at b;split at b
       ·assumption
       exact Am rfl b
      ·refine .inr (.inr (.inl ⟨rfl,?_⟩))
       simp only at hid;split at hid
       ·exact Am rfl hid
       show s.st.next<=id;omega
      ·simp only[AS.put_st]
       show (Z8 (saved s.st (Y3 n0 N mask)) σ1).objs id=_;rw[dO0 s.st.objs _ _ _ G];by_cases e:id<s.st.next
       ·rw[Af e]
        simp only[gT];split
        ·rfl
        rename_i I;rw[q id e,d id];split
        ·rename_i J
         cases r:s.st.objs id with
         | none=>rfl
         | some x=>exact Am ((l id).2 ⟨by simpa using J,by simp[r]⟩) I
        rfl
       rw[Ae e,Ae (fun H=>e (hex id ((l id).1 H).1))];rfl
      ·simp only[AS.put_st]
       show (Z8 (saved s.st (Y3 n0 N mask)) σ1).next=_;rw[ea0];rfl
      ·simp only[AS.put_st]
       show s.st.next<=(Z8 (saved s.st (Y3 n0 N mask)) σ1).next;rw[ea0];exact p.2
      have c:args.toList.map s.eval=args.toList.map (Q7 s.get):=bo fun x _=>AS.eval_eq s x;refine(kO0 (n0:=n0) (N:=N) C k hw w (by rw[<- AS.eval_eq];exact z) s.st { S0 (saved s.st (Y3 n0 N mask)) s.st with low:=s.st.next } v σ1 (fun id=>(Y3 n0 N mask).contains id) (dZ0 _ _) d q (by rw[<- c];exact a)).weak ?_;rintro tm σ ⟨c1,c2,M,_⟩;obtain⟨E,R⟩:=M rfl;exact⟨c1,E,fun id hid=>R id (by simpa using hid)⟩
     cases h
    cases h
   cases h
  rename_i S;split at h
  ·rename_i v σ1 ha
   cases h;have g:s.eval=Q7 s.get:=funext (AS.eval_eq s);rw[g]at ha;have p:=gY0 ha;refine⟨_,⟨fun t b=>?_,fun id hid=>?_,fun _ _=>rfl,(fun h=>by cases h),fun u=>?_⟩,fun t=>jL0 s _ o.dst v t,fun id=>?_,?_,by simp,?_,(jW0 hT C hi hw w s.st v σ1 ha).weak ?_⟩
   ·simp only[my0]at b;split at b
    ·assumption
    exact Am rfl b
   ·simp only at hid
    rw[g];split at hid
    ·rename_i hc;left;rw[Af hc.1];exact hc.2
    split at hid
    ·rename_i e;exact .inr (.inl e)
    exact Am rfl hid
   ·obtain⟨e1,e2,e3⟩:=tB0 ha u
    refine⟨fun id=>?_,rfl,by rw[g];exact e2,rfl⟩;simp only[e3,aq,false_and,Ah];split
    ·rw[e1,dd0,e2];simp
    rfl
   ·simp only[AS.put_st]
    rw[g];by_cases O:isE o.op=true
    ·simp only[O,Al,Aq]
     by_cases hm:id∈bQ0 (Q7 s.get) o.op
     ·rw[Af hm]
      split
      ·rename_i x m
       rw[j3.objs_set];split
       ·rename_i e;rw[e];simp[m]
       rw[aH0,Af hm];rfl
      rw[aH0,Af hm];rfl
     rw[Ae hm];split
     ·rename_i x m
      rw[j3.objs_set];split
      ·rename_i e;rw[e];simp[m]
      rw[aH0,Ae hm];rfl
     rename_i m;rw[aH0,Ae hm];split
     ·rename_i e;rw[e];simp[m]
     rfl
    have K:isE o.op=false:=by simpa using O
    simp only[K,aq,Ah,false_and];split
    ·rename_i x m
     rw[j3.objs_set];split
     ·rename_i e;rw[e];simp[m]
     rfl
    rename_i m;split
    ·rename_i e;rw[e];simp[m]
    rfl
   ·simp only[AS.put_st,gT]
    split
    ·simp only[j3.set_next];split
     ·rw[aG0]
     rfl
    split
    ·rw[aG0]
    rfl
   ·simp only[AS.put_st]
    split
    ·simp only[j3.set_next];split
     ·rw[aG0];exact ax _
     exact ax _
    split
    ·rw[aG0];exact ax _
    exact ax _
   rintro tm σ ⟨c1,c2,_⟩;exact⟨c1,fun id hid=>c2 id (by rw[g];exact hid)⟩
  cases h
 cases h
theorem mn0{a:List Nat}:∀ (l:List Oper) (i:Nat) (s s':AS) (fs:List Inf),(∀ j:Nat,l[j]?=ops[i+j]?)->i+l.length<=N->n0+N<=s.st.next->pX0 T cl ops n0 N a l i s=some (s',fs) ->
  ∃ (evs:List Ev) (sts:List AS),evs.length=l.length/\fs.length=l.length/\sts.length=l.length/\s'.n=s.n /\
   (∀ (j:Nat) o f ev st,l[j]?=some o->fs[j]?=some f->evs[j]?=some ev->sts[j]?=some st->EvOk n0 N (i+j) o f ev/\bl0 P ops s.n n0 N (i+j) (Cond ops n0 N (a.getD (i+j) 0) o f st) ev/\(f.call=true->f.nx=st.st.next) /\
    (∀ t,st.get t=fold (fun k=>decide (k<i+j)) (evs.map (·.uT)) i s.get t)/\(∀ id,st.st.objs id=fold (fun k=>decide (k<i+j)) (evs.map (·.uO)) i s.st.objs id) /\
    (st.st.next=fold (fun k=>decide (k<i+j)) (evs.map fun e=>fun _:Unit=>e.uN) i (fun _=>s.st.next) ())) /\
   (∀ t,s'.get t=fold (fun _=>true) (evs.map (·.uT)) i s.get t)/\(∀ id,s'.st.objs id=fold (fun _=>true) (evs.map (·.uO)) i s.st.objs id) /\
   (s'.st.next=fold (fun _=>true) (evs.map fun e=>fun _:Unit=>e.uN) i (fun _=>s.st.next) ())
 | [],i,s,s',fs,_,_,_,h=>by simp only[pX0,ah,cy]at h;obtain⟨rfl,rfl⟩:=h;exact⟨[],[],rfl,rfl,rfl,rfl,fun j o f ev st hj=>by simp at hj,fun _=>rfl,fun _=>rfl,rfl⟩
 | o::rest,i,s,s',fs,hl,x,z,h=>by
  have B:ops[i]?=some o:=by have:=hl 0;simpa using this.symm
  have g:∀ j:Nat,rest[j]?=ops[i+1+j]?:=fun j=>by have:=hl (j+1);simpa[Nat.add_assoc,Nat.add_comm 1 j]using this
  simp only[ay]at x;unfold pX0 at h;split at h
  ·rename_i s1 f hs
   split at h
   ·rename_i s2 m C
    cases h;obtain⟨ev,e1,e2,e3,e4,e5,e6,e7⟩:=th0 hT hcl B (by omega) z hs;obtain⟨evs,sts,l1,l2,l3,D,b,g1,g2,g3⟩:=mn0 rest (i+1) s1 s' m g (by omega) (by omega) C;have q:∀ k,i<=k->decide (k<i+0)=false:=fun k hk=>by simp;omega
    have f1:∀ (p:Nat->Bool),p i=true->∀ t,fold p ((ev::evs).map (·.uT)) i s.get t=fold p (evs.map (·.uT)) (i+1) s1.get t:=fun p hp t=>by simp only[az,fold,hp,Ac];rw[show (fun l=>(ev.uT l).getD (s.get l))=s1.get from funext fun t=>(e2 t).symm]
    have f2:∀ (p:Nat->Bool),p i=true->∀ id,fold p ((ev::evs).map (·.uO)) i s.st.objs id=fold p (evs.map (·.uO)) (i+1) s1.st.objs id:=fun p hp id=>by simp only[az,fold,hp,Ac];rw[show (fun l=>(ev.uO l).getD (s.st.objs l))=s1.st.objs from funext fun t=>(e3 t).symm]
    have f3:∀ (p:Nat->Bool),p i=true->fold p ((ev::evs).map fun e=>fun _:Unit=>e.uN) i (fun _=>s.st.next) ()=fold p (evs.map fun e=>fun _:Unit=>e.uN) (i+1) (fun _=>s1.st.next) ():=fun p hp=>by simp only[az,fold,hp,Ac];rw[show (fun _:Unit=>ev.uN.getD s.st.next)=(fun _=>s1.st.next)from funext fun _=>e4.symm]
    refine⟨ev::evs,s::sts,by simp[l1],by simp[l2],by simp[l3],by rw[D,e5],fun j o' E r w h1 h2 c d=>?_,fun t=>by rw[f1 _ rfl];exact g1 t,fun id=>by rw[f2 _ rfl];exact g2 id,by rw[f3 _ rfl];exact g3⟩;cases j with
    | zero=>
     simp only[cq,ah]at h1 h2 c d;subst h1 h2 c d;refine⟨e1,e7,fun hc=>?_,fun t=>(ay0 t _ i _ _ (fun j u _ hp=>by have:=Aj hp;omega) rfl).symm,fun id=>(ay0 id _ i _ _ (fun j u _ hp=>by have:=Aj hp;omega) rfl).symm,(ay0 (p:=fun k=>decide (k<i+0)) () _ i (fun _=>s.st.next) s.st.next (fun j u _ hp=>by have:=Aj hp;omega) rfl).symm⟩
     
     unfold eJ0 at hs;split at hs
     ·cases hs;cases hc
     ·split at hs
      ·split at hs
       ·split at hs
        ·split at hs
         ·split at hs
          ·cases hs;cases hc
          cases hs
         cases hs
        split at hs
        ·split at hs
         ·cases hs;rfl
         cases hs
        cases hs
       cases hs
      split at hs
      ·cases hs;cases hc
      cases hs
     cases hs
    | succ j=>
     simp only[aR]at h1 h2 c d;obtain⟨q1,q2,q3,q4,q5,q6⟩:=b j o' E r w h1 h2 c d;have hp:decide (i<i+(j+1))=true:=by simp
     rw[show i+1+j=i+(j+1)from by omega]at q1 q2 q4 q5 q6;rw[e5]at q2;exact⟨q1,q2,q3,fun t=>by rw[f1 _ hp];exact q4 t,fun id=>by rw[f2 _ hp];exact q5 id,by rw[f3 _ hp];exact q6⟩
   cases h
  cases h
end
theorem wi0{ops:Array Oper}{c:List Nat}{n0:Nat}{fs:List Inf}(hst:kY0 ops c=true)(hdyn:(cb0 ops c).all (fun p=>fV0 n0 p.1 p.2 (fs.getD p.1 ⟨[],[],false,0,false⟩) (fs.getD p.2 ⟨[],[],false,0,false⟩))=true)
  {i j:Nat} {a b:Oper} (d:i<j) (ha:ops[i]?=some a) (h:ops[j]?=some b) (hm:(c.getD j 0).testBit i=false) :
  a.apart ops b=true/\(idle a.op=true\/idle b.op=true\/fV0 n0 i j (fs.getD i ⟨[],[],false,0,false⟩) (fs.getD j ⟨[],[],false,0,false⟩)=true):=by
 have hj:j<ops.size:=(aL.1 h).1;have h1:=aj.1 hst j (by simpa using hj);rw[ab]at h1;have h2:=aj.1 h1.2 i (by simpa using d);rw[hm,cw,ha,h]at h2;refine⟨h2,?_⟩;by_cases e:idle a.op=true
 ·exact .inl e
 by_cases f:idle b.op=true
 ·exact .inr (.inl f)
 right;right;have g:(i,j)∈cb0 ops c:=by unfold cb0;rw[List.mem_flatMap];refine⟨j,by simpa using hj,dy.2 ⟨i,by simpa using d,?_⟩⟩;rw[hm,ha,h];simp[e,f]
 exact aj.1 hdyn (i,j) g
structure qh0(n0 i j:Nat)(a b:Inf):Prop where
 ww:∀ x∈a.wr,x∉b.rd/\x∉b.wr
 wr:∀ x∈b.wr,x∉a.rd
 ni:n0+i∉b.rd/\n0+i∉b.wr
 nj:n0+j∉a.rd/\n0+j∉a.wr
 cc:¬ (a.call=true/\b.call=true)
 nb:a.bar=false/\b.bar=false
 ca:a.call=true->b.wr=[]/\∀ x∈b.rd,x<a.nx
 cb:b.call=true->a.wr=[]/\∀ x∈a.rd,x<b.nx
theorem nm0{n0 i j:Nat}{a b:Inf}(h:fV0 n0 i j a b=true):qh0 n0 i j a b:=by
 unfold fV0 at h;simp only[ab]at h;obtain⟨⟨⟨⟨⟨⟨⟨⟨h1,h2⟩,k⟩,l⟩,m⟩,f⟩,g⟩,d⟩,e⟩:=h;refine⟨fun x c=>?_,fun x c=>?_,?_,?_,?_,⟨by simpa using f,by simpa using g⟩,fun hc=>?_,fun hc=>?_⟩
 ·have:=aj.1 h1 x c
  simpa using this
 ·have:=aj.1 h2 x c
  simpa using this
 ·simpa using k
 ·simpa using l
 ·rintro ⟨e1,e2⟩;simp[e1,e2]at m
 ·rw[hc]at d
  simp only[aA,cw,ab]at d;exact⟨by simpa using d.1,fun x c=>by simpa using aj.1 d.2 x c⟩
 rw[hc]at e;simp only[aA,cw,ab]at e;exact⟨by simpa using e.1,fun x c=>by simpa using aj.1 e.2 x c⟩
def left(N:Nat)(p:Nat->Bool):Nat:=((aJ N).filter fun i=>!p i).length
theorem og0{N i:Nat}{p:Nat->Bool}(hi:i<N)(hp:p i=false):left N (fun j=>j==i||p j)+1=left N p:=by
 unfold left;have key:∀ l:List Nat,l.Nodup->i∈l->(l.filter fun j=>!(j==i||p j)).length+1=(l.filter fun j=>!p j).length:=by
  intro l
  induction l with
  | nil=>intro _ h;cases h
  | cons a l f=>
   intro b d;rw[List.nodup_cons]at b;by_cases e:a=i
   ·subst e
    have c:(l.filter fun j=>!(j==a||p j))=l.filter fun j=>!p j:=by
     apply List.filter_congr;intro j hj;have:(j==a)=false:=by simp;exact fun h=>b.1 (h▸hj)
     simp[this]
    rw[cA,cA,c,hp];simp
   have hm:i∈l:=by
    rcases aC.1 d with h | h
    ·exact Am h.symm e
    exact h
   have:=f b.2 hm;have g:(a==i)=false:=by simpa using e
   rw[cA,cA,g,cw];cases k:p a
   ·simp only[aY,Al,ay];omega
   simp only[aA,aq,Ah];exact this
 exact key _ List.nodup_range (by simpa using hi)
theorem ln0{N:Nat}{p:Nat->Bool}(h:left N p=0):∀ i,i<N->p i=true:=by intro i hi;unfold left at h;have:=List.length_eq_zero_iff.1 h;rw[List.filter_eq_nil_iff]at this;have:=this i (by simpa using hi);simpa using this
section
variable {P:Program} {T:Tab} {ops:Array Oper} {n n0:Nat} {fs:List Inf} {evs:List Ev} {sts:List AS} {s0 s':AS}
theorem ho0{α:Type}{l:List α}{j n:Nat}(h:l.length=n)(hj:j<n):∃ x,l[j]?=some x:=⟨l[j]'(by omega),ai _⟩
structure Lex(P:Program)(ops:Array Oper)(n n0:Nat)(fs:List Inf)(evs:List Ev)(sts:List AS)(s0:AS):Prop where
 hst:kY0 ops (dq0 ops.toList [])=true
 hdyn:(cb0 ops (dq0 ops.toList [])).all (fun p=>fV0 n0 p.1 p.2 (fs.getD p.1 ⟨[],[],false,0,false⟩) (fs.getD p.2 ⟨[],[],false,0,false⟩))=true
 l1:evs.length=ops.size
 l2:fs.length=ops.size
 l3:sts.length=ops.size
 all:∀ (j:Nat) o f ev st,ops[j]?=some o->fs[j]?=some f->evs[j]?=some ev->sts[j]?=some st->EvOk n0 ops.size j o f ev/\bl0 P ops n n0 ops.size j (Cond ops n0 ops.size ((dq0 ops.toList []).getD j 0) o f st) ev/\(f.call=true->f.nx=st.st.next) /\
    (∀ t,st.get t=fold (fun k=>decide (k<j)) (evs.map (·.uT)) 0 s0.get t)/\(∀ id,st.st.objs id=fold (fun k=>decide (k<j)) (evs.map (·.uO)) 0 s0.st.objs id) /\
    (st.st.next=fold (fun k=>decide (k<j)) (evs.map fun e=>fun _:Unit=>e.uN) 0 (fun _=>s0.st.next) ())
structure Way(ops:Array Oper)(n n0:Nat)(evs:List Ev)(s0:AS)(G0:j4)(σ0:j3)(w0:World)(p:Nat->Bool)(G:j4)(tm:Nat->AV)(σ:j3)(a:Act)(w:World):Prop where
 rel:tt0 G n tm σ a w
 tm:∀ t,tm t=fold p (evs.map (·.uT)) 0 s0.get t
 ob:∀ id,σ.objs id=fold p (evs.map (·.uO)) 0 s0.st.objs id
 nx:σ.next=fold p (evs.map fun e=>fun _:Unit=>e.uN) 0 (fun _=>s0.st.next) ()
 free:∀ j,j<ops.size->p j=false->G.pl (n0+j)=none
 closed:fF0 ops p
 big:n0+ops.size<=σ.next
 tran:fA0 n0 G0 σ0 w0 G σ w
theorem Lex.edge(h:Lex P ops n n0 fs evs sts s0){j:Nat}{o:Oper}(a:ops[j]?=some o){e:Edge}(he:e∈o.after)(b:cz .any e=true):e.on<j:=by have hj:j<ops.size:=(aL.1 a).1;have h1:=aj.1 h.hst j (by simpa using hj);rw[ab,a]at h1;have:=cX.1 h1.1 e he;simpa[b]using this
theorem Lex.mask_lt(h:Lex P ops n n0 fs evs sts s0){j i:Nat}{o:Oper}(c:ops[j]?=some o)(d:((dq0 ops.toList []).getD j 0).testBit i=true):i<j:=by
 have b:fF0 ops (fun k=>decide (k<j)):=fun k o' hk hp e he a=>by have:=h.edge hk he a;have:=Aj hp;simp;omega
 have:=by0 b j o c (fun e he a=>by simpa using h.edge c he a) i d;simpa using this
theorem Lex.apart(h:Lex P ops n n0 fs evs sts s0){i j:Nat}{a b:Oper}{c d:Inf}(e:i<j)(ha:ops[i]?=some a)(f:ops[j]?=some b)(h1:fs[i]?=some c)(h2:fs[j]?=some d)(hm:((dq0 ops.toList []).getD j 0).testBit i=false) :
  a.apart ops b=true/\(idle a.op=true\/idle b.op=true\/qh0 n0 i j c d):=by
 obtain⟨g1,g2⟩:=wi0 h.hst h.hdyn e ha f hm;refine⟨g1,?_⟩;rcases g2 with g | g | g
 ·exact .inl g
 ·exact .inr (.inl g)
 right;right;have e1:fs.getD i ⟨[],[],false,0,false⟩=c:=by simp[iF,h1]
 have e2:fs.getD j ⟨[],[],false,0,false⟩=d:=by simp[iF,h2]
 rw[e1,e2]at g;exact nm0 g
theorem Lex.at(h:Lex P ops n n0 fs evs sts s0){j:Nat}(hj:j<ops.size):∃ o f ev st,ops[j]?=some o/\fs[j]?=some f/\evs[j]?=some ev/\sts[j]?=some st:=by obtain⟨f,hf⟩:=ho0 h.l2 hj;obtain⟨ev,a⟩:=ho0 h.l1 hj;obtain⟨st,hst⟩:=ho0 h.l3 hj;exact⟨ops[j],f,ev,st,aH hj,hf,a,hst⟩
theorem Lex.unordered(h:Lex P ops n n0 fs evs sts s0){p:Nat->Bool}(d:fF0 ops p){i k:Nat}{o:Oper}(q:ops[i]?=some o)(f:p i=false)(b:∀ e∈o.after,cz .any e=true->p e.on=true)
  {ok:Oper} (g:ops[k]?=some ok) (a:p k≠decide (k<i)):(k<i/\((dq0 ops.toList []).getD i 0).testBit k=false)\/(i<k/\((dq0 ops.toList []).getD k 0).testBit i=false/\p k=true):=by
 rcases Nat.lt_trichotomy k i with j | heq | l
 ·left
  refine⟨j,?_⟩;have c:p k=false:=by
   have:decide (k<i)=true:=by simpa using j
   rw[this]at a;simpa using a
  cases m:((dq0 ops.toList []).getD i 0).testBit k with
  | false=>rfl
  | true=>have:=by0 d i o q b k m;rw[c]at this;cases this
 ·subst heq
  rw[f]at a;simp at a
 right;have c:p k=true:=by
  have:decide (k<i)=false:=by simp;omega
  rw[this]at a;simpa using a
 refine⟨l,?_,c⟩;cases m:((dq0 ops.toList []).getD k 0).testBit i with
 | false=>rfl
 | true=>have:=by0 d k ok g (d k ok g c) i m;rw[f]at this;cases this
theorem map_get{α β:Type}{l:List α}{f:α->β}{j:Nat}{u:β}(h:(l.map f)[j]?=some u):∃ x,l[j]?=some x/\f x=u:=by
 rw[aS]at h;cases hl:l[j]? with
 | none=>simp[hl]at h
 | some x=>rw[hl]at h;exact⟨x,rfl,by simpa using h⟩
theorem Way.step(h:Lex P ops n n0 fs evs sts s0){G0:j4}{σ0:j3}{w0:World}{p:Nat->Bool}{G:j4}{tm:Nat->AV}{σ:j3}{a:Act}{w:World}(hw:Way ops n n0 evs s0 G0 σ0 w0 p G tm σ a w)
  {i:Nat} (hi:i<ops.size) (B:p i=false) (z:∀ o,ops[i]?=some o->∀ e∈o.after,cz .any e=true->p e.on=true) (K:Act->World->Prop) (Q:Exit->Act->World->Prop)
  (hK:∀ G' Y σ' a' w',Way ops n n0 evs s0 G0 σ0 w0 (fun j=>j==i||p j) G' Y σ' a' w'->K a' w'):wpOp P ops Q i K a w:=by
 obtain⟨o,f,ev,st,N,hf,I,hst⟩:=h.at hi;obtain⟨e1,e2,e3,e4,e5,e6⟩:=h.all i o f ev st N hf I hst;have Z:=z o N;have diff:∀ k m,evs[k]?=some m->p k≠decide (k<i)->∃ ok l,ops[k]?=some ok/\fs[k]?=some l/\EvOk n0 ops.size k ok l m/\(∀ d,ok.dst=some d->d∉o.looksAt ops)/\(((dq0 ops.toList []).getD i 0).testBit k=false) /\
   (idle ok.op=true\/idle o.op=true\/((∀ x∈l.wr,x∉f.rd)/\n0+k∉f.rd/\¬ (l.call=true/\f.call=true)/\(l.call=true->∀ x∈f.rd,x<l.nx)/\(f.call=true->l.wr=[])/\l.bar=false/\f.bar=false)):=by
  intro k m c b;have hk:k<ops.size:=by have:=(ar.1 c).1;rw[h.l1]at this;exact this
  obtain⟨ok,l,ek',O,g1,g2,g3,g4⟩:=h.at hk;rw[c]at g3;cases g3;obtain⟨q1,_⟩:=h.all k ok l m O g1 g2 c g4;rcases h.unordered hw.closed N B Z g1 b with ⟨r1,V⟩ | ⟨r1,V,_⟩
  ·obtain⟨t1,t2⟩:=h.apart r1 g1 N g2 hf V
   refine⟨ok,l,g1,g2,q1,(gY t1).1,V,?_⟩;rcases t2 with t | t | t
   ·exact .inl t
   ·exact .inr (.inl t)
   exact .inr (.inr ⟨fun x q=>(t.ww x q).1,t.ni.1,t.cc,fun hc=>(t.ca hc).2,fun hc=>(t.cb hc).1,t.nb.1,t.nb.2⟩)
  obtain⟨t1,t2⟩:=h.apart r1 N g1 hf g2 V;refine⟨ok,l,g1,g2,q1,(gY t1).2.2,?_,?_⟩
  ·cases R:((dq0 ops.toList []).getD i 0).testBit k with
   | false=>rfl
   | true=>have:=h.mask_lt N R;omega
  rcases t2 with t | t | t
  ·exact .inr (.inl t)
  ·exact .inl t
  exact .inr (.inr ⟨fun x q=>t.wr x q,t.nj.1,fun hc=>t.cc ⟨hc.2,hc.1⟩,fun hc=>(t.cb hc).2,fun hc=>(t.ca hc).1,t.nb.2,t.nb.1⟩)
 have C:Cond ops n0 ops.size ((dq0 ops.toList []).getD i 0) o f st tm σ:=by
  refine⟨fun t ht=>?_,fun id hid=>?_,fun hc=>⟨?_,fun id hid=>?_⟩,fun hc=>⟨?_,fun id=>?_⟩⟩
  ·rw[hw.tm,e4]
   refine M1 t _ 0 _ _ rfl (fun k u hu b=>?_);obtain⟨m,c,rfl⟩:=map_get hu;rw[aG]at b;obtain⟨ok,l,g1,g2,q1,q2,_⟩:=diff k m c b;cases q:m.uT t with
   | none=>rfl
   | some v=>exact Am ht (q2 t (q1.tmp t (by simp[q])))
  ·rw[hw.ob,e5]
   refine M1 id _ 0 _ _ rfl (fun k u hu b=>?_);obtain⟨m,c,rfl⟩:=map_get hu;rw[aG]at b;obtain⟨ok,l,g1,g2,q1,_,_,q3⟩:=diff k m c b;cases q:m.uO id with
   | none=>rfl
   | some v=>
    rcases q3 with t | t | ⟨t1,t2,t3,t4,_,t6⟩
    ·rw[(q1.idle t).1 id]at q;cases q
    ·rw[(e1.idle t).2.2.1]at hid;cases hid
    rcases q1.obj id (by simp[q])with g | g | ⟨g,g'⟩ | g
    ·exact Am hid (t1 id g)
    ·exact Am hid (g▸t2)
    ·have:=t4 g id hid;omega
    rw[t6.1]at g;cases g
  ·rw[hw.nx,e6]
   refine M1 () _ 0 _ _ rfl (fun k u hu b=>?_);obtain⟨m,c,rfl⟩:=map_get hu;rw[aG]at b;obtain⟨ok,l,g1,g2,q1,_,_,q3⟩:=diff k m c b;have D:l.call=false:=by
    cases D:l.call with
    | false=>rfl
    | true=>
     rcases q3 with t | t | ⟨_,_,t3,_⟩
     ·rw[(q1.idle t).2.1]at D;cases D
     ·rw[(e1.idle t).2.1]at hc;cases hc
     exact Am ⟨D,hc⟩ t3
   have hbk:l.bar=false:=by
    rcases q3 with t | t | ⟨_,_,_,_,_,t6,_⟩
    ·exact(q1.idle t).2.2.2
    ·rw[(e1.idle t).2.1]at hc;cases hc
    exact t6
   exact q1.num D hbk
  ·rw[hw.ob,e5]
   refine M1 id _ 0 _ _ rfl (fun k u hu b=>?_);obtain⟨m,c,rfl⟩:=map_get hu;rw[aG]at b;obtain⟨ok,l,g1,g2,q1,_,qm,q3⟩:=diff k m c b;cases q:m.uO id with
   | none=>rfl
   | some v=>
    rcases q3 with t | t | ⟨_,_,t3,_,t5⟩
    ·rw[(q1.idle t).1 id]at q;cases q
    ·rw[(e1.idle t).2.1]at hc;cases hc
    rcases q1.obj id (by simp[q])with g | g | ⟨g,_⟩ | g
    ·rw[t5.1 hc]at g;cases g
    ·exact Am (lj0.2 ⟨k,(aL.1 g1).1,qm,g⟩) hid
    ·exact Am ⟨g,hc⟩ t3
    rw[t5.2.1]at g;cases g
  ·rw[hw.nx,e6]
   refine M1 () _ 0 _ _ rfl (fun k u hu b=>?_);obtain⟨m,c,rfl⟩:=map_get hu;rw[aG]at b;obtain⟨ok,l,g1,g2,q1,_,_,q3⟩:=diff k m c b;rcases q3 with t | t | ⟨_,_,_,_,_,_,t6⟩
   ·exact q1.num (q1.idle t).2.1 (q1.idle t).2.2.2
   ·rw[(e1.idle t).2.2.2]at hc;cases hc
   rw[t6]at hc;cases hc
  rw[hw.ob,e5];refine M1 id _ 0 _ _ rfl (fun k u hu b=>?_);obtain⟨m,c,rfl⟩:=map_get hu;rw[aG]at b;obtain⟨ok,l,g1,g2,q1,_,_,q3⟩:=diff k m c b;rcases q3 with t | t | ⟨_,_,_,_,_,_,t6⟩
  ·exact(q1.idle t).1 id
  ·rw[(e1.idle t).2.2.2]at hc;cases hc
  rw[t6]at hc;cases hc
 have later:∀ k m,evs[k]?=some m->i<k->p k=true->∃ ok l,ops[k]?=some ok/\fs[k]?=some l/\EvOk n0 ops.size k ok l m/\(∀ d,o.dst=some d->ok.dst≠some d)/\(idle ok.op=true\/idle o.op=true\/qh0 n0 i k f l):=by
  intro k m c r s;have hk:k<ops.size:=by have:=(ar.1 c).1;rw[h.l1]at this;exact this
  obtain⟨ok,l,ek',O,g1,g2,g3,g4⟩:=h.at hk;rw[c]at g3;cases g3;obtain⟨q1,_⟩:=h.all k ok l m O g1 g2 c g4;have hm:((dq0 ops.toList []).getD k 0).testBit i=false:=by
   cases R:((dq0 ops.toList []).getD k 0).testBit i with
   | false=>rfl
   | true=>have:=by0 hw.closed k ok g1 (hw.closed k ok g1 s) i R;rw[B]at this;cases this
  obtain⟨t1,t2⟩:=h.apart r N g1 hf g2 hm;refine⟨ok,l,g1,g2,q1,(gY t1).2.1,?_⟩;rcases t2 with t | t | t
  ·exact .inr (.inl t)
  ·exact .inl t
  exact .inr (.inr t)
 have S:f.call=true->f.nx=σ.next:=fun hc=>by rw[e3 hc,(C.2.2.1 hc).1]
 refine e2 G a w tm σ hw.rel C (hw.free i hi B) hw.big K Q ?_;intro G' a' w' σ' g1 g2 g3 g4 g5 g6 g7;refine hK G' _ σ' a' w' ⟨g5,fun t=>?_,fun id=>?_,?_,fun j hj J=>?_,fun j oj U J e he R=>?_,by have:=hw.big;omega,hw.tran.trans ⟨g1,fun k hk hg=>g2 k (by omega) (by omega) hg,g3,g4⟩ (ax _)⟩
 ·have:=gt0 (p:=p) t (u0:=ev.uT) (evs.map (·.uT)) 0 i s0.get (by simp[I]) (by simpa using B) (fun k u hu r s b=>by
   obtain⟨m,c,rfl⟩:=map_get hu;obtain⟨ok,l,_,_,q1,q2,_⟩:=later k m c r (by simpa using s);cases q:m.uT t with
   | none=>rfl
   | some v=>exact Am (q1.tmp t (by simp[q])) (q2 t (e1.tmp t b)))
  simp only[aG]at this;rw[this,hw.tm]
 ·have:=gt0 (p:=p) id (u0:=ev.uO) (evs.map (·.uO)) 0 i s0.st.objs (by simp[I]) (by simpa using B) (fun k u hu r s b=>by
   obtain⟨m,c,rfl⟩:=map_get hu;obtain⟨ok,l,_,_,q1,_,q3⟩:=later k m c r (by simpa using s);cases q:m.uO id with
   | none=>rfl
   | some v=>
    rcases q3 with t | t | t
    ·rw[(q1.idle t).1 id]at q;cases q
    ·exact Am ((e1.idle t).1 id) b
    have o1:=e1.obj id b;have o2:=q1.obj id (by simp[q]);have hk:k<ops.size:=by have:=(ar.1 c).1;rw[h.l1]at this;exact this
    have o1:id∈f.wr\/id=n0+i\/(f.call=true/\f.nx<=id):=by
     rcases o1 with h' | h' | h' | h'
     ·exact .inl h'
     ·exact .inr (.inl h')
     ·exact .inr (.inr h')
     rw[t.nb.1]at h';cases h'
    have o2:id∈l.wr\/id=n0+k\/(l.call=true/\l.nx<=id):=by
     rcases o2 with h' | h' | h' | h'
     ·exact .inl h'
     ·exact .inr (.inl h')
     ·exact .inr (.inr h')
     rw[t.nb.2]at h';cases h'
    rcases o1 with E | E | ⟨E,a1'⟩<;>rcases o2 with H | H | ⟨H,b1'⟩
    ·exact Am H (t.ww id E).2
    ·exact Am E (H▸t.nj.2)
    ·rw[(t.cb H).1]at E;cases E
    ·exact Am H (E▸t.ni.2)
    ·omega
    ·have:=q1.start H;omega
    ·rw[(t.ca E).1]at H;cases H
    ·have:=e1.start E;omega
    exact Am ⟨E,H⟩ t.cc)
  simp only[aG]at this;rw[g6,this,hw.ob]
 ·have:=gt0 (p:=p) () (u0:=fun _:Unit=>ev.uN) (evs.map fun e=>fun _:Unit=>e.uN) 0 i (fun _=>s0.st.next) (by simp[I]) (by simpa using B) (fun k u hu r s b=>by
   obtain⟨m,c,rfl⟩:=map_get hu;obtain⟨ok,l,_,_,q1,_,q3⟩:=later k m c r (by simpa using s);cases q:m.uN with
   | none=>rfl
   | some v=>
    rcases q3 with t | t | t
    ·rw[q1.num (q1.idle t).2.1 (q1.idle t).2.2.2]at q;cases q
    ·exact Am (e1.num (e1.idle t).2.1 (e1.idle t).2.2.2) b
    have c1:f.call=true:=by
     cases hc:f.call with
     | true=>rfl
     | false=>exact Am (e1.num hc t.nb.1) b
    have c2:l.call=true:=by
     cases hc:l.call with
     | true=>rfl
     | false=>rw[q1.num hc t.nb.2]at q;cases q
    exact Am ⟨c1,c2⟩ t.cc)
  simp only[aG]at this;rw[g7,this,hw.nx]
 ·have M:j≠i:=fun e=>by subst e;simp at J
  have:p j=false:=by simpa[M]using J
  exact g2 (n0+j) (by omega) (by omega) (hw.free j hj this)
 by_cases M:j=i
 ·subst M
  simp[z oj U e he R]
 have:p j=true:=by simpa[M]using J
 simp[hw.closed j oj U this e he R]
theorem Way.any(h:Lex P ops n n0 fs evs sts s0){G0:j4}{σ0:j3}{w0:World}(Q:Exit->Act->World->Prop)
  (x:∀ p G tm σ a w,Way ops n n0 evs s0 G0 σ0 w0 p G tm σ a w->(∀ i,i<ops.size->p i=true)->Q .normal a w) :
  ∀ (fuel:Nat) (listed:Array Bool) (G:j4) (tm:Nat->AV) (σ:j3) (a:Act) (w:World),listed.size=ops.size->left ops.size (fun j=>listed.getD j false)=fuel ->
   Way ops n n0 evs s0 G0 σ0 w0 (fun j=>listed.getD j false) G tm σ a w->wpAny P .any ops Q fuel listed a w:=by
 have nil:∀ (listed:Array Bool),listed.size=ops.size->bE .any ops listed=[]->∀ i,i<ops.size->listed.getD i false=true:=by
  intro listed b d i
  induction i using gu with
  | _ i s=>
   intro hi;cases hl:listed.getD i false with
   | true=>rfl
   | false=>
    obtain⟨o,f,ev,st,m,_⟩:=h.at hi;have:i∈bE .any ops listed:=mem_ready.2 ⟨by simp[b,hi]at hl ⊢;exact hl,o,m,fun e he z=>by
     have c:=h.edge m he z;exact s e.on c (by omega)⟩
    rw[d]at this;cases this
 intro fuel
 induction fuel with
 | zero=>
  intro listed G tm σ a w b g hw;have k:=ln0 g;refine⟨?_,x _ _ _ _ _ _ hw k⟩;cases B:bE .any ops listed with
  | nil=>rfl
  | cons i is=>
   have:i∈bE .any ops listed:=by rw[B];simp
   obtain⟨h1,o,m,_⟩:=mem_ready.1 this;have hi:i<ops.size:=(aL.1 m).1;have:=k i hi;simp[b,hi]at h1 this;rw[h1]at this;cases this
 | succ fuel s=>
  intro listed G tm σ a w b g hw;refine⟨fun d=>x _ _ _ _ _ _ hw (nil listed b d),fun i hi=>?_⟩;obtain⟨h1,o,m,t⟩:=mem_ready.1 hi;have c:i<ops.size:=(aL.1 m).1;have q:listed.getD i false=false:=by simp[b,c]at h1 ⊢;exact h1
  have l:∀ j,(listed.setIfInBounds i true).getD j false=(j==i||listed.getD j false):=fun j=>by
   by_cases e:j=i
   ·subst e;simp[b,c]
   rw[getD_set_ne false (kr e)];have:(j==i)=false:=by simpa using e
   rw[this];rfl
  refine Way.step h hw c q (fun o' r=>by rw[m]at r;cases r;exact t) _ Q ?_;intro G' u σ' a' w' v;refine s (listed.setIfInBounds i true) G' u σ' a' w' (by simp[b]) ?_ (by
   have e:(fun j=>(listed.setIfInBounds i true).getD j false)=(fun j=>j==i||listed.getD j false):=funext l;rw[e];exact v)
  have e:(fun j=>(listed.setIfInBounds i true).getD j false)=(fun j=>j==i||listed.getD j false):=funext l;rw[e];have:=og0 (p:=fun j=>listed.getD j false) c q;omega
end
theorem AWp.drawn{P:Program}{T:Tab}(hT:C0 P T)(hm:P.follows .mixedOrders=true){cl:FuncId->List AV->j3->Option (AV×j3)}
  (D:∀ f args σ v σ',cl f args σ=some (v,σ')->B4 P f args σ (fun H m=>H=v/\m=σ')/\J1 σ σ')
  {id:Nat} {ops:Array Oper} {s s':AS} (h:W4 T cl ops s=some s') {Q:Exit->AS->Prop} (I:Q .normal s'):AWp P (.region id ops true) Q s:=by
 unfold W4 at h;split at h
 case isFalse=>cases h
 rename_i hst;split at h
 case h_2=>cases h
 rename_i s1 fs J;split at h
 case isFalse=>cases h
 rename_i hdyn;cases h;intro G a w b;refine wp_region_any hm ?_;obtain⟨evs,sts,l1,l2,l3,K,q,g1,g2,g3⟩:=mn0 hT D ops.toList 0 _ _ fs (fun j=>by simp) (by simp) (ax _) J;simp only[fR]at l1 l2 l3;have r:Lex P ops s.n s.st.next fs evs sts { s with st:={ s.st with next:=s.st.next+ops.size } }:=⟨hst,hdyn,l1,l2,l3,fun j o f ev st h1 h2 M N=>by
  have:=q j o f ev st (by simpa using h1) h2 M N;simpa using this⟩
 have i:left ops.size (fun j=>(bn ops.size false).getD j false)=ops.size:=by
  unfold left;rw[fW.2 (fun x z=>by
   have:x<ops.size:=by simpa using z
   simp[this])]
  simp
 have B:∀ j,(bn ops.size false).getD j false=false:=fun j=>by by_cases hj:j<ops.size<;>simp[hj]
 refine Way.any r (G0:=G) (σ0:=s.st) (w0:=w) _ ?_ ops.size (bn ops.size false) G s.get { s.st with next:=s.st.next+ops.size } a { w with drawn:=w.drawn+1 } (by simp) i ?_
 ·intro p G' tm σ a' w' hw hp
  have agree:∀ {L V:Type} (us:List (L->Option V)) (f:L->V),us.length=ops.size->fold p us 0 f=fold (fun _=>true) us 0 f:=fun us f hl=>funext fun l=>M1 l us 0 f f rfl (fun j u hu C=>by
   have hj:j<ops.size:=by have:=(ar.1 hu).1;omega
   rw[aG]at C;exact Am (hp j hj) C)
  have d:σ.next=s'.st.next:=by rw[hw.nx,agree _ _ (by simp[l1]),g3]
  have g:∀ k,σ.objs k=s'.st.objs k:=fun k=>by rw[hw.ob,agree _ _ (by simp[l1]),g2]
  have E:∀ t,tm t=s'.get t:=fun t=>by rw[hw.tm,agree _ _ (by simp[l1]),g1]
  refine⟨s',G',⟨hw.tran.le,hw.tran.keeps,by rw[<- d];exact hw.tran.next,hw.tran.fr.trans (Fr.less fun k x z=>by rw[g];exact z)⟩,⟨hw.rel.defers,by rw[hw.rel.size,K],fun t=>by rw[<- E];exact hw.rel.tmps t,hw.rel.rel.less d.symm (fun k x z=>by rw[g];exact z)⟩,I⟩
 have c:∀ {L V:Type} (us:List (L->Option V)) (f:L->V) (l:L),fold (fun j=>(bn ops.size false).getD j false) us 0 f l=f l:=fun us f l=>ay0 l us 0 f _ (fun j u _ hp=>by rw[B]at hp;cases hp) rfl;refine⟨⟨b.defers,b.size,b.tmps,(b.rel.next (bc _ _)).drawn _⟩,fun t=>(c _ _ _).symm,fun k=>(c _ _ _).symm,(c (evs.map fun e=>fun _:Unit=>e.uN) (fun _=>s.st.next+ops.size) ()).symm,fun j _ _=>b.rel.fresh _ (bc _ _),(fun j o _ hp=>by rw[B]at hp;cases hp),ax _,?_⟩;exact⟨.refl G,.refl _ G,bc _ _,(Fr.less (σ:=s.st) (σ':={ s.st with next:=s.st.next+ops.size }) (fun _ _ h=>h)).trans (Fr.draws _ _ _ _ (bc _ _))⟩
def go(T:Tab)(F:FuncId->Option Func)(K:ma0):Nat->Code->AS->Option (EX×AS)
 | 0,_,_=>none
 | k+1,c,s=>
  match c with
  | .skip=>some (.nor,s)
  | .label _=>some (.nor,s)
  | .region _ ops false=>
   match dw0 T (ab0 T F K (go T F K k)) ops s.st.next ops.toList 0 { s with st:={ s.st with next:=s.st.next+ops.size } } with
   | some s'=>some (.nor,s')
   | none=>none
  | .region _ ops true=>
   match W4 T (ab0 T F K (go T F K k)) ops s with
   | some s'=>some (.nor,s')
   | none=>none
  | .seq a b=>match go T F K k a s with
   | some (.nor,s')=>go T F K k b s'
   | r=>r
  | .cond x a b=>match s.eval x with
   | .sc (.bool t)=>go T F K k (if t then a else b) s
   | _=>none
  | .block id b=>match go T F K k b s with
   | some (.exi j,s')=>some (if j=id then .nor else .exi j,s')
   | r=>r
  | .loop b=>match go T F K k b s with
   | some (.nor,s')=>go T F K k (.loop b) s'
   | r=>r
  | .exit id=>some (.exi id,s)
  | .ret=>some (.ret,s)
  | .scope b=>go T F K k b s
  | _=>none
section
variable {T:Tab} {F:FuncId->Option Func} {K:ma0}
theorem si0{cl:FuncId->List AV->j3->Option (AV×j3)}(a:∀ f args σ v σ',cl f args σ=some (v,σ')->J1 σ σ'){ops:Array Oper}{n0 N mask i:Nat}{bar:Bool}{s s':AS}{o:Oper}{f:Inf}
  (h:eJ0 T cl ops n0 N mask i bar s o=some (s',f)):J1 s.st s'.st:=by
 unfold eJ0 at h;split at h
 ·cases h;simpa using J1.refl s.st
 ·split at h
  ·split at h
   ·split at h
    ·split at h
     ·rename_i v σ1 hc
      split at h
      ·cases h
       simpa using a _ _ _ _ _ hc
      cases h
     cases h
    split at h
    ·rename_i v σ1 hc
     split at h
     ·rename_i c
      cases h;simp only[AS.put_st];have hl:=(a _ _ _ _ _ hc).2;obtain⟨d,g⟩:=jh0 s.st (Y3 n0 N mask);refine⟨Nat.min_le_left _ _,fun j hj=>?_⟩;have e:j<s.st.next:=Nat.lt_of_lt_of_le hj (Nat.min_le_right _ _);have e1:({ Z8 (saved s.st (Y3 n0 N mask)) σ1 with low:=min s.st.low s.st.next }:j3).objs j=(Z8 (saved s.st (Y3 n0 N mask)) σ1).objs j:=rfl;rw[e1,dO0 s.st.objs _ _ _ d];split
      ·rfl
      rename_i b;rw[hl j (by omega)];have e2:({ S0 (saved s.st (Y3 n0 N mask)) s.st with low:=s.st.next }:j3).objs j=(S0 (saved s.st (Y3 n0 N mask)) s.st).objs j:=rfl;rw[e2,eb0,Ae b]
     cases h
    cases h
   cases h
  split at h
  ·rename_i v σ1 ha
   cases h;simp only[AS.put_st];have h1:J1 s.st (if isE o.op then S7 σ1 (bQ0 s.eval o.op) s.st else s.st):=by
    split
    ·exact iW0 _ _ _
    exact .refl _
   split
   ·exact h1.trans (.set _ _ _)
   exact h1
  cases h
 cases h
theorem nE0{cl:FuncId->List AV->j3->Option (AV×j3)}(b:∀ f args σ v σ',cl f args σ=some (v,σ')->J1 σ σ'){ops:Array Oper}{n0 N:Nat}{a:List Nat} :
  ∀ (l:List Oper) (i:Nat) (s s':AS) (fs:List Inf),pX0 T cl ops n0 N a l i s=some (s',fs)->J1 s.st s'.st
 | [],i,s,s',fs,h=>by simp only[pX0,ah,cy]at h;rw[h.1];exact .refl _
 | o::rest,i,s,s',fs,h=>by
  unfold pX0 at h;split at h
  ·rename_i s1 f hs
   split at h
   ·rename_i s2 c d
    cases h;exact(si0 b hs).trans (nE0 b rest _ _ _ _ d)
   cases h
  cases h
theorem lz0{cl:FuncId->List AV->j3->Option (AV×j3)}(a:∀ f args σ v σ',cl f args σ=some (v,σ')->J1 σ σ'){ops:Array Oper}{s s':AS}(h:W4 T cl ops s=some s'):J1 s.st s'.st:=by
 unfold W4 at h;split at h
 ·split at h
  ·rename_i s1 fs b
   split at h
   ·cases h
    have:=nE0 a _ _ _ _ _ b;exact this
   cases h
  cases h
 cases h
theorem cW0(i:∀ f g,K f=some g->∀ args σ v σ',g args σ=some (v,σ')->J1 σ σ'){ex:Code->AS->Option (EX×AS)}(hex:∀ c s s' e,ex c s=some (e,s')->J1 s.st s'.st){f:FuncId}{args:List AV}{σ σ':j3}{v:AV}(h:ab0 T F K ex f args σ=some (v,σ')):J1 σ σ':=by
 unfold ab0 at h;split at h
 ·rename_i r a
  cases h;split at a
  ·rename_i g b
   exact i f g b _ _ _ _ a
  cases a
 split at h
 ·split at h
  ·split at h
   ·split at h
    ·rename_i s1 d
     split at h
     ·cases h;exact hex _ _ _ _ d
     cases h
    ·rename_i s1 d
     split at h
     ·cases h;exact hex _ _ _ _ d
     cases h
    cases h
   cases h
  cases h
 cases h
theorem uU0(d:∀ f g,K f=some g->∀ args σ v σ',g args σ=some (v,σ')->J1 σ σ'):∀ (k:Nat) (c:Code) (s s':AS) (e:EX),go T F K k c s=some (e,s')->J1 s.st s'.st
 | 0,c,s,s',e,h=>by simp[go]at h
 | k+1,c,s,s',e,h=>by
  have a:=uU0 d k;unfold go at h;split at h
  ·cases h;exact .refl _
  ·cases h;exact .refl _
  ·rename_i ops
   split at h
   ·rename_i s1 i
    cases h;have:=de0 (fun f args σ v σ' hc=>cW0 d a hc) _ _ _ _ i;exact this
   cases h
  ·split at h
   ·rename_i s1 i
    cases h;exact lz0 (fun f args σ v σ' hc=>cW0 d a hc) i
   cases h
  ·split at h
   ·rename_i s1 b
    exact(a _ _ _ _ b).trans (a _ _ _ _ h)
   exact a _ _ _ _ h
  ·split at h
   ·exact a _ _ _ _ h
   cases h
  ·split at h
   ·rename_i j s1 b
    cases h;exact a _ _ _ _ b
   exact a _ _ _ _ h
  ·split at h
   ·rename_i s1 b
    exact(a _ _ _ _ b).trans (a _ _ _ _ h)
   exact a _ _ _ _ h
  ·cases h;exact .refl _
  ·cases h;exact .refl _
  ·exact a _ _ _ _ h
  cases h
end
def mp0(P:Program)(K:ma0):Prop:=∀ f g,K f=some g->∀ args σ v σ',g args σ=some (v,σ')->B4 P f args σ (fun b a=>b=v/\a=σ')/\J1 σ σ'
section
variable {P:Program} {T:Tab} (hT:C0 P T) {F:FuncId->Option Func} (hF:∀ f fn,F f=some fn->P.funcs[f]?=some fn) (hm:P.follows .mixedOrders=true) {K:ma0} (hK:mp0 P K)
include hT hF hm hK in
theorem sI0:∀ (k:Nat) (c:Code) (s s':AS) (e:EX),go T F K k c s=some (e,s')->AWp P c (fun l d=>l=e.toExit/\d=s') s
 | 0,c,s,s',e,h=>by simp[go]at h
 | k+1,c,s,s',e,h=>by
  have p:=sI0 k;have B:∀ f args σ v σ',ab0 T F K (go T F K k) f args σ=some (v,σ')->B4 P f args σ (fun N C=>N=v/\C=σ'):=by
   intro f args σ v σ' hc;unfold ab0 at hc;split at hc
   ·rename_i r u
    cases hc;split at u
    ·rename_i g H
     exact(hK f g H _ _ _ _ u).1
    cases u
   split at hc
   ·rename_i fn D
    split at hc
    ·rename_i body J
     split at hc
     ·rename_i o
      refine B4.of_calls (hF f fn D) o.2 (by simp[J]) ?_;refine aJ0.of_body hT (hF f fn D) J o.1 ?_;split at hc
      ·rename_i s1 i
       split at hc
       ·rename_i v1 hv
        cases hc;exact(p _ _ _ _ i).mono fun l d ⟨h1,h2⟩=>⟨.inl h1,v,by rw[h2];exact hv,rfl,by rw[h2]⟩
       cases hc
      ·rename_i s1 i
       split at hc
       ·rename_i v1 hv
        cases hc;exact(p _ _ _ _ i).mono fun l d ⟨h1,h2⟩=>⟨.inr h1,v,by rw[h2];exact hv,rfl,by rw[h2]⟩
       cases hc
      cases hc
     cases hc
    cases hc
   cases hc
  unfold go at h;split at h
  ·cases h;exact AWp.skip ⟨rfl,rfl⟩
  ·cases h;exact AWp.label ⟨rfl,rfl⟩
  ·rename_i id ops
   split at h
   ·rename_i s1 I
    cases h;refine AWp.region ?_;have:=eK0 B hT ops.toList 0 _ s' (fun j=>by simp) (by simp) I;simp only[fR]at this;rw[List.range_eq_range'];intro G a w h1 h2 O;exact B3 (fun e a w ⟨e1,s2,Q,R,S,U⟩=>⟨e1,s2,Q,R,S,rfl,U⟩) _ _ _ (this G a w h1 h2 O)
   cases h
  ·rename_i id ops
   split at h
   ·rename_i s1 I
    cases h;exact AWp.drawn hT hm (fun f args σ v σ' hc=>⟨B f args σ v σ' hc,cW0 (fun f g u args σ v σ' q=>(hK f g u args σ v σ' q).2) (uU0 (fun f g u args σ v σ' q=>(hK f g u args σ v σ' q).2) k) hc⟩) I ⟨rfl,rfl⟩
   cases h
  ·rename_i a b
   refine AWp.seq ?_;split at h
   ·rename_i s1 i
    refine(p _ _ _ _ i).mono ?_;rintro l d ⟨rfl,rfl⟩;exact p _ _ _ _ h
   rename_i i;refine(p _ _ _ _ h).mono ?_;rintro l d ⟨rfl,rfl⟩;cases e with
   | nor=>exact Am h (by intro q;exact i _ q)
   | exi j=>exact⟨rfl,rfl⟩
   | ret=>exact⟨rfl,rfl⟩
  ·rename_i x a b
   split at h
   ·rename_i t i
    exact AWp.cond i (p _ _ _ _ h)
   cases h
  ·rename_i id b
   refine AWp.block ?_;split at h
   ·rename_i j s1 i
    cases h;refine(p _ _ _ _ i).mono ?_;rintro l d ⟨rfl,rfl⟩;simp only[EX.toExit,cg0];split
    ·rename_i e;simp[e,EX.toExit]
    rename_i e;simp[e,EX.toExit]
   rename_i i;refine(p _ _ _ _ h).mono ?_;rintro l d ⟨rfl,rfl⟩;cases e with
   | exi j=>exact Am h (by intro q;exact i _ _ q)
   | nor=>exact⟨rfl,rfl⟩
   | ret=>exact⟨rfl,rfl⟩
  ·rename_i b
   have key:∀ n s,go T F K n (.loop b) s=some (e,s')->n<=k+1->AWp P b (kp0 (fun s2=>∃ m,m<n/\(go T F K m (.loop b) s2=some (e,s')/\m<=k+1)) (fun l d=>l=e.toExit/\d=s')) s:=by
    intro n s z hle;cases n with
    | zero=>simp[go]at z
    | succ n=>
     unfold go at z;have E:∀ (c:Code) (s s':AS) (e:EX),go T F K n c s=some (e,s')->AWp P c (fun l d=>l=e.toExit/\d=s') s:=by
      rcases cg n k with h' | h'
      ·exact sI0 n
      have:n=k:=by omega
      rw[this];exact p
     simp only at z;split at z
     ·rename_i s1 i
      refine(E _ _ _ _ i).mono ?_;rintro l d ⟨rfl,rfl⟩;exact⟨n,Nat.lt_succ_self _,z,by omega⟩
     rename_i i;refine(E _ _ _ _ z).mono ?_;rintro l d ⟨rfl,rfl⟩;cases e with
     | nor=>exact Am z (by intro q;exact i _ q)
     | exi j=>exact⟨rfl,rfl⟩
     | ret=>exact⟨rfl,rfl⟩
   refine AWp.loop (fun n s=>go T F K n (.loop b) s=some (e,s')/\n<=k+1) (fun n s M=>key n s M.1 M.2) (n:=k+1) ⟨?_,ax _⟩;unfold go;exact h
  ·cases h;exact AWp.exit ⟨rfl,rfl⟩
  ·cases h;exact AWp.ret ⟨rfl,rfl⟩
  ·refine AWp.scope ((p _ _ _ _ h).mono ?_)
   rintro l d ⟨rfl,rfl⟩;exact⟨by cases e<;>trivial,rfl,rfl⟩
  cases h
end
theorem sP0{P:Program}{T:Tab}(hT:C0 P T){F:FuncId->Option Func}(hF:∀ f fn,F f=some fn->P.funcs[f]?=some fn)(hm:P.follows .mixedOrders=true){K:ma0}(d:mp0 P K)
  {k:Nat} {f:FuncId} {args:List AV} {σ σ':j3} {v:AV} (h:ab0 T F K (go T F K k) f args σ=some (v,σ')):B4 P f args σ (fun n b=>n=v/\b=σ'):=by
 unfold ab0 at h;split at h
 ·rename_i r e
  cases h;split at e
  ·rename_i g i
   exact(d f g i _ _ _ _ e).1
  cases e
 split at h
 ·rename_i fn c
  split at h
  ·rename_i body m
   split at h
   ·rename_i a
    refine B4.of_calls (hF f fn c) a.2 (by simp[m]) ?_;refine aJ0.of_body hT (hF f fn c) m a.1 ?_;split at h
    ·rename_i s1 j
     split at h
     ·rename_i v1 hv
      cases h;exact(sI0 hT hF hm d k _ _ _ _ j).mono fun o l ⟨h1,h2⟩=>⟨.inl h1,v,by rw[h2];exact hv,rfl,by rw[h2]⟩
     cases h
    ·rename_i s1 j
     split at h
     ·rename_i v1 hv
      cases h;exact(sI0 hT hF hm d k _ _ _ _ j).mono fun o l ⟨h1,h2⟩=>⟨.inr h1,v,by rw[h2];exact hv,rfl,by rw[h2]⟩
     cases h
    cases h
   cases h
  cases h
 cases h
def oE0(T:Tab)(t:TypeId)(args:List AV)(σ:j3):Option (AV×j3) :=
 match args with
 | [x]=>match T t with
  | some { und:=.slice elem,.. }=>match T elem with
   | some a=>match P6 σ x with
    | some xs=>if (xs.all fun c=>c.length==a.size&&c.all AV.one)=true/\(2*xs.length+1000)*a.bytes<=2^48/\xs.length<=2^62/\0<a.size then
      match x.isNil with
      | some true=>some (.sc (.slice none 0 0),{ σ with next:=σ.next+7 })
      | _=>some (.ms (σ.next+5) a.size 0 xs.length,{ σ with next:=σ.next+7 }.set (σ.next+5) (.row elem a.size xs))else none
    | none=>none
   | none=>none
  | _=>none
 | _=>none
def oc0(args:List AV)(σ:j3):Option (AV×j3) :=
 match args with
 | [.sc (.int .u64 x),.sc (.int .u64 y),.sc (.int .u64 c)]=>
  if 0<=x/\0<=y/\(c=0\/c=1)then
   some (.tup [.sc (.int .u64 ((x+y+c)%18446744073709551616)),.sc (.int .u64 ((x+y+c) / 18446744073709551616))],σ)else none
 | _=>none
def Tr.ofList{α:Type}:List (Nat×α)->Tr α->Tr α
 | [],t=>t
 | (k,v)::l,t=>Tr.ofList l (t.set k (some v))
theorem Tr.ofList_get{α:Type}:∀ (l:List (Nat×α)) (t:Tr α) (k:Nat) (v:α),(Tr.ofList l t).get k=some v->(k,v)∈l\/t.get k=some v
 | [],t,k,v,h=>.inr h
 | (j,u)::l,t,k,v,h=>by
  rcases Tr.ofList_get l (t.set j (some u)) k v h with h1 | h1
  ·exact .inl (bO _ h1)
  rw[Tr.get_set]at h1;split at h1
  ·rename_i e;cases h1;exact .inl (by rw[e];simp)
  exact .inr h1
def fTr(P:Program):Tr Func:=Tr.ofList (P.funcs.toList.zipIdx.map fun p=>(p.2,p.1)) .leaf
theorem fTr_ok(P:Program)(f:FuncId)(fn:Func)(h:(fTr P).get f=some fn):P.funcs[f]?=some fn:=by
 rcases Tr.ofList_get _ _ _ _ h with h | h
 ·obtain⟨⟨x,i⟩,hp,e⟩:=aM.1 h
  cases e;have:=List.mem_zipIdx_iff_getElem?.1 hp;simpa using this
 rw[Tr.get_leaf]at h;cases h
def kb0(f:AV->Option AV):List AV->Option (List AV)
 | []=>some []
 | c::cs=>match f c,kb0 f cs with
  | some x,some xs=>some (x::xs)
  | _,_=>none
def tq0(f:AV->Option AV):List (List AV)->Option (List (List AV))
 | []=>some []
 | c::cs=>match kb0 f c,tq0 f cs with
  | some x,some xs=>some (x::xs)
  | _,_=>none
theorem K8{f:AV->Option AV}:∀ {l a:List AV},kb0 f l=some a->a.length=l.length/\∀ i (h:i<l.length) (h':i<a.length),f l[i]=some a[i]
 | [],a,h=>by simp only[kb0,ah]at h;subst h;exact⟨rfl,fun i h=>by simp at h⟩
 | c::cs,a,h=>by
  unfold kb0 at h;split at h
  ·rename_i x xs h1 h2
   cases h;obtain⟨e1,e2⟩:=K8 h2;refine⟨by simp[e1],fun i hi b=>?_⟩;cases i with
   | zero=>exact h1
   | succ i=>exact e2 i (by simpa using hi) (by simpa using b)
  cases h
theorem gC0{f:AV->Option AV}:∀ {l a:List (List AV)},tq0 f l=some a->a.length=l.length/\∀ i (h:i<l.length) (h':i<a.length),kb0 f l[i]=some a[i]
 | [],a,h=>by simp only[tq0,ah]at h;subst h;exact⟨rfl,fun i h=>by simp at h⟩
 | c::cs,a,h=>by
  unfold tq0 at h;split at h
  ·rename_i x xs h1 h2
   cases h;obtain⟨e1,e2⟩:=gC0 h2;refine⟨by simp[e1],fun i hi b=>?_⟩;cases i with
   | zero=>exact h1
   | succ i=>exact e2 i (by simpa using hi) (by simpa using b)
  cases h
def deep(σ:j3):Nat->AV->Option AV
 | 0,_=>none
 | k+1,v=>match v with
  | .sc x=>some (.sc x)
  | .rs es=>match tq0 (deep σ k) es with
   | some l=>some (.rs l)
   | none=>none
  | .ms id _ off len=>match σ.objs id with
   | some (.row _ _ es)=>if off+len<=es.length then
     match tq0 (deep σ k) ((es.drop off).take len)with
     | some l=>some (.rs l)
     | none=>none else none
   | _=>none
  | .agg cs=>match kb0 (deep σ k) cs with
   | some l=>some (.agg l)
   | none=>none
  | .tup cs=>match kb0 (deep σ k) cs with
   | some l=>some (.tup l)
   | none=>none
  | _=>none
def Live(G:j4)(σ:j3)(b:Nat):Prop:=∃ id o p,σ.objs id=some o/\G.pl id=some p/\p.virt=false/\p.block=b
open Classical in
noncomputable def j4.frozen(G:j4)(σ:j3)(w:World)(pl:Nat->Option Pl):j4 :={ w0:=G.w0,imm:=fun b=>if Live G σ b then w.heap[b]? else G.imm b,pl:=pl }
theorem F3{G:j4}{σ:j3}{w:World}(h:Rel G σ w){pl:Nat->Option Pl}{b:Nat}{o:Obj}(a:G.imm b=some o):(G.frozen σ w pl).imm b=some o:=by
 simp only[j4.frozen];split
 ·rename_i hl
  obtain⟨id,x,p,h1,h2,c,rfl⟩:=hl;rw[(h.real h1 h2 c).1]at a;cases a
 exact a
theorem cd0{G:j4}{σ:j3}{w:World}(h:Rel G σ w){pl:Nat->Option Pl}{b o:Nat}{v:Value}(hc:G.cell b o=some v):(G.frozen σ w pl).cell b o=some v:=by
 unfold j4.cell at *;cases a:G.imm b with
 | none=>simp[a]at hc
 | some x=>rw[F3 h a];simpa[a]using hc
theorem rE0{G:j4}{σ:j3}{w:World}(h:Rel G σ w)(pl:Nat->Option Pl):∀ (k:Nat) (v c:AV) (u:Value),deep σ k v=some c->Rep G v u->Rep (G.frozen σ w pl) c u
 | 0,v,c,u,b,_=>by simp[deep]at b
 | k+1,v,c,u,b,m=>by
  have n:=rE0 h pl k;unfold deep at b;split at b
  ·cases b;cases m;exact .sc _
  ·rename_i es
   split at b
   ·rename_i l hl
    cases b;obtain⟨e1,e2⟩:=gC0 hl;cases m with
    | rsNil=>
     have:l=[]:=by simpa using e1
     subst this;exact .rsNil
    | rs _ a cap size val hs hc hlen himm hrep=>
     rw[<- e1];refine .rs l a cap size val hs (by omega) (fun i hi=>?_) (fun i j hi hj=>cd0 h (himm i j (by omega) hj)) (fun i j hi hj=>?_)
     ·rw[(K8 (e2 i (by omega) hi)).1];exact hlen i (by omega)
     obtain⟨f1,f2⟩:=K8 (e2 i (by omega) hi);exact n _ _ _ (f2 j (by omega) hj) (hrep i j (by omega) (by omega))
   cases b
  ·rename_i id z off len
   split at b
   ·rename_i elem size es t
    split at b
    ·rename_i hle
     split at b
     ·rename_i l hl
      cases b;obtain⟨e1,e2⟩:=gC0 hl;cases m with
      | msNil _ _ p hp hv=>
       have:l=[]:=by simpa using e1
       subst this;exact .rsNil
      | ms _ _ _ _ p hp hv hz a c C hoff D hsp=>
       obtain⟨E,H,cells,I,o,x,B,e⟩:=h.real t hp hv;have q:l.length=len:=by rw[e1];simp;omega
       have g:(G.frozen σ w pl).imm p.block=some (.cells cells elem (0,0)):=by simp only[j4.frozen];rw[Af ⟨id,_,p,t,hp,hv,rfl⟩];exact I
       have L2:∀ i (hi:i<l.length),∃ d:off+i<es.length,kb0 (deep σ k) es[off+i]=some l[i]:=fun i hi=>by have:=e2 i (by rw[<- e1];exact hi) hi;simp only[List.getElem_take,List.getElem_drop]at this;exact⟨by omega,this⟩
       rw[<- q];by_cases r:c=0
       ·have:l=[]:=cI (by omega)
        subst this;exact .rs [] a c 0 (fun _ _=>undef) (fun _=>hsp) (by simp) (fun i hi=>by simp at hi) (fun i j hi=>by simp at hi) (fun i j hi=>by simp at hi)
       rw[C r];refine .rs l _ c size (fun i j=>cells.getD ((off+i)*size+j) undef) (fun _=>rfl) (by omega) (fun i hi=>?_) (fun i j hi hj=>?_) (fun i j hi hj=>?_)
       ·obtain⟨d,hm⟩:=L2 i hi
        rw[(K8 hm).1];exact(e _ d).1
       ·obtain⟨d,hm⟩:=L2 i hi
        have f:(off+i)*size+j<cells.size:=by rw[x];have:(off+i+1)*size<=p.cap*size:=bq _ (by omega);rw[bI]at this;omega
        simp only[j4.cell,g,o];have e3:off*size+i*size+j=(off+i)*size+j:=by rw[bI]
        rw[e3];simp[f]
       obtain⟨d,hm⟩:=L2 i hi;obtain⟨f1,f2⟩:=K8 hm;have J:=(e _ d).1;have f:(off+i)*size+j<cells.size:=by rw[x];have:(off+i+1)*size<=p.cap*size:=bq _ (by omega);rw[bI]at this;omega
       have:=(e _ d).2 j (by omega) f;have s:cells.getD ((off+i)*size+j) undef=cells[(off+i)*size+j]:=by simp[f]
       rw[s];exact n _ _ _ (f2 j (by omega) hj) this
     cases b
    cases b
   cases b
  ·rename_i cs
   split at b
   ·rename_i l hl
    cases b;obtain⟨e1,e2⟩:=K8 hl;cases m with
    | agg _ vs h1 h2=>exact .agg l vs (by omega) (fun i hi d=>n _ _ _ (e2 i (by omega) hi) (h2 i (by omega) d))
   cases b
  ·rename_i cs
   split at b
   ·rename_i l hl
    cases b;obtain⟨e1,e2⟩:=K8 hl;cases m with
    | tup _ vs h1 h2=>exact .tup l vs (by omega) (fun i hi d=>n _ _ _ (e2 i (by omega) hi) (h2 i (by omega) d))
   cases b
  cases b
def AV.pure:Nat->AV->Bool
 | 0,_=>false
 | k+1,v=>match v with
  | .sc _=>true
  | .rs es=>es.all fun c=>c.all (AV.pure k)
  | .agg cs | .tup cs=>cs.all (AV.pure k)
  | _=>false
theorem nU0{G G':j4}(h:∀ b o,G.imm b=some o->G'.imm b=some o):∀ (k:Nat) (v:AV) (u:Value),AV.pure k v=true->Rep G v u->Rep G' v u
 | 0,v,u,hp,_=>by simp[AV.pure]at hp
 | k+1,v,u,hp,e=>by
  have f:=nU0 h k;have c:∀ {b o:Nat} {v:Value},G.cell b o=some v->G'.cell b o=some v:=fun {b o v} hc=>by
   unfold j4.cell at *;cases g:G.imm b with
   | none=>simp[g]at hc
   | some x=>rw[h b x g];simpa[g]using hc
  unfold AV.pure at hp;split at hp
  ·cases e;exact .sc _
  ·rename_i es
   cases e with
   | rsNil=>exact .rsNil
   | rs _ a cap size val hs hc hlen himm hrep=>refine .rs es a cap size val hs hc hlen (fun i j h1 h2=>c (himm i j h1 h2)) (fun i j hi hj=>f _ _ ?_ (hrep i j hi hj));have:=aj.1 hp es[i] (aw hi);exact aj.1 this _ (aw hj)
  ·rename_i cs
   cases e with
   | agg _ vs h1 h2=>exact .agg cs vs h1 (fun i hi d=>f _ _ (aj.1 hp _ (aw hi)) (h2 i hi d))
  ·rename_i cs
   cases e with
   | tup _ vs h1 h2=>exact .tup cs vs h1 (fun i hi d=>f _ _ (aj.1 hp _ (aw hi)) (h2 i hi d))
  cases hp
def j3.none:j3:={ next:=0,tr:=.leaf,low:=0 }
theorem j3.none_objs(id:Nat):j3.none.objs id=iK:=Tr.get_leaf id
theorem lv0{P:Program}{f:FuncId}{args:List AV}{v c:AV}{σ':j3}(hp:args.all (AV.pure 100)=true){k:Nat}(R:deep σ' k v=some c)
  (t:B4 P f args j3.none (fun H m=>H=v/\m=σ')) (σ:j3):B4 P f args σ (fun H m=>H=c/\m=σ):=by
 intro G vs w n d o a S Q U;let G0:j4:={ G with pl:=fun _=>iK };have r:B8 G0 args vs:=⟨n.1,fun i h1 h2=>nU0 (G:=G) (G':=G0) (fun _ _ h=>h) 100 _ _ (aj.1 hp _ (aw h1)) (n.2 i h1 h2)⟩;have z:Rel G0 j3.none w:=⟨d.os,d.tape,d.output,d.size,d.imm,fun _ _=>rfl,(fun id o h=>by rw[j3.none_objs]at h;cases h),(fun i j oi oj pi pj h=>by rw[j3.none_objs]at h;cases h),d.glob⟩;refine t G0 vs w r z o a S Q ?_;rintro u V σ1 I J s K e ⟨rfl,rfl⟩;have g:∀ b,¬ ∃ id0 o0 p0,j3.none.objs id0=some o0/\G0.pl id0=some p0/\p0.virt=false/\p0.block=b:=fun b ⟨id,o0,p0,h,_⟩=>by rw[j3.none_objs]at h;cases h
 have q:∀ b,b<w.heap.size->J.heap[b]?=w.heap[b]?:=fun b l=>s.fr.same b l (fun id o p h=>by rw[j3.none_objs]at h;cases h);let G':j4:=I.frozen σ1 J G.pl;have himm:∀ b x,G'.imm b=some x->G.imm b=some x\/w.heap.size<=b:=fun b x B=>by
  simp only[G',j4.frozen]at B;split at B
  ·rename_i hl
   obtain⟨id,o1,p,h1,h2,C,rfl⟩:=hl;right;rcases cg p.block w.heap.size with D | D
   ·exact Am (s.fr.live id o1 p h1 h2 C D) (g _)
   exact D
  rcases s.fr.imm b x B with h1 | h1 | h1
  ·exact .inl h1
  ·exact .inr h1
  exact Am h1 (g _)
 have hle:G.le G':=⟨s.le.w0,fun b x l=>F3 e (s.le.imm b x l),fun _ _ h=>h⟩;have M:I.w0=G.w0:=s.le.w0;refine U u c σ G' J ⟨hle,fun _ _ h=>h,ax _,⟨s.fr.size,fun b l _=>q b l,fun id x p h1 h2 C _=>⟨id,x,p,h1,h2,C,rfl⟩,fun b x l=>?_,s.fr.drawn⟩⟩ (rE0 e G.pl k _ _ _ R K) ?_ ⟨rfl,rfl⟩
 ·rcases himm b x l with h1 | h1
  ·exact .inl h1
  exact .inr (.inl h1)
 refine⟨e.os,e.tape,e.output,e.size,fun b x l=>?_,d.fresh,fun id x B=>?_,d.sep,fun b o v hv=>hle.cell (d.glob b o v hv)⟩
 ·simp only[G',j4.frozen]at l
  split at l
  ·exact l
  exact e.imm b x l
 obtain⟨p,E,hl⟩:=d.objs id x B;refine⟨p,E,?_⟩;rcases hl with ⟨h1,h2⟩ | ⟨h1,h2,C,D⟩
 ·exact .inl ⟨h1,h2⟩
 have N:=d.obj_lt B E h1;refine .inr ⟨h1,?_,by show I.w0.heap.size<=_;rw[M];exact C,by rw[q _ N];exact D.mono hle⟩;cases hi:G'.imm p.block with
 | none=>rfl
 | some y=>
  rcases himm _ _ hi with O | O
  ·rw[h2]at O;cases O
  omega
def vbeq:Value->Value->Bool
 | .bool a,.bool b=>a==b
 | .int k a,.int l b=>decide (k=l)&&decide (a=b)
 | .string a,.string b=>decide (a=b)
 | .slice none 0 0,.slice none 0 0=>true
 | _,_=>false
theorem vT0{a b:Value}(h:vbeq a b=true):a=b:=by
 unfold vbeq at h;split at h
 ·simp at h;rw[h]
 ·rw[ab]at h;rw[Aj h.1,Aj h.2]
 ·rw[Aj h]
 ·rfl
 cases h
def lbeq(f:AV->AV->Bool):List AV->List AV->Bool
 | [],[]=>true
 | a::as,b::bs=>f a b&&lbeq f as bs
 | _,_=>false
def rbeq(f:AV->AV->Bool):List (List AV)->List (List AV)->Bool
 | [],[]=>true
 | a::as,b::bs=>lbeq f a b&&rbeq f as bs
 | _,_=>false
def abeq:Nat->AV->AV->Bool
 | 0,_,_=>false
 | k+1,a,b=>match a,b with
  | .sc x,.sc y=>vbeq x y
  | .rs x,.rs y=>rbeq (abeq k) x y
  | .agg x,.agg y=>lbeq (abeq k) x y
  | .tup x,.tup y=>lbeq (abeq k) x y
  | _,_=>false
structure Memo where
 f:FuncId
 args:List AV
 c:AV
def E0(P:Program)(m:Memo):Prop:=∀ σ,B4 P m.f m.args σ (fun v σ'=>v=m.c/\σ'=σ)
def nx0(f:FuncId)(args:List AV):List Memo->Option AV
 | []=>none
 | m::l=>match aB m.f f with
  | true=>match lbeq (abeq 100) m.args args with
   | true=>some m.c
   | false=>nx0 f args l
  | false=>nx0 f args l
def mH0(T:Tab)(F:FuncId->Option Func)(K:ma0)(fuel:Nat)(f:FuncId)(args:List AV):Option AV :=
 match args.all (AV.pure 100)with
 | true=>match ab0 T F K (go T F K fuel) f args j3.none with
  | some (v,σ)=>deep σ 100 v
  | none=>none
 | false=>none
theorem oS0{P:Program}{T:Tab}(hT:C0 P T){F:FuncId->Option Func}(hF:∀ f fn,F f=some fn->P.funcs[f]?=some fn)(hm:P.follows .mixedOrders=true){K:ma0}(a:mp0 P K)
  {fuel:Nat} {f:FuncId} {args:List AV} {c:AV} (h:mH0 T F K fuel f args=some c):E0 P ⟨f,args,c⟩:=by
 intro σ;unfold mH0 at h;split at h
 ·rename_i hp
  split at h
  ·rename_i v σ' b
   exact lv0 hp h (sP0 hT hF hm a b) σ
  cases h
 cases h
def R9(P:Program):Nat->List Field->Bool
 | _,[]=>true
 | i,f::fs=>(f.name != "_")&&aB f.offset i&&(match P.underlying f.type with | some (.int _)=>true | _=>false)&&R9 P (i+1) fs
def qd0(P:Program)(t:TypeId)(n:Nat):Option Nat :=
 match P.eqGuardType P.depth t with
 | true=>none
 | false=>match P.underlying t with
  | some (.struct fs)=>if !P.stoodInHeld t&&R9 P 0 fs.toList&&aB fs.size n then some n else none
  | some (.array len elem)=>match P.underlying elem,P.info? elem with
   | some (.int _),some i=>if aB i.size 1&&aB len n then some n else none
   | _,_=>none
  | _=>none
def TT(P:Program)(t:TypeId):Option TI :=
 match P.underlying t,P.info? t with
 | some u,some i=>match i.zero with
  | some z=>match aB z.cells.size i.size with
   | true=>some { und:=u,size:=i.size,zero:=z,bytes:=i.bytes,flat:=qd0 P t i.size }
   | false=>none
  | none=>none
 | _,_=>none
section
variable {P:Program} (w:World)
theorem R2{t:TypeId}{k:IntKind}(h:P.underlying t=some (.int k))(cs:Array Value)(off:Nat)(v:Value)(hv:cs[off]?=some v):(part t cs off).run P w=.ok v w:=by simp[part,isAgg,underlying,h,hv]
theorem eF0(d:Nat)(as bs:List Int):∀ (fs:List Field) (i:Nat),R9 P i fs=true->i+fs.length=as.length->bs.length=as.length ->
  (jw (d+1) (as.map (bk .i64)).toArray (bs.map (bk .i64)).toArray fs).run P w=.ok (as.drop i==bs.drop i) w
 | [],i,_,h1,h2=>by simp only[List.length_nil,cM]at h1;simp[jw,h1,<-h2]
 | f::fs,i,hf,h1,h2=>by
  simp only[ay]at h1;simp only[R9,ab]at hf;obtain⟨⟨⟨g,h⟩,hu⟩,j⟩:=hf;have b:f.offset=i:=af h;have c:f.name≠ "_":=by simpa using g
  split at hu
  ·rename_i k hk
   have ha:(as.map (bk .i64)).toArray[f.offset]?=some (.int .i64 (as[i]'(by omega))):=by rw[b];simp
   have l:(bs.map (bk .i64)).toArray[f.offset]?=some (.int .i64 (bs[i]'(by omega))):=by rw[b];simp
   have m:=eF0 d as bs fs (i+1) j (by omega) h2;have e1:as.drop i=as[i]'(by omega)::as.drop (i+1):=bM (by omega);have e2:bs.drop i=bs[i]'(by omega)::bs.drop (i+1):=bM (by omega);simp only[jw,Af c,ao,R2 w hk _ _ _ ha,R2 w hk _ _ _ l,ae,run_equalIn_int w d f.type .i64 k _ _ hk];have key:(as.drop i==bs.drop i)=((as[i]'(by omega)==bs[i]'(by omega))&&(as.drop (i+1)==bs.drop (i+1))):=by rw[e1,e2];exact ji
   rw[key];by_cases e:as[i]'(by omega)=bs[i]'(by omega)
   ·have a:(as[i]'(by omega)==bs[i]'(by omega))=true:=by simpa using e
    simp only[a,aA,aq,Ah,m,dD]
   have a:(as[i]'(by omega)==bs[i]'(by omega))=false:=by simpa using e
   simp only[a,aY,Al,au,iS]
  cases hu
theorem cp0(b:Bool)(d:Nat)(as:List Int):∀ (fs:List Field) (i:Nat),R9 P i fs=true->i+fs.length=as.length ->
  (forIn fs dH (fun (f:Field) (_:PUnit)=>do
    if f.name≠ "_" then bP b (d+1) f.type (<- part f.type (as.map (bk .i64)).toArray f.offset)
    pure (gv dH)):Sem PUnit).run P w=.ok dH w
 | [],i,_,h1=>by simp
 | f::fs,i,hf,h1=>by
  simp only[ay]at h1;simp only[R9,ab]at hf;obtain⟨⟨⟨g,h⟩,hu⟩,j⟩:=hf;have a:f.offset=i:=af h;have c:f.name≠ "_":=by simpa using g
  split at hu
  ·rename_i k hk
   have ha:(as.map (bk .i64)).toArray[f.offset]?=some (.int .i64 (as[i]'(by omega))):=by rw[a];simp
   have l:=cp0 b d as fs (i+1) j (by omega);have e:(bP b (d+1) f.type (.int .i64 (as[i]'(by omega)))).run P w=.ok () w:=by simp[bP,underlying,hk]
   rw[gZ];simp only[Af c,ao,R2 w hk _ _ _ ha,ae,e,au];exact l
  cases hu
theorem ga0{t:TypeId}{fs:Array Field}(hu:P.underlying t=some (.struct fs))(hf:R9 P 0 fs.toList=true)(b:Bool)(d:Nat)(as:List Int)(h1:as.length=fs.size) :
  (bP b (d+2) t (.agg (as.map (bk .i64)).toArray)).run P w=.ok () w:=by
 have:=cp0 w b d as fs.toList 0 hf (by simp[h1]);rw[bP];simp only[ao,run_underlying hu,ae];rw[<- Array.forIn_toList];have e:=Ap (fun r=>r.andThen fun (_:PUnit) w'=>ey P (pure ()) w') this;simp only[ae,au]at e;exact e
theorem mg0{t:TypeId}{fs:Array Field}(hu:P.underlying t=some (.struct fs))(hs:P.stoodInHeld t=false)(hf:R9 P 0 fs.toList=true)(as bs:List Int)(h1:as.length=fs.size)(h2:bs.length=fs.size) :
  (fz 10000 t (.agg (as.map (bk .i64)).toArray) (.agg (bs.map (bk .i64)).toArray)).run P w=.ok (as==bs) w /\
  ∀ b,(bP b 10000 t (.agg (as.map (bk .i64)).toArray)).run P w=.ok () w:=by
 have a:P.fieldsOf t=fs:=by simp[Program.fieldsOf,hu]
 constructor
 ·rw[run_equalIn_struct w 9999 t _ _ (by rw[a];exact hu) hs,a,eF0 w 9998 as bs fs.toList 0 hf (by simp[h1]) (by omega)]
  simp
 intro b;exact ga0 w hu hf b 9998 as h1
theorem fM0{elem:TypeId}{k:IntKind}(hu:P.underlying elem=some (.int k))(d:Nat)(as bs:List Int)(h2:bs.length=as.length):∀ (m i:Nat),i+m=as.length ->
  (forIn (dx i m) (none,dH) (fun (i:Nat) (_:Option Bool×PUnit)=>do
    if !(<- fz (d+1) elem (<- part elem (as.map (bk .i64)).toArray (i*1)) (<- part elem (bs.map (bk .i64)).toArray (i*1)))then pure (ForInStep.done (some false,dH))else pure (gv (none,dH))):Sem (Option Bool×PUnit)).run P w=.ok (if as.drop i==bs.drop i then none else some false,dH) w
 | 0,i,h1=>by simp only[cM]at h1;simp[h1,<-h2]
 | m+1,i,h1=>by
  have ha:(as.map (bk .i64)).toArray[i*1]?=some (.int .i64 (as[i]'(by omega))):=by simp
  have c:(bs.map (bk .i64)).toArray[i*1]?=some (.int .i64 (bs[i]'(by omega))):=by simp
  have e:=fM0 hu d as bs h2 m (i+1) (by omega);have e1:as.drop i=as[i]'(by omega)::as.drop (i+1):=bM (by omega);have e2:bs.drop i=bs[i]'(by omega)::bs.drop (i+1):=bM (by omega);have key:(as.drop i==bs.drop i)=((as[i]'(by omega)==bs[i]'(by omega))&&(as.drop (i+1)==bs.drop (i+1))):=by rw[e1,e2];exact ji
  rw[jI,gZ,key];simp only[ao,R2 w hu _ _ _ ha,R2 w hu _ _ _ c,ae,run_equalIn_int w d elem .i64 k _ _ hu];by_cases b:as[i]'(by omega)=bs[i]'(by omega)
  ·have a:(as[i]'(by omega)==bs[i]'(by omega))=true:=by simpa using b
   simp only[a,aA,aq,Ah,au,ae,dD];exact e
  have a:(as[i]'(by omega)==bs[i]'(by omega))=false:=by simpa using b
  simp only[a,aY,Al,au,ae,iS,aq,Ah]
theorem cQ0{elem:TypeId}{k:IntKind}(hu:P.underlying elem=some (.int k))(hz:(sizeOf elem).run P w=.ok 1 w)(b:Bool)(d:Nat)(as:List Int):∀ (m i:Nat),i+m=as.length ->
  (forIn (dx i m) dH (fun (i:Nat) (_:PUnit)=>do
    bP b (d+1) elem (<- part elem (as.map (bk .i64)).toArray (i*(<- sizeOf elem)))
    pure (gv dH)):Sem PUnit).run P w=.ok dH w
 | 0,i,h1=>by simp
 | m+1,i,h1=>by
  have ha:(as.map (bk .i64)).toArray[i*1]?=some (.int .i64 (as[i]'(by omega))):=by simp
  have c:=cQ0 hu hz b d as m (i+1) (by omega);have a:(bP b (d+1) elem (.int .i64 (as[i]'(by omega)))).run P w=.ok () w:=by simp[bP,underlying,hu]
  rw[jI,gZ];simp only[ao,hz,ae,R2 w hu _ _ _ ha,a,au];exact c
theorem hJ0{t elem:TypeId}{n:Nat}{k:IntKind}(a:P.underlying t=some (.array n elem))(hu:P.underlying elem=some (.int k))(hz:(sizeOf elem).run P w=.ok 1 w)(b:Bool)(d:Nat)(as:List Int)(h1:as.length=n) :
  (bP b (d+2) t (.agg (as.map (bk .i64)).toArray)).run P w=.ok () w:=by
 have:=cQ0 w hu hz b d as n 0 (by omega);rw[bP];simp only[ao,run_underlying a,ae];rw[eI];have e:=Ap (fun r=>r.andThen fun (_:PUnit) w'=>ey P (pure ()) w') this;simp only[ae,au]at e;simpa using e
theorem kZ0{t elem:TypeId}{n:Nat}{k:IntKind}(e:P.underlying t=some (.array n elem))(hu:P.underlying elem=some (.int k))(hz:(sizeOf elem).run P w=.ok 1 w)(d:Nat)(as bs:List Int)(h1:as.length=n)(h2:bs.length=n) :
  (fz (d+2) t (.agg (as.map (bk .i64)).toArray) (.agg (bs.map (bk .i64)).toArray)).run P w=.ok (as==bs) w:=by
 have:=fM0 w hu d as bs (by omega) n 0 (by omega);rw[fz];simp only[ao,run_underlying e,ae,hz];rw[eI];have a:[:n].size=n:=by simp
 rw[a]
 erw [this]
 simp only[ae,gz];by_cases c:(as==bs)=true
 ·simp[c]
 have b:(as==bs)=false:=by simpa using c
 rw[b];simp
theorem TT_ok(P:Program):C0 P (TT P):=by
 have a:∀ t ti,TT P t=some ti->∃ u i z,P.underlying t=some u/\P.info? t=some i/\i.zero=some z/\z.cells.size=i.size/\ti={ und:=u,size:=i.size,zero:=z,bytes:=i.bytes,flat:=qd0 P t i.size }:=by
  intro t ti h;unfold TT at h;split at h
  ·rename_i u i hu hi
   split at h
   ·rename_i z hz
    split at h
    ·rename_i l
     cases h;exact⟨u,i,z,hu,hi,hz,af l,rfl⟩
    cases h
   cases h
  cases h
 refine⟨fun t ti h=>?_,fun t ti h=>?_,fun t ti h=>?_,fun t ti n h c=>?_⟩
 ·obtain⟨u,i,z,h1,h2,e,f,rfl⟩:=a t ti h;exact h1
 ·obtain⟨u,i,z,h1,h2,e,f,rfl⟩:=a t ti h;exact⟨i,h2,rfl,rfl,e⟩
 ·obtain⟨u,i,z,h1,h2,e,f,rfl⟩:=a t ti h;exact f
 obtain⟨u,i,z,h1,h2,e,f,rfl⟩:=a t ti h;simp only at c;unfold qd0 at c;split at c
 ·cases c
 rename_i m;refine⟨m,fun as bs w ha l=>?_⟩;split at c
 ·rename_i fs d
  split at c
  ·rename_i hc
   cases c;simp only[ab,Bool.not_eq_true']at hc;have o:=af hc.2;exact mg0 w d hc.1.1 hc.1.2 as bs (by omega) (by omega)
  cases c
 ·rename_i len elem d
  split at c
  ·rename_i k q hk g
   split at c
   ·rename_i hc
    cases c;simp only[ab]at hc;have j:=af hc.1;have p:=af hc.2;have hz:(sizeOf elem).run P w=.ok 1 w:=by simp[sizeOf,typeInfo,g,j]
    exact⟨kZ0 w d hk hz 9998 as bs (by omega) (by omega),fun b=>hJ0 w d hk hz b 9998 as (by omega)⟩
   cases c
  cases c
 cases c
def tTr(P:Program):Tr TI:=Tr.ofList ((aJ P.types.size).filterMap fun t=>(TT P t).map fun x=>(t,x)) .leaf
theorem tTr_ok(P:Program):C0 P (fun t=>(tTr P).get t):=by
 have key:∀ t ti,(tTr P).get t=some ti->TT P t=some ti:=by
  intro t ti h;rcases Tr.ofList_get _ _ _ _ h with h | h
  ·obtain⟨x,_,b⟩:=dy.1 h
   cases hT:TT P x with
   | none=>simp[hT]at b
   | some y=>simp[hT]at b;obtain⟨rfl,rfl⟩:=b;exact hT
  rw[Tr.get_leaf]at h;cases h
 have a:=TT_ok P;exact⟨fun t ti h=>a.und t ti (key t ti h),fun t ti h=>a.info t ti (key t ti h),fun t ti h=>a.zlen t ti (key t ti h),fun t ti n h=>a.flat t ti n (key t ti h)⟩
end
theorem rC0{P:Program}{f:FuncId}(b:∀ args w,(callFunc f args).run P w=((add64Entry args).run P w).andThen fun v w'=>.ok (.value v) w'){args:List AV}{σ σ':j3}{v:AV}(h:oc0 args σ=some (v,σ')) :
  B4 P f args σ (fun e d=>e=v/\d=σ')/\J1 σ σ':=by
 unfold oc0 at h;split at h
 ·rename_i x y c
  split at h
  ·rename_i hc
   cases h;refine⟨B4.of_extern _ ⟨rfl,rfl⟩ ?_,.refl _⟩;intro G vs w a _;obtain⟨v1,l1,rfl,g,a⟩:=a.cons_inv;obtain⟨v2,l2,rfl,j,a⟩:=a.cons_inv;obtain⟨v3,l3,rfl,k,a⟩:=a.cons_inv;rw[a.nil_inv];cases g;cases j;cases k;refine⟨_,by rw[b,run_add64 x y c hc.1 hc.2.1 (by omega) (by omega)];rfl,?_⟩;exact .tup _ [_,_] rfl (fun i h1 h2=>by
    match i with
    | 0=>exact .sc _
    | 1=>exact .sc _)
  cases h
 cases h
theorem aJ0.weaken{P:Program}{f:FuncId}{args:List AV}{σ:j3}{R d:AV->j3->Prop}(h:aJ0 P f args σ R)
  (j:∀ v σ1,R v σ1->∃ a,d v a/\σ1.next<=a.next/\∀ k x,a.objs k=some x->σ1.objs k=some x):aJ0 P f args σ d:=by
 intro G vs w h1 h2;refine(h G vs w h1 h2).mono ?_;rintro e w' ⟨v,g,σ1,G',rfl,b,l,m,n⟩;obtain⟨a,c1,c2,i⟩:=j g σ1 n;have c:Rel G' { σ1 with next:=a.next } w':=m.next c2;exact⟨v,g,a,G',rfl,⟨b.le,b.keeps,bC b.next c2,b.fr.trans (Fr.less i)⟩,l,c.less rfl i,c1⟩
structure oA0(o:Oper)(d:Option Tmp)(op:Op):Prop where
 dst:o.dst=d
 op:o.op=op
 guard:o.guard=none
theorem oA0.wanted{o:Oper}{d:Option Tmp}{op:Op}(h:oA0 o d op)(ops:Array Oper)(s:AS):D0 ops s o=some true:=by simp[D0,h.guard]
section
variable {P:Program} {T:Tab} {ops:Array Oper} {n0:Nat} {Q:AS->Prop} {s:AS}
theorem Z6.is(hT:C0 P T){i:Nat}{rest:List Nat}{o:Oper}{d:Tmp}{op:Op}{v:AV}{σ':j3}(a:ops[i]?=some o)(h:oA0 o (some d) op)(hi:i∉rest)(b:d<s.n)
  (ha:aop T s.eval s.st (n0+i) op=some (v,σ')) (hk:Z6 P ops n0 Q rest ({ s with st:=σ' }.put (some d) v)):Z6 P ops n0 Q (i::rest) s:=by
 refine Z6.plain hT a hi (h.wanted ops s) (by rw[h.dst];simpa[P1]using b) (by rw[h.op];exact ha) (gY0 ha).1 ?_;rw[h.dst];exact hk
theorem Z6.nilTest(hT:C0 P T){i:Nat}{rest:List Nat}{o:Oper}{d:Tmp}{t elem yt:TypeId}{ti:TI}{x:Operand}(v:ops[i]?=some o)(h:oA0 o (some d) (.binOp .eql t x (.const (.slice none 0 0)) yt))(B:d<s.n)
  (C:T t=some ti) (hu:ti.und=.slice elem) (D:(∃ es,s.eval x=.rs es)\/∃ id z off len,s.eval x=.ms id z off len)
  (hk:∀ b,Z6 P ops n0 Q rest (s.put (some d) (.sc (.bool b)))):Z6 P ops n0 Q (i::rest) s:=by
 intro G a w p hf E;have f:=p.eval x;have g:∃ q l c,a.eval x=.slice q l c:=by generalize a.eval x=u at f;rcases D with ⟨es,e⟩ | ⟨id,z,off,len,e⟩<;>rw[e]at f<;>cases f<;>exact⟨_,_,_,rfl⟩
 obtain⟨q,l,c,r⟩:=g;simp only[wpOps,v,K3 p (h.wanted ops s),Al];left;have k:P.underlying t=some (.slice elem):=by rw[hT.und t ti C,hu]
 have m:(execOp a.eval o).run P w=.ok (.value (.bool q.isNone)) w:=by have hc:a.eval (.const (.slice none 0 0))=.slice none 0 0:=rfl;simp only[execOp,h.op,r,hc,eqGuard,ao,au,ae,binOp,Op.equal,Op.maxDepth];have e:=au0 w 9999 t elem q l c k;simp only[Nat.reduceAdd]at e;simp only[aA,aq,Ah,au,ae,e]
 unfold fO;rw[m];simp only[eF];have:=hk q.isNone G (a.put (some d) (.bool q.isNone)) w (p.put (.refl G) p.rel (.sc _) (by simpa[P1]using B)) (fun j hj=>hf j (by simp[hj])) (by simpa using E);rw[h.dst];simpa using this
end
@[simp] theorem AS.get_st (s:AS) (σ:j3) (t:Nat):({ s with st:=σ }:AS).get t=s.get t:=rfl
def uX0:Operand:=.const (.slice none 0 0)
structure mo0(fn:Func)(t:TypeId):Prop where
 ntmps:fn.ntmps=8
 results:fn.results=#[.tmp 2]
 body:∃ i0 i1 i2 i3 o0 o1 o2 o3 o4 o5 o6 o7 yt,fn.body=some (.seq (.region i0 #[o0] false) (.seq (.seq (.region i1 #[o1,o2] false) (.cond (.tmp 4) (.seq (.region i2 #[o3] false) .ret) .skip)) (.seq (.region i3 #[o4,o5,o6,o7] false) .ret))) /\
  oA0 o0 (some 2) (.assign uX0)/\oA0 o1 (some 3) (.move (.tmp 0))/\oA0 o2 (some 4) (.binOp .eql t (.tmp 3) uX0 yt)/\oA0 o3 (some 2) (.assign uX0) /\
  oA0 o4 (some 5) (.buildSlice t 0 #[])/\oA0 o5 (some 6) (.move (.tmp 0))/\oA0 o6 (some 7) (.call { callee:=.builtin .append,args:=#[.tmp 5,.tmp 6],argTypes:=#[t,t] })/\oA0 o7 (some 2) (.assign (.tmp 7))
theorem aJ0.withLt{P:Program}{f:FuncId}{args:List AV}{σ:j3}{R:AV->j3->Prop}(h:(∀ k x,σ.objs k=some x->k<σ.next)->aJ0 P f args σ R):aJ0 P f args σ R :=fun G vs w h1 h2=>h (fun k x a=>h2.objs_lt a) G vs w h1 h2
structure Step(s:AS)(d:Nat)(v:AV)(σ':j3)(s':AS):Prop where
 n:s'.n=s.n
 get:∀ t,s'.get t=if t=d then v else s.get t
 st:s'.st=σ'
theorem Step.same{s s':AS}{d:Nat}{v:AV}{σ':j3}(h:Step s d v σ' s'):s'.get d=v:=by rw[h.get,Af rfl]
theorem Step.other{s s':AS}{d t:Nat}{v:AV}{σ':j3}(h:Step s d v σ' s')(a:t≠d):s'.get t=s.get t:=by rw[h.get,Ae a]
section
variable {P:Program} {T:Tab} {ops:Array Oper} {n0:Nat} {Q:AS->Prop} {s:AS}
theorem Z6.step(hT:C0 P T){i:Nat}{rest:List Nat}{o:Oper}{d:Tmp}{op:Op}{v:AV}{σ':j3}(a:ops[i]?=some o)(h:oA0 o (some d) op)(hi:i∉rest)(b:d<s.n)
  (ha:aop T s.eval s.st (n0+i) op=some (v,σ')) (hk:∀ s',Step s d v σ' s'->Z6 P ops n0 Q rest s'):Z6 P ops n0 Q (i::rest) s :=
 Z6.is hT a h hi b ha (hk _ ⟨by simp,fun t=>AS.get_put _ _ _ _,by simp⟩)
theorem AWp.region'{Q:Exit->AS->Prop}{id:Nat}{ops:Array Oper}(h:∀ s',s'.n=s.n->(∀ t,s'.get t=s.get t)->s'.st={ s.st with next:=s.st.next+ops.size }->Z6 P ops s.st.next (fun s'=>Q .normal s') (aJ ops.size) s'):AWp P (.region id ops false) Q s :=AWp.region (h _ rfl (fun _=>rfl) rfl)
end
theorem jv0{P:Program}{T:Tab}(hT:C0 P T){fn:Func}{t elem:TypeId}{ti d:TI}(i:mo0 fn t)(J:T t=some ti)(hu:ti.und=.slice elem)(K:T elem=some d){f:FuncId}(hf:P.funcs[f]?=some fn){x:AV}{σ:j3}
  {xs:List (List AV)} (a:P6 σ x=some xs) (hok:(xs.all fun c=>c.length==d.size&&c.all AV.one)=true) (hby:(2*xs.length+1000)*d.bytes<=2^48) (hlen:xs.length<=2^62) (M:0<d.size)
  (N:∀ k x,σ.objs k=some x->k<σ.next) (R:AV->j3->Prop)
  (hA:x.isNil≠some false->R (.sc (.slice none 0 0)) { σ with next:=σ.next+4 })
  (hB:x.isNil≠some true->∀ σ1:j3,σ1.next=σ.next+7->(∀ k,σ1.objs k=if k=σ.next+5 then some (.row elem d.size xs)else σ.objs k)->R (.ms (σ.next+5) d.size 0 xs.length) σ1) :
  aJ0 P f [x] σ R:=by
 obtain⟨i0,i1,i2,i3,o0,o1,o2,o3,o4,o5,o6,o7,yt,hb,h0,h1,h2,h3,h4,h5,h6,h7⟩:=i.body;refine aJ0.of_body hT hf hb (by rw[i.ntmps];simp) ?_;rw[i.ntmps];have O:(AS.enter 8 [x] σ).get 0=x:=by rw[AS.enter_get];rfl
 have G:(AS.enter 8 [x] σ).n=8:=rfl;have r:(AS.enter 8 [x] σ).st=σ:=rfl;generalize AS.enter 8 [x] σ=s at O G r;have w:∀ s:AS,C8 T fn s=some (s.get 2):=fun s=>by simp[C8,i.results,fd0,lP0]
 have hti:∀ σ id,F9 T σ id t 0 []=some (.ms id d.size 0 0,σ.set id (.row elem d.size [])):=fun σ id=>by obtain⟨u,z1,z2,z3,z4⟩:=ti;simp only at hu;subst hu;simp[F9,J,K,M,Q4]
 refine AWp.seq (AWp.region' fun s1 n1 g1 t1=>?_);show Z6 P #[o0] _ _ [0] _;refine Z6.step hT rfl h0 (by simp) (by rw[n1,G];decide) (v:=.sc (.slice none 0 0)) (σ':=s1.st) rfl fun s2 k2=>Z6.nil ?_;show AWp P (.seq _ _) _ s2;have Q:s2.n=8:=by rw[k2.n,n1,G]
 have S:s2.get 0=x:=by rw[k2.other (by decide),g1,O]
 have U:s2.st={ σ with next:=σ.next+1 }:=by rw[k2.st,t1,r];rfl
 refine AWp.seq (AWp.seq (AWp.region' fun s3 n3 g3 t3=>?_));show Z6 P #[o1,o2] _ _ [0,1] _;refine Z6.step hT rfl h1 (by simp) (by rw[n3,Q];decide) (v:=x) (σ':=s3.st) (by simp only[aop,AS.eval];rw[g3,S]) fun B k4=>?_;have j:B.n=8:=by rw[k4.n,n3,Q]
 have V:B.get 0=x:=by rw[k4.other (by decide),g3,S]
 have C:B.st={ σ with next:=σ.next+3 }:=by rw[k4.st,t3,U];rfl
 have rest:∀ b:Bool,x.isNil≠some (!b)->∀ l:AS,l.n=8->l.get 0=x->l.get 4=.sc (.bool b)->l.st={ σ with next:=σ.next+3 } ->
   AWp P (.cond (.tmp 4) (.seq (.region i2 #[o3] false) .ret) .skip) (kp0 (AWp P (.seq (.region i3 #[o4,o5,o6,o7] false) .ret) (fun e s'=>(e=.normal\/e=.ret)/\∃ v,C8 T fn s'=some v/\R v s'.st)) (fun e s'=>(e=.normal\/e=.ret)/\∃ v,C8 T fn s'=some v/\R v s'.st)) l:=by
  intro b hb l n5 x5 c5 t5;refine AWp.cond (t:=b) c5 ?_;cases b with
  | true=>refine AWp.seq (AWp.region' fun Y n6 g6 t6=>?_);show Z6 P #[o3] _ _ [0] _;refine Z6.step hT rfl h3 (by simp) (by rw[n6,n5];decide) (v:=.sc (.slice none 0 0)) (σ':=Y.st) rfl fun s7 m=>Z6.nil ?_;refine AWp.ret ?_;refine⟨.inr rfl,_,w _,?_⟩;rw[m.same,m.st,t6,t5];exact hA hb
  | false=>
   refine AWp.skip ?_;refine AWp.seq (AWp.region' fun Y n6 g6 t6=>?_);show Z6 P #[o4,o5,o6,o7] _ _ [0,1,2,3] _;have D:Y.st={ σ with next:=σ.next+7 }:=by rw[t6,t5];rfl
   have hnx:l.st.next=σ.next+3:=by rw[t5]
   rw[hnx];refine Z6.step hT rfl h4 (by simp) (by rw[n6,n5];decide) (v:=.ms (σ.next+3) d.size 0 0) (σ':=Y.st.set (σ.next+3) (.row elem d.size [])) (hti _ _) fun s7 m=>?_;refine Z6.step hT rfl h5 (by simp) (by rw[m.n,n6,n5];decide) (v:=x) (σ':=s7.st) (by simp only[aop,AS.eval];rw[m.other (by decide),g6,x5]) fun h Z=>?_;have e5:h.get 5=.ms (σ.next+3) d.size 0 0:=by rw[Z.other (by decide),m.same]
   have e6:h.get 6=x:=Z.same;have E:h.st=Y.st.set (σ.next+3) (.row elem d.size []):=by rw[Z.st,m.st]
   have o:∀ k,h.st.objs k=if k=σ.next+3 then some (.row elem d.size [])else σ.objs k:=fun k=>by rw[E,j3.objs_set,D];rfl
   have H:P6 h.st x=some xs:=by
    rw[<- a];unfold P6;split
    ·rename_i id z off len
     rw[o];have:id≠σ.next+3:=fun e=>by
      simp only[P6]at a;split at a
      ·rename_i ho;have:=N _ _ ho;omega
      cases a
     rw[Ae this]
    ·rfl
    ·rfl
    rfl
   have happ:E4 T h.st (σ.next+5) t t (.ms (σ.next+3) d.size 0 0) x=some (.ms (σ.next+5) d.size 0 xs.length,(h.st.del (σ.next+3)).set (σ.next+5) (.row elem d.size xs)):=by
    obtain⟨u,z1,z2,z3,z4⟩:=ti;simp only at hu;subst hu;have htr:y5 h.st (.ms (σ.next+3) d.size 0 0)=h.st:=by simp[y5,o]
    simp only[E4,J,htr];have I:R8 h.st elem d.size (.ms (σ.next+3) d.size 0 0)=some (some (σ.next+3),[]):=by simp[R8,o]
    simp only[N8,J,K,I,H];rw[Af ⟨rfl,hok,by simpa using hby,by simpa using hlen,M⟩];simp
   refine Z6.step hT rfl h6 (by simp) (by rw[Z.n,m.n,n6,n5];decide) (v:=.ms (σ.next+5) d.size 0 xs.length) (σ':=(h.st.del (σ.next+3)).set (σ.next+5) (.row elem d.size xs)) (by
    simp only[aop,F2,az,cB,AS.eval,e5,e6];exact happ) fun s9 k9=>?_
   refine Z6.step hT rfl h7 (by simp) (by rw[k9.n,Z.n,m.n,n6,n5];decide) (v:=.ms (σ.next+5) d.size 0 xs.length) (σ':=s9.st) (by simp only[aop,AS.eval];rw[k9.same]) fun s10 k10=>Z6.nil ?_;refine AWp.ret ?_;refine⟨.inr rfl,_,w _,?_⟩;rw[k10.same,k10.st,k9.st];refine hB hb _ ?_ (fun k=>?_)
   ·rw[j3.set_next]
    show h.st.next=_;rw[E,j3.set_next,D]
   rw[j3.objs_set,j3.objs_del,o];by_cases q:k=σ.next+5
   ·simp[q]
   rw[Ae q,Ae q];by_cases q2:k=σ.next+3
   ·rw[Af q2]
    cases hk:σ.objs k with
    | none=>rfl
    | some y=>have:=N _ _ hk;omega
   rw[Ae q2,Ae q2]
 have hev:B.eval (.tmp 3)=x:=k4.same;cases g:x.isNil with
 | some b=>
  refine Z6.step hT rfl h2 (by simp) (by rw[j];decide) (v:=.sc (.bool b)) (σ':=B.st) (by
   obtain⟨u,z1,z2,z3,z4⟩:=ti;simp only at hu;subst hu;simp only[aop,uX0];rw[hev];simp[is0,AS.eval,AV.ofValue,J,g]) fun l p=>Z6.nil ?_
  exact rest b (by rw[g];cases b<;>simp) l (by rw[p.n,j]) (by rw[p.other (by decide),V]) p.same (by rw[p.st,C])
 | none=>
  refine Z6.nilTest hT rfl h2 (by rw[j];decide) J hu (by
   rw[hev];unfold P6 at a;split at a
   ·exact .inr ⟨_,_,_,_,rfl⟩
   ·exact .inl ⟨_,rfl⟩
   ·simp[AV.isNil]at g
   cases a) fun b=>Z6.nil ?_
  have p:Step B 4 (.sc (.bool b)) B.st (B.put (some 4) (.sc (.bool b))):=⟨by simp,fun t=>AS.get_put _ _ _ _,by simp⟩;exact rest b (by rw[g];simp) _ (by rw[p.n,j]) (by rw[p.other (by decide),V]) p.same (by rw[p.st,C])
theorem rh0{σ:j3}{x:AV}{xs:List (List AV)}(a:P6 σ x=some xs)(b:x.isNil≠some false):xs=[]:=by
 unfold P6 at a;split at a
 ·rename_i id z off len
  split at a
  ·split at a
   ·cases a
    cases len with
    | zero=>simp
    | succ len=>simp[AV.isNil]at b
   cases a
  cases a
 ·cases a
  cases xs with
  | nil=>rfl
  | cons e es=>simp[AV.isNil]at b
 ·cases a;rfl
 cases a
theorem rs0 {P:Program} {T:Tab} (hT:C0 P T) {f:FuncId} {fn:Func} {t:TypeId} (hf:P.funcs[f]?=some fn) (a:(fn.name== "runtime.NumGoroutine")=false) (g:mo0 fn t) {args:List AV} {σ σ':j3} {v:AV}
  (h:oE0 T t args σ=some (v,σ')):B4 P f args σ (fun I o=>I=v/\o=σ')/\J1 σ σ':=by
 have b:fn.body.isNone=false:=by obtain⟨_,_,_,_,_,_,_,_,_,_,_,_,_,J,_⟩:=g.body;simp[J]
 unfold oE0 at h;split at h
 ·rename_i x
  split at h
  ·rename_i elem z1 z2 z3 z4 D
   split at h
   ·rename_i l p
    split at h
    ·rename_i xs c
     split at h
     ·rename_i hc
      obtain⟨q,r,hlen,s⟩:=hc;split at h
      ·rename_i d
       cases h;refine⟨B4.of_calls hf a b (aJ0.withLt fun j=>?_),⟨ax _,fun _ _=>rfl⟩⟩;refine(jv0 hT g D rfl p hf c q r hlen s j (fun v σ1=>v=.sc (.slice none 0 0)/\σ1={ σ with next:=σ.next+4 }) (fun _=>⟨rfl,rfl⟩) (fun u=>Am d u)).weaken ?_;rintro v σ1 ⟨rfl,rfl⟩;exact⟨_,⟨rfl,rfl⟩,by simp,fun _ _ h=>h⟩
      rename_i d;cases h;refine⟨B4.of_calls hf a b (aJ0.withLt fun j=>?_),?_⟩
      ·have key:=jv0 hT g D rfl p hf c q r hlen s j (fun v σ1=>(xs=[]/\v=.sc (.slice none 0 0)/\σ1={ σ with next:=σ.next+4 })\/(v=.ms (σ.next+5) l.size 0 xs.length/\σ1.next=σ.next+7/\∀ k,σ1.objs k=if k=σ.next+5 then some (.row elem l.size xs)else σ.objs k))
        (fun u=>.inl ⟨rh0 c u,rfl,rfl⟩) (fun _ σ1 h1 h2=>.inr ⟨rfl,h1,h2⟩)
       intro G vs w h1 h2;refine(key G vs w h1 h2).mono ?_;rintro e w' ⟨v,N,σ1,G',rfl,m,E,z,B⟩;rcases B with ⟨rfl,rfl,rfl⟩ | ⟨rfl,B,K⟩
       ·cases E
        have hid:G'.pl (σ.next+5)=none:=z.fresh _ (by simp);have C:Rel G' { σ with next:=σ.next+7 } w':=z.next (n:=σ.next+7) (by simp);refine⟨_,_,_,G'.place (σ.next+5) { block:=0,size:=0,cap:=0,virt:=true },rfl,⟨m.le.trans (j4.place_le hid),fun i hi M=>?_,by simp,m.fr.trans ?_⟩,.msNil (σ.next+5) l.size _ (j4.place_same _ _ _) rfl,C.virt (σ.next+5) hid (by simp) _ rfl elem l.size,rfl,rfl⟩
        ·have:=m.keeps i hi M
         simp only[j4.place];rw[Ae (by omega)];exact this
        exact(Fr.less (σ:={ σ with next:=σ.next+4 }) (σ':={ σ with next:=σ.next+7 }) (fun _ _ h=>h)).trans (Fr.virt _ _ rfl _)
       have hle:∀ k y,({ σ with next:=σ.next+7 }.set (σ.next+5) (.row elem l.size xs):j3).objs k=some y->σ1.objs k=some y:=fun k y H=>by rw[K];rw[j3.objs_set]at H;exact H
       exact⟨_,_,_,G',rfl,⟨m.le,m.keeps,by simp,m.fr.trans (Fr.less hle)⟩,E,z.less (by rw[B];rfl) hle,rfl,rfl⟩
      have:=J1.set { σ with next:=σ.next+7 } (σ.next+5) (.row elem l.size xs);exact this
     cases h
    cases h
   cases h
  cases h
 cases h
open Go.RowKit
def j4.ofWorld(w:World):j4:={ w0:=w,imm:=fun b=>w.heap[b]?,pl:=fun _=>none }
def nj0(w:World):Prop:=∀ b o v,B6.cell b o=some v->(j4.ofWorld w).cell b o=some v
theorem Rel.ofWorld{w:World}(a:nj0 w):Rel (j4.ofWorld w) j3.none w :=⟨rfl,rfl,rfl,ax _,fun _ _ h=>h,fun _ _=>rfl,(fun id o h=>by rw[j3.none_objs]at h;cases h),(fun i j oi oj pi pj h=>by rw[j3.none_objs]at h;cases h),a⟩
theorem aY0{w:World}{a:Addr}{v:Value}(h:w.cell? a=some v):a.spot=none/\(j4.ofWorld w).cell a.block a.off=some v:=by
 unfold World.cell? at h;split at h
 ·rename_i c t fr b
  split at h
  ·cases h
  rename_i hs;refine⟨by cases hsp:a.spot with | none=>rfl | some x=>simp[hsp]at hs,?_⟩;show (match w.heap[a.block]? with | some (.cells cs _ _)=>cs[a.off]? | _=>none)=_;rw[b];exact h
 cases h
theorem E0.calls {P:Program} {m:Memo} {fn:Func} (r:P.funcs[m.f]?=some fn) (g:(fn.name== "runtime.NumGoroutine")=false) (i:fn.body.isNone=false) (h:E0 P m)
  {G:j4} {vs:List Value} {w:World} (j:B8 G m.args vs) (d:Rel G j3.none w) :
  Calls P m.f vs.toArray w fun e w'=>∃ v G',e=.returned v/\Rep G' m.c v/\G.le G'/\Rel G' j3.none w'/\Below w.heap.size w w':=by
 have key:=h j3.none G vs w j d ⟨some 0,.move (.const undef),0, "",#[],none⟩ ⟨#[undef],[]⟩
  (fun a w'=>∃ v G',a.tmps[0]?=some v/\Rep G' m.c v/\G.le G'/\Rel G' j3.none w'/\Below w.heap.size w w') (fun _ _ _=>False) (by
   rintro u t σ' G' w' n s b ⟨rfl,rfl⟩;refine⟨u,G',by simp[kg],s,n.le,b,?_⟩;have hle:=n.le.w0;exact⟨b.os.trans ((Ap World.os hle).trans d.os.symm),b.tape.trans ((Ap World.tape hle).trans d.tape.symm),b.output.trans ((Ap World.output hle).trans d.output.symm),
    n.fr.size,fun k hk=>n.fr.same k hk (fun id o p q=>by rw[j3.none_objs]at q;cases q)⟩)
 have l:(callFunc m.f vs.toArray).run P w=.ok (.enter m.f vs.toArray) w:=by simp only[callFunc,ao,run_program,ae,r,g,i,aq,Ah,au]
 rw[l]at key;refine Calls.mono key ?_;intro e w' he;cases e with
 | returned v=>
  obtain⟨u,G',h1,h2⟩:=he;have:u=v:=by simpa[kg]using h1.symm
  subst this;exact⟨u,G',rfl,h2⟩
 | panicked c=>exact he.elim
 | outgrown=>obtain⟨a,w0,q⟩:=he;exact q.elim
inductive Sh (P:Program) (N:Nat):TypeId->List AV->Prop
 | bool {t:TypeId} (b:Bool) (h:P.underlying t=some .bool):Sh P N t [.sc (.bool b)]
 | int {t:TypeId} {k:IntKind} {n:Int} (h:P.underlying t=some (.int k)) (hw:(Lit.int k n).wf=true):Sh P N t [.sc (.int k n)]
 | str {t:TypeId} {s:ByteArray} (h:P.underlying t=some .string) (hl:s.size<=N):Sh P N t [.sc (.string s)]
 | slice {t e:TypeId} {es:List (List AV)} (h:P.underlying t=some (.slice e)) (hl:es.length<=N) (hes:∀ c∈es,Sh P N e c):Sh P N t [.rs es]
 | struct {t:TypeId} {fs:Array Field} {avs:List AV} (h:P.underlying t=some (.struct fs)) (hl:avs.length=P.cellsOf t)
   (hf:∀ f∈fs.toList,Sh P N f.type ((avs.drop f.offset).take (P.cellsOf f.type))):Sh P N t avs
def ez0(P:Program):List Field->Nat->Nat->Bool
 | [],o,total=>aB o total
 | f::fs,o,total=>aB f.offset o&&ez0 P fs (o+P.cellsOf f.type) total
def cP0(P:Program):Nat->TypeId->Bool
 | 0,_=>false
 | n+1,t=>match P.underlying t with
  | some .bool=>true
  | some (.int _)=>true
  | some .string=>true
  | some (.slice e)=>cP0 P n e&&(di 1 (P.cellsOf e)&&di 1 (P.bytesOf e))
  | some (.struct fs)=>ez0 P fs.toList 0 (P.cellsOf t)&&fs.toList.all fun f=>cP0 P n f.type
  | _=>false
section
variable {H:Type} {enc:TypeId×Value->H} {P:Program} {N:Nat} {w:World}
theorem B8.sc1(G:j4)(v:Value):B8 G [.sc v] [v]:=.cons (.sc v) (.nil G)
theorem jn0{G:j4}{cs:List Value}(good:Field->Prop)(a:∀ f,good f->∃ avs,B8 G avs ((cs.drop f.offset).take (P.cellsOf f.type))/\Sh P N f.type avs/\f.offset+P.cellsOf f.type<=cs.length) :
  ∀ (fs:List Field) (o:Nat),(∀ f∈fs,good f)->ez0 P fs o cs.length=true->o<=cs.length ->
   ∃ avs,B8 G avs (cs.drop o)/\∀ f∈fs,o<=f.offset/\Sh P N f.type ((avs.drop (f.offset-o)).take (P.cellsOf f.type))
 | [],o,_,d,_=>by have:o=cs.length:=af d;subst this;exact⟨[],by simpa using B8.nil G,fun f hf=>by cases hf⟩
 | f::fs,o,h,d,hle=>by
  simp only[ez0,ab]at d;have i:f.offset=o:=af d.1;obtain⟨avs,h1,h2,j⟩:=a f (h f (by simp));rw[i]at h1 j;obtain⟨c,k,l⟩:=jn0 good a fs (o+P.cellsOf f.type) (fun g b=>h g (by simp[b])) d.2 j;have hl:avs.length=P.cellsOf f.type:=by rw[<- h1.1];simp;omega
  refine⟨avs++c,?_,?_⟩
  ·have e:cs.drop o=(cs.drop o).take (P.cellsOf f.type)++cs.drop (o+P.cellsOf f.type):=by rw[<- List.drop_drop,List.take_append_drop]
   rw[e];exact h1.append k
  intro g b;rcases aC.1 b with rfl | b
  ·refine⟨by omega,?_⟩
   rw[i,Nat.sub_self,gz,List.take_append_of_le_length (by omega),List.take_of_length_le (by omega)];exact h2
  obtain⟨n,m⟩:=l g b;refine⟨by omega,?_⟩;have:(avs++c).drop (g.offset-o)=c.drop (g.offset-(o+P.cellsOf f.type)):=by rw[List.drop_append,List.drop_eq_nil_of_le (by omega),hl];simp only[aT];congr 1;omega
  rw[this];exact m
theorem nO0{G:j4}(Q:Nat->List AV->Prop):∀ (n:Nat),(∀ i,i<n->∃ avs,Q i avs)->∃ es:List (List AV),es.length=n/\∀ i (h:i<es.length),Q i es[i]
 | 0,_=>⟨[],rfl,fun i h=>by simp at h⟩
 | n+1,a=>by
  obtain⟨es,h1,h2⟩:=nO0 (G:=G) Q n (fun i hi=>a i (by omega));obtain⟨avs,b⟩:=a n (by omega);refine⟨es++[avs],by simp[h1],fun i hi=>?_⟩;by_cases e:i<es.length
  ·rw[List.getElem_append_left e];exact h2 i e
  have:i=n:=by simp[h1]at hi;omega
  subst this;rw[List.getElem_append_right (by omega)];simpa[h1]using b
theorem dL0{e:TypeId}{d:DataW H}{n:Nat}(a:n∈d.weights P e):∀ {l:List (DataW H)},d∈l->n∈fC P e l
 | [],h=>by cases h
 | x::l,h=>by
  unfold fC;rcases aC.1 h with rfl | h
  ·exact eN _ a
  exact ga _ (dL0 a h)
theorem K2{n:Nat}:∀ {ts:List TypeId} {l:List (DataW H)} (i:Nat) {t:TypeId} {d:DataW H},ts[i]?=some t->l[i]?=some d->n∈d.weights P t->n∈eX P ts l
 | [],_,i,t,d,h,_,_=>by simp at h
 | _::_,[],i,t,d,_,h,_=>by simp at h
 | b::ts,c::l,0,t,d,h1,h2,a=>by simp only[cq,ah]at h1 h2;subst h1 h2;unfold eX;exact eN _ a
 | b::ts,c::l,i+1,t,d,h1,h2,a=>by simp only[aR]at h1 h2;unfold eX;exact ga _ (K2 i h1 h2 a)
theorem kn0:∀ (d:Nat) (t:TypeId),cP0 P d t=true->∀ (fuel:Nat) (cs:List Value) (x:DataW H×List MemPlace),DataW.trod enc P w 0 (fun _=>true) true fuel t cs=some x->(∀ n∈x.1.weights P t,n<=N) ->
  ∃ avs,B8 (j4.ofWorld w) avs cs/\Sh P N t avs
 | 0,t,hp,_,_,_,_,_=>by simp[cP0]at hp
 | d+1,t,hp,fuel,cs,x,h,R=>by
  unfold cP0 at hp;split at hp
  ·rename_i r
   obtain⟨b,rfl,_⟩:=DataW.trod_bool r h;exact⟨_,.sc1 _ _,.bool b r⟩
  ·rename_i k r
   obtain⟨n,rfl,_,hw⟩:=DataW.trod_int r h;exact⟨_,.sc1 _ _,.int r hw⟩
  ·rename_i r
   obtain⟨s,rfl,ex,_⟩:=DataW.trod_string r h;subst ex;exact⟨_,.sc1 _ _,.str r (R s.size (by
    have:ez P t (.lit (.string s.data.toList):DataW H)=[s.data.toList.length]:=by rw[ez]
    rw[this];exact List.mem_singleton.2 rfl))⟩
  ·rename_i e r
   rw[ab]at hp;rw[ab]at hp;have hpos:1<=P.cellsOf e:=aU hp.2.1;have S:1<=P.bytesOf e:=aU hp.2.2;rcases Go.Deep.open_slice r h with ⟨rfl,_⟩ | ⟨a,len,cap,m,n,D,Pl,rfl,_,hlc,hcm,hm,ex,K⟩
   ·exact⟨[.rs []],.cons .rsNil (.nil _),.slice r (by simp) (fun c hc=>by cases hc)⟩
   simp only[Al]at hm;subst ex;have Z:ez P t (.slice ((aJ len).map D) ((aJ (m-len)).map fun j=>D (len+j)):DataW H)=((aJ len).map D).length.add ((aJ (m-len)).map fun j=>D (len+j)).length*P.bytesOf e::(fC P e ((aJ len).map D)++fC P e ((aJ (m-len)).map fun j=>D (len+j))):=by rw[ez,r];rfl
   rw[Z]at R;have hlen:len<=N:=by have h1:=R _ (List.mem_cons_self ..);rw[aD,aD,hY,hY]at h1;have h2:len*1<=(len.add (m-len))*P.bytesOf e:=Nat.mul_le_mul (bc len _) S;omega
   have hND:∀ i,i<len->∀ q∈(D i).weights P e,q<=N:=fun i hi q hq=>R q (bO _ (eN _ (dL0 hq (aM.2 ⟨i,List.mem_range.2 hi,rfl⟩))));rw[hm]at K;have U:∀ i,i<len->∃ avs,∃ p,w.cells? 0 (a.add (i*P.cellsOf e)) (P.cellsOf e)=some p/\B8 (j4.ofWorld w) avs p/\Sh P N e avs:=fun i hi=>by obtain⟨p,h1,h2⟩:=K i (by omega);obtain⟨avs,I,C⟩:=kn0 d e hp.1 _ _ _ h2 (hND i hi);exact⟨avs,p,h1,I,C⟩
   obtain⟨es,V,B⟩:=nO0 (G:=j4.ofWorld w) (fun i avs=>∃ p,w.cells? 0 (a.add (i*P.cellsOf e)) (P.cellsOf e)=some p/\B8 (j4.ofWorld w) avs p/\Sh P N e avs) len U;have u:cap≠0->a.spot=none:=fun hc=>by obtain⟨p,h1,_⟩:=K 0 (by omega);obtain⟨_,h2,I⟩:=eY h1;have C:=I 0 (by omega);rw[ai (by omega)]at C;simp[Addr.add]at C;exact(aY0 C).1
   refine⟨[.rs es],.cons ?_ (.nil _),.slice r (by omega) (fun c hc=>?_)⟩
   ·rw[<- V]
    refine .rs es a cap (P.cellsOf e) (fun i j=>(w.cell? ⟨a.block,a.off+i*P.cellsOf e+j,none⟩).getD undef) u (by omega) (fun i hi=>?_) (fun i j hi hj=>?_) (fun i j hi hj=>?_)
    ·obtain⟨p,h1,h2,_⟩:=B i hi
     obtain⟨_,I,_⟩:=eY h1;have:=h2.1;omega
    ·obtain⟨p,h1,h2,_⟩:=B i hi
     obtain⟨_,I,C⟩:=eY h1;have J:=C j hj;rw[ai (by omega)]at J;have hs:=u (by omega);obtain⟨b,o,sp⟩:=a;simp only at hs;subst hs;rw[K6,K6]at J;rw[J];exact(aY0 J).2
    obtain⟨p,h1,h2,_⟩:=B i hi;obtain⟨_,I,C⟩:=eY h1;have hl:=h2.1;have J:=C j (by omega);rw[ai (by omega)]at J;have hs:=u (by omega);obtain⟨b,o,sp⟩:=a;simp only at hs;subst hs;rw[K6,K6]at J;rw[J];exact h2.2 j hj (by omega)
   obtain⟨i,hi,rfl⟩:=bH hc;obtain⟨_,_,_,I⟩:=B i hi;exact I
  ·rename_i fs r
   rw[ab]at hp;obtain⟨xs,n,rfl,ex,hlen,hxl,hf⟩:=DataW.trod_struct r h;subst ex;have Z:ez P t (.agg (xs.map (·.1)):DataW H)=eX P (fs.toList.map (·.type)) (xs.map (·.1)):=by rw[ez,r]
   rw[Z]at R;have v:=hp.1;rw[<- hlen]at v;have M:∀ f,f∈fs.toList->∃ avs,B8 (j4.ofWorld w) avs ((cs.drop f.offset).take (P.cellsOf f.type))/\Sh P N f.type avs:=fun f z=>by
    obtain⟨i,hi,rfl⟩:=bH z;have h1:=hf i (fs.toList[i]) (by simp);rw[ai (by simp at hi;omega)]at h1;have Y:i<xs.length:=by simp at hi;omega
    exact kn0 d _ (aj.1 hp.2 _ z) _ _ _ h1 (fun q hq=>R q (K2 i (t:=fs.toList[i].type) (d:=(xs[i]'Y).1) (by rw[aS,ai hi];rfl) (by rw[aS,ai Y];rfl) hq))
   have O:∀ (l:List Field) (o:Nat),ez0 P l o cs.length=true->∀ f∈l,f.offset+P.cellsOf f.type<=cs.length:=by
    have Q:∀ (l:List Field) (o:Nat),ez0 P l o cs.length=true->o<=cs.length:=by
     intro l
     induction l with
     | nil=>intro o E;exact Nat.le_of_eq (af E)
     | cons g l U=>intro o E;simp only[ez0,ab]at E;have:=U _ E.2;omega
    intro l
    induction l with
    | nil=>intro o _ f hf;cases hf
    | cons g l U=>
     intro o E f hf;simp only[ez0,ab]at E;rcases aC.1 hf with rfl | hf
     ·have:=Q _ _ E.2
      rw[af E.1];exact this
     exact U _ E.2 f hf
   obtain⟨avs,h1,h2⟩:=jn0 (P:=P) (G:=j4.ofWorld w) (cs:=cs) (fun f=>f∈fs.toList)
    (fun f z=>by obtain⟨avs,a1,a2⟩:=M f z;exact⟨avs,a1,a2,O _ _ v f z⟩) fs.toList 0 (fun _ h=>h) v (cN _)
   rw[gz]at h1;refine⟨avs,h1,.struct r (by rw[<- h1.1];exact hlen) (fun f z=>?_)⟩;have:=(h2 f z).2;simpa using this
  cases hp
end
theorem Sh.int_inv{P:Program}{N:Nat}{t:TypeId}{k:IntKind}{avs:List AV}(a:P.underlying t=some (.int k))(h:Sh P N t avs):∃ n,avs=[.sc (.int k n)]/\(Lit.int k n).wf=true:=by
 cases h with
 | int h hw=>rw[a]at h;cases h;exact⟨_,rfl,hw⟩
 | bool b h=>rw[a]at h;cases h
 | str h=>rw[a]at h;cases h
 | slice h=>rw[a]at h;cases h
 | struct h=>rw[a]at h;cases h
theorem Sh.slice_inv{P:Program}{N:Nat}{t e:TypeId}{avs:List AV}(a:P.underlying t=some (.slice e))(h:Sh P N t avs):∃ es,avs=[.rs es]/\es.length<=N/\∀ c∈es,Sh P N e c:=by
 cases h with
 | int h hw=>rw[a]at h;cases h
 | bool b h=>rw[a]at h;cases h
 | str h=>rw[a]at h;cases h
 | slice h hl hes=>rw[a]at h;cases h;exact⟨_,rfl,hl,hes⟩
 | struct h=>rw[a]at h;cases h
theorem Sh.str_inv{P:Program}{N:Nat}{t:TypeId}{avs:List AV}(a:P.underlying t=some .string)(h:Sh P N t avs):∃ s,avs=[.sc (.string s)]/\s.size<=N:=by
 cases h with
 | int h hw=>rw[a]at h;cases h
 | bool b h=>rw[a]at h;cases h
 | str h hl=>exact⟨_,rfl,hl⟩
 | slice h=>rw[a]at h;cases h
 | struct h=>rw[a]at h;cases h
theorem Sh.struct_inv{P:Program}{N:Nat}{t:TypeId}{fs:Array Field}{avs:List AV}(a:P.underlying t=some (.struct fs))(h:Sh P N t avs) :
  avs.length=P.cellsOf t/\∀ f∈fs.toList,Sh P N f.type ((avs.drop f.offset).take (P.cellsOf f.type)):=by
 cases h with
 | int h hw=>rw[a]at h;cases h
 | bool b h=>rw[a]at h;cases h
 | str h=>rw[a]at h;cases h
 | slice h=>rw[a]at h;cases h
 | struct h hl hf=>rw[a]at h;cases h;exact⟨hl,hf⟩
end Go.Ab
namespace Go.Ab
open Go
variable [B6]
def rowsOf:AV->List (List AV)
 | .rs es=>es
 | _=>[]
def Y8:AV->Nat
 | .sc (.int _ n)=>n.toNat
 | _=>0
mutual
def AV.sub(θ:Nat->AV):AV->AV
 | .any=>.any
 | .sc v=>.sc v
 | .rs es=>.rs (dI0 θ es)
 | .rp cs=>.rp (Y9 θ cs)
 | .ms id size off len=>.ms id size off len
 | .mp id i j=>.mp id i j
 | .mm id=>.mm id
 | .it id=>.it id
 | .fn f a c=>.fn f (Y9 θ a) (Y9 θ c)
 | .agg cs=>.agg (Y9 θ cs)
 | .tup vs=>.tup (Y9 θ vs)
 | .sy i=>θ i
 | .ss id size i=>.ms id size 0 (rowsOf (θ i)).length
 | .xp id k off=>.mp id (Y8 (θ k)) off
 | .rm c=>.rm (c.sub θ)
def Y9(θ:Nat->AV):List AV->List AV
 | []=>[]
 | c::cs=>c.sub θ::Y9 θ cs
def dI0(θ:Nat->AV):List (List AV)->List (List AV)
 | []=>[]
 | c::cs=>Y9 θ c::dI0 θ cs
end
theorem G4(θ:Nat->AV):∀ l,Y9 θ l=l.map (AV.sub θ)
 | []=>by simp[Y9]
 | c::cs=>by simp[Y9,G4 θ cs]
theorem bm0(θ:Nat->AV):∀ l,dI0 θ l=l.map (bZ (AV.sub θ))
 | []=>by simp[dI0]
 | c::cs=>by simp[dI0,G4,bm0 θ cs]
section
variable (θ:Nat->AV)
@[simp] theorem wr0:AV.sub θ .any=.any:=by simp[AV.sub]
@[simp] theorem I0 (v:Value):AV.sub θ (.sc v)=.sc v:=by simp[AV.sub]
@[simp] theorem dv0 (es:List (List AV)):AV.sub θ (.rs es)=.rs (es.map (bZ (AV.sub θ))):=by simp[AV.sub,bm0]
@[simp] theorem nr0 (cs:List AV):AV.sub θ (.rp cs)=.rp (cs.map (AV.sub θ)):=by simp[AV.sub,G4]
@[simp] theorem cI0 (id size off len:Nat):AV.sub θ (.ms id size off len)=.ms id size off len:=by simp[AV.sub]
@[simp] theorem lo0 (id i j:Nat):AV.sub θ (.mp id i j)=.mp id i j:=by simp[AV.sub]
@[simp] theorem dz0 (id:Nat):AV.sub θ (.mm id)=.mm id:=by simp[AV.sub]
@[simp] theorem ry0 (id:Nat):AV.sub θ (.it id)=.it id:=by simp[AV.sub]
@[simp] theorem qs0 (f:Fn) (a c:List AV):AV.sub θ (.fn f a c)=.fn f (a.map (AV.sub θ)) (c.map (AV.sub θ)):=by simp[AV.sub,G4]
@[simp] theorem cK0 (cs:List AV):AV.sub θ (.agg cs)=.agg (cs.map (AV.sub θ)):=by simp[AV.sub,G4]
@[simp] theorem kt0 (cs:List AV):AV.sub θ (.tup cs)=.tup (cs.map (AV.sub θ)):=by simp[AV.sub,G4]
@[simp] theorem u9 (i:Nat):AV.sub θ (.sy i)=θ i:=by simp[AV.sub]
@[simp] theorem S3 (id size i:Nat):AV.sub θ (.ss id size i)=.ms id size 0 (rowsOf (θ i)).length:=by simp[AV.sub]
@[simp] theorem fB0 (θ:Nat->AV) (c:AV):(AV.rm c).sub θ=.rm (c.sub θ):=by simp only[AV.sub]
@[simp] theorem sub_xp (θ:Nat->AV) (id k off:Nat):(AV.xp id k off).sub θ=.mp id (Y8 (θ k)) off:=by simp only[AV.sub]
end
mutual
def AV.pur:AV->Bool
 | .sc _=>true
 | .rs es=>kA0 es
 | .rp cs=>kw0 cs
 | .rm c=>c.pur
 | .fn _ a c=>kw0 a&&kw0 c
 | .agg cs=>kw0 cs
 | .tup cs=>kw0 cs
 | _=>false
def kw0:List AV->Bool
 | []=>true
 | c::cs=>c.pur&&kw0 cs
def kA0:List (List AV)->Bool
 | []=>true
 | c::cs=>kw0 c&&kA0 cs
end
theorem Z1:∀ l,kw0 l=l.all AV.pur
 | []=>by simp[kw0]
 | c::cs=>by simp[kw0,Z1 cs]
theorem eX0:∀ l,kA0 l=l.all (List.all · AV.pur)
 | []=>by simp[kA0]
 | c::cs=>by simp[kA0,eX0 cs,Z1]
theorem U6{es:List (List AV)}(h:(AV.rs es).pur=true):∀ i (h:i<es.length) j (h':j<es[i].length),(es[i][j]).pur=true:=fun i hi j hj=>by simp only[AV.pur,eX0]at h;exact aj.1 (aj.1 h _ (aw hi)) _ (aw hj)
theorem O0{G G':j4}(n:∀ b o,G.imm b=some o->G'.imm b=some o){v:AV}{u:Value}(p:Rep G v u):v.pur=true->Rep G' v u:=by
 have d:∀ {b o:Nat} {v:Value},G.cell b o=some v->G'.cell b o=some v:=fun {b o v} hc=>by
  unfold j4.cell at *;cases k:G.imm b with
  | none=>simp[k]at hc
  | some x=>rw[n b x k];simpa[k]using hc
 induction p with
 | any v=>intro h;simp[AV.pur]at h
 | sc v=>intro _;exact .sc v
 | rsNil=>intro _;exact .rsNil
 | rs es a cap size val hs hc hlen himm _ e=>intro h;exact .rs es a cap size val hs hc hlen (fun i j h1 h2=>d (himm i j h1 h2)) (fun i j hi hj=>e i j hi hj (U6 h i hi j hj))
 | rp cs a val hs himm _ e=>intro h;simp only[AV.pur,Z1]at h;exact .rp cs a val hs (fun j hj=>d (himm j hj)) (fun j hj=>e j hj (aj.1 h _ (aw hj)))
 | ms=>intro h;simp[AV.pur]at h
 | msNil=>intro h;simp[AV.pur]at h
 | mp=>intro h;simp[AV.pur]at h
 | mm=>intro h;simp[AV.pur]at h
 | it=>intro h;simp[AV.pur]at h
 | rm rows b ents himm hlen iB0 _ e=>
  intro h;simp only[AV.pur]at h;refine .rm rows b ents (n _ _ himm) hlen iB0 (fun i hi c=>e i hi c ?_);have g:=U6 (es:=rows) (by simp only[AV.pur];exact h) i hi;generalize rows[i]=r at g;unfold D5;split
  ·exact g 1 (by simp)
  simp[AV.pur]
 | fn f first cap fv cv h1 h2 _ _ l m=>intro h;simp only[AV.pur,Z1,ab]at h;exact .fn f first cap fv cv h1 h2 (fun i hi c=>l i hi c (aj.1 h.1 _ (aw hi))) (fun i hi c=>m i hi c (aj.1 h.2 _ (aw hi)))
 | agg cs vs h1 _ e=>intro h;simp only[AV.pur,Z1]at h;exact .agg cs vs h1 (fun i hi c=>e i hi c (aj.1 h _ (aw hi)))
 | tup cs vs h1 _ e=>intro h;simp only[AV.pur,Z1]at h;exact .tup cs vs h1 (fun i hi c=>e i hi c (aj.1 h _ (aw hi)))
def aU0:AV->Prop
 | .sc (.int _ _)=>True
 | .sc (.bool _)=>True
 | .sc (.string _)=>True
 | .rs es=>(AV.rs es).pur=true
 | .rp cs=>(AV.rp cs).pur=true
 | .rm c=>(AV.rm c).pur=true
 | _=>False
def Fit(θ:Nat->AV):Prop:=∀ i,aU0 (θ i)
theorem aU0.cases{v:AV}(h:aU0 v):(∃ k n,v=.sc (.int k n))\/(∃ b,v=.sc (.bool b))\/(∃ s,v=.sc (.string s))\/(∃ es,v=.rs es)\/(∃ cs,v=.rp cs)\/∃ c,v=.rm c:=by
 unfold aU0 at h;split at h
 ·exact .inl ⟨_,_,rfl⟩
 ·exact .inr (.inl ⟨_,rfl⟩)
 ·exact .inr (.inr (.inl ⟨_,rfl⟩))
 ·exact .inr (.inr (.inr (.inl ⟨_,rfl⟩)))
 ·exact .inr (.inr (.inr (.inr (.inl ⟨_,rfl⟩))))
 ·exact .inr (.inr (.inr (.inr (.inr ⟨_,rfl⟩))))
 cases h
theorem aU0.pur{v:AV}(h:aU0 v):v.pur=true:=by
 unfold aU0 at h;split at h
 ·rfl
 ·rfl
 ·rfl
 ·exact h
 ·exact h
 ·exact h
 cases h
theorem aU0.cells{v:AV}(h:aU0 v):v.cells=some [v]:=by rcases h.cases with ⟨k,n,rfl⟩ | ⟨b,rfl⟩ | ⟨s,rfl⟩ | ⟨es,rfl⟩ | ⟨cs,rfl⟩ | ⟨c,rfl⟩<;>rfl
theorem aU0.one{v:AV}(h:aU0 v):v.one=true:=by rcases h.cases with ⟨k,n,rfl⟩ | ⟨b,rfl⟩ | ⟨s,rfl⟩ | ⟨es,rfl⟩ | ⟨cs,rfl⟩ | ⟨c,rfl⟩<;>rfl
theorem aU0.ids0{v:AV}(h:aU0 v):v.ids0=[]:=by rcases h.cases with ⟨k,n,rfl⟩ | ⟨b,rfl⟩ | ⟨s,rfl⟩ | ⟨es,rfl⟩ | ⟨cs,rfl⟩ | ⟨c,rfl⟩<;>rfl
section
variable {θ:Nat->AV} (hθ:Fit θ)
include hθ
theorem eT0{v:AV}{cs:List AV}(h:v.cells=some cs):(v.sub θ).cells=some (cs.map (AV.sub θ)):=by
 cases v with
 | sy i=>simp only[AV.cells,ah]at h;subst h;simpa using(hθ i).cells
 | ss id size i=>simp only[AV.cells,ah]at h;subst h;simp[AV.cells]
 | sc v=>cases v<;>simp[AV.cells]at h<;>subst h<;>simp[AV.cells]
 | any=>simp[AV.cells]at h
 | tup l=>simp[AV.cells]at h
 | _=>simp only[AV.cells,ah]at h;subst h;simp[AV.cells]
theorem one_sub{v:AV}(h:v.one=true):(v.sub θ).one=true:=by
 cases v with
 | sy i=>simpa using(hθ i).one
 | ss id size i=>simp[AV.one]
 | sc v=>cases v<;>simp[AV.one]at h<;>simp[AV.one]
 | any=>simp[AV.one]at h
 | tup l=>simp[AV.one]at h
 | agg l=>simp[AV.one]at h
 | _=>simp[AV.one]
end
def Tr.map{α β:Type}(f:α->β):Tr α->Tr β
 | .leaf=>.leaf
 | .node v l r=>.node (v.map f) (l.map f) (r.map f)
theorem Tr.map_get{α β:Type}(f:α->β):∀ (t:Tr α) (k:Nat),(t.map f).get k=(t.get k).map f
 | .leaf,k=>by simp[Tr.map,Tr.get_leaf]
 | .node v l r,k=>by
  cases k with
  | zero=>simp[Tr.map,Tr.get]
  | succ k=>
   simp only[Tr.map,Tr.get];split
   ·exact Tr.map_get f l _
   exact Tr.map_get f r _
theorem Tr.map_setF{α β:Type}(g:α->β)(v:Option α):∀ (f k:Nat) (t:Tr α),(Tr.setF v f k t).map g=Tr.setF (v.map g) f k (t.map g)
 | 0,k,t=>by cases k<;>cases t<;>simp[Tr.setF,Tr.map]
 | f+1,0,t=>by cases t<;>simp[Tr.setF,Tr.map]
 | f+1,k+1,.leaf=>by simp only[Tr.setF,Tr.map];split<;>simp[Tr.map,Tr.map_setF g v f (k / 2) .leaf]
 | f+1,k+1,.node x l r=>by simp only[Tr.setF,Tr.map];split<;>simp[Tr.map,Tr.map_setF g v f (k / 2)]
theorem Tr.map_set{α β:Type}(g:α->β)(t:Tr α)(k:Nat)(v:Option α):(t.set k v).map g=(t.map g).set k (v.map g):=Tr.map_setF g v k k t
def O8(c:AV):l6:=.map (aW0 (rowsOf c)) (y3 0 (rowsOf c)) (rowsOf c).length
abbrev O6:Nat:=1048576
def hid(r c:Nat):Nat:=(16*r+c)%O6
abbrev bt0:=List (Nat×TypeId×Nat)
def U4(cols:bt0)(j:Nat):Option (Nat×TypeId×Nat):=cols.find? (fun c=>aB c.1 j)
def bf0(cols:bt0)(j:Nat)(v:AV):AV:=match U4 cols j with
 | some _=>.rs []
 | none=>v
def J5(cols:bt0):Nat->List AV->List AV
 | _,[]=>[]
 | j,v::vs=>bf0 cols j v::J5 cols (j+1) vs
def isNil:AV->Bool
 | .sc (.slice none 0 0)=>true
 | _=>false
def vl0(cols:bt0)(rows:List (List AV)):Bool:=decide (16*rows.length<=O6)&&cols.all (fun c=>cm c.1 16)&&rows.all fun r=>cols.all fun c=>match r[c.1]? with
 | some v=>isNil v
 | none=>false
def aw0(cols:List (Nat×TypeId×Nat))(r j:Nat)(v:AV):AV:=match cols.find? (fun c=>aB c.1 j)with
 | some c=>.ms (hid r j) c.2.2 0 (rowsOf v).length
 | none=>v
def Z7(cols:List (Nat×TypeId×Nat))(r:Nat):Nat->List AV->List AV
 | _,[]=>[]
 | j,v::vs=>aw0 cols r j v::Z7 cols r (j+1) vs
def H6(cols:List (Nat×TypeId×Nat)):Nat->List (List AV)->List (List AV)
 | _,[]=>[]
 | r,x::xs=>Z7 cols r 0 x::H6 cols (r+1) xs
def T0(rows:List (List AV))(i off:Nat):Option AV->List (List AV)
 | none=>rows
 | some v=>match rows[i]? with
  | some cs=>rows.set i (cs.set off v)
  | none=>rows
def MI0:AV->ByteArray
 | .sc (.string s)=>s
 | _=>ByteArray.empty
def l6.sub(θ:Nat->AV):l6->l6
 | .row e s es=>.row e s (es.map (bZ (AV.sub θ)))
 | .map agg es c=>.map agg (es.map fun e=>(e.1,e.2.1.sub θ,e.2.2)) c
 | .siter s p=>.siter s p
 | .miter m a b c=>.miter m a b c
 | .xrow e s i=>.row e s (rowsOf (θ i))
 | .xmap c=>O8 (c.sub θ)
 | .xiter s p=>.siter (MI0 (s.sub θ)) (Y8 (p.sub θ))
 | .frow e z c cols k off v=>.row e z (T0 (H6 cols 0 (rowsOf (c.sub θ))) (Y8 (k.sub θ)) off (v.map (AV.sub θ)))
def j3.sub(θ:Nat->AV)(σ:j3):j3:={ next:=σ.next,tr:=σ.tr.map (l6.sub θ),low:=σ.low }
theorem j3.sub_objs(θ:Nat->AV)(σ:j3)(id:Nat):(σ.sub θ).objs id=(σ.objs id).map (l6.sub θ):=Tr.map_get _ _ _
theorem j3.sub_set(θ:Nat->AV)(σ:j3)(id:Nat)(o:l6):(σ.set id o).sub θ=(σ.sub θ).set id (o.sub θ):=by simp[j3.sub,j3.set,Tr.map_set]
theorem j3.sub_del(θ:Nat->AV)(σ:j3)(id:Nat):(σ.del id).sub θ=(σ.sub θ).del id:=by simp[j3.sub,j3.del,Tr.map_set]
@[simp] theorem j3.sub_next (θ:Nat->AV) (σ:j3):(σ.sub θ).next=σ.next:=rfl
@[simp] theorem j3.sub_low (θ:Nat->AV) (σ:j3):(σ.sub θ).low=σ.low:=rfl
def AS.sub(θ:Nat->AV)(s:AS):AS:={ n:=s.n,tr:=s.tr.map (AV.sub θ),st:=s.st.sub θ }
@[simp] theorem AS.sub_n (θ:Nat->AV) (s:AS):(s.sub θ).n=s.n:=rfl
@[simp] theorem AS.sub_st (θ:Nat->AV) (s:AS):(s.sub θ).st=s.st.sub θ:=rfl
theorem AS.sub_get(θ:Nat->AV)(s:AS)(t:Nat):(s.sub θ).get t=(s.get t).sub θ:=by simp only[AS.get,AS.sub,Tr.map_get];cases s.tr.get t<;>simp
theorem AS.sub_put(θ:Nat->AV)(s:AS)(σ:j3)(d:Option Tmp)(v:AV):({ s with st:=σ }.put d v).sub θ=({ s.sub θ with st:=σ.sub θ }.put d (v.sub θ)):=by cases d<;>simp[AS.put,AS.sub,Tr.map_set]
theorem gS0(θ:Nat->AV)(v:Value):(AV.ofValue v).sub θ=AV.ofValue v:=by cases v<;>simp[AV.ofValue]
theorem AS.sub_eval(θ:Nat->AV)(s:AS)(x:Operand):(s.sub θ).eval x=(s.eval x).sub θ:=by
 cases x with
 | tmp t=>exact AS.sub_get θ s t
 | const v=>exact(gS0 θ v).symm
 | global g=>simp[AS.eval]
 | func f=>simp[AS.eval]
theorem AS.sub_evalF(θ:Nat->AV)(s:AS):(s.sub θ).eval=fun x=>(s.eval x).sub θ:=funext (AS.sub_eval θ s)
theorem aA0(θ:Nat->AV){ops:Array Oper}{s:AS}{o:Oper}{b:Bool}(h:D0 ops s o=some b):D0 ops (s.sub θ) o=some b:=by
 unfold D0 at *;split at h
 ·exact h
 split at h
 ·split at h
  ·rename_i a
   simp only[AS.sub_n,a,Al,AS.sub_get];split at h
   ·rename_i c;rw[c];simpa using h
   ·rename_i c;rw[c];simpa using h
   cases h
  cases h
 cases h
end Go.Ab
namespace Go.Ab
open Go
variable [B6]
section
variable {θ:Nat->AV}
theorem mS0(l:List Value):(l.map AV.sc).map (AV.sub θ)=l.map AV.sc:=by simp
theorem bZ0(ti:TI):ti.zeroCells.map (AV.sub θ)=ti.zeroCells:=mS0 _
theorem dl0(ti:TI):ti.zeroAV.sub θ=ti.zeroAV:=gS0 θ _
theorem pA0{T:Tab}{σ σ':j3}{id:Nat}{t:TypeId}{v:AV}(h:fD0 T σ id t=some (v,σ')):fD0 T (σ.sub θ) id t=some (v.sub θ,σ'.sub θ):=by
 unfold fD0 at *;split at h
 ·cases h;simp[j3.sub_set,l6.sub,bZ0]
 cases h
theorem ah0{ti:TI}{cs:List AV}{j:Nat}{v:AV}(h:E2 ti cs j=some v):E2 ti (cs.map (AV.sub θ)) j=some (v.sub θ):=by
 unfold E2 at *;split at h
 ·rename_i ha
  rw[Af ha];split at h
  ·rename_i hl
   cases h;rw[Af (by simpa using hl)];simp[eO,ec]
  cases h
 rename_i ha;rw[Ae ha];simp[h]
theorem hP0{T:Tab}{σ:j3}{t:TypeId}{x v:AV}(h:U3 T σ t x=some v):U3 T (σ.sub θ) t (x.sub θ)=some (v.sub θ):=by
 unfold U3 at h;split at h
 ·split at h
  ·rename_i elem size es c
   split at h
   ·rename_i cs a
    split at h
    ·rename_i ti b
     simp only[U3,lo0,j3.sub_objs,c,ak,l6.sub,aS,a,b];exact ah0 h
    cases h
   cases h
  cases h
 ·split at h
  ·rename_i ti b
   simp only[U3,nr0,b];exact ah0 h
  cases h
 cases h
theorem oK0{T:Tab}{σ:j3}{t:TypeId}{x v:AV}(h:aD0 T σ t x=some v):aD0 T (σ.sub θ) t (x.sub θ)=some (v.sub θ):=by
 unfold aD0 at h;split at h
 ·rename_i g b
  rw[gE0 b,I0];simp only[aD0,cl0];unfold rZ0 at h ⊢;split at h
  ·split at h
   ·rename_i l hl
    have:=ah0 (θ:=θ) h;simp only[cY]at this;have e:l.map (AV.sub θ ∘ AV.sc)=l.map AV.sc:=bo fun a _=>I0 θ a;rw[e]at this;exact this
   cases h
  cases h
 rename_i b;have h1:=hP0 (θ:=θ) h;have h2:cl0 (x.sub θ)=none:=by
  unfold U3 at h;split at h
  ·rfl
  ·rw[nr0];rfl
  cases h
 simp only[aD0,h2];exact h1
theorem dN0{T:Tab}{s:TypeId}{x v:AV}{f:Nat}(h:M7 T s x f=some v):M7 T s (x.sub θ) f=some (v.sub θ):=by
 unfold M7 at h;split at h
 ·rename_i fields _ _ _ _ hs
  split at h
  ·rename_i fd hf
   split at h
   ·rename_i b a
    split at h
    ·cases h
    rename_i hz;split at h
    ·cases h
     simp only[M7,hs,hf,a,lo0];rw[Ae hz]
    ·split at h
     ·rename_i hl
      cases h;simp only[M7,hs,hf,a,nr0];rw[Ae hz];simp[hl,ec]
     cases h
    cases h
   cases h
  cases h
 cases h
theorem kQ0{T:Tab}{t:TypeId}{cs:List AV}{off:Nat}{v:AV}(h:jV0 T t cs off=some v):jV0 T t (cs.map (AV.sub θ)) off=some (v.sub θ):=by
 unfold jV0 at *;split at h
 ·rename_i ti a;exact ah0 h
 cases h
theorem pG0{T:Tab}{s:TypeId}{x v:AV}{f:Nat}(h:if0 T s x f=some v):if0 T s (x.sub θ) f=some (v.sub θ):=by
 unfold if0 at h;split at h
 ·rename_i fields _ _ _ _ cs hs
  split at h
  ·rename_i fd hf
   simp only[if0,hs,cK0,hf];exact kQ0 h
  cases h
 cases h
theorem iy0{T:Tab}{t:TypeId}{x ix v:AV}(h:D4 T t x ix=some v):D4 T t (x.sub θ) (ix.sub θ)=some (v.sub θ):=by
 unfold D4 at h;split at h
 ·rename_i elem _ _ _ _ k n b
  split at h
  ·rename_i d he
   split at h
   ·rename_i id size off len
    split at h
    ·rename_i a
     cases h;simp[D4,b,he,a]
    cases h
   ·rename_i es
    split at h
    ·rename_i a
     split at h
     ·rename_i cs c
      split at h
      ·rename_i hl
       cases h;simp[D4,b,he,a,aS,c,hl]
      cases h
     cases h
    cases h
   cases h
  cases h
 ·rename_i len elem _ _ _ _ k n b
  split at h
  ·rename_i d he
   split at h
   ·rename_i a
    split at h
    ·cases h
     simp[D4,b,he,a]
    ·split at h
     ·rename_i hl
      cases h;simp[D4,b,he,a,hl,ec]
     cases h
    cases h
   cases h
  cases h
 cases h
theorem ps0{T:Tab}{t:TypeId}{x ix v:AV}(h:cm0 T t x ix=some v):cm0 T t (x.sub θ) (ix.sub θ)=some (v.sub θ):=by
 unfold cm0 at h;split at h
 ·rename_i len elem _ _ _ _ cs k n a
  split at h
  ·rename_i e he
   split at h
   ·rename_i c
    simp only[cm0,a,he,cK0,I0];rw[Af c];exact kQ0 h
   cases h
  cases h
 ·rename_i a
  split at h
  ·rename_i c
   split at h
   ·rename_i b d
    cases h;simp[cm0,a,c,d]
   cases h
  cases h
 cases h
theorem X5{len:Nat}{x:Option AV}{d n:Nat}(h:bound len x d=some n):bound len (x.map (AV.sub θ)) d=some n:=by
 unfold bound at h;split at h
 ·simpa[bound]using h
 ·split at h
  ·rename_i a;simpa[bound,a]using h
  cases h
 cases h
theorem oQ0{T:Tab}{t:TypeId}{x v:AV}{lo hi mx:Option AV}(h:bx0 T t x lo hi mx=some v):bx0 T t (x.sub θ) (lo.map (AV.sub θ)) (hi.map (AV.sub θ)) (mx.map (AV.sub θ))=some (v.sub θ):=by
 unfold bx0 at h;split at h
 ·rename_i elem _ _ _ _ e
  split at h
  ·rename_i i id size off len he
   split at h
   ·rename_i hs
    split at h
    ·rename_i g a
     split at h
     ·rename_i l b
      cases h;simp[bx0,e,he,hs,X5 a,X5 b]
     cases h
    cases h
   cases h
  ·rename_i i es he
   split at h
   ·rename_i g a
    split at h
    ·rename_i l b
     split at h
     ·rename_i f
      cases h;have d:((es.map (bZ (AV.sub θ))).all fun c=>c.length==i.size)=true:=by rw[dR];simpa[cF]using f
      simp only[bx0,Option.map_none,e,he,dv0,aD,X5 a,X5 b];rw[Af d];simp[eO,ec]
     cases h
    cases h
   cases h
  ·rename_i he
   split at h
   ·rename_i g a
    split at h
    ·rename_i l b
     cases h;simp[bx0,e,he,X5 a,X5 b]
    cases h
   cases h
  cases h
 ·rename_i e
  split at h
  ·rename_i s
   split at h
   ·rename_i g a
    split at h
    ·rename_i l b
     cases h;simp[bx0,e,X5 a,X5 b]
    cases h
   cases h
  cases h
 cases h
theorem gA0:∀ {cs:List AV} {l:List Int},AV.i64s cs=some l->cs.map (AV.sub θ)=cs
 | [],_,_=>rfl
 | c::cs,l,h=>by
  unfold AV.i64s at h;split at h
  ·rename_i e;cases e
  ·rename_i n a e
   cases e;split at h
   ·rename_i b hl
    simp[gA0 hl]
   cases h
  cases h
theorem sf0{x:AV}{b:Bool}(h:x.isNil=some b):(x.sub θ).isNil=some b:=by
 unfold AV.isNil at h;split at h
 ·simpa[AV.isNil]using h
 ·simpa[AV.isNil]using h
 ·simpa[AV.isNil]using h
 cases h
theorem tx0(T:Tab)(op:BinOp)(t:TypeId)(z:AV):is0 T op t z (.sc (.slice none 0 0))=(match T t,z.isNil with
  | some { und:=.slice _,.. },some b=>match op with
   | .eql=>some (.sc (.bool b))
   | .neq=>some (.sc (.bool !b))
   | _=>none
  | _,_=>none):=by cases z<;>first | rfl | (rename_i v;cases v<;>rfl)
theorem tu0{T:Tab}{op:BinOp}{t:TypeId}{x y v:AV}(h:is0 T op t x y=some v):is0 T op t (x.sub θ) (y.sub θ)=some (v.sub θ):=by
 have c:=h;unfold is0 at h;split at h
 ·split at h
  ·rename_i e _ _ _ _ b f g
   have d:=sf0 (θ:=θ) g;rw[I0,tx0,f,d];simp only;split at h
   ·cases h;rfl
   ·cases h;rfl
   cases h
  cases h
 ·rename_i a b _
  rw[I0,I0,c];split at h
  ·split at h
   ·cases h;rfl
   ·cases h;rfl
   cases h
  cases h
 ·rename_i a b i j
  rw[I0,I0,c];split at h
  ·cases h;rfl
  cases h
 ·rename_i cs k
  split at h
  ·rename_i as bs ti h1 h2 l
   rw[cK0,cK0,gA0 h1,gA0 h2,c];split at h
   ·split at h
    ·cases h;rfl
    ·cases h;rfl
    cases h
   cases h
  cases h
 cases h
theorem vL0{op:UnOp}{x v:AV}(h:aUn op x=some v):aUn op (x.sub θ)=some (v.sub θ):=by
 unfold aUn at h;split at h
 ·cases h;simp[aUn]
 ·cases h;simp[aUn]
 cases h
theorem qA0{T:Tab}{s d:TypeId}{x v:AV}(h:kx0 T s d x=some v):kx0 T s d (x.sub θ)=some (v.sub θ):=by
 unfold kx0 at h;split at h
 ·rename_i h1 h2
  cases h;simp[kx0,h1,h2]
 cases h
theorem lm0{x v:AV}{i:Nat}(h:ca0 x i=some v):ca0 (x.sub θ) i=some (v.sub θ):=by
 unfold ca0 at h;split at h
 ·simp[ca0,h]
 cases h
theorem iQ0(cs:List AV)(j:Nat)(vs:List AV):(N5 cs j vs).map (AV.sub θ)=N5 (cs.map (AV.sub θ)) j (vs.map (AV.sub θ)):=by simp[N5,eO,ec]
variable (hθ:Fit θ)
include hθ
theorem te0{σ σ':j3}{id:Nat}{t:TypeId}{x v:AV}(h:tk0 σ id t x=some (v,σ')):tk0 (σ.sub θ) id t (x.sub θ)=some (v.sub θ,σ'.sub θ):=by
 unfold tk0 at h;split at h
 ·rename_i cs hc
  cases h;simp[tk0,eT0 hθ hc,j3.sub_set,l6.sub]
 cases h
theorem ic0{vs:List AV}(h:vs.all AV.one=true):(vs.map (AV.sub θ)).all AV.one=true:=by rw[dR,aj];intro v hv;exact one_sub hθ (aj.1 h v hv)
theorem px0{T:Tab}{σ σ':j3}{t:TypeId}{x v:AV}(h:U7 T σ t x v=some σ'):U7 T (σ.sub θ) t (x.sub θ) (v.sub θ)=some (σ'.sub θ):=by
 unfold U7 at h;split at h
 ·rename_i id i j vs ti hc c
  split at h
  ·rename_i elem size es d
   split at h
   ·rename_i cs b
    split at h
    ·rename_i a
     cases h;simp only[U7,lo0,eT0 hθ hc,c,j3.sub_objs,d,ak,l6.sub,aS,b,aD];rw[Af ⟨a.1,a.2.1,ic0 hθ a.2.2⟩];rw[j3.sub_set];simp[l6.sub,iQ0,kG]
    cases h
   cases h
  cases h
 cases h
theorem gF0{place:Nat->Option (Nat×Nat)}:∀ {parts:List (Nat×AV)} {cells cs:List AV},eD0 place cells parts=some cs->eD0 place (cells.map (AV.sub θ)) (parts.map fun p=>(p.1,p.2.sub θ))=some (cs.map (AV.sub θ))
 | [],cells,cs,h=>by simp only[eD0,ah]at h;subst h;simp[eD0]
 | (i,v)::rest,cells,cs,h=>by
  unfold eD0 at h;split at h
  ·rename_i off size vs hp hv
   split at h
   ·rename_i hc
    simp only[az,eD0,hp,eT0 hθ hv,aD];rw[Af hc];have:=gF0 h;rwa [iQ0]at this
   cases h
  cases h
theorem fW0{size:Nat}:∀ {parts:List (Nat×AV)} {es rs:List (List AV)},Q4 size es parts=some rs->Q4 size (es.map (bZ (AV.sub θ))) (parts.map fun p=>(p.1,p.2.sub θ))=some (rs.map (bZ (AV.sub θ)))
 | [],es,rs,h=>by simp only[Q4,ah]at h;subst h;simp[Q4]
 | (i,v)::rest,es,rs,h=>by
  unfold Q4 at h;split at h
  ·rename_i vs hv
   split at h
   ·rename_i hc
    simp only[az,Q4,eT0 hθ hv,aD];rw[Af hc];have:=fW0 h;rwa [kG]at this
   cases h
  cases h
theorem pj0{T:Tab}{t:TypeId}{parts:List (Nat×AV)}{v:AV}(h:fX0 T t parts=some v):fX0 T t (parts.map fun p=>(p.1,p.2.sub θ))=some (v.sub θ):=by
 unfold fX0 at h;split at h
 ·rename_i fields _ z _ _ a
  split at h
  ·rename_i l hl
   split at h
   ·rename_i cs hc
    cases h;have:=gF0 hθ hc;rw[mS0]at this;simp only[fX0,a,hl,this,cK0]
   cases h
  cases h
 ·rename_i n elem _ z _ _ a
  split at h
  ·rename_i b he
   split at h
   ·rename_i cs hc
    cases h;have:=gF0 hθ hc;rw[mS0]at this;simp only[fX0,a,he,this,cK0]
   cases h
  cases h
 cases h
theorem hq0{T:Tab}{σ σ':j3}{id:Nat}{t:TypeId}{len:Nat}{parts:List (Nat×AV)}{v:AV}(h:F9 T σ id t len parts=some (v,σ')) :
  F9 T (σ.sub θ) id t len (parts.map fun p=>(p.1,p.2.sub θ))=some (v.sub θ,σ'.sub θ):=by
 unfold F9 at h;split at h
 ·rename_i elem _ _ _ _ a
  split at h
  ·rename_i b he
   split at h
   ·rename_i hc
    split at h
    ·rename_i es hes
     cases h;have:=fW0 hθ hes;rw[List.map_replicate,bZ0]at this;simp only[F9,a,he,hc,and_self,Al,this,cI0,j3.sub_set,l6.sub]
    cases h
   cases h
  cases h
 cases h
omit hθ in
theorem ru0{σ:j3}{x:AV}{es:List (List AV)}(h:P6 σ x=some es):P6 (σ.sub θ) (x.sub θ)=some (es.map (bZ (AV.sub θ))):=by
 unfold P6 at h;split at h
 ·split at h
  ·rename_i a
   split at h
   ·rename_i hl
    cases h;simp[P6,j3.sub_objs,a,l6.sub,hl,eO,ec]
   cases h
  cases h
 ·cases h;simp[P6]
 ·cases h;simp[P6]
 cases h
omit hθ in
theorem pE0{σ:j3}{elem:TypeId}{size:Nat}{x:AV}{r:Option Nat×List (List AV)}(h:R8 σ elem size x=some r):R8 (σ.sub θ) elem size (x.sub θ)=some (r.1,r.2.map (bZ (AV.sub θ))):=by
 unfold R8 at h;split at h
 ·split at h
  ·rename_i a
   split at h
   ·rename_i hc
    cases h;simp only[cI0,R8,j3.sub_objs,a,ak,l6.sub,aD];rw[Af hc]
   cases h
  cases h
 ·cases h;simp[R8]
 cases h
theorem nd0{T:Tab}{σ σ':j3}{id:Nat}{sT xT:TypeId}{s x v:AV}(h:N8 T σ id sT xT s x=some (v,σ')):N8 T (σ.sub θ) id sT xT (s.sub θ) (x.sub θ)=some (v.sub θ,σ'.sub θ):=by
 unfold N8 at h;split at h
 ·rename_i elem _ _ _ _ j e f
  split at h
  ·rename_i g he
   split at h
   ·rename_i b es xs i hs
    split at h
    ·rename_i hc
     cases h;have a:((xs.map (bZ (AV.sub θ))).all fun c=>c.length==g.size&&c.all AV.one)=true:=by rw[dR,aj];intro c d;have:=aj.1 hc.2.1 c d;simp only[Function.comp,aD,ab]at this ⊢;exact⟨this.1,ic0 hθ this.2⟩
     simp only[N8,e,f,he,pE0 i,ru0 hs,aD];rw[Af ⟨hc.1,a,hc.2.2⟩];cases b<;>simp[j3.sub_set,j3.sub_del,l6.sub]
    cases h
   cases h
  cases h
 cases h
omit hθ in
theorem ku0{σ:j3}{s:AV}{elem:TypeId}{size:Nat}{r:Option Nat×List (List AV)}(a:R8 (y5 σ s) elem size s=some r):y5 (σ.sub θ) (s.sub θ)=(y5 σ s).sub θ:=by
 unfold R8 at a;split at a
 ·rename_i id z len
  simp only[y5,cI0,j3.sub_objs];cases b:σ.objs id with
  | none=>simp
  | some o=>
   cases o with
   | row e d es=>
    simp only[ak,l6.sub,aD];split
    ·rw[j3.sub_set];simp[l6.sub,eO]
    rfl
   | xrow e d i=>simp only[y5,b]at a;cases a
   | xmap c=>simp only[y5,b]at a;cases a
   | frow=>simp only[y5,b]at a;cases a
   | _=>simp[l6.sub]
 ·simp[y5]
 cases a
omit hθ in
theorem pk0{T:Tab}{σ σ':j3}{id:Nat}{elem:TypeId}{s x v:AV}(h:dJ0 T σ id elem s x=some (v,σ')):dJ0 T (σ.sub θ) id elem (s.sub θ) (x.sub θ)=some (v.sub θ,σ'.sub θ):=by
 unfold dJ0 at h;split at h
 ·rename_i k n a he
  split at h
  ·rename_i hc
   cases h;simp only[dJ0,I0,he];rw[Af hc];simp[j3.sub_set,l6.sub,bZ0]
  cases h
 cases h
theorem kL0{T:Tab}{σ σ':j3}{id:Nat}{sT xT:TypeId}{s x v:AV}(h:E4 T σ id sT xT s x=some (v,σ')):E4 T (σ.sub θ) id sT xT (s.sub θ) (x.sub θ)=some (v.sub θ,σ'.sub θ):=by
 unfold E4 at h ⊢;split at h
 ·exact pk0 h
 have hk:=nd0 hθ h;unfold N8 at h;split at h
 ·split at h
  ·split at h
   ·rename_i a _
    rwa [ku0 a]
   cases h
  cases h
 cases h
omit hθ in
theorem tb0{T:Tab}{σ:j3}{t:TypeId}{x v:AV}(h:fZ0 T σ t x=some v):fZ0 T (σ.sub θ) t (x.sub θ)=some (v.sub θ):=by
 unfold fZ0 at h;split at h
 ·rename_i ti a
  split at h
  ·rename_i hu;cases h;simp[fZ0,a,hu]
  ·rename_i hu;cases h;simp[fZ0,a,hu]
  ·rename_i hu;cases h;simp[fZ0,a,hu]
  ·rename_i hu;cases h;simp[fZ0,a,hu]
  ·rename_i n e _ hu;cases h;simp[fZ0,a,hu]
  ·rename_i hu
   split at h
   ·rename_i b;cases h;simp[fZ0,a,hu,j3.sub_objs,b,l6.sub]
   cases h
  cases h
 cases h
omit hθ in
theorem jb0(k:IntKind):∀ {l:List AV} {a:Int} {v:Value},eg0 k a l=some v->l.map (AV.sub θ)=l
 | [],_,_,_=>rfl
 | c::l,a,v,h=>by
  unfold eg0 at h;split at h
  ·rename_i e;cases e
  ·rename_i e;cases e;simp[jb0 k h]
  cases h
omit hθ in
theorem jf0(k:IntKind):∀ {l:List AV} {a:Int} {v:Value},eS0 k a l=some v->l.map (AV.sub θ)=l
 | [],_,_,_=>rfl
 | c::l,a,v,h=>by
  unfold eS0 at h;split at h
  ·rename_i e;cases e
  ·rename_i e;cases e;simp[jf0 k h]
  cases h
omit hθ in
theorem ta0{l:List AV}{v:Value}(h:uy0 l=some v):l.map (AV.sub θ)=l:=by
 unfold uy0 at h;split at h
 ·simp[jb0 _ h]
 cases h
omit hθ in
theorem tp0{l:List AV}{v:Value}(h:uk0 l=some v):l.map (AV.sub θ)=l:=by
 unfold uk0 at h;split at h
 ·simp[jf0 _ h]
 cases h
omit hθ in
theorem sW0{T:Tab}{t:TypeId}{x v:AV}(h:vK0 T t x=some v):vK0 T t (x.sub θ)=some (v.sub θ):=by
 unfold vK0 at h;split at h
 ·rename_i a;cases h;simp[vK0,a]
 cases h
omit hθ in
theorem fj0{x:AV}{k:Bool×List Int}(h:x.key=some k):(x.sub θ).key=some k:=by
 unfold AV.key at h;split at h
 ·simpa[AV.key]using h
 ·split at h
  ·rename_i cs l hl
   rw[cK0,gA0 hl];simpa[AV.key,hl]using h
  cases h
 cases h
omit hθ in
theorem cM0(agg:Bool)(l:List Int):∀ (es:List (List Int×AV×Nat)) (i:Nat),I7 agg l (es.map fun e=>(e.1,e.2.1.sub θ,e.2.2)) i=(I7 agg l es i).map fun p=>(p.1,p.2.sub θ)
 | [],i=>rfl
 | e::es,i=>by
  simp only[az,I7];split
  ·rfl
  exact cM0 agg l es (i+1)
omit hθ in
theorem di0(T:Tab)(a:TypeId)(b:Bool)(l:List Int)(es:List (List Int×AV×Nat)):U8 T a b l (es.map fun e=>(e.1,e.2.1.sub θ,e.2.2))=U8 T a b l es:=by simp only[U8,dR,cF]
omit hθ in
theorem lg0{r:List AV}(h:Q2 r=true):Q2 (r.map (AV.sub θ))=true/\∀ j,D5 j (r.map (AV.sub θ))=((D5 j r).1,(D5 j r).2.1.sub θ,(D5 j r).2.2):=by
 unfold Q2 at h;split at h
 ·rename_i k v
  cases hk:k.key with
  | none=>simp[hk]at h
  | some x=>simp[Q2,D5,fj0 hk,hk]
 cases h
omit hθ in
theorem eA0:∀ {rows:List (List AV)} (j:Nat),rows.all Q2=true->(rows.map (bZ (AV.sub θ))).all Q2=true/\y3 j (rows.map (bZ (AV.sub θ)))=(y3 j rows).map fun e=>(e.1,e.2.1.sub θ,e.2.2)
 | [],_,_=>by simp[y3]
 | r::rs,j,h=>by simp only[bU,ab]at h;obtain⟨h1,h2⟩:=lg0 (θ:=θ) h.1;obtain⟨a,b⟩:=eA0 (rows:=rs) (j+1) h.2;simp only[az,bU,ab,y3,h2,b];exact⟨⟨h1,a⟩,trivial⟩
omit hθ in
theorem rd0{rows:List (List AV)}(h:rows.all Q2=true):aW0 (rows.map (bZ (AV.sub θ)))=aW0 rows:=by
 cases rows with
 | nil=>rfl
 | cons r rs=>
  simp only[bU,ab]at h;have h1:=h.1;unfold Q2 at h1;split at h1
  ·rename_i k v
   cases hk:k.key with
   | none=>simp[hk]at h1
   | some x=>simp[aW0,fj0 hk,hk]
  cases h1
omit hθ in
theorem mu0{T:Tab}{σ:j3}{t:TypeId}{x ix v:AV}{ok:Bool}(h:G7 T σ t x ix ok=some v):G7 T (σ.sub θ) t (x.sub θ) (ix.sub θ) ok=some (v.sub θ):=by
 unfold G7 at h;split at h
 ·rename_i d e _ _ _ _ b l a hk
  split at h
  ·rename_i f he
   split at h
   ·split at h
    ·rename_i agg es _ c
     split at h
     ·rename_i hc
      cases h;simp only[G7,a,fj0 hk,he,dz0,j3.sub_objs,c,ak,l6.sub,di0,fF,cM0];rw[Af hc];cases I7 b l es 0<;>cases ok<;>simp[dl0]
     cases h
    cases h
   ·rename_i rows
    split at h
    ·rename_i hc
     cases h;obtain⟨q1,q2⟩:=eA0 (θ:=θ) 0 hc.2.2;simp only[G7,a,fj0 hk,he,fB0,dv0,q1,q2,rd0 hc.2.2,di0,fF,cM0];rw[Af ⟨hc.1,hc.2.1,trivial⟩];cases I7 b l (y3 0 rows) 0<;>cases ok<;>simp[dl0]
    cases h
   cases h
  cases h
 cases h
omit hθ in
theorem tE0(agg:Bool)(l:List Int)(v:AV)(clock:Nat)(es:List (List Int×AV×Nat)) :
  mput agg l (v.sub θ) clock (es.map fun e=>(e.1,e.2.1.sub θ,e.2.2))=((mput agg l v clock es).1.map (fun e=>(e.1,e.2.1.sub θ,e.2.2)),(mput agg l v clock es).2):=by
 simp only[mput,cM0];cases I7 agg l es 0 with
 | none=>simp
 | some p=>
  simp only[ak,cy,and_true];apply h_;intro j;simp only[iT,aS];cases es[j]? with
  | none=>simp
  | some e=>simp only[ak];split<;>simp
omit hθ in
theorem oy0(n:Int):∀ (es:List (List Int×AV×Nat)) (i:Nat),uI0 n (es.map fun e=>(e.1,e.2.1.sub θ,e.2.2)) i=uI0 n es i
 | [],_=>rfl
 | e::es,i=>by simp only[az,uI0];rw[oy0 n es]
omit hθ in
theorem jC0{T:Tab}{σ σ':j3}{t:TypeId}{x ix v:AV}(h:N4 T σ t x ix=some (v,σ')):N4 T (σ.sub θ) t (x.sub θ) (ix.sub θ)=some (v.sub θ,σ'.sub θ):=by
 unfold N4 at h;split at h
 ·rename_i g j _ _ _ _ b l d hk
  split at h
  ·rename_i k a
   split at h
   ·split at h
    ·rename_i agg es clock e
     simp only[N4,d,fj0 hk,a,dz0,j3.sub_objs,e,ak,l6.sub,di0,fF,cM0];split at h
     ·rename_i hc
      cases h;rw[Af hc];simp[j3.sub_set,l6.sub,dl0]
     rename_i f;rw[Ae f];split at h
     ·rename_i hc
      rw[Af hc];split at h
      ·rename_i i c hm
       cases h;simp[hm,fX,cF]
      rename_i hm;cases h;simp[hm,j3.sub_set,l6.sub,dl0]
     cases h
    cases h
   cases h
  cases h
 cases h
omit hθ in
theorem gW0{σ σ':j3}{x st v:AV}(h:G9 σ x st v=some σ'):G9 (σ.sub θ) (x.sub θ) (st.sub θ) (v.sub θ)=some (σ'.sub θ):=by
 unfold G9 at h;split at h
 ·split at h
  ·rename_i agg es clock a
   split at h
   ·rename_i i hi
    cases h;simp only[G9,dz0,I0,j3.sub_objs,a,ak,l6.sub,oy0,hi,j3.sub_set];congr 3;apply h_;intro j;simp only[iT,aS];cases es[j]? with
    | none=>simp
    | some e=>simp only[ak];split<;>rfl
   cases h
  cases h
 cases h
omit hθ in
theorem dH0{T:Tab}{σ σ':j3}{t:TypeId}{x ix v:AV}(h:C1 T σ t x ix v=some σ'):C1 T (σ.sub θ) t (x.sub θ) (ix.sub θ) (v.sub θ)=some (σ'.sub θ):=by
 unfold C1 at h;split at h
 ·rename_i e f _ _ _ _ b l a hk
  split at h
  ·split at h
   ·rename_i agg es clock c
    simp only[C1,a,fj0 hk,dz0,j3.sub_objs,c,ak,l6.sub,di0,fF];split at h
    ·rename_i hc
     cases h;rw[Af hc];simp[j3.sub_set,l6.sub]
    rename_i d;rw[Ae d];split at h
    ·rename_i hc
     cases h;rw[Af hc];simp[j3.sub_set,l6.sub,tE0]
    cases h
   cases h
  cases h
 cases h
theorem kW0{T:Tab}{σ σ':j3}{id:Nat}{b:Builtin}{ts:Array TypeId}{args:List AV}{v:AV}(h:F2 T σ id b ts args=some (v,σ')):F2 T (σ.sub θ) id b ts (args.map (AV.sub θ))=some (v.sub θ,σ'.sub θ):=by
 unfold F2 at h;split at h
 ·rename_i t x d
  split at h
  ·rename_i u hu;cases h;simp[F2,d,tb0 hu]
  cases h
 ·rename_i s x a c d
  have:=kL0 hθ h;simp only[F2,d,az,cB];exact this
 ·rename_i t x d
  split at h
  ·rename_i u hu;cases h;simp[F2,d,sW0 hu]
  cases h
 ·rename_i l
  split at h
  ·rename_i u hu;cases h;simp[F2,ta0 hu,hu]
  cases h
 ·rename_i l
  split at h
  ·rename_i u hu;cases h;simp[F2,tp0 hu,hu]
  cases h
 cases h
theorem st0{T:Tab}{g:Operand->AV}{σ σ':j3}{id:Nat}{op:Op}{v:AV}(h:aop T g σ id op=some (v,σ')):aop T (fun x=>(g x).sub θ) (σ.sub θ) id op=some (v.sub θ,σ'.sub θ):=by
 cases op with
 | move x=>cases h;rfl
 | assign x=>cases h;rfl
 | pick c a b=>
  simp only[aop]at h ⊢;split at h
  ·rename_i t hc;cases h;simp only[hc,I0];cases t<;>rfl
  cases h
 | alloc t=>exact pA0 h
 | box t x=>exact te0 hθ h
 | build t ps=>
  simp only[aop]at h ⊢;split at h
  ·rename_i u hu
   cases h;have:=pj0 hθ hu;simp only[cY,cF]at this;rw[this]
  cases h
 | buildSlice t len ps=>simp only[aop]at h ⊢;have:=hq0 hθ h;simp only[cY,cF]at this;exact this
 | load t x=>
  simp only[aop]at h ⊢;split at h
  ·rename_i u hu;cases h;rw[oK0 hu]
  cases h
 | store t a x=>
  simp only[aop]at h ⊢;split at h
  ·rename_i u hu;cases h;rw[px0 hθ hu];simp
  cases h
 | nilCheck x=>
  simp only[aop]at h ⊢;split at h
  ·rename_i e;cases h;simp[e]
  ·rename_i e;cases h;simp[e]
  ·rename_i e;cases h;simp[e]
  cases h
 | binOp o t x y p=>
  simp only[aop]at h ⊢;split at h
  ·rename_i u hu;cases h;rw[tu0 hu]
  cases h
 | unOp o t x=>
  simp only[aop]at h ⊢;split at h
  ·rename_i u hu;cases h;rw[vL0 hu]
  cases h
 | convert s d x=>
  simp only[aop]at h ⊢;split at h
  ·rename_i u hu;cases h;rw[qA0 hu]
  cases h
 | makeFunc f a c=>simp only[aop]at h ⊢;cases h;simp[cF]
 | makeMap t n=>
  cases n with
  | none=>simp only[aop]at h ⊢;cases h;simp[j3.sub_set,l6.sub]
  | some n=>simp[aop]at h
 | slice t x lo hi mx=>
  simp only[aop]at h ⊢;split at h
  ·rename_i u hu
   cases h;have:=oQ0 (θ:=θ) hu;simp only[fX,cF]at this;rw[this]
  cases h
 | fieldAddr t x f=>
  simp only[aop]at h ⊢;split at h
  ·rename_i u hu;cases h;rw[dN0 hu]
  cases h
 | field t x f=>
  simp only[aop]at h ⊢;split at h
  ·rename_i u hu;cases h;rw[pG0 hu]
  cases h
 | indexAddr t x i=>
  simp only[aop]at h ⊢;split at h
  ·rename_i u hu;cases h;rw[iy0 hu]
  cases h
 | index t x i=>
  simp only[aop]at h ⊢;split at h
  ·rename_i u hu;cases h;rw[ps0 hu]
  cases h
 | lookup t x i ok=>
  simp only[aop]at h ⊢;split at h
  ·rename_i u hu;cases h;rw[mu0 hu]
  cases h
 | mapUpdate t m k x=>
  simp only[aop]at h ⊢;split at h
  ·rename_i u hu;cases h;rw[dH0 hu];simp
  cases h
 | insert t m k x=>
  simp only[aop]at h ⊢;split at h
  ·rename_i u hu;cases h;rw[dH0 hu];simp
  cases h
 | mapEntry t m k=>simp only[aop]at h ⊢;exact jC0 h
 | entryStore t m s x=>
  simp only[aop]at h ⊢;split at h
  ·rename_i u hu;cases h;rw[gW0 hu];simp
  cases h
 | extract x i=>
  simp only[aop]at h ⊢;split at h
  ·rename_i u hu;cases h;rw[lm0 hu]
  cases h
 | call c=>
  obtain⟨callee,args,ts⟩:=c;cases callee with
  | builtin b=>simp only[aop]at h ⊢;have:=kW0 hθ h;simpa[cY,cF]using this
  | value f=>simp[aop]at h
  | invoke r m=>simp[aop]at h
 | _=>simp[aop]at h
end
end Go.Ab
namespace Go.Ab
open Go
variable [B6]
structure S8(n:Nat)(G:j4)(σ:j3)(w:World)(G':j4)(σ':j3)(w':World):Prop where
 w0:G'.w0=G.w0
 imm:∀ b o,G.imm b=some o->G'.imm b=some o
 pl:∀ i,i<n->G'.pl i=G.pl i
 nx:n<=σ'.next
 fr:Fr G σ w G' σ' w'
theorem S8.refl{n:Nat}(G:j4)(σ:j3)(w:World)(a:n<=σ.next):S8 n G σ w G σ w:=⟨rfl,fun _ _ h=>h,fun _ _=>rfl,a,.refl G σ w⟩
theorem S8.trans{n m:Nat}{e f g:j4}{σ1 a c:j3}{j l p:World}(h:S8 n e σ1 j f a l)(k:S8 m f a l g c p)(d:n<=m):S8 n e σ1 j g c p :=⟨k.w0.trans h.w0,fun b o x=>k.imm b o (h.imm b o x),fun i hi=>(k.pl i (by omega)).trans (h.pl i hi),bC d k.nx,h.fr.trans k.fr⟩
theorem fA0.toB{m n:Nat}{G:j4}{σ:j3}{w:World}{G':j4}{σ':j3}{w':World}(h:fA0 m G σ w G' σ' w')(b:n<=m)(a:n<=σ.next):S8 n G σ w G' σ' w' :=
 ⟨h.le.w0,h.le.imm,fun i hi=>by
  cases hp:G.pl i with
  | none=>exact h.keeps i (by omega) hp
  | some p=>exact h.le.pl i p hp,bC a h.next,h.fr⟩
theorem S8.le{n:Nat}{G:j4}{σ σ0:j3}{w w0:World}{G':j4}{σ':j3}{w':World}(h:S8 n G σ w G' σ' w')(a:Rel G σ0 w0)(b:σ0.next<=n):G.le G' :=⟨h.w0,h.imm,fun i p hp=>by rw[h.pl i (by have:=a.id_lt hp;omega)];exact hp⟩
def BWp(P:Program)(n:Nat)(c:Code)(Q:Exit->AS->Prop)(s:AS):Prop :=n<=s.st.next->∀ G a w,W6 G s a w->c.wp P (fun e a' w'=>∃ s' G',S8 n G s.st w G' s'.st w'/\W6 G' s' a' w'/\Q e s') a w
section
variable {P:Program} {n:Nat} {Q:Exit->AS->Prop} {s:AS}
theorem BWp.mono{c:Code}{Q':Exit->AS->Prop}(h:BWp P n c Q s)(b:∀ e s',Q e s'->Q' e s'):BWp P n c Q' s :=fun d G a w f=>wp_mono (h d G a w f) fun _ _ _ ⟨s',G',g,a2,a3⟩=>⟨s',G',g,a2,b _ _ a3⟩
theorem BWp.of_awp{c:Code}(h:AWp P c Q s):BWp P n c Q s :=fun b G a w d=>wp_mono (h G a w d) fun _ _ _ ⟨s',G',e,a2,a3⟩=>⟨s',G',e.toB b b,a2,a3⟩
theorem BWp.seq{x y:Code}(h:BWp P n x (kp0 (BWp P n y Q) Q) s):BWp P n (.seq x y) Q s:=by
 intro c G a w d;refine wp_seq (wp_mono (h c G a w d) ?_);rintro e a' w' ⟨s',G',b,a2,a3⟩;cases e with
 | normal=>refine wp_mono (a3 b.nx G' a' w' a2) ?_;rintro e2 f l ⟨s2,g,i,j,k⟩;exact⟨s2,g,b.trans i (ax _),j,k⟩
 | _=>exact⟨s',G',b,a2,a3⟩
theorem BWp.cond{c:Operand}{x y:Code}{t:Bool}(hc:s.eval c=.sc (.bool t))(h:BWp P n (if t then x else y) Q s):BWp P n (.cond c x y) Q s:=by intro e G a w d;have:=d.eval c;rw[hc]at this;generalize b:a.eval c=u at this;cases this;exact wp_cond b (h e G a w d)
theorem BWp.block{id:Nat}{c:Code}(h:BWp P n c (cg0 id Q) s):BWp P n (.block id c) Q s:=by
 intro d G a w f;refine wp_block (wp_mono (h d G a w f) ?_);rintro e a' w' ⟨s',G',b,a2,a3⟩;cases e with
 | exit id' =>
  simp only[cg0]at a3;simp only[Exit.inBlock];split
  ·rename_i e;rw[Af e]at a3;exact⟨s',G',b,a2,a3⟩
  rename_i e;rw[Ae e]at a3;exact⟨s',G',b,a2,a3⟩
 | _=>exact⟨s',G',b,a2,a3⟩
theorem BWp.scope{c:Code}(h:BWp P n c (fun e s'=>noGo e/\Q e s') s):BWp P n (.scope c) Q s:=by
 intro b G a w d;refine wp_scope_straight (wp_mono (h b G a w d) ?_);rintro e a' w' ⟨s',G',f,a2,a3,a4⟩;cases e with
 | goto l=>exact a3.elim
 | _=>exact⟨s',G',f,a2,a4⟩
theorem BWp.loop{c:Code}(I:Nat->AS->Prop)(round:∀ k s,I k s->BWp P n c (kp0 (fun s'=>∃ m,m<k/\I m s') Q) s){k:Nat}(C:I k s):BWp P n (.loop c) Q s:=by
 intro D G a w E;have pick:∀ d b,(∃ k,∃ s' G',S8 n G s.st w G' s'.st b/\W6 G' s' d b/\I k s') ->
   ∃ k,(∃ s' G',S8 n G s.st w G' s'.st b/\W6 G' s' d b/\I k s')/\∀ m,m<k->¬ ∃ s' G',S8 n G s.st w G' s'.st b/\W6 G' s' d b/\I m s':=by
  rintro d b ⟨k,hk⟩
  induction k using gu with
  | _ k H=>
   by_cases hm:∃ m,m<k/\∃ s' G',S8 n G s.st w G' s'.st b/\W6 G' s' d b/\I m s'
   ·obtain⟨m,g,i⟩:=hm
    exact H m g i
   exact⟨k,hk,fun m g i=>hm ⟨m,g,i⟩⟩
 classical
 let l:Act->World->Nat:=fun d b=>if h:∃ k,∃ s' G',S8 n G s.st w G' s'.st b/\W6 G' s' d b/\I k s' then (pick d b h).choose else 0
 refine wp_loop (fun d b=>∃ k,∃ s' G',S8 n G s.st w G' s'.st b/\W6 G' s' d b/\I k s') l ⟨k,s,G,.refl _ _ _ D,E,C⟩ ?_;intro d b r;have t:l d b=(pick d b r).choose:=by simp only[l];rw[dif_pos r]
 obtain⟨⟨s',G',z,J,K⟩,q⟩:=(pick d b r).choose_spec;rw[t];refine wp_mono (round _ s' K z.nx G' d b J) ?_;rintro e a2 j ⟨s2,u,c1,c2,B⟩;have v:=z.trans c1 (ax _);cases e with
 | normal=>
  obtain⟨m,hm,o⟩:=B;have f:∃ k,∃ s' G',S8 n G s.st w G' s'.st j/\W6 G' s' a2 j/\I k s':=⟨m,s2,u,v,c2,o⟩;refine⟨f,?_⟩;have p:l a2 j=(pick a2 j f).choose:=by simp only[l];rw[dif_pos f]
  rw[p];have h2:=(pick a2 j f).choose_spec.2;rcases cg m (pick a2 j f).choose with x | M
  ·exact Am ⟨s2,u,v,c2,o⟩ (h2 m x)
  omega
 | _=>exact⟨s2,u,v,c2,B⟩
end
def ae0(P:Program)(ops:Array Oper)(n0 n:Nat)(Q:AS->Prop)(l:List Nat)(s:AS):Prop :=
 ∀ G a w,W6 G s a w->(∀ j∈l,j<ops.size/\G.pl (n0+j)=none)->n0+ops.size<=s.st.next->n<=n0 ->
  wpOps P ops (fun e a' w'=>e=.normal/\∃ s' G',S8 n G s.st w G' s'.st w'/\W6 G' s' a' w'/\Q s') l a w
section
variable {P:Program} {ops:Array Oper} {n0 n:Nat} {Q:AS->Prop} {s:AS}
theorem ae0.nil(h:Q s):ae0 P ops n0 n Q [] s:=fun G _ _ a _ h1 h2=>⟨rfl,s,G,.refl _ _ _ (by omega),a,h⟩
theorem ae0.skip{i:Nat}{rest:List Nat}{o:Oper}(d:ops[i]?=some o)(hw:D0 ops s o=some false)(e:P1 s.n o.dst=true)(h:ae0 P ops n0 n Q rest (s.put o.dst (.sc undef))):ae0 P ops n0 n Q (i::rest) s:=by intro G a w b hf f c;simp only[wpOps,d,K3 b hw,aq,Ah];have:=h G _ w (b.put (.refl G) b.rel (.sc undef) e) (fun j hj=>hf j (by simp[hj])) (by simpa using f) c;simpa using this
theorem ae0.plain{T:Tab}(hT:C0 P T){i:Nat}{rest:List Nat}{o:Oper}{v:AV}{σ':j3}(m:ops[i]?=some o)(hi:i∉rest)(hw:D0 ops s o=some true)(q:P1 s.n o.dst=true)
  (ha:aop T s.eval s.st (n0+i) o.op=some (v,σ')) (h:ae0 P ops n0 n Q rest ({ s with st:=σ' }.put o.dst v)):ae0 P ops n0 n Q (i::rest) s:=by
 intro G a w d hf K f;have r:i<ops.size:=(aL.1 m).1;have t:σ'.next=s.st.next:=(gY0 ha).1;simp only[wpOps,m,K3 d hw,Al];left;obtain⟨G',u,w',h1,h2,c,x,z,g⟩:=ol0 (P:=P) hT d.rel d.eval (hf i (by simp)).2 (by omega) ha;have l:∀ j∈rest,n0+j≠n0+i:=fun j hj e=>hi (by have B:j=i:=Nat.add_left_cancel e;rw[<- B];exact hj);have key:=h G' (a.put o.dst u) w' (d.put h1 z x q) (fun j hj=>⟨(hf j (by simp[hj])).1,h2 _ (l j hj) (hf j (by simp[hj])).2⟩) (by simp;omega) f;have C:S8 n G s.st w G' σ' w':=⟨h1.w0,h1.imm,fun k hk=>by
  cases hp:G.pl k with
  | none=>exact h2 k (by omega) hp
  | some p=>exact h1.pl k p hp,by omega,g⟩
 have b:=B3 (P:=P) (ops:=ops) (Q':=fun e a' w'=>e=.normal/\∃ s' G',S8 n G s.st w G' s'.st w'/\W6 G' s' a' w'/\Q s') (fun e a' w' ⟨e1,s',D,E,H,I⟩ =>
  ⟨e1,s',D,C.trans (by simpa using E) (ax _),H,I⟩) rest _ _ key
 unfold fO;rcases c with c | ⟨c,J⟩
 ·rw[c];exact b
 rw[c];subst J;exact b
def Told(P:Program)(f:FuncId)(args:List AV)(σ:j3)(c:AV):Prop:=B4 P f args σ (fun v σ'=>v=c/\σ'=σ)
theorem bO0{a:Act}{w:World}{o:Oper}{d:Operand}{args:Array Operand}{ts:Array TypeId}{f:FuncId}{fv cv:List Value}(b:o.op=.call { callee:=.value d,args:=args,argTypes:=ts })
  (c:a.eval d=.func (.func f) fv.toArray cv.toArray):(execOp a.eval o).run P w=(callFunc f (fv++args.toList.map a.eval++cv).toArray).run P w:=by
 have e:fv.toArray++args.map a.eval++cv.toArray=(fv++args.toList.map a.eval++cv).toArray:=by apply dm;simp
 simp only[execOp,b,resolve,c,gm,ao,au,ae,invoke,e]
theorem ae0.told{i:Nat}{rest:List Nat}{o:Oper}{k:Operand}{args:Array Operand}{ts:Array TypeId}{f:FuncId}{first cap:List AV}(t:ops[i]?=some o)(l:o.op=.call { callee:=.value k,args:=args,argTypes:=ts })
  (hw:D0 ops s o=some true) (x:P1 s.n o.dst=true) (m:s.eval k=.fn (.func f) first cap) {c:AV}
  (hc:Told P f (first++args.toList.map s.eval++cap) s.st c) (h:ae0 P ops n0 n Q rest (s.put o.dst c)):ae0 P ops n0 n Q (i::rest) s:=by
 intro G a w g hf z p;simp only[wpOps,t,K3 g hw,Al];left;have b:=g.eval k;rw[m]at b;generalize q:a.eval k=u at b;cases b with
 | fn _ _ _ fv cv h1 h2 B C=>
 have d:B8 G (first++args.toList.map s.eval++cap) (fv++args.toList.map a.eval++cv) :=(B8.append (G:=G) ⟨h1,B⟩ (B8.map g.eval args.toList)).append ⟨h2,C⟩;unfold fO;rw[bO0 l q];refine hc G _ w d g.rel o a _ _ ?_;rintro v K σ' G' w' r D E ⟨rfl,rfl⟩;have key:=h G' (a.put o.dst v) w' (g.put r.le E D x) (fun j hj=>⟨(hf j (by simp[hj])).1,r.keeps _ (by have:=(hf j (by simp[hj])).1;omega) (hf j (by simp[hj])).2⟩) (by simpa using z) p;have H:S8 n G s.st w G' s.st w':=r.toB (by omega) (by omega);exact B3 (fun e a' w' ⟨e1,s',I,c1,c2,J⟩=>⟨e1,s',I,H.trans (by simpa using c1) (ax _),c2,J⟩) rest _ _ key
theorem ae0.turns{i:Nat}{rest:List Nat}{o:Oper}{k:Operand}{args:Array Operand}{ts:Array TypeId}{f:FuncId}{first cap:List AV}(t:ops[i]?=some o)(l:o.op=.call { callee:=.value k,args:=args,argTypes:=ts })
  (hw:D0 ops s o=some true) (x:P1 s.n o.dst=true) (m:s.eval k=.fn (.func f) first cap) {c:AV} {σ1:j3} (z:σ1.next=s.st.next)
  (hc:B4 P f (first++args.toList.map s.eval++cap) s.st (fun v σ'=>v=c/\σ'=σ1)) (h:ae0 P ops n0 n Q rest ({ s with st:=σ1 }.put o.dst c)):ae0 P ops n0 n Q (i::rest) s:=by
 intro G a w g hf K p;simp only[wpOps,t,K3 g hw,Al];left;have b:=g.eval k;rw[m]at b;generalize q:a.eval k=u at b;cases b with
 | fn _ _ _ fv cv h1 h2 B C=>
 have d:B8 G (first++args.toList.map s.eval++cap) (fv++args.toList.map a.eval++cv) :=(B8.append (G:=G) ⟨h1,B⟩ (B8.map g.eval args.toList)).append ⟨h2,C⟩;unfold fO;rw[bO0 l q];refine hc G _ w d g.rel o a _ _ ?_;rintro v M σ' G' w' r D E ⟨rfl,rfl⟩;have key:=h G' (a.put o.dst v) w' (g.put r.le E D x) (fun j hj=>⟨(hf j (by simp[hj])).1,r.keeps _ (by have:=(hf j (by simp[hj])).1;omega) (hf j (by simp[hj])).2⟩) (by simp;omega) p;have H:S8 n G s.st w G' σ' w':=r.toB (by omega) (by omega);exact B3 (fun e a' w' ⟨e1,s',I,c1,c2,J⟩=>⟨e1,s',I,H.trans (by simpa using c1) (ax _),c2,J⟩) rest _ _ key
theorem ae0.inline{T:Tab}(hT:C0 P T){i:Nat}{rest:List Nat}{o:Oper}{t:Operand}{args:Array Operand}{ts:Array TypeId}{f:FuncId}{first cap:List AV}{fn:Func}{c:Code}(J:ops[i]?=some o)
  (z:o.op=.call { callee:=.value t,args:=args,argTypes:=ts }) (hw:D0 ops s o=some true) (K:P1 s.n o.dst=true) (B:s.eval t=.fn (.func f) first cap)
  (q:P.funcs[f]?=some fn) (g:(fn.name== "runtime.NumGoroutine")=false) (H:fn.body=some c) (hl:(first++args.toList.map s.eval++cap).length<=fn.ntmps)
  (h:BWp P s.st.next c (fun e s1=>(e=.normal\/e=.ret)/\∃ v,C8 T fn s1=some v/\ae0 P ops n0 n Q rest ({ s with st:=s1.st }.put o.dst v)) (AS.enter fn.ntmps (first++args.toList.map s.eval++cap) s.st)) :
  ae0 P ops n0 n Q (i::rest) s:=by
 intro G a w p hf M C;simp only[wpOps,J,K3 p hw,Al];left;have l:=p.eval t;rw[B]at l;generalize D:a.eval t=u at l;cases l with
 | fn _ _ _ fv cv h1 h2 N O=>
 have m:B8 G (first++args.toList.map s.eval++cap) (fv++args.toList.map a.eval++cv) :=(B8.append (G:=G) ⟨h1,N⟩ (B8.map p.eval args.toList)).append ⟨h2,O⟩;unfold fO;have r:(callFunc f (fv++args.toList.map a.eval++cv).toArray).run P w=.ok (.enter f (fv++args.toList.map a.eval++cv).toArray) w:=by simp only[callFunc,ao,run_program,ae,q,g,H,iU,aq,Ah,au]
 rw[bO0 z D,r];simp only[eF];refine calls_of_wp q H (wp_mono (h (ax _) G _ w (W6.enter m p.rel fn.ntmps hl)) ?_);rintro e a' w' ⟨s1,G',b,x,hex,v,hv,R⟩;obtain⟨y,I,E⟩:=dY0 (P:=P) hT x hv;have hle:G.le G':=b.le p.rel (ax _);have key:=R G' (a.put o.dst y) w' (p.put hle x.rel E K) (fun j hj=>⟨(hf j (by simp[hj])).1,by rw[b.pl _ (by have:=(hf j (by simp[hj])).1;show n0+j<s.st.next;omega)];exact(hf j (by simp[hj])).2⟩) (by
  have:=b.nx;simp only[AS.put_st];show n0+ops.size<=s1.st.next;exact bC M this) C
 have S:S8 n G s.st w G' s1.st w':=⟨b.w0,b.imm,fun k hk=>b.pl k (by show k<s.st.next;omega),by have:=b.nx;show n<=s1.st.next;exact bC (by omega) this,b.fr⟩;have d:=B3 (P:=P) (ops:=ops) (Q':=fun e a' w'=>e=.normal/\∃ s' G',S8 n G s.st w G' s'.st w'/\W6 G' s' a' w'/\Q s') (fun e a' w' ⟨e1,s',U,c1,c2,V⟩ =>
  ⟨e1,s',U,S.trans (by simpa using c1) (ax _),c2,V⟩) rest _ _ key
 rcases hex with rfl | rfl
 ·exact⟨x.defers,y,I,d⟩
 exact⟨x.defers,y,I,d⟩
end
theorem BWp.region{P:Program}{n:Nat}{Q:Exit->AS->Prop}{s:AS}{id:Nat}{ops:Array Oper}
  (h:ae0 P ops s.st.next n (fun s'=>Q .normal s') (aJ ops.size) { s with st:={ s.st with next:=s.st.next+ops.size } }):BWp P n (.region id ops false) Q s:=by
 intro f G a w b;refine wp_region ?_;have d:W6 G { s with st:={ s.st with next:=s.st.next+ops.size } } a w:=⟨b.defers,b.size,b.tmps,b.rel.next (bc _ _)⟩;refine B3 ?_ _ _ _ (h G a w d (fun j hj=>⟨by simpa using hj,b.rel.fresh _ (bc _ _)⟩) (ax _) f);rintro e a' w' ⟨rfl,s',G',c,g,i⟩;refine⟨s',G',⟨c.w0,c.imm,c.pl,c.nx,?_⟩,g,i⟩;exact(Fr.less (σ:=s.st) (σ':={ s.st with next:=s.st.next+ops.size }) (fun _ _ h=>h)).trans c.fr
def j4.ren(ι:Nat->Option (Option Nat))(G:j4):j4 :={ w0:=G.w0,imm:=G.imm,pl:=fun i=>match ι i with | some (some k)=>G.pl k | some none=>some ⟨0,0,0,true⟩ | none=>none }
def RV(ι:Nat->Option (Option Nat))(a b:AV):Prop:=∀ G u,Rep G b u->Rep (G.ren ι) a u
def gf0(ι:Nat->Option (Option Nat)):l6->l6->Prop
 | .row e s es,.row l s' d=>e=l/\s=s'/\es.length=d.length/\∀ i (h:i<es.length) (h':i<d.length),es[i].length=d[i].length/\∀ j (g:j<es[i].length) (m:j<d[i].length),RV ι es[i][j] d[i][j]
 | .map agg es c,.map f d c'=>agg=f/\c=c'/\es.length=d.length/\∀ i (h:i<es.length) (h':i<d.length),es[i].1=d[i].1/\RV ι es[i].2.1 d[i].2.1/\es[i].2.2=d[i].2.2
 | .siter a b,.siter a' b'=>a=a'/\b=b'
 | .miter none a b c,.miter none a' b' c'=>a=a'/\b=b'/\c=c'
 | .miter (some i) a b c,.miter (some k) a' b' c'=>ι i=some (some k)/\a=a'/\b=b'/\c=c'
 | _,_=>False
structure Ren(ι:Nat->Option (Option Nat))(n:Nat)(s' s:AS):Prop where
 nn:s'.n=s.n
 low:∀ i,i<n->ι i=some (some i)
 dom:∀ i k,ι i=some k->i<s'.st.next
 nx:n<=s'.st.next
 inj:∀ i j k oi oj,ι i=some (some k)->ι j=some (some k)->s'.st.objs i=some oi->s'.st.objs j=some oj->i=j
 slots:∀ t,t<s.n->RV ι (s'.get t) (s.get t)
 beyond:∀ t,s.n<=t->s'.get t=.sc undef
 objs:∀ i o,s'.st.objs i=some o->(∃ k o',ι i=some (some k)/\s.st.objs k=some o'/\gf0 ι o o')\/(ι i=some none/\∃ e z,o=.row e z [])
theorem gf0.ok{ι:Nat->Option (Option Nat)}{G:j4}{p:Pl}{o o':l6}{r:Option Obj}(h:gf0 ι o o')(hk:N1 G p o' r):N1 (G.ren ι) p o r:=by
 cases o with
 | row e z es=>
  cases o' with
  | row x B l =>obtain⟨rfl,rfl,hl,h1⟩:=h;obtain⟨cs,d,g,f,C,v⟩:=hk;refine⟨cs,d,g,f,by omega,fun i hi=>?_⟩;obtain⟨m1,m2⟩:=h1 i hi (by omega);obtain⟨l1,l2⟩:=v i (by omega);exact⟨by omega,fun j hj n=>m2 j hj (by omega) G _ (l2 j (by omega) n)⟩
  | _=>exact h.elim
 | map agg es c=>
  cases o' with
  | map t l c' =>obtain⟨rfl,rfl,hl,h1⟩:=h;obtain⟨ents,d,g,f⟩:=hk;refine⟨ents,d,by omega,fun i hi q=>?_⟩;obtain⟨m1,m2,m3⟩:=h1 i hi (by omega);obtain⟨l1,l2,l3⟩:=f i (by omega) q;exact⟨by rw[m1];exact l1,m2 G _ l2,by rw[m3];exact l3⟩
  | _=>exact h.elim
 | siter a b=>
  cases o' with
  | siter a' b'=>obtain⟨rfl,rfl⟩:=h;exact hk
  | _=>exact h.elim
 | miter m a b c=>
  cases o' with
  | miter u a' b' c' =>
   cases m with
   | none=>
    cases u with
    | none=>obtain⟨rfl,rfl,rfl⟩:=h;exact hk
    | some k=>exact h.elim
   | some i=>
    cases u with
    | none=>exact h.elim
    | some k=>obtain⟨hi,rfl,rfl,rfl⟩:=h;obtain⟨m1,d,w,g,f⟩:=hk;exact⟨m1,d,w,by simp only[j4.ren,hi];exact g,f⟩
  | _=>exact(by cases m<;>exact h.elim)
 | xrow e z i=>cases o'<;>exact h.elim
 | xmap c=>cases o'<;>exact h.elim
 | frow=>cases o'<;>exact h.elim
 | xiter s p=>cases o'<;>exact h.elim
theorem Ren.rel{ι:Nat->Option (Option Nat)}{n:Nat}{s' s:AS}(h:Ren ι n s' s){G:j4}{a:Act}{w:World}(f:W6 G s a w):W6 (G.ren ι) s' a w/\S8 n G s.st w (G.ren ι) s'.st w:=by
 have g:∀ i k,ι i=some (some k)->(G.ren ι).pl i=G.pl k:=fun i k hi=>by simp only[j4.ren,hi]
 have d:∀ i,ι i=some none->(G.ren ι).pl i=some ⟨0,0,0,true⟩:=fun i hi=>by simp only[j4.ren,hi]
 refine⟨⟨f.defers,by rw[h.nn];exact f.size,fun t=>?_,?_⟩,?_⟩
 ·rcases cg t s.n with u | u
  ·exact h.slots t u G _ (f.tmps t)
  rw[h.beyond t u];have:a.tmps.getD t undef=undef:=by simp[f.size,Nat.not_lt.2 u]
  rw[this];exact .sc _
 ·refine⟨f.rel.os,f.rel.tape,f.rel.output,f.rel.size,f.rel.imm,fun i hi=>?_,fun i o J=>?_,fun i j oi oj pi pj h1 h2 q v v1 v2 K=>?_,f.rel.glob⟩
  ·cases r:ι i with
   | none=>simp only[j4.ren,r]
   | some k=>have:=h.dom i k r;omega
  ·rcases h.objs i o J with ⟨k,o',hi,hk,l⟩ | ⟨hi,e,z,rfl⟩
   ·obtain⟨p,hp,hl⟩:=f.rel.objs k o' hk
    refine⟨p,by rw[g i k hi];exact hp,?_⟩;rcases hl with ⟨hv,e,z,rfl⟩ | ⟨hv,l1,l2,l3⟩
    ·cases o with
     | row M N es=>obtain⟨rfl,rfl,hlen,_⟩:=l;have:es=[]:=cI (by simpa using hlen);subst this;exact .inl ⟨hv,_,_,rfl⟩
     | miter m a b c=>cases m<;>exact l.elim
     | _=>exact l.elim
    exact .inr ⟨hv,l1,l2,l.ok l3⟩
   exact⟨_,d i hi,.inl ⟨rfl,e,z,rfl⟩⟩
  rcases h.objs i oi h1 with ⟨x,B,hi,C,_⟩ | ⟨hi,_⟩
  ·rcases h.objs j oj h2 with ⟨I,D,hj,E,_⟩ | ⟨hj,_⟩
   ·rw[g i x hi]at q
    rw[g j I hj]at v;have:=f.rel.sep x I B D pi pj C E q v v1 v2 K;subst this;exact h.inj i j x oi oj hi hj h1 h2
   rw[d j hj]at v;cases v;cases v2
  rw[d i hi]at q;cases q;cases v1
 refine⟨rfl,fun _ _ H=>H,fun i hi=>g i i (h.low i hi),h.nx,⟨ax _,fun _ _ _=>rfl,fun i o p h1 h2 q _=>?_,fun _ _ H=>.inl H,ax _⟩⟩;rcases h.objs i o h1 with ⟨k,o',hi,hk,_⟩ | ⟨hi,_⟩
 ·rw[g i k hi]at h2
  exact⟨k,o',p,hk,h2,q,rfl⟩
 rw[d i hi]at h2;cases h2;cases q
theorem BWp.conv{P:Program}{ι:Nat->Option (Option Nat)}{n:Nat}{c:Code}{Q:Exit->AS->Prop}{s' s:AS}(h:Ren ι n s' s)(b:BWp P n c Q s'):BWp P n c Q s:=by intro k G a w d;obtain⟨h1,h2⟩:=h.rel d;refine wp_mono (b h.nx _ a w h1) ?_;rintro e a' w' ⟨s2,f,g,i,j⟩;exact⟨s2,f,h2.trans g (ax _),i,j⟩
theorem BWp.convEnd{P:Program}{n:Nat}{c:Code}{Q:Exit->AS->Prop}{s:AS}(h:BWp P n c (fun e s1=>∃ ι s2,Ren ι n s2 s1/\Q e s2) s):BWp P n c Q s:=by intro b G a w d;refine wp_mono (h b G a w d) ?_;rintro e a' w' ⟨s1,k,f,g,ι,s2,i,j⟩;obtain⟨h1,h2⟩:=i.rel g;exact⟨s2,_,f.trans h2 (ax _),h1,j⟩
theorem E0.of_body {P:Program} {T:Tab} (hT:C0 P T) {f:FuncId} {fn:Func} {c:Code} {args:List AV} {r:AV} (C:P.funcs[f]?=some fn) (t:(fn.name== "runtime.NumGoroutine")=false) (l:fn.body=some c) (Y:args.length<=fn.ntmps)
  (hp:args.all AV.pur=true) (h:BWp P 0 c (fun e s'=>(e=.normal\/e=.ret)/\∃ v,C8 T fn s'=some v/\∀ G w u pl,Rel G s'.st w->Rep G v u->Rep (G.frozen s'.st w pl) r u) (AS.enter fn.ntmps args j3.none)):E0 P ⟨f,args,r⟩:=by
 intro σ G vs w m d o a U Q Z;have D:(callFunc f vs.toArray).run P w=.ok (.enter f vs.toArray) w:=by simp only[callFunc,ao,run_program,ae,C,t,l,iU,aq,Ah,au]
 show o.upon P a U Q ((callFunc f vs.toArray).run P w);rw[D];simp only[eF];let G0:j4:={ G with pl:=fun _=>iK };have q:B8 G0 args vs:=⟨m.1,fun i h1 h2=>O0 (G:=G) (G':=G0) (fun _ _ h=>h) (m.2 i h1 h2) (aj.1 hp _ (aw h1))⟩;have z:Rel G0 j3.none w:=⟨d.os,d.tape,d.output,d.size,d.imm,fun _ _=>rfl,(fun id o h=>by rw[j3.none_objs]at h;cases h),(fun i j oi oj pi pj h=>by rw[j3.none_objs]at h;cases h),d.glob⟩;refine calls_of_wp C l (wp_mono (h (cN _) G0 _ w (W6.enter q z fn.ntmps Y)) ?_);rintro e a' E ⟨s1,K,s,M,hex,v,hv,hd⟩;obtain⟨y,V,N⟩:=dY0 (P:=P) hT M hv;have g:=M.rel;have k:∀ b,¬ ∃ id0 o0 p0,j3.none.objs id0=some o0/\G0.pl id0=some p0/\p0.virt=false/\p0.block=b:=fun b ⟨id,o0,p0,h,_⟩=>by rw[j3.none_objs]at h;cases h
 have n:∀ b,b<w.heap.size->E.heap[b]?=w.heap[b]?:=fun b l=>s.fr.same b l (fun id o p h=>by rw[show (AS.enter fn.ntmps args j3.none).st=j3.none from rfl,j3.none_objs]at h;cases h);let G':j4:=K.frozen s1.st E G.pl;have himm:∀ b x,G'.imm b=some x->G.imm b=some x\/w.heap.size<=b:=fun b x B=>by
  simp only[G',j4.frozen]at B;split at B
  ·rename_i hl
   obtain⟨id,o1,p,h1,h2,H,rfl⟩:=hl;right;rcases cg p.block w.heap.size with I | I
   ·exact Am (s.fr.live id o1 p h1 h2 H I) (k _)
   exact I
  rcases s.fr.imm b x B with h1 | h1 | h1
  ·exact .inl h1
  ·exact .inr h1
  exact Am h1 (k _)
 have hle:G.le G':=⟨s.w0,fun b x l=>F3 g (s.imm b x l),fun _ _ h=>h⟩;have O:K.w0=G.w0:=s.w0;have fin:U (a.put o.dst y) E:=by
  refine Z y r σ G' E ⟨hle,fun _ _ h=>h,ax _,⟨s.fr.size,fun b l _=>n b l,fun id x p h1 h2 H _=>⟨id,x,p,h1,h2,H,rfl⟩,fun b x l=>?_,s.fr.drawn⟩⟩ (hd K E y G.pl g N) ?_ ⟨rfl,rfl⟩
  ·rcases himm b x l with h1 | h1
   ·exact .inl h1
   exact .inr (.inl h1)
  refine⟨g.os,g.tape,g.output,g.size,fun b x l=>?_,d.fresh,fun id x B=>?_,d.sep,fun b o v hv=>hle.cell (d.glob b o v hv)⟩
  ·simp only[G',j4.frozen]at l
   split at l
   ·exact l
   exact g.imm b x l
  obtain⟨p,J,hl⟩:=d.objs id x B;refine⟨p,J,?_⟩;rcases hl with ⟨h1,h2⟩ | ⟨h1,h2,H,I⟩
  ·exact .inl ⟨h1,h2⟩
  have R:=d.obj_lt B J h1;refine .inr ⟨h1,?_,by show K.w0.heap.size<=_;rw[O];exact H,by rw[n _ R];exact I.mono hle⟩;cases hi:G'.imm p.block with
  | none=>rfl
  | some y=>
   rcases himm _ _ hi with S | S
   ·rw[h2]at S;cases S
   omega
 rcases hex with rfl | rfl
 ·exact⟨M.defers,y,V,fin⟩
 exact⟨M.defers,y,V,fin⟩
def pC0:AV->Bool
 | .sc _=>true
 | .agg cs=>cs.all fun c=>match c with | .sc _=>true | _=>false
 | .tup cs=>cs.all fun c=>match c with | .sc _=>true | .agg a=>a.all (fun d=>match d with | .sc _=>true | _=>false) | _=>false
 | _=>false
theorem Rep.flatAll{G G':j4}{cs:List AV}{vs:List Value}(h1:vs.length=cs.length)(h:∀ i (h:i<cs.length) (h':i<vs.length),Rep G cs[i] vs[i])(hf:cs.all (fun c=>match c with | .sc _=>true | _=>false)=true) :
  ∀ i (h:i<cs.length) (h':i<vs.length),Rep G' cs[i] vs[i]:=fun i hi a=>by
 have h2:=aj.1 hf cs[i] (aw hi);have b:=h i hi a;generalize cs[i]=c at *;split at h2
 ·cases b;exact .sc _
 cases h2
theorem Rep.flat{G G':j4}{c:AV}{v:Value}(h:Rep G c v)(hf:pC0 c=true):Rep G' c v:=by
 unfold pC0 at hf;split at hf
 ·cases h;exact .sc _
 ·rename_i cs
  cases h with
  | agg _ vs h1 h2=>exact .agg cs vs h1 (Rep.flatAll h1 h2 hf)
 ·rename_i cs
  cases h with
  | tup _ vs h1 h2=>
   refine .tup cs vs h1 fun i hi a=>?_;have b:=aj.1 hf cs[i] (aw hi);have d:=h2 i hi a;generalize cs[i]=c at *;generalize vs[i]=v at *;split at b
   ·cases d;exact .sc _
   ·cases d with
    | agg _ us g1 g2=>exact .agg _ us g1 (Rep.flatAll g1 g2 b)
   cases b
 cases hf
theorem lV0{P:Program}{f:FuncId}{args l:List AV}{c:AV}{σ:j3}(hm:E0 P ⟨f,l,c⟩)(hf:pC0 c=true)
  (D:∀ G vs w,B8 G args vs->Rel G σ w->B8 (G.frozen σ w (fun _=>none)) l vs):Told P f args σ c:=by
 intro G vs w m d o a E Q H;let t:=G.frozen σ w (fun _=>none);have n:Rel t j3.none w:=⟨d.os,d.tape,d.output,d.size,fun b x k=>by
   simp only[t,j4.frozen]at k;split at k
   ·exact k
   exact d.imm b x k,fun _ _=>rfl,(fun id o h=>by rw[j3.none_objs]at h;cases h),(fun i j oi oj pi pj h=>by rw[j3.none_objs]at h;cases h),fun b o v hv=>cd0 d (d.glob b o v hv)⟩
 refine hm j3.none t vs w (D G vs w m d) n o a E Q ?_;rintro u I σ' G' w' r z e ⟨rfl,rfl⟩;have g:∀ b,b<w.heap.size->w'.heap[b]?=w.heap[b]?:=fun b k=>r.fr.same b k (fun id o p h=>by rw[j3.none_objs]at h;cases h);have q:G'.w0=G.w0:=r.le.w0;refine H u I σ G w' ⟨.refl G,.refl _ G,ax _,⟨r.fr.size,fun b k _=>g b k,fun id x p h1 h2 B _=>⟨id,x,p,h1,h2,B,rfl⟩,fun b x k=>.inl k,r.fr.drawn⟩⟩ (z.flat hf) ?_ ⟨rfl,rfl⟩;refine⟨e.os.trans (by rw[q]),e.tape.trans (by rw[q]),e.output.trans (by rw[q]),bC d.size r.fr.size,fun b x k=>by rw[g b (d.lt k)];exact d.imm b x k,d.fresh,fun id x C=>?_,d.sep,d.glob⟩;obtain⟨p,s,hl⟩:=d.objs id x C;refine⟨p,s,?_⟩;rcases hl with ⟨h1,h2⟩ | ⟨h1,h2,B,J⟩
 ·exact .inl ⟨h1,h2⟩
 exact .inr ⟨h1,h2,B,by rw[g _ (d.obj_lt C s h1)];exact J⟩
end Go.Ab
namespace Go.Ab
open Go
variable [B6]
mutual
def AV.bnd(k:Nat):AV->Bool
 | .sy i=>cm i k
 | .ss _ _ i=>cm i k
 | .xp _ i _=>cm i k
 | .rm c=>c.bnd k
 | .rs es=>bndR k es
 | .rp cs=>jp0 k cs
 | .fn _ a c=>jp0 k a&&jp0 k c
 | .agg cs=>jp0 k cs
 | .tup cs=>jp0 k cs
 | _=>true
def jp0(k:Nat):List AV->Bool
 | []=>true
 | c::cs=>c.bnd k&&jp0 k cs
def bndR(k:Nat):List (List AV)->Bool
 | []=>true
 | c::cs=>jp0 k c&&bndR k cs
end
mutual
theorem sub_agree{θ d:Nat->AV}{k:Nat}(h:∀ i,i<k->d i=θ i):∀ v:AV,v.bnd k=true->v.sub d=v.sub θ
 | .any,_=>by simp
 | .sc v,_=>by simp
 | .rs es,b=>by simp only[AV.sub];rw[fn0 h es (by simpa[AV.bnd]using b)]
 | .rp cs,b=>by simp only[AV.sub];rw[J4 h cs (by simpa[AV.bnd]using b)]
 | .ms ..,_=>by simp
 | .mp ..,_=>by simp
 | .mm _,_=>by simp
 | .it _,_=>by simp
 | .fn f a c,b=>by simp only[AV.bnd,ab]at b;simp only[AV.sub];rw[J4 h a b.1,J4 h c b.2]
 | .agg cs,b=>by simp only[AV.sub];rw[J4 h cs (by simpa[AV.bnd]using b)]
 | .tup cs,b=>by simp only[AV.sub];rw[J4 h cs (by simpa[AV.bnd]using b)]
 | .sy i,b=>by simp only[AV.bnd,aZ]at b;simp[h i b]
 | .ss id e i,b=>by simp only[AV.bnd,aZ]at b;simp[h i b]
 | .xp id i off,b=>by simp only[AV.bnd,aZ]at b;simp only[AV.sub,h i b]
 | .rm c,b=>by simp only[AV.sub];rw[sub_agree h c (by simpa[AV.bnd]using b)]
theorem J4{θ a:Nat->AV}{k:Nat}(h:∀ i,i<k->a i=θ i):∀ l:List AV,jp0 k l=true->Y9 a l=Y9 θ l
 | [],_=>by simp[Y9]
 | c::cs,b=>by simp only[jp0,ab]at b;simp only[Y9];rw[sub_agree h c b.1,J4 h cs b.2]
theorem fn0{θ a:Nat->AV}{k:Nat}(h:∀ i,i<k->a i=θ i):∀ l:List (List AV),bndR k l=true->dI0 a l=dI0 θ l
 | [],_=>by simp[dI0]
 | c::cs,b=>by simp only[bndR,ab]at b;simp only[dI0];rw[J4 h c b.1,fn0 h cs b.2]
end
def l6.bnd(k:Nat):l6->Bool
 | .row _ _ es=>bndR k es
 | .map _ es _=>es.all fun e=>e.2.1.bnd k
 | .xrow _ _ i=>cm i k
 | .xmap c=>c.bnd k
 | .xiter s p=>s.bnd k&&p.bnd k
 | .frow _ _ c _ i _ v=>c.bnd k&&(i.bnd k&&(match v with | some x=>x.bnd k | none=>true))
 | _=>true
theorem l6.sub_agree{θ b:Nat->AV}{k:Nat}(h:∀ i,i<k->b i=θ i)(o:l6)(a:o.bnd k=true):o.sub b=o.sub θ:=by
 cases o with
 | row e z es=>simp only[l6.sub];rw[<- bm0,<-bm0,fn0 h es a]
 | map agg es c=>simp only[l6.sub];congr 1;apply bo;intro e he;rw[Go.Ab.sub_agree h _ (aj.1 a e he)]
 | xrow e z i=>simp only[l6.bnd,aZ]at a;simp only[l6.sub];rw[h i a]
 | xmap c=>simp only[l6.bnd]at a;simp only[l6.sub];rw[Go.Ab.sub_agree h c a]
 | xiter s p=>simp only[l6.bnd,ab]at a;simp only[l6.sub];rw[Go.Ab.sub_agree h s a.1,Go.Ab.sub_agree h p a.2]
 | frow e z c cols i off v=>
  simp only[l6.bnd,ab]at a;simp only[l6.sub];rw[Go.Ab.sub_agree h c a.1,Go.Ab.sub_agree h i a.2.1];cases v with
  | none=>rfl
  | some x=>simp only[ak];rw[Go.Ab.sub_agree h x a.2.2]
 | _=>rfl
def Tr.all{α:Type}(p:α->Bool):Tr α->Bool
 | .leaf=>true
 | .node v l r=>(match v with | some x=>p x | none=>true)&&l.all p&&r.all p
theorem Tr.map_congr{α β:Type}{f g:α->β}{p:α->Bool}(h:∀ x,p x=true->f x=g x):∀ t:Tr α,t.all p=true->t.map f=t.map g
 | .leaf,_=>rfl
 | .node v l r,a=>by
  simp only[Tr.all,ab]at a;simp only[Tr.map];rw[Tr.map_congr h l a.1.2,Tr.map_congr h r a.2];cases v with
  | none=>rfl
  | some x=>simp[h x a.1.1]
def AS.bnd(k:Nat)(s:AS):Bool:=s.tr.all (AV.bnd k)&&s.st.tr.all (l6.bnd k)
theorem AS.sub_agree{θ a:Nat->AV}{k:Nat}(h:∀ i,i<k->a i=θ i){s:AS}(b:s.bnd k=true):s.sub a=s.sub θ:=by simp only[AS.bnd,ab]at b;simp only[AS.sub,j3.sub];rw[Tr.map_congr (Go.Ab.sub_agree h) _ b.1,Tr.map_congr (l6.sub_agree h) _ b.2]
theorem j3.sub_agree{θ a:Nat->AV}{k:Nat}(h:∀ i,i<k->a i=θ i){s:AS}(b:s.bnd k=true):s.st.sub a=s.st.sub θ:=by have:=AS.sub_agree h b;have h2:=Ap AS.st this;simpa using h2
mutual
def AV.ssub(b:Nat->AV):AV->AV
 | .rs es=>.rs (pR0 b es)
 | .rp cs=>.rp (iK0 b cs)
 | .fn f a c=>.fn f (iK0 b a) (iK0 b c)
 | .agg cs=>.agg (iK0 b cs)
 | .tup vs=>.tup (iK0 b vs)
 | .sy i=>b i
 | .ss id d i=>match b i with
  | .sy j=>.ss id d j
  | .rs es=>.ms id d 0 es.length
  | _=>.ms id d 0 0
 | .xp id k off=>match b k with
  | .sy j=>.xp id j off
  | v=>.mp id (Y8 v) off
 | .rm c=>.rm (c.ssub b)
 | v=>v
def iK0(a:Nat->AV):List AV->List AV
 | []=>[]
 | c::cs=>c.ssub a::iK0 a cs
def pR0(a:Nat->AV):List (List AV)->List (List AV)
 | []=>[]
 | c::cs=>iK0 a c::pR0 a cs
end
mutual
theorem ssub_sub(b θ:Nat->AV):∀ v:AV,(v.ssub b).sub θ=v.sub (fun i=>(b i).sub θ)
 | .any=>by simp[AV.ssub]
 | .sc v=>by simp[AV.ssub]
 | .rs es=>by simp only[AV.ssub,AV.sub];rw[hy0 b θ es]
 | .rp cs=>by simp only[AV.ssub,AV.sub];rw[at0 b θ cs]
 | .ms ..=>by simp[AV.ssub]
 | .mp ..=>by simp[AV.ssub]
 | .mm _=>by simp[AV.ssub]
 | .it _=>by simp[AV.ssub]
 | .fn f a c=>by simp only[AV.ssub,AV.sub];rw[at0 b θ a,at0 b θ c]
 | .agg cs=>by simp only[AV.ssub,AV.sub];rw[at0 b θ cs]
 | .tup cs=>by simp only[AV.ssub,AV.sub];rw[at0 b θ cs]
 | .sy i=>by simp[AV.ssub]
 | .ss id d i=>by simp only[AV.ssub,S3];cases b i<;>simp[rowsOf]
 | .xp id k off=>by simp only[AV.ssub,AV.sub];cases b k<;>simp[AV.sub,Y8]
 | .rm c=>by simp only[AV.ssub,AV.sub];rw[ssub_sub b θ c]
theorem at0(a θ:Nat->AV):∀ l:List AV,Y9 θ (iK0 a l)=Y9 (fun i=>(a i).sub θ) l
 | []=>by simp[Y9,iK0]
 | c::cs=>by simp only[Y9,iK0];rw[ssub_sub a θ c,at0 a θ cs]
theorem hy0(a θ:Nat->AV):∀ l:List (List AV),dI0 θ (pR0 a l)=dI0 (fun i=>(a i).sub θ) l
 | []=>by simp[dI0,pR0]
 | c::cs=>by simp only[dI0,pR0];rw[at0 a θ c,hy0 a θ cs]
end
def l6.ssub(a:Nat->AV):l6->l6
 | .row e s es=>.row e s (pR0 a es)
 | .map agg es c=>.map agg (es.map fun e=>(e.1,e.2.1.ssub a,e.2.2)) c
 | .xrow e s i=>match a i with
  | .sy j=>.xrow e s j
  | .rs es=>.row e s es
  | _=>.row e s []
 | .xmap c=>.xmap (c.ssub a)
 | .xiter s p=>.xiter (s.ssub a) (p.ssub a)
 | .frow e z c cols k off v=>.frow e z (c.ssub a) cols (k.ssub a) off (v.map (AV.ssub a))
 | o=>o
theorem l6.ssub_sub(a θ:Nat->AV)(o:l6):(o.ssub a).sub θ=o.sub (fun i=>(a i).sub θ):=by
 cases o with
 | row e z es=>simp only[l6.ssub,l6.sub,<-bm0];rw[hy0]
 | map agg es c=>simp only[l6.ssub,l6.sub,cY];congr 1;apply bo;intro e _;simp[Go.Ab.ssub_sub]
 | xrow e z i=>simp only[l6.ssub,l6.sub];cases a i<;>simp[l6.sub,rowsOf]
 | xmap c=>simp only[l6.ssub,l6.sub];rw[Go.Ab.ssub_sub]
 | xiter s p=>simp only[l6.ssub,l6.sub];rw[Go.Ab.ssub_sub,Go.Ab.ssub_sub]
 | frow e z c cols k off v=>
  simp only[l6.ssub,l6.sub];rw[Go.Ab.ssub_sub,Go.Ab.ssub_sub];cases v with
  | none=>rfl
  | some x=>simp only[ak];rw[Go.Ab.ssub_sub]
 | _=>rfl
def AS.ssub(a:Nat->AV)(s:AS):AS:={ n:=s.n,tr:=s.tr.map (AV.ssub a),st:={ next:=s.st.next,tr:=s.st.tr.map (l6.ssub a),low:=s.st.low } }
theorem Tr.map_map{α β a:Type}(f:α->β)(g:β->a):∀ t:Tr α,(t.map f).map g=t.map (fun x=>g (f x))
 | .leaf=>rfl
 | .node v l r=>by simp only[Tr.map];rw[Tr.map_map f g l,Tr.map_map f g r];cases v<;>rfl
theorem AS.ssub_sub(a θ:Nat->AV)(s:AS):(s.ssub a).sub θ=s.sub (fun i=>(a i).sub θ):=by simp only[AS.ssub,AS.sub,j3.sub,Tr.map_map];have h1:(fun x=>AV.sub θ (AV.ssub a x))=AV.sub (fun i=>(a i).sub θ):=funext fun x=>Go.Ab.ssub_sub a θ x;have h2:(fun x=>l6.sub θ (l6.ssub a x))=l6.sub (fun i=>(a i).sub θ):=funext fun x=>l6.ssub_sub a θ x;rw[h1,h2]
def aO0(j:Nat)(b:Bool)(i:Nat):AV:=bif aB i j then .sc (.bool b)else .sy i
theorem ef0{θ:Nat->AV}{j:Nat}{b:Bool}(h:θ j=.sc (.bool b))(s:AS):(s.ssub (aO0 j b)).sub θ=s.sub θ:=by
 rw[AS.ssub_sub];congr 1;funext i;unfold aO0;cases a:aB i j with
 | true=>have:=af a;subst this;simp[h]
 | false=>simp
abbrev gb0:=Nat->Option (Option Nat)
def W7(ι:gb0)(i k:Nat):Bool:=match ι i with | some (some j)=>aB j k | _=>false
def gp0(ι:gb0)(i:Nat):Bool:=match ι i with | some none=>true | _=>false
theorem V6{ι:gb0}{i k:Nat}(h:W7 ι i k=true):ι i=some (some k):=by
 unfold W7 at h;split at h
 ·rename_i j hj;rw[hj,af h]
 cases h
theorem mm0{ι:gb0}{i:Nat}(h:gp0 ι i=true):ι i=some none:=by
 unfold gp0 at h;split at h
 ·rename_i hj;exact hj
 cases h
def fnB:Fn->Fn->Bool
 | .func a,.func b=>aB a b
 | _,_=>false
theorem fnB_eq{a b:Fn}(h:fnB a b=true):a=b:=by
 unfold fnB at h;split at h
 ·rw[af h]
 cases h
def undB:Value->Value->Bool
 | .tuple a,.tuple b=>aB a.size 0&&aB b.size 0
 | .pointer none,.pointer none=>true
 | a,b=>vbeq a b
theorem vQ0{a b:Value}(h:undB a b=true):a=b:=by
 unfold undB at h;split at h
 ·rename_i a b
  simp only[ab]at h;have h1:a=#[]:=gA (af h.1);have h2:b=#[]:=gA (af h.2);rw[h1,h2]
 ·rfl
 exact vT0 h
def rmB:AV->AV->Bool
 | .sy i,.sy j=>aB i j
 | _,_=>false
theorem oG0{a b:AV}(h:rmB a b=true):∃ i,a=.sy i/\b=.sy i:=by
 unfold rmB at h;split at h
 ·exact⟨_,rfl,by rw[af h]⟩
 cases h
mutual
def ck0(ι:gb0):AV->AV->Bool
 | .any,_=>true
 | .sc v,.sc h=>undB v h
 | .rs es,.rs e=>wU0 ι es e
 | .rp cs,.rp b=>qp0 ι cs b
 | .ms id z o l,.ms id' g o' m=>W7 ι id id'&&aB z g&&aB o o'&&aB l m
 | .ms id _ o l,.sc (.slice none 0 0)=>gp0 ι id&&aB o 0&&aB l 0
 | .mp id i j,.mp id' d n=>W7 ι id id'&&aB i d&&aB j n
 | .mm id,.mm id'=>W7 ι id id'
 | .it id,.it id'=>W7 ι id id'
 | .fn f a c,.fn p a' c'=>fnB f p&&qp0 ι a a'&&qp0 ι c c'
 | .agg cs,.agg b=>qp0 ι cs b
 | .tup cs,.tup b=>qp0 ι cs b
 | .sy i,.sy d=>aB i d
 | .ss id z i,.ss id' g d=>W7 ι id id'&&aB z g&&aB i d
 | .xp id k o,.xp id' q o'=>W7 ι id id'&&aB k q&&aB o o'
 | .rm c,.rm c'=>rmB c c'
 | _,_=>false
def qp0(ι:gb0):List AV->List AV->Bool
 | [],[]=>true
 | a::as,b::bs=>ck0 ι a b&&qp0 ι as bs
 | _,_=>false
def wU0(ι:gb0):List (List AV)->List (List AV)->Bool
 | [],[]=>true
 | a::as,b::bs=>qp0 ι a b&&wU0 ι as bs
 | _,_=>false
end
def RVs(ι:gb0)(as bs:List AV):Prop:=as.length=bs.length/\∀ i (h:i<as.length) (h':i<bs.length),RV ι as[i] bs[i]
theorem RVs.cons{ι:gb0}{a b:AV}{as bs:List AV}(h:RV ι a b)(hs:RVs ι as bs):RVs ι (a::as) (b::bs):=by
 refine⟨by simp[hs.1],fun i h1 h2=>?_⟩;cases i with
 | zero=>exact h
 | succ i=>exact hs.2 i (by simpa using h1) (by simpa using h2)
def RVr(ι:gb0)(as bs:List (List AV)):Prop:=as.length=bs.length/\∀ i (h:i<as.length) (h':i<bs.length),RVs ι as[i] bs[i]
theorem RV.fit{ι:gb0}{v:AV}(h:aU0 v):RV ι v v:=fun G _ a=>O0 (G:=G) (G':=G.ren ι) (fun _ _ b=>b) a h.pur
theorem RV.rs{ι:gb0}{es b:List (List AV)}(h:RVr ι es b):RV ι (.rs es) (.rs b):=by
 intro G u c;cases c with
 | rsNil=>have:es=[]:=cI (by simpa using h.1);subst this;exact .rsNil
 | rs _ a cap size val hs hc hlen himm hrep=>
  rw[<- h.1];have hl:=h.1;refine .rs es a cap size val hs (by omega) (fun i hi=>?_) (fun i j hi hj=>himm i j (by omega) hj) (fun i j hi hj=>?_)
  ·rw[(h.2 i hi (by omega)).1];exact hlen i (by omega)
  have h2:=h.2 i hi (by omega);exact h2.2 j hj (by rw[<- h2.1];exact hj) G _ (hrep i j (by omega) (by rw[<- h2.1];exact hj))
mutual
theorem nf0{θ:Nat->AV}(e:Fit θ){ι:gb0}:∀ (a b:AV),ck0 ι a b=true->RV ι (a.sub θ) (b.sub θ)
 | .any,b,_=>fun G u _=>by rw[wr0];exact .any u
 | .sc v,b,h=>by
  cases b with
  | sc D=>simp only[ck0]at h;rw[vQ0 h];intro G u d;simp only[I0]at *;cases d;exact .sc _
  | _=>simp[ck0]at h
 | .rs es,b,h=>by
  cases b with
  | rs s=>simp only[ck0]at h;simp only[AV.sub];exact RV.rs (mO0 e es s h)
  | _=>simp[ck0]at h
 | .rp cs,b,h=>by
  cases b with
  | rp m =>
   simp only[ck0]at h;have hl:=dT0 e cs m h;simp only[AV.sub];intro G u d;cases d with
   | rp _ a val hs himm hrep=>exact .rp _ a val hs (fun j hj=>himm j (by rw[<- hl.1];exact hj)) (fun j hj=>hl.2 j hj (by rw[<- hl.1];exact hj) G _ (hrep j (by rw[<- hl.1];exact hj)))
  | _=>simp[ck0]at h
 | .ms id z o l,b,h=>by
  cases b with
  | ms id' B o' E =>
   simp only[ck0,ab]at h;have h1:=V6 h.1.1.1;have h2:=af h.1.1.2;have n:=af h.1.2;have t:=af h.2;subst h2;subst n;subst t;intro G u d;simp only[cI0]at *;cases d with
   | ms _ _ _ _ p hp hv hz a c ha w hl hsp=>exact .ms id z o l p (by simp only[j4.ren,h1];exact hp) hv hz a c ha w hl hsp
   | msNil _ _ p hp hv=>exact .msNil id z p (by simp only[j4.ren,h1];exact hp) hv
  | sc v=>
   have hv:v=.slice none 0 0/\(gp0 ι id&&aB o 0&&aB l 0)=true:=by
    cases v with
    | slice a b c=>
     cases a with
     | none=>
      cases b with
      | zero=>cases c with
       | zero=>exact⟨rfl,by simpa only[ck0]using h⟩
       | succ c=>simp[ck0]at h
      | succ b=>simp[ck0]at h
     | some a=>simp[ck0]at h
    | _=>simp[ck0]at h
   obtain⟨rfl,q⟩:=hv;rw[ab,ab]at q;have h1:=mm0 q.1.1;have n:=af q.1.2;have t:=af q.2;subst n;subst t;rw[cI0,I0];intro G u d;cases d;exact .msNil id z ⟨0,0,0,true⟩ (by simp only[j4.ren,h1]) rfl
  | _=>simp[ck0]at h
 | .mp id i j,b,h=>by
  cases b with
  | mp id' x H =>
   simp only[ck0,ab]at h;have h1:=V6 h.1.1;have h2:=af h.1.2;have n:=af h.2;subst h2;subst n;intro G u d;simp only[lo0]at *;cases d with
   | mp _ _ _ p hp=>exact .mp id i j p (by simp only[j4.ren,h1];exact hp)
  | _=>simp[ck0]at h
 | .mm id,b,h=>by
  cases b with
  | mm id' =>
   simp only[ck0]at h;have h1:=V6 h;intro G u d;simp only[dz0]at *;cases d with
   | mm _ p hp=>exact .mm id p (by simp only[j4.ren,h1];exact hp)
  | _=>simp[ck0]at h
 | .it id,b,h=>by
  cases b with
  | it id' =>
   simp only[ck0]at h;have h1:=V6 h;intro G u d;simp only[ry0]at *;cases d with
   | it _ p hp=>exact .it id p (by simp only[j4.ren,h1];exact hp)
  | _=>simp[ck0]at h
 | .fn f a c,b,h=>by
  cases b with
  | fn I a' c' =>
   simp only[ck0,ab]at h;have h1:=fnB_eq h.1.1;subst h1;have ha:=dT0 e a a' h.1.2;have hc:=dT0 e c c' h.2;simp only[AV.sub];intro G u d;cases d with
   | fn _ _ _ fv cv l1 l2 r C=>exact .fn f _ _ fv cv (by rw[l1,ha.1]) (by rw[l2,hc.1]) (fun i hi g=>ha.2 i hi (by rw[<- ha.1];exact hi) G _ (r i (by rw[<- ha.1];exact hi) g)) (fun i hi g=>hc.2 i hi (by rw[<- hc.1];exact hi) G _ (C i (by rw[<- hc.1];exact hi) g))
  | _=>simp[ck0]at h
 | .agg cs,b,h=>by
  cases b with
  | agg m =>
   simp only[ck0]at h;have hl:=dT0 e cs m h;simp only[AV.sub];intro G u d;cases d with
   | agg _ vs l1 r=>exact .agg _ vs (by rw[l1,hl.1]) (fun i hi g=>hl.2 i hi (by rw[<- hl.1];exact hi) G _ (r i (by rw[<- hl.1];exact hi) g))
  | _=>simp[ck0]at h
 | .tup cs,b,h=>by
  cases b with
  | tup m =>
   simp only[ck0]at h;have hl:=dT0 e cs m h;simp only[AV.sub];intro G u d;cases d with
   | tup _ vs l1 r=>exact .tup _ vs (by rw[l1,hl.1]) (fun i hi g=>hl.2 i hi (by rw[<- hl.1];exact hi) G _ (r i (by rw[<- hl.1];exact hi) g))
  | _=>simp[ck0]at h
 | .sy i,b,h=>by
  cases b with
  | sy x=>simp only[ck0]at h;rw[<- af h,u9];exact RV.fit (e i)
  | _=>simp[ck0]at h
 | .ss id z i,b,h=>by
  cases b with
  | ss id' B x =>
   simp only[ck0,ab]at h;have h1:=V6 h.1.1;have h2:=af h.1.2;have n:=af h.2;subst h2;subst n;intro G u d;simp only[S3]at *;generalize (rowsOf (θ i)).length=l at *;cases d with
   | ms _ _ _ _ p hp hv hz a c ha w hl hsp=>exact .ms id z 0 l p (by simp only[j4.ren,h1];exact hp) hv hz a c ha w hl hsp
   | msNil _ _ p hp hv=>exact .msNil id z p (by simp only[j4.ren,h1];exact hp) hv
  | _=>simp[ck0]at h
 | .xp id k o,b,h=>by
  cases b with
  | xp id' J o' =>
   simp only[ck0,ab]at h;have h1:=V6 h.1.1;have h2:=af h.1.2;have n:=af h.2;subst h2;subst n;intro G u d;simp only[AV.sub]at *;cases d with
   | mp _ _ _ p hp=>exact .mp id _ _ p (by simp only[j4.ren,h1];exact hp)
  | _=>simp[ck0]at h
 | .rm c,b,h=>by
  cases b with
  | rm c' =>simp only[ck0]at h;obtain⟨i,rfl,rfl⟩:=oG0 h;simp only[fB0,u9];intro G u d;exact O0 (G:=G) (G':=G.ren ι) (fun _ _ q=>q) d (by simp only[AV.pur];exact(e _).pur)
  | _=>simp[ck0]at h
theorem dT0{θ:Nat->AV}(c:Fit θ){ι:gb0}:∀ (a b:List AV),qp0 ι a b=true->RVs ι (Y9 θ a) (Y9 θ b)
 | [],b,h=>by
  cases b with
  | nil=>exact⟨rfl,fun i hi=>by simp[Y9]at hi⟩
  | cons _ _=>simp[qp0]at h
 | a::as,b,h=>by
  cases b with
  | nil=>simp[qp0]at h
  | cons b bs=>simp only[qp0,ab]at h;simp only[Y9];exact(nf0 c a b h.1:RV ι _ _) |> fun h1=>RVs.cons h1 (dT0 c as bs h.2)
theorem mO0{θ:Nat->AV}(c:Fit θ){ι:gb0}:∀ (a b:List (List AV)),wU0 ι a b=true->RVr ι (dI0 θ a) (dI0 θ b)
 | [],b,h=>by
  cases b with
  | nil=>exact⟨rfl,fun i hi=>by simp[dI0]at hi⟩
  | cons _ _=>simp[wU0]at h
 | a::as,b,h=>by
  cases b with
  | nil=>simp[wU0]at h
  | cons b bs=>
   simp only[wU0,ab]at h;simp only[dI0];have h1:=dT0 c a b h.1;have h2:=mO0 c as bs h.2;refine⟨by simp[h2.1],fun i hi d=>?_⟩;cases i with
   | zero=>exact h1
   | succ i=>exact h2.2 i (by simpa using hi) (by simpa using d)
end
end Go.Ab
namespace Go.Ab
open Go
variable [B6]
theorem rk0{P:Program}{o:Oper}{a:Act}{K g:Act->World->Prop}{Q Q':Exit->Act->World->Prop}(i:∀ e a w,Q e a w->e=.normal)(hk:∀ a w,K a w->g a w){r:Result Next}(h:o.upon P a K Q r):o.upon P a g Q' r:=by
 have hp:∀ c a w,¬ Q (.panic c) a w:=fun c a w b=>by cases i _ _ _ b
 have hl:¬ LetsOut Q:=fun ⟨a,w,b⟩=>by cases i _ _ _ b
 cases r with
 | ok n w' =>
  cases n with
  | value v=>exact hk _ _ h
  | skip=>exact hk _ _ h
  | defer d=>exact hk _ _ h
  | enter f args=>
   simp only[eF]at h ⊢;refine h.mono ?_;intro e j b;cases e with
   | returned v=>exact hk _ _ b
   | panicked c=>exact Am b (hp _ _ _)
   | outgrown=>exact Am b hl
  | row row args=>simp only[eF]at h ⊢;exact h.mono fun _ _ b=>hk _ _ b
  | _=>simp only[eF]at h
 | halt x w' =>
  cases x with
  | panic v=>simp only[eF]at h;exact Am h (hp _ _ _)
  | _=>simp only[eF]at h
theorem qj0{P:Program}{c:Array Oper}{o:Oper}{Q Q':Exit->Act->World->Prop}(g:∀ e a w,Q e a w->e=.normal){i:Nat}(hi:i<c.size)(m:∀ x j b,c[i]?=some x->x.guard=some (j,b)->j<c.size){K k:Act->World->Prop}(hk:∀ a w,K a w->k a w){a:Act}{w:World}
  (h:wpOp P c Q i K a w):wpOp P (c.push o) Q' i k a w:=by
 unfold wpOp at h ⊢;have e0:∀ j,j<c.size->(c.push o)[j]?=c[j]?:=fun j hj=>by rw[bA,Ae (by omega)]
 rw[e0 i hi];have l:c[i]?=some c[i]:=aH hi;rw[l]at h ⊢;simp only at h ⊢;have hw:de c[i] (yielded (c.push o) a.tmps)=de c[i] (yielded c a.tmps):=by
  unfold de;split
  ·rfl
  rename_i j b f;unfold yielded;rw[e0 j (m _ _ _ l f)]
 rw[hw];split at h
 ·rename_i d
  rw[Af d];rcases h with h | ⟨_,a2,n,h2⟩
  ·exact .inl (rk0 g hk h)
  cases g _ _ _ h2
 rename_i d;rw[Ae d];exact hk _ _ h
theorem oM0{P:Program}{c:Array Oper}{o:Oper}{Q:Exit->Act->World->Prop}(hg:∀ (i:Nat) (x:Oper) (j:Nat) (b:Bool),c[i]?=some x->x.guard=some (j,b)->j<c.size)(V:∀ e∈o.after,cz .any e=true->e.on<c.size)(he:∀ (i:Nat) (x:Oper) (e:Edge),c[i]?=some x->e∈x.after->cz .any e=true->e.on<i)
  (G:∀ p:Nat->Bool,fF0 c p->(∀ e∈o.after,cz .any e=true->p e.on=true)->∀ i,i<c.size->p i=true) :
  ∀ (fuel:Nat) (listed:Array Bool) (a:Act) (w:World),listed.size=c.size->fF0 c (fun j=>listed.getD j false)->left c.size (fun j=>listed.getD j false)=fuel ->
   wpAny P .any c (fun e a w=>e=.normal/\wpOp P (c.push o) Q c.size (Q .normal) a w) fuel listed a w->wpAny P .any (c.push o) Q (fuel+1) (listed.push false) a w:=by
 have q:∀ (l:Array Bool) (j:Nat),l.size=c.size->j<c.size->∀ d,(l.push false).getD j d=l.getD j d:=fun l j hl hj d=>by simp[eG,bA,show j≠l.size by omega]
 have v:∀ (l:Array Bool),l.size=c.size->∀ d,(l.push false).getD c.size d=false:=fun l hl d=>by simp only[eG,bA,hl,Al,Option.getD_some]
 have e0:∀ j,j<c.size->(c.push o)[j]?=c[j]?:=fun j hj=>by rw[bA,Ae (by omega)]
 have Y:(c.push o)[c.size]?=some o:=by rw[bA,Af rfl]
 have C:∀ (l:Array Bool),l.size=c.size->∀ i,i<c.size->(i∈bE .any (c.push o) (l.push false)↔i∈bE .any c l):=fun l hl i hi=>by
  rw[mem_ready,mem_ready,e0 i hi,q l i hl hi];constructor
  ·rintro ⟨h1,x,h2,H⟩
   refine⟨h1,x,h2,fun e k r=>?_⟩;have:=H e k r;rwa [q l e.on hl (by have:=he i x e h2 k r;omega)]at this
  rintro ⟨h1,x,h2,H⟩;refine⟨h1,x,h2,fun e k r=>?_⟩;rw[q l e.on hl (by have:=he i x e h2 k r;omega)];exact H e k r
 have K:∀ (l:Array Bool),l.size=c.size->fF0 c (fun j=>l.getD j false)->c.size∈bE .any (c.push o) (l.push false)->∀ i,i<c.size->l.getD i false=true:=fun l hl s z=>by
  rw[mem_ready,Y]at z;obtain⟨_,x,D,H⟩:=z;cases D;refine G _ s (fun e k r=>?_);have:=H e k r;by_cases hs:e.on<c.size
  ·rwa [q l e.on hl hs]at this
  exfalso;by_cases M:e.on=c.size
  ·rw[M,v l hl]at this;cases this
  have:(l.push false).getD e.on false=false:=by simp[eG,bA,show e.on≠l.size by omega,show ¬ e.on<l.size by omega]
  simp_all
 have bnd:∀ (l:Array Bool) i,i∈bE .any (c.push o) l->i<c.size\/i=c.size:=fun l i hi=>by obtain⟨_,x,D,_⟩:=mem_ready.1 hi;have:=(aL.1 D).1;simp at this;omega
 have full:∀ (l:Array Bool),l.size=c.size->(∀ i,i<c.size->l.getD i false=true)->bE .any c l=[]:=fun l hl hp=>by
  cases z:bE .any c l with
  | nil=>rfl
  | cons i is=>
   have hi:i∈bE .any c l:=by rw[z];simp
   obtain⟨h1,x,D,_⟩:=mem_ready.1 hi;have g:=(aL.1 D).1;have:=hp i g;simp[hl,g]at h1 this;rw[h1]at this;cases this
 have after:∀ (l:Array Bool) (a:Act) (w:World) (fuel:Nat),l.size=c.size->(∀ i,i<c.size->l.getD i false=true)->Q .normal a w->wpAny P .any (c.push o) Q fuel ((l.push false).setIfInBounds c.size true) a w:=fun l a w fuel hl hp Z=>by
  have n:bE .any (c.push o) ((l.push false).setIfInBounds c.size true)=[]:=by
   cases z:bE .any (c.push o) ((l.push false).setIfInBounds c.size true)with
   | nil=>rfl
   | cons i is=>
    have hi:i∈bE .any (c.push o) ((l.push false).setIfInBounds c.size true):=by rw[z];simp
    obtain⟨h1,_⟩:=mem_ready.1 hi;rcases bnd _ _ hi with g | rfl
    ·rw[getD_set_ne true (by omega),q l i hl g]at h1
     have:=hp i g;simp[hl,g]at h1 this;rw[h1]at this;cases this
    simp[hl]at h1
  cases fuel with
  | zero=>exact⟨n,Z⟩
  | succ f=>exact⟨fun _=>Z,fun i hi=>by rw[n]at hi;cases hi⟩
 have B:∀ (l:Array Bool),l.size=c.size->(∀ i,i<c.size->l.getD i false=true)->c.size∈bE .any (c.push o) (l.push false):=fun l hl hp=>by rw[mem_ready,Y,v l hl];refine⟨rfl,o,rfl,fun e k r=>?_⟩;rw[q l e.on hl (V e k r)];exact hp _ (V e k r)
 intro fuel
 induction fuel with
 | zero=>
  intro listed a w m s t h;have hp:=ln0 t;refine⟨fun n=>?_,fun i hi=>?_⟩
  ·have:=B listed m hp;rw[n]at this;cases this
  rcases bnd _ _ hi with g | rfl
  ·rw[C listed m i g,full listed m hp]at hi;cases hi
  refine wpOp_mono ?_ h.2.2;intro a' w' N;exact after listed a' w' 0 m hp N
 | succ fuel ih=>
  intro listed a w m s t h;refine⟨fun n=>?_,fun i hi=>?_⟩
  ·have h1:bE .any c listed=[]:=by
    cases z:bE .any c listed with
    | nil=>rfl
    | cons i is=>
     have hi:i∈bE .any c listed:=by rw[z];simp
     obtain⟨_,x,D,_⟩:=mem_ready.1 hi;have g:=(aL.1 D).1;rw[<- C listed m i g,n]at hi;cases hi
   have hp:∀ i,i<c.size->listed.getD i false=true:=fun i=>by
    induction i using gu with
    | _ i O=>
     intro g;cases hl:listed.getD i false with
     | true=>rfl
     | false=>
      have:i∈bE .any c listed:=mem_ready.2 ⟨by simp[m,g]at hl ⊢;exact hl,_,aH g,fun e k r=>by
       have:=he i _ e (aH g) k r;exact O e.on this (by omega)⟩
      rw[h1]at this;cases this
   have:=B listed m hp;rw[n]at this;cases this
  rcases bnd _ _ hi with g | rfl
  ·rw[C listed m i g]at hi
   refine qj0 (Q:=fun e a w=>e=.normal/\wpOp P (c.push o) Q c.size (Q .normal) a w) (fun _ _ _ hh=>hh.1) g (fun x j b h1 h2=>hg i x j b h1 h2) (fun a' w' hk=>?_) (h.2 i hi);have I:∀ j,(listed.setIfInBounds i true).getD j false=(j==i||listed.getD j false):=fun j=>by
    by_cases e:j=i
    ·subst e;simp[m,g]
    rw[getD_set_ne false (kr e)];have:(j==i)=false:=by simpa using e
    rw[this];rfl
   have u:(fun j=>(listed.setIfInBounds i true).getD j false)=(fun j=>j==i||listed.getD j false):=funext I;obtain⟨r1,x,r2,r3⟩:=mem_ready.1 hi;have R:listed.getD i false=false:=by simp[m,g]at r1 ⊢;exact r1
   have e1:(listed.push false).setIfInBounds i true=(listed.setIfInBounds i true).push false:=by
    apply Array.ext_getElem?;intro j;by_cases S:j=i
    ·subst S
     rw[fL (by simp;omega),bA,Ae (by simp;omega),fL (by omega)]
    rw[gw (kr S),bA,bA];simp only[Array.size_setIfInBounds];split
    ·rfl
    rw[gw (kr S)]
   rw[e1];refine ih _ a' w' (by simp[m]) ?_ ?_ hk
   ·rw[u]
    intro j oj E U e k r;by_cases J:j=i
    ·subst J
     rw[r2]at E;cases E;simp[r3 e k r]
    have:listed.getD j false=true:=by simpa[J]using U
    simp[s j oj E this e k r]
   rw[u];have:=og0 (p:=fun j=>listed.getD j false) g R;omega
  have hp:=K listed m s hi;have h0:=h.1 (full listed m hp);refine wpOp_mono ?_ h0.2;intro a' w' N;exact after listed a' w' _ m hp N
theorem rm0{P:Program}{T:Tab}(hT:C0 P T){cl:FuncId->List AV->j3->Option (AV×j3)}
  (D:∀ f args σ v σ',cl f args σ=some (v,σ')->B4 P f args σ (fun H m=>H=v/\m=σ')/\J1 σ σ')
  {ops:Array Oper} {s s':AS} (h:W4 T cl ops s=some s') {G:j4} {a:Act} {w:World} (b:W6 G s a w) {Q:Exit->Act->World->Prop}
  (I:∀ G' a' w',fA0 s.st.next G s.st w G' s'.st w'->W6 G' s' a' w'->Q .normal a' w'):wpAny P .any ops Q ops.size (bn ops.size false) a { w with drawn:=w.drawn+1 }:=by
 unfold W4 at h;split at h
 case isFalse=>cases h
 rename_i hst;split at h
 case h_2=>cases h
 rename_i s1 fs J;split at h
 case isFalse=>cases h
 rename_i hdyn;cases h;obtain⟨evs,sts,l1,l2,l3,K,q,g1,g2,g3⟩:=mn0 hT D ops.toList 0 _ _ fs (fun j=>by simp) (by simp) (ax _) J;simp only[fR]at l1 l2 l3;have r:Lex P ops s.n s.st.next fs evs sts { s with st:={ s.st with next:=s.st.next+ops.size } }:=⟨hst,hdyn,l1,l2,l3,fun j o f ev st h1 h2 M N=>by
  have:=q j o f ev st (by simpa using h1) h2 M N;simpa using this⟩
 have i:left ops.size (fun j=>(bn ops.size false).getD j false)=ops.size:=by
  unfold left;rw[fW.2 (fun x z=>by
   have:x<ops.size:=by simpa using z
   simp[this])]
  simp
 have B:∀ j,(bn ops.size false).getD j false=false:=fun j=>by by_cases hj:j<ops.size<;>simp[hj]
 refine Way.any r (G0:=G) (σ0:=s.st) (w0:=w) _ ?_ ops.size (bn ops.size false) G s.get { s.st with next:=s.st.next+ops.size } a { w with drawn:=w.drawn+1 } (by simp) i ?_
 ·intro p G' tm σ a' w' hw hp
  have agree:∀ {L V:Type} (us:List (L->Option V)) (f:L->V),us.length=ops.size->fold p us 0 f=fold (fun _=>true) us 0 f:=fun us f hl=>funext fun l=>M1 l us 0 f f rfl (fun j u hu C=>by
   have hj:j<ops.size:=by have:=(ar.1 hu).1;omega
   rw[aG]at C;exact Am (hp j hj) C)
  have d:σ.next=s'.st.next:=by rw[hw.nx,agree _ _ (by simp[l1]),g3]
  have g:∀ k,σ.objs k=s'.st.objs k:=fun k=>by rw[hw.ob,agree _ _ (by simp[l1]),g2]
  have E:∀ t,tm t=s'.get t:=fun t=>by rw[hw.tm,agree _ _ (by simp[l1]),g1]
  exact I G' a' w' ⟨hw.tran.le,hw.tran.keeps,by rw[<- d];exact hw.tran.next,hw.tran.fr.trans (Fr.less fun k x z=>by rw[g];exact z)⟩ ⟨hw.rel.defers,by rw[hw.rel.size,K],fun t=>by rw[<- E];exact hw.rel.tmps t,hw.rel.rel.less d.symm (fun k x z=>by rw[g];exact z)⟩
 have c:∀ {L V:Type} (us:List (L->Option V)) (f:L->V) (l:L),fold (fun j=>(bn ops.size false).getD j false) us 0 f l=f l:=fun us f l=>ay0 l us 0 f _ (fun j u _ hp=>by rw[B]at hp;cases hp) rfl;refine⟨⟨b.defers,b.size,b.tmps,(b.rel.next (bc _ _)).drawn _⟩,fun t=>(c _ _ _).symm,fun k=>(c _ _ _).symm,(c (evs.map fun e=>fun _:Unit=>e.uN) (fun _=>s.st.next+ops.size) ()).symm,fun j _ _=>b.rel.fresh _ (bc _ _),(fun j o _ hp=>by rw[B]at hp;cases hp),ax _,?_⟩;exact⟨.refl G,.refl _ G,bc _ _,(Fr.less (σ:=s.st) (σ':={ s.st with next:=s.st.next+ops.size }) (fun _ _ h=>h)).trans (Fr.draws _ _ _ _ (bc _ _))⟩
def aK0(a:Array Oper)(o:Oper):Bool :=
 (aJ a.size).all (fun i=>(anc1 (dq0 a.toList []) o).testBit i)&&o.after.all (fun e=>!Region.binds .any e||decide (e.on<a.size)) &&
 (aJ a.size).all (fun i=>match a[i]? with
  | some x=>(match x.guard with | some (j,_)=>decide (j<a.size) | none=>true)&&x.after.all (fun e=>!Region.binds .any e||decide (e.on<i))
  | none=>true)
theorem kv0{a:Array Oper}{o:Oper}(h:aK0 a o=true):∀ p:Nat->Bool,fF0 a p->(∀ e∈o.after,cz .any e=true->p e.on=true)->∀ i,i<a.size->p i=true:=by
 intro p c d i hi;unfold aK0 at h;simp only[ab]at h;have k:=aj.1 h.1.1 i (by simpa using hi);unfold anc1 at k;rcases ka0 _ i _ _ k with f | ⟨e,he,b,f⟩
 ·simp at f
 have g:=d e (by simpa using he) b;rcases f with rfl | f
 ·exact g
 have j:e.on<a.size:=by have:=cX.1 h.1.2 e (by simpa using he);simpa[b]using this
 exact by0 c e.on _ (aH j) (c e.on _ (aH j) g) i f
theorem sT0{P:Program}{c:Array Oper}{o:Oper}{Q Q':Exit->Act->World->Prop}(g:∀ e a w,Q e a w->e=.normal){i:Nat}(hi:i<c.size)(m:∀ x j b,c[i]?=some x->x.guard=some (j,b)->j<c.size){K k:Act->World->Prop}(hk:∀ a w,K a w->k a w){a:Act}{w:World}
  (h:wpOp P (c.push o) Q i K a w):wpOp P c Q' i k a w:=by
 unfold wpOp at h ⊢;have e0:∀ j,j<c.size->(c.push o)[j]?=c[j]?:=fun j hj=>by rw[bA,Ae (by omega)]
 rw[e0 i hi]at h;have l:c[i]?=some c[i]:=aH hi;rw[l]at h ⊢;simp only at h ⊢;have hw:de c[i] (yielded (c.push o) a.tmps)=de c[i] (yielded c a.tmps):=by
  unfold de;split
  ·rfl
  rename_i j b f;unfold yielded;rw[e0 j (m _ _ _ l f)]
 rw[hw]at h;split at h
 ·rename_i d
  rw[Af d];rcases h with h | ⟨_,a2,n,h2⟩
  ·exact .inl (rk0 g hk h)
  cases g _ _ _ h2
 rename_i d;rw[Ae d];exact hk _ _ h
theorem ls0{P:Program}{c:Array Oper}{o:Oper}{Q:Exit->Act->World->Prop}(d:∀ e a w,Q e a w->e=.normal)(f:∀ (i:Nat) (x:Oper) (j:Nat) (b:Bool),c[i]?=some x->x.guard=some (j,b)->j<c.size) :
  ∀ (l:List Nat) (a:Act) (w:World),(∀ i∈l,i<c.size)->wpOps P (c.push o) Q (l++[c.size]) a w->wpOps P c (fun e a w=>e=.normal/\wpOp P (c.push o) Q c.size (Q .normal) a w) l a w
 | [],a,w,_,h=>by simp only[aT]at h;rw[wpOps_cons]at h;exact⟨rfl,h⟩
 | i::l,a,w,hl,h=>by rw[dB,wpOps_cons]at h;rw[wpOps_cons];exact sT0 d (hl i (by simp)) (fun x j b h1 h2=>f i x j b h1 h2) (fun a' w' hk=>ls0 d f l a' w' (fun j hj=>hl j (by simp[hj])) hk) h
theorem V4{P:Program}{md:Region.Mode}{ops:Array Oper}{Q Q':Exit->Act->World->Prop}(b:∀ e a w,Q e a w->e=.normal)(h:∀ a w,Q .normal a w->Q' .normal a w):∀ (fuel:Nat) (listed:Array Bool) (a:Act) (w:World),wpAny P md ops Q fuel listed a w->wpAny P md ops Q' fuel listed a w
 | 0,_,a,w,⟨h1,h2⟩=>⟨h1,h a w h2⟩
 | fuel+1,listed,a,w,⟨h1,h2⟩=>⟨fun c=>h a w (h1 c),fun i hi=>by
   have:=h2 i hi;unfold wpOp at this ⊢;split at this
   ·exact V4 b h fuel _ _ _ this
   split at this
   ·rename_i hw
    rw[Af hw];rcases this with this | ⟨_,a2,f,d⟩
    ·exact .inl (rk0 b (fun a' w' hk=>V4 b h fuel _ _ _ hk) this)
    cases b _ _ _ d
   rename_i hw;rw[Ae hw];exact V4 b h fuel _ _ _ this⟩
def T1:List Oper->List Oper->Bool
 | _,[]=>true
 | l0,o::t=>aK0 ⟨l0⟩ o&&T1 (l0++[o]) t
theorem push_mk(l:List Oper)(o:Oper):(⟨l⟩:Array Oper).push o=⟨l++[o]⟩:=by apply dm;simp
theorem dA0{a:Array Oper}{o:Oper}(hl:aK0 a o=true):(∀ (i:Nat) (x:Oper) (j:Nat) (b:Bool),a[i]?=some x->x.guard=some (j,b)->j<a.size)/\(∀ e∈o.after,cz .any e=true->e.on<a.size) /\
  (∀ (i:Nat) (x:Oper) (e:Edge),a[i]?=some x->e∈x.after->cz .any e=true->e.on<i):=by
 have c:=hl;unfold aK0 at c;simp only[ab]at c;refine⟨fun i x j b d g=>?_,fun e he f=>?_,fun i x e d he f=>?_⟩
 ·have:=aj.1 c.2 i (by simpa using(aL.1 d).1)
  simp only[d,g,ab,Ad]at this;exact this.1
 ·have:=cX.1 c.1.2 e he
  simpa[f]using this
 have:=aj.1 c.2 i (by simpa using(aL.1 d).1);simp only[d,ab]at this;have:=cX.1 this.2 e he;simpa[f]using this
theorem dG0:∀ (t l0:List Oper) (o:Oper),T1 l0 (t++[o])=true->T1 l0 t=true/\aK0 ⟨l0++t⟩ o=true
 | [],l0,o,h=>by simp only[aT,T1,Bool.and_true]at h;exact⟨rfl,by simpa using h⟩
 | x::t,l0,o,h=>by simp only[dB,T1,ab]at h ⊢;obtain⟨h1,h2⟩:=dG0 t (l0++[x]) o h.2;exact⟨⟨h.1,h1⟩,by simpa using h2⟩
theorem mK0{P:Program}{b:Array Oper}{o:Oper}(hl:aK0 b o=true){Q:Exit->Act->World->Prop}{a:Act}{w:World}(h:wpAny P .any b (fun e a w=>e=.normal/\wpOp P (b.push o) Q b.size (Q .normal) a w) b.size (bn b.size false) a w) :
  wpAny P .any (b.push o) Q (b.size+1) (bn (b.size+1) false) a w:=by
 obtain⟨h1,h2,f⟩:=dA0 hl;have d:∀ j,(bn b.size false).getD j false=false:=fun j=>by by_cases hj:j<b.size<;>simp[hj]
 have c:left b.size (fun j=>(bn b.size false).getD j false)=b.size:=by
  unfold left;rw[fW.2 (fun x g=>by
   have:x<b.size:=by simpa using g
   simp[this])]
  simp
 have e1:bn (b.size+1) false=(bn b.size false).push false:=by
  apply Array.ext
  ·simp
  intro j h1 h2;simp[Array.getElem_push]
 rw[e1];exact oM0 h1 h2 f (kv0 hl) b.size _ a _ (by simp) (fun j o' _ hp=>by rw[show (fun j=>(bn b.size false).getD j false) j=false from d j]at hp;cases hp) c h
theorem iN0{P:Program}{l0:List Oper}:∀ (n:Nat) (t:List Oper),t.length=n->T1 l0 t=true->∀ {Q:Exit->Act->World->Prop},(∀ e a w,Q e a w->e=.normal)->∀ {a:Act} {w:World},
  wpAny P .any ⟨l0⟩ (fun e a w=>e=.normal/\wpOps P ⟨l0++t⟩ Q (dx l0.length t.length) a w) l0.length (bn l0.length false) a w->wpAny P .any ⟨l0++t⟩ Q (l0++t).length (bn (l0++t).length false) a w
 | 0,t,d,_,Q,f,a,w,h=>by
  have:t=[]:=by simpa using d
  subst this;rw[List.append_nil];refine V4 (Q:=fun e a w=>e=.normal/\wpOps P ⟨l0++[]⟩ Q (dx l0.length ([]:List Oper).length) a w) (fun _ _ _ c=>c.1) ?_ _ _ _ _ h;rintro a' w' ⟨_,h2⟩;simpa[wpOps]using h2
 | n+1,t,d,j,Q,f,a,w,h=>by
  obtain⟨b,o,rfl⟩:∃ b o,t=b++[o]:=by
   rcases List.eq_nil_or_concat t with rfl | ⟨b,o,rfl⟩
   ·simp at d
   exact⟨b,o,by simp⟩
  obtain⟨h1,h2⟩:=dG0 b l0 o j;have e1:(⟨l0++(b++[o])⟩:Array Oper)=(⟨l0++b⟩:Array Oper).push o:=by rw[push_mk];simp
  have e2:(l0++(b++[o])).length=(⟨l0++b⟩:Array Oper).size+1:=by simp;omega
  rw[e1,e2];refine mK0 h2 ?_;refine iN0 n b (by simpa using d) h1 (fun e a w c=>c.1) ?_;refine V4 (fun _ _ _ c=>c.1) ?_ _ _ _ _ h;rintro a' w' ⟨_,g⟩;refine⟨rfl,?_⟩;rw[e1]at g;refine ls0 f (dA0 h2).1 _ a' w' (fun i hi=>by simp at hi ⊢;omega) ?_;have e3:dx l0.length (b++[o]).length=dx l0.length b.length++[(⟨l0++b⟩:Array Oper).size]:=by simp[List.range'_concat]
  rw[<- e3];exact g
theorem BWp.drawnTail{P:Program}{T:Tab}(hT:C0 P T)(hm:P.follows .mixedOrders=true){cl:FuncId->List AV->j3->Option (AV×j3)}
  (l:∀ f args σ v σ',cl f args σ=some (v,σ')->B4 P f args σ (fun z g=>z=v/\g=σ')/\J1 σ σ')
  {id n:Nat} {l0 t:List Oper} (hl:T1 l0 t=true) {s s':AS} (h:W4 T cl ⟨l0⟩ s=some s') {Q:Exit->AS->Prop}
  (b:ae0 P ⟨l0++t⟩ s'.st.next n (fun s2=>Q .normal s2) (dx l0.length t.length) { s' with st:={ s'.st with next:=s'.st.next+(l0++t).length } }):BWp P n (.region id ⟨l0++t⟩ true) Q s:=by
 intro m G a w i;refine wp_region_any hm ?_;have key:=iN0 (P:=P) (l0:=l0) t.length t rfl hl (Q:=fun e a' w'=>e=.normal/\∃ s2 d,S8 n G s.st w d s2.st w'/\W6 d s2 a' w'/\Q .normal s2) (fun _ _ _ o=>o.1) (a:=a) (w:={ w with drawn:=w.drawn+1 }) ?_
 ·refine V4 (fun _ _ _ o=>o.1) ?_ _ _ _ _ key
  rintro a' w' ⟨_,s2,d,c,p,q⟩;exact⟨s2,d,c,p,q⟩
 refine rm0 hT l h i (fun G' a' w' x k=>⟨rfl,?_⟩);have r:W6 G' { s' with st:={ s'.st with next:=s'.st.next+(l0++t).length } } a' w':=⟨k.defers,k.size,k.tmps,k.rel.next (bc _ _)⟩;have:=b G' a' w' r (fun j hj=>⟨by simp at hj ⊢;omega,k.rel.fresh _ (bc _ _)⟩) (ax _) (bC m x.next);have u:=x.toB (n:=n) m m;refine B3 ?_ _ _ _ this;rintro e a2 B ⟨rfl,s2,d,c,p,q⟩;exact⟨rfl,s2,d,u.trans ⟨c.w0,c.imm,c.pl,c.nx,(Fr.less (σ:=s'.st) (σ':={ s'.st with next:=s'.st.next+(l0++t).length }) (fun _ _ h=>h)).trans c.fr⟩ (ax _),p,q⟩
end Go.Ab
namespace Go.Ab
open Go
variable [B6]
mutual
def AV.nilz:AV->AV
 | .sc (.slice none 0 0)=>.rs []
 | .rs es=>.rs (rA0 es)
 | .agg cs=>.agg (ms0 cs)
 | .tup cs=>.tup (ms0 cs)
 | v=>v
def ms0:List AV->List AV
 | []=>[]
 | c::cs=>c.nilz::ms0 cs
def rA0:List (List AV)->List (List AV)
 | []=>[]
 | c::cs=>ms0 c::rA0 cs
end
theorem gr0:∀ l,ms0 l=l.map AV.nilz
 | []=>by simp[ms0]
 | c::cs=>by simp[ms0,gr0 cs]
theorem ox0:∀ l,rA0 l=l.map (bZ AV.nilz)
 | []=>by simp[rA0]
 | c::cs=>by simp[rA0,gr0,ox0 cs]
mutual
theorem el0{G:j4}{θ:Nat->AV}:∀ (v:AV) (u:Value),Rep G (v.sub θ) u->Rep G (v.nilz.sub θ) u
 | .sc v,u,h=>by
  by_cases hv:v=.slice none 0 0
  ·subst hv
   simp only[AV.sub]at h;cases h;simp only[AV.nilz,AV.sub,dI0];exact .rsNil
  have:(AV.sc v).nilz=.sc v:=by
   unfold AV.nilz;split
   ·rename_i e;cases e;exact(hv rfl).elim
   ·rename_i e;cases e
   ·rename_i e;cases e
   ·rename_i e;cases e
   rfl
  rw[this];exact h
 | .rs es,u,h=>by
  have d:=kF0 (G:=G) (θ:=θ) es;simp only[AV.nilz,AV.sub,bm0,ox0]at h ⊢;generalize g:es.map (bZ (AV.sub θ))=xs at h;cases h with
  | rsNil=>
   have:es=[]:=by simpa using g
   subst this;exact .rsNil
  | rs _ a cap size val hs hc hlen himm hrep=>
   subst g;have hl:(es.map (bZ (AV.sub θ))).length=((es.map (bZ AV.nilz)).map (bZ (AV.sub θ))).length:=by simp
   rw[hl];refine .rs _ a cap size val hs (by rw[<- hl];exact hc) (fun i hi=>?_) (fun i j hi hj=>himm i j (by rw[hl];exact hi) hj) (fun i j hi hj=>?_)
   ·have:=hlen i (by rw[hl];exact hi)
    simpa using this
   have b:i<es.length:=by simpa using hi
   have f:j<es[i].length:=by simpa using hj
   have:=hrep i j (by simpa using b) (by simpa using f);simp only[cn]at this ⊢;exact d _ (aw b) _ (aw f) _ this
 | .agg cs,u,h=>by
  have d:=ep0 (G:=G) (θ:=θ) cs;simp only[AV.nilz,AV.sub,G4,gr0]at h ⊢;cases h with
  | agg _ vs h1 h2=>
   refine .agg _ vs (by simpa using h1) (fun i hi b=>?_);have c:i<cs.length:=by simpa using hi
   have:=h2 i (by simpa using c) b;simp only[cn]at this ⊢;exact d _ (aw c) _ this
 | .tup cs,u,h=>by
  have d:=ep0 (G:=G) (θ:=θ) cs;simp only[AV.nilz,AV.sub,G4,gr0]at h ⊢;cases h with
  | tup _ vs h1 h2=>
   refine .tup _ vs (by simpa using h1) (fun i hi b=>?_);have c:i<cs.length:=by simpa using hi
   have:=h2 i (by simpa using c) b;simp only[cn]at this ⊢;exact d _ (aw c) _ this
 | .any,u,h=>h
 | .rp _,u,h=>h
 | .ms _ _ _ _,u,h=>h
 | .mp _ _ _,u,h=>h
 | .mm _,u,h=>h
 | .it _,u,h=>h
 | .fn _ _ _,u,h=>h
 | .sy _,u,h=>h
 | .ss _ _ _,u,h=>h
 | .xp _ _ _,u,h=>h
 | .rm _,u,h=>h
theorem ep0{G:j4}{θ:Nat->AV}:∀ (l:List AV) (v:AV),v∈l->∀ u,Rep G (v.sub θ) u->Rep G (v.nilz.sub θ) u
 | [],_,hv,_,_=>by simp at hv
 | c::cs,v,hv,u,h=>by
  rcases aC.1 hv with e | hv
  ·rw[e]at h ⊢;exact el0 c u h
  exact ep0 cs v hv u h
theorem kF0{G:j4}{θ:Nat->AV}:∀ (l:List (List AV)) (r:List AV),r∈l->∀ v,v∈r->∀ u,Rep G (v.sub θ) u->Rep G (v.nilz.sub θ) u
 | [],_,a,_,_,_,_=>by simp at a
 | c::cs,r,a,v,hv,u,h=>by
  rcases aC.1 a with e | a
  ·rw[e]at hv;exact ep0 c v hv u h
  exact kF0 cs r a v hv u h
end
inductive RO where
 | bin (o:BinOp) (t:TypeId) (x y:AV)
 | un (o:UnOp) (x:AV)
 | conv (s d:TypeId) (x:AV)
 | pick (c a b:AV)
 | idx (t:TypeId) (x i:AV)
 | index (t:TypeId) (x i:AV)
 | slc (t:TypeId) (x:AV) (lo hi:Option AV)
 | len (t:TypeId) (x:AV)
 | mx (l:List AV)
 | mn (l:List AV)
 | cat (sT xT:TypeId) (x y:AV)
 | call (f:FuncId) (args:List AV) (flat:Bool)
 | rows (l:List Nat)
 | look (t:TypeId) (c ix:AV) (ok:Bool)
 | lookr (t:TypeId) (x ix:AV) (ok:Bool)
 | mput (t:TypeId) (c ix v:AV)
 | mlen (t:TypeId) (c:AV)
 | nop
 | inb (t:TypeId) (c i:AV)
 | xld (t e:TypeId) (z:Nat) (c i:AV) (off:Nat)
 | xst (t e:TypeId) (z:Nat) (c i:AV) (off:Nat) (v:AV)
 | isp (x:AV)
 | opn (n:Nat) (x:AV)
 | zer (sT:TypeId) (x:AV)
 | gl (t:TypeId) (g:Nat)
 | xin (c i:AV) (off:Nat)
 | iss (x:AV)
 | more (s p:AV)
 | sdec (s p:AV)
 | ownr (cols:bt0) (x:AV)
abbrev H7:=FuncId->Option (List AV->Option AV)
abbrev XT:Nat:=1000000
def sB0(P:Program)(f:FuncId)(φ:List AV->Option AV):Prop:=∀ v z rest c,φ (v::.sc (.int .i64 (z:Nat))::rest)=some c->∃ es a,v=.rs es/\c=.rs a/\a.length=es.length /\
 ∀ σ id e restv,σ.objs id=some (.row e z es)->(∀ G vs w,B8 G restv vs->Rel G (σ.del id) w->B8 (G.frozen (σ.del id) w (fun _=>none)) rest vs) ->
  B4 P f (.ms id z 0 es.length::restv) σ (fun v σ'=>v=.tup []/\σ'=σ.set id (.row e z a))
structure il0(P:Program)(Φ:H7):Prop where
 memo:∀ f φ,f<XT->Φ f=some φ->∀ args c,φ args=some c->E0 P ⟨f,args,c⟩
 sort:∀ f φ,Φ (XT+f)=some φ->sB0 P f φ
def H7.fn(Φ:H7)(f:FuncId):Option (List AV->Option AV):=match cm f XT with
 | true=>Φ f
 | false=>none
def fnTold(Φ:H7):AV->Bool
 | .fn (.func g) _ _=>(Φ.fn g).isSome
 | .fn _ _ _=>false
 | _=>true
def H7.at(Φ:H7)(f:FuncId)(args:List AV):Option (List AV->Option AV):=match args.all (fnTold Φ)with
 | true=>Φ.fn f
 | false=>none
theorem H7.at_fn{Φ:H7}{f:FuncId}{args:List AV}{φ:List AV->Option AV}(h:Φ.at f args=some φ):Φ.fn f=some φ:=by
 unfold H7.at at h;split at h
 ·exact h
 cases h
theorem H7.fn_eq{Φ:H7}{f:FuncId}{φ:List AV->Option AV}(h:Φ.fn f=some φ):f<XT/\Φ f=some φ:=by
 unfold H7.fn at h;split at h
 ·rename_i a;exact⟨by simpa using a,h⟩
 cases h
def tA0(T:Tab)(sT xT:TypeId)(a b:AV):Option AV :=
 match T sT,T xT with
 | some { und:=.slice elem,.. },some e=>
  match T elem with
  | some d=>match a,b with
   | .rs es,.rs xs=>if e.isInt=false/\(xs.all fun c=>c.length==d.size&&c.all AV.one)=true/\(2*(es.length+xs.length)+1000)*d.bytes<=2^48/\es.length+xs.length<=2^62/\0<d.size then
     some (.rs (es++xs))else none
   | _,_=>none
  | none=>none
 | _,_=>none
def dr0(c:AV):j3:=j3.none.set 0 (O8 c)
def on0(b:Bool)(l:List Int):List AV->Bool
 | r=>cu0 b l (D5 0 r).1
def O1(k v:AV)(b:Bool)(l:List Int):List (List AV)->List (List AV)
 | []=>[[k,v]]
 | r::rs=>match on0 b l r with
  | true=>[k,v]::rs
  | false=>r::O1 k v b l rs
def gL0:l6->Option AV
 | .xmap c=>some c
 | .map false [] 0=>some (.rs [])
 | _=>none
theorem jm0(i j:Nat)(r:List AV):(D5 i r).1=(D5 j r).1:=by unfold D5;split<;>rfl
theorem fv0(b:Bool)(l:List Int):∀ (es:List (List Int×AV×Nat)) (k:Nat),I7 b l es (k+1)=(I7 b l es k).map (fun p=>(p.1+1,p.2))
 | [],_=>rfl
 | e::es,k=>by
  simp only[I7];split
  ·rfl
  exact fv0 b l es (k+1)
theorem of0{ix v:AV}{b:Bool}{l:List Int}(hk:ix.key=some (b,l)):∀ (rs:List (List AV)) (j:Nat),y3 j (O1 ix v b l rs)=(mput b l v (j+rs.length) (y3 j rs)).1
 | [],j=>by simp[O1,y3,D5,hk,mput,I7]
 | r::rs,j=>by
  have a:=of0 (v:=v) hk rs (j+1);simp only[O1,on0,y3];have e0:cu0 b l (D5 j r).1=cu0 b l (D5 0 r).1:=by rw[jm0 j 0]
  split
  ·rename_i hc
   have e2:D5 j [ix,v]=(l,v,j):=by simp[D5,hk]
   have e3:=hU0 j r;simp only[y3,e2];generalize D5 j r=q at e0 e3;simp[mput,I7,e0,hc,e3]
  rename_i hc;simp only[y3,a];have e1:j+1+rs.length=j+(rs.length+1):=by omega
  simp only[mput,I7,e0,hc,aq,Ah,ay,e1];rw[fv0];cases I7 b l (y3 (j+1) rs) 0 with
  | none=>simp
  | some p=>simp
theorem rU0{ix v:AV}{b:Bool}{l:List Int}:∀ (rs:List (List AV)) (j:Nat),(O1 ix v b l rs).length=(mput b l v rs.length (y3 j rs)).2
 | [],j=>by simp[O1,mput,I7,y3]
 | r::rs,j=>by
  have a:=rU0 (ix:=ix) (v:=v) (b:=b) (l:=l) rs (j+1);simp only[O1,on0,y3];have e0:cu0 b l (D5 j r).1=cu0 b l (D5 0 r).1:=by rw[jm0 j 0]
  split
  ·rename_i hc
   simp[mput,I7,e0,hc]
  rename_i hc;simp only[ay,a];simp only[mput,I7,e0,hc,aq,Ah,ay];rw[fv0];cases I7 b l (y3 (j+1) rs) 0 with
  | none=>simp
  | some p=>simp
theorem iI0{T:Tab}{σ:j3}{id:Nat}{c ix v:AV}{t:TypeId}{b:Bool}{l:List Int}(j:σ.objs id=some (O8 c))(hk:ix.key=some (b,l)){f:j3}(h:C1 T (dr0 c) t (.mm 0) ix v=some f) :
  C1 T σ t (.mm id) ix v=some (σ.set id (O8 (.rs (O1 ix v b l (rowsOf c))))):=by
 have g:(dr0 c).objs 0=some (O8 c):=by simp[dr0,j3.objs_set]
 unfold C1 at h ⊢;split at h
 ·rename_i o p _ _ _ _ b' q k d
  rw[hk]at d;cases d;simp only[g,O8]at h;simp only[k,hk,j,O8];split at h
  ·rename_i hc
   rw[Af hc];have m:rowsOf c=[]:=by
    have:=hc.1;cases n:rowsOf c with
    | nil=>rfl
    | cons r rs=>rw[n]at this;simp[y3]at this
   have e9:∀ es:List (List AV),rowsOf (.rs es)=es:=fun _=>rfl;simp only[e9,m];simp[O1,aW0,hk,y3,D5]
  rename_i hc;rw[Ae hc];split at h
  ·rename_i a
   rw[Af a];have e9:∀ es:List (List AV),rowsOf (.rs es)=es:=fun _=>rfl;have e1:=of0 (v:=v) hk (rowsOf c) 0;have e2:=rU0 (ix:=ix) (v:=v) (b:=b) (l:=l) (rowsOf c) 0;simp only[aG]at e1;simp only[e9];generalize rowsOf c=rs at *;rw[e1,e2];have e3:aW0 rs=aW0 (O1 ix v b l rs):=by
    cases rs with
    | nil=>
     have:aW0 (O1 ix v b l [])=b:=by simp[O1,aW0,hk]
     rw[this];exact a.1
    | cons r rs=>
     simp only[O1];split
     ·have:aW0 ([ix,v]::rs)=b:=by simp[aW0,hk]
      rw[this];exact a.1
     unfold aW0;split
     ·rename_i e;cases e;rfl
     rename_i i;split
     ·rename_i e;cases e;exact Am rfl (i _ _ _)
     rfl
   rw[<- e3]
  cases h
 cases h
def dX0(e:TypeId)(z:Nat)(c:AV):j3:=j3.none.set 0 (.row e z (rowsOf c))
def isRs:AV->Bool
 | .rs _=>true
 | _=>false
def vx0(T:Tab)(sT:TypeId)(x:AV):Option AV :=
 match T sT with
 | some { und:=.slice elem,.. }=>match T elem with
  | some a=>match x with
   | .sc (.int _ n)=>if IntKind.i64.wrap n=n/\0<n/\(2*n.toNat+1000)*a.bytes<=2^48/\n.toNat<=2^62/\0<a.size then
     some (.rs (List.replicate n.toNat a.zeroCells))else none
   | _=>none
  | none=>none
 | _=>none
def j9(T:Tab)(Φ:H7)(θ:Nat->AV):RO->Option AV
 | .bin o t x y=>is0 T o t (x.sub θ) (y.sub θ)
 | .un o x=>aUn o (x.sub θ)
 | .conv s d x=>kx0 T s d (x.sub θ)
 | .pick c a b=>match c.sub θ with
  | .sc (.bool t)=>some (if t then a.sub θ else b.sub θ)
  | _=>none
 | .idx t x i=>D4 T t (x.sub θ) (i.sub θ)
 | .index t x i=>cm0 T t (x.sub θ) (i.sub θ)
 | .slc t x lo hi=>bx0 T t (x.sub θ) (lo.map (AV.sub θ)) (hi.map (AV.sub θ)) none
 | .len t x=>fZ0 T j3.none t (x.sub θ)
 | .mx l=>(uy0 (l.map (AV.sub θ))).map .sc
 | .mn l=>(uk0 (l.map (AV.sub θ))).map .sc
 | .cat sT xT x y=>tA0 T sT xT (x.sub θ) (y.sub θ)
 | .call f args flat=>match Φ f with
  | some φ=>match φ (args.map (AV.sub θ))with
   | some c=>if flat=true->pC0 c=true then some c else none
   | none=>none
  | none=>none
 | .rows l=>match l.all (fun j=>match θ j with | .rs _=>true | _=>false)with
  | true=>some (.sc (.bool true))
  | false=>none
 | .look t c ix ok=>G7 T (dr0 (c.sub θ)) t (.mm 0) (ix.sub θ) ok
 | .lookr t x ix ok=>G7 T j3.none t (x.sub θ) (ix.sub θ) ok
 | .mput t c ix v=>match C1 T (dr0 (c.sub θ)) t (.mm 0) (ix.sub θ) (v.sub θ)with
  | some _=>match (ix.sub θ).key with
   | some (b,l)=>some (.rs (O1 (ix.sub θ) (v.sub θ) b l (rowsOf (c.sub θ))))
   | none=>none
  | none=>none
 | .mlen t c=>fZ0 T (dr0 (c.sub θ)) t (.mm 0)
 | .nop=>some (.sc (.bool true))
 | .isp x=>match x.sub θ with
  | .rp _=>some (.sc (.bool true))
  | _=>none
 | .zer sT x=>vx0 T sT (x.sub θ)
 | .gl t g=>rZ0 T t g
 | .iss x=>match x.sub θ with
  | .sc (.string _)=>some (.sc (.bool true))
  | _=>none
 | .more s p=>match s.sub θ with
  | .sc (.string b)=>match p.sub θ with
   | .sc (.int .i64 n)=>some (.sc (.bool (decide (n.toNat<b.size))))
   | _=>none
  | _=>none
 | .ownr cols x=>match x.sub θ with
  | .rs rows=>match vl0 cols rows with
   | true=>some (.rs (rows.map (J5 cols 0)))
   | false=>none
  | _=>none
 | .sdec s p=>match s.sub θ with
  | .sc (.string b)=>match p.sub θ with
   | .sc (.int .i64 n)=>match decide (n.toNat<b.size)with
    | true=>some (.tup [.sc (.int .i64 n.toNat),.sc (.int .i32 (bV b n.toNat).1),.sc (.int .i64 (n.toNat+(bV b n.toNat).2:Nat))])
    | false=>none
   | _=>none
  | _=>none
 | .xin c i off=>match (rowsOf (c.sub θ))[Y8 (i.sub θ)]? with
  | some r=>match cm off r.length with
   | true=>some (.sc (.bool true))
   | false=>none
  | none=>none
 | .opn n x=>match x.sub θ with
  | .rp cs=>match aB cs.length n with
   | true=>some (.rp cs)
   | false=>none
  | _=>none
 | .inb t c i=>match D4 T t (.ms 0 (match T t with | some { und:=.slice h,.. }=>(match T h with | some k=>k.size | none=>0) | _=>0) 0 (rowsOf (c.sub θ)).length) (i.sub θ)with
  | some _=>some (.sc (.bool true))
  | none=>none
 | .xld t e z c i off=>U3 T (dX0 e z (c.sub θ)) t (.mp 0 (Y8 (i.sub θ)) off)
 | .xst t e z c i off v=>match U7 T (dX0 e z (c.sub θ)) t (.mp 0 (Y8 (i.sub θ)) off) (v.sub θ)with
  | some σ=>match σ.objs 0 with
   | some (.row _ _ es)=>match aB es.length (rowsOf (c.sub θ)).length with
    | true=>some (.rs es)
    | false=>none
   | _=>none
  | none=>none
def Z4:Tr l6->List Nat
 | .leaf=>[]
 | .node v l r=>(match v with | some (.xrow _ _ j)=>[j] | some (.xmap (.sy j))=>[j] | _=>[])++(Z4 l++Z4 r)
inductive RT where
 | stuck
 | ret (c:AV) (l:List Nat)
 | op (o:RO) (fr:Nat) (pat:AV) (r:RT)
 | test (i:Nat) (a b:RT)
 | loop (l k:Nat) (inits:List AV) (body:RT)
 | again (l:Nat) (vals:List AV)
def E3(T:Tab)(Φ:H7)(Q:AV->Prop):RT->(Nat->AV)->(Nat->List AV->Prop)->Prop
 | .stuck,_,_=>False
 | .ret c l,θ,_=>(∀ j∈l,∃ es,θ j=.rs es)/\Q (c.sub θ)
 | .op o fr pat r,θ,A=>∃ d,(∀ i,i<fr->d i=θ i)/\Fit d/\j9 T Φ θ o=some (pat.sub d)/\E3 T Φ Q r d A
 | .test i a b,θ,A=>(θ i=.sc (.bool true)/\E3 T Φ Q a θ A)\/(θ i=.sc (.bool false)/\E3 T Φ Q b θ A)
 | .loop l k inits body,θ,A=>∃ I:Nat->List AV->Prop,(∃ n,I n (inits.map (AV.sub θ)))/\∀ n vals,I n vals->vals.length=k->(∀ v∈vals,aU0 v) ->
   ∀ d,(∀ i,i<l->d i=θ i)->(∀ j (h:j<vals.length),d (l+j)=vals[j])->d (l+k)=.sc (.bool false)->Fit d->E3 T Φ Q body d (fun f=>if f=l then (fun e=>∃ m,m<n/\I m e)else A f)
 | .again l vals,θ,A=>A l (vals.map (AV.sub θ))
def be0(fr:Nat):Nat->List AV
 | 0=>[]
 | n+1=>.sy fr::be0 (fr+1) n
def uG0(T:Tab)(t:TypeId)(fr:Nat):Option (AV×Nat) :=
 match T t with
 | some ti=>if ti.isAgg then some (.agg (be0 fr ti.size),fr+ti.size)else some (.sy fr,fr+1)
 | none=>none
def patL(T:Tab):List TypeId->Nat->Option (List AV×Nat)
 | [],fr=>some ([],fr)
 | t::ts,fr=>match uG0 T t fr with
  | some (p,a)=>match patL T ts a with
   | some (ps,b)=>some (p::ps,b)
   | none=>none
  | none=>none
def patOf(T:Tab)(ts:List TypeId)(fr:Nat):Option (AV×Nat) :=
 match ts with
 | [t]=>uG0 T t fr
 | ts=>match patL T ts fr with
  | some (ps,a)=>some (.tup ps,a)
  | none=>none
def wf0(σ:j3)(elem:TypeId)(size:Nat):AV->Option (Option Nat×AV)
 | .sc (.slice none 0 0)=>some (none,.rs [])
 | .ms id _ 0 len=>match σ.objs id with
  | some (.row e a es)=>if len=es.length/\a=size/\e=elem then some (some id,.rs es)else none
  | _=>none
 | .ss id _ i=>match σ.objs id with
  | some (.xrow e a j)=>if j=i/\a=size/\e=elem then some (some id,.sy j)else none
  | _=>none
 | _=>none
def ssrc(σ:j3):AV->Option AV
 | .sc (.slice none 0 0)=>some (.rs [])
 | .sy i=>some (.sy i)
 | .rs es=>some (.rs es)
 | .ms id _ off len=>match σ.objs id with
  | some (.row _ _ es)=>if off+len<=es.length then some (.rs ((es.drop off).take len))else none
  | _=>none
 | .ss id _ i=>match σ.objs id with
  | some (.xrow _ _ j)=>if j=i then some (.sy j)else none
  | _=>none
 | _=>none
def isSyRs:AV->Bool
 | .sy _=>true
 | .rs _=>true
 | _=>false
def sApp(T:Tab)(σ:j3)(id:Nat)(sT xT:TypeId)(a c:AV)(fr:Nat):Option (RO×AV×AV×j3×Nat) :=
 match T sT with
 | some { und:=.slice elem,.. }=>match T elem with
  | some b=>match wf0 σ elem b.size a,ssrc σ c with
   | some (d,x),some y=>some (.cat sT xT x y,.sy fr,.ss id b.size fr,(match d with | some i=>σ.del i | none=>σ).set id (.xrow elem b.size fr),fr+1)
   | _,_=>none
  | none=>none
 | _=>none
def sZer(T:Tab)(σ:j3)(id:Nat)(sT:TypeId)(a c:AV)(fr:Nat):Option (RO×AV×AV×j3×Nat) :=
 match T sT with
 | some { und:=.slice elem,.. }=>match T elem with
  | some b=>match a with
   | .sc (.slice none 0 0)=>some (.zer sT c,.sy fr,.ss id b.size fr,σ.set id (.xrow elem b.size fr),fr+1)
   | _=>none
  | none=>none
 | _=>none
def src0(σ:j3)(i:Nat)(c:AV):Option AV:=match isSyRs c with
 | true=>some c
 | false=>match c with
  | .ms i2 z o l=>match aB i2 i with
   | true=>none
   | false=>ssrc σ (.ms i2 z o l)
  | _=>none
def vj0(T:Tab)(σ:j3)(id:Nat)(sT xT:TypeId)(a c:AV)(fr:Nat):Option (RO×AV×AV×j3×Nat) :=
 match T sT with
 | some { und:=.slice elem,.. }=>match T elem with
  | some b=>match a with
   | .ms i _ 0 0=>match σ.objs i with
    | some (.xrow e d _)=>match aB d b.size&&aB e elem,src0 σ i c with
     | true,some y=>some (.cat sT xT (.rs []) y,.sy fr,.ss id b.size fr,(σ.del i).set id (.xrow elem b.size fr),fr+1)
     | _,_=>none
    | _=>none
   | _=>none
  | none=>none
 | _=>none
def rv0(T:Tab)(σ:j3)(id:Nat)(b:Builtin)(ts:List TypeId)(args:List AV)(fr:Nat):Option (RO×AV×AV×j3×Nat) :=
 match b,ts,args with
 | .len,[t],[.sy i]=>some (.len t (.sy i),.sy fr,.sy fr,σ,fr+1)
 | .len,[t],[.ss _ _ i]=>match T t with
  | some { und:=.slice _,.. }=>some (.len t (.sy i),.sy fr,.sy fr,σ,fr+1)
  | _=>none
 | .max,_,l=>some (.mx l,.sy fr,.sy fr,σ,fr+1)
 | .min,_,l=>some (.mn l,.sy fr,.sy fr,σ,fr+1)
 | .append,[s,x],[a,c]=>match T x with
  | some { und:=.int _,.. }=>sZer T σ id s a c fr
  | _=>match vj0 T σ id s x a c fr with
   | some q=>some q
   | none=>sApp T σ id s x a c fr
 | .len,[t],[.mm m]=>match (σ.objs m).bind gL0 with
  | some c=>some (.mlen t c,.sy fr,.sy fr,σ,fr+1)
  | none=>none
 | _,_,_=>none
def gB0(σ:j3)(t:TypeId)(m k x:AV)(fr:Nat):Option (RO×AV×AV×j3×Nat) :=
 match m with
 | .mm id=>match (σ.objs id).bind gL0 with
  | some c=>some (.mput t c k x,.sy fr,.sc undef,σ.set id (.xmap (.sy fr)),fr+1)
  | none=>none
 | _=>none
def qq0:AV->Option (Nat×AV×Nat)
 | .xp id k off=>some (id,.sy k,off)
 | .mp id i off=>some (id,.sc (.int .i64 i),off)
 | _=>none
def isGlob(a:Operand->AV):Op->Bool
 | .load _ x=>(cl0 (a x)).isSome
 | _=>false
def aopX(T:Tab)(a:Operand->AV)(σ:j3)(id:Nat)(op:Op):Option (AV×j3):=match isGlob a op with
 | true=>none
 | false=>aop T a σ id op
theorem sm0{T:Tab}{a:Operand->AV}{σ:j3}{id:Nat}{op:Op}{r:AV×j3}(h:aopX T a σ id op=some r):aop T a σ id op=some r:=by
 unfold aopX at h;split at h
 ·cases h
 exact h
def sR0(T:Tab)(l:Operand->AV)(σ:j3)(id:Nat)(op:Op)(fr:Nat):Option (RO×AV×AV×j3×Nat) :=
 match op with
 | .binOp o t x y _=>some (.bin o t (l x) (l y),.sy fr,.sy fr,σ,fr+1)
 | .unOp o _ x=>some (.un o (l x),.sy fr,.sy fr,σ,fr+1)
 | .convert s d x=>some (.conv s d (l x),.sy fr,.sy fr,σ,fr+1)
 | .pick c a b=>some (.pick (l c) (l a) (l b),.sy fr,.sy fr,σ,fr+1)
 | .nilCheck x=>match l x with
  | .xp id k off=>some (.nop,.sc (.bool true),.xp id k off,σ,fr)
  | .sy i=>some (.isp (.sy i),.sc (.bool true),.sy i,σ,fr)
  | _=>none
 | .fieldAddr t x f=>match l x,T t with
  | .xp id k off,some { und:=.struct fields,.. }=>match fields[f]? with
   | some fd=>match T fd.type with
    | some B=>match aB B.size 0 with
     | true=>none
     | false=>some (.nop,.sc (.bool true),.xp id k (off+fd.offset),σ,fr)
    | none=>none
   | none=>none
  | .sy i,some ti=>match M7 T t (.rp (be0 fr ti.size)) f with
   | some v=>some (.opn ti.size (.sy i),.rp (be0 fr ti.size),v,σ,fr+ti.size)
   | none=>none
  | _,_=>none
 | .load t x=>match cl0 (l x)with
  | some g=>(match uG0 T t fr with
   | some (p,h)=>some (.gl t g,p,p,σ,h)
   | none=>none)
  | none=>match qq0 (l x)with
  | some (id,i,off)=>match σ.objs id,uG0 T t fr with
   | some (.xrow e z j),some (p,h)=>some (.xld t e z (.sy j) i off,p,p,σ,h)
   | some (.frow e z c cols k r v),some (p,h)=>match T t with
    | some ti=>match ti.isAgg with
     | true=>none
     | false=>match aB off r with
      | true=>match v,rmB i k with
       | some v0,true=>some (.xin c i off,.sc (.bool true),v0,σ,fr)
       | _,_=>none
      | false=>match cols.all (fun q=>!Nat.beq q.1 off)with
       | true=>some (.xld t e z c i off,p,p,σ,h)
       | false=>none
    | none=>none
   | _,_=>none
  | none=>match l x,T t with
   | .sy i,some ti=>match U3 T j3.none t (.rp (be0 fr ti.size))with
    | some v=>some (.opn ti.size (.sy i),.rp (be0 fr ti.size),v,σ,fr+ti.size)
    | none=>none
   | _,_=>none
 | .store t a x=>match qq0 (l a),T t,l x with
  | some (id,i,off),some ti,.ss m C j=>match σ.objs id with
   | some (.frow e z c cols k r (some _))=>match aB ti.size 1&&aB off r&&rmB i k with
    | true=>some (.xin c i off,.sc (.bool true),.sc undef,σ.set id (.frow e z c cols k r (some (.ss m C j))),fr)
    | false=>none
   | _=>none
  | _,_,_=>none
 | .indexAddr t x i=>match T t with
  | some { und:=.slice elem,.. }=>match T elem with
   | some u=>match l x with
    | .ss id z j=>match aB z u.size with
     | true=>match l i with
      | .sy k=>some (.inb t (.sy j) (.sy k),.sc (.bool true),.xp id k 0,σ,fr)
      | .sc (.int D n)=>some (.inb t (.sy j) (.sc (.int D n)),.sc (.bool true),.mp id n.toNat 0,σ,fr)
      | _=>none
     | false=>none
    | _=>some (.idx t (l x) (l i),.rp (be0 fr u.size),.rp (be0 fr u.size),σ,fr+u.size)
   | none=>none
  | _=>none
 | .index t x i=>match T t with
  | some { und:=.array _ e,.. }=>match uG0 T e fr with
   | some (p,h)=>some (.index t (l x) (l i),p,p,σ,h)
   | none=>none
  | _=>some (.index t (l x) (l i),.sy fr,.sy fr,σ,fr+1)
 | .slice t x lo hi none=>match T t,l x,lo.map l,hi.map l with
  | some { und:=.slice elem,.. },.ss id z _,none,some (.sc (.int _ 0))=>match T elem with
   | some u=>match aB z u.size with
    | true=>some (.nop,.sc (.bool true),.ms id z 0 0,σ,fr)
    | false=>none
   | none=>none
  | _,_,_,_=>some (.slc t (l x) (lo.map l) (hi.map l),.sy fr,.sy fr,σ,fr+1)
 | .call { callee:=.builtin b,args,argTypes }=>rv0 T σ id b argTypes.toList (args.toList.map l) fr
 | .lookup t x i ok=>match T t,l x with
  | some { und:=.map _ w,.. },.mm m=>match (σ.objs m).bind gL0 with
   | some c=>match uG0 T w fr with
    | some (p,h)=>match ok with
     | true=>some (.look t c (l i) true,.tup [p,.sy h],.tup [p,.sy h],σ,h+1)
     | false=>some (.look t c (l i) false,p,p,σ,h)
    | none=>none
   | none=>none
  | some { und:=.map _ w,.. },.sy m=>match uG0 T w fr with
   | some (p,h)=>match ok with
    | true=>some (.lookr t (.sy m) (l i) true,.tup [p,.sy h],.tup [p,.sy h],σ,h+1)
    | false=>some (.lookr t (.sy m) (l i) false,p,p,σ,h)
   | none=>none
  | some { und:=.map _ w,.. },.rm c=>match uG0 T w fr with
   | some (p,h)=>match ok with
    | true=>some (.lookr t (.rm c) (l i) true,.tup [p,.sy h],.tup [p,.sy h],σ,h+1)
    | false=>some (.lookr t (.rm c) (l i) false,p,p,σ,h)
   | none=>none
  | _,_=>none
 | .mapUpdate t m k x=>gB0 σ t (l m) (l k) (l x) fr
 | .insert t m k x=>gB0 σ t (l m) (l k) (l x) fr
 | _=>none
mutual
def AV.contP:AV->Bool
 | .sc _=>true
 | .sy _=>true
 | .rs es=>so0 es
 | .rp cs=>dt0 cs
 | .rm c=>c.contP
 | .fn _ a c=>dt0 a&&dt0 c
 | .agg cs=>dt0 cs
 | .tup cs=>dt0 cs
 | _=>false
def dt0:List AV->Bool
 | []=>true
 | c::cs=>c.contP&&dt0 cs
def so0:List (List AV)->Bool
 | []=>true
 | c::cs=>dt0 c&&so0 cs
end
def aV0(σ:j3):Nat->AV->Option AV
 | 0,_=>none
 | k+1,v=>match v.contP with
  | true=>some v
  | false=>match v with
   | .agg cs=>match kb0 (aV0 σ k) cs with
    | some l=>some (.agg l)
    | none=>none
   | .tup cs=>match kb0 (aV0 σ k) cs with
    | some l=>some (.tup l)
    | none=>none
   | .ms id _ off len=>match σ.objs id with
    | some (.row _ _ es)=>if off+len<=es.length then
      match tq0 (aV0 σ k) ((es.drop off).take len)with
      | some l=>some (.rs l)
      | none=>none else none
    | _=>none
   | .ss id _ i=>match σ.objs id with
    | some (.xrow _ _ j)=>if j=i then some (.sy j)else none
    | _=>none
   | .mp id 0 0=>match σ.objs id with
    | some (.row _ _ [cs])=>match kb0 (aV0 σ k) cs with
     | some l=>some (.rp l)
     | none=>none
    | _=>none
   | .mm id=>match σ.objs id with
    | some (.xmap (.sy j))=>some (.rm (.sy j))
    | some (.map false [] 0)=>some (.rm (.rs []))
    | _=>none
   | .fn f a c=>match kb0 (aV0 σ k) a,kb0 (aV0 σ k) c with
    | some a',some c'=>some (.fn f a' c')
    | _,_=>none
   | _=>none
def mR0(σ:j3)(args:List AV):Option (List AV×Bool) :=
 match dt0 args with
 | true=>some (args,false)
 | false=>match kb0 (aV0 σ 50) args with
  | some l=>some (l,true)
  | none=>none
def I1(σ:j3)(id:Nat)(o:l6):j3:=({ σ with tr:=.leaf }:j3).set id o
mutual
def AV.frz(σ1:j3):AV->AV
 | .agg cs=>.agg (kh0 σ1 cs)
 | .tup cs=>.tup (kh0 σ1 cs)
 | .fn f a c=>.fn f (kh0 σ1 a) (kh0 σ1 c)
 | .ss a z i=>(aV0 σ1 3 (.ss a z i)).getD (.ss a z i)
 | .mp a i j=>(aV0 σ1 3 (.mp a i j)).getD (.mp a i j)
 | v=>v
def kh0(σ1:j3):List AV->List AV
 | []=>[]
 | c::cs=>c.frz σ1::kh0 σ1 cs
end
def l6.frz(σ1:j3):l6->l6
 | .row e z es=>.row e z (es.map (kh0 σ1))
 | o=>o
def AS.frz(σ1:j3)(id:Nat)(s:AS):AS:={ n:=s.n,tr:=s.tr.map (AV.frz σ1),st:={ next:=s.st.next,tr:=(s.st.del id).tr.map (l6.frz σ1),low:=(s.st.del id).low } }
def mM0(s:AS):AV->Option Nat
 | .ss a z i=>match s.st.objs a with
  | some o=>match aV0 (I1 s.st a o) 3 (.ss a z i)with
   | some _=>some a
   | none=>none
  | none=>none
 | .mp a 0 0=>match s.st.objs a with
  | some o=>match aV0 (I1 s.st a o) 3 (.mp a 0 0)with
   | some _=>some a
   | none=>none
  | none=>none
 | _=>none
def oF0(s:AS):List AV->Option Nat
 | []=>none
 | v::l=>match mM0 s v with
  | some a=>some a
  | none=>oF0 s l
def frzOf(s:AS)(op:Op):Option (Nat×l6):=match (match op with
  | .call { callee:=.builtin .append,args:=⟨[_,c]⟩,argTypes:=_ }=>match s.eval c with
   | .ms id _ _ _=>match s.st.objs id with
    | some (.row _ _ es)=>oF0 s es.flatten
    | _=>none
   | _=>none
  | .mapUpdate _ _ _ x=>mM0 s (s.eval x)
  | .insert _ _ _ x=>mM0 s (s.eval x)
  | .slice _ x lo hi none=>match lo,hi.map s.eval with
   | none,some (.sc (.int _ 0))=>none
   | _,_=>match s.eval x with
    | .ss a z i=>mM0 s (.ss a z i)
    | _=>none
  | _=>none)with
 | some a=>match s.st.objs a with
  | some o=>some (a,o)
  | none=>none
 | none=>none
structure Hint where
 k:Nat
 slots:List AV
 objs:List (Nat×l6)
 next:Nat
def Hint.state(h:Hint):AS:=AS.enter h.slots.length h.slots { next:=h.next,tr:=Tr.ofList h.objs .leaf,low:=0 }
def ak0(l:Nat)(vals:List AV)(i:Nat):AV:=match di l i with
 | true=>(vals[i-l]?).getD (.sy i)
 | false=>.sy i
def py0:List (Nat×Option Nat)->Nat->Option (Option Nat)
 | [],_=>none
 | (a,b)::l,i=>match aB a i with
  | true=>some b
  | false=>py0 l i
def jr0(n:Nat)(l:List (Nat×Option Nat)):gb0:=fun i=>match cm i n with
 | true=>some (some i)
 | false=>py0 l i
structure Acc where
 vals:List (Nat×AV)
 io:List (Nat×Option Nat)
def Acc.addV(a:Acc)(j:Nat)(v:AV):Acc:=match a.vals.any (fun p=>aB p.1 j)with
 | true=>a
 | false=>{ a with vals:=(j,v)::a.vals }
def Acc.addI(a:Acc)(i:Nat)(k:Option Nat):Acc:=match a.io.any (fun p=>aB p.1 i)with
 | true=>a
 | false=>{ a with io:=(i,k)::a.io }
mutual
def um(σ:j3)(l:Nat)(acc:Acc):AV->AV->Acc
 | .sy j,b=>match di l j with
  | true=>acc.addV j b
  | false=>acc
 | .ss id _ j,.ss id' _ d=>(acc.addI id (some id')).addV j (.sy d)
 | .ss id _ j,.ms id' _ _ _=>match σ.objs id' with
  | some (.row _ _ es)=>(acc.addI id (some id')).addV j (.rs es)
  | _=>acc
 | .ss id _ j,.sc _=>(acc.addI id none).addV j (.rs [])
 | .mp id _ _,.mp id' _ _=>acc.addI id (some id')
 | .ms id _ _ _,.ms id' _ _ _=>acc.addI id (some id')
 | .mm id,.mm id'=>acc.addI id (some id')
 | .xp id k _,.xp id' e _=>(acc.addI id (some id')).addV k (.sy e)
 | .it id,.it id'=>acc.addI id (some id')
 | .agg a,.agg b=>umL σ l acc a b
 | .tup a,.tup b=>umL σ l acc a b
 | .rp a,.rp b=>umL σ l acc a b
 | .rm a,.rm b=>um σ l acc a b
 | .fn _ a c,.fn _ a' c'=>umL σ l (umL σ l acc a a') c c'
 | _,_=>acc
def umL(σ:j3)(l:Nat)(acc:Acc):List AV->List AV->Acc
 | a::as,b::bs=>umL σ l (um σ l acc a b) as bs
 | _,_=>acc
end
def umR(σ:j3)(l:Nat)(acc:Acc):List (List AV)->List (List AV)->Acc
 | a::as,b::bs=>umR σ l (umL σ l acc a b) as bs
 | _,_=>acc
def umO(σ:j3)(l:Nat)(acc:Acc):l6->l6->Acc
 | .row _ _ es,.row _ _ a=>umR σ l acc es a
 | .xrow _ _ j,.xrow _ _ b=>acc.addV j (.sy b)
 | .xrow _ _ j,.row _ _ es=>acc.addV j (.rs es)
 | .map _ es _,.map _ a _=>umL σ l acc (es.map (·.2.1)) (a.map (·.2.1))
 | .xmap (.sy j),.xmap c=>acc.addV j c
 | .xiter s p,.xiter s' d=>um σ l (um σ l acc s s') p d
 | .xmap (.sy j),.map _ [] _=>acc.addV j (.rs [])
 | _,_=>acc
def sw0(s:AS)(l:Nat):List AV->Nat->Acc->Acc
 | [],_,acc=>acc
 | a::as,t,acc=>sw0 s l as (t+1) (um s.st l acc a (s.get t))
def lq0(s:AS)(n l:Nat):List (Nat×l6)->Acc->Acc
 | [],acc=>acc
 | (i,o)::os,acc=>match jr0 n acc.io i with
  | some (some k)=>match s.st.objs k with
   | some o'=>lq0 s n l os (umO s.st l acc o o')
   | none=>lq0 s n l os acc
  | _=>lq0 s n l os acc
def guess(s:AS)(n l:Nat)(h:Hint):Acc:=lq0 s n l h.objs (lq0 s n l h.objs (sw0 s l h.slots 0 ⟨[],[]⟩))
def cV0(a:Acc)(l:Nat):Nat->List AV
 | 0=>[]
 | k+1=>((a.vals.find? (fun p=>aB p.1 l)).map (·.2)).getD (.sc (.bool false))::cV0 a (l+1) k
def fitB:AV->Bool
 | .sc (.int _ _)=>true
 | .sc (.bool _)=>true
 | .sc (.string _)=>true
 | .sy _=>true
 | .rs es=>so0 es
 | .rp cs=>dt0 cs
 | .rm c=>c.contP
 | _=>false
def pI0:List (Nat×TypeId×Nat)->List (Nat×TypeId×Nat)->Bool
 | [],[]=>true
 | a::as,b::bs=>aB a.1 b.1&&aB a.2.1 b.2.1&&aB a.2.2 b.2.2&&pI0 as bs
 | _,_=>false
def eqX:AV->AV->Bool
 | .sy i,.sy j=>aB i j
 | .sc (.int .i64 a),.sc (.int .i64 b)=>decide (a=b)
 | _,_=>false
def bH0(lo:Bool)(ι:gb0):l6->l6->Bool
 | .row e z es,.row d f a=>aB e d&&aB z f&&wU0 ι es a
 | .xrow e z i,.xrow d f h=>aB e d&&aB z f&&aB i h
 | .map agg es c,.map g a c'=>(agg==g)&&aB c c'&&aB es.length a.length&&(es.zip a).all fun p=>decide (p.1.1=p.2.1)&&ck0 ι p.1.2.1 p.2.2.1&&aB p.1.2.2 p.2.2.2
 | .xmap c,.xmap c'=>match c,c' with
  | .sy i,.sy j=>aB i j
  | .rs [],.rs []=>true
  | _,_=>false
 | .xmap (.rs []),.map false [] c=>aB c 0
 | .xiter s p,.xiter s' k=>eqX s s'&&eqX p k
 | .frow e z c cols _ _ none,.frow d f c' b _ _ none=>lo&&aB e d&&aB z f&&rmB c c'&&pI0 cols b
 | _,_=>false
def nv0:l6->Bool
 | .row _ _ []=>true
 | _=>false
def us0(lo:Bool)(ι:gb0)(s:AS)(i:Nat)(o:l6):Bool:=match ι i with
 | some (some k)=>match s.st.objs k with
  | some o'=>bH0 lo ι o o'
  | none=>false
 | some none=>nv0 o
 | none=>false
def gz0(ι:gb0)(b:Nat->AV)(s:AS):List AV->Nat->Bool
 | [],_=>true
 | a::as,t=>ck0 ι (a.ssub b) (s.get t)&&gz0 ι b s as (t+1)
def injB(ι:gb0):List (Nat×l6)->Bool
 | []=>true
 | (i,_)::os=>os.all (fun p=>aB p.1 i||(match ι i with | some (some k)=>!W7 ι p.1 k | _=>true))&&injB ι os
def dk0(n l:Nat)(h:Hint)(s:AS):Option (List AV) :=
 let acc:=guess s n l h
 let vals:=cV0 acc l h.k
 let a:=ak0 l vals
 let io:=acc.io.filter (fun p=>di n p.1)
 let ι:=jr0 n io
 match vals.all fitB&&aB h.slots.length s.n&&di n h.next&&io.all (fun p=>di n p.1&&cm p.1 h.next)&&gz0 ι a s h.slots 0&&h.objs.all (fun p=>us0 (di O6 n) ι s p.1 (p.2.ssub a))&&injB ι h.objs with
 | true=>some vals
 | false=>none
mutual
def AV.refr(id j fr:Nat):AV->AV
 | .ss a z i=>match aB a id&&aB i j with
  | true=>.ss a z fr
  | false=>.ss a z i
 | .rs es=>.rs (qL0 id j fr es)
 | .rp cs=>.rp (jI0 id j fr cs)
 | .fn f a c=>.fn f (jI0 id j fr a) (jI0 id j fr c)
 | .agg cs=>.agg (jI0 id j fr cs)
 | .tup cs=>.tup (jI0 id j fr cs)
 | v=>v
def jI0(id j fr:Nat):List AV->List AV
 | []=>[]
 | c::cs=>c.refr id j fr::jI0 id j fr cs
def qL0(id j fr:Nat):List (List AV)->List (List AV)
 | []=>[]
 | c::cs=>jI0 id j fr c::qL0 id j fr cs
end
def l6.refr(id j fr:Nat):l6->l6
 | .row e z es=>.row e z (qL0 id j fr es)
 | .map agg es c=>.map agg (es.map fun e=>(e.1,e.2.1.refr id j fr,e.2.2)) c
 | o=>o
def AS.refr(id j fr:Nat)(s:AS):AS:={ n:=s.n,tr:=s.tr.map (AV.refr id j fr),st:={ next:=s.st.next,tr:=s.st.tr.map (l6.refr id j fr),low:=s.st.low } }
def qZ0(s:AS)(op:Op)(fr:Nat):Option (RO×AS) :=
 match op with
 | .store t a x=>match qq0 (s.eval a)with
  | some (id,i,off)=>match s.st.objs id with
   | some (.xrow e z j)=>some (.xst t e z (.sy j) i off (s.eval x),{ s.refr id j fr with st:=(s.refr id j fr).st.set id (.xrow e z fr) })
   | _=>none
  | none=>none
 | _=>none
def sSort(Φ:H7)(s:AS)(f:FuncId)(args:List AV)(fr:Nat):Option (List Nat×RO×AS) :=
 match Φ (XT+f)with
 | none=>none
 | some _=>match args with
  | .ss id z j::rest=>match s.st.objs id with
   | some (.xrow e b c)=>match aB z b&&aB j c,kb0 (aV0 (s.st.del id) 50) rest with
    | true,some a=>some (Z4 (s.st.del id).tr,.call (XT+f) (.sy j::.sc (.int .i64 (z:Nat))::a) false,{ s.refr id j fr with st:=(s.refr id j fr).st.set id (.xrow e z fr) })
    | _,_=>none
   | _=>none
  | _=>none
def gs0(ops:Array Oper)(s:AS)(o:Oper):Option (Nat×Bool) :=
 match o.guard with
 | none=>none
 | some (j,want)=>match (ops[j]?).bind (·.dst)with
  | some d=>match cm d s.n with
   | true=>match s.get d with
    | .sy i=>some (i,want)
    | _=>none
   | false=>none
  | none=>none
abbrev KS:=AS->Nat->RT
abbrev KE:=EX->AS->Nat->RT
abbrev Exe:=Nat->Code->AS->Nat->KE->RT
section
variable (T:Tab) (Φ:H7) (F:FuncId->Option Func)
def sCall(ex:Exe)(f:FuncId)(args:List AV)(dst:Option Tmp)(s:AS)(fr:Nat)(d:KS):RT :=
 match F f with
 | none=>.stuck
 | some fn=>match Φ.at f args with
  | some _=>match patOf T fn.resultTypes.toList fr with
   | some (pat,b)=>match s.bnd fr&&di fr b with
    | true=>match mR0 s.st args with
     | some (a,true)=>.op (.rows (Z4 s.st.tr)) fr (.sc (.bool true)) (.op (.call f a true) fr pat (d (s.put dst pat) b))
     | some (a,false)=>.op (.call f a false) fr pat (d (s.put dst pat) b)
     | none=>.stuck
    | false=>.stuck
   | none=>.stuck
  | none=>match fn.body with
   | some c=>match di args.length fn.ntmps&&!(fn.name== "runtime.NumGoroutine")&&s.bnd fr with
    | true=>ex s.st.next c (AS.enter fn.ntmps args s.st) fr fun e s1 g=>match e with
     | .exi _=>.stuck
     | _=>match C8 T fn s1 with
      | some v=>d ({ s with st:=s1.st }.put dst v) g
      | none=>.stuck
    | false=>.stuck
   | none=>.stuck
def sOne(ex:Exe)(id:Nat)(o:Oper)(s:AS)(fr:Nat)(a:KS):RT :=
 match o.op with
 | .call { callee:=.value c,args:=args,argTypes:=_ }=>
  match s.eval c with
  | .fn (.func f) first cap=>match sSort Φ s f (first++args.toList.map s.eval++cap) fr with
   | some (d,ro,s')=>match s.bnd fr with
    | true=>.op (.rows d) fr (.sc (.bool true)) (.op ro fr (.sy fr) (a (s'.put o.dst (.tup [])) (fr+1)))
    | false=>.stuck
   | none=>sCall T Φ F ex f (first++args.toList.map s.eval++cap) o.dst s fr a
  | _=>.stuck
 | op=>match aopX T s.eval s.st id op with
  | some (v,σ')=>a ({ s with st:=σ' }.put o.dst v) fr
  | none=>match sR0 T s.eval s.st id op fr with
   | some (ro,pat,v,σ',b)=>match s.bnd fr&&di fr b with
    | true=>.op ro fr pat (a ({ s with st:=σ' }.put o.dst v) b)
    | false=>.stuck
   | none=>match qZ0 s op fr with
    | some (ro,s')=>match s.bnd fr with
     | true=>.op ro fr (.sy fr) (a (s'.put o.dst (.sc undef)) (fr+1))
     | false=>.stuck
    | none=>.stuck
def sFz(ex:Exe)(ops:Array Oper)(id:Nat)(o:Oper)(fr:Nat)(b:KS):Nat->AS->RT
 | 0,s=>sOne T Φ F ex id o s fr b
 | m+1,s=>match frzOf s o.op with
  | some (a,x)=>match s.bnd fr with
   | true=>match D0 ops (s.frz (I1 s.st a x) a) o with
    | some true=>.op (.rows (Z4 (I1 s.st a x).tr)) fr (.sc (.bool true)) (sFz ex ops id o fr b m (s.frz (I1 s.st a x) a))
    | _=>.stuck
   | false=>.stuck
  | none=>sOne T Φ F ex id o s fr b
def sIt(ex:Exe)(ops:Array Oper)(id:Nat)(o:Oper)(fr:Nat)(b:KS)(s:AS):RT :=
 match o.op with
 | .range t x=>match T t with
  | some { und:=.string,.. }=>match s.eval x with
   | .sy i=>match s.bnd fr with
    | true=>.op (.iss (.sy i)) fr (.sc (.bool true)) (b ({ s with st:=s.st.set id (.xiter (.sy i) (.sc (.int .i64 0))) }.put o.dst (.it id)) fr)
    | false=>.stuck
   | _=>.stuck
  | _=>sFz T Φ F ex ops id o fr b 3 s
 | .next it true=>match s.eval it with
  | .it a=>match s.st.objs a with
   | some (.xiter st p)=>match s.bnd fr with
    | true=>.op (.more st p) fr (.sy fr) (.test fr
      (.op (.sdec st p) (fr+1) (.tup [.sy (fr+1),.sy (fr+2),.sy (fr+3)]) (b ({ s with st:=s.st.set a (.xiter st (.sy (fr+3))) }.put o.dst (.tup [.sc (.bool true),.sy (fr+1),.sy (fr+2)])) (fr+4)))
      (b (s.put o.dst (.tup [.sc (.bool false)])) (fr+1)))
    | false=>.stuck
   | _=>.stuck
  | _=>.stuck
 | _=>sFz T Φ F ex ops id o fr b 3 s
def qw0(ex:Exe)(ops:Array Oper)(n0:Nat):List Oper->Nat->AS->Nat->KS->RT
 | [],_,s,fr,k=>k s fr
 | o::rest,i,s,fr,k=>
  match P1 s.n o.dst with
  | false=>.stuck
  | true=>match D0 ops s o with
   | some true=>sIt T Φ F ex ops (n0+i) o fr (fun s' a=>qw0 ex ops n0 rest (i+1) s' a k) s
   | some false=>qw0 ex ops n0 rest (i+1) (s.put o.dst (.sc undef)) fr k
   | none=>match gs0 ops s o with
    | some (j,want)=>
     let go:=fun b:Bool=>match b==want with
      | true=>sIt T Φ F ex ops (n0+i) o fr (fun s' a=>qw0 ex ops n0 rest (i+1) s' a k) (s.ssub (aO0 j b))
      | false=>qw0 ex ops n0 rest (i+1) ((s.ssub (aO0 j b)).put o.dst (.sc undef)) fr k
     .test j (go true) (go false)
    | none=>.stuck
abbrev KD:=AS->Nat->Inf->RT
def hb0(σ:j3)(ids:List Nat):j3:={ Z8 (saved σ ids) { S0 (saved σ ids) σ with low:=σ.next } with low:=min σ.low σ.next }
def un0(bar:Bool)(ids:List Nat)(f:FuncId)(args:List AV)(dst:Option Tmp)(s:AS)(fr:Nat)(b:KD):RT :=
 match F f,Φ.fn f with
 | some fn,some _=>match patOf T fn.resultTypes.toList fr with
  | some (pat,a)=>match s.bnd fr&&di fr a&&dt0 args with
   | true=>.op (.call f args false) fr pat (match bar with
    | true=>b (s.put dst pat) a ⟨[],[],false,0,true⟩
    | false=>b ({ s with st:=hb0 s.st ids }.put dst pat) a ⟨[],[],true,s.st.next,false⟩)
   | false=>.stuck
  | none=>.stuck
 | _,_=>.stuck
def qc0(n0 N mask i:Nat)(bar:Bool)(o:Oper)(s:AS)(fr:Nat)(b:KD):RT :=
 match o.op with
 | .call { callee:=.value c,args:=args,argTypes:=_ }=>
  match s.eval c with
  | .fn (.func f) first cap=>un0 T Φ F bar (Y3 n0 N mask) f (first++args.toList.map s.eval++cap) o.dst s fr b
  | _=>.stuck
 | op=>match aopX T s.eval (small s.st (bQ0 s.eval op)) (n0+i) op with
  | some (v,σ1)=>b ({ s with st:=(match σ1.objs (n0+i)with
     | some x=>(if isE op then S7 σ1 (bQ0 s.eval op) s.st else s.st).set (n0+i) x
     | none=>(if isE op then S7 σ1 (bQ0 s.eval op) s.st else s.st)) }.put o.dst v) fr ⟨bQ0 s.eval op,if isE op then bQ0 s.eval op else [],false,0,false⟩
  | none=>match sR0 T s.eval (small s.st (bQ0 s.eval op)) (n0+i) op fr with
   | some (ro,pat,v,σ1,a)=>match s.bnd fr&&({ s with st:=small s.st (bQ0 s.eval op) }:AS).bnd fr&&di fr a with
    | true=>.op ro fr pat (b ({ s with st:=(match σ1.objs (n0+i)with
      | some x=>(if isE op then S7 σ1 (bQ0 s.eval op) s.st else s.st).set (n0+i) x
      | none=>(if isE op then S7 σ1 (bQ0 s.eval op) s.st else s.st)) }.put o.dst v) a ⟨bQ0 s.eval op,if isE op then bQ0 s.eval op else [],false,0,false⟩)
    | false=>.stuck
   | none=>.stuck
def hR0(ops:Array Oper)(n0 N:Nat)(a:List Nat):List Oper->Nat->AS->Nat->List Inf->(AS->Nat->List Inf->RT)->RT
 | [],_,s,fr,acc,k=>k s fr acc
 | o::rest,i,s,fr,acc,k=>
  match P1 s.n o.dst with
  | false=>.stuck
  | true=>match D0 ops s o with
   | some true=>qc0 T Φ F n0 N (a.getD i 0) i (fQ0 o.op&&oX0 ops a i) o s fr fun s' c f=>hR0 ops n0 N a rest (i+1) s' c (acc++[f]) k
   | some false=>hR0 ops n0 N a rest (i+1) (s.put o.dst (.sc undef)) fr (acc++[⟨[],[],false,0,false⟩]) k
   | none=>match gs0 ops s o with
    | some (j,want)=>
     let go:=fun b:Bool=>match b==want with
      | true=>qc0 T Φ F n0 N (a.getD i 0) i (fQ0 o.op&&oX0 ops a i) o (s.ssub (aO0 j b)) fr fun s' c f=>hR0 ops n0 N a rest (i+1) s' c (acc++[f]) k
      | false=>hR0 ops n0 N a rest (i+1) ((s.ssub (aO0 j b)).put o.dst (.sc undef)) fr (acc++[⟨[],[],false,0,false⟩]) k
     .test j (go true) (go false)
    | none=>.stuck
def ik0:List Oper->List Oper->Option (List Oper×List Oper)
 | _,[]=>none
 | acc,o::l=>match ik0 (acc++[o]) l with
  | some r=>some r
  | none=>match fQ0 o.op&&T1 acc (o::l)with
   | true=>some (acc,o::l)
   | false=>none
def barOf(ops:Array Oper):Option (List Oper×List Oper):=ik0 [] ops.toList
theorem jw0:∀ {l acc a b:List Oper},ik0 acc l=some (a,b)->acc++l=a++b/\T1 a b=true
 | [],_,_,_,h=>by simp[ik0]at h
 | o::l,acc,a,b,h=>by
  unfold ik0 at h;split at h
  ·rename_i r c
   cases h;have:=jw0 c;exact⟨by rw[<- this.1];simp,this.2⟩
  split at h
  ·rename_i hc
   cases h;rw[ab]at hc;exact⟨rfl,hc.2⟩
  cases h
def dn0:Code->Nat
 | .region id _ _=>id
 | .seq a _=>dn0 a
 | .block _ b=>dn0 b
 | .loop b=>dn0 b
 | .scope b=>dn0 b
 | .cond _ a _=>dn0 a
 | _=>0
def fsum(s:AS):Nat->Nat
 | 0=>0
 | t+1=>(match s.get t with
  | .fn (.func g) _ _=>(g+1)*(t+1)
  | .sc (.int _ n)=>(n.toNat%64+7)*(t+1)
  | .sc (.bool b)=>(bif b then 3 else 5)*(t+1)
  | _=>0)+fsum s t
def iB0(fr:Nat)(b:Code)(s:AS):Nat:=(fr*4096+dn0 b)*65536+fsum s s.n%65536
variable (H:Nat->Option Hint)
def mv0(ex:Exe)(n:Nat)(b:Code)(k:KE):Nat->AS->Nat->RT
 | 0,_,_=>.stuck
 | j+1,s,fr=>ex n b s fr fun e s' a=>match e with
  | .nor=>mv0 ex n b k j s' a
  | e=>k e s' a
def fzAt(s:AS):List AV->Nat->Option (Nat×l6)
 | [],_=>none
 | a::as,t=>match (match a,s.get t with
   | .rp _,.mp i 0 0=>mM0 s (.mp i 0 0)
   | .sy _,.mp i 0 0=>mM0 s (.mp i 0 0)
   | .sy _,.ss i z j=>mM0 s (.ss i z j)
   | _,_=>none)with
  | some i=>match s.st.objs i with
   | some o=>some (i,o)
   | none=>fzAt s as (t+1)
  | none=>fzAt s as (t+1)
def sPre(h:Hint)(fr:Nat)(k:AS->RT):Nat->AS->RT
 | 0,s=>k s
 | m+1,s=>match fzAt s h.slots 0 with
  | some (a,x)=>match s.bnd fr with
   | true=>.op (.rows (Z4 (I1 s.st a x).tr)) fr (.sc (.bool true)) (sPre h fr k m (s.frz (I1 s.st a x) a))
   | false=>.stuck
  | none=>k s
def exec:Nat->Exe
 | 0,_,_,_,_,_=>.stuck
 | m+1,n,c,s,fr,k=>
  match c with
  | .skip=>k .nor s fr
  | .label _=>k .nor s fr
  | .region _ ops false=>qw0 T Φ F (exec m) ops s.st.next ops.toList 0 { s with st:={ s.st with next:=s.st.next+ops.size } } fr fun s' d=>k .nor s' d
  | .region _ ops true=>match barOf ops with
   | some (l0,t)=>match kY0 ⟨l0⟩ (dq0 l0 [])with
    | true=>hR0 T Φ F ⟨l0⟩ s.st.next l0.length (dq0 l0 []) l0 0 { s with st:={ s.st with next:=s.st.next+l0.length } } fr [] fun s' d fs=>
      match (cb0 ⟨l0⟩ (dq0 l0 [])).all (fun p=>fV0 s.st.next p.1 p.2 (fs.getD p.1 ⟨[],[],false,0,false⟩) (fs.getD p.2 ⟨[],[],false,0,false⟩))with
      | true=>qw0 T Φ F (exec m) ops s'.st.next t l0.length { s' with st:={ s'.st with next:=s'.st.next+(l0++t).length } } d fun s2 f=>k .nor s2 f
      | false=>.stuck
    | false=>.stuck
   | none=>match kY0 ops (dq0 ops.toList [])with
   | true=>hR0 T Φ F ops s.st.next ops.size (dq0 ops.toList []) ops.toList 0 { s with st:={ s.st with next:=s.st.next+ops.size } } fr [] fun s' d fs=>
     match (cb0 ops (dq0 ops.toList [])).all (fun p=>fV0 s.st.next p.1 p.2 (fs.getD p.1 ⟨[],[],false,0,false⟩) (fs.getD p.2 ⟨[],[],false,0,false⟩))with
     | true=>k .nor s' d
     | false=>.stuck
   | false=>.stuck
  | .seq a b=>exec m n a s fr fun e s' d=>match e with
   | .nor=>exec m n b s' d k
   | e=>k e s' d
  | .cond x a b=>match s.eval x with
   | .sc (.bool t)=>exec m n (if t then a else b) s fr k
   | .sy i=>.test i (exec m n a (s.ssub (aO0 i true)) fr k) (exec m n b (s.ssub (aO0 i false)) fr k)
   | _=>.stuck
  | .block id b=>exec m n b s fr fun e s' d=>match e with
   | .exi j=>k (if j=id then .nor else .exi j) s' d
   | e=>k e s' d
  | .loop b=>match H (iB0 fr b s)with
   | some h=>sPre h fr (fun s=>match dk0 n fr h s,h.state.bnd (fr+h.k)with
    | some inits,true=>.loop fr h.k inits (exec m n b h.state (fr+h.k+1) fun e s' d=>match e with
     | .nor=>match dk0 n fr h s' with
      | some vals=>.again fr vals
      | none=>.stuck
     | e=>k e s' d)
    | _,_=>.stuck) 4 s
   | none=>mv0 (exec m) n b k 1000 s fr
  | .exit id=>k (.exi id) s fr
  | .ret=>k .ret s fr
  | .scope b=>exec m n b s fr k
  | _=>.stuck
def kTop(T:Tab)(fn:Func)(e:EX)(s:AS)(_:Nat):RT:=match e with
 | .exi _=>.stuck
 | _=>match C8 T fn s with
  | some v=>match v.contP with
   | true=>.ret v.nilz []
   | false=>match aV0 s.st 50 v with
    | some c=>.ret c.nilz (Z4 s.st.tr)
    | none=>.stuck
  | none=>.stuck
end
end Go.Ab
