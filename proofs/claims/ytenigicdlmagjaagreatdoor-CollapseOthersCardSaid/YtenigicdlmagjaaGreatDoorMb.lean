/- A part of the proof; its readable source lies in wip of the prover's repo (squeezed here for the limit of bytes). -/
import Derived.Test.YtenigicdlmagjaaGreatDoorMa
import Derived.Laws.Externs
import Derived.Laws.StructEq
import GoSem.ClaimJoined
import Derived.Below
import Derived.ChangeArms
import Derived.Deep.Slices
set_option linter.unusedVariables false
set_option linter.unusedSimpArgs false
set_option linter.unusedSectionVars false
open Array renaming all_eq_true_iff_forall_mem->cD,eq_empty_of_size_eq_zero->ff,ext'->cK,forIn_toList->gH,getD_eq_getD_getElem?->dG,getElem?_eq_getElem->aS,getElem?_eq_some_iff->aN,getElem?_push->bu,getElem?_setIfInBounds_ne->eX,getElem?_setIfInBounds_self_of_lt->eB,length_toList->gx,replicate->bf
open Bool renaming and_eq_true->ab,false_and->fP,false_eq_true->au,false_or->dP,not_eq_true'->bL,not_false->aP,not_true->aw,true_and->dt
open ForInStep renaming yield->eb
open Function renaming comp->gZ,comp_def->cn
open Go.Act renaming put->iE
open Go.DataW renaming weights->dC,weightsAll->ee,weightsEach->dS
open Go.Deferred renaming ofValue->gw
open Go.Instr renaming checkKey->bp
open Go.Op renaming eqFields->ep,equalIn->dK
open Go.Oper renaming apart_spec->fJ,upon->dF,wp->fw
open Go.Program renaming fieldsOf->gI
open Go.Region renaming binds->cg,ready->bB,wanted->cM
open Go.Result renaming andThen_ok->ah
open Go.Sem renaming run->f_,run_bind->al,run_pure->ao
open Go.Utf8 renaming decode->bS
open Go.Value renaming int->bn
open Go.World renaming cells?_some->dT
open List renaming all_cons->bZ,all_eq_true->ak,all_map->dc,cons_append->eY,cons_beq_cons->gP,drop_drop->dn,drop_eq_getElem_cons->bw,drop_zero->fe,eq_nil_of_length_eq_zero->bJ,ext_getElem?->g_,filter_cons->bI,filter_eq_self->cy,forIn_cons->eC,getD->gi,getElem?_eq_getElem->ae,getElem?_eq_some_iff->an,getElem?_map->aM,getElem?_modify->gy,getElem_map->cd,getElem_mem->aq,getElem_of_mem->aJ,isEmpty_map->eh,length_cons->ax,length_map->aB,length_range->gY,map->bP,map_congr_left->bq,map_cons->ay,map_drop->cZ,map_map->cQ,map_nil->bA,map_set->iW,map_take->cY,mem_append_left->dO,mem_append_right->eP,mem_cons->aC,mem_cons_of_mem->bC,mem_filterMap->cT,nil_append->bG,range'->cW,range'_succ->ie,range->bE,take_append_drop->cL
open Nat renaming add_zero->cS,beq->aA,ble->cJ,blt->bY,blt_eq->aV,eq_of_beq_eq_true->af,le_add_right->aO,le_of_ble_eq_true->aQ,le_refl->ar,le_trans->bo,lt_or_ge->cE,strongRecOn->fM,zero_add->aG,zero_le->cP
open Ne renaming symm->gO
open Option renaming isNone_some->gz,map_map->dU,map_some->aj,none->iK
open Option.some renaming injEq->ai
open PUnit renaming unit->cH
open Std.Legacy.Range renaming forIn_eq_forIn_range'->dL
namespace Go.Ab
open Go
variable [B5]
theorem wR0{ops:Array Oper}{c:List Nat}{n0:Nat}{fs:List Inf}(hst:lr0 ops c=true)(hdyn:(cp0 ops c).all (fun p=>fJ0 n0 p.1 p.2 (fs.getD p.1 ⟨[],[],false,0,false⟩) (fs.getD p.2 ⟨[],[],false,0,false⟩))=true)
  {i j:Nat} {a b:Oper} (d:i<j) (ha:ops[i]?=some a) (h:ops[j]?=some b) (hm:(c.getD j 0).testBit i=false) :
  a.apart ops b=true/\(idle a.op=true\/idle b.op=true\/fJ0 n0 i j (fs.getD i ⟨[],[],false,0,false⟩) (fs.getD j ⟨[],[],false,0,false⟩)=true):=by
 have hj:j<ops.size:=(aN.1 h).1;have h1:=ak.1 hst j (by simpa using hj);rw[ab]at h1;have h2:=ak.1 h1.2 i (by simpa using d);rw[hm,dP,ha,h]at h2;refine⟨h2,?_⟩;by_cases e:idle a.op=true
 ·exact .inl e
 by_cases f:idle b.op=true
 ·exact .inr (.inl f)
 right;right;have g:(i,j)∈cp0 ops c:=by unfold cp0;rw[List.mem_flatMap];refine⟨j,by simpa using hj,cT.2 ⟨i,by simpa using d,?_⟩⟩;rw[hm,ha,h];simp[e,f]
 exact ak.1 hdyn (i,j) g
structure qC0(n0 i j:Nat)(a b:Inf):Prop where
 ww:∀ x∈a.wr,x∉b.rd/\x∉b.wr
 wr:∀ x∈b.wr,x∉a.rd
 ni:n0+i∉b.rd/\n0+i∉b.wr
 nj:n0+j∉a.rd/\n0+j∉a.wr
 cc:¬ (a.call=true/\b.call=true)
 nb:a.bar=false/\b.bar=false
 ca:a.call=true->b.wr=[]/\∀ x∈b.rd,x<a.nx
 cb:b.call=true->a.wr=[]/\∀ x∈a.rd,x<b.nx
theorem mv0{n0 i j:Nat}{a b:Inf}(h:fJ0 n0 i j a b=true):qC0 n0 i j a b:=by
 unfold fJ0 at h;simp only[ab]at h;obtain⟨⟨⟨⟨⟨⟨⟨⟨h1,h2⟩,k⟩,l⟩,m⟩,f⟩,g⟩,d⟩,e⟩:=h;refine⟨fun x c=>?_,fun x c=>?_,?_,?_,?_,⟨by simpa using f,by simpa using g⟩,fun hc=>?_,fun hc=>?_⟩
 ·have:=ak.1 h1 x c
  simpa using this
 ·have:=ak.1 h2 x c
  simpa using this
 ·simpa using k
 ·simpa using l
 ·rintro ⟨e1,e2⟩;simp[e1,e2]at m
 ·rw[hc]at d
  simp only[aw,dP,ab]at d;exact⟨by simpa using d.1,fun x c=>by simpa using ak.1 d.2 x c⟩
 rw[hc]at e;simp only[aw,dP,ab]at e;exact⟨by simpa using e.1,fun x c=>by simpa using ak.1 e.2 x c⟩
def left(N:Nat)(p:Nat->Bool):Nat:=((bE N).filter fun i=>!p i).length
theorem nY0{N i:Nat}{p:Nat->Bool}(hi:i<N)(hp:p i=false):left N (fun j=>j==i||p j)+1=left N p:=by
 unfold left;have key:∀ l:List Nat,l.Nodup->i∈l->(l.filter fun j=>!(j==i||p j)).length+1=(l.filter fun j=>!p j).length:=by
  intro l
  induction l with
  | nil=>intro _ h;cases h
  | cons a l f=>
   intro b d;rw[List.nodup_cons]at b;by_cases e:a=i
   ·subst e
    have c:(l.filter fun j=>!(j==a||p j))=l.filter fun j=>!p j:=by
     apply List.filter_congr;intro j hj;have:(j==a)=false:=by simp;exact fun h=>b.1 (h▸hj)
     simp[this]
    rw[bI,bI,c,hp];simp
   have hm:i∈l:=by
    rcases aC.1 d with h | h
    ·exact Am h.symm e
    exact h
   have:=f b.2 hm;have g:(a==i)=false:=by simpa using e
   rw[bI,bI,g,dP];cases k:p a
   ·simp only[aP,Al,ax];omega
   simp only[aw,au,Ah];exact this
 exact key _ List.nodup_range (by simpa using hi)
theorem le0{N:Nat}{p:Nat->Bool}(h:left N p=0):∀ i,i<N->p i=true:=by intro i hi;unfold left at h;have:=List.length_eq_zero_iff.1 h;rw[List.filter_eq_nil_iff]at this;have:=this i (by simpa using hi);simpa using this
section
variable {P:Program} {T:Tab} {ops:Array Oper} {n n0:Nat} {fs:List Inf} {evs:List Ev} {sts:List AS} {s0 s':AS}
theorem hD0{α:Type}{l:List α}{j n:Nat}(h:l.length=n)(hj:j<n):∃ x,l[j]?=some x:=⟨l[j]'(by omega),ae _⟩
structure Lex(P:Program)(ops:Array Oper)(n n0:Nat)(fs:List Inf)(evs:List Ev)(sts:List AS)(s0:AS):Prop where
 hst:lr0 ops (dv0 ops.toList [])=true
 hdyn:(cp0 ops (dv0 ops.toList [])).all (fun p=>fJ0 n0 p.1 p.2 (fs.getD p.1 ⟨[],[],false,0,false⟩) (fs.getD p.2 ⟨[],[],false,0,false⟩))=true
 l1:evs.length=ops.size
 l2:fs.length=ops.size
 l3:sts.length=ops.size
 all:∀ (j:Nat) o f ev st,ops[j]?=some o->fs[j]?=some f->evs[j]?=some ev->sts[j]?=some st->EvOk n0 ops.size j o f ev/\bv0 P ops n n0 ops.size j (Cond ops n0 ops.size ((dv0 ops.toList []).getD j 0) o f st) ev/\(f.call=true->f.nx=st.st.next) /\
    (∀ t,st.get t=fold (fun k=>decide (k<j)) (evs.map (·.uT)) 0 s0.get t)/\(∀ id,st.st.objs id=fold (fun k=>decide (k<j)) (evs.map (·.uO)) 0 s0.st.objs id) /\
    (st.st.next=fold (fun k=>decide (k<j)) (evs.map fun e=>fun _:Unit=>e.uN) 0 (fun _=>s0.st.next) ())
structure Way(ops:Array Oper)(n n0:Nat)(evs:List Ev)(s0:AS)(G0:c9)(σ0:c8)(w0:World)(p:Nat->Bool)(G:c9)(tm:Nat->AV)(σ:c8)(a:Act)(w:World):Prop where
 rel:te0 G n tm σ a w
 tm:∀ t,tm t=fold p (evs.map (·.uT)) 0 s0.get t
 ob:∀ id,σ.objs id=fold p (evs.map (·.uO)) 0 s0.st.objs id
 nx:σ.next=fold p (evs.map fun e=>fun _:Unit=>e.uN) 0 (fun _=>s0.st.next) ()
 free:∀ j,j<ops.size->p j=false->G.pl (n0+j)=none
 closed:fX0 ops p
 big:n0+ops.size<=σ.next
 tran:mj0 n0 G0 σ0 w0 G σ w
theorem Lex.edge(h:Lex P ops n n0 fs evs sts s0){j:Nat}{o:Oper}(a:ops[j]?=some o){e:Edge}(he:e∈o.after)(b:cg .any e=true):e.on<j:=by have hj:j<ops.size:=(aN.1 a).1;have h1:=ak.1 h.hst j (by simpa using hj);rw[ab,a]at h1;have:=cD.1 h1.1 e he;simpa[b]using this
theorem Lex.mask_lt(h:Lex P ops n n0 fs evs sts s0){j i:Nat}{o:Oper}(c:ops[j]?=some o)(d:((dv0 ops.toList []).getD j 0).testBit i=true):i<j:=by
 have b:fX0 ops (fun k=>decide (k<j)):=fun k o' hk hp e he a=>by have:=h.edge hk he a;have:=Aj hp;simp;omega
 have:=bK0 b j o c (fun e he a=>by simpa using h.edge c he a) i d;simpa using this
theorem Lex.apart(h:Lex P ops n n0 fs evs sts s0){i j:Nat}{a b:Oper}{c d:Inf}(e:i<j)(ha:ops[i]?=some a)(f:ops[j]?=some b)(h1:fs[i]?=some c)(h2:fs[j]?=some d)(hm:((dv0 ops.toList []).getD j 0).testBit i=false) :
  a.apart ops b=true/\(idle a.op=true\/idle b.op=true\/qC0 n0 i j c d):=by
 obtain⟨g1,g2⟩:=wR0 h.hst h.hdyn e ha f hm;refine⟨g1,?_⟩;rcases g2 with g | g | g
 ·exact .inl g
 ·exact .inr (.inl g)
 right;right;have e1:fs.getD i ⟨[],[],false,0,false⟩=c:=by simp[gi,h1]
 have e2:fs.getD j ⟨[],[],false,0,false⟩=d:=by simp[gi,h2]
 rw[e1,e2]at g;exact mv0 g
theorem Lex.at(h:Lex P ops n n0 fs evs sts s0){j:Nat}(hj:j<ops.size):∃ o f ev st,ops[j]?=some o/\fs[j]?=some f/\evs[j]?=some ev/\sts[j]?=some st:=by obtain⟨f,hf⟩:=hD0 h.l2 hj;obtain⟨ev,a⟩:=hD0 h.l1 hj;obtain⟨st,hst⟩:=hD0 h.l3 hj;exact⟨ops[j],f,ev,st,aS hj,hf,a,hst⟩
theorem Lex.unordered(h:Lex P ops n n0 fs evs sts s0){p:Nat->Bool}(d:fX0 ops p){i k:Nat}{o:Oper}(q:ops[i]?=some o)(f:p i=false)(b:∀ e∈o.after,cg .any e=true->p e.on=true)
  {ok:Oper} (g:ops[k]?=some ok) (a:p k≠decide (k<i)):(k<i/\((dv0 ops.toList []).getD i 0).testBit k=false)\/(i<k/\((dv0 ops.toList []).getD k 0).testBit i=false/\p k=true):=by
 rcases Nat.lt_trichotomy k i with j | heq | l
 ·left
  refine⟨j,?_⟩;have c:p k=false:=by
   have:decide (k<i)=true:=by simpa using j
   rw[this]at a;simpa using a
  cases m:((dv0 ops.toList []).getD i 0).testBit k with
  | false=>rfl
  | true=>have:=bK0 d i o q b k m;rw[c]at this;cases this
 ·subst heq
  rw[f]at a;simp at a
 right;have c:p k=true:=by
  have:decide (k<i)=false:=by simp;omega
  rw[this]at a;simpa using a
 refine⟨l,?_,c⟩;cases m:((dv0 ops.toList []).getD k 0).testBit i with
 | false=>rfl
 | true=>have:=bK0 d k ok g (d k ok g c) i m;rw[f]at this;cases this
theorem map_get{α β:Type}{l:List α}{f:α->β}{j:Nat}{u:β}(h:(l.map f)[j]?=some u):∃ x,l[j]?=some x/\f x=u:=by
 rw[aM]at h;cases hl:l[j]? with
 | none=>simp[hl]at h
 | some x=>rw[hl]at h;exact⟨x,rfl,by simpa using h⟩
theorem Way.step(h:Lex P ops n n0 fs evs sts s0){G0:c9}{σ0:c8}{w0:World}{p:Nat->Bool}{G:c9}{tm:Nat->AV}{σ:c8}{a:Act}{w:World}(hw:Way ops n n0 evs s0 G0 σ0 w0 p G tm σ a w)
  {i:Nat} (hi:i<ops.size) (B:p i=false) (z:∀ o,ops[i]?=some o->∀ e∈o.after,cg .any e=true->p e.on=true) (K:Act->World->Prop) (Q:Exit->Act->World->Prop)
  (hK:∀ G' W σ' U w',Way ops n n0 evs s0 G0 σ0 w0 (fun j=>j==i||p j) G' W σ' U w'->K U w'):wpOp P ops Q i K a w:=by
 obtain⟨o,f,ev,st,M,hf,I,hst⟩:=h.at hi;obtain⟨e1,e2,e3,e4,e5,e6⟩:=h.all i o f ev st M hf I hst;have X:=z o M;have diff:∀ k m,evs[k]?=some m->p k≠decide (k<i)->∃ ok l,ops[k]?=some ok/\fs[k]?=some l/\EvOk n0 ops.size k ok l m/\(∀ d,ok.dst=some d->d∉o.looksAt ops)/\(((dv0 ops.toList []).getD i 0).testBit k=false) /\
   (idle ok.op=true\/idle o.op=true\/((∀ x∈l.wr,x∉f.rd)/\n0+k∉f.rd/\¬ (l.call=true/\f.call=true)/\(l.call=true->∀ x∈f.rd,x<l.nx)/\(f.call=true->l.wr=[])/\l.bar=false/\f.bar=false)):=by
  intro k m c b;have hk:k<ops.size:=by have:=(an.1 c).1;rw[h.l1]at this;exact this
  obtain⟨ok,l,Y,N,g1,g2,g3,g4⟩:=h.at hk;rw[c]at g3;cases g3;obtain⟨q1,_⟩:=h.all k ok l m N g1 g2 c g4;rcases h.unordered hw.closed M B X g1 b with ⟨Z,V⟩ | ⟨Z,V,_⟩
  ·obtain⟨t1,t2⟩:=h.apart Z g1 M g2 hf V
   refine⟨ok,l,g1,g2,q1,(fJ t1).1,V,?_⟩;rcases t2 with t | t | t
   ·exact .inl t
   ·exact .inr (.inl t)
   exact .inr (.inr ⟨fun x q=>(t.ww x q).1,t.ni.1,t.cc,fun hc=>(t.ca hc).2,fun hc=>(t.cb hc).1,t.nb.1,t.nb.2⟩)
  obtain⟨t1,t2⟩:=h.apart Z M g1 hf g2 V;refine⟨ok,l,g1,g2,q1,(fJ t1).2.2,?_,?_⟩
  ·cases O:((dv0 ops.toList []).getD i 0).testBit k with
   | false=>rfl
   | true=>have:=h.mask_lt M O;omega
  rcases t2 with t | t | t
  ·exact .inr (.inl t)
  ·exact .inl t
  exact .inr (.inr ⟨fun x q=>t.wr x q,t.nj.1,fun hc=>t.cc ⟨hc.2,hc.1⟩,fun hc=>(t.cb hc).2,fun hc=>(t.ca hc).1,t.nb.2,t.nb.1⟩)
 have C:Cond ops n0 ops.size ((dv0 ops.toList []).getD i 0) o f st tm σ:=by
  refine⟨fun t ht=>?_,fun id hid=>?_,fun hc=>⟨?_,fun id hid=>?_⟩,fun hc=>⟨?_,fun id=>?_⟩⟩
  ·rw[hw.tm,e4]
   refine N4 t _ 0 _ _ rfl (fun k u hu b=>?_);obtain⟨m,c,rfl⟩:=map_get hu;rw[aG]at b;obtain⟨ok,l,g1,g2,q1,q2,_⟩:=diff k m c b;cases q:m.uT t with
   | none=>rfl
   | some v=>exact Am ht (q2 t (q1.tmp t (by simp[q])))
  ·rw[hw.ob,e5]
   refine N4 id _ 0 _ _ rfl (fun k u hu b=>?_);obtain⟨m,c,rfl⟩:=map_get hu;rw[aG]at b;obtain⟨ok,l,g1,g2,q1,_,_,q3⟩:=diff k m c b;cases q:m.uO id with
   | none=>rfl
   | some v=>
    rcases q3 with t | t | ⟨t1,t2,t3,t4,_,t6⟩
    ·rw[(q1.idle t).1 id]at q;cases q
    ·rw[(e1.idle t).2.2.1]at hid;cases hid
    rcases q1.obj id (by simp[q])with g | g | ⟨g,g'⟩ | g
    ·exact Am hid (t1 id g)
    ·exact Am hid (g▸t2)
    ·have:=t4 g id hid;omega
    rw[t6.1]at g;cases g
  ·rw[hw.nx,e6]
   refine N4 () _ 0 _ _ rfl (fun k u hu b=>?_);obtain⟨m,c,rfl⟩:=map_get hu;rw[aG]at b;obtain⟨ok,l,g1,g2,q1,_,_,q3⟩:=diff k m c b;have D:l.call=false:=by
    cases D:l.call with
    | false=>rfl
    | true=>
     rcases q3 with t | t | ⟨_,_,t3,_⟩
     ·rw[(q1.idle t).2.1]at D;cases D
     ·rw[(e1.idle t).2.1]at hc;cases hc
     exact Am ⟨D,hc⟩ t3
   have hbk:l.bar=false:=by
    rcases q3 with t | t | ⟨_,_,_,_,_,t6,_⟩
    ·exact(q1.idle t).2.2.2
    ·rw[(e1.idle t).2.1]at hc;cases hc
    exact t6
   exact q1.num D hbk
  ·rw[hw.ob,e5]
   refine N4 id _ 0 _ _ rfl (fun k u hu b=>?_);obtain⟨m,c,rfl⟩:=map_get hu;rw[aG]at b;obtain⟨ok,l,g1,g2,q1,_,qm,q3⟩:=diff k m c b;cases q:m.uO id with
   | none=>rfl
   | some v=>
    rcases q3 with t | t | ⟨_,_,t3,_,t5⟩
    ·rw[(q1.idle t).1 id]at q;cases q
    ·rw[(e1.idle t).2.1]at hc;cases hc
    rcases q1.obj id (by simp[q])with g | g | ⟨g,_⟩ | g
    ·rw[t5.1 hc]at g;cases g
    ·exact Am (lF0.2 ⟨k,(aN.1 g1).1,qm,g⟩) hid
    ·exact Am ⟨g,hc⟩ t3
    rw[t5.2.1]at g;cases g
  ·rw[hw.nx,e6]
   refine N4 () _ 0 _ _ rfl (fun k u hu b=>?_);obtain⟨m,c,rfl⟩:=map_get hu;rw[aG]at b;obtain⟨ok,l,g1,g2,q1,_,_,q3⟩:=diff k m c b;rcases q3 with t | t | ⟨_,_,_,_,_,_,t6⟩
   ·exact q1.num (q1.idle t).2.1 (q1.idle t).2.2.2
   ·rw[(e1.idle t).2.2.2]at hc;cases hc
   rw[t6]at hc;cases hc
  rw[hw.ob,e5];refine N4 id _ 0 _ _ rfl (fun k u hu b=>?_);obtain⟨m,c,rfl⟩:=map_get hu;rw[aG]at b;obtain⟨ok,l,g1,g2,q1,_,_,q3⟩:=diff k m c b;rcases q3 with t | t | ⟨_,_,_,_,_,_,t6⟩
  ·exact(q1.idle t).1 id
  ·rw[(e1.idle t).2.2.2]at hc;cases hc
  rw[t6]at hc;cases hc
 have later:∀ k m,evs[k]?=some m->i<k->p k=true->∃ ok l,ops[k]?=some ok/\fs[k]?=some l/\EvOk n0 ops.size k ok l m/\(∀ d,o.dst=some d->ok.dst≠some d)/\(idle ok.op=true\/idle o.op=true\/qC0 n0 i k f l):=by
  intro k m c r s;have hk:k<ops.size:=by have:=(an.1 c).1;rw[h.l1]at this;exact this
  obtain⟨ok,l,Y,N,g1,g2,g3,g4⟩:=h.at hk;rw[c]at g3;cases g3;obtain⟨q1,_⟩:=h.all k ok l m N g1 g2 c g4;have hm:((dv0 ops.toList []).getD k 0).testBit i=false:=by
   cases O:((dv0 ops.toList []).getD k 0).testBit i with
   | false=>rfl
   | true=>have:=bK0 hw.closed k ok g1 (hw.closed k ok g1 s) i O;rw[B]at this;cases this
  obtain⟨t1,t2⟩:=h.apart r M g1 hf g2 hm;refine⟨ok,l,g1,g2,q1,(fJ t1).2.1,?_⟩;rcases t2 with t | t | t
  ·exact .inr (.inl t)
  ·exact .inl t
  exact .inr (.inr t)
 have R:f.call=true->f.nx=σ.next:=fun hc=>by rw[e3 hc,(C.2.2.1 hc).1]
 refine e2 G a w tm σ hw.rel C (hw.free i hi B) hw.big K Q ?_;intro G' U w' σ' g1 g2 g3 g4 g5 g6 g7;refine hK G' _ σ' U w' ⟨g5,fun t=>?_,fun id=>?_,?_,fun j hj J=>?_,fun j oj S J e he O=>?_,by have:=hw.big;omega,hw.tran.trans ⟨g1,fun k hk hg=>g2 k (by omega) (by omega) hg,g3,g4⟩ (ar _)⟩
 ·have:=gF0 (p:=p) t (u0:=ev.uT) (evs.map (·.uT)) 0 i s0.get (by simp[I]) (by simpa using B) (fun k u hu r s b=>by
   obtain⟨m,c,rfl⟩:=map_get hu;obtain⟨ok,l,_,_,q1,q2,_⟩:=later k m c r (by simpa using s);cases q:m.uT t with
   | none=>rfl
   | some v=>exact Am (q1.tmp t (by simp[q])) (q2 t (e1.tmp t b)))
  simp only[aG]at this;rw[this,hw.tm]
 ·have:=gF0 (p:=p) id (u0:=ev.uO) (evs.map (·.uO)) 0 i s0.st.objs (by simp[I]) (by simpa using B) (fun k u hu r s b=>by
   obtain⟨m,c,rfl⟩:=map_get hu;obtain⟨ok,l,_,_,q1,_,q3⟩:=later k m c r (by simpa using s);cases q:m.uO id with
   | none=>rfl
   | some v=>
    rcases q3 with t | t | t
    ·rw[(q1.idle t).1 id]at q;cases q
    ·exact Am ((e1.idle t).1 id) b
    have o1:=e1.obj id b;have o2:=q1.obj id (by simp[q]);have hk:k<ops.size:=by have:=(an.1 c).1;rw[h.l1]at this;exact this
    have o1:id∈f.wr\/id=n0+i\/(f.call=true/\f.nx<=id):=by
     rcases o1 with h' | h' | h' | h'
     ·exact .inl h'
     ·exact .inr (.inl h')
     ·exact .inr (.inr h')
     rw[t.nb.1]at h';cases h'
    have o2:id∈l.wr\/id=n0+k\/(l.call=true/\l.nx<=id):=by
     rcases o2 with h' | h' | h' | h'
     ·exact .inl h'
     ·exact .inr (.inl h')
     ·exact .inr (.inr h')
     rw[t.nb.2]at h';cases h'
    rcases o1 with E | E | ⟨E,a1'⟩<;>rcases o2 with H | H | ⟨H,b1'⟩
    ·exact Am H (t.ww id E).2
    ·exact Am E (H▸t.nj.2)
    ·rw[(t.cb H).1]at E;cases E
    ·exact Am H (E▸t.ni.2)
    ·omega
    ·have:=q1.start H;omega
    ·rw[(t.ca E).1]at H;cases H
    ·have:=e1.start E;omega
    exact Am ⟨E,H⟩ t.cc)
  simp only[aG]at this;rw[g6,this,hw.ob]
 ·have:=gF0 (p:=p) () (u0:=fun _:Unit=>ev.uN) (evs.map fun e=>fun _:Unit=>e.uN) 0 i (fun _=>s0.st.next) (by simp[I]) (by simpa using B) (fun k u hu r s b=>by
   obtain⟨m,c,rfl⟩:=map_get hu;obtain⟨ok,l,_,_,q1,_,q3⟩:=later k m c r (by simpa using s);cases q:m.uN with
   | none=>rfl
   | some v=>
    rcases q3 with t | t | t
    ·rw[q1.num (q1.idle t).2.1 (q1.idle t).2.2.2]at q;cases q
    ·exact Am (e1.num (e1.idle t).2.1 (e1.idle t).2.2.2) b
    have c1:f.call=true:=by
     cases hc:f.call with
     | true=>rfl
     | false=>exact Am (e1.num hc t.nb.1) b
    have c2:l.call=true:=by
     cases hc:l.call with
     | true=>rfl
     | false=>rw[q1.num hc t.nb.2]at q;cases q
    exact Am ⟨c1,c2⟩ t.cc)
  simp only[aG]at this;rw[g7,this,hw.nx]
 ·have L:j≠i:=fun e=>by subst e;simp at J
  have:p j=false:=by simpa[L]using J
  exact g2 (n0+j) (by omega) (by omega) (hw.free j hj this)
 by_cases L:j=i
 ·subst L
  simp[z oj S e he O]
 have:p j=true:=by simpa[L]using J
 simp[hw.closed j oj S this e he O]
theorem Way.any(h:Lex P ops n n0 fs evs sts s0){G0:c9}{σ0:c8}{w0:World}(Q:Exit->Act->World->Prop)
  (x:∀ p G tm σ a w,Way ops n n0 evs s0 G0 σ0 w0 p G tm σ a w->(∀ i,i<ops.size->p i=true)->Q .normal a w) :
  ∀ (fuel:Nat) (listed:Array Bool) (G:c9) (tm:Nat->AV) (σ:c8) (a:Act) (w:World),listed.size=ops.size->left ops.size (fun j=>listed.getD j false)=fuel ->
   Way ops n n0 evs s0 G0 σ0 w0 (fun j=>listed.getD j false) G tm σ a w->wpAny P .any ops Q fuel listed a w:=by
 have nil:∀ (listed:Array Bool),listed.size=ops.size->bB .any ops listed=[]->∀ i,i<ops.size->listed.getD i false=true:=by
  intro listed b d i
  induction i using fM with
  | _ i s=>
   intro hi;cases hl:listed.getD i false with
   | true=>rfl
   | false=>
    obtain⟨o,f,ev,st,m,_⟩:=h.at hi;have:i∈bB .any ops listed:=mem_ready.2 ⟨by simp[b,hi]at hl ⊢;exact hl,o,m,fun e he z=>by
     have c:=h.edge m he z;exact s e.on c (by omega)⟩
    rw[d]at this;cases this
 intro fuel
 induction fuel with
 | zero=>
  intro listed G tm σ a w b g hw;have k:=le0 g;refine⟨?_,x _ _ _ _ _ _ hw k⟩;cases B:bB .any ops listed with
  | nil=>rfl
  | cons i is=>
   have:i∈bB .any ops listed:=by rw[B];simp
   obtain⟨h1,o,m,_⟩:=mem_ready.1 this;have hi:i<ops.size:=(aN.1 m).1;have:=k i hi;simp[b,hi]at h1 this;rw[h1]at this;cases this
 | succ fuel s=>
  intro listed G tm σ a w b g hw;refine⟨fun d=>x _ _ _ _ _ _ hw (nil listed b d),fun i hi=>?_⟩;obtain⟨h1,o,m,t⟩:=mem_ready.1 hi;have c:i<ops.size:=(aN.1 m).1;have q:listed.getD i false=false:=by simp[b,c]at h1 ⊢;exact h1
  have l:∀ j,(listed.setIfInBounds i true).getD j false=(j==i||listed.getD j false):=fun j=>by
   by_cases e:j=i
   ·subst e;simp[b,c]
   rw[getD_set_ne false (gO e)];have:(j==i)=false:=by simpa using e
   rw[this];rfl
  refine Way.step h hw c q (fun o' r=>by rw[m]at r;cases r;exact t) _ Q ?_;intro G' u σ' C w' v;refine s (listed.setIfInBounds i true) G' u σ' C w' (by simp[b]) ?_ (by
   have e:(fun j=>(listed.setIfInBounds i true).getD j false)=(fun j=>j==i||listed.getD j false):=funext l;rw[e];exact v)
  have e:(fun j=>(listed.setIfInBounds i true).getD j false)=(fun j=>j==i||listed.getD j false):=funext l;rw[e];have:=nY0 (p:=fun j=>listed.getD j false) c q;omega
end
theorem AWp.drawn{P:Program}{T:Tab}(hT:B7 P T)(hm:P.follows .mixedOrders=true){cl:FuncId->List AV->c8->Option (AV×c8)}
  (D:∀ f args σ v σ',cl f args σ=some (v,σ')->F3 P f args σ (fun H m=>H=v/\m=σ')/\ag0 σ σ')
  {id:Nat} {ops:Array Oper} {s s':AS} (h:cv0 T cl ops s=some s') {Q:Exit->AS->Prop} (I:Q .normal s'):AWp P (.region id ops true) Q s:=by
 unfold cv0 at h;split at h
 case isFalse=>cases h
 rename_i hst;split at h
 case h_2=>cases h
 rename_i s1 fs J;split at h
 case isFalse=>cases h
 rename_i hdyn;cases h;intro G a w b;refine wp_region_any hm ?_;obtain⟨evs,sts,l1,l2,l3,K,q,g1,g2,g3⟩:=nn0 hT D ops.toList 0 _ _ fs (fun j=>by simp) (by simp) (ar _) J;simp only[gx]at l1 l2 l3;have r:Lex P ops s.n s.st.next fs evs sts { s with st:={ s.st with next:=s.st.next+ops.size } }:=⟨hst,hdyn,l1,l2,l3,fun j o f ev st h1 h2 M N=>by
  have:=q j o f ev st (by simpa using h1) h2 M N;simpa using this⟩
 have i:left ops.size (fun j=>(bf ops.size false).getD j false)=ops.size:=by
  unfold left;rw[cy.2 (fun x z=>by
   have:x<ops.size:=by simpa using z
   simp[this])]
  simp
 have B:∀ j,(bf ops.size false).getD j false=false:=fun j=>by by_cases hj:j<ops.size<;>simp[hj]
 refine Way.any r (G0:=G) (σ0:=s.st) (w0:=w) _ ?_ ops.size (bf ops.size false) G s.get { s.st with next:=s.st.next+ops.size } a { w with drawn:=w.drawn+1 } (by simp) i ?_
 ·intro p G' tm σ O w' hw hp
  have agree:∀ {L V:Type} (us:List (L->Option V)) (f:L->V),us.length=ops.size->fold p us 0 f=fold (fun _=>true) us 0 f:=fun us f hl=>funext fun l=>N4 l us 0 f f rfl (fun j u hu C=>by
   have hj:j<ops.size:=by have:=(an.1 hu).1;omega
   rw[aG]at C;exact Am (hp j hj) C)
  have d:σ.next=s'.st.next:=by rw[hw.nx,agree _ _ (by simp[l1]),g3]
  have g:∀ k,σ.objs k=s'.st.objs k:=fun k=>by rw[hw.ob,agree _ _ (by simp[l1]),g2]
  have E:∀ t,tm t=s'.get t:=fun t=>by rw[hw.tm,agree _ _ (by simp[l1]),g1]
  refine⟨s',G',⟨hw.tran.le,hw.tran.keeps,by rw[<- d];exact hw.tran.next,hw.tran.fr.trans (Fr.less fun k x z=>by rw[g];exact z)⟩,⟨hw.rel.defers,by rw[hw.rel.size,K],fun t=>by rw[<- E];exact hw.rel.tmps t,hw.rel.rel.less d.symm (fun k x z=>by rw[g];exact z)⟩,I⟩
 have c:∀ {L V:Type} (us:List (L->Option V)) (f:L->V) (l:L),fold (fun j=>(bf ops.size false).getD j false) us 0 f l=f l:=fun us f l=>aI0 l us 0 f _ (fun j u _ hp=>by rw[B]at hp;cases hp) rfl;refine⟨⟨b.defers,b.size,b.tmps,(b.rel.next (aO _ _)).drawn _⟩,fun t=>(c _ _ _).symm,fun k=>(c _ _ _).symm,(c (evs.map fun e=>fun _:Unit=>e.uN) (fun _=>s.st.next+ops.size) ()).symm,fun j _ _=>b.rel.fresh _ (aO _ _),(fun j o _ hp=>by rw[B]at hp;cases hp),ar _,?_⟩;exact⟨.refl G,.refl _ G,aO _ _,(Fr.less (σ:=s.st) (σ':={ s.st with next:=s.st.next+ops.size }) (fun _ _ h=>h)).trans (Fr.draws _ _ _ _ (aO _ _))⟩
def oG0(T:Tab)(t:TypeId)(args:List AV)(σ:c8):Option (AV×c8) :=
 match args with
 | [x]=>match T t with
  | some { und:=.slice elem,.. }=>match T elem with
   | some a=>match N9 σ x with
    | some xs=>if (xs.all fun c=>c.length==a.size&&c.all AV.one)=true/\(2*xs.length+1000)*a.bytes<=2^48/\xs.length<=2^62/\0<a.size then
      match x.isNil with
      | some true=>some (.sc (.slice none 0 0),{ σ with next:=σ.next+7 })
      | _=>some (.ms (σ.next+5) a.size 0 xs.length,{ σ with next:=σ.next+7 }.set (σ.next+5) (.row elem a.size xs))else none
    | none=>none
   | none=>none
  | _=>none
 | _=>none
def Tr.ofList{α:Type}:List (Nat×α)->Tr α->Tr α
 | [],t=>t
 | (k,v)::l,t=>Tr.ofList l (t.set k (some v))
theorem Tr.ofList_get{α:Type}:∀ (l:List (Nat×α)) (t:Tr α) (k:Nat) (v:α),(Tr.ofList l t).get k=some v->(k,v)∈l\/t.get k=some v
 | [],t,k,v,h=>.inr h
 | (j,u)::l,t,k,v,h=>by
  rcases Tr.ofList_get l (t.set j (some u)) k v h with h1 | h1
  ·exact .inl (bC _ h1)
  rw[Tr.get_set]at h1;split at h1
  ·rename_i e;cases h1;exact .inl (by rw[e];simp)
  exact .inr h1
def fTr(P:Program):Tr Func:=Tr.ofList (P.funcs.toList.zipIdx.map fun p=>(p.2,p.1)) .leaf
theorem fTr_ok(P:Program)(f:FuncId)(fn:Func)(h:(fTr P).get f=some fn):P.funcs[f]?=some fn:=by
 rcases Tr.ofList_get _ _ _ _ h with h | h
 ·grind
 rw[Tr.get_leaf]at h;cases h
def od0(f:AV->Option AV):List AV->Option (List AV)
 | []=>some []
 | c::cs=>match f c,od0 f cs with
  | some x,some xs=>some (x::xs)
  | _,_=>none
def mapR(f:AV->Option AV):List (List AV)->Option (List (List AV))
 | []=>some []
 | c::cs=>match od0 f c,mapR f cs with
  | some x,some xs=>some (x::xs)
  | _,_=>none
theorem av0{f:AV->Option AV}:∀ {l a:List AV},od0 f l=some a->a.length=l.length/\∀ i (h:i<l.length) (h':i<a.length),f l[i]=some a[i]
 | [],a,h=>by simp only[od0,ai]at h;subst h;exact⟨rfl,fun i h=>by simp at h⟩
 | c::cs,a,h=>by
  unfold od0 at h;split at h
  ·rename_i x xs h1 h2
   cases h;obtain⟨e1,e2⟩:=av0 h2;refine⟨by simp[e1],fun i hi b=>?_⟩;cases i with
   | zero=>exact h1
   | succ i=>exact e2 i (by simpa using hi) (by simpa using b)
  cases h
theorem oC0{f:AV->Option AV}:∀ {l a:List (List AV)},mapR f l=some a->a.length=l.length/\∀ i (h:i<l.length) (h':i<a.length),od0 f l[i]=some a[i]
 | [],a,h=>by simp only[mapR,ai]at h;subst h;exact⟨rfl,fun i h=>by simp at h⟩
 | c::cs,a,h=>by
  unfold mapR at h;split at h
  ·rename_i x xs h1 h2
   cases h;obtain⟨e1,e2⟩:=oC0 h2;refine⟨by simp[e1],fun i hi b=>?_⟩;cases i with
   | zero=>exact h1
   | succ i=>exact e2 i (by simpa using hi) (by simpa using b)
  cases h
def Live(G:c9)(σ:c8)(b:Nat):Prop:=∃ id o p,σ.objs id=some o/\G.pl id=some p/\p.virt=false/\p.block=b
open Classical in
noncomputable def c9.frozen(G:c9)(σ:c8)(w:World)(pl:Nat->Option Pl):c9 :={ w0:=G.w0,imm:=fun b=>if Live G σ b then w.heap[b]? else G.imm b,pl:=pl }
theorem H6{G:c9}{σ:c8}{w:World}(h:Rel G σ w){pl:Nat->Option Pl}{b:Nat}{o:Obj}(a:G.imm b=some o):(G.frozen σ w pl).imm b=some o:=by
 simp only[c9.frozen];split
 ·rename_i hl
  obtain⟨id,x,p,h1,h2,c,rfl⟩:=hl;rw[(h.real h1 h2 c).1]at a;cases a
 exact a
theorem eh0{G:c9}{σ:c8}{w:World}(h:Rel G σ w){pl:Nat->Option Pl}{b o:Nat}{v:Value}(hc:G.cell b o=some v):(G.frozen σ w pl).cell b o=some v:=by
 unfold c9.cell at *;cases a:G.imm b with
 | none=>simp[a]at hc
 | some x=>rw[H6 h a];simpa[a]using hc
def c8.none:c8:={ next:=0,tr:=.leaf,low:=0 }
theorem c8.none_objs(id:Nat):c8.none.objs id=iK:=Tr.get_leaf id
def vbeq:Value->Value->Bool
 | .bool a,.bool b=>a==b
 | .int k a,.int l b=>decide (k=l)&&decide (a=b)
 | .string a,.string b=>decide (a=b)
 | .slice none 0 0,.slice none 0 0=>true
 | _,_=>false
theorem xD0{a b:Value}(h:vbeq a b=true):a=b:=by
 unfold vbeq at h
 grind
structure Memo where
 f:FuncId
 args:List AV
 c:AV
def J1(P:Program)(m:Memo):Prop:=∀ σ,F3 P m.f m.args σ (fun v σ'=>v=m.c/\σ'=σ)
def U0(P:Program):Nat->List Field->Bool
 | _,[]=>true
 | i,f::fs=>(f.name != "_")&&aA f.offset i&&(match P.underlying f.type with | some (.int _)=>true | _=>false)&&U0 P (i+1) fs
def wr0(P:Program)(t:TypeId):Option Nat:=match P.underlying t with
 | some (.int _)=>some 1
 | some (.struct fs)=>match !P.stoodInHeld t&&U0 P 0 fs.toList,P.info? t with
  | true,some i=>match aA i.size fs.size with
   | true=>some fs.size
   | false=>none
  | _,_=>none
 | _=>none
def cV0(P:Program):Nat->List Field->Option Nat
 | i,[]=>some i
 | i,f::fs=>match (f.name != "_")&&aA f.offset i with
  | true=>match wr0 P f.type with
   | some k=>cV0 P (i+k) fs
   | none=>none
  | false=>none
def endB(o:Option Nat)(n:Nat):Bool:=match o with
 | some m=>aA m n
 | none=>false
def rL0(P:Program)(t:TypeId)(n:Nat):Option Nat :=
 match P.eqGuardType P.depth t with
 | true=>none
 | false=>match P.underlying t with
  | some (.struct fs)=>if !P.stoodInHeld t&&endB (cV0 P 0 fs.toList) n then some n else none
  | some (.array len elem)=>match P.underlying elem,P.info? elem with
   | some (.int _),some i=>if aA i.size 1&&aA len n then some n else none
   | _,_=>none
  | _=>none
def TT(P:Program)(t:TypeId):Option TI :=
 match P.underlying t,P.info? t with
 | some u,some i=>match i.zero with
  | some z=>match aA z.cells.size i.size with
   | true=>some { und:=u,size:=i.size,zero:=z,bytes:=i.bytes,flat:=rL0 P t i.size }
   | false=>none
  | none=>none
 | _,_=>none
def ivA(l:List Int):Array Value:=(l.map (bn .i64)).toArray
theorem rB0(k:Nat){xs ys:List Int}(h:xs.length=ys.length):(xs==ys)=((xs.take k==ys.take k)&&(xs.drop k==ys.drop k)):=by
 rw[Bool.eq_iff_iff];simp only[beq_iff_eq,ab];constructor
 ·rintro rfl;exact⟨rfl,rfl⟩
 rintro ⟨h1,h2⟩;rw[<- cL k xs,<-cL k ys,h1,h2]
section
variable {P:Program} (w:World)
theorem L6{t:TypeId}{k:IntKind}(h:P.underlying t=some (.int k))(cs:Array Value)(off:Nat)(v:Value)(hv:cs[off]?=some v):(part t cs off).run P w=.ok v w:=by simp[part,isAgg,underlying,h,hv]
theorem eA0(d:Nat)(az bs:List Int):∀ (fs:List Field) (i:Nat),U0 P i fs=true->i+fs.length=az.length->bs.length=az.length ->
  (ep (d+1) (az.map (bn .i64)).toArray (bs.map (bn .i64)).toArray fs).run P w=.ok (az.drop i==bs.drop i) w
 | [],i,_,h1,h2=>by simp only[List.length_nil,cS]at h1;simp[ep,h1,<-h2]
 | f::fs,i,hf,h1,h2=>by
  simp only[ax]at h1;simp only[U0,ab]at hf;obtain⟨⟨⟨g,h⟩,hu⟩,j⟩:=hf;have b:f.offset=i:=af h;have c:f.name≠ "_":=by simpa using g
  split at hu
  ·rename_i k hk
   have ha:(az.map (bn .i64)).toArray[f.offset]?=some (.int .i64 (az[i]'(by omega))):=by rw[b];simp
   have l:(bs.map (bn .i64)).toArray[f.offset]?=some (.int .i64 (bs[i]'(by omega))):=by rw[b];simp
   have m:=eA0 d az bs fs (i+1) j (by omega) h2;have e1:az.drop i=az[i]'(by omega)::az.drop (i+1):=bw (by omega);have e2:bs.drop i=bs[i]'(by omega)::bs.drop (i+1):=bw (by omega);simp only[ep,Af c,al,L6 w hk _ _ _ ha,L6 w hk _ _ _ l,ah,run_equalIn_int w d f.type .i64 k _ _ hk];have key:(az.drop i==bs.drop i)=((az[i]'(by omega)==bs[i]'(by omega))&&(az.drop (i+1)==bs.drop (i+1))):=by rw[e1,e2];exact gP
   rw[key];by_cases e:az[i]'(by omega)=bs[i]'(by omega)
   ·have a:(az[i]'(by omega)==bs[i]'(by omega))=true:=by simpa using e
    simp only[a,aw,au,Ah,m,dt]
   have a:(az[i]'(by omega)==bs[i]'(by omega))=false:=by simpa using e
   simp only[a,aP,Al,ao,fP]
  cases hu
theorem cG0(b:Bool)(d:Nat)(az:List Int):∀ (fs:List Field) (i:Nat),U0 P i fs=true->i+fs.length=az.length ->
  (forIn fs cH (fun (f:Field) (_:PUnit)=>do
    if f.name≠ "_" then bp b (d+1) f.type (<- part f.type (az.map (bn .i64)).toArray f.offset)
    pure (eb cH)):Sem PUnit).run P w=.ok cH w
 | [],i,_,h1=>by simp
 | f::fs,i,hf,h1=>by
  simp only[ax]at h1;simp only[U0,ab]at hf;obtain⟨⟨⟨g,h⟩,hu⟩,j⟩:=hf;have a:f.offset=i:=af h;have c:f.name≠ "_":=by simpa using g
  split at hu
  ·rename_i k hk
   have ha:(az.map (bn .i64)).toArray[f.offset]?=some (.int .i64 (az[i]'(by omega))):=by rw[a];simp
   have l:=cG0 b d az fs (i+1) j (by omega);have e:(bp b (d+1) f.type (.int .i64 (az[i]'(by omega)))).run P w=.ok () w:=by simp[bp,underlying,hk]
   rw[eC];simp only[Af c,al,L6 w hk _ _ _ ha,ah,e,ao];exact l
  cases hu
theorem gl0{t:TypeId}{fs:Array Field}(hu:P.underlying t=some (.struct fs))(hf:U0 P 0 fs.toList=true)(b:Bool)(d:Nat)(az:List Int)(h1:az.length=fs.size) :
  (bp b (d+2) t (.agg (az.map (bn .i64)).toArray)).run P w=.ok () w:=by
 have:=cG0 w b d az fs.toList 0 hf (by simp[h1]);rw[bp];simp only[al,run_underlying hu,ah];rw[<- gH];have e:=Ap (fun r=>r.andThen fun (_:PUnit) w'=>f_ P (pure ()) w') this;simp only[ah,ao]at e;exact e
structure FlW(P:Program)(w:World)(t:TypeId)(k d:Nat):Prop where
 ok:∀ (az:List Int) (off:Nat),off+k<=az.length->∃ v,(part t (ivA az) off).run P w=.ok v w/\(∀ b,(bp b d t v).run P w=.ok () w) /\
  ∀ (bs:List Int),bs.length=az.length->∃ u,(part t (ivA bs) off).run P w=.ok u w/\(dK d t v u).run P w=.ok ((az.drop off).take k==(bs.drop off).take k) w
theorem take1{az:List Int}{off:Nat}(h:off<az.length):(az.drop off).take 1=[az[off]]:=by rw[bw h];rfl
theorem xT0{t:TypeId}{k:IntKind}(h:P.underlying t=some (.int k))(d:Nat):FlW P w t 1 (d+1):=by refine⟨fun az off a=>⟨.int .i64 (az[off]'(by omega)),L6 w h _ _ _ (by simp[ivA]),fun b=>by simp[bp,underlying,h],fun bs c=>⟨.int .i64 (bs[off]'(by omega)),L6 w h _ _ _ (by simp[ivA]),?_⟩⟩⟩;rw[run_equalIn_int w d t .i64 k _ _ h,take1 (by omega),take1 (by omega)];simp
theorem np0(az:List Int)(off k:Nat):(ivA az).extract off (off+k)=ivA ((az.drop off).take k):=by unfold ivA;rw[<- Array.toList_inj];simp[cY,cZ]
theorem py0{t:TypeId}{fs:Array Field}(hu:P.underlying t=some (.struct fs))(hs:P.stoodInHeld t=false)(hf:U0 P 0 fs.toList=true)(hz:∀ w,(sizeOf t).run P w=.ok fs.size w)(d:Nat):FlW P w t fs.size (d+3):=by
 have a:P.fieldsOf t=fs:=by simp[gI,hu]
 have hp:∀ (az:List Int) (off:Nat),(part t (ivA az) off).run P w=.ok (.agg (ivA ((az.drop off).take fs.size))) w:=fun az off=>by rw[<- np0];simp[part,isAgg,underlying,hu,hz]
 refine⟨fun az off c=>⟨_,hp az off,fun b=>?_,fun bs e=>⟨_,hp bs off,?_⟩⟩⟩
 ·exact gl0 w hu hf b (d+1) ((az.drop off).take fs.size) (by simp;omega)
 rw[run_equalIn_struct w (d+2) t _ _ (by rw[a];exact hu) hs,a];have:=eA0 w (d+1) ((az.drop off).take fs.size) ((bs.drop off).take fs.size) fs.toList 0 hf (by simp;omega) (by simp;omega);simpa[ivA]using this
theorem vn0{t:TypeId}{k:Nat}(h:wr0 P t=some k)(d:Nat):FlW P w t k (d+3):=by
 unfold wr0 at h;split at h
 ·rename_i b hk
  cases h;exact xT0 w hk (d+2)
 ·rename_i fs hu
  split at h
  ·rename_i i hc hi
   split at h
   ·rename_i a
    cases h;simp only[ab,bL]at hc;have a:=af a;exact py0 w hu hc.1 hc.2 (fun w=>by simp[sizeOf,typeInfo,hi,a]) d
   cases h
  cases h
 cases h
theorem iu0:∀ (fs:List Field) (i n:Nat),cV0 P i fs=some n->i<=n
 | [],i,n,h=>by simp only[cV0,ai]at h;omega
 | f::fs,i,n,h=>by
  unfold cV0 at h;split at h
  ·split at h
   ·have:=iu0 fs _ n h;omega
   cases h
  cases h
theorem ls0(d:Nat)(az bs:List Int):∀ (fs:List Field) (i:Nat),cV0 P i fs=some az.length->bs.length=az.length ->
  (ep (d+3) (ivA az) (ivA bs) fs).run P w=.ok (az.drop i==bs.drop i) w
 | [],i,h1,h2=>by simp only[cV0,ai]at h1;simp[ep,h1,<-h2]
 | f::fs,i,h1,h2=>by
  unfold cV0 at h1;split at h1
  ·rename_i hc
   split at h1
   ·rename_i k hk
    simp only[ab]at hc;have a:f.name≠ "_":=by simpa using hc.1
    have b:f.offset=i:=af hc.2;have hle:=iu0 fs _ _ h1;obtain⟨v,hv,_,c⟩:=(vn0 w hk d).ok az i hle;obtain⟨u,hu,he⟩:=c bs h2;have e:=ls0 d az bs fs (i+k) h1 h2;simp only[ep,Af a,al,b,hv,hu,ah,he];have key:=rB0 k (xs:=az.drop i) (ys:=bs.drop i) (by simp[h2]);rw[dn,dn]at key;rw[key];cases g:(az.drop i).take k==(bs.drop i).take k with
    | true=>simp only[aw,au,Ah,e,dt]
    | false=>simp only[aP,Al,ao,fP]
   cases h1
  cases h1
theorem fV0(b:Bool)(d:Nat)(az:List Int):∀ (fs:List Field) (i:Nat),cV0 P i fs=some az.length ->
  (forIn fs cH (fun (f:Field) (_:PUnit)=>do
    if f.name≠ "_" then bp b (d+3) f.type (<- part f.type (ivA az) f.offset)
    pure (eb cH)):Sem PUnit).run P w=.ok cH w
 | [],i,h1=>by simp
 | f::fs,i,h1=>by
  unfold cV0 at h1;split at h1
  ·rename_i hc
   split at h1
   ·rename_i k hk
    simp only[ab]at hc;have a:f.name≠ "_":=by simpa using hc.1
    have c:f.offset=i:=af hc.2;have hle:=iu0 fs _ _ h1;obtain⟨v,hv,e,_⟩:=(vn0 w hk d).ok az i hle;rw[eC];simp only[Af a,al,c,hv,ah,e b,ao];exact fV0 b d az fs (i+k) h1
   cases h1
  cases h1
theorem lk0{t:TypeId}{fs:Array Field}(hu:P.underlying t=some (.struct fs))(hs:P.stoodInHeld t=false)(az bs:List Int)(hf:cV0 P 0 fs.toList=some az.length)(h2:bs.length=az.length) :
  (dK 10000 t (.agg (ivA az)) (.agg (ivA bs))).run P w=.ok (az==bs) w /\
  ∀ b,(bp b 10000 t (.agg (ivA az))).run P w=.ok () w:=by
 have a:P.fieldsOf t=fs:=by simp[gI,hu]
 constructor
 ·rw[run_equalIn_struct w 9999 t _ _ (by rw[a];exact hu) hs,a,ls0 w 9996 az bs fs.toList 0 hf h2]
  simp
 intro b;have:=fV0 w b 9996 az fs.toList 0 hf;rw[bp];simp only[al,run_underlying hu,ah];rw[<- gH];have e:=Ap (fun r=>r.andThen fun (_:PUnit) w'=>f_ P (pure ()) w') this;simp only[ah,ao]at e;exact e
theorem fT0{elem:TypeId}{k:IntKind}(hu:P.underlying elem=some (.int k))(d:Nat)(az bs:List Int)(h2:bs.length=az.length):∀ (m i:Nat),i+m=az.length ->
  (forIn (cW i m) (none,cH) (fun (i:Nat) (_:Option Bool×PUnit)=>do
    if !(<- dK (d+1) elem (<- part elem (az.map (bn .i64)).toArray (i*1)) (<- part elem (bs.map (bn .i64)).toArray (i*1)))then pure (ForInStep.done (some false,cH))else pure (eb (none,cH))):Sem (Option Bool×PUnit)).run P w=.ok (if az.drop i==bs.drop i then none else some false,cH) w
 | 0,i,h1=>by simp only[cS]at h1;simp[h1,<-h2]
 | m+1,i,h1=>by
  have ha:(az.map (bn .i64)).toArray[i*1]?=some (.int .i64 (az[i]'(by omega))):=by simp
  have c:(bs.map (bn .i64)).toArray[i*1]?=some (.int .i64 (bs[i]'(by omega))):=by simp
  have e:=fT0 hu d az bs h2 m (i+1) (by omega);have e1:az.drop i=az[i]'(by omega)::az.drop (i+1):=bw (by omega);have e2:bs.drop i=bs[i]'(by omega)::bs.drop (i+1):=bw (by omega);have key:(az.drop i==bs.drop i)=((az[i]'(by omega)==bs[i]'(by omega))&&(az.drop (i+1)==bs.drop (i+1))):=by rw[e1,e2];exact gP
  rw[ie,eC,key];simp only[al,L6 w hu _ _ _ ha,L6 w hu _ _ _ c,ah,run_equalIn_int w d elem .i64 k _ _ hu];by_cases b:az[i]'(by omega)=bs[i]'(by omega)
  ·have a:(az[i]'(by omega)==bs[i]'(by omega))=true:=by simpa using b
   simp only[a,aw,au,Ah,ao,ah,dt];exact e
  have a:(az[i]'(by omega)==bs[i]'(by omega))=false:=by simpa using b
  simp only[a,aP,Al,ao,ah,fP,au,Ah]
theorem cU0{elem:TypeId}{k:IntKind}(hu:P.underlying elem=some (.int k))(hz:(sizeOf elem).run P w=.ok 1 w)(b:Bool)(d:Nat)(az:List Int):∀ (m i:Nat),i+m=az.length ->
  (forIn (cW i m) cH (fun (i:Nat) (_:PUnit)=>do
    bp b (d+1) elem (<- part elem (az.map (bn .i64)).toArray (i*(<- sizeOf elem)))
    pure (eb cH)):Sem PUnit).run P w=.ok cH w
 | 0,i,h1=>by simp
 | m+1,i,h1=>by
  have ha:(az.map (bn .i64)).toArray[i*1]?=some (.int .i64 (az[i]'(by omega))):=by simp
  have c:=cU0 hu hz b d az m (i+1) (by omega);have a:(bp b (d+1) elem (.int .i64 (az[i]'(by omega)))).run P w=.ok () w:=by simp[bp,underlying,hu]
  rw[ie,eC];simp only[al,hz,ah,L6 w hu _ _ _ ha,a,ao];exact c
theorem hJ0{t elem:TypeId}{n:Nat}{k:IntKind}(a:P.underlying t=some (.array n elem))(hu:P.underlying elem=some (.int k))(hz:(sizeOf elem).run P w=.ok 1 w)(b:Bool)(d:Nat)(az:List Int)(h1:az.length=n) :
  (bp b (d+2) t (.agg (az.map (bn .i64)).toArray)).run P w=.ok () w:=by
 have:=cU0 w hu hz b d az n 0 (by omega);rw[bp];simp only[al,run_underlying a,ah];rw[dL];have e:=Ap (fun r=>r.andThen fun (_:PUnit) w'=>f_ P (pure ()) w') this;simp only[ah,ao]at e;simpa using e
theorem mh0{t elem:TypeId}{n:Nat}{k:IntKind}(e:P.underlying t=some (.array n elem))(hu:P.underlying elem=some (.int k))(hz:(sizeOf elem).run P w=.ok 1 w)(d:Nat)(az bs:List Int)(h1:az.length=n)(h2:bs.length=n) :
  (dK (d+2) t (.agg (az.map (bn .i64)).toArray) (.agg (bs.map (bn .i64)).toArray)).run P w=.ok (az==bs) w:=by
 have:=fT0 w hu d az bs (by omega) n 0 (by omega);rw[dK];simp only[al,run_underlying e,ah,hz];rw[dL];have a:[:n].size=n:=by simp
 rw[a]
 erw [this]
 simp only[ah,fe];by_cases c:(az==bs)=true
 ·simp[c]
 have b:(az==bs)=false:=by simpa using c
 rw[b];simp
theorem TT_ok(P:Program):B7 P (TT P):=by
 have a:∀ t ti,TT P t=some ti->∃ u i z,P.underlying t=some u/\P.info? t=some i/\i.zero=some z/\z.cells.size=i.size/\ti={ und:=u,size:=i.size,zero:=z,bytes:=i.bytes,flat:=rL0 P t i.size }:=by
  intro t ti h;unfold TT at h;split at h
  ·rename_i u i hu hi
   split at h
   ·rename_i z hz
    split at h
    ·rename_i q
     cases h;exact⟨u,i,z,hu,hi,hz,af q,rfl⟩
    cases h
   cases h
  cases h
 refine⟨fun t ti h=>?_,fun t ti h=>?_,fun t ti h=>?_,fun t ti n h c=>?_⟩
 ·obtain⟨u,i,z,h1,h2,f,g,rfl⟩:=a t ti h;exact h1
 ·obtain⟨u,i,z,h1,h2,f,g,rfl⟩:=a t ti h;exact⟨i,h2,rfl,rfl,f⟩
 ·obtain⟨u,i,z,h1,h2,f,g,rfl⟩:=a t ti h;exact g
 obtain⟨u,i,z,h1,h2,f,g,rfl⟩:=a t ti h;simp only at c;unfold rL0 at c;split at c
 ·cases c
 rename_i r;refine⟨r,fun az bs w ha q=>?_⟩;split at c
 ·rename_i fs d
  split at c
  ·rename_i hc
   cases c;simp only[ab,bL]at hc;obtain⟨j,e⟩:=hc;unfold endB at e;split at e
   ·rename_i m hm
    have l:=af e;exact lk0 w d j az bs (by rw[hm,l,ha]) (by omega)
   cases e
  cases c
 ·rename_i len elem d
  split at c
  ·rename_i k v hk o
   split at c
   ·rename_i hc
    cases c;simp only[ab]at hc;have p:=af hc.1;have s:=af hc.2;have hz:(sizeOf elem).run P w=.ok 1 w:=by simp[sizeOf,typeInfo,o,p]
    exact⟨mh0 w d hk hz 9998 az bs (by omega) (by omega),fun b=>hJ0 w d hk hz b 9998 az (by omega)⟩
   cases c
  cases c
 cases c
def tTr(P:Program):Tr TI:=Tr.ofList ((bE P.types.size).filterMap fun t=>(TT P t).map fun x=>(t,x)) .leaf
theorem tTr_ok(P:Program):B7 P (fun t=>(tTr P).get t):=by
 have key:∀ t ti,(tTr P).get t=some ti->TT P t=some ti:=by
  intro t ti h;rcases Tr.ofList_get _ _ _ _ h with h | h
  ·obtain⟨x,_,b⟩:=cT.1 h
   cases hT:TT P x with
   | none=>simp[hT]at b
   | some y=>simp[hT]at b;obtain⟨rfl,rfl⟩:=b;exact hT
  rw[Tr.get_leaf]at h;cases h
 have a:=TT_ok P;exact⟨fun t ti h=>a.und t ti (key t ti h),fun t ti h=>a.info t ti (key t ti h),fun t ti h=>a.zlen t ti (key t ti h),fun t ti n h=>a.flat t ti n (key t ti h)⟩
end
theorem bW0.weaken{P:Program}{f:FuncId}{args:List AV}{σ:c8}{R d:AV->c8->Prop}(h:bW0 P f args σ R)
  (j:∀ v σ1,R v σ1->∃ a,d v a/\σ1.next<=a.next/\∀ k x,a.objs k=some x->σ1.objs k=some x):bW0 P f args σ d:=by
 intro G vs w h1 h2;refine(h G vs w h1 h2).mono ?_;rintro e w' ⟨v,g,σ1,G',rfl,b,l,m,n⟩;obtain⟨a,c1,c2,i⟩:=j g σ1 n;have c:Rel G' { σ1 with next:=a.next } w':=m.next c2;exact⟨v,g,a,G',rfl,⟨b.le,b.keeps,bo b.next c2,b.fr.trans (Fr.less i)⟩,l,c.less rfl i,c1⟩
structure nB0(o:Oper)(d:Option Tmp)(op:Op):Prop where
 dst:o.dst=d
 op:o.op=op
 guard:o.guard=none
theorem nB0.wanted{o:Oper}{d:Option Tmp}{op:Op}(h:nB0 o d op)(ops:Array Oper)(s:AS):E4 ops s o=some true:=by simp[E4,h.guard]
section
variable {P:Program} {T:Tab} {ops:Array Oper} {n0:Nat} {Q:AS->Prop} {s:AS}
theorem cK0.is(hT:B7 P T){i:Nat}{rest:List Nat}{o:Oper}{d:Tmp}{op:Op}{v:AV}{σ':c8}(a:ops[i]?=some o)(h:nB0 o (some d) op)(hi:i∉rest)(b:d<s.n)
  (ha:aop T s.eval s.st (n0+i) op=some (v,σ')) (hk:cK0 P ops n0 Q rest ({ s with st:=σ' }.put (some d) v)):cK0 P ops n0 Q (i::rest) s:=by
 refine cK0.plain hT a hi (h.wanted ops s) (by rw[h.dst];simpa[U6]using b) (by rw[h.op];exact ha) (kl0 ha).1 ?_;rw[h.dst];exact hk
theorem cK0.nilTest(hT:B7 P T){i:Nat}{rest:List Nat}{o:Oper}{d:Tmp}{t elem yt:TypeId}{ti:TI}{x:Operand}(v:ops[i]?=some o)(h:nB0 o (some d) (.binOp .eql t x (.const (.slice none 0 0)) yt))(B:d<s.n)
  (C:T t=some ti) (hu:ti.und=.slice elem) (D:(∃ es,s.eval x=.rs es)\/∃ id z off len,s.eval x=.ms id z off len)
  (hk:∀ b,cK0 P ops n0 Q rest (s.put (some d) (.sc (.bool b)))):cK0 P ops n0 Q (i::rest) s:=by
 intro G a w p hf E;have f:=p.eval x;have g:∃ q l c,a.eval x=.slice q l c:=by generalize a.eval x=u at f;rcases D with ⟨es,e⟩ | ⟨id,z,off,len,e⟩<;>rw[e]at f<;>cases f<;>exact⟨_,_,_,rfl⟩
 obtain⟨q,l,c,r⟩:=g;simp only[wpOps,v,U4 p (h.wanted ops s),Al];left;have k:P.underlying t=some (.slice elem):=by rw[hT.und t ti C,hu]
 have m:(execOp a.eval o).run P w=.ok (.value (.bool q.isNone)) w:=by have hc:a.eval (.const (.slice none 0 0))=.slice none 0 0:=rfl;simp only[execOp,h.op,r,hc,eqGuard,al,ao,ah,binOp,Op.equal,Op.maxDepth];have e:=aQ0 w 9999 t elem q l c k;simp only[Nat.reduceAdd]at e;simp only[aw,au,Ah,ao,ah,e]
 unfold fw;rw[m];simp only[dF];have:=hk q.isNone G (a.put (some d) (.bool q.isNone)) w (p.put (.refl G) p.rel (.sc _) (by simpa[U6]using B)) (fun j hj=>hf j (by simp[hj])) (by simpa using E);rw[h.dst];simpa using this
end
@[simp] theorem AS.get_st (s:AS) (σ:c8) (t:Nat):({ s with st:=σ }:AS).get t=s.get t:=rfl
def wX0:Operand:=.const (.slice none 0 0)
structure mA0(fn:Func)(t:TypeId):Prop where
 ntmps:fn.ntmps=8
 results:fn.results=#[.tmp 2]
 body:∃ i0 i1 i2 i3 o0 o1 o2 o3 o4 o5 o6 o7 yt,fn.body=some (.seq (.region i0 #[o0] false) (.seq (.seq (.region i1 #[o1,o2] false) (.cond (.tmp 4) (.seq (.region i2 #[o3] false) .ret) .skip)) (.seq (.region i3 #[o4,o5,o6,o7] false) .ret))) /\
  nB0 o0 (some 2) (.assign wX0)/\nB0 o1 (some 3) (.move (.tmp 0))/\nB0 o2 (some 4) (.binOp .eql t (.tmp 3) wX0 yt)/\nB0 o3 (some 2) (.assign wX0) /\
  nB0 o4 (some 5) (.buildSlice t 0 #[])/\nB0 o5 (some 6) (.move (.tmp 0))/\nB0 o6 (some 7) (.call { callee:=.builtin .append,args:=#[.tmp 5,.tmp 6],argTypes:=#[t,t] })/\nB0 o7 (some 2) (.assign (.tmp 7))
theorem bW0.withLt{P:Program}{f:FuncId}{args:List AV}{σ:c8}{R:AV->c8->Prop}(h:(∀ k x,σ.objs k=some x->k<σ.next)->bW0 P f args σ R):bW0 P f args σ R :=fun G vs w h1 h2=>h (fun k x a=>h2.objs_lt a) G vs w h1 h2
structure Step(s:AS)(d:Nat)(v:AV)(σ':c8)(s':AS):Prop where
 n:s'.n=s.n
 get:∀ t,s'.get t=if t=d then v else s.get t
 st:s'.st=σ'
theorem Step.same{s s':AS}{d:Nat}{v:AV}{σ':c8}(h:Step s d v σ' s'):s'.get d=v:=by rw[h.get,Af rfl]
theorem Step.other{s s':AS}{d t:Nat}{v:AV}{σ':c8}(h:Step s d v σ' s')(a:t≠d):s'.get t=s.get t:=by rw[h.get,Ae a]
section
variable {P:Program} {T:Tab} {ops:Array Oper} {n0:Nat} {Q:AS->Prop} {s:AS}
theorem cK0.step(hT:B7 P T){i:Nat}{rest:List Nat}{o:Oper}{d:Tmp}{op:Op}{v:AV}{σ':c8}(a:ops[i]?=some o)(h:nB0 o (some d) op)(hi:i∉rest)(b:d<s.n)
  (ha:aop T s.eval s.st (n0+i) op=some (v,σ')) (hk:∀ s',Step s d v σ' s'->cK0 P ops n0 Q rest s'):cK0 P ops n0 Q (i::rest) s :=
 cK0.is hT a h hi b ha (hk _ ⟨by simp,fun t=>AS.get_put _ _ _ _,by simp⟩)
theorem AWp.region'{Q:Exit->AS->Prop}{id:Nat}{ops:Array Oper}(h:∀ s',s'.n=s.n->(∀ t,s'.get t=s.get t)->s'.st={ s.st with next:=s.st.next+ops.size }->cK0 P ops s.st.next (fun s'=>Q .normal s') (bE ops.size) s'):AWp P (.region id ops false) Q s :=AWp.region (h _ rfl (fun _=>rfl) rfl)
end
theorem jj0{P:Program}{T:Tab}(hT:B7 P T){fn:Func}{t elem:TypeId}{ti d:TI}(i:mA0 fn t)(J:T t=some ti)(hu:ti.und=.slice elem)(K:T elem=some d){f:FuncId}(hf:P.funcs[f]?=some fn){x:AV}{σ:c8}
  {xs:List (List AV)} (a:N9 σ x=some xs) (hok:(xs.all fun c=>c.length==d.size&&c.all AV.one)=true) (hby:(2*xs.length+1000)*d.bytes<=2^48) (hlen:xs.length<=2^62) (L:0<d.size)
  (M:∀ k x,σ.objs k=some x->k<σ.next) (R:AV->c8->Prop)
  (hA:x.isNil≠some false->R (.sc (.slice none 0 0)) { σ with next:=σ.next+4 })
  (hB:x.isNil≠some true->∀ σ1:c8,σ1.next=σ.next+7->(∀ k,σ1.objs k=if k=σ.next+5 then some (.row elem d.size xs)else σ.objs k)->R (.ms (σ.next+5) d.size 0 xs.length) σ1) :
  bW0 P f [x] σ R:=by
 obtain⟨i0,i1,i2,i3,o0,o1,o2,o3,o4,o5,o6,o7,yt,hb,h0,h1,h2,h3,h4,h5,h6,h7⟩:=i.body;refine bW0.of_body hT hf hb (by rw[i.ntmps];simp) ?_;rw[i.ntmps];have N:(AS.enter 8 [x] σ).get 0=x:=by rw[AS.enter_get];rfl
 have G:(AS.enter 8 [x] σ).n=8:=rfl;have r:(AS.enter 8 [x] σ).st=σ:=rfl;generalize AS.enter 8 [x] σ=s at N G r;have w:∀ s:AS,D1 T fn s=some (s.get 2):=fun s=>by simp[D1,i.results,fn0,lh0]
 have hti:∀ σ id,I2 T σ id t 0 []=some (.ms id d.size 0 0,σ.set id (.row elem d.size [])):=fun σ id=>by obtain⟨u,z1,z2,z3,z4⟩:=ti;simp only at hu;subst hu;simp[I2,J,K,L,T0]
 refine AWp.seq (AWp.region' fun s1 n1 g1 t1=>?_);show cK0 P #[o0] _ _ [0] _;refine cK0.step hT rfl h0 (by simp) (by rw[n1,G];decide) (v:=.sc (.slice none 0 0)) (σ':=s1.st) rfl fun s2 k2=>cK0.nil ?_;show AWp P (.seq _ _) _ s2;have O:s2.n=8:=by rw[k2.n,n1,G]
 have Q:s2.get 0=x:=by rw[k2.other (by decide),g1,N]
 have S:s2.st={ σ with next:=σ.next+1 }:=by rw[k2.st,t1,r];rfl
 refine AWp.seq (AWp.seq (AWp.region' fun s3 n3 g3 t3=>?_));show cK0 P #[o1,o2] _ _ [0,1] _;refine cK0.step hT rfl h1 (by simp) (by rw[n3,O];decide) (v:=x) (σ':=s3.st) (by simp only[aop,AS.eval];rw[g3,Q]) fun B k4=>?_;have j:B.n=8:=by rw[k4.n,n3,O]
 have U:B.get 0=x:=by rw[k4.other (by decide),g3,Q]
 have C:B.st={ σ with next:=σ.next+3 }:=by rw[k4.st,t3,S];rfl
 have rest:∀ b:Bool,x.isNil≠some (!b)->∀ l:AS,l.n=8->l.get 0=x->l.get 4=.sc (.bool b)->l.st={ σ with next:=σ.next+3 } ->
   AWp P (.cond (.tmp 4) (.seq (.region i2 #[o3] false) .ret) .skip) (mD0 (AWp P (.seq (.region i3 #[o4,o5,o6,o7] false) .ret) (fun e s'=>(e=.normal\/e=.ret)/\∃ v,D1 T fn s'=some v/\R v s'.st)) (fun e s'=>(e=.normal\/e=.ret)/\∃ v,D1 T fn s'=some v/\R v s'.st)) l:=by
  intro b hb l n5 x5 c5 t5;refine AWp.cond (t:=b) c5 ?_;cases b with
  | true=>refine AWp.seq (AWp.region' fun V n6 g6 t6=>?_);show cK0 P #[o3] _ _ [0] _;refine cK0.step hT rfl h3 (by simp) (by rw[n6,n5];decide) (v:=.sc (.slice none 0 0)) (σ':=V.st) rfl fun s7 m=>cK0.nil ?_;refine AWp.ret ?_;refine⟨.inr rfl,_,w _,?_⟩;rw[m.same,m.st,t6,t5];exact hA hb
  | false=>
   refine AWp.skip ?_;refine AWp.seq (AWp.region' fun V n6 g6 t6=>?_);show cK0 P #[o4,o5,o6,o7] _ _ [0,1,2,3] _;have D:V.st={ σ with next:=σ.next+7 }:=by rw[t6,t5];rfl
   have hnx:l.st.next=σ.next+3:=by rw[t5]
   rw[hnx];refine cK0.step hT rfl h4 (by simp) (by rw[n6,n5];decide) (v:=.ms (σ.next+3) d.size 0 0) (σ':=V.st.set (σ.next+3) (.row elem d.size [])) (hti _ _) fun s7 m=>?_;refine cK0.step hT rfl h5 (by simp) (by rw[m.n,n6,n5];decide) (v:=x) (σ':=s7.st) (by simp only[aop,AS.eval];rw[m.other (by decide),g6,x5]) fun h W=>?_;have e5:h.get 5=.ms (σ.next+3) d.size 0 0:=by rw[W.other (by decide),m.same]
   have e6:h.get 6=x:=W.same;have E:h.st=V.st.set (σ.next+3) (.row elem d.size []):=by rw[W.st,m.st]
   have o:∀ k,h.st.objs k=if k=σ.next+3 then some (.row elem d.size [])else σ.objs k:=fun k=>by rw[E,c8.objs_set,D];rfl
   have H:N9 h.st x=some xs:=by
    rw[<- a];unfold N9;split
    ·rename_i id z off len
     rw[o];have:id≠σ.next+3:=fun e=>by
      simp only[N9]at a;split at a
      ·rename_i ho;have:=M _ _ ho;omega
      cases a
     rw[Ae this]
    ·rfl
    ·rfl
    rfl
   have X:E9 T h.st (σ.next+5) t t (.ms (σ.next+3) d.size 0 0) x=some (.ms (σ.next+5) d.size 0 xs.length,(h.st.del (σ.next+3)).set (σ.next+5) (.row elem d.size xs)):=by
    obtain⟨u,z1,z2,z3,z4⟩:=ti;simp only at hu;subst hu;have htr:w8 h.st (.ms (σ.next+3) d.size 0 0)=h.st:=by simp[w8,o]
    simp only[E9,J,htr];have I:T9 h.st elem d.size (.ms (σ.next+3) d.size 0 0)=some (some (σ.next+3),[]):=by simp[T9,o]
    simp only[P9,J,K,I,H];rw[Af ⟨rfl,hok,by simpa using hby,by simpa using hlen,L⟩];simp
   refine cK0.step hT rfl h6 (by simp) (by rw[W.n,m.n,n6,n5];decide) (v:=.ms (σ.next+5) d.size 0 xs.length) (σ':=(h.st.del (σ.next+3)).set (σ.next+5) (.row elem d.size xs)) (by
    simp only[aop,C6,ay,bA,AS.eval,e5,e6];exact X) fun s9 k9=>?_
   refine cK0.step hT rfl h7 (by simp) (by rw[k9.n,W.n,m.n,n6,n5];decide) (v:=.ms (σ.next+5) d.size 0 xs.length) (σ':=s9.st) (by simp only[aop,AS.eval];rw[k9.same]) fun s10 Y=>cK0.nil ?_;refine AWp.ret ?_;refine⟨.inr rfl,_,w _,?_⟩;rw[Y.same,Y.st,k9.st];refine hB hb _ ?_ (fun k=>?_)
   ·rw[c8.set_next]
    show h.st.next=_;rw[E,c8.set_next,D]
   rw[c8.objs_set,c8.objs_del,o];by_cases q:k=σ.next+5
   ·simp[q]
   rw[Ae q,Ae q];by_cases q2:k=σ.next+3
   ·rw[Af q2]
    cases hk:σ.objs k with
    | none=>rfl
    | some y=>have:=M _ _ hk;omega
   rw[Ae q2,Ae q2]
 have Z:B.eval (.tmp 3)=x:=k4.same;cases g:x.isNil with
 | some b=>
  refine cK0.step hT rfl h2 (by simp) (by rw[j];decide) (v:=.sc (.bool b)) (σ':=B.st) (by
   obtain⟨u,z1,z2,z3,z4⟩:=ti;simp only at hu;subst hu;simp only[aop,wX0];rw[Z];simp[iR0,AS.eval,AV.ofValue,J,g]) fun l p=>cK0.nil ?_
  exact rest b (by rw[g];cases b<;>simp) l (by rw[p.n,j]) (by rw[p.other (by decide),U]) p.same (by rw[p.st,C])
 | none=>
  refine cK0.nilTest hT rfl h2 (by rw[j];decide) J hu (by
   rw[Z];unfold N9 at a;split at a
   ·exact .inr ⟨_,_,_,_,rfl⟩
   ·exact .inl ⟨_,rfl⟩
   ·simp[AV.isNil]at g
   cases a) fun b=>cK0.nil ?_
  have p:Step B 4 (.sc (.bool b)) B.st (B.put (some 4) (.sc (.bool b))):=⟨by simp,fun t=>AS.get_put _ _ _ _,by simp⟩;exact rest b (by rw[g];simp) _ (by rw[p.n,j]) (by rw[p.other (by decide),U]) p.same (by rw[p.st,C])
theorem sk0{σ:c8}{x:AV}{xs:List (List AV)}(a:N9 σ x=some xs)(b:x.isNil≠some false):xs=[]:=by
 unfold N9 at a;split at a
 ·rename_i id z off len
  split at a
  ·split at a
   ·cases a
    cases len with
    | zero=>simp
    | succ len=>simp[AV.isNil]at b
   cases a
  cases a
 ·cases a
  cases xs with
  | nil=>rfl
  | cons e es=>simp[AV.isNil]at b
 ·cases a;rfl
 cases a
theorem so0 {P:Program} {T:Tab} (hT:B7 P T) {f:FuncId} {fn:Func} {t:TypeId} (hf:P.funcs[f]?=some fn) (a:(fn.name== "runtime.NumGoroutine")=false) (g:mA0 fn t) {args:List AV} {σ σ':c8} {v:AV}
  (h:oG0 T t args σ=some (v,σ')):F3 P f args σ (fun I o=>I=v/\o=σ')/\ag0 σ σ':=by
 have b:fn.body.isNone=false:=by obtain⟨_,_,_,_,_,_,_,_,_,_,_,_,_,J,_⟩:=g.body;simp[J]
 unfold oG0 at h;split at h
 ·rename_i x
  split at h
  ·rename_i elem z1 z2 z3 z4 D
   split at h
   ·rename_i l p
    split at h
    ·rename_i xs c
     split at h
     ·rename_i hc
      obtain⟨q,r,hlen,s⟩:=hc;split at h
      ·rename_i d
       cases h;refine⟨F3.of_calls hf a b (bW0.withLt fun j=>?_),⟨ar _,fun _ _=>rfl⟩⟩;refine(jj0 hT g D rfl p hf c q r hlen s j (fun v σ1=>v=.sc (.slice none 0 0)/\σ1={ σ with next:=σ.next+4 }) (fun _=>⟨rfl,rfl⟩) (fun u=>Am d u)).weaken ?_;rintro v σ1 ⟨rfl,rfl⟩;exact⟨_,⟨rfl,rfl⟩,by simp,fun _ _ h=>h⟩
      rename_i d;cases h;refine⟨F3.of_calls hf a b (bW0.withLt fun j=>?_),?_⟩
      ·have key:=jj0 hT g D rfl p hf c q r hlen s j (fun v σ1=>(xs=[]/\v=.sc (.slice none 0 0)/\σ1={ σ with next:=σ.next+4 })\/(v=.ms (σ.next+5) l.size 0 xs.length/\σ1.next=σ.next+7/\∀ k,σ1.objs k=if k=σ.next+5 then some (.row elem l.size xs)else σ.objs k))
        (fun u=>.inl ⟨sk0 c u,rfl,rfl⟩) (fun _ σ1 h1 h2=>.inr ⟨rfl,h1,h2⟩)
       intro G vs w h1 h2;refine(key G vs w h1 h2).mono ?_;rintro e w' ⟨v,M,σ1,G',rfl,m,E,z,B⟩;rcases B with ⟨rfl,rfl,rfl⟩ | ⟨rfl,B,K⟩
       ·cases E
        have hid:G'.pl (σ.next+5)=none:=z.fresh _ (by simp);have C:Rel G' { σ with next:=σ.next+7 } w':=z.next (n:=σ.next+7) (by simp);refine⟨_,_,_,G'.place (σ.next+5) { block:=0,size:=0,cap:=0,virt:=true },rfl,⟨m.le.trans (c9.place_le hid),fun i hi L=>?_,by simp,m.fr.trans ?_⟩,.msNil (σ.next+5) l.size _ (c9.place_same _ _ _) rfl,C.virt (σ.next+5) hid (by simp) _ rfl elem l.size,rfl,rfl⟩
        ·have:=m.keeps i hi L
         simp only[c9.place];rw[Ae (by omega)];exact this
        exact(Fr.less (σ:={ σ with next:=σ.next+4 }) (σ':={ σ with next:=σ.next+7 }) (fun _ _ h=>h)).trans (Fr.virt _ _ rfl _)
       have hle:∀ k y,({ σ with next:=σ.next+7 }.set (σ.next+5) (.row elem l.size xs):c8).objs k=some y->σ1.objs k=some y:=fun k y H=>by rw[K];rw[c8.objs_set]at H;exact H
       exact⟨_,_,_,G',rfl,⟨m.le,m.keeps,by simp,m.fr.trans (Fr.less hle)⟩,E,z.less (by rw[B];rfl) hle,rfl,rfl⟩
      have:=ag0.set { σ with next:=σ.next+7 } (σ.next+5) (.row elem l.size xs);exact this
     cases h
    cases h
   cases h
  cases h
 cases h
open Go.RowKit
def c9.ofWorld(w:World):c9:={ w0:=w,imm:=fun b=>w.heap[b]?,pl:=fun _=>none }
def ne0(w:World):Prop:=∀ b o v,B5.cell b o=some v->(c9.ofWorld w).cell b o=some v
theorem Rel.ofWorld{w:World}(a:ne0 w):Rel (c9.ofWorld w) c8.none w :=⟨rfl,rfl,rfl,ar _,fun _ _ h=>h,fun _ _=>rfl,(fun id o h=>by rw[c8.none_objs]at h;cases h),(fun i j oi oj pi pj h=>by rw[c8.none_objs]at h;cases h),a⟩
theorem be0{w:World}{a:Addr}{v:Value}(h:w.cell? a=some v):a.spot=none/\(c9.ofWorld w).cell a.block a.off=some v:=by
 unfold World.cell? at h;split at h
 ·rename_i c t fr b
  split at h
  ·cases h
  rename_i hs;refine⟨by cases hsp:a.spot with | none=>rfl | some x=>simp[hsp]at hs,?_⟩;show (match w.heap[a.block]? with | some (.cells cs _ _)=>cs[a.off]? | _=>none)=_;rw[b];exact h
 cases h
theorem J1.calls {P:Program} {m:Memo} {fn:Func} (r:P.funcs[m.f]?=some fn) (g:(fn.name== "runtime.NumGoroutine")=false) (i:fn.body.isNone=false) (h:J1 P m)
  {G:c9} {vs:List Value} {w:World} (j:B6 G m.args vs) (d:Rel G c8.none w) :
  Calls P m.f vs.toArray w fun e w'=>∃ v G',e=.returned v/\Rep G' m.c v/\G.le G'/\Rel G' c8.none w'/\Below w.heap.size w w':=by
 have key:=h c8.none G vs w j d ⟨some 0,.move (.const undef),0, "",#[],none⟩ ⟨#[undef],[]⟩
  (fun a w'=>∃ v G',a.tmps[0]?=some v/\Rep G' m.c v/\G.le G'/\Rel G' c8.none w'/\Below w.heap.size w w') (fun _ _ _=>False) (by
   rintro u t σ' G' w' n s b ⟨rfl,rfl⟩;refine⟨u,G',by simp[iE],s,n.le,b,?_⟩;have hle:=n.le.w0;exact⟨b.os.trans ((Ap World.os hle).trans d.os.symm),b.tape.trans ((Ap World.tape hle).trans d.tape.symm),b.output.trans ((Ap World.output hle).trans d.output.symm),
    n.fr.size,fun k hk=>n.fr.same k hk (fun id o p q=>by rw[c8.none_objs]at q;cases q)⟩)
 have l:(callFunc m.f vs.toArray).run P w=.ok (.enter m.f vs.toArray) w:=by simp only[callFunc,al,run_program,ah,r,g,i,au,Ah,ao]
 rw[l]at key;refine Calls.mono key ?_;intro e w' he;cases e with
 | returned v=>
  obtain⟨u,G',h1,h2⟩:=he;have:u=v:=by simpa[iE]using h1.symm
  subst this;exact⟨u,G',rfl,h2⟩
 | panicked c=>exact he.elim
 | outgrown=>obtain⟨a,w0,q⟩:=he;exact q.elim
inductive Sh (P:Program) (N:Nat):TypeId->List AV->Prop
 | bool {t:TypeId} (b:Bool) (h:P.underlying t=some .bool):Sh P N t [.sc (.bool b)]
 | int {t:TypeId} {k:IntKind} {n:Int} (h:P.underlying t=some (.int k)) (hw:(Lit.int k n).wf=true):Sh P N t [.sc (.int k n)]
 | str {t:TypeId} {s:ByteArray} (h:P.underlying t=some .string) (hl:s.size<=N):Sh P N t [.sc (.string s)]
 | slice {t e:TypeId} {es:List (List AV)} (h:P.underlying t=some (.slice e)) (hl:es.length<=N) (hes:∀ c∈es,Sh P N e c):Sh P N t [.rs es]
 | struct {t:TypeId} {fs:Array Field} {avs:List AV} (h:P.underlying t=some (.struct fs)) (hl:avs.length=P.cellsOf t)
   (hf:∀ f∈fs.toList,Sh P N f.type ((avs.drop f.offset).take (P.cellsOf f.type))):Sh P N t avs
def ey0(P:Program):List Field->Nat->Nat->Bool
 | [],o,total=>aA o total
 | f::fs,o,total=>aA f.offset o&&ey0 P fs (o+P.cellsOf f.type) total
def da0(P:Program):Nat->TypeId->Bool
 | 0,_=>false
 | n+1,t=>match P.underlying t with
  | some .bool=>true
  | some (.int _)=>true
  | some .string=>true
  | some (.slice e)=>da0 P n e&&(cJ 1 (P.cellsOf e)&&cJ 1 (P.bytesOf e))
  | some (.struct fs)=>ey0 P fs.toList 0 (P.cellsOf t)&&fs.toList.all fun f=>da0 P n f.type
  | _=>false
section
variable {H:Type} {enc:TypeId×Value->H} {P:Program} {N:Nat} {w:World}
theorem B6.sc1(G:c9)(v:Value):B6 G [.sc v] [v]:=.cons (.sc v) (.nil G)
theorem jb0{G:c9}{cs:List Value}(good:Field->Prop)(a:∀ f,good f->∃ avs,B6 G avs ((cs.drop f.offset).take (P.cellsOf f.type))/\Sh P N f.type avs/\f.offset+P.cellsOf f.type<=cs.length) :
  ∀ (fs:List Field) (o:Nat),(∀ f∈fs,good f)->ey0 P fs o cs.length=true->o<=cs.length ->
   ∃ avs,B6 G avs (cs.drop o)/\∀ f∈fs,o<=f.offset/\Sh P N f.type ((avs.drop (f.offset-o)).take (P.cellsOf f.type))
 | [],o,_,d,_=>by have:o=cs.length:=af d;subst this;exact⟨[],by simpa using B6.nil G,fun f hf=>by cases hf⟩
 | f::fs,o,h,d,hle=>by
  simp only[ey0,ab]at d;have i:f.offset=o:=af d.1;obtain⟨avs,h1,h2,j⟩:=a f (h f (by simp));rw[i]at h1 j;obtain⟨c,k,l⟩:=jb0 good a fs (o+P.cellsOf f.type) (fun g b=>h g (by simp[b])) d.2 j;have hl:avs.length=P.cellsOf f.type:=by rw[<- h1.1];simp;omega
  refine⟨avs++c,?_,?_⟩
  ·have e:cs.drop o=(cs.drop o).take (P.cellsOf f.type)++cs.drop (o+P.cellsOf f.type):=by rw[<- dn,cL]
   rw[e];exact h1.append k
  intro g b;rcases aC.1 b with rfl | b
  ·refine⟨by omega,?_⟩
   rw[i,Nat.sub_self,fe,List.take_append_of_le_length (by omega),List.take_of_length_le (by omega)];exact h2
  obtain⟨n,m⟩:=l g b;refine⟨by omega,?_⟩;have:(avs++c).drop (g.offset-o)=c.drop (g.offset-(o+P.cellsOf f.type)):=by rw[List.drop_append,List.drop_eq_nil_of_le (by omega),hl];simp only[bG];congr 1;omega
  rw[this];exact m
theorem oB0{G:c9}(Q:Nat->List AV->Prop):∀ (n:Nat),(∀ i,i<n->∃ avs,Q i avs)->∃ es:List (List AV),es.length=n/\∀ i (h:i<es.length),Q i es[i]
 | 0,_=>⟨[],rfl,fun i h=>by simp at h⟩
 | n+1,a=>by
  obtain⟨es,h1,h2⟩:=oB0 (G:=G) Q n (fun i hi=>a i (by omega));obtain⟨avs,b⟩:=a n (by omega);refine⟨es++[avs],by simp[h1],fun i hi=>?_⟩;by_cases e:i<es.length
  ·rw[List.getElem_append_left e];exact h2 i e
  have:i=n:=by simp[h1]at hi;omega
  subst this;rw[List.getElem_append_right (by omega)];simpa[h1]using b
theorem dE0{e:TypeId}{d:DataW H}{n:Nat}(a:n∈d.weights P e):∀ {l:List (DataW H)},d∈l->n∈ee P e l
 | [],h=>by cases h
 | x::l,h=>by
  unfold ee;rcases aC.1 h with rfl | h
  ·exact dO _ a
  exact eP _ (dE0 a h)
theorem V7{n:Nat}:∀ {ts:List TypeId} {l:List (DataW H)} (i:Nat) {t:TypeId} {d:DataW H},ts[i]?=some t->l[i]?=some d->n∈d.weights P t->n∈dS P ts l
 | [],_,i,t,d,h,_,_=>by simp at h
 | _::_,[],i,t,d,_,h,_=>by simp at h
 | b::ts,c::l,0,t,d,h1,h2,a=>by simp only[List.getElem?_cons_zero,ai]at h1 h2;subst h1 h2;unfold dS;exact dO _ a
 | b::ts,c::l,i+1,t,d,h1,h2,a=>by simp only[List.getElem?_cons_succ]at h1 h2;unfold dS;exact eP _ (V7 i h1 h2 a)
theorem kv0:∀ (d:Nat) (t:TypeId),da0 P d t=true->∀ (fuel:Nat) (cs:List Value) (x:DataW H×List MemPlace),DataW.trod enc P w 0 (fun _=>true) true fuel t cs=some x->(∀ n∈x.1.weights P t,n<=N) ->
  ∃ avs,B6 (c9.ofWorld w) avs cs/\Sh P N t avs
 | 0,t,hp,_,_,_,_,_=>by simp[da0]at hp
 | d+1,t,hp,fuel,cs,x,h,Q=>by
  unfold da0 at hp;split at hp
  ·rename_i r
   obtain⟨b,rfl,_⟩:=DataW.trod_bool r h;exact⟨_,.sc1 _ _,.bool b r⟩
  ·rename_i k r
   obtain⟨n,rfl,_,hw⟩:=DataW.trod_int r h;exact⟨_,.sc1 _ _,.int r hw⟩
  ·rename_i r
   obtain⟨s,rfl,ex,_⟩:=DataW.trod_string r h;subst ex;exact⟨_,.sc1 _ _,.str r (Q s.size (by
    have:dC P t (.lit (.string s.data.toList):DataW H)=[s.data.toList.length]:=by rw[dC]
    rw[this];exact List.mem_singleton.2 rfl))⟩
  ·rename_i e r
   rw[ab]at hp;rw[ab]at hp;have Z:1<=P.cellsOf e:=aQ hp.2.1;have R:1<=P.bytesOf e:=aQ hp.2.2;rcases Go.Deep.open_slice r h with ⟨rfl,_⟩ | ⟨a,len,cap,m,n,D,Pl,rfl,_,hlc,hcm,hm,ex,K⟩
   ·exact⟨[.rs []],.cons .rsNil (.nil _),.slice r (by simp) (fun c hc=>by cases hc)⟩
   simp only[Al]at hm;subst ex;have W:dC P t (.slice ((bE len).map D) ((bE (m-len)).map fun j=>D (len+j)):DataW H)=((bE len).map D).length.add ((bE (m-len)).map fun j=>D (len+j)).length*P.bytesOf e::(ee P e ((bE len).map D)++ee P e ((bE (m-len)).map fun j=>D (len+j))):=by rw[dC,r];rfl
   rw[W]at Q;have hlen:len<=N:=by have h1:=Q _ (List.mem_cons_self ..);rw[aB,aB,gY,gY]at h1;have h2:len*1<=(len.add (m-len))*P.bytesOf e:=Nat.mul_le_mul (aO len _) R;omega
   have X:∀ i,i<len->∀ q∈(D i).weights P e,q<=N:=fun i hi q Y=>Q q (bC _ (dO _ (dE0 Y (List.mem_map.2 ⟨i,List.mem_range.2 hi,rfl⟩))));rw[hm]at K;have S:∀ i,i<len->∃ avs,∃ p,w.cells? 0 (a.add (i*P.cellsOf e)) (P.cellsOf e)=some p/\B6 (c9.ofWorld w) avs p/\Sh P N e avs:=fun i hi=>by obtain⟨p,h1,h2⟩:=K i (by omega);obtain⟨avs,I,C⟩:=kv0 d e hp.1 _ _ _ h2 (X i hi);exact⟨avs,p,h1,I,C⟩
   obtain⟨es,U,B⟩:=oB0 (G:=c9.ofWorld w) (fun i avs=>∃ p,w.cells? 0 (a.add (i*P.cellsOf e)) (P.cellsOf e)=some p/\B6 (c9.ofWorld w) avs p/\Sh P N e avs) len S;have u:cap≠0->a.spot=none:=fun hc=>by obtain⟨p,h1,_⟩:=K 0 (by omega);obtain⟨_,h2,I⟩:=dT h1;have C:=I 0 (by omega);rw[ae (by omega)]at C;simp[Addr.add]at C;exact(be0 C).1
   refine⟨[.rs es],.cons ?_ (.nil _),.slice r (by omega) (fun c hc=>?_)⟩
   ·rw[<- U]
    refine .rs es a cap (P.cellsOf e) (fun i j=>(w.cell? ⟨a.block,a.off+i*P.cellsOf e+j,none⟩).getD undef) u (by omega) (fun i hi=>?_) (fun i j hi hj=>?_) (fun i j hi hj=>?_)
    ·obtain⟨p,h1,h2,_⟩:=B i hi
     obtain⟨_,I,_⟩:=dT h1;have:=h2.1;omega
    ·obtain⟨p,h1,h2,_⟩:=B i hi
     obtain⟨_,I,C⟩:=dT h1;have J:=C j hj;rw[ae (by omega)]at J;have hs:=u (by omega);obtain⟨b,o,sp⟩:=a;simp only at hs;subst hs;rw[L8,L8]at J;rw[J];exact(be0 J).2
    obtain⟨p,h1,h2,_⟩:=B i hi;obtain⟨_,I,C⟩:=dT h1;have hl:=h2.1;have J:=C j (by omega);rw[ae (by omega)]at J;have hs:=u (by omega);obtain⟨b,o,sp⟩:=a;simp only at hs;subst hs;rw[L8,L8]at J;rw[J];exact h2.2 j hj (by omega)
   obtain⟨i,hi,rfl⟩:=aJ hc;obtain⟨_,_,_,I⟩:=B i hi;exact I
  ·rename_i fs r
   rw[ab]at hp;obtain⟨xs,n,rfl,ex,hlen,hxl,hf⟩:=DataW.trod_struct r h;subst ex;have W:dC P t (.agg (xs.map (·.1)):DataW H)=dS P (fs.toList.map (·.type)) (xs.map (·.1)):=by rw[dC,r]
   rw[W]at Q;have v:=hp.1;rw[<- hlen]at v;have L:∀ f,f∈fs.toList->∃ avs,B6 (c9.ofWorld w) avs ((cs.drop f.offset).take (P.cellsOf f.type))/\Sh P N f.type avs:=fun f z=>by
    obtain⟨i,hi,rfl⟩:=aJ z;have h1:=hf i (fs.toList[i]) (by simp);rw[ae (by simp at hi;omega)]at h1;have V:i<xs.length:=by simp at hi;omega
    exact kv0 d _ (ak.1 hp.2 _ z) _ _ _ h1 (fun q Y=>Q q (V7 i (t:=fs.toList[i].type) (d:=(xs[i]'V).1) (by rw[aM,ae hi];rfl) (by rw[aM,ae V];rfl) Y))
   have M:∀ (l:List Field) (o:Nat),ey0 P l o cs.length=true->∀ f∈l,f.offset+P.cellsOf f.type<=cs.length:=by
    have O:∀ (l:List Field) (o:Nat),ey0 P l o cs.length=true->o<=cs.length:=by
     intro l
     induction l with
     | nil=>intro o E;exact Nat.le_of_eq (af E)
     | cons g l S=>intro o E;simp only[ey0,ab]at E;have:=S _ E.2;omega
    intro l
    induction l with
    | nil=>intro o _ f hf;cases hf
    | cons g l S=>
     intro o E f hf;simp only[ey0,ab]at E;rcases aC.1 hf with rfl | hf
     ·have:=O _ _ E.2
      rw[af E.1];exact this
     exact S _ E.2 f hf
   obtain⟨avs,h1,h2⟩:=jb0 (P:=P) (G:=c9.ofWorld w) (cs:=cs) (fun f=>f∈fs.toList)
    (fun f z=>by obtain⟨avs,a1,a2⟩:=L f z;exact⟨avs,a1,a2,M _ _ v f z⟩) fs.toList 0 (fun _ h=>h) v (cP _)
   rw[fe]at h1;refine⟨avs,h1,.struct r (by rw[<- h1.1];exact hlen) (fun f z=>?_)⟩;have:=(h2 f z).2;simpa using this
  cases hp
end
theorem Sh.int_inv{P:Program}{N:Nat}{t:TypeId}{k:IntKind}{avs:List AV}(a:P.underlying t=some (.int k))(h:Sh P N t avs):∃ n,avs=[.sc (.int k n)]/\(Lit.int k n).wf=true:=by
 cases h with
 | int h hw=>rw[a]at h;cases h;exact⟨_,rfl,hw⟩
 | bool b h=>rw[a]at h;cases h
 | str h=>rw[a]at h;cases h
 | slice h=>rw[a]at h;cases h
 | struct h=>rw[a]at h;cases h
theorem Sh.slice_inv{P:Program}{N:Nat}{t e:TypeId}{avs:List AV}(a:P.underlying t=some (.slice e))(h:Sh P N t avs):∃ es,avs=[.rs es]/\es.length<=N/\∀ c∈es,Sh P N e c:=by
 cases h with
 | int h hw=>rw[a]at h;cases h
 | bool b h=>rw[a]at h;cases h
 | str h=>rw[a]at h;cases h
 | slice h hl hes=>rw[a]at h;cases h;exact⟨_,rfl,hl,hes⟩
 | struct h=>rw[a]at h;cases h
theorem Sh.str_inv{P:Program}{N:Nat}{t:TypeId}{avs:List AV}(a:P.underlying t=some .string)(h:Sh P N t avs):∃ s,avs=[.sc (.string s)]/\s.size<=N:=by
 cases h with
 | int h hw=>rw[a]at h;cases h
 | bool b h=>rw[a]at h;cases h
 | str h hl=>exact⟨_,rfl,hl⟩
 | slice h=>rw[a]at h;cases h
 | struct h=>rw[a]at h;cases h
theorem Sh.struct_inv{P:Program}{N:Nat}{t:TypeId}{fs:Array Field}{avs:List AV}(a:P.underlying t=some (.struct fs))(h:Sh P N t avs) :
  avs.length=P.cellsOf t/\∀ f∈fs.toList,Sh P N f.type ((avs.drop f.offset).take (P.cellsOf f.type)):=by
 cases h with
 | int h hw=>rw[a]at h;cases h
 | bool b h=>rw[a]at h;cases h
 | str h=>rw[a]at h;cases h
 | slice h=>rw[a]at h;cases h
 | struct h hl hf=>rw[a]at h;cases h;exact⟨hl,hf⟩
end Go.Ab
namespace Go.Ab
open Go
variable [B5]
def rowsOf:AV->List (List AV)
 | .rs es=>es
 | _=>[]
def Q5:AV->Nat
 | .sc (.int _ n)=>n.toNat
 | _=>0
mutual
def AV.sub(θ:Nat->AV):AV->AV
 | .any=>.any
 | .sc v=>.sc v
 | .rs es=>.rs (dP0 θ es)
 | .rp cs=>.rp (af0 θ cs)
 | .ms id size off len=>.ms id size off len
 | .mp id i j=>.mp id i j
 | .mm id=>.mm id
 | .it id=>.it id
 | .fn f a c=>.fn f (af0 θ a) (af0 θ c)
 | .agg cs=>.agg (af0 θ cs)
 | .tup vs=>.tup (af0 θ vs)
 | .sy i=>θ i
 | .ss id size i=>.ms id size 0 (rowsOf (θ i)).length
 | .xp id k off=>.mp id (Q5 (θ k)) off
 | .xs id z o l=>.ms id z (Q5 (o.sub θ)) (Q5 (l.sub θ))
 | .rm c=>.rm (c.sub θ)
def af0(θ:Nat->AV):List AV->List AV
 | []=>[]
 | c::cs=>c.sub θ::af0 θ cs
def dP0(θ:Nat->AV):List (List AV)->List (List AV)
 | []=>[]
 | c::cs=>af0 θ c::dP0 θ cs
end
theorem I3(θ:Nat->AV):∀ l,af0 θ l=l.map (AV.sub θ)
 | []=>by simp[af0]
 | c::cs=>by simp[af0,I3 θ cs]
theorem bo0(θ:Nat->AV):∀ l,dP0 θ l=l.map (bP (AV.sub θ))
 | []=>by simp[dP0]
 | c::cs=>by simp[dP0,I3,bo0 θ cs]
section
variable (θ:Nat->AV)
@[simp] theorem yt0:AV.sub θ .any=.any:=by simp[AV.sub]
@[simp] theorem F9 (v:Value):AV.sub θ (.sc v)=.sc v:=by simp[AV.sub]
@[simp] theorem dO0 (es:List (List AV)):AV.sub θ (.rs es)=.rs (es.map (bP (AV.sub θ))):=by simp[AV.sub,bo0]
@[simp] theorem oc0 (cs:List AV):AV.sub θ (.rp cs)=.rp (cs.map (AV.sub θ)):=by simp[AV.sub,I3]
@[simp] theorem bn0 (id size off len:Nat):AV.sub θ (.ms id size off len)=.ms id size off len:=by simp[AV.sub]
@[simp] theorem kX0 (id i j:Nat):AV.sub θ (.mp id i j)=.mp id i j:=by simp[AV.sub]
@[simp] theorem dM0 (id:Nat):AV.sub θ (.mm id)=.mm id:=by simp[AV.sub]
@[simp] theorem qI0 (id:Nat):AV.sub θ (.it id)=.it id:=by simp[AV.sub]
@[simp] theorem rI0 (f:Fn) (a c:List AV):AV.sub θ (.fn f a c)=.fn f (a.map (AV.sub θ)) (c.map (AV.sub θ)):=by simp[AV.sub,I3]
@[simp] theorem di0 (cs:List AV):AV.sub θ (.agg cs)=.agg (cs.map (AV.sub θ)):=by simp[AV.sub,I3]
@[simp] theorem hM0 (cs:List AV):AV.sub θ (.tup cs)=.tup (cs.map (AV.sub θ)):=by simp[AV.sub,I3]
@[simp] theorem p7 (i:Nat):AV.sub θ (.sy i)=θ i:=by simp[AV.sub]
@[simp] theorem P8 (id size i:Nat):AV.sub θ (.ss id size i)=.ms id size 0 (rowsOf (θ i)).length:=by simp[AV.sub]
@[simp] theorem fL0 (θ:Nat->AV) (c:AV):(AV.rm c).sub θ=.rm (c.sub θ):=by simp only[AV.sub]
@[simp] theorem qi0 (θ:Nat->AV) (id z:Nat) (o l:AV):(AV.xs id z o l).sub θ=.ms id z (Q5 (o.sub θ)) (Q5 (l.sub θ)):=by simp only[AV.sub]
@[simp] theorem sub_xp (θ:Nat->AV) (id k off:Nat):(AV.xp id k off).sub θ=.mp id (Q5 (θ k)) off:=by simp only[AV.sub]
end
mutual
def AV.pur:AV->Bool
 | .sc _=>true
 | .rs es=>kO0 es
 | .rp cs=>kh0 cs
 | .rm c=>c.pur
 | .fn _ a c=>kh0 a&&kh0 c
 | .agg cs=>kh0 cs
 | .tup cs=>kh0 cs
 | _=>false
def kh0:List AV->Bool
 | []=>true
 | c::cs=>c.pur&&kh0 cs
def kO0:List (List AV)->Bool
 | []=>true
 | c::cs=>kh0 c&&kO0 cs
end
theorem ai0:∀ l,kh0 l=l.all AV.pur
 | []=>by simp[kh0]
 | c::cs=>by simp[kh0,ai0 cs]
theorem fB0:∀ l,kO0 l=l.all (List.all · AV.pur)
 | []=>by simp[kO0]
 | c::cs=>by simp[kO0,fB0 cs,ai0]
theorem X1{es:List (List AV)}(h:(AV.rs es).pur=true):∀ i (h:i<es.length) j (h':j<es[i].length),(es[i][j]).pur=true:=fun i hi j hj=>by
 simp only[AV.pur,fB0]at h
 grind [ak,aq]
theorem Q1{G G':c9}(m:∀ b o,G.imm b=some o->G'.imm b=some o){v:AV}{u:Value}(n:Rep G v u):v.pur=true->Rep G' v u:=by
 have d:∀ {b o:Nat} {v:Value},G.cell b o=some v->G'.cell b o=some v:=fun {b o v} hc=>by grind [c9.cell]
 induction n with
 | any v=>intro h;simp[AV.pur]at h
 | sc v=>intro _;exact .sc v
 | rsNil=>intro _;exact .rsNil
 | rs es a cap size val hs hc hlen himm _ e=>intro h;exact .rs es a cap size val hs hc hlen (fun i j h1 h2=>d (himm i j h1 h2)) (fun i j hi hj=>e i j hi hj (X1 h i hi j hj))
 | rp cs a val hs himm _ e=>intro h;simp only[AV.pur,ai0]at h;exact .rp cs a val hs (fun j hj=>d (himm j hj)) (fun j hj=>e j hj (ak.1 h _ (aq hj)))
 | ms=>intro h;simp[AV.pur]at h
 | msNil=>intro h;simp[AV.pur]at h
 | mp=>intro h;simp[AV.pur]at h
 | mm=>intro h;simp[AV.pur]at h
 | it=>intro h;simp[AV.pur]at h
 | rm rows b ents himm hlen iJ0 _ e=>
  intro h;simp only[AV.pur]at h;refine .rm rows b ents (m _ _ himm) hlen iJ0 (fun i hi c=>e i hi c ?_);have g:=X1 (es:=rows) (by simp only[AV.pur];exact h) i hi;generalize rows[i]=r at g;unfold D4;split
  ·exact g 1 (by simp)
  simp[AV.pur]
 | fn f first cap fv cv h1 h2 _ _ k l=>intro h;simp only[AV.pur,ai0,ab]at h;exact .fn f first cap fv cv h1 h2 (fun i hi c=>k i hi c (ak.1 h.1 _ (aq hi))) (fun i hi c=>l i hi c (ak.1 h.2 _ (aq hi)))
 | agg cs vs h1 _ e=>intro h;simp only[AV.pur,ai0]at h;exact .agg cs vs h1 (fun i hi c=>e i hi c (ak.1 h _ (aq hi)))
 | tup cs vs h1 _ e=>intro h;simp only[AV.pur,ai0]at h;exact .tup cs vs h1 (fun i hi c=>e i hi c (ak.1 h _ (aq hi)))
def am0:AV->Prop
 | .sc (.int _ _)=>True
 | .sc (.bool _)=>True
 | .sc (.string _)=>True
 | .rs es=>(AV.rs es).pur=true
 | .rp cs=>(AV.rp cs).pur=true
 | .rm c=>(AV.rm c).pur=true
 | _=>False
def Fit(θ:Nat->AV):Prop:=∀ i,am0 (θ i)
theorem am0.cases{v:AV}(h:am0 v):(∃ k n,v=.sc (.int k n))\/(∃ b,v=.sc (.bool b))\/(∃ s,v=.sc (.string s))\/(∃ es,v=.rs es)\/(∃ cs,v=.rp cs)\/∃ c,v=.rm c:=by
 unfold am0 at h
 grind
theorem am0.pur{v:AV}(h:am0 v):v.pur=true:=by
 unfold am0 at h;split at h
 ·rfl
 ·rfl
 ·rfl
 ·exact h
 ·exact h
 ·exact h
 cases h
theorem am0.cells{v:AV}(h:am0 v):v.cells=some [v]:=by rcases h.cases with ⟨k,n,rfl⟩ | ⟨b,rfl⟩ | ⟨s,rfl⟩ | ⟨es,rfl⟩ | ⟨cs,rfl⟩ | ⟨c,rfl⟩<;>rfl
theorem am0.one{v:AV}(h:am0 v):v.one=true:=by rcases h.cases with ⟨k,n,rfl⟩ | ⟨b,rfl⟩ | ⟨s,rfl⟩ | ⟨es,rfl⟩ | ⟨cs,rfl⟩ | ⟨c,rfl⟩<;>rfl
theorem am0.ids0{v:AV}(h:am0 v):v.ids0=[]:=by rcases h.cases with ⟨k,n,rfl⟩ | ⟨b,rfl⟩ | ⟨s,rfl⟩ | ⟨es,rfl⟩ | ⟨cs,rfl⟩ | ⟨c,rfl⟩<;>rfl
section
variable {θ:Nat->AV} (hθ:Fit θ)
include hθ
theorem eJ0{v:AV}{cs:List AV}(h:v.cells=some cs):(v.sub θ).cells=some (cs.map (AV.sub θ)):=by
 cases v with
 | sy i=>simp only[AV.cells,ai]at h;subst h;simpa using(hθ i).cells
 | ss id size i=>simp only[AV.cells,ai]at h;subst h;simp[AV.cells]
 | sc v=>cases v<;>simp[AV.cells]at h<;>subst h<;>simp[AV.cells]
 | any=>simp[AV.cells]at h
 | tup l=>simp[AV.cells]at h
 | _=>simp only[AV.cells,ai]at h;subst h;simp[AV.cells]
theorem one_sub{v:AV}(h:v.one=true):(v.sub θ).one=true:=by
 cases v with
 | sy i=>simpa using(hθ i).one
 | ss id size i=>simp[AV.one]
 | sc v=>cases v<;>simp[AV.one]at h<;>simp[AV.one]
 | any=>simp[AV.one]at h
 | tup l=>simp[AV.one]at h
 | agg l=>simp[AV.one]at h
 | _=>simp[AV.one]
end
def Tr.map{α β:Type}(f:α->β):Tr α->Tr β
 | .leaf=>.leaf
 | .node v l r=>.node (v.map f) (l.map f) (r.map f)
theorem Tr.map_get{α β:Type}(f:α->β):∀ (t:Tr α) (k:Nat),(t.map f).get k=(t.get k).map f
 | .leaf,k=>by simp[Tr.map,Tr.get_leaf]
 | .node v l r,k=>by
  cases k with
  | zero=>simp[Tr.map,Tr.get]
  | succ k=>
   simp only[Tr.map,Tr.get];split
   ·exact Tr.map_get f l _
   exact Tr.map_get f r _
theorem Tr.map_setF{α β:Type}(g:α->β)(v:Option α):∀ (f k:Nat) (t:Tr α),(Tr.setF v f k t).map g=Tr.setF (v.map g) f k (t.map g)
 | 0,k,t=>by cases k<;>cases t<;>simp[Tr.setF,Tr.map]
 | f+1,0,t=>by cases t<;>simp[Tr.setF,Tr.map]
 | f+1,k+1,.leaf=>by simp only[Tr.setF,Tr.map];split<;>simp[Tr.map,Tr.map_setF g v f (k / 2) .leaf]
 | f+1,k+1,.node x l r=>by simp only[Tr.setF,Tr.map];split<;>simp[Tr.map,Tr.map_setF g v f (k / 2)]
theorem Tr.map_set{α β:Type}(g:α->β)(t:Tr α)(k:Nat)(v:Option α):(t.set k v).map g=(t.map g).set k (v.map g):=Tr.map_setF g v k k t
def R1(c:AV):j5:=.map (bp0 (rowsOf c)) (u7 0 (rowsOf c)) (rowsOf c).length
abbrev R2:Nat:=1048576
def hid(r c:Nat):Nat:=(16*r+c)%R2
abbrev bE0:=List (Nat×TypeId×Nat)
def W9(cols:bE0)(j:Nat):Option (Nat×TypeId×Nat):=cols.find? (fun c=>aA c.1 j)
def bi0(cols:bE0)(j:Nat)(v:AV):AV:=match W9 cols j with
 | some _=>.rs []
 | none=>v
def K4(cols:bE0):Nat->List AV->List AV
 | _,[]=>[]
 | j,v::vs=>bi0 cols j v::K4 cols (j+1) vs
def isNil:AV->Bool
 | .sc (.slice none 0 0)=>true
 | _=>false
def wo0(cols:bE0)(rows:List (List AV)):Bool:=decide (16*rows.length<=R2)&&cols.all (fun c=>bY c.1 16)&&rows.all fun r=>cols.all fun c=>match r[c.1]? with
 | some v=>isNil v
 | none=>false
def aG0(cols:List (Nat×TypeId×Nat))(r j:Nat)(v:AV):AV:=match cols.find? (fun c=>aA c.1 j)with
 | some c=>.ms (hid r j) c.2.2 0 (rowsOf v).length
 | none=>v
def an0(cols:List (Nat×TypeId×Nat))(r:Nat):Nat->List AV->List AV
 | _,[]=>[]
 | j,v::vs=>aG0 cols r j v::an0 cols r (j+1) vs
def J2(cols:List (Nat×TypeId×Nat)):Nat->List (List AV)->List (List AV)
 | _,[]=>[]
 | r,x::xs=>an0 cols r 0 x::J2 cols (r+1) xs
def V0(rows:List (List AV))(i off:Nat):Option AV->List (List AV)
 | none=>rows
 | some v=>match rows[i]? with
  | some cs=>rows.set i (cs.set off v)
  | none=>rows
def strOf:AV->ByteArray
 | .sc (.string s)=>s
 | _=>ByteArray.empty
def j5.sub(θ:Nat->AV):j5->j5
 | .row e s es=>.row e s (es.map (bP (AV.sub θ)))
 | .map agg es c=>.map agg (es.map fun e=>(e.1,e.2.1.sub θ,e.2.2)) c
 | .siter s p=>.siter s p
 | .miter m a b c=>.miter m a b c
 | .xrow e s i=>.row e s (rowsOf (θ i))
 | .xmap c=>R1 (c.sub θ)
 | .xiter s p=>.siter (strOf (s.sub θ)) (Q5 (p.sub θ))
 | .frow e z c cols k off v=>.row e z (V0 (J2 cols 0 (rowsOf (c.sub θ))) (Q5 (k.sub θ)) off (v.map (AV.sub θ)))
def c8.sub(θ:Nat->AV)(σ:c8):c8:={ next:=σ.next,tr:=σ.tr.map (j5.sub θ),low:=σ.low }
theorem c8.sub_objs(θ:Nat->AV)(σ:c8)(id:Nat):(σ.sub θ).objs id=(σ.objs id).map (j5.sub θ):=Tr.map_get _ _ _
theorem c8.sub_set(θ:Nat->AV)(σ:c8)(id:Nat)(o:j5):(σ.set id o).sub θ=(σ.sub θ).set id (o.sub θ):=by simp[c8.sub,c8.set,Tr.map_set]
theorem c8.sub_del(θ:Nat->AV)(σ:c8)(id:Nat):(σ.del id).sub θ=(σ.sub θ).del id:=by simp[c8.sub,c8.del,Tr.map_set]
@[simp] theorem c8.sub_next (θ:Nat->AV) (σ:c8):(σ.sub θ).next=σ.next:=rfl
@[simp] theorem c8.sub_low (θ:Nat->AV) (σ:c8):(σ.sub θ).low=σ.low:=rfl
def AS.sub(θ:Nat->AV)(s:AS):AS:={ n:=s.n,tr:=s.tr.map (AV.sub θ),st:=s.st.sub θ }
@[simp] theorem AS.sub_n (θ:Nat->AV) (s:AS):(s.sub θ).n=s.n:=rfl
@[simp] theorem AS.sub_st (θ:Nat->AV) (s:AS):(s.sub θ).st=s.st.sub θ:=rfl
theorem AS.sub_get(θ:Nat->AV)(s:AS)(t:Nat):(s.sub θ).get t=(s.get t).sub θ:=by simp only[AS.get,AS.sub,Tr.map_get];cases s.tr.get t<;>simp
theorem AS.sub_put(θ:Nat->AV)(s:AS)(σ:c8)(d:Option Tmp)(v:AV):({ s with st:=σ }.put d v).sub θ=({ s.sub θ with st:=σ.sub θ }.put d (v.sub θ)):=by cases d<;>simp[AS.put,AS.sub,Tr.map_set]
theorem hK0(θ:Nat->AV)(v:Value):(AV.ofValue v).sub θ=AV.ofValue v:=by cases v<;>simp[AV.ofValue]
theorem AS.sub_eval(θ:Nat->AV)(s:AS)(x:Operand):(s.sub θ).eval x=(s.eval x).sub θ:=by
 cases x with
 | tmp t=>exact AS.sub_get θ s t
 | const v=>exact(hK0 θ v).symm
 | global g=>simp[AS.eval]
 | func f=>simp[AS.eval]
theorem AS.sub_evalF(θ:Nat->AV)(s:AS):(s.sub θ).eval=fun x=>(s.eval x).sub θ:=funext (AS.sub_eval θ s)
theorem aM0(θ:Nat->AV){ops:Array Oper}{s:AS}{o:Oper}{b:Bool}(h:E4 ops s o=some b):E4 ops (s.sub θ) o=some b:=by
 unfold E4 at *;split at h
 ·exact h
 split at h
 ·split at h
  ·rename_i a
   simp only[AS.sub_n,a,Al,AS.sub_get];split at h
   ·rename_i c;rw[c];simpa using h
   ·rename_i c;rw[c];simpa using h
   cases h
  cases h
 cases h
end Go.Ab
namespace Go.Ab
open Go
variable [B5]
section
variable {θ:Nat->AV}
theorem mq0(l:List Value):(l.map AV.sc).map (AV.sub θ)=l.map AV.sc:=by simp
theorem ao0(ti:TI):ti.zeroCells.map (AV.sub θ)=ti.zeroCells:=mq0 _
theorem bM0(ti:TI):ti.zeroAV.sub θ=ti.zeroAV:=hK0 θ _
theorem pc0{T:Tab}{σ σ':c8}{id:Nat}{t:TypeId}{v:AV}(h:fW0 T σ id t=some (v,σ')):fW0 T (σ.sub θ) id t=some (v.sub θ,σ'.sub θ):=by
 unfold fW0 at *;split at h
 ·cases h;simp[c8.sub_set,j5.sub,ao0]
 cases h
theorem ap0{ti:TI}{cs:List AV}{j:Nat}{v:AV}(h:E6 ti cs j=some v):E6 ti (cs.map (AV.sub θ)) j=some (v.sub θ):=by
 unfold E6 at *;split at h
 ·rename_i ha
  rw[Af ha];split at h
  ·rename_i hl
   cases h;rw[Af (by simpa using hl)];simp[cY,cZ]
  cases h
 rename_i ha;rw[Ae ha];simp[h]
theorem ia0{T:Tab}{σ:c8}{t:TypeId}{x v:AV}(h:W8 T σ t x=some v):W8 T (σ.sub θ) t (x.sub θ)=some (v.sub θ):=by
 unfold W8 at h;split at h
 ·split at h
  ·rename_i elem size es c
   split at h
   ·rename_i cs a
    split at h
    ·rename_i ti b
     simp only[W8,kX0,c8.sub_objs,c,aj,j5.sub,aM,a,b];exact ap0 h
    cases h
   cases h
  cases h
 ·split at h
  ·rename_i ti b
   simp only[W8,oc0,b];exact ap0 h
  cases h
 cases h
theorem pA0{T:Tab}{σ:c8}{t:TypeId}{x v:AV}(h:aY0 T σ t x=some v):aY0 T (σ.sub θ) t (x.sub θ)=some (v.sub θ):=by
 unfold aY0 at h;split at h
 ·rename_i g b
  rw[iy0 b,F9];simp only[aY0,cF0];unfold qb0 at h ⊢;split at h
  ·split at h
   ·rename_i l hl
    have:=ap0 (θ:=θ) h;simp only[cQ]at this;have e:l.map (AV.sub θ ∘ AV.sc)=l.map AV.sc:=bq fun a _=>F9 θ a;rw[e]at this;exact this
   cases h
  cases h
 rename_i b;have h1:=ia0 (θ:=θ) h;have h2:cF0 (x.sub θ)=none:=by
  unfold W8 at h;split at h
  ·rfl
  ·rw[oc0];rfl
  cases h
 simp only[aY0,h2];exact h1
theorem dN0{T:Tab}{s:TypeId}{x v:AV}{f:Nat}(h:N5 T s x f=some v):N5 T s (x.sub θ) f=some (v.sub θ):=by
 unfold N5 at h;split at h
 ·rename_i fields _ _ _ _ hs
  split at h
  ·rename_i fd hf
   split at h
   ·rename_i b a
    split at h
    ·cases h
    rename_i hz;split at h
    ·cases h
     simp only[N5,hs,hf,a,kX0];rw[Ae hz]
    ·split at h
     ·rename_i hl
      cases h;simp only[N5,hs,hf,a,oc0];rw[Ae hz];simp[hl,cZ]
     cases h
    cases h
   cases h
  cases h
 cases h
theorem lo0{T:Tab}{t:TypeId}{cs:List AV}{off:Nat}{v:AV}(h:ky0 T t cs off=some v):ky0 T t (cs.map (AV.sub θ)) off=some (v.sub θ):=by
 unfold ky0 at *;split at h
 ·rename_i ti a;exact ap0 h
 cases h
theorem oI0{T:Tab}{s:TypeId}{x v:AV}{f:Nat}(h:hS0 T s x f=some v):hS0 T s (x.sub θ) f=some (v.sub θ):=by
 unfold hS0 at h;split at h
 ·rename_i fields _ _ _ _ cs hs
  split at h
  ·rename_i fd hf
   simp only[hS0,hs,di0,hf];exact lo0 h
  cases h
 cases h
theorem iF0{T:Tab}{t:TypeId}{x ix v:AV}(h:A6 T t x ix=some v):A6 T t (x.sub θ) (ix.sub θ)=some (v.sub θ):=by
 unfold A6 at h;split at h
 ·rename_i elem _ _ _ _ k n b
  split at h
  ·rename_i d he
   split at h
   ·rename_i id size off len
    split at h
    ·rename_i a
     cases h;simp[A6,b,he,a]
    cases h
   ·rename_i es
    split at h
    ·rename_i a
     split at h
     ·rename_i cs c
      split at h
      ·rename_i hl
       cases h;simp[A6,b,he,a,aM,c,hl]
      cases h
     cases h
    cases h
   cases h
  cases h
 ·rename_i len elem _ _ _ _ k n b
  split at h
  ·rename_i d he
   split at h
   ·rename_i a
    split at h
    ·cases h
     simp[A6,b,he,a]
    ·split at h
     ·rename_i hl
      cases h;simp[A6,b,he,a,hl,cZ]
     cases h
    cases h
   cases h
  cases h
 cases h
theorem pH0{T:Tab}{t:TypeId}{x ix v:AV}(h:cE0 T t x ix=some v):cE0 T t (x.sub θ) (ix.sub θ)=some (v.sub θ):=by
 unfold cE0 at h;split at h
 ·rename_i len elem _ _ _ _ cs k n a
  split at h
  ·rename_i e he
   split at h
   ·rename_i c
    simp only[cE0,a,he,di0,F9];rw[Af c];exact lo0 h
   cases h
  cases h
 ·rename_i a
  split at h
  ·rename_i c
   split at h
   ·rename_i b d
    cases h;simp[cE0,a,c,d]
   cases h
  cases h
 cases h
theorem ac0{len:Nat}{x:Option AV}{d n:Nat}(h:bound len x d=some n):bound len (x.map (AV.sub θ)) d=some n:=by
 unfold bound at h;split at h
 ·simpa[bound]using h
 ·split at h
  ·rename_i a;simpa[bound,a]using h
  cases h
 cases h
theorem oM0{T:Tab}{t:TypeId}{x v:AV}{lo hi mx:Option AV}(h:R6 T t x lo hi mx=some v):R6 T t (x.sub θ) (lo.map (AV.sub θ)) (hi.map (AV.sub θ)) (mx.map (AV.sub θ))=some (v.sub θ):=by
 unfold R6 at h;split at h
 ·rename_i elem _ _ _ _ e
  split at h
  ·rename_i i id size off len he
   split at h
   ·rename_i hs
    split at h
    ·rename_i g a
     split at h
     ·rename_i l b
      cases h;simp[R6,e,he,hs,ac0 a,ac0 b]
     cases h
    cases h
   cases h
  ·rename_i i es he
   split at h
   ·rename_i g a
    split at h
    ·rename_i l b
     split at h
     ·rename_i f
      cases h;have d:((es.map (bP (AV.sub θ))).all fun c=>c.length==i.size)=true:=by rw[dc];simpa[cn]using f
      simp only[R6,Option.map_none,e,he,dO0,aB,ac0 a,ac0 b];rw[Af d];simp[cY,cZ]
     cases h
    cases h
   cases h
  ·rename_i he
   split at h
   ·rename_i g a
    split at h
    ·rename_i l b
     cases h;simp[R6,e,he,ac0 a,ac0 b]
    cases h
   cases h
  cases h
 ·rename_i e
  split at h
  ·rename_i s
   split at h
   ·rename_i g a
    split at h
    ·rename_i l b
     cases h;simp[R6,e,ac0 a,ac0 b]
    cases h
   cases h
  cases h
 cases h
theorem gt0:∀ {cs:List AV} {l:List Int},AV.i64s cs=some l->cs.map (AV.sub θ)=cs
 | [],_,_=>rfl
 | c::cs,l,h=>by
  unfold AV.i64s at h;split at h
  ·rename_i e;cases e
  ·rename_i n a e
   cases e;split at h
   ·rename_i b hl
    simp[gt0 hl]
   cases h
  cases h
theorem sA0{x:AV}{b:Bool}(h:x.isNil=some b):(x.sub θ).isNil=some b:=by
 unfold AV.isNil at h;split at h
 ·simpa[AV.isNil]using h
 ·simpa[AV.isNil]using h
 ·simpa[AV.isNil]using h
 cases h
theorem tL0(T:Tab)(op:BinOp)(t:TypeId)(z:AV):iR0 T op t z (.sc (.slice none 0 0))=(match T t,z.isNil with
  | some { und:=.slice _,.. },some b=>match op with
   | .eql=>some (.sc (.bool b))
   | .neq=>some (.sc (.bool !b))
   | _=>none
  | _,_=>none):=by cases z<;>first | rfl | (rename_i v;cases v<;>rfl)
theorem tc0{T:Tab}{op:BinOp}{t:TypeId}{x y v:AV}(h:iR0 T op t x y=some v):iR0 T op t (x.sub θ) (y.sub θ)=some (v.sub θ):=by
 have c:=h;unfold iR0 at h;split at h
 ·split at h
  ·rename_i e _ _ _ _ b f g
   have d:=sA0 (θ:=θ) g;rw[F9,tL0,f,d];simp only;split at h
   ·cases h;rfl
   ·cases h;rfl
   cases h
  cases h
 ·rename_i a b _
  rw[F9,F9,c];split at h
  ·split at h
   ·cases h;rfl
   ·cases h;rfl
   cases h
  cases h
 ·rename_i a b i j
  rw[F9,F9,c];split at h
  ·cases h;rfl
  cases h
 ·rename_i cs k
  split at h
  ·rename_i az bs ti h1 h2 l
   rw[di0,di0,gt0 h1,gt0 h2,c];split at h
   ·split at h
    ·cases h;rfl
    ·cases h;rfl
    cases h
   cases h
  cases h
 cases h
theorem wM0{op:UnOp}{x v:AV}(h:aUn op x=some v):aUn op (x.sub θ)=some (v.sub θ):=by
 unfold aUn at h;split at h
 ·cases h;simp[aUn]
 ·cases h;simp[aUn]
 cases h
theorem qt0{T:Tab}{s d:TypeId}{x v:AV}(h:jE0 T s d x=some v):jE0 T s d (x.sub θ)=some (v.sub θ):=by
 unfold jE0 at h;split at h
 ·rename_i h1 h2
  cases h;simp[jE0,h1,h2]
 cases h
theorem kZ0{x v:AV}{i:Nat}(h:cr0 x i=some v):cr0 (x.sub θ) i=some (v.sub θ):=by
 unfold cr0 at h;split at h
 ·simp[cr0,h]
 cases h
theorem jd0(cs:List AV)(j:Nat)(vs:List AV):(P7 cs j vs).map (AV.sub θ)=P7 (cs.map (AV.sub θ)) j (vs.map (AV.sub θ)):=by simp[P7,cY,cZ]
variable (hθ:Fit θ)
include hθ
theorem tr0{σ σ':c8}{id:Nat}{t:TypeId}{x v:AV}(h:th0 σ id t x=some (v,σ')):th0 (σ.sub θ) id t (x.sub θ)=some (v.sub θ,σ'.sub θ):=by
 unfold th0 at h;split at h
 ·rename_i cs hc
  cases h;simp[th0,eJ0 hθ hc,c8.sub_set,j5.sub]
 cases h
theorem dY0{vs:List AV}(h:vs.all AV.one=true):(vs.map (AV.sub θ)).all AV.one=true:=by rw[dc,ak];intro v hv;exact one_sub hθ (ak.1 h v hv)
theorem pq0{T:Tab}{σ σ':c8}{t:TypeId}{x v:AV}(h:X2 T σ t x v=some σ'):X2 T (σ.sub θ) t (x.sub θ) (v.sub θ)=some (σ'.sub θ):=by
 unfold X2 at h;split at h
 ·rename_i id i j vs ti hc c
  split at h
  ·rename_i elem size es d
   split at h
   ·rename_i cs b
    split at h
    ·rename_i a
     cases h;simp only[X2,kX0,eJ0 hθ hc,c,c8.sub_objs,d,aj,j5.sub,aM,b,aB];rw[Af ⟨a.1,a.2.1,dY0 hθ a.2.2⟩];rw[c8.sub_set];simp[j5.sub,jd0,iW]
    cases h
   cases h
  cases h
 cases h
theorem hh0{place:Nat->Option (Nat×Nat)}:∀ {parts:List (Nat×AV)} {cells cs:List AV},ez0 place cells parts=some cs->ez0 place (cells.map (AV.sub θ)) (parts.map fun p=>(p.1,p.2.sub θ))=some (cs.map (AV.sub θ))
 | [],cells,cs,h=>by simp only[ez0,ai]at h;subst h;simp[ez0]
 | (i,v)::rest,cells,cs,h=>by
  unfold ez0 at h;split at h
  ·rename_i off size vs hp hv
   split at h
   ·rename_i hc
    simp only[ay,ez0,hp,eJ0 hθ hv,aB];rw[Af hc];have:=hh0 h;rwa [jd0]at this
   cases h
  cases h
theorem fI0{size:Nat}:∀ {parts:List (Nat×AV)} {es rs:List (List AV)},T0 size es parts=some rs->T0 size (es.map (bP (AV.sub θ))) (parts.map fun p=>(p.1,p.2.sub θ))=some (rs.map (bP (AV.sub θ)))
 | [],es,rs,h=>by simp only[T0,ai]at h;subst h;simp[T0]
 | (i,v)::rest,es,rs,h=>by
  unfold T0 at h;split at h
  ·rename_i vs hv
   split at h
   ·rename_i hc
    simp only[ay,T0,eJ0 hθ hv,aB];rw[Af hc];have:=fI0 h;rwa [iW]at this
   cases h
  cases h
theorem oZ0{T:Tab}{t:TypeId}{parts:List (Nat×AV)}{v:AV}(h:fH0 T t parts=some v):fH0 T t (parts.map fun p=>(p.1,p.2.sub θ))=some (v.sub θ):=by
 unfold fH0 at h;split at h
 ·rename_i fields _ z _ _ a
  split at h
  ·rename_i l hl
   split at h
   ·rename_i cs hc
    cases h;have:=hh0 hθ hc;rw[mq0]at this;simp only[fH0,a,hl,this,di0]
   cases h
  cases h
 ·rename_i n elem _ z _ _ a
  split at h
  ·rename_i b he
   split at h
   ·rename_i cs hc
    cases h;have:=hh0 hθ hc;rw[mq0]at this;simp only[fH0,a,he,this,di0]
   cases h
  cases h
 cases h
theorem hW0{T:Tab}{σ σ':c8}{id:Nat}{t:TypeId}{len:Nat}{parts:List (Nat×AV)}{v:AV}(h:I2 T σ id t len parts=some (v,σ')) :
  I2 T (σ.sub θ) id t len (parts.map fun p=>(p.1,p.2.sub θ))=some (v.sub θ,σ'.sub θ):=by
 unfold I2 at h;split at h
 ·rename_i elem _ _ _ _ a
  split at h
  ·rename_i b he
   split at h
   ·rename_i hc
    split at h
    ·rename_i es hes
     cases h;have:=fI0 hθ hes;rw[List.map_replicate,ao0]at this;simp only[I2,a,he,hc,and_self,Al,this,bn0,c8.sub_set,j5.sub]
    cases h
   cases h
  cases h
 cases h
omit hθ in
theorem lZ0{σ:c8}{x:AV}{es:List (List AV)}(h:N9 σ x=some es):N9 (σ.sub θ) (x.sub θ)=some (es.map (bP (AV.sub θ))):=by
 unfold N9 at h;split at h
 ·split at h
  ·rename_i a
   split at h
   ·rename_i hl
    cases h;simp[N9,c8.sub_objs,a,j5.sub,hl,cY,cZ]
   cases h
  cases h
 ·cases h;simp[N9]
 ·cases h;simp[N9]
 cases h
omit hθ in
theorem pP0{σ:c8}{elem:TypeId}{size:Nat}{x:AV}{r:Option Nat×List (List AV)}(h:T9 σ elem size x=some r):T9 (σ.sub θ) elem size (x.sub θ)=some (r.1,r.2.map (bP (AV.sub θ))):=by
 unfold T9 at h;split at h
 ·split at h
  ·rename_i a
   split at h
   ·rename_i hc
    cases h;simp only[bn0,T9,c8.sub_objs,a,aj,j5.sub,aB];rw[Af hc]
   cases h
  cases h
 ·cases h;simp[T9]
 cases h
theorem mm0{T:Tab}{σ σ':c8}{id:Nat}{sT xT:TypeId}{s x v:AV}(h:P9 T σ id sT xT s x=some (v,σ')):P9 T (σ.sub θ) id sT xT (s.sub θ) (x.sub θ)=some (v.sub θ,σ'.sub θ):=by
 unfold P9 at h;split at h
 ·rename_i elem _ _ _ _ j e f
  split at h
  ·rename_i g he
   split at h
   ·rename_i b es xs i hs
    split at h
    ·rename_i hc
     cases h;have a:((xs.map (bP (AV.sub θ))).all fun c=>c.length==g.size&&c.all AV.one)=true:=by rw[dc,ak];intro c d;have:=ak.1 hc.2.1 c d;simp only[gZ,aB,ab]at this ⊢;exact⟨this.1,dY0 hθ this.2⟩
     simp only[P9,e,f,he,pP0 i,lZ0 hs,aB];rw[Af ⟨hc.1,a,hc.2.2⟩];cases b<;>simp[c8.sub_set,c8.sub_del,j5.sub]
    cases h
   cases h
  cases h
 cases h
omit hθ in
theorem kL0{σ:c8}{s:AV}{elem:TypeId}{size:Nat}{r:Option Nat×List (List AV)}(a:T9 (w8 σ s) elem size s=some r):w8 (σ.sub θ) (s.sub θ)=(w8 σ s).sub θ:=by
 unfold T9 at a;split at a
 ·rename_i id z len
  simp only[w8,bn0,c8.sub_objs];cases b:σ.objs id with
  | none=>simp
  | some o=>
   cases o with
   | row e d es=>
    simp only[aj,j5.sub,aB];split
    ·rw[c8.sub_set];simp[j5.sub,cY]
    rfl
   | xrow e d i=>simp only[w8,b]at a;cases a
   | xmap c=>simp only[w8,b]at a;cases a
   | frow=>simp only[w8,b]at a;cases a
   | _=>simp[j5.sub]
 ·simp[w8]
 cases a
omit hθ in
theorem oO0{T:Tab}{σ σ':c8}{id:Nat}{elem:TypeId}{s x v:AV}(h:dI0 T σ id elem s x=some (v,σ')):dI0 T (σ.sub θ) id elem (s.sub θ) (x.sub θ)=some (v.sub θ,σ'.sub θ):=by
 unfold dI0 at h;split at h
 ·rename_i k n a he
  split at h
  ·rename_i hc
   cases h;simp only[dI0,F9,he];rw[Af hc];simp[c8.sub_set,j5.sub,ao0]
  cases h
 cases h
theorem lg0{T:Tab}{σ σ':c8}{id:Nat}{sT xT:TypeId}{s x v:AV}(h:E9 T σ id sT xT s x=some (v,σ')):E9 T (σ.sub θ) id sT xT (s.sub θ) (x.sub θ)=some (v.sub θ,σ'.sub θ):=by
 unfold E9 at h ⊢;split at h
 ·exact oO0 h
 have hk:=mm0 hθ h;unfold P9 at h;split at h
 ·split at h
  ·split at h
   ·rename_i a _
    rwa [kL0 a]
   cases h
  cases h
 cases h
omit hθ in
theorem tg0{T:Tab}{σ:c8}{t:TypeId}{x v:AV}(h:gb0 T σ t x=some v):gb0 T (σ.sub θ) t (x.sub θ)=some (v.sub θ):=by
 unfold gb0 at h;split at h
 ·rename_i ti a
  split at h
  ·rename_i hu;cases h;simp[gb0,a,hu]
  ·rename_i hu;cases h;simp[gb0,a,hu]
  ·rename_i hu;cases h;simp[gb0,a,hu]
  ·rename_i hu;cases h;simp[gb0,a,hu]
  ·rename_i n e _ hu;cases h;simp[gb0,a,hu]
  ·rename_i hu
   split at h
   ·rename_i b;cases h;simp[gb0,a,hu,c8.sub_objs,b,j5.sub]
   cases h
  cases h
 cases h
omit hθ in
theorem iU0(k:IntKind):∀ {l:List AV} {a:Int} {v:Value},eS0 k a l=some v->l.map (AV.sub θ)=l
 | [],_,_,_=>rfl
 | c::l,a,v,h=>by
  unfold eS0 at h;split at h
  ·rename_i e;cases e
  ·rename_i e;cases e;simp[iU0 k h]
  cases h
omit hθ in
theorem iX0(k:IntKind):∀ {l:List AV} {a:Int} {v:Value},fe0 k a l=some v->l.map (AV.sub θ)=l
 | [],_,_,_=>rfl
 | c::l,a,v,h=>by
  unfold fe0 at h;split at h
  ·rename_i e;cases e
  ·rename_i e;cases e;simp[iX0 k h]
  cases h
omit hθ in
theorem tJ0{l:List AV}{v:Value}(h:vy0 l=some v):l.map (AV.sub θ)=l:=by
 unfold vy0 at h;split at h
 ·simp[iU0 _ h]
 cases h
omit hθ in
theorem tV0{l:List AV}{v:Value}(h:vq0 l=some v):l.map (AV.sub θ)=l:=by
 unfold vq0 at h;split at h
 ·simp[iX0 _ h]
 cases h
omit hθ in
theorem sT0{T:Tab}{t:TypeId}{x v:AV}(h:xw0 T t x=some v):xw0 T t (x.sub θ)=some (v.sub θ):=by
 unfold xw0 at h;split at h
 ·rename_i a;cases h;simp[xw0,a]
 cases h
omit hθ in
theorem fD0{x:AV}{k:Bool×List Int}(h:x.key=some k):(x.sub θ).key=some k:=by
 unfold AV.key at h;split at h
 ·simpa[AV.key]using h
 ·split at h
  ·rename_i cs l hl
   rw[di0,gt0 hl];simpa[AV.key,hl]using h
  cases h
 cases h
omit hθ in
theorem dc0(agg:Bool)(l:List Int):∀ (es:List (List Int×AV×Nat)) (i:Nat),I5 agg l (es.map fun e=>(e.1,e.2.1.sub θ,e.2.2)) i=(I5 agg l es i).map fun p=>(p.1,p.2.sub θ)
 | [],i=>rfl
 | e::es,i=>by
  simp only[ay,I5];split
  ·rfl
  exact dc0 agg l es (i+1)
omit hθ in
theorem dk0(T:Tab)(a:TypeId)(b:Bool)(l:List Int)(es:List (List Int×AV×Nat)):X3 T a b l (es.map fun e=>(e.1,e.2.1.sub θ,e.2.2))=X3 T a b l es:=by simp only[X3,dc,cn]
omit hθ in
theorem lE0{r:List AV}(h:Q4 r=true):Q4 (r.map (AV.sub θ))=true/\∀ j,D4 j (r.map (AV.sub θ))=((D4 j r).1,(D4 j r).2.1.sub θ,(D4 j r).2.2):=by
 unfold Q4 at h;split at h
 ·rename_i k v
  cases hk:k.key with
  | none=>simp[hk]at h
  | some x=>simp[Q4,D4,fD0 hk,hk]
 cases h
omit hθ in
theorem eU0:∀ {rows:List (List AV)} (j:Nat),rows.all Q4=true->(rows.map (bP (AV.sub θ))).all Q4=true/\u7 j (rows.map (bP (AV.sub θ)))=(u7 j rows).map fun e=>(e.1,e.2.1.sub θ,e.2.2)
 | [],_,_=>by simp[u7]
 | r::rs,j,h=>by simp only[bZ,ab]at h;obtain⟨h1,h2⟩:=lE0 (θ:=θ) h.1;obtain⟨a,b⟩:=eU0 (rows:=rs) (j+1) h.2;simp only[ay,bZ,ab,u7,h2,b];exact⟨⟨h1,a⟩,trivial⟩
omit hθ in
theorem su0{rows:List (List AV)}(h:rows.all Q4=true):bp0 (rows.map (bP (AV.sub θ)))=bp0 rows:=by
 cases rows with
 | nil=>rfl
 | cons r rs=>
  simp only[bZ,ab]at h;have h1:=h.1;unfold Q4 at h1;split at h1
  ·rename_i k v
   cases hk:k.key with
   | none=>simp[hk]at h1
   | some x=>simp[bp0,fD0 hk,hk]
  cases h1
omit hθ in
theorem mE0{T:Tab}{σ:c8}{t:TypeId}{x ix v:AV}{ok:Bool}(h:E5 T σ t x ix ok=some v):E5 T (σ.sub θ) t (x.sub θ) (ix.sub θ) ok=some (v.sub θ):=by
 unfold E5 at h;split at h
 ·rename_i d e _ _ _ _ b l a hk
  split at h
  ·rename_i f he
   split at h
   ·split at h
    ·rename_i agg es _ c
     split at h
     ·rename_i hc
      cases h;simp only[E5,a,fD0 hk,he,dM0,c8.sub_objs,c,aj,j5.sub,dk0,eh,dc0];rw[Af hc];cases I5 b l es 0<;>cases ok<;>simp[bM0]
     cases h
    cases h
   ·rename_i rows
    split at h
    ·rename_i hc
     cases h;obtain⟨q1,q2⟩:=eU0 (θ:=θ) 0 hc.2.2;simp only[E5,a,fD0 hk,he,fL0,dO0,q1,q2,su0 hc.2.2,dk0,eh,dc0];rw[Af ⟨hc.1,hc.2.1,trivial⟩];cases I5 b l (u7 0 rows) 0<;>cases ok<;>simp[bM0]
    cases h
   cases h
  cases h
 cases h
omit hθ in
theorem tD0(agg:Bool)(l:List Int)(v:AV)(clock:Nat)(es:List (List Int×AV×Nat)) :
  mput agg l (v.sub θ) clock (es.map fun e=>(e.1,e.2.1.sub θ,e.2.2))=((mput agg l v clock es).1.map (fun e=>(e.1,e.2.1.sub θ,e.2.2)),(mput agg l v clock es).2):=by
 simp only[mput,dc0];cases I5 agg l es 0 with
 | none=>simp
 | some p=>
  simp only[aj,Prod.mk.injEq,and_true];apply g_;intro j;simp only[gy,aM];cases es[j]? with
  | none=>simp
  | some e=>simp only[aj];split<;>simp
omit hθ in
theorem nG0(n:Int):∀ (es:List (List Int×AV×Nat)) (i:Nat),uP0 n (es.map fun e=>(e.1,e.2.1.sub θ,e.2.2)) i=uP0 n es i
 | [],_=>rfl
 | e::es,i=>by simp only[ay,uP0];rw[nG0 n es]
omit hθ in
theorem jR0{T:Tab}{σ σ':c8}{t:TypeId}{x ix v:AV}(h:P5 T σ t x ix=some (v,σ')):P5 T (σ.sub θ) t (x.sub θ) (ix.sub θ)=some (v.sub θ,σ'.sub θ):=by
 unfold P5 at h;split at h
 ·rename_i g j _ _ _ _ b l d hk
  split at h
  ·rename_i k a
   split at h
   ·split at h
    ·rename_i agg es clock e
     simp only[P5,d,fD0 hk,a,dM0,c8.sub_objs,e,aj,j5.sub,dk0,eh,dc0];split at h
     ·rename_i hc
      cases h;rw[Af hc];simp[c8.sub_set,j5.sub,bM0]
     rename_i f;rw[Ae f];split at h
     ·rename_i hc
      rw[Af hc];split at h
      ·rename_i i c hm
       cases h;simp[hm,dU,cn]
      rename_i hm;cases h;simp[hm,c8.sub_set,j5.sub,bM0]
     cases h
    cases h
   cases h
  cases h
 cases h
omit hθ in
theorem ho0{σ σ':c8}{x st v:AV}(h:I4 σ x st v=some σ'):I4 (σ.sub θ) (x.sub θ) (st.sub θ) (v.sub θ)=some (σ'.sub θ):=by
 unfold I4 at h;split at h
 ·split at h
  ·rename_i agg es clock a
   split at h
   ·rename_i i hi
    cases h;simp only[I4,dM0,F9,c8.sub_objs,a,aj,j5.sub,nG0,hi,c8.sub_set];congr 3;apply g_;intro j;simp only[gy,aM];cases es[j]? with
    | none=>simp
    | some e=>simp only[aj];split<;>rfl
   cases h
  cases h
 cases h
omit hθ in
theorem dD0{T:Tab}{σ σ':c8}{t:TypeId}{x ix v:AV}(h:B9 T σ t x ix v=some σ'):B9 T (σ.sub θ) t (x.sub θ) (ix.sub θ) (v.sub θ)=some (σ'.sub θ):=by
 unfold B9 at h;split at h
 ·rename_i e f _ _ _ _ b l a hk
  split at h
  ·split at h
   ·rename_i agg es clock c
    simp only[B9,a,fD0 hk,dM0,c8.sub_objs,c,aj,j5.sub,dk0,eh];split at h
    ·rename_i hc
     cases h;rw[Af hc];simp[c8.sub_set,j5.sub]
    rename_i d;rw[Ae d];split at h
    ·rename_i hc
     cases h;rw[Af hc];simp[c8.sub_set,j5.sub,tD0]
    cases h
   cases h
  cases h
 cases h
theorem sM0{T:Tab}{σ σ':c8}{t:TypeId}{x:AV}(h:mX0 T σ t x=some σ'):mX0 T (σ.sub θ) t (x.sub θ)=some (σ'.sub θ):=by
 unfold mX0 at h;split at h
 ·rename_i elem _ _ _ _ id' size off len b
  split at h
  ·rename_i d e f es a c
   split at h
   ·rename_i hc
    cases h;simp only[bn0,mX0,b,a,c8.sub_objs,c,aj,j5.sub,aB];rw[Af hc];simp[c8.sub_set,j5.sub,cY]
   cases h
  cases h
 cases h
theorem uk0{T:Tab}{σ σ':c8}{id:Nat}{t:TypeId}{n c v:AV}(h:mK0 T σ id t n c=some (v,σ')):mK0 T (σ.sub θ) id t (n.sub θ) (c.sub θ)=some (v.sub θ,σ'.sub θ):=by
 unfold mK0 at h;split at h
 ·rename_i elem _ _ _ _ d e f g b
  split at h
  ·rename_i i a
   split at h
   ·rename_i hc
    cases h;simp only[F9,bn0,mK0,b,a];rw[Af hc];simp[c8.sub_set,j5.sub,ao0]
   cases h
  cases h
 cases h
theorem qZ0{T:Tab}{σ σ':c8}{t:TypeId}{x y:AV}(h:dx0 T σ t x y=some σ'):dx0 T (σ.sub θ) t (x.sub θ) (y.sub θ)=some (σ'.sub θ):=by
 unfold dx0 at h;split at h
 ·rename_i elem _ _ _ _ id' size len g
  split at h
  ·rename_i i e n es xs d j a
   split at h
   ·rename_i hc
    cases h;obtain⟨h1,h2,k,l,m⟩:=hc;simp only[bn0,dx0,g,d,c8.sub_objs,j,aj,j5.sub,lZ0 a,aB];have b:((xs.map (bP (AV.sub θ))).all fun c=>c.length==i.size&&c.all AV.one)=true:=by rw[dc,ak];intro c f;have:=ak.1 m c f;simp only[gZ,aB,ab]at this ⊢;exact⟨this.1,dY0 hθ this.2⟩
    rw[Af ⟨h1,h2,k,l,b⟩];simp[c8.sub_set,j5.sub]
   cases h
  cases h
 cases h
theorem lS0{T:Tab}{σ σ':c8}{id:Nat}{b:Builtin}{ts:Array TypeId}{args:List AV}{v:AV}(h:C6 T σ id b ts args=some (v,σ')):C6 T (σ.sub θ) id b ts (args.map (AV.sub θ))=some (v.sub θ,σ'.sub θ):=by
 unfold C6 at h;split at h
 ·rename_i t x d
  split at h
  ·rename_i u hu;cases h;simp[C6,d,tg0 hu]
  cases h
 ·rename_i s x a c d
  have:=lg0 hθ h;simp only[C6,d,ay,bA];exact this
 ·rename_i t x d
  split at h
  ·rename_i u hu;cases h;simp[C6,d,sT0 hu]
  cases h
 ·rename_i l
  split at h
  ·rename_i u hu;cases h;simp[C6,tJ0 hu,hu]
  cases h
 ·rename_i l
  split at h
  ·rename_i u hu;cases h;simp[C6,tV0 hu,hu]
  cases h
 ·rename_i t x d
  split at h
  ·rename_i u hu;cases h;simp[C6,d,sM0 hθ hu]
  cases h
 ·rename_i s x a c d
  split at h
  ·rename_i u hu;cases h;simp[C6,d,qZ0 hθ hu]
  cases h
 cases h
theorem ru0{T:Tab}{g:Operand->AV}{σ σ':c8}{id:Nat}{op:Op}{v:AV}(h:aop T g σ id op=some (v,σ')):aop T (fun x=>(g x).sub θ) (σ.sub θ) id op=some (v.sub θ,σ'.sub θ):=by
 cases op with
 | move x=>cases h;rfl
 | assign x=>cases h;rfl
 | pick c a b=>
  simp only[aop]at h ⊢;split at h
  ·rename_i t hc;cases h;simp only[hc,F9];cases t<;>rfl
  cases h
 | alloc t=>exact pc0 h
 | box t x=>exact tr0 hθ h
 | build t j=>
  simp only[aop]at h ⊢;split at h
  ·rename_i u hu
   cases h;have:=oZ0 hθ hu;simp only[cQ,cn]at this;rw[this]
  cases h
 | buildSlice t len j=>simp only[aop]at h ⊢;have:=hW0 hθ h;simp only[cQ,cn]at this;exact this
 | load t x=>
  simp only[aop]at h ⊢;split at h
  ·rename_i u hu;cases h;rw[pA0 hu]
  cases h
 | store t a x=>
  simp only[aop]at h ⊢;split at h
  ·rename_i u hu;cases h;rw[pq0 hθ hu];simp
  cases h
 | nilCheck x=>
  simp only[aop]at h ⊢;split at h
  ·rename_i e;cases h;simp[e]
  ·rename_i e;cases h;simp[e]
  ·rename_i e;cases h;simp[e]
  cases h
 | binOp o t x y p=>
  simp only[aop]at h ⊢;split at h
  ·rename_i u hu;cases h;rw[tc0 hu]
  cases h
 | unOp o t x=>
  simp only[aop]at h ⊢;split at h
  ·rename_i u hu;cases h;rw[wM0 hu]
  cases h
 | convert s d x=>
  simp only[aop]at h ⊢;split at h
  ·rename_i u hu;cases h;rw[qt0 hu]
  cases h
 | makeFunc f a c=>simp only[aop]at h ⊢;cases h;simp[cn]
 | makeSlice t n c=>simp only[aop]at h ⊢;exact uk0 hθ h
 | makeMap t n=>
  cases n with
  | none=>simp only[aop]at h ⊢;cases h;simp[c8.sub_set,j5.sub]
  | some n=>simp[aop]at h
 | slice t x lo hi mx=>
  simp only[aop]at h ⊢;split at h
  ·rename_i u hu
   cases h;have:=oM0 (θ:=θ) hu;simp only[dU,cn]at this;rw[this]
  cases h
 | fieldAddr t x f=>
  simp only[aop]at h ⊢;split at h
  ·rename_i u hu;cases h;rw[dN0 hu]
  cases h
 | field t x f=>
  simp only[aop]at h ⊢;split at h
  ·rename_i u hu;cases h;rw[oI0 hu]
  cases h
 | indexAddr t x i=>
  simp only[aop]at h ⊢;split at h
  ·rename_i u hu;cases h;rw[iF0 hu]
  cases h
 | index t x i=>
  simp only[aop]at h ⊢;split at h
  ·rename_i u hu;cases h;rw[pH0 hu]
  cases h
 | lookup t x i ok=>
  simp only[aop]at h ⊢;split at h
  ·rename_i u hu;cases h;rw[mE0 hu]
  cases h
 | mapUpdate t m k x=>
  simp only[aop]at h ⊢;split at h
  ·rename_i u hu;cases h;rw[dD0 hu];simp
  cases h
 | insert t m k x=>
  simp only[aop]at h ⊢;split at h
  ·rename_i u hu;cases h;rw[dD0 hu];simp
  cases h
 | mapEntry t m k=>simp only[aop]at h ⊢;exact jR0 h
 | entryStore t m s x=>
  simp only[aop]at h ⊢;split at h
  ·rename_i u hu;cases h;rw[ho0 hu];simp
  cases h
 | extract x i=>
  simp only[aop]at h ⊢;split at h
  ·rename_i u hu;cases h;rw[kZ0 hu]
  cases h
 | call c=>
  obtain⟨callee,args,ts⟩:=c;cases callee with
  | builtin b=>simp only[aop]at h ⊢;have:=lS0 hθ h;simpa[cQ,cn]using this
  | value f=>simp[aop]at h
  | invoke r m=>simp[aop]at h
 | _=>simp[aop]at h
end
end Go.Ab
namespace Go.Ab
open Go
variable [B5]
structure U7(n:Nat)(G:c9)(σ:c8)(w:World)(G':c9)(σ':c8)(w':World):Prop where
 w0:G'.w0=G.w0
 imm:∀ b o,G.imm b=some o->G'.imm b=some o
 pl:∀ i,i<n->G'.pl i=G.pl i
 nx:n<=σ'.next
 fr:Fr G σ w G' σ' w'
theorem U7.refl{n:Nat}(G:c9)(σ:c8)(w:World)(a:n<=σ.next):U7 n G σ w G σ w:=⟨rfl,fun _ _ h=>h,fun _ _=>rfl,a,.refl G σ w⟩
theorem U7.trans{n m:Nat}{e f g:c9}{σ1 a c:c8}{j l p:World}(h:U7 n e σ1 j f a l)(k:U7 m f a l g c p)(d:n<=m):U7 n e σ1 j g c p :=⟨k.w0.trans h.w0,fun b o x=>k.imm b o (h.imm b o x),fun i hi=>(k.pl i (by omega)).trans (h.pl i hi),bo d k.nx,h.fr.trans k.fr⟩
theorem mj0.toB{m n:Nat}{G:c9}{σ:c8}{w:World}{G':c9}{σ':c8}{w':World}(h:mj0 m G σ w G' σ' w')(b:n<=m)(a:n<=σ.next):U7 n G σ w G' σ' w' :=
 ⟨h.le.w0,h.le.imm,fun i hi=>by
  cases hp:G.pl i with
  | none=>exact h.keeps i (by omega) hp
  | some p=>exact h.le.pl i p hp,bo a h.next,h.fr⟩
theorem U7.le{n:Nat}{G:c9}{σ σ0:c8}{w w0:World}{G':c9}{σ':c8}{w':World}(h:U7 n G σ w G' σ' w')(a:Rel G σ0 w0)(b:σ0.next<=n):G.le G' :=⟨h.w0,h.imm,fun i p hp=>by rw[h.pl i (by have:=a.id_lt hp;omega)];exact hp⟩
def BWp(P:Program)(n:Nat)(c:Code)(Q:Exit->AS->Prop)(s:AS):Prop :=n<=s.st.next->∀ G a w,ba0 G s a w->c.wp P (fun e b w'=>∃ s' G',U7 n G s.st w G' s'.st w'/\ba0 G' s' b w'/\Q e s') a w
section
variable {P:Program} {n:Nat} {Q:Exit->AS->Prop} {s:AS}
theorem BWp.mono{c:Code}{Q':Exit->AS->Prop}(h:BWp P n c Q s)(b:∀ e s',Q e s'->Q' e s'):BWp P n c Q' s :=fun d G a w f=>wp_mono (h d G a w f) fun _ _ _ ⟨s',G',g,a2,a3⟩=>⟨s',G',g,a2,b _ _ a3⟩
theorem BWp.of_awp{c:Code}(h:AWp P c Q s):BWp P n c Q s :=fun b G a w d=>wp_mono (h G a w d) fun _ _ _ ⟨s',G',e,a2,a3⟩=>⟨s',G',e.toB b b,a2,a3⟩
theorem BWp.seq{x y:Code}(h:BWp P n x (mD0 (BWp P n y Q) Q) s):BWp P n (.seq x y) Q s:=by
 intro c G a w d;refine wp_seq (wp_mono (h c G a w d) ?_);rintro e f w' ⟨s',G',b,a2,a3⟩;cases e with
 | normal=>refine wp_mono (a3 b.nx G' f w' a2) ?_;rintro e2 g m ⟨s2,i,j,k,l⟩;exact⟨s2,i,b.trans j (ar _),k,l⟩
 | _=>exact⟨s',G',b,a2,a3⟩
theorem BWp.cond{c:Operand}{x y:Code}{t:Bool}(hc:s.eval c=.sc (.bool t))(h:BWp P n (if t then x else y) Q s):BWp P n (.cond c x y) Q s:=by intro e G a w d;have:=d.eval c;rw[hc]at this;generalize b:a.eval c=u at this;cases this;exact wp_cond b (h e G a w d)
theorem BWp.block{id:Nat}{c:Code}(h:BWp P n c (gA0 id Q) s):BWp P n (.block id c) Q s:=by
 intro d G a w f;refine wp_block (wp_mono (h d G a w f) ?_);rintro e g w' ⟨s',G',b,a2,a3⟩;cases e with
 | exit id' =>
  simp only[gA0]at a3;simp only[Exit.inBlock];split
  ·rename_i e;rw[Af e]at a3;exact⟨s',G',b,a2,a3⟩
  rename_i e;rw[Ae e]at a3;exact⟨s',G',b,a2,a3⟩
 | _=>exact⟨s',G',b,a2,a3⟩
theorem BWp.scope{c:Code}(h:BWp P n c (fun e s'=>noGo e/\Q e s') s):BWp P n (.scope c) Q s:=by
 intro b G a w d;refine wp_scope_straight (wp_mono (h b G a w d) ?_);rintro e g w' ⟨s',G',f,a2,a3,a4⟩;cases e with
 | goto l=>exact a3.elim
 | _=>exact⟨s',G',f,a2,a4⟩
theorem BWp.loop{c:Code}(I:Nat->AS->Prop)(round:∀ k s,I k s->BWp P n c (mD0 (fun s'=>∃ m,m<k/\I m s') Q) s){k:Nat}(C:I k s):BWp P n (.loop c) Q s:=by
 intro D G a w E;have pick:∀ d b,(∃ k,∃ s' G',U7 n G s.st w G' s'.st b/\ba0 G' s' d b/\I k s') ->
   ∃ k,(∃ s' G',U7 n G s.st w G' s'.st b/\ba0 G' s' d b/\I k s')/\∀ m,m<k->¬ ∃ s' G',U7 n G s.st w G' s'.st b/\ba0 G' s' d b/\I m s':=by
  rintro d b ⟨k,hk⟩
  induction k using fM with
  | _ k H=>
   by_cases hm:∃ m,m<k/\∃ s' G',U7 n G s.st w G' s'.st b/\ba0 G' s' d b/\I m s'
   ·obtain⟨m,g,i⟩:=hm
    exact H m g i
   exact⟨k,hk,fun m g i=>hm ⟨m,g,i⟩⟩
 classical
 let l:Act->World->Nat:=fun d b=>if h:∃ k,∃ s' G',U7 n G s.st w G' s'.st b/\ba0 G' s' d b/\I k s' then (pick d b h).choose else 0
 refine wp_loop (fun d b=>∃ k,∃ s' G',U7 n G s.st w G' s'.st b/\ba0 G' s' d b/\I k s') l ⟨k,s,G,.refl _ _ _ D,E,C⟩ ?_;intro d b r;have t:l d b=(pick d b r).choose:=by simp only[l];rw[dif_pos r]
 obtain⟨⟨s',G',z,J,K⟩,q⟩:=(pick d b r).choose_spec;rw[t];refine wp_mono (round _ s' K z.nx G' d b J) ?_;rintro e a2 j ⟨s2,u,c1,c2,B⟩;have v:=z.trans c1 (ar _);cases e with
 | normal=>
  obtain⟨m,hm,o⟩:=B;have f:∃ k,∃ s' G',U7 n G s.st w G' s'.st j/\ba0 G' s' a2 j/\I k s':=⟨m,s2,u,v,c2,o⟩;refine⟨f,?_⟩;have p:l a2 j=(pick a2 j f).choose:=by simp only[l];rw[dif_pos f]
  rw[p];have h2:=(pick a2 j f).choose_spec.2;rcases cE m (pick a2 j f).choose with x | L
  ·exact Am ⟨s2,u,v,c2,o⟩ (h2 m x)
  omega
 | _=>exact⟨s2,u,v,c2,B⟩
end
def ad0(P:Program)(ops:Array Oper)(n0 n:Nat)(Q:AS->Prop)(l:List Nat)(s:AS):Prop :=
 ∀ G a w,ba0 G s a w->(∀ j∈l,j<ops.size/\G.pl (n0+j)=none)->n0+ops.size<=s.st.next->n<=n0 ->
  wpOps P ops (fun e b w'=>e=.normal/\∃ s' G',U7 n G s.st w G' s'.st w'/\ba0 G' s' b w'/\Q s') l a w
section
variable {P:Program} {ops:Array Oper} {n0 n:Nat} {Q:AS->Prop} {s:AS}
theorem ad0.nil(h:Q s):ad0 P ops n0 n Q [] s:=fun G _ _ a _ h1 h2=>⟨rfl,s,G,.refl _ _ _ (by omega),a,h⟩
theorem ad0.skip{i:Nat}{rest:List Nat}{o:Oper}(d:ops[i]?=some o)(hw:E4 ops s o=some false)(e:U6 s.n o.dst=true)(h:ad0 P ops n0 n Q rest (s.put o.dst (.sc undef))):ad0 P ops n0 n Q (i::rest) s:=by intro G a w b hf f c;simp only[wpOps,d,U4 b hw,au,Ah];have:=h G _ w (b.put (.refl G) b.rel (.sc undef) e) (fun j hj=>hf j (by simp[hj])) (by simpa using f) c;simpa using this
theorem ad0.plain{T:Tab}(hT:B7 P T){i:Nat}{rest:List Nat}{o:Oper}{v:AV}{σ':c8}(m:ops[i]?=some o)(hi:i∉rest)(hw:E4 ops s o=some true)(r:U6 s.n o.dst=true)
  (ha:aop T s.eval s.st (n0+i) o.op=some (v,σ')) (h:ad0 P ops n0 n Q rest ({ s with st:=σ' }.put o.dst v)):ad0 P ops n0 n Q (i::rest) s:=by
 intro G a w d hf L f;have t:i<ops.size:=(aN.1 m).1;have x:σ'.next=s.st.next:=(kl0 ha).1;simp only[wpOps,m,U4 d hw,Al];left;obtain⟨G',u,w',h1,h2,c,z,B,g⟩:=rJ0 (P:=P) hT d.rel d.eval (hf i (by simp)).2 (by omega) ha;have l:∀ j∈rest,n0+j≠n0+i:=fun j hj e=>hi (by have C:j=i:=Nat.add_left_cancel e;rw[<- C];exact hj);have key:=h G' (a.put o.dst u) w' (d.put h1 B z r) (fun j hj=>⟨(hf j (by simp[hj])).1,h2 _ (l j hj) (hf j (by simp[hj])).2⟩) (by simp;omega) f;have D:U7 n G s.st w G' σ' w':=⟨h1.w0,h1.imm,fun k hk=>by
  cases hp:G.pl k with
  | none=>exact h2 k (by omega) hp
  | some p=>exact h1.pl k p hp,by omega,g⟩
 have b:=C5 (P:=P) (ops:=ops) (Q':=fun e q w'=>e=.normal/\∃ s' G',U7 n G s.st w G' s'.st w'/\ba0 G' s' q w'/\Q s') (fun e q w' ⟨e1,s',E,H,I,J⟩ =>
  ⟨e1,s',E,D.trans (by simpa using H) (ar _),I,J⟩) rest _ _ key
 unfold fw;rcases c with c | ⟨c,K⟩
 ·rw[c];exact b
 rw[c];subst K;exact b
def Told(P:Program)(f:FuncId)(args:List AV)(σ:c8)(c:AV):Prop:=F3 P f args σ (fun v σ'=>v=c/\σ'=σ)
theorem cj0{a:Act}{w:World}{o:Oper}{d:Operand}{args:Array Operand}{ts:Array TypeId}{f:FuncId}{fv cv:List Value}(b:o.op=.call { callee:=.value d,args:=args,argTypes:=ts })
  (c:a.eval d=.func (.func f) fv.toArray cv.toArray):(execOp a.eval o).run P w=(callFunc f (fv++args.toList.map a.eval++cv).toArray).run P w:=by
 have e:fv.toArray++args.map a.eval++cv.toArray=(fv++args.toList.map a.eval++cv).toArray:=by apply cK;simp
 simp only[execOp,b,resolve,c,gw,al,ao,ah,invoke,e]
theorem ad0.told{i:Nat}{rest:List Nat}{o:Oper}{k:Operand}{args:Array Operand}{ts:Array TypeId}{f:FuncId}{first cap:List AV}(t:ops[i]?=some o)(l:o.op=.call { callee:=.value k,args:=args,argTypes:=ts })
  (hw:E4 ops s o=some true) (x:U6 s.n o.dst=true) (m:s.eval k=.fn (.func f) first cap) {c:AV}
  (hc:Told P f (first++args.toList.map s.eval++cap) s.st c) (h:ad0 P ops n0 n Q rest (s.put o.dst c)):ad0 P ops n0 n Q (i::rest) s:=by
 intro G a w g hf z p;simp only[wpOps,t,U4 g hw,Al];left;have b:=g.eval k;rw[m]at b;generalize q:a.eval k=u at b;cases b with
 | fn _ _ _ fv cv h1 h2 B C=>
 have d:B6 G (first++args.toList.map s.eval++cap) (fv++args.toList.map a.eval++cv) :=(B6.append (G:=G) ⟨h1,B⟩ (B6.map g.eval args.toList)).append ⟨h2,C⟩;unfold fw;rw[cj0 l q];refine hc G _ w d g.rel o a _ _ ?_;rintro v K σ' G' w' r D E ⟨rfl,rfl⟩;have key:=h G' (a.put o.dst v) w' (g.put r.le E D x) (fun j hj=>⟨(hf j (by simp[hj])).1,r.keeps _ (by have:=(hf j (by simp[hj])).1;omega) (hf j (by simp[hj])).2⟩) (by simpa using z) p;have H:U7 n G s.st w G' s.st w':=r.toB (by omega) (by omega);exact C5 (fun e L w' ⟨e1,s',I,c1,c2,J⟩=>⟨e1,s',I,H.trans (by simpa using c1) (ar _),c2,J⟩) rest _ _ key
theorem ad0.turns{i:Nat}{rest:List Nat}{o:Oper}{k:Operand}{args:Array Operand}{ts:Array TypeId}{f:FuncId}{first cap:List AV}(t:ops[i]?=some o)(l:o.op=.call { callee:=.value k,args:=args,argTypes:=ts })
  (hw:E4 ops s o=some true) (x:U6 s.n o.dst=true) (m:s.eval k=.fn (.func f) first cap) {c:AV} {σ1:c8} (z:s.st.next<=σ1.next)
  (hc:F3 P f (first++args.toList.map s.eval++cap) s.st (fun v σ'=>v=c/\σ'=σ1)) (h:ad0 P ops n0 n Q rest ({ s with st:=σ1 }.put o.dst c)):ad0 P ops n0 n Q (i::rest) s:=by
 intro G a w g hf K p;simp only[wpOps,t,U4 g hw,Al];left;have b:=g.eval k;rw[m]at b;generalize q:a.eval k=u at b;cases b with
 | fn _ _ _ fv cv h1 h2 B C=>
 have d:B6 G (first++args.toList.map s.eval++cap) (fv++args.toList.map a.eval++cv) :=(B6.append (G:=G) ⟨h1,B⟩ (B6.map g.eval args.toList)).append ⟨h2,C⟩;unfold fw;rw[cj0 l q];refine hc G _ w d g.rel o a _ _ ?_;rintro v L σ' G' w' r D E ⟨rfl,rfl⟩;have key:=h G' (a.put o.dst v) w' (g.put r.le E D x) (fun j hj=>⟨(hf j (by simp[hj])).1,r.keeps _ (by have:=(hf j (by simp[hj])).1;omega) (hf j (by simp[hj])).2⟩) (by simp;omega) p;have H:U7 n G s.st w G' σ' w':=r.toB (by omega) (by omega);exact C5 (fun e M w' ⟨e1,s',I,c1,c2,J⟩=>⟨e1,s',I,H.trans (by simpa using c1) (ar _),c2,J⟩) rest _ _ key
theorem ad0.inline{T:Tab}(hT:B7 P T){i:Nat}{rest:List Nat}{o:Oper}{t:Operand}{args:Array Operand}{ts:Array TypeId}{f:FuncId}{first cap:List AV}{fn:Func}{c:Code}(K:ops[i]?=some o)
  (z:o.op=.call { callee:=.value t,args:=args,argTypes:=ts }) (hw:E4 ops s o=some true) (L:U6 s.n o.dst=true) (B:s.eval t=.fn (.func f) first cap)
  (q:P.funcs[f]?=some fn) (g:(fn.name== "runtime.NumGoroutine")=false) (I:fn.body=some c) (hl:(first++args.toList.map s.eval++cap).length<=fn.ntmps)
  (h:BWp P s.st.next c (fun e s1=>(e=.normal\/e=.ret)/\∃ v,D1 T fn s1=some v/\ad0 P ops n0 n Q rest ({ s with st:=s1.st }.put o.dst v)) (AS.enter fn.ntmps (first++args.toList.map s.eval++cap) s.st)) :
  ad0 P ops n0 n Q (i::rest) s:=by
 intro G a w p hf M C;simp only[wpOps,K,U4 p hw,Al];left;have l:=p.eval t;rw[B]at l;generalize D:a.eval t=u at l;cases l with
 | fn _ _ _ fv cv h1 h2 N O=>
 have m:B6 G (first++args.toList.map s.eval++cap) (fv++args.toList.map a.eval++cv) :=(B6.append (G:=G) ⟨h1,N⟩ (B6.map p.eval args.toList)).append ⟨h2,O⟩;unfold fw;have r:(callFunc f (fv++args.toList.map a.eval++cv).toArray).run P w=.ok (.enter f (fv++args.toList.map a.eval++cv).toArray) w:=by simp only[callFunc,al,run_program,ah,q,g,I,gz,au,Ah,ao]
 rw[cj0 z D,r];simp only[dF];refine calls_of_wp q I (wp_mono (h (ar _) G _ w (ba0.enter m p.rel fn.ntmps hl)) ?_);rintro e E w' ⟨s1,G',b,x,hex,v,hv,R⟩;obtain⟨y,J,H⟩:=eq0 (P:=P) hT x hv;have hle:G.le G':=b.le p.rel (ar _);have key:=R G' (a.put o.dst y) w' (p.put hle x.rel H L) (fun j hj=>⟨(hf j (by simp[hj])).1,by rw[b.pl _ (by have:=(hf j (by simp[hj])).1;show n0+j<s.st.next;omega)];exact(hf j (by simp[hj])).2⟩) (by
  have:=b.nx;simp only[AS.put_st];show n0+ops.size<=s1.st.next;exact bo M this) C
 have S:U7 n G s.st w G' s1.st w':=⟨b.w0,b.imm,fun k hk=>b.pl k (by show k<s.st.next;omega),by have:=b.nx;show n<=s1.st.next;exact bo (by omega) this,b.fr⟩;have d:=C5 (P:=P) (ops:=ops) (Q':=fun e E w'=>e=.normal/\∃ s' G',U7 n G s.st w G' s'.st w'/\ba0 G' s' E w'/\Q s') (fun e E w' ⟨e1,s',U,c1,c2,V⟩ =>
  ⟨e1,s',U,S.trans (by simpa using c1) (ar _),c2,V⟩) rest _ _ key
 rcases hex with rfl | rfl
 ·exact⟨x.defers,y,J,d⟩
 exact⟨x.defers,y,J,d⟩
end
theorem BWp.region{P:Program}{n:Nat}{Q:Exit->AS->Prop}{s:AS}{id:Nat}{ops:Array Oper}
  (h:ad0 P ops s.st.next n (fun s'=>Q .normal s') (bE ops.size) { s with st:={ s.st with next:=s.st.next+ops.size } }):BWp P n (.region id ops false) Q s:=by
 intro f G a w b;refine wp_region ?_;have d:ba0 G { s with st:={ s.st with next:=s.st.next+ops.size } } a w:=⟨b.defers,b.size,b.tmps,b.rel.next (aO _ _)⟩;refine C5 ?_ _ _ _ (h G a w d (fun j hj=>⟨by simpa using hj,b.rel.fresh _ (aO _ _)⟩) (ar _) f);rintro e k w' ⟨rfl,s',G',c,g,i⟩;refine⟨s',G',⟨c.w0,c.imm,c.pl,c.nx,?_⟩,g,i⟩;exact(Fr.less (σ:=s.st) (σ':={ s.st with next:=s.st.next+ops.size }) (fun _ _ h=>h)).trans c.fr
def c9.ren(ι:Nat->Option (Option Nat))(G:c9):c9 :={ w0:=G.w0,imm:=G.imm,pl:=fun i=>match ι i with | some (some k)=>G.pl k | some none=>some ⟨0,0,0,true⟩ | none=>none }
def RV(ι:Nat->Option (Option Nat))(a b:AV):Prop:=∀ G u,Rep G b u->Rep (G.ren ι) a u
def go0(ι:Nat->Option (Option Nat)):j5->j5->Prop
 | .row e s es,.row n s' d=>e=n/\s=s'/\es.length<=d.length/\∀ i (h:i<es.length) (h':i<d.length),es[i].length=d[i].length/\∀ j (g:j<es[i].length) (o:j<d[i].length),RV ι es[i][j] d[i][j]
 | .map agg es c,.map f d c'=>agg=f/\c=c'/\es.length=d.length/\∀ i (h:i<es.length) (h':i<d.length),es[i].1=d[i].1/\RV ι es[i].2.1 d[i].2.1/\es[i].2.2=d[i].2.2
 | .siter a b,.siter l m=>a=l/\b=m
 | .miter none a b c,.miter none l m c'=>a=l/\b=m/\c=c'
 | .miter (some i) a b c,.miter (some k) l m c'=>ι i=some (some k)/\a=l/\b=m/\c=c'
 | _,_=>False
structure Ren(ι:Nat->Option (Option Nat))(n:Nat)(s' s:AS):Prop where
 nn:s'.n=s.n
 low:∀ i,i<n->ι i=some (some i)
 dom:∀ i k,ι i=some k->i<s'.st.next
 nx:n<=s'.st.next
 inj:∀ i j k oi oj,ι i=some (some k)->ι j=some (some k)->s'.st.objs i=some oi->s'.st.objs j=some oj->i=j
 slots:∀ t,t<s.n->RV ι (s'.get t) (s.get t)
 beyond:∀ t,s.n<=t->s'.get t=.sc undef
 objs:∀ i o,s'.st.objs i=some o->(∃ k o',ι i=some (some k)/\s.st.objs k=some o'/\go0 ι o o')\/(ι i=some none/\∃ e z,o=.row e z [])
theorem go0.ok{ι:Nat->Option (Option Nat)}{G:c9}{p:Pl}{o o':j5}{r:Option Obj}(h:go0 ι o o')(hk:P1 G p o' r):P1 (G.ren ι) p o r:=by
 cases o with
 | row e z es=>
  cases o' with
  | row C D l =>obtain⟨rfl,rfl,hl,h1⟩:=h;obtain⟨cs,d,g,f,E,v⟩:=hk;refine⟨cs,d,g,f,by omega,fun i hi=>?_⟩;obtain⟨m1,m2⟩:=h1 i hi (by omega);obtain⟨l1,l2⟩:=v i (by omega);exact⟨by omega,fun j hj n=>m2 j hj (by omega) G _ (l2 j (by omega) n)⟩
  | _=>exact h.elim
 | map agg es c=>
  cases o' with
  | map t l c' =>obtain⟨rfl,rfl,hl,h1⟩:=h;obtain⟨ents,d,g,f⟩:=hk;refine⟨ents,d,by omega,fun i hi q=>?_⟩;obtain⟨m1,m2,m3⟩:=h1 i hi (by omega);obtain⟨l1,l2,l3⟩:=f i (by omega) q;exact⟨by rw[m1];exact l1,m2 G _ l2,by rw[m3];exact l3⟩
  | _=>exact h.elim
 | siter a b=>
  cases o' with
  | siter w x=>obtain⟨rfl,rfl⟩:=h;exact hk
  | _=>exact h.elim
 | miter m a b c=>
  cases o' with
  | miter u w x c' =>
   cases m with
   | none=>
    cases u with
    | none=>obtain⟨rfl,rfl,rfl⟩:=h;exact hk
    | some k=>exact h.elim
   | some i=>
    cases u with
    | none=>exact h.elim
    | some k=>obtain⟨hi,rfl,rfl,rfl⟩:=h;obtain⟨m1,d,B,g,f⟩:=hk;exact⟨m1,d,B,by simp only[c9.ren,hi];exact g,f⟩
  | _=>exact(by cases m<;>exact h.elim)
 | xrow e z i=>cases o'<;>exact h.elim
 | xmap c=>cases o'<;>exact h.elim
 | frow=>cases o'<;>exact h.elim
 | xiter s p=>cases o'<;>exact h.elim
theorem Ren.rel{ι:Nat->Option (Option Nat)}{n:Nat}{s' s:AS}(h:Ren ι n s' s){G:c9}{a:Act}{w:World}(f:ba0 G s a w):ba0 (G.ren ι) s' a w/\U7 n G s.st w (G.ren ι) s'.st w:=by
 have g:∀ i k,ι i=some (some k)->(G.ren ι).pl i=G.pl k:=fun i k hi=>by simp only[c9.ren,hi]
 have d:∀ i,ι i=some none->(G.ren ι).pl i=some ⟨0,0,0,true⟩:=fun i hi=>by simp only[c9.ren,hi]
 refine⟨⟨f.defers,by rw[h.nn];exact f.size,fun t=>?_,?_⟩,?_⟩
 ·rcases cE t s.n with u | u
  ·exact h.slots t u G _ (f.tmps t)
  rw[h.beyond t u];have:a.tmps.getD t undef=undef:=by simp[f.size,Nat.not_lt.2 u]
  rw[this];exact .sc _
 ·refine⟨f.rel.os,f.rel.tape,f.rel.output,f.rel.size,f.rel.imm,fun i hi=>?_,fun i o J=>?_,fun i j oi oj pi pj h1 h2 q v v1 v2 K=>?_,f.rel.glob⟩
  ·cases r:ι i with
   | none=>simp only[c9.ren,r]
   | some k=>have:=h.dom i k r;omega
  ·rcases h.objs i o J with ⟨k,o',hi,hk,l⟩ | ⟨hi,e,z,rfl⟩
   ·obtain⟨p,hp,hl⟩:=f.rel.objs k o' hk
    refine⟨p,by rw[g i k hi];exact hp,?_⟩;rcases hl with ⟨hv,e,z,rfl⟩ | ⟨hv,l1,l2,l3⟩
    ·cases o with
     | row L M es=>obtain⟨rfl,rfl,hlen,_⟩:=l;have:es=[]:=bJ (by simpa using hlen);subst this;exact .inl ⟨hv,_,_,rfl⟩
     | miter m a b c=>cases m<;>exact l.elim
     | _=>exact l.elim
    exact .inr ⟨hv,l1,l2,l.ok l3⟩
   exact⟨_,d i hi,.inl ⟨rfl,e,z,rfl⟩⟩
  rcases h.objs i oi h1 with ⟨x,B,hi,C,_⟩ | ⟨hi,_⟩
  ·rcases h.objs j oj h2 with ⟨I,D,hj,E,_⟩ | ⟨hj,_⟩
   ·rw[g i x hi]at q
    rw[g j I hj]at v;have:=f.rel.sep x I B D pi pj C E q v v1 v2 K;subst this;exact h.inj i j x oi oj hi hj h1 h2
   rw[d j hj]at v;cases v;cases v2
  rw[d i hi]at q;cases q;cases v1
 refine⟨rfl,fun _ _ H=>H,fun i hi=>g i i (h.low i hi),h.nx,⟨ar _,fun _ _ _=>rfl,fun i o p h1 h2 q _=>?_,fun _ _ H=>.inl H,ar _⟩⟩;rcases h.objs i o h1 with ⟨k,o',hi,hk,_⟩ | ⟨hi,_⟩
 ·rw[g i k hi]at h2
  exact⟨k,o',p,hk,h2,q,rfl⟩
 rw[d i hi]at h2;cases h2;cases q
theorem BWp.conv{P:Program}{ι:Nat->Option (Option Nat)}{n:Nat}{c:Code}{Q:Exit->AS->Prop}{s' s:AS}(h:Ren ι n s' s)(b:BWp P n c Q s'):BWp P n c Q s:=by intro k G a w d;obtain⟨h1,h2⟩:=h.rel d;refine wp_mono (b h.nx _ a w h1) ?_;rintro e l w' ⟨s2,f,g,i,j⟩;exact⟨s2,f,h2.trans g (ar _),i,j⟩
theorem BWp.convEnd{P:Program}{n:Nat}{c:Code}{Q:Exit->AS->Prop}{s:AS}(h:BWp P n c (fun e s1=>∃ ι s2,Ren ι n s2 s1/\Q e s2) s):BWp P n c Q s:=by intro b G a w d;refine wp_mono (h b G a w d) ?_;rintro e k w' ⟨s1,l,f,g,ι,s2,i,j⟩;obtain⟨h1,h2⟩:=i.rel g;exact⟨s2,_,f.trans h2 (ar _),h1,j⟩
theorem J1.of_body {P:Program} {T:Tab} (hT:B7 P T) {f:FuncId} {fn:Func} {c:Code} {args:List AV} {r:AV} (C:P.funcs[f]?=some fn) (t:(fn.name== "runtime.NumGoroutine")=false) (l:fn.body=some c) (V:args.length<=fn.ntmps)
  (hp:args.all AV.pur=true) (h:BWp P 0 c (fun e s'=>(e=.normal\/e=.ret)/\∃ v,D1 T fn s'=some v/\∀ G w u pl,Rel G s'.st w->Rep G v u->Rep (G.frozen s'.st w pl) r u) (AS.enter fn.ntmps args c8.none)):J1 P ⟨f,args,r⟩:=by
 intro σ G vs w m d o a S Q W;have D:(callFunc f vs.toArray).run P w=.ok (.enter f vs.toArray) w:=by simp only[callFunc,al,run_program,ah,C,t,l,gz,au,Ah,ao]
 show o.upon P a S Q ((callFunc f vs.toArray).run P w);rw[D];simp only[dF];let G0:c9:={ G with pl:=fun _=>iK };have q:B6 G0 args vs:=⟨m.1,fun i h1 h2=>Q1 (G:=G) (G':=G0) (fun _ _ h=>h) (m.2 i h1 h2) (ak.1 hp _ (aq h1))⟩;have z:Rel G0 c8.none w:=⟨d.os,d.tape,d.output,d.size,d.imm,fun _ _=>rfl,(fun id o h=>by rw[c8.none_objs]at h;cases h),(fun i j oi oj pi pj h=>by rw[c8.none_objs]at h;cases h),d.glob⟩;refine calls_of_wp C l (wp_mono (h (cP _) G0 _ w (ba0.enter q z fn.ntmps V)) ?_);rintro e Y E ⟨s1,K,s,L,hex,v,hv,X⟩;obtain⟨y,U,M⟩:=eq0 (P:=P) hT L hv;have g:=L.rel;have k:∀ b,¬ ∃ id0 o0 p0,c8.none.objs id0=some o0/\G0.pl id0=some p0/\p0.virt=false/\p0.block=b:=fun b ⟨id,o0,p0,h,_⟩=>by rw[c8.none_objs]at h;cases h
 have n:∀ b,b<w.heap.size->E.heap[b]?=w.heap[b]?:=fun b l=>s.fr.same b l (fun id o p h=>by rw[show (AS.enter fn.ntmps args c8.none).st=c8.none from rfl,c8.none_objs]at h;cases h);let G':c9:=K.frozen s1.st E G.pl;have himm:∀ b x,G'.imm b=some x->G.imm b=some x\/w.heap.size<=b:=fun b x B=>by
  simp only[G',c9.frozen]at B;split at B
  ·rename_i hl
   obtain⟨id,o1,p,h1,h2,H,rfl⟩:=hl;right;rcases cE p.block w.heap.size with I | I
   ·exact Am (s.fr.live id o1 p h1 h2 H I) (k _)
   exact I
  rcases s.fr.imm b x B with h1 | h1 | h1
  ·exact .inl h1
  ·exact .inr h1
  exact Am h1 (k _)
 have hle:G.le G':=⟨s.w0,fun b x l=>H6 g (s.imm b x l),fun _ _ h=>h⟩;have N:K.w0=G.w0:=s.w0;have fin:S (a.put o.dst y) E:=by
  refine W y r σ G' E ⟨hle,fun _ _ h=>h,ar _,⟨s.fr.size,fun b l _=>n b l,fun id x p h1 h2 H _=>⟨id,x,p,h1,h2,H,rfl⟩,fun b x l=>?_,s.fr.drawn⟩⟩ (X K E y G.pl g M) ?_ ⟨rfl,rfl⟩
  ·rcases himm b x l with h1 | h1
   ·exact .inl h1
   exact .inr (.inl h1)
  refine⟨g.os,g.tape,g.output,g.size,fun b x l=>?_,d.fresh,fun id x B=>?_,d.sep,fun b o v hv=>hle.cell (d.glob b o v hv)⟩
  ·simp only[G',c9.frozen]at l
   split at l
   ·exact l
   exact g.imm b x l
  obtain⟨p,J,hl⟩:=d.objs id x B;refine⟨p,J,?_⟩;rcases hl with ⟨h1,h2⟩ | ⟨h1,h2,H,I⟩
  ·exact .inl ⟨h1,h2⟩
  have O:=d.obj_lt B J h1;refine .inr ⟨h1,?_,by show K.w0.heap.size<=_;rw[N];exact H,by rw[n _ O];exact I.mono hle⟩;cases hi:G'.imm p.block with
  | none=>rfl
  | some y=>
   rcases himm _ _ hi with R | R
   ·rw[h2]at R;cases R
   omega
 rcases hex with rfl | rfl
 ·exact⟨L.defers,y,U,fin⟩
 exact⟨L.defers,y,U,fin⟩
def oY0:AV->Bool
 | .sc _=>true
 | .agg cs=>cs.all fun c=>match c with | .sc _=>true | _=>false
 | .tup cs=>cs.all fun c=>match c with | .sc _=>true | .agg a=>a.all (fun d=>match d with | .sc _=>true | _=>false) | _=>false
 | _=>false
theorem Rep.flatAll{G G':c9}{cs:List AV}{vs:List Value}(h1:vs.length=cs.length)(h:∀ i (h:i<cs.length) (h':i<vs.length),Rep G cs[i] vs[i])(hf:cs.all (fun c=>match c with | .sc _=>true | _=>false)=true) :
  ∀ i (h:i<cs.length) (h':i<vs.length),Rep G' cs[i] vs[i]:=fun i hi a=>by
 have h2:=ak.1 hf cs[i] (aq hi);have b:=h i hi a;generalize cs[i]=c at *;split at h2
 ·cases b;exact .sc _
 cases h2
theorem Rep.flat{G G':c9}{c:AV}{v:Value}(h:Rep G c v)(hf:oY0 c=true):Rep G' c v:=by
 unfold oY0 at hf;split at hf
 ·cases h;exact .sc _
 ·rename_i cs
  cases h with
  | agg _ vs h1 h2=>exact .agg cs vs h1 (Rep.flatAll h1 h2 hf)
 ·rename_i cs
  cases h with
  | tup _ vs h1 h2=>
   refine .tup cs vs h1 fun i hi a=>?_;have b:=ak.1 hf cs[i] (aq hi);have d:=h2 i hi a;generalize cs[i]=c at *;generalize vs[i]=v at *;split at b
   ·cases d;exact .sc _
   ·cases d with
    | agg _ us g1 g2=>exact .agg _ us g1 (Rep.flatAll g1 g2 b)
   cases b
 cases hf
theorem kR0{P:Program}{f:FuncId}{args l:List AV}{c:AV}{σ:c8}(hm:J1 P ⟨f,l,c⟩)(hf:oY0 c=true)
  (D:∀ G vs w,B6 G args vs->Rel G σ w->B6 (G.frozen σ w (fun _=>none)) l vs):Told P f args σ c:=by
 intro G vs w m d o a E Q H;let t:=G.frozen σ w (fun _=>none);have n:Rel t c8.none w:=⟨d.os,d.tape,d.output,d.size,fun b x k=>by
   simp only[t,c9.frozen]at k;split at k
   ·exact k
   exact d.imm b x k,fun _ _=>rfl,(fun id o h=>by rw[c8.none_objs]at h;cases h),(fun i j oi oj pi pj h=>by rw[c8.none_objs]at h;cases h),fun b o v hv=>eh0 d (d.glob b o v hv)⟩
 refine hm c8.none t vs w (D G vs w m d) n o a E Q ?_;rintro u I σ' G' w' r z e ⟨rfl,rfl⟩;have g:∀ b,b<w.heap.size->w'.heap[b]?=w.heap[b]?:=fun b k=>r.fr.same b k (fun id o p h=>by rw[c8.none_objs]at h;cases h);have q:G'.w0=G.w0:=r.le.w0;refine H u I σ G w' ⟨.refl G,.refl _ G,ar _,⟨r.fr.size,fun b k _=>g b k,fun id x p h1 h2 B _=>⟨id,x,p,h1,h2,B,rfl⟩,fun b x k=>.inl k,r.fr.drawn⟩⟩ (z.flat hf) ?_ ⟨rfl,rfl⟩;refine⟨e.os.trans (by rw[q]),e.tape.trans (by rw[q]),e.output.trans (by rw[q]),bo d.size r.fr.size,fun b x k=>by rw[g b (d.lt k)];exact d.imm b x k,d.fresh,fun id x C=>?_,d.sep,d.glob⟩;obtain⟨p,s,hl⟩:=d.objs id x C;refine⟨p,s,?_⟩;rcases hl with ⟨h1,h2⟩ | ⟨h1,h2,B,J⟩
 ·exact .inl ⟨h1,h2⟩
 exact .inr ⟨h1,h2,B,by rw[g _ (d.obj_lt C s h1)];exact J⟩
end Go.Ab
namespace Go.Ab
open Go
variable [B5]
mutual
def AV.bnd(k:Nat):AV->Bool
 | .sy i=>bY i k
 | .ss _ _ i=>bY i k
 | .xp _ i _=>bY i k
 | .xs _ _ o l=>o.bnd k&&l.bnd k
 | .rm c=>c.bnd k
 | .rs es=>bndR k es
 | .rp cs=>iD0 k cs
 | .fn _ a c=>iD0 k a&&iD0 k c
 | .agg cs=>iD0 k cs
 | .tup cs=>iD0 k cs
 | _=>true
def iD0(k:Nat):List AV->Bool
 | []=>true
 | c::cs=>c.bnd k&&iD0 k cs
def bndR(k:Nat):List (List AV)->Bool
 | []=>true
 | c::cs=>iD0 k c&&bndR k cs
end
mutual
theorem sub_agree{θ d:Nat->AV}{k:Nat}(h:∀ i,i<k->d i=θ i):∀ v:AV,v.bnd k=true->v.sub d=v.sub θ
 | .any,_=>by simp
 | .sc v,_=>by simp
 | .rs es,b=>by simp only[AV.sub];rw[fE0 h es (by simpa[AV.bnd]using b)]
 | .rp cs,b=>by simp only[AV.sub];rw[K7 h cs (by simpa[AV.bnd]using b)]
 | .ms ..,_=>by simp
 | .mp ..,_=>by simp
 | .mm _,_=>by simp
 | .it _,_=>by simp
 | .fn f a c,b=>by simp only[AV.bnd,ab]at b;simp only[AV.sub];rw[K7 h a b.1,K7 h c b.2]
 | .agg cs,b=>by simp only[AV.sub];rw[K7 h cs (by simpa[AV.bnd]using b)]
 | .tup cs,b=>by simp only[AV.sub];rw[K7 h cs (by simpa[AV.bnd]using b)]
 | .sy i,b=>by simp only[AV.bnd,aV]at b;simp[h i b]
 | .ss id e i,b=>by simp only[AV.bnd,aV]at b;simp[h i b]
 | .xp id i off,b=>by simp only[AV.bnd,aV]at b;simp only[AV.sub,h i b]
 | .xs id z o l,b=>by simp only[AV.bnd,ab]at b;simp only[AV.sub];rw[sub_agree h o b.1,sub_agree h l b.2]
 | .rm c,b=>by simp only[AV.sub];rw[sub_agree h c (by simpa[AV.bnd]using b)]
theorem K7{θ a:Nat->AV}{k:Nat}(h:∀ i,i<k->a i=θ i):∀ l:List AV,iD0 k l=true->af0 a l=af0 θ l
 | [],_=>by simp[af0]
 | c::cs,b=>by simp only[iD0,ab]at b;simp only[af0];rw[sub_agree h c b.1,K7 h cs b.2]
theorem fE0{θ a:Nat->AV}{k:Nat}(h:∀ i,i<k->a i=θ i):∀ l:List (List AV),bndR k l=true->dP0 a l=dP0 θ l
 | [],_=>by simp[dP0]
 | c::cs,b=>by simp only[bndR,ab]at b;simp only[dP0];rw[K7 h c b.1,fE0 h cs b.2]
end
def j5.bnd(k:Nat):j5->Bool
 | .row _ _ es=>bndR k es
 | .map _ es _=>es.all fun e=>e.2.1.bnd k
 | .xrow _ _ i=>bY i k
 | .xmap c=>c.bnd k
 | .xiter s p=>s.bnd k&&p.bnd k
 | .frow _ _ c _ i _ v=>c.bnd k&&(i.bnd k&&(match v with | some x=>x.bnd k | none=>true))
 | _=>true
theorem j5.sub_agree{θ b:Nat->AV}{k:Nat}(h:∀ i,i<k->b i=θ i)(o:j5)(a:o.bnd k=true):o.sub b=o.sub θ:=by
 cases o with
 | row e z es=>simp only[j5.sub];rw[<- bo0,<-bo0,fE0 h es a]
 | map agg es c=>simp only[j5.sub];congr 1;apply bq;intro e he;rw[Go.Ab.sub_agree h _ (ak.1 a e he)]
 | xrow e z i=>simp only[j5.bnd,aV]at a;simp only[j5.sub];rw[h i a]
 | xmap c=>simp only[j5.bnd]at a;simp only[j5.sub];rw[Go.Ab.sub_agree h c a]
 | xiter s p=>simp only[j5.bnd,ab]at a;simp only[j5.sub];rw[Go.Ab.sub_agree h s a.1,Go.Ab.sub_agree h p a.2]
 | frow e z c cols i off v=>
  simp only[j5.bnd,ab]at a;simp only[j5.sub];rw[Go.Ab.sub_agree h c a.1,Go.Ab.sub_agree h i a.2.1];cases v with
  | none=>rfl
  | some x=>simp only[aj];rw[Go.Ab.sub_agree h x a.2.2]
 | _=>rfl
def Tr.all{α:Type}(p:α->Bool):Tr α->Bool
 | .leaf=>true
 | .node v l r=>(match v with | some x=>p x | none=>true)&&l.all p&&r.all p
theorem Tr.map_congr{α β:Type}{f g:α->β}{p:α->Bool}(h:∀ x,p x=true->f x=g x):∀ t:Tr α,t.all p=true->t.map f=t.map g
 | .leaf,_=>rfl
 | .node v l r,a=>by
  simp only[Tr.all,ab]at a;simp only[Tr.map];rw[Tr.map_congr h l a.1.2,Tr.map_congr h r a.2];cases v with
  | none=>rfl
  | some x=>simp[h x a.1.1]
def AS.bnd(k:Nat)(s:AS):Bool:=s.tr.all (AV.bnd k)&&s.st.tr.all (j5.bnd k)
theorem AS.sub_agree{θ a:Nat->AV}{k:Nat}(h:∀ i,i<k->a i=θ i){s:AS}(b:s.bnd k=true):s.sub a=s.sub θ:=by simp only[AS.bnd,ab]at b;simp only[AS.sub,c8.sub];rw[Tr.map_congr (Go.Ab.sub_agree h) _ b.1,Tr.map_congr (j5.sub_agree h) _ b.2]
theorem c8.sub_agree{θ a:Nat->AV}{k:Nat}(h:∀ i,i<k->a i=θ i){s:AS}(b:s.bnd k=true):s.st.sub a=s.st.sub θ:=by have:=AS.sub_agree h b;have h2:=Ap AS.st this;simpa using h2
mutual
def AV.ssub(b:Nat->AV):AV->AV
 | .rs es=>.rs (ps0 b es)
 | .rp cs=>.rp (iO0 b cs)
 | .fn f a c=>.fn f (iO0 b a) (iO0 b c)
 | .agg cs=>.agg (iO0 b cs)
 | .tup vs=>.tup (iO0 b vs)
 | .sy i=>b i
 | .ss id d i=>match b i with
  | .sy j=>.ss id d j
  | .rs es=>.ms id d 0 es.length
  | _=>.ms id d 0 0
 | .xp id k off=>match b k with
  | .sy j=>.xp id j off
  | v=>.mp id (Q5 v) off
 | .xs id z o l=>.xs id z (o.ssub b) (l.ssub b)
 | .rm c=>.rm (c.ssub b)
 | v=>v
def iO0(a:Nat->AV):List AV->List AV
 | []=>[]
 | c::cs=>c.ssub a::iO0 a cs
def ps0(a:Nat->AV):List (List AV)->List (List AV)
 | []=>[]
 | c::cs=>iO0 a c::ps0 a cs
end
mutual
theorem ssub_sub(b θ:Nat->AV):∀ v:AV,(v.ssub b).sub θ=v.sub (fun i=>(b i).sub θ)
 | .any=>by simp[AV.ssub]
 | .sc v=>by simp[AV.ssub]
 | .rs es=>by simp only[AV.ssub,AV.sub];rw[ie0 b θ es]
 | .rp cs=>by simp only[AV.ssub,AV.sub];rw[aC0 b θ cs]
 | .ms ..=>by simp[AV.ssub]
 | .mp ..=>by simp[AV.ssub]
 | .mm _=>by simp[AV.ssub]
 | .it _=>by simp[AV.ssub]
 | .fn f a c=>by simp only[AV.ssub,AV.sub];rw[aC0 b θ a,aC0 b θ c]
 | .agg cs=>by simp only[AV.ssub,AV.sub];rw[aC0 b θ cs]
 | .tup cs=>by simp only[AV.ssub,AV.sub];rw[aC0 b θ cs]
 | .sy i=>by simp[AV.ssub]
 | .ss id d i=>by simp only[AV.ssub,P8];cases b i<;>simp[rowsOf]
 | .xp id k off=>by simp only[AV.ssub,AV.sub];cases b k<;>simp[AV.sub,Q5]
 | .xs id z o l=>by simp only[AV.ssub,AV.sub];rw[ssub_sub b θ o,ssub_sub b θ l]
 | .rm c=>by simp only[AV.ssub,AV.sub];rw[ssub_sub b θ c]
theorem aC0(a θ:Nat->AV):∀ l:List AV,af0 θ (iO0 a l)=af0 (fun i=>(a i).sub θ) l
 | []=>by simp[af0,iO0]
 | c::cs=>by simp only[af0,iO0];rw[ssub_sub a θ c,aC0 a θ cs]
theorem ie0(a θ:Nat->AV):∀ l:List (List AV),dP0 θ (ps0 a l)=dP0 (fun i=>(a i).sub θ) l
 | []=>by simp[dP0,ps0]
 | c::cs=>by simp only[dP0,ps0];rw[aC0 a θ c,ie0 a θ cs]
end
def j5.ssub(a:Nat->AV):j5->j5
 | .row e s es=>.row e s (ps0 a es)
 | .map agg es c=>.map agg (es.map fun e=>(e.1,e.2.1.ssub a,e.2.2)) c
 | .xrow e s i=>match a i with
  | .sy j=>.xrow e s j
  | .rs es=>.row e s es
  | _=>.row e s []
 | .xmap c=>.xmap (c.ssub a)
 | .xiter s p=>.xiter (s.ssub a) (p.ssub a)
 | .frow e z c cols k off v=>.frow e z (c.ssub a) cols (k.ssub a) off (v.map (AV.ssub a))
 | o=>o
theorem j5.ssub_sub(a θ:Nat->AV)(o:j5):(o.ssub a).sub θ=o.sub (fun i=>(a i).sub θ):=by
 cases o with
 | row e z es=>simp only[j5.ssub,j5.sub,<-bo0];rw[ie0]
 | map agg es c=>simp only[j5.ssub,j5.sub,cQ];congr 1;apply bq;intro e _;simp[Go.Ab.ssub_sub]
 | xrow e z i=>simp only[j5.ssub,j5.sub];cases a i<;>simp[j5.sub,rowsOf]
 | xmap c=>simp only[j5.ssub,j5.sub];rw[Go.Ab.ssub_sub]
 | xiter s p=>simp only[j5.ssub,j5.sub];rw[Go.Ab.ssub_sub,Go.Ab.ssub_sub]
 | frow e z c cols k off v=>
  simp only[j5.ssub,j5.sub];rw[Go.Ab.ssub_sub,Go.Ab.ssub_sub];cases v with
  | none=>rfl
  | some x=>simp only[aj];rw[Go.Ab.ssub_sub]
 | _=>rfl
def AS.ssub(a:Nat->AV)(s:AS):AS:={ n:=s.n,tr:=s.tr.map (AV.ssub a),st:={ next:=s.st.next,tr:=s.st.tr.map (j5.ssub a),low:=s.st.low } }
theorem Tr.map_map{α β a:Type}(f:α->β)(g:β->a):∀ t:Tr α,(t.map f).map g=t.map (fun x=>g (f x))
 | .leaf=>rfl
 | .node v l r=>by simp only[Tr.map];rw[Tr.map_map f g l,Tr.map_map f g r];cases v<;>rfl
theorem AS.ssub_sub(a θ:Nat->AV)(s:AS):(s.ssub a).sub θ=s.sub (fun i=>(a i).sub θ):=by simp only[AS.ssub,AS.sub,c8.sub,Tr.map_map];have h1:(fun x=>AV.sub θ (AV.ssub a x))=AV.sub (fun i=>(a i).sub θ):=funext fun x=>Go.Ab.ssub_sub a θ x;have h2:(fun x=>j5.sub θ (j5.ssub a x))=j5.sub (fun i=>(a i).sub θ):=funext fun x=>j5.ssub_sub a θ x;rw[h1,h2]
def aN0(j:Nat)(b:Bool)(i:Nat):AV:=bif aA i j then .sc (.bool b)else .sy i
theorem eI0{θ:Nat->AV}{j:Nat}{b:Bool}(h:θ j=.sc (.bool b))(s:AS):(s.ssub (aN0 j b)).sub θ=s.sub θ:=by
 rw[AS.ssub_sub];congr 1;funext i;unfold aN0;cases a:aA i j with
 | true=>have:=af a;subst this;simp[h]
 | false=>simp
abbrev gq0:=Nat->Option (Option Nat)
def W2(ι:gq0)(i k:Nat):Bool:=match ι i with | some (some j)=>aA j k | _=>false
def gz0(ι:gq0)(i:Nat):Bool:=match ι i with | some none=>true | _=>false
theorem T5{ι:gq0}{i k:Nat}(h:W2 ι i k=true):ι i=some (some k):=by
 unfold W2 at h;split at h
 ·rename_i j hj;rw[hj,af h]
 cases h
theorem nv0{ι:gq0}{i:Nat}(h:gz0 ι i=true):ι i=some none:=by
 unfold gz0 at h;split at h
 ·rename_i hj;exact hj
 cases h
def fnB:Fn->Fn->Bool
 | .func a,.func b=>aA a b
 | _,_=>false
theorem fnB_eq{a b:Fn}(h:fnB a b=true):a=b:=by
 unfold fnB at h;split at h
 ·rw[af h]
 cases h
def undB:Value->Value->Bool
 | .tuple a,.tuple b=>aA a.size 0&&aA b.size 0
 | .pointer none,.pointer none=>true
 | a,b=>vbeq a b
theorem xh0{a b:Value}(h:undB a b=true):a=b:=by
 unfold undB at h;split at h
 ·rename_i a b
  simp only[ab]at h;have h1:a=#[]:=ff (af h.1);have h2:b=#[]:=ff (af h.2);rw[h1,h2]
 ·rfl
 exact xD0 h
def rmB:AV->AV->Bool
 | .sy i,.sy j=>aA i j
 | _,_=>false
theorem nC0{a b:AV}(h:rmB a b=true):∃ i,a=.sy i/\b=.sy i:=by
 unfold rmB at h;split at h
 ·exact⟨_,rfl,by rw[af h]⟩
 cases h
def eqX:AV->AV->Bool
 | .sy i,.sy j=>aA i j
 | .sc (.int .i64 a),.sc (.int .i64 b)=>decide (a=b)
 | _,_=>false
theorem kV0{θ:Nat->AV}{a b:AV}(h:eqX a b=true):a.sub θ=b.sub θ:=by
 unfold eqX at h;split at h
 ·rw[af h]
 ·rw[Aj h]
 cases h
mutual
def cb0(ι:gq0):AV->AV->Bool
 | .any,_=>true
 | .sc v,.sc m=>undB v m
 | .rs es,.rs g=>xO0 ι es g
 | .rp cs,.rp b=>rr0 ι cs b
 | .ms id z o l,.ms id' d o' h=>W2 ι id id'&&aA z d&&aA o o'&&aA l h
 | .ms id _ o l,.sc (.slice none 0 0)=>gz0 ι id&&aA o 0&&aA l 0
 | .mp id i j,.mp id' e n=>W2 ι id id'&&aA i e&&aA j n
 | .mm id,.mm id'=>W2 ι id id'
 | .it id,.it id'=>W2 ι id id'
 | .fn f a c,.fn p q c'=>fnB f p&&rr0 ι a q&&rr0 ι c c'
 | .agg cs,.agg b=>rr0 ι cs b
 | .tup cs,.tup b=>rr0 ι cs b
 | .sy i,.sy e=>aA i e
 | .ss id z i,.ss id' d e=>W2 ι id id'&&aA z d&&aA i e
 | .xp id k o,.xp id' r o'=>W2 ι id id'&&aA k r&&aA o o'
 | .xs id z o l,.xs id' d o' h=>W2 ι id id'&&aA z d&&eqX o o'&&eqX l h
 | .rm c,.rm c'=>rmB c c'
 | _,_=>false
def rr0(ι:gq0):List AV->List AV->Bool
 | [],[]=>true
 | a::az,b::bs=>cb0 ι a b&&rr0 ι az bs
 | _,_=>false
def xO0(ι:gq0):List (List AV)->List (List AV)->Bool
 | [],[]=>true
 | a::az,b::bs=>rr0 ι a b&&xO0 ι az bs
 | _,_=>false
end
def RVs(ι:gq0)(az bs:List AV):Prop:=az.length=bs.length/\∀ i (h:i<az.length) (h':i<bs.length),RV ι az[i] bs[i]
theorem RVs.cons{ι:gq0}{a b:AV}{az bs:List AV}(h:RV ι a b)(hs:RVs ι az bs):RVs ι (a::az) (b::bs):=by
 refine⟨by simp[hs.1],fun i h1 h2=>?_⟩;cases i with
 | zero=>exact h
 | succ i=>exact hs.2 i (by simpa using h1) (by simpa using h2)
def RVr(ι:gq0)(az bs:List (List AV)):Prop:=az.length=bs.length/\∀ i (h:i<az.length) (h':i<bs.length),RVs ι az[i] bs[i]
theorem RV.fit{ι:gq0}{v:AV}(h:am0 v):RV ι v v:=fun G _ a=>Q1 (G:=G) (G':=G.ren ι) (fun _ _ b=>b) a h.pur
theorem RV.rs{ι:gq0}{es b:List (List AV)}(h:RVr ι es b):RV ι (.rs es) (.rs b):=by
 intro G u c;cases c with
 | rsNil=>have:es=[]:=bJ (by simpa using h.1);subst this;exact .rsNil
 | rs _ a cap size val hs hc hlen himm hrep=>
  rw[<- h.1];have hl:=h.1;refine .rs es a cap size val hs (by omega) (fun i hi=>?_) (fun i j hi hj=>himm i j (by omega) hj) (fun i j hi hj=>?_)
  ·rw[(h.2 i hi (by omega)).1];exact hlen i (by omega)
  have h2:=h.2 i hi (by omega);exact h2.2 j hj (by rw[<- h2.1];exact hj) G _ (hrep i j (by omega) (by rw[<- h2.1];exact hj))
mutual
theorem mr0{θ:Nat->AV}(e:Fit θ){ι:gq0}:∀ (a b:AV),cb0 ι a b=true->RV ι (a.sub θ) (b.sub θ)
 | .any,b,_=>fun G u _=>by rw[yt0];exact .any u
 | .sc v,b,h=>by
  cases b with
  | sc H=>simp only[cb0]at h;rw[xh0 h];intro G u d;simp only[F9]at *;cases d;exact .sc _
  | _=>simp[cb0]at h
 | .rs es,b,h=>by
  cases b with
  | rs w=>simp only[cb0]at h;simp only[AV.sub];exact RV.rs (mR0 e es w h)
  | _=>simp[cb0]at h
 | .rp cs,b,h=>by
  cases b with
  | rp m =>
   simp only[cb0]at h;have hl:=eo0 e cs m h;simp only[AV.sub];intro G u d;cases d with
   | rp _ a val hs himm hrep=>exact .rp _ a val hs (fun j hj=>himm j (by rw[<- hl.1];exact hj)) (fun j hj=>hl.2 j hj (by rw[<- hl.1];exact hj) G _ (hrep j (by rw[<- hl.1];exact hj)))
  | _=>simp[cb0]at h
 | .ms id z o l,b,h=>by
  cases b with
  | ms id' x o' B =>
   simp only[cb0,ab]at h;have h1:=T5 h.1.1.1;have h2:=af h.1.1.2;have n:=af h.1.2;have r:=af h.2;subst h2;subst n;subst r;intro G u d;simp only[bn0]at *;cases d with
   | ms _ _ _ _ p hp hv hz a c ha s hl hsp=>exact .ms id z o l p (by simp only[c9.ren,h1];exact hp) hv hz a c ha s hl hsp
   | msNil _ _ p hp hv=>exact .msNil id z p (by simp only[c9.ren,h1];exact hp) hv
  | sc v=>
   have hv:v=.slice none 0 0/\(gz0 ι id&&aA o 0&&aA l 0)=true:=by
    cases v with
    | slice a b c=>
     cases a with
     | none=>
      cases b with
      | zero=>cases c with
       | zero=>exact⟨rfl,by simpa only[cb0]using h⟩
       | succ c=>simp[cb0]at h
      | succ b=>simp[cb0]at h
     | some a=>simp[cb0]at h
    | _=>simp[cb0]at h
   obtain⟨rfl,q⟩:=hv;rw[ab,ab]at q;have h1:=nv0 q.1.1;have n:=af q.1.2;have r:=af q.2;subst n;subst r;rw[bn0,F9];intro G u d;cases d;exact .msNil id z ⟨0,0,0,true⟩ (by simp only[c9.ren,h1]) rfl
  | _=>simp[cb0]at h
 | .mp id i j,b,h=>by
  cases b with
  | mp id' C I =>
   simp only[cb0,ab]at h;have h1:=T5 h.1.1;have h2:=af h.1.2;have n:=af h.2;subst h2;subst n;intro G u d;simp only[kX0]at *;cases d with
   | mp _ _ _ p hp=>exact .mp id i j p (by simp only[c9.ren,h1];exact hp)
  | _=>simp[cb0]at h
 | .mm id,b,h=>by
  cases b with
  | mm id' =>
   simp only[cb0]at h;have h1:=T5 h;intro G u d;simp only[dM0]at *;cases d with
   | mm _ p hp=>exact .mm id p (by simp only[c9.ren,h1];exact hp)
  | _=>simp[cb0]at h
 | .it id,b,h=>by
  cases b with
  | it id' =>
   simp only[cb0]at h;have h1:=T5 h;intro G u d;simp only[qI0]at *;cases d with
   | it _ p hp=>exact .it id p (by simp only[c9.ren,h1];exact hp)
  | _=>simp[cb0]at h
 | .fn f a c,b,h=>by
  cases b with
  | fn J D c' =>
   simp only[cb0,ab]at h;have h1:=fnB_eq h.1.1;subst h1;have ha:=eo0 e a D h.1.2;have hc:=eo0 e c c' h.2;simp only[AV.sub];intro G u d;cases d with
   | fn _ _ _ fv cv l1 l2 t E=>exact .fn f _ _ fv cv (by rw[l1,ha.1]) (by rw[l2,hc.1]) (fun i hi g=>ha.2 i hi (by rw[<- ha.1];exact hi) G _ (t i (by rw[<- ha.1];exact hi) g)) (fun i hi g=>hc.2 i hi (by rw[<- hc.1];exact hi) G _ (E i (by rw[<- hc.1];exact hi) g))
  | _=>simp[cb0]at h
 | .agg cs,b,h=>by
  cases b with
  | agg m =>
   simp only[cb0]at h;have hl:=eo0 e cs m h;simp only[AV.sub];intro G u d;cases d with
   | agg _ vs l1 t=>exact .agg _ vs (by rw[l1,hl.1]) (fun i hi g=>hl.2 i hi (by rw[<- hl.1];exact hi) G _ (t i (by rw[<- hl.1];exact hi) g))
  | _=>simp[cb0]at h
 | .tup cs,b,h=>by
  cases b with
  | tup m =>
   simp only[cb0]at h;have hl:=eo0 e cs m h;simp only[AV.sub];intro G u d;cases d with
   | tup _ vs l1 t=>exact .tup _ vs (by rw[l1,hl.1]) (fun i hi g=>hl.2 i hi (by rw[<- hl.1];exact hi) G _ (t i (by rw[<- hl.1];exact hi) g))
  | _=>simp[cb0]at h
 | .sy i,b,h=>by
  cases b with
  | sy C=>simp only[cb0]at h;rw[<- af h,p7];exact RV.fit (e i)
  | _=>simp[cb0]at h
 | .ss id z i,b,h=>by
  cases b with
  | ss id' x C =>
   simp only[cb0,ab]at h;have h1:=T5 h.1.1;have h2:=af h.1.2;have n:=af h.2;subst h2;subst n;intro G u d;simp only[P8]at *;generalize (rowsOf (θ i)).length=l at *;cases d with
   | ms _ _ _ _ p hp hv hz a c ha s hl hsp=>exact .ms id z 0 l p (by simp only[c9.ren,h1];exact hp) hv hz a c ha s hl hsp
   | msNil _ _ p hp hv=>exact .msNil id z p (by simp only[c9.ren,h1];exact hp) hv
  | _=>simp[cb0]at h
 | .xp id k o,b,h=>by
  cases b with
  | xp id' K o' =>
   simp only[cb0,ab]at h;have h1:=T5 h.1.1;have h2:=af h.1.2;have n:=af h.2;subst h2;subst n;intro G u d;simp only[AV.sub]at *;cases d with
   | mp _ _ _ p hp=>exact .mp id _ _ p (by simp only[c9.ren,h1];exact hp)
  | _=>simp[cb0]at h
 | .xs id z o l,b,h=>by
  cases b with
  | xs id' x o' B =>
   simp only[cb0,ab]at h;have h1:=T5 h.1.1.1;have h2:=af h.1.1.2;have n:=kV0 (θ:=θ) h.1.2;have r:=kV0 (θ:=θ) h.2;subst h2;intro G u d;simp only[AV.sub,n,r]at *;generalize Q5 (o'.sub θ)=L at *;generalize Q5 (B.sub θ)=M at *;cases d with
   | ms _ _ _ _ p hp hv hz a c ha s hl hsp=>exact .ms id z _ _ p (by simp only[c9.ren,h1];exact hp) hv hz a c ha s hl hsp
   | msNil _ _ p hp hv=>exact .msNil id z p (by simp only[c9.ren,h1];exact hp) hv
  | _=>simp[cb0]at h
 | .rm c,b,h=>by
  cases b with
  | rm c' =>simp only[cb0]at h;obtain⟨i,rfl,rfl⟩:=nC0 h;simp only[fL0,p7];intro G u d;exact Q1 (G:=G) (G':=G.ren ι) (fun _ _ q=>q) d (by simp only[AV.pur];exact(e _).pur)
  | _=>simp[cb0]at h
theorem eo0{θ:Nat->AV}(c:Fit θ){ι:gq0}:∀ (a b:List AV),rr0 ι a b=true->RVs ι (af0 θ a) (af0 θ b)
 | [],b,h=>by
  cases b with
  | nil=>exact⟨rfl,fun i hi=>by simp[af0]at hi⟩
  | cons _ _=>simp[rr0]at h
 | a::az,b,h=>by
  cases b with
  | nil=>simp[rr0]at h
  | cons b bs=>simp only[rr0,ab]at h;simp only[af0];exact(mr0 c a b h.1:RV ι _ _) |> fun h1=>RVs.cons h1 (eo0 c az bs h.2)
theorem mR0{θ:Nat->AV}(c:Fit θ){ι:gq0}:∀ (a b:List (List AV)),xO0 ι a b=true->RVr ι (dP0 θ a) (dP0 θ b)
 | [],b,h=>by
  cases b with
  | nil=>exact⟨rfl,fun i hi=>by simp[dP0]at hi⟩
  | cons _ _=>simp[xO0]at h
 | a::az,b,h=>by
  cases b with
  | nil=>simp[xO0]at h
  | cons b bs=>
   simp only[xO0,ab]at h;simp only[dP0];have h1:=eo0 c a b h.1;have h2:=mR0 c az bs h.2;refine⟨by simp[h2.1],fun i hi d=>?_⟩;cases i with
   | zero=>exact h1
   | succ i=>exact h2.2 i (by simpa using hi) (by simpa using d)
end
end Go.Ab
namespace Go.Ab
open Go
variable [B5]
theorem rC0{P:Program}{o:Oper}{a:Act}{K g:Act->World->Prop}{Q Q':Exit->Act->World->Prop}(i:∀ e a w,Q e a w->e=.normal)(hk:∀ a w,K a w->g a w){r:Result Next}(h:o.upon P a K Q r):o.upon P a g Q' r:=by
 have hp:∀ c a w,¬ Q (.panic c) a w:=fun c a w b=>by cases i _ _ _ b
 have hl:¬ LetsOut Q:=fun ⟨a,w,b⟩=>by cases i _ _ _ b
 cases r with
 | ok n w' =>
  cases n with
  | value v=>exact hk _ _ h
  | skip=>exact hk _ _ h
  | defer d=>exact hk _ _ h
  | enter f args=>
   simp only[dF]at h ⊢;refine h.mono ?_;intro e j b;cases e with
   | returned v=>exact hk _ _ b
   | panicked c=>exact Am b (hp _ _ _)
   | outgrown=>exact Am b hl
  | row row args=>simp only[dF]at h ⊢;exact h.mono fun _ _ b=>hk _ _ b
  | _=>simp only[dF]at h
 | halt x w' =>
  cases x with
  | panic v=>simp only[dF]at h;exact Am h (hp _ _ _)
  | _=>simp only[dF]at h
theorem rZ0{P:Program}{c:Array Oper}{o:Oper}{Q Q':Exit->Act->World->Prop}(g:∀ e a w,Q e a w->e=.normal){i:Nat}(hi:i<c.size)(m:∀ x j b,c[i]?=some x->x.guard=some (j,b)->j<c.size){K k:Act->World->Prop}(hk:∀ a w,K a w->k a w){a:Act}{w:World}
  (h:wpOp P c Q i K a w):wpOp P (c.push o) Q' i k a w:=by
 unfold wpOp at h ⊢;have e0:∀ j,j<c.size->(c.push o)[j]?=c[j]?:=fun j hj=>by rw[bu,Ae (by omega)]
 rw[e0 i hi];have l:c[i]?=some c[i]:=aS hi;rw[l]at h ⊢;simp only at h ⊢;have hw:cM c[i] (yielded (c.push o) a.tmps)=cM c[i] (yielded c a.tmps):=by
  unfold cM;split
  ·rfl
  rename_i j b f;unfold yielded;rw[e0 j (m _ _ _ l f)]
 rw[hw];split at h
 ·rename_i d
  rw[Af d];rcases h with h | ⟨_,a2,n,h2⟩
  ·exact .inl (rC0 g hk h)
  cases g _ _ _ h2
 rename_i d;rw[Ae d];exact hk _ _ h
theorem oT0{P:Program}{c:Array Oper}{o:Oper}{Q:Exit->Act->World->Prop}(Z:∀ (i:Nat) (x:Oper) (j:Nat) (b:Bool),c[i]?=some x->x.guard=some (j,b)->j<c.size)(V:∀ e∈o.after,cg .any e=true->e.on<c.size)(he:∀ (i:Nat) (x:Oper) (e:Edge),c[i]?=some x->e∈x.after->cg .any e=true->e.on<i)
  (G:∀ p:Nat->Bool,fX0 c p->(∀ e∈o.after,cg .any e=true->p e.on=true)->∀ i,i<c.size->p i=true) :
  ∀ (fuel:Nat) (listed:Array Bool) (a:Act) (w:World),listed.size=c.size->fX0 c (fun j=>listed.getD j false)->left c.size (fun j=>listed.getD j false)=fuel ->
   wpAny P .any c (fun e a w=>e=.normal/\wpOp P (c.push o) Q c.size (Q .normal) a w) fuel listed a w->wpAny P .any (c.push o) Q (fuel+1) (listed.push false) a w:=by
 have q:∀ (l:Array Bool) (j:Nat),l.size=c.size->j<c.size->∀ d,(l.push false).getD j d=l.getD j d:=fun l j hl hj d=>by simp[dG,bu,show j≠l.size by omega]
 have v:∀ (l:Array Bool),l.size=c.size->∀ d,(l.push false).getD c.size d=false:=fun l hl d=>by simp only[dG,bu,hl,Al,Option.getD_some]
 have e0:∀ j,j<c.size->(c.push o)[j]?=c[j]?:=fun j hj=>by rw[bu,Ae (by omega)]
 have W:(c.push o)[c.size]?=some o:=by rw[bu,Af rfl]
 have C:∀ (l:Array Bool),l.size=c.size->∀ i,i<c.size->(i∈bB .any (c.push o) (l.push false)↔i∈bB .any c l):=fun l hl i hi=>by
  rw[mem_ready,mem_ready,e0 i hi,q l i hl hi];constructor
  ·rintro ⟨h1,x,h2,H⟩
   refine⟨h1,x,h2,fun e k r=>?_⟩;have:=H e k r;rwa [q l e.on hl (by have:=he i x e h2 k r;omega)]at this
  rintro ⟨h1,x,h2,H⟩;refine⟨h1,x,h2,fun e k r=>?_⟩;rw[q l e.on hl (by have:=he i x e h2 k r;omega)];exact H e k r
 have L:∀ (l:Array Bool),l.size=c.size->fX0 c (fun j=>l.getD j false)->c.size∈bB .any (c.push o) (l.push false)->∀ i,i<c.size->l.getD i false=true:=fun l hl s z=>by
  rw[mem_ready,W]at z;obtain⟨_,x,D,H⟩:=z;cases D;refine G _ s (fun e k r=>?_);have:=H e k r;by_cases hs:e.on<c.size
  ·rwa [q l e.on hl hs]at this
  exfalso;by_cases M:e.on=c.size
  ·rw[M,v l hl]at this;cases this
  have:(l.push false).getD e.on false=false:=by simp[dG,bu,show e.on≠l.size by omega,show ¬ e.on<l.size by omega]
  simp_all
 have bnd:∀ (l:Array Bool) i,i∈bB .any (c.push o) l->i<c.size\/i=c.size:=fun l i hi=>by obtain⟨_,x,D,_⟩:=mem_ready.1 hi;have:=(aN.1 D).1;simp at this;omega
 have full:∀ (l:Array Bool),l.size=c.size->(∀ i,i<c.size->l.getD i false=true)->bB .any c l=[]:=fun l hl hp=>by
  cases z:bB .any c l with
  | nil=>rfl
  | cons i is=>
   have hi:i∈bB .any c l:=by rw[z];simp
   obtain⟨h1,x,D,_⟩:=mem_ready.1 hi;have g:=(aN.1 D).1;have:=hp i g;simp[hl,g]at h1 this;rw[h1]at this;cases this
 have after:∀ (l:Array Bool) (a:Act) (w:World) (fuel:Nat),l.size=c.size->(∀ i,i<c.size->l.getD i false=true)->Q .normal a w->wpAny P .any (c.push o) Q fuel ((l.push false).setIfInBounds c.size true) a w:=fun l a w fuel hl hp X=>by
  have n:bB .any (c.push o) ((l.push false).setIfInBounds c.size true)=[]:=by
   cases z:bB .any (c.push o) ((l.push false).setIfInBounds c.size true)with
   | nil=>rfl
   | cons i is=>
    have hi:i∈bB .any (c.push o) ((l.push false).setIfInBounds c.size true):=by rw[z];simp
    obtain⟨h1,_⟩:=mem_ready.1 hi;rcases bnd _ _ hi with g | rfl
    ·rw[getD_set_ne true (by omega),q l i hl g]at h1
     have:=hp i g;simp[hl,g]at h1 this;rw[h1]at this;cases this
    simp[hl]at h1
  cases fuel with
  | zero=>exact⟨n,X⟩
  | succ f=>exact⟨fun _=>X,fun i hi=>by rw[n]at hi;cases hi⟩
 have B:∀ (l:Array Bool),l.size=c.size->(∀ i,i<c.size->l.getD i false=true)->c.size∈bB .any (c.push o) (l.push false):=fun l hl hp=>by rw[mem_ready,W,v l hl];refine⟨rfl,o,rfl,fun e k r=>?_⟩;rw[q l e.on hl (V e k r)];exact hp _ (V e k r)
 intro fuel
 induction fuel with
 | zero=>
  intro listed a w m s t h;have hp:=le0 t;refine⟨fun n=>?_,fun i hi=>?_⟩
  ·have:=B listed m hp;rw[n]at this;cases this
  rcases bnd _ _ hi with g | rfl
  ·rw[C listed m i g,full listed m hp]at hi;cases hi
  refine wpOp_mono ?_ h.2.2;intro I w' N;exact after listed I w' 0 m hp N
 | succ fuel ih=>
  intro listed a w m s t h;refine⟨fun n=>?_,fun i hi=>?_⟩
  ·have h1:bB .any c listed=[]:=by
    cases z:bB .any c listed with
    | nil=>rfl
    | cons i is=>
     have hi:i∈bB .any c listed:=by rw[z];simp
     obtain⟨_,x,D,_⟩:=mem_ready.1 hi;have g:=(aN.1 D).1;rw[<- C listed m i g,n]at hi;cases hi
   have hp:∀ i,i<c.size->listed.getD i false=true:=fun i=>by
    induction i using fM with
    | _ i O=>
     intro g;cases hl:listed.getD i false with
     | true=>rfl
     | false=>
      have:i∈bB .any c listed:=mem_ready.2 ⟨by simp[m,g]at hl ⊢;exact hl,_,aS g,fun e k r=>by
       have:=he i _ e (aS g) k r;exact O e.on this (by omega)⟩
      rw[h1]at this;cases this
   have:=B listed m hp;rw[n]at this;cases this
  rcases bnd _ _ hi with g | rfl
  ·rw[C listed m i g]at hi
   refine rZ0 (Q:=fun e a w=>e=.normal/\wpOp P (c.push o) Q c.size (Q .normal) a w) (fun _ _ _ hh=>hh.1) g (fun x j b h1 h2=>Z i x j b h1 h2) (fun I w' hk=>?_) (h.2 i hi);have J:∀ j,(listed.setIfInBounds i true).getD j false=(j==i||listed.getD j false):=fun j=>by
    by_cases e:j=i
    ·subst e;simp[m,g]
    rw[getD_set_ne false (gO e)];have:(j==i)=false:=by simpa using e
    rw[this];rfl
   have u:(fun j=>(listed.setIfInBounds i true).getD j false)=(fun j=>j==i||listed.getD j false):=funext J;obtain⟨Y,x,r2,r3⟩:=mem_ready.1 hi;have R:listed.getD i false=false:=by simp[m,g]at Y ⊢;exact Y
   have e1:(listed.push false).setIfInBounds i true=(listed.setIfInBounds i true).push false:=by
    apply Array.ext_getElem?;intro j;by_cases S:j=i
    ·subst S
     rw[eB (by simp;omega),bu,Ae (by simp;omega),eB (by omega)]
    rw[eX (gO S),bu,bu];simp only[Array.size_setIfInBounds];split
    ·rfl
    rw[eX (gO S)]
   rw[e1];refine ih _ I w' (by simp[m]) ?_ ?_ hk
   ·rw[u]
    intro j oj E U e k r;by_cases K:j=i
    ·subst K
     rw[r2]at E;cases E;simp[r3 e k r]
    have:listed.getD j false=true:=by simpa[K]using U
    simp[s j oj E this e k r]
   rw[u];have:=nY0 (p:=fun j=>listed.getD j false) g R;omega
  have hp:=L listed m s hi;have h0:=h.1 (full listed m hp);refine wpOp_mono ?_ h0.2;intro I w' N;exact after listed I w' _ m hp N
theorem rR0{P:Program}{T:Tab}(hT:B7 P T){cl:FuncId->List AV->c8->Option (AV×c8)}
  (E:∀ f args σ v σ',cl f args σ=some (v,σ')->F3 P f args σ (fun I m=>I=v/\m=σ')/\ag0 σ σ')
  {ops:Array Oper} {s s':AS} (h:cv0 T cl ops s=some s') {G:c9} {a:Act} {w:World} (b:ba0 G s a w) {Q:Exit->Act->World->Prop}
  (J:∀ G' D w',mj0 s.st.next G s.st w G' s'.st w'->ba0 G' s' D w'->Q .normal D w'):wpAny P .any ops Q ops.size (bf ops.size false) a { w with drawn:=w.drawn+1 }:=by
 unfold cv0 at h;split at h
 case isFalse=>cases h
 rename_i hst;split at h
 case h_2=>cases h
 rename_i s1 fs K;split at h
 case isFalse=>cases h
 rename_i hdyn;cases h;obtain⟨evs,sts,l1,l2,l3,M,q,g1,g2,g3⟩:=nn0 hT E ops.toList 0 _ _ fs (fun j=>by simp) (by simp) (ar _) K;simp only[gx]at l1 l2 l3;have r:Lex P ops s.n s.st.next fs evs sts { s with st:={ s.st with next:=s.st.next+ops.size } }:=⟨hst,hdyn,l1,l2,l3,fun j o f ev st h1 h2 N O=>by
  have:=q j o f ev st (by simpa using h1) h2 N O;simpa using this⟩
 have i:left ops.size (fun j=>(bf ops.size false).getD j false)=ops.size:=by
  unfold left;rw[cy.2 (fun x z=>by
   have:x<ops.size:=by simpa using z
   simp[this])]
  simp
 have B:∀ j,(bf ops.size false).getD j false=false:=fun j=>by by_cases hj:j<ops.size<;>simp[hj]
 refine Way.any r (G0:=G) (σ0:=s.st) (w0:=w) _ ?_ ops.size (bf ops.size false) G s.get { s.st with next:=s.st.next+ops.size } a { w with drawn:=w.drawn+1 } (by simp) i ?_
 ·intro p G' tm σ D w' hw hp
  have agree:∀ {L V:Type} (us:List (L->Option V)) (f:L->V),us.length=ops.size->fold p us 0 f=fold (fun _=>true) us 0 f:=fun us f hl=>funext fun l=>N4 l us 0 f f rfl (fun j u hu C=>by
   have hj:j<ops.size:=by have:=(an.1 hu).1;omega
   rw[aG]at C;exact Am (hp j hj) C)
  have d:σ.next=s'.st.next:=by rw[hw.nx,agree _ _ (by simp[l1]),g3]
  have g:∀ k,σ.objs k=s'.st.objs k:=fun k=>by rw[hw.ob,agree _ _ (by simp[l1]),g2]
  have H:∀ t,tm t=s'.get t:=fun t=>by rw[hw.tm,agree _ _ (by simp[l1]),g1]
  exact J G' D w' ⟨hw.tran.le,hw.tran.keeps,by rw[<- d];exact hw.tran.next,hw.tran.fr.trans (Fr.less fun k x z=>by rw[g];exact z)⟩ ⟨hw.rel.defers,by rw[hw.rel.size,M],fun t=>by rw[<- H];exact hw.rel.tmps t,hw.rel.rel.less d.symm (fun k x z=>by rw[g];exact z)⟩
 have c:∀ {L V:Type} (us:List (L->Option V)) (f:L->V) (l:L),fold (fun j=>(bf ops.size false).getD j false) us 0 f l=f l:=fun us f l=>aI0 l us 0 f _ (fun j u _ hp=>by rw[B]at hp;cases hp) rfl;refine⟨⟨b.defers,b.size,b.tmps,(b.rel.next (aO _ _)).drawn _⟩,fun t=>(c _ _ _).symm,fun k=>(c _ _ _).symm,(c (evs.map fun e=>fun _:Unit=>e.uN) (fun _=>s.st.next+ops.size) ()).symm,fun j _ _=>b.rel.fresh _ (aO _ _),(fun j o _ hp=>by rw[B]at hp;cases hp),ar _,?_⟩;exact⟨.refl G,.refl _ G,aO _ _,(Fr.less (σ:=s.st) (σ':={ s.st with next:=s.st.next+ops.size }) (fun _ _ h=>h)).trans (Fr.draws _ _ _ _ (aO _ _))⟩
def aP0(a:Array Oper)(o:Oper):Bool :=
 (bE a.size).all (fun i=>(anc1 (dv0 a.toList []) o).testBit i)&&o.after.all (fun e=>!Region.binds .any e||decide (e.on<a.size)) &&
 (bE a.size).all (fun i=>match a[i]? with
  | some x=>(match x.guard with | some (j,_)=>decide (j<a.size) | none=>true)&&x.after.all (fun e=>!Region.binds .any e||decide (e.on<i))
  | none=>true)
theorem jO0{a:Array Oper}{o:Oper}(h:aP0 a o=true):∀ p:Nat->Bool,fX0 a p->(∀ e∈o.after,cg .any e=true->p e.on=true)->∀ i,i<a.size->p i=true:=by
 intro p c d i hi;unfold aP0 at h;simp only[ab]at h;have k:=ak.1 h.1.1 i (by simpa using hi);unfold anc1 at k;rcases kg0 _ i _ _ k with f | ⟨e,he,b,f⟩
 ·simp at f
 have g:=d e (by simpa using he) b;rcases f with rfl | f
 ·exact g
 have j:e.on<a.size:=by have:=cD.1 h.1.2 e (by simpa using he);simpa[b]using this
 exact bK0 c e.on _ (aS j) (c e.on _ (aS j) g) i f
theorem sZ0{P:Program}{c:Array Oper}{o:Oper}{Q Q':Exit->Act->World->Prop}(g:∀ e a w,Q e a w->e=.normal){i:Nat}(hi:i<c.size)(m:∀ x j b,c[i]?=some x->x.guard=some (j,b)->j<c.size){K k:Act->World->Prop}(hk:∀ a w,K a w->k a w){a:Act}{w:World}
  (h:wpOp P (c.push o) Q i K a w):wpOp P c Q' i k a w:=by
 unfold wpOp at h ⊢;have e0:∀ j,j<c.size->(c.push o)[j]?=c[j]?:=fun j hj=>by rw[bu,Ae (by omega)]
 rw[e0 i hi]at h;have l:c[i]?=some c[i]:=aS hi;rw[l]at h ⊢;simp only at h ⊢;have hw:cM c[i] (yielded (c.push o) a.tmps)=cM c[i] (yielded c a.tmps):=by
  unfold cM;split
  ·rfl
  rename_i j b f;unfold yielded;rw[e0 j (m _ _ _ l f)]
 rw[hw]at h;split at h
 ·rename_i d
  rw[Af d];rcases h with h | ⟨_,a2,n,h2⟩
  ·exact .inl (rC0 g hk h)
  cases g _ _ _ h2
 rename_i d;rw[Ae d];exact hk _ _ h
theorem kT0{P:Program}{c:Array Oper}{o:Oper}{Q:Exit->Act->World->Prop}(d:∀ e a w,Q e a w->e=.normal)(f:∀ (i:Nat) (x:Oper) (j:Nat) (b:Bool),c[i]?=some x->x.guard=some (j,b)->j<c.size) :
  ∀ (l:List Nat) (a:Act) (w:World),(∀ i∈l,i<c.size)->wpOps P (c.push o) Q (l++[c.size]) a w->wpOps P c (fun e a w=>e=.normal/\wpOp P (c.push o) Q c.size (Q .normal) a w) l a w
 | [],a,w,_,h=>by simp only[bG]at h;rw[wpOps_cons]at h;exact⟨rfl,h⟩
 | i::l,a,w,hl,h=>by rw[eY,wpOps_cons]at h;rw[wpOps_cons];exact sZ0 d (hl i (by simp)) (fun x j b h1 h2=>f i x j b h1 h2) (fun g w' hk=>kT0 d f l g w' (fun j hj=>hl j (by simp[hj])) hk) h
theorem X5{P:Program}{md:Region.Mode}{ops:Array Oper}{Q Q':Exit->Act->World->Prop}(b:∀ e a w,Q e a w->e=.normal)(h:∀ a w,Q .normal a w->Q' .normal a w):∀ (fuel:Nat) (listed:Array Bool) (a:Act) (w:World),wpAny P md ops Q fuel listed a w->wpAny P md ops Q' fuel listed a w
 | 0,_,a,w,⟨h1,h2⟩=>⟨h1,h a w h2⟩
 | fuel+1,listed,a,w,⟨h1,h2⟩=>⟨fun c=>h a w (h1 c),fun i hi=>by
   have:=h2 i hi;unfold wpOp at this ⊢;split at this
   ·exact X5 b h fuel _ _ _ this
   split at this
   ·rename_i hw
    rw[Af hw];rcases this with this | ⟨_,a2,f,d⟩
    ·exact .inl (rC0 b (fun g w' hk=>X5 b h fuel _ _ _ hk) this)
    cases b _ _ _ d
   rename_i hw;rw[Ae hw];exact X5 b h fuel _ _ _ this⟩
def V3:List Oper->List Oper->Bool
 | _,[]=>true
 | l0,o::t=>aP0 ⟨l0⟩ o&&V3 (l0++[o]) t
theorem push_mk(l:List Oper)(o:Oper):(⟨l⟩:Array Oper).push o=⟨l++[o]⟩:=by apply cK;simp
theorem dA0{a:Array Oper}{o:Oper}(hl:aP0 a o=true):(∀ (i:Nat) (x:Oper) (j:Nat) (b:Bool),a[i]?=some x->x.guard=some (j,b)->j<a.size)/\(∀ e∈o.after,cg .any e=true->e.on<a.size) /\
  (∀ (i:Nat) (x:Oper) (e:Edge),a[i]?=some x->e∈x.after->cg .any e=true->e.on<i):=by
 have c:=hl;unfold aP0 at c;simp only[ab]at c;refine⟨fun i x j b d g=>?_,fun e he f=>?_,fun i x e d he f=>?_⟩
 ·have:=ak.1 c.2 i (by simpa using(aN.1 d).1)
  simp only[d,g,ab,Ad]at this;exact this.1
 ·have:=cD.1 c.1.2 e he
  simpa[f]using this
 have:=ak.1 c.2 i (by simpa using(aN.1 d).1);simp only[d,ab]at this;have:=cD.1 this.2 e he;simpa[f]using this
theorem dK0:∀ (t l0:List Oper) (o:Oper),V3 l0 (t++[o])=true->V3 l0 t=true/\aP0 ⟨l0++t⟩ o=true
 | [],l0,o,h=>by simp only[bG,V3,Bool.and_true]at h;exact⟨rfl,by simpa using h⟩
 | x::t,l0,o,h=>by simp only[eY,V3,ab]at h ⊢;obtain⟨h1,h2⟩:=dK0 t (l0++[x]) o h.2;exact⟨⟨h.1,h1⟩,by simpa using h2⟩
theorem mt0{P:Program}{b:Array Oper}{o:Oper}(hl:aP0 b o=true){Q:Exit->Act->World->Prop}{a:Act}{w:World}(h:wpAny P .any b (fun e a w=>e=.normal/\wpOp P (b.push o) Q b.size (Q .normal) a w) b.size (bf b.size false) a w) :
  wpAny P .any (b.push o) Q (b.size+1) (bf (b.size+1) false) a w:=by
 obtain⟨h1,h2,f⟩:=dA0 hl;have d:∀ j,(bf b.size false).getD j false=false:=fun j=>by by_cases hj:j<b.size<;>simp[hj]
 have c:left b.size (fun j=>(bf b.size false).getD j false)=b.size:=by
  unfold left;rw[cy.2 (fun x g=>by
   have:x<b.size:=by simpa using g
   simp[this])]
  simp
 have e1:bf (b.size+1) false=(bf b.size false).push false:=by
  apply Array.ext
  ·simp
  intro j h1 h2;simp[Array.getElem_push]
 rw[e1];exact oT0 h1 h2 f (jO0 hl) b.size _ a _ (by simp) (fun j o' _ hp=>by rw[show (fun j=>(bf b.size false).getD j false) j=false from d j]at hp;cases hp) c h
theorem iS0{P:Program}{l0:List Oper}:∀ (n:Nat) (t:List Oper),t.length=n->V3 l0 t=true->∀ {Q:Exit->Act->World->Prop},(∀ e a w,Q e a w->e=.normal)->∀ {a:Act} {w:World},
  wpAny P .any ⟨l0⟩ (fun e a w=>e=.normal/\wpOps P ⟨l0++t⟩ Q (cW l0.length t.length) a w) l0.length (bf l0.length false) a w->wpAny P .any ⟨l0++t⟩ Q (l0++t).length (bf (l0++t).length false) a w
 | 0,t,d,_,Q,f,a,w,h=>by
  have:t=[]:=by simpa using d
  subst this;rw[List.append_nil];refine X5 (Q:=fun e a w=>e=.normal/\wpOps P ⟨l0++[]⟩ Q (cW l0.length ([]:List Oper).length) a w) (fun _ _ _ c=>c.1) ?_ _ _ _ _ h;rintro g w' ⟨_,h2⟩;simpa[wpOps]using h2
 | n+1,t,d,k,Q,f,a,w,h=>by
  obtain⟨b,o,rfl⟩:∃ b o,t=b++[o]:=by
   rcases List.eq_nil_or_concat t with rfl | ⟨b,o,rfl⟩
   ·simp at d
   exact⟨b,o,by simp⟩
  obtain⟨h1,h2⟩:=dK0 b l0 o k;have e1:(⟨l0++(b++[o])⟩:Array Oper)=(⟨l0++b⟩:Array Oper).push o:=by rw[push_mk];simp
  have e2:(l0++(b++[o])).length=(⟨l0++b⟩:Array Oper).size+1:=by simp;omega
  rw[e1,e2];refine mt0 h2 ?_;refine iS0 n b (by simpa using d) h1 (fun e a w c=>c.1) ?_;refine X5 (fun _ _ _ c=>c.1) ?_ _ _ _ _ h;rintro g w' ⟨_,j⟩;refine⟨rfl,?_⟩;rw[e1]at j;refine kT0 f (dA0 h2).1 _ g w' (fun i hi=>by simp at hi ⊢;omega) ?_;have e3:cW l0.length (b++[o]).length=cW l0.length b.length++[(⟨l0++b⟩:Array Oper).size]:=by simp[List.range'_concat]
  rw[<- e3];exact j
theorem BWp.drawnTail{P:Program}{T:Tab}(hT:B7 P T)(hm:P.follows .mixedOrders=true){cl:FuncId->List AV->c8->Option (AV×c8)}
  (m:∀ f args σ v σ',cl f args σ=some (v,σ')->F3 P f args σ (fun B g=>B=v/\g=σ')/\ag0 σ σ')
  {id n:Nat} {l0 t:List Oper} (hl:V3 l0 t=true) {s s':AS} (h:cv0 T cl ⟨l0⟩ s=some s') {Q:Exit->AS->Prop}
  (b:ad0 P ⟨l0++t⟩ s'.st.next n (fun s2=>Q .normal s2) (cW l0.length t.length) { s' with st:={ s'.st with next:=s'.st.next+(l0++t).length } }):BWp P n (.region id ⟨l0++t⟩ true) Q s:=by
 intro o G a w i;refine wp_region_any hm ?_;have key:=iS0 (P:=P) (l0:=l0) t.length t rfl hl (Q:=fun e k w'=>e=.normal/\∃ s2 d,U7 n G s.st w d s2.st w'/\ba0 d s2 k w'/\Q .normal s2) (fun _ _ _ p=>p.1) (a:=a) (w:={ w with drawn:=w.drawn+1 }) ?_
 ·refine X5 (fun _ _ _ p=>p.1) ?_ _ _ _ _ key
  rintro k w' ⟨_,s2,d,c,q,r⟩;exact⟨s2,d,c,q,r⟩
 refine rR0 hT m h i (fun G' k w' z l=>⟨rfl,?_⟩);have u:ba0 G' { s' with st:={ s'.st with next:=s'.st.next+(l0++t).length } } k w':=⟨l.defers,l.size,l.tmps,l.rel.next (aO _ _)⟩;have:=b G' k w' u (fun j hj=>⟨by simp at hj ⊢;omega,l.rel.fresh _ (aO _ _)⟩) (ar _) (bo o z.next);have x:=z.toB (n:=n) o o;refine C5 ?_ _ _ _ this;rintro e a2 C ⟨rfl,s2,d,c,q,r⟩;exact⟨rfl,s2,d,x.trans ⟨c.w0,c.imm,c.pl,c.nx,(Fr.less (σ:=s'.st) (σ':={ s'.st with next:=s'.st.next+(l0++t).length }) (fun _ _ h=>h)).trans c.fr⟩ (ar _),q,r⟩
end Go.Ab
namespace Go.Ab
open Go
variable [B5]
mutual
def AV.nilz:AV->AV
 | .sc (.slice none 0 0)=>.rs []
 | .rs es=>.rs (qh0 es)
 | .agg cs=>.agg (kn0 cs)
 | .tup cs=>.tup (kn0 cs)
 | v=>v
def kn0:List AV->List AV
 | []=>[]
 | c::cs=>c.nilz::kn0 cs
def qh0:List (List AV)->List (List AV)
 | []=>[]
 | c::cs=>kn0 c::qh0 cs
end
theorem cl0:∀ l,kn0 l=l.map AV.nilz
 | []=>by simp[kn0]
 | c::cs=>by simp[kn0,cl0 cs]
theorem oj0:∀ l,qh0 l=l.map (bP AV.nilz)
 | []=>by simp[qh0]
 | c::cs=>by simp[qh0,cl0,oj0 cs]
mutual
theorem dl0{G:c9}{θ:Nat->AV}:∀ (v:AV) (u:Value),Rep G (v.sub θ) u->Rep G (v.nilz.sub θ) u
 | .sc v,u,h=>by
  by_cases hv:v=.slice none 0 0
  ·subst hv
   simp only[AV.sub]at h;cases h;simp only[AV.nilz,AV.sub,dP0];exact .rsNil
  have:(AV.sc v).nilz=.sc v:=by
   unfold AV.nilz;split
   ·rename_i e;cases e;exact(hv rfl).elim
   ·rename_i e;cases e
   ·rename_i e;cases e
   ·rename_i e;cases e
   rfl
  rw[this];exact h
 | .rs es,u,h=>by
  have d:=la0 (G:=G) (θ:=θ) es;simp only[AV.nilz,AV.sub,bo0,oj0]at h ⊢;generalize g:es.map (bP (AV.sub θ))=xs at h;cases h with
  | rsNil=>
   have:es=[]:=by simpa using g
   subst this;exact .rsNil
  | rs _ a cap size val hs hc hlen himm hrep=>
   subst g;have hl:(es.map (bP (AV.sub θ))).length=((es.map (bP AV.nilz)).map (bP (AV.sub θ))).length:=by simp
   rw[hl];refine .rs _ a cap size val hs (by rw[<- hl];exact hc) (fun i hi=>?_) (fun i j hi hj=>himm i j (by rw[hl];exact hi) hj) (fun i j hi hj=>?_)
   ·have:=hlen i (by rw[hl];exact hi)
    simpa using this
   have b:i<es.length:=by simpa using hi
   have f:j<es[i].length:=by simpa using hj
   have:=hrep i j (by simpa using b) (by simpa using f);simp only[cd]at this ⊢;exact d _ (aq b) _ (aq f) _ this
 | .agg cs,u,h=>by
  have d:=eB0 (G:=G) (θ:=θ) cs;simp only[AV.nilz,AV.sub,I3,cl0]at h ⊢;cases h with
  | agg _ vs h1 h2=>
   refine .agg _ vs (by simpa using h1) (fun i hi b=>?_);have c:i<cs.length:=by simpa using hi
   have:=h2 i (by simpa using c) b;simp only[cd]at this ⊢;exact d _ (aq c) _ this
 | .tup cs,u,h=>by
  have d:=eB0 (G:=G) (θ:=θ) cs;simp only[AV.nilz,AV.sub,I3,cl0]at h ⊢;cases h with
  | tup _ vs h1 h2=>
   refine .tup _ vs (by simpa using h1) (fun i hi b=>?_);have c:i<cs.length:=by simpa using hi
   have:=h2 i (by simpa using c) b;simp only[cd]at this ⊢;exact d _ (aq c) _ this
 | .any,u,h=>h
 | .rp _,u,h=>h
 | .ms _ _ _ _,u,h=>h
 | .mp _ _ _,u,h=>h
 | .mm _,u,h=>h
 | .it _,u,h=>h
 | .fn _ _ _,u,h=>h
 | .sy _,u,h=>h
 | .ss _ _ _,u,h=>h
 | .xp _ _ _,u,h=>h
 | .xs _ _ _ _,u,h=>h
 | .rm _,u,h=>h
theorem eB0{G:c9}{θ:Nat->AV}:∀ (l:List AV) (v:AV),v∈l->∀ u,Rep G (v.sub θ) u->Rep G (v.nilz.sub θ) u
 | [],_,hv,_,_=>by simp at hv
 | c::cs,v,hv,u,h=>by
  rcases aC.1 hv with e | hv
  ·rw[e]at h ⊢;exact dl0 c u h
  exact eB0 cs v hv u h
theorem la0{G:c9}{θ:Nat->AV}:∀ (l:List (List AV)) (r:List AV),r∈l->∀ v,v∈r->∀ u,Rep G (v.sub θ) u->Rep G (v.nilz.sub θ) u
 | [],_,a,_,_,_,_=>by simp at a
 | c::cs,r,a,v,hv,u,h=>by
  rcases aC.1 a with e | a
  ·rw[e]at hv;exact eB0 c v hv u h
  exact la0 cs r a v hv u h
end
inductive RO where
 | bin (o:BinOp) (t:TypeId) (x y:AV)
 | un (o:UnOp) (x:AV)
 | conv (s d:TypeId) (x:AV)
 | pick (c a b:AV)
 | idx (t:TypeId) (x i:AV)
 | index (t:TypeId) (x i:AV)
 | slc (t:TypeId) (x:AV) (lo hi:Option AV)
 | len (t:TypeId) (x:AV)
 | mx (l:List AV)
 | mn (l:List AV)
 | cat (sT xT:TypeId) (x y:AV)
 | call (f:FuncId) (args:List AV) (flat:Bool)
 | rows (l:List Nat)
 | look (t:TypeId) (c ix:AV) (ok:Bool)
 | lookr (t:TypeId) (x ix:AV) (ok:Bool)
 | mput (t:TypeId) (c ix v:AV)
 | mlen (t:TypeId) (c:AV)
 | nop
 | inb (t:TypeId) (c i:AV)
 | xld (t e:TypeId) (z:Nat) (c i:AV) (off:Nat)
 | xst (t e:TypeId) (z:Nat) (c i:AV) (off:Nat) (v:AV)
 | isp (x:AV)
 | opn (n:Nat) (x:AV)
 | zer (sT:TypeId) (x:AV)
 | gl (t:TypeId) (g:Nat)
 | xin (c i:AV) (off:Nat)
 | iss (x:AV)
 | more (s p:AV)
 | sdec (s p:AV)
 | ownr (cols:bE0) (x:AV)
 | tail (t:TypeId) (z:Nat) (c lo:AV)
 | tke (t:TypeId) (z:Nat) (c c' hi:AV)
 | cut (t e:TypeId) (z:Nat) (c o l:AV)
 | nng (l:AV)
 | ixx (t:TypeId) (o l i:AV)
 | mks (t:TypeId) (n:AV)
 | cpy (t e:TypeId) (z:Nat) (c y:AV)
 | hask (t:TypeId) (x ix:AV)
abbrev G6:=FuncId->Option (List AV->Option AV)
abbrev XT:Nat:=1000000
def tX0(P:Program)(f:FuncId)(φ:List AV->Option AV):Prop:=∀ v z rest c,φ (v::.sc (.int .i64 (z:Nat))::rest)=some c->∃ es a,v=.rs es/\c=.rs a/\a.length=es.length /\
 ∀ σ id e restv,σ.objs id=some (.row e z es)->(∀ G vs w,B6 G restv vs->Rel G (σ.del id) w->B6 (G.frozen (σ.del id) w (fun _=>none)) rest vs) ->
  F3 P f (.ms id z 0 es.length::restv) σ (fun v σ'=>v=.tup []/\σ'=σ.set id (.row e z a))
abbrev XR:Nat:=2000000
def yn0(P:Program)(f:FuncId)(φ:List AV->Option AV):Prop:=∀ args c,φ args=some c->∃ es,c=.rs es/\∀ T fn t elem ti a,B7 P T->P.funcs[f]?=some fn->fn.resultTypes.toList=[t]->T t=some ti->ti.und=.slice elem->T elem=some a ->
 ∀ σ:c8,F3 P f args σ (fun v σ'=>v=.ms (σ.next+5) a.size 0 es.length/\σ'={ σ with next:=σ.next+7 }.set (σ.next+5) (.row elem a.size es))
structure ir0(P:Program)(Φ:G6):Prop where
 memo:∀ f φ,f<XT->Φ f=some φ->∀ args c,φ args=some c->J1 P ⟨f,args,c⟩
 sort:∀ f φ,f<XT->Φ (XT+f)=some φ->tX0 P f φ
 row:∀ f φ,Φ (XR+f)=some φ->yn0 P f φ
def G6.srt(Φ:G6)(f:FuncId):Option (List AV->Option AV):=match bY f XT with
 | true=>Φ (XT+f)
 | false=>none
def G6.fn(Φ:G6)(f:FuncId):Option (List AV->Option AV):=match bY f XT with
 | true=>Φ f
 | false=>none
def fnTold(Φ:G6):AV->Bool
 | .fn (.func g) _ _=>(Φ.fn g).isSome
 | .fn _ _ _=>false
 | _=>true
def G6.at(Φ:G6)(f:FuncId)(args:List AV):Option (List AV->Option AV):=match args.all (fnTold Φ)with
 | true=>Φ.fn f
 | false=>none
theorem G6.at_fn{Φ:G6}{f:FuncId}{args:List AV}{φ:List AV->Option AV}(h:Φ.at f args=some φ):Φ.fn f=some φ:=by grind [G6.at]
theorem G6.fn_eq{Φ:G6}{f:FuncId}{φ:List AV->Option AV}(h:Φ.fn f=some φ):f<XT/\Φ f=some φ:=by
 unfold G6.fn at h;split at h
 ·rename_i a;exact⟨by simpa using a,h⟩
 cases h
def tb0(T:Tab)(sT xT:TypeId)(a b:AV):Option AV :=
 match T sT,T xT with
 | some { und:=.slice elem,.. },some e=>
  match T elem with
  | some d=>match a,b with
   | .rs es,.rs xs=>if e.isInt=false/\(xs.all fun c=>c.length==d.size&&c.all AV.one)=true/\(2*(es.length+xs.length)+1000)*d.bytes<=2^48/\es.length+xs.length<=2^62/\0<d.size then
     some (.rs (es++xs))else none
   | _,_=>none
  | none=>none
 | _,_=>none
def dw0(c:AV):c8:=c8.none.set 0 (R1 c)
def nV0(b:Bool)(l:List Int):List AV->Bool
 | r=>cI0 b l (D4 0 r).1
def R4(k v:AV)(b:Bool)(l:List Int):List (List AV)->List (List AV)
 | []=>[[k,v]]
 | r::rs=>match nV0 b l r with
  | true=>[k,v]::rs
  | false=>r::R4 k v b l rs
def gV0:j5->Option AV
 | .xmap c=>some c
 | .map false [] 0=>some (.rs [])
 | _=>none
theorem jq0(i j:Nat)(r:List AV):(D4 i r).1=(D4 j r).1:=by unfold D4;split<;>rfl
theorem fA0(b:Bool)(l:List Int):∀ (es:List (List Int×AV×Nat)) (k:Nat),I5 b l es (k+1)=(I5 b l es k).map (fun p=>(p.1+1,p.2))
 | [],_=>rfl
 | e::es,k=>by
  simp only[I5];split
  ·rfl
  exact fA0 b l es (k+1)
theorem ox0{ix v:AV}{b:Bool}{l:List Int}(hk:ix.key=some (b,l)):∀ (rs:List (List AV)) (j:Nat),u7 j (R4 ix v b l rs)=(mput b l v (j+rs.length) (u7 j rs)).1
 | [],j=>by simp[R4,u7,D4,hk,mput,I5]
 | r::rs,j=>by
  have a:=ox0 (v:=v) hk rs (j+1);simp only[R4,nV0,u7];have e0:cI0 b l (D4 j r).1=cI0 b l (D4 0 r).1:=by rw[jq0 j 0]
  split
  ·rename_i hc
   have e2:D4 j [ix,v]=(l,v,j):=by simp[D4,hk]
   have e3:=hq0 j r;simp only[u7,e2];generalize D4 j r=q at e0 e3;simp[mput,I5,e0,hc,e3]
  rename_i hc;simp only[u7,a];have e1:j+1+rs.length=j+(rs.length+1):=by omega
  simp only[mput,I5,e0,hc,au,Ah,ax,e1];rw[fA0];cases I5 b l (u7 (j+1) rs) 0 with
  | none=>simp
  | some p=>simp
theorem qD0{ix v:AV}{b:Bool}{l:List Int}:∀ (rs:List (List AV)) (j:Nat),(R4 ix v b l rs).length=(mput b l v rs.length (u7 j rs)).2
 | [],j=>by simp[R4,mput,I5,u7]
 | r::rs,j=>by
  have a:=qD0 (ix:=ix) (v:=v) (b:=b) (l:=l) rs (j+1);simp only[R4,nV0,u7];have e0:cI0 b l (D4 j r).1=cI0 b l (D4 0 r).1:=by rw[jq0 j 0]
  split
  ·rename_i hc
   simp[mput,I5,e0,hc]
  rename_i hc;simp only[ax,a];simp only[mput,I5,e0,hc,au,Ah,ax];rw[fA0];cases I5 b l (u7 (j+1) rs) 0 with
  | none=>simp
  | some p=>simp
theorem iM0{T:Tab}{σ:c8}{id:Nat}{c ix v:AV}{t:TypeId}{b:Bool}{l:List Int}(g:σ.objs id=some (R1 c))(hk:ix.key=some (b,l)){d:c8}(h:B9 T (dw0 c) t (.mm 0) ix v=some d) :
  B9 T σ t (.mm id) ix v=some (σ.set id (R1 (.rs (R4 ix v b l (rowsOf c))))):=by
 have e:(dw0 c).objs 0=some (R1 c):=by simp[dw0,c8.objs_set]
 unfold B9 at h ⊢;split at h
 ·rename_i j k _ _ _ _ m n i a
  rw[hk]at a;cases a;simp only[e,R1]at h;simp only[i,hk,g,R1];split at h
  ·rename_i hc
   rw[Af hc];have o:rowsOf c=[]:=by have:=hc.1;cases p:rowsOf c<;>grind [rowsOf,u7]
   grind [rowsOf,R4,bp0,u7,D4]
  rename_i hc;rw[Ae hc];split at h
  ·rename_i f
   rw[Af f];have e9:∀ es:List (List AV),rowsOf (.rs es)=es:=fun _=>rfl;have e1:=ox0 (v:=v) hk (rowsOf c) 0;have e2:=qD0 (ix:=ix) (v:=v) (b:=b) (l:=l) (rowsOf c) 0;simp only[aG]at e1;simp only[e9];generalize rowsOf c=rs at *;rw[e1,e2];have e3:bp0 rs=bp0 (R4 ix v b l rs):=by
    cases rs with
    | nil=>grind [bp0,R4]
    | cons r rs=>
     simp only[R4];split
     ·grind [bp0]
     unfold bp0
     grind [absurd]
   rw[<- e3]
  cases h
 cases h
def ah0(e:TypeId)(z:Nat)(c:AV):c8:=c8.none.set 0 (.row e z (rowsOf c))
def isRs:AV->Bool
 | .rs _=>true
 | _=>false
def wn0(T:Tab)(sT:TypeId)(x:AV):Option AV :=
 match T sT with
 | some { und:=.slice elem,.. }=>match T elem with
  | some a=>match x with
   | .sc (.int _ n)=>if IntKind.i64.wrap n=n/\0<n/\(2*n.toNat+1000)*a.bytes<=2^48/\n.toNat<=2^62/\0<a.size then
     some (.rs (List.replicate n.toNat a.zeroCells))else none
   | _=>none
  | none=>none
 | _=>none
def oh0(T:Tab)(t:TypeId):Nat:=match T t with
 | some { und:=.slice el,.. }=>(match T el with
  | some a=>a.size
  | none=>0)
 | _=>0
def sp0(σ:c8):Option AV:=match σ.objs 0 with
 | some (.row _ _ es)=>some (.rs es)
 | _=>none
def j4(T:Tab)(Φ:G6)(θ:Nat->AV):RO->Option AV
 | .bin o t x y=>iR0 T o t (x.sub θ) (y.sub θ)
 | .un o x=>aUn o (x.sub θ)
 | .conv s d x=>jE0 T s d (x.sub θ)
 | .pick c a b=>match c.sub θ with
  | .sc (.bool t)=>some (if t then a.sub θ else b.sub θ)
  | _=>none
 | .idx t x i=>A6 T t (x.sub θ) (i.sub θ)
 | .index t x i=>cE0 T t (x.sub θ) (i.sub θ)
 | .slc t x lo hi=>R6 T t (x.sub θ) (lo.map (AV.sub θ)) (hi.map (AV.sub θ)) none
 | .len t x=>gb0 T c8.none t (x.sub θ)
 | .mx l=>(vy0 (l.map (AV.sub θ))).map .sc
 | .mn l=>(vq0 (l.map (AV.sub θ))).map .sc
 | .cat sT xT x y=>tb0 T sT xT (x.sub θ) (y.sub θ)
 | .call f args flat=>match Φ f with
  | some φ=>match φ (args.map (AV.sub θ))with
   | some c=>if flat=true->oY0 c=true then some c else none
   | none=>none
  | none=>none
 | .rows l=>match l.all (fun j=>match θ j with | .rs _=>true | _=>false)with
  | true=>some (.sc (.bool true))
  | false=>none
 | .look t c ix ok=>E5 T (dw0 (c.sub θ)) t (.mm 0) (ix.sub θ) ok
 | .lookr t x ix ok=>E5 T c8.none t (x.sub θ) (ix.sub θ) ok
 | .mput t c ix v=>match B9 T (dw0 (c.sub θ)) t (.mm 0) (ix.sub θ) (v.sub θ)with
  | some _=>match (ix.sub θ).key with
   | some (b,l)=>some (.rs (R4 (ix.sub θ) (v.sub θ) b l (rowsOf (c.sub θ))))
   | none=>none
  | none=>none
 | .mlen t c=>gb0 T (dw0 (c.sub θ)) t (.mm 0)
 | .nop=>some (.sc (.bool true))
 | .isp x=>match x.sub θ with
  | .rp _=>some (.sc (.bool true))
  | _=>none
 | .zer sT x=>wn0 T sT (x.sub θ)
 | .gl t g=>qb0 T t g
 | .iss x=>match x.sub θ with
  | .sc (.string _)=>some (.sc (.bool true))
  | _=>none
 | .more s p=>match s.sub θ with
  | .sc (.string b)=>match p.sub θ with
   | .sc (.int .i64 n)=>some (.sc (.bool (decide (n.toNat<b.size))))
   | _=>none
  | _=>none
 | .ownr cols x=>match x.sub θ with
  | .rs rows=>match wo0 cols rows with
   | true=>some (.rs (rows.map (K4 cols 0)))
   | false=>none
  | _=>none
 | .sdec s p=>match s.sub θ with
  | .sc (.string b)=>match p.sub θ with
   | .sc (.int .i64 n)=>match decide (n.toNat<b.size)with
    | true=>some (.tup [.sc (.int .i64 n.toNat),.sc (.int .i32 (bS b n.toNat).1),.sc (.int .i64 (n.toNat+(bS b n.toNat).2:Nat))])
    | false=>none
   | _=>none
  | _=>none
 | .xin c i off=>match (rowsOf (c.sub θ))[Q5 (i.sub θ)]? with
  | some r=>match bY off r.length with
   | true=>some (.sc (.bool true))
   | false=>none
  | none=>none
 | .opn n x=>match x.sub θ with
  | .rp cs=>match aA cs.length n with
   | true=>some (.rp cs)
   | false=>none
  | _=>none
 | .tail t z c lo=>match R6 T t (.ms 0 z 0 (rowsOf (c.sub θ)).length) (some (lo.sub θ)) none none with
  | some (.ms _ _ o l)=>some (.tup [.sc (.int .i64 o),.sc (.int .i64 l)])
  | _=>none
 | .tke t z c c' hi=>match R6 T t (.ms 0 z 0 (rowsOf (c.sub θ)).length) none (some (hi.sub θ)) none with
  | some (.ms _ _ o l)=>match aA o 0&&aA l (rowsOf (c'.sub θ)).length with
   | true=>some (.sc (.bool true))
   | false=>none
  | _=>none
 | .cut t e z c o l=>(mX0 T (ah0 e z (c.sub θ)) t (.ms 0 z (Q5 (o.sub θ)) (Q5 (l.sub θ)))).bind sp0
 | .nng l=>match l.sub θ with
  | .sc (.int .i64 n)=>match decide (0<=n)with
   | true=>some (.sc (.bool true))
   | false=>none
  | _=>none
 | .ixx t o l i=>match A6 T t (.ms 0 (oh0 T t) (Q5 (o.sub θ)) (Q5 (l.sub θ))) (i.sub θ)with
  | some (.mp _ k _)=>some (.sc (.int .i64 k))
  | _=>none
 | .hask t x ix=>match E5 T c8.none t (x.sub θ) (ix.sub θ) true with
  | some (.tup [_,.sc (.bool b)])=>some (.sc (.bool b))
  | _=>none
 | .mks t n=>(mK0 T c8.none 0 t (n.sub θ) (n.sub θ)).bind fun p=>sp0 p.2
 | .cpy t e z c y=>match isRs (y.sub θ)with
  | true=>(dx0 T (ah0 e z (c.sub θ)) t (.ms 0 z 0 (rowsOf (c.sub θ)).length) (y.sub θ)).bind sp0
  | false=>none
 | .inb t c i=>match A6 T t (.ms 0 (match T t with | some { und:=.slice el,.. }=>(match T el with | some h=>h.size | none=>0) | _=>0) 0 (rowsOf (c.sub θ)).length) (i.sub θ)with
  | some _=>some (.sc (.bool true))
  | none=>none
 | .xld t e z c i off=>W8 T (ah0 e z (c.sub θ)) t (.mp 0 (Q5 (i.sub θ)) off)
 | .xst t e z c i off v=>match X2 T (ah0 e z (c.sub θ)) t (.mp 0 (Q5 (i.sub θ)) off) (v.sub θ)with
  | some σ=>match σ.objs 0 with
   | some (.row _ _ es)=>match aA es.length (rowsOf (c.sub θ)).length with
    | true=>some (.rs es)
    | false=>none
   | _=>none
  | none=>none
def al0:Tr j5->List Nat
 | .leaf=>[]
 | .node v l r=>(match v with | some (.xrow _ _ j)=>[j] | some (.xmap (.sy j))=>[j] | _=>[])++(al0 l++al0 r)
inductive RT where
 | stuck
 | ret (c:AV) (l:List Nat)
 | op (o:RO) (fr:Nat) (pat:AV) (r:RT)
 | test (i:Nat) (a b:RT)
 | loop (l k:Nat) (inits:List AV) (body:RT)
 | again (l:Nat) (vals:List AV)
def E1(T:Tab)(Φ:G6)(Q:AV->Prop):RT->(Nat->AV)->(Nat->List AV->Prop)->Prop
 | .stuck,_,_=>False
 | .ret c l,θ,_=>(∀ j∈l,∃ es,θ j=.rs es)/\Q (c.sub θ)
 | .op o fr pat r,θ,A=>∃ d,(∀ i,i<fr->d i=θ i)/\Fit d/\j4 T Φ θ o=some (pat.sub d)/\E1 T Φ Q r d A
 | .test i a b,θ,A=>(θ i=.sc (.bool true)/\E1 T Φ Q a θ A)\/(θ i=.sc (.bool false)/\E1 T Φ Q b θ A)
 | .loop l k inits body,θ,A=>∃ I:Nat->List AV->Prop,(∃ n,I n (inits.map (AV.sub θ)))/\∀ n vals,I n vals->vals.length=k->(∀ v∈vals,am0 v) ->
   ∀ d,(∀ i,i<l->d i=θ i)->(∀ j (h:j<vals.length),d (l+j)=vals[j])->d (l+k)=.sc (.bool false)->Fit d->E1 T Φ Q body d (fun f=>if f=l then (fun e=>∃ m,m<n/\I m e)else A f)
 | .again l vals,θ,A=>A l (vals.map (AV.sub θ))
def bm0(fr:Nat):Nat->List AV
 | 0=>[]
 | n+1=>.sy fr::bm0 (fr+1) n
def uN0(T:Tab)(t:TypeId)(fr:Nat):Option (AV×Nat) :=
 match T t with
 | some ti=>if ti.isAgg then some (.agg (bm0 fr ti.size),fr+ti.size)else some (.sy fr,fr+1)
 | none=>none
def patL(T:Tab):List TypeId->Nat->Option (List AV×Nat)
 | [],fr=>some ([],fr)
 | t::ts,fr=>match uN0 T t fr with
  | some (p,a)=>match patL T ts a with
   | some (c,b)=>some (p::c,b)
   | none=>none
  | none=>none
def patOf(T:Tab)(ts:List TypeId)(fr:Nat):Option (AV×Nat) :=
 match ts with
 | [t]=>uN0 T t fr
 | ts=>match patL T ts fr with
  | some (b,a)=>some (.tup b,a)
  | none=>none
def xF0(σ:c8)(elem:TypeId)(size:Nat):AV->Option (Option Nat×AV)
 | .sc (.slice none 0 0)=>some (none,.rs [])
 | .ms id _ 0 len=>match σ.objs id with
  | some (.row e a es)=>if len=es.length/\a=size/\e=elem then some (some id,.rs es)else none
  | _=>none
 | .ss id _ i=>match σ.objs id with
  | some (.xrow e a j)=>if j=i/\a=size/\e=elem then some (some id,.sy j)else none
  | _=>none
 | _=>none
def ssrc(σ:c8):AV->Option AV
 | .sc (.slice none 0 0)=>some (.rs [])
 | .sy i=>some (.sy i)
 | .rs es=>some (.rs es)
 | .ms id _ off len=>match σ.objs id with
  | some (.row _ _ es)=>if off+len<=es.length then some (.rs ((es.drop off).take len))else none
  | _=>none
 | .ss id _ i=>match σ.objs id with
  | some (.xrow _ _ j)=>if j=i then some (.sy j)else none
  | _=>none
 | _=>none
def isSyRs:AV->Bool
 | .sy _=>true
 | .rs _=>true
 | _=>false
def sApp(T:Tab)(σ:c8)(id:Nat)(sT xT:TypeId)(a c:AV)(fr:Nat):Option (RO×AV×AV×c8×Nat) :=
 match T sT with
 | some { und:=.slice elem,.. }=>match T elem with
  | some b=>match xF0 σ elem b.size a,ssrc σ c with
   | some (d,x),some y=>some (.cat sT xT x y,.sy fr,.ss id b.size fr,(match d with | some i=>σ.del i | none=>σ).set id (.xrow elem b.size fr),fr+1)
   | _,_=>none
  | none=>none
 | _=>none
def sZer(T:Tab)(σ:c8)(id:Nat)(sT:TypeId)(a c:AV)(fr:Nat):Option (RO×AV×AV×c8×Nat) :=
 match T sT with
 | some { und:=.slice elem,.. }=>match T elem with
  | some b=>match a with
   | .sc (.slice none 0 0)=>some (.zer sT c,.sy fr,.ss id b.size fr,σ.set id (.xrow elem b.size fr),fr+1)
   | _=>none
  | none=>none
 | _=>none
def src0(σ:c8)(i:Nat)(c:AV):Option AV:=match isSyRs c with
 | true=>some c
 | false=>match c with
  | .ms i2 z o l=>match aA i2 i with
   | true=>none
   | false=>ssrc σ (.ms i2 z o l)
  | _=>none
def wt0(T:Tab)(σ:c8)(id:Nat)(sT xT:TypeId)(a c:AV)(fr:Nat):Option (RO×AV×AV×c8×Nat) :=
 match T sT with
 | some { und:=.slice elem,.. }=>match T elem with
  | some b=>match a with
   | .ms i _ 0 0=>match σ.objs i with
    | some (.xrow e d _)=>match aA d b.size&&aA e elem,src0 σ i c with
     | true,some y=>some (.cat sT xT (.rs []) y,.sy fr,.ss id b.size fr,(σ.del i).set id (.xrow elem b.size fr),fr+1)
     | _,_=>none
    | _=>none
   | _=>none
  | none=>none
 | _=>none
def rA0(T:Tab)(σ:c8)(id:Nat)(b:Builtin)(ts:List TypeId)(args:List AV)(fr:Nat):Option (RO×AV×AV×c8×Nat) :=
 match b,ts,args with
 | .len,[t],[.sy i]=>some (.len t (.sy i),.sy fr,.sy fr,σ,fr+1)
 | .len,[t],[.ss _ _ i]=>match T t with
  | some { und:=.slice _,.. }=>some (.len t (.sy i),.sy fr,.sy fr,σ,fr+1)
  | _=>none
 | .max,_,l=>some (.mx l,.sy fr,.sy fr,σ,fr+1)
 | .min,_,l=>some (.mn l,.sy fr,.sy fr,σ,fr+1)
 | .append,[s,x],[a,c]=>match T x with
  | some { und:=.int _,.. }=>sZer T σ id s a c fr
  | _=>match wt0 T σ id s x a c fr with
   | some q=>some q
   | none=>sApp T σ id s x a c fr
 | .len,[t],[.xs _ _ _ l]=>match T t with
  | some { und:=.slice _,.. }=>some (.nng l,.sc (.bool true),l,σ,fr)
  | _=>none
 | .clear,[t],[.xs id z o l]=>match σ.objs id with
  | some (.xrow e d j)=>match aA z d with
   | true=>some (.cut t e z (.sy j) o l,.sy fr,.sc (.tuple #[]),σ.set id (.xrow e z fr),fr+1)
   | false=>none
  | _=>none
 | .len,[t],[.mm m]=>match (σ.objs m).bind gV0 with
  | some c=>some (.mlen t c,.sy fr,.sy fr,σ,fr+1)
  | none=>none
 | _,_,_=>none
def gy0(σ:c8)(t:TypeId)(m k x:AV)(fr:Nat):Option (RO×AV×AV×c8×Nat) :=
 match m with
 | .mm id=>match (σ.objs id).bind gV0 with
  | some c=>some (.mput t c k x,.sy fr,.sc undef,σ.set id (.xmap (.sy fr)),fr+1)
  | none=>none
 | _=>none
def ku0:AV->Option (Nat×AV×Nat)
 | .xp id k off=>some (id,.sy k,off)
 | .mp id i off=>some (id,.sc (.int .i64 i),off)
 | _=>none
def isGlob(a:Operand->AV):Op->Bool
 | .load _ x=>(cF0 (a x)).isSome
 | _=>false
def aopX(T:Tab)(a:Operand->AV)(σ:c8)(id:Nat)(op:Op):Option (AV×c8):=match isGlob a op with
 | true=>none
 | false=>aop T a σ id op
theorem sn0{T:Tab}{a:Operand->AV}{σ:c8}{id:Nat}{op:Op}{r:AV×c8}(h:aopX T a σ id op=some r):aop T a σ id op=some r:=by grind [aopX]
def sO0(T:Tab)(h:Operand->AV)(σ:c8)(id:Nat)(op:Op)(fr:Nat):Option (RO×AV×AV×c8×Nat) :=
 match op with
 | .binOp o t x y _=>some (.bin o t (h x) (h y),.sy fr,.sy fr,σ,fr+1)
 | .unOp o _ x=>some (.un o (h x),.sy fr,.sy fr,σ,fr+1)
 | .convert s d x=>some (.conv s d (h x),.sy fr,.sy fr,σ,fr+1)
 | .pick c a b=>some (.pick (h c) (h a) (h b),.sy fr,.sy fr,σ,fr+1)
 | .nilCheck x=>match h x with
  | .xp id k off=>some (.nop,.sc (.bool true),.xp id k off,σ,fr)
  | .sy i=>some (.isp (.sy i),.sc (.bool true),.sy i,σ,fr)
  | _=>none
 | .fieldAddr t x f=>match h x,T t with
  | .xp id k off,some { und:=.struct fields,.. }=>match fields[f]? with
   | some fd=>match T fd.type with
    | some C=>match aA C.size 0 with
     | true=>none
     | false=>some (.nop,.sc (.bool true),.xp id k (off+fd.offset),σ,fr)
    | none=>none
   | none=>none
  | .sy i,some ti=>match N5 T t (.rp (bm0 fr ti.size)) f with
   | some v=>some (.opn ti.size (.sy i),.rp (bm0 fr ti.size),v,σ,fr+ti.size)
   | none=>none
  | _,_=>none
 | .load t x=>match cF0 (h x)with
  | some g=>(match uN0 T t fr with
   | some (p,r)=>some (.gl t g,p,p,σ,r)
   | none=>none)
  | none=>match ku0 (h x)with
  | some (id,i,off)=>match σ.objs id,uN0 T t fr with
   | some (.xrow e z j),some (p,r)=>some (.xld t e z (.sy j) i off,p,p,σ,r)
   | some (.frow e z c cols k u v),some (p,r)=>match T t with
    | some ti=>match ti.isAgg with
     | true=>none
     | false=>match aA off u with
      | true=>match v,rmB i k with
       | some v0,true=>some (.xin c i off,.sc (.bool true),v0,σ,fr)
       | _,_=>none
      | false=>match cols.all (fun q=>!Nat.beq q.1 off)with
       | true=>some (.xld t e z c i off,p,p,σ,r)
       | false=>none
    | none=>none
   | _,_=>none
  | none=>match h x,T t with
   | .sy i,some ti=>match W8 T c8.none t (.rp (bm0 fr ti.size))with
    | some v=>some (.opn ti.size (.sy i),.rp (bm0 fr ti.size),v,σ,fr+ti.size)
    | none=>none
   | _,_=>none
 | .store t a x=>match ku0 (h a),T t,h x with
  | some (id,i,off),some ti,.ss m D j=>match σ.objs id with
   | some (.frow e z c cols k u (some _))=>match aA ti.size 1&&aA off u&&rmB i k with
    | true=>some (.xin c i off,.sc (.bool true),.sc undef,σ.set id (.frow e z c cols k u (some (.ss m D j))),fr)
    | false=>none
   | _=>none
  | _,_,_=>none
 | .indexAddr t x i=>match T t with
  | some { und:=.slice elem,.. }=>match T elem with
   | some w=>match h x with
    | .ss id z j=>match aA z w.size with
     | true=>match h i with
      | .sy k=>some (.inb t (.sy j) (.sy k),.sc (.bool true),.xp id k 0,σ,fr)
      | .sc (.int E n)=>some (.inb t (.sy j) (.sc (.int E n)),.sc (.bool true),.mp id n.toNat 0,σ,fr)
      | _=>none
     | false=>none
    | .xs id z o l=>match aA z w.size with
     | true=>some (.ixx t o l (h i),.sy fr,.xp id fr 0,σ,fr+1)
     | false=>none
    | _=>some (.idx t (h x) (h i),.rp (bm0 fr w.size),.rp (bm0 fr w.size),σ,fr+w.size)
   | none=>none
  | _=>none
 | .index t x i=>match T t with
  | some { und:=.array _ e,.. }=>match uN0 T e fr with
   | some (p,r)=>some (.index t (h x) (h i),p,p,σ,r)
   | none=>none
  | _=>some (.index t (h x) (h i),.sy fr,.sy fr,σ,fr+1)
 | .slice t x lo hi none=>match T t,h x,lo.map h,hi.map h with
  | some { und:=.slice elem,.. },.ss id z _,none,some (.sc (.int _ 0))=>match T elem with
   | some w=>match aA z w.size with
    | true=>some (.nop,.sc (.bool true),.ms id z 0 0,σ,fr)
    | false=>none
   | none=>none
  | some { und:=.slice _,.. },.ss id z j,some G,none=>some (.tail t z (.sy j) G,.tup [.sy fr,.sy (fr+1)],.xs id z (.sy fr) (.sy (fr+1)),σ,fr+2)
  | some { und:=.slice _,.. },.ss _ _ _,none,some _=>none
  | _,_,_,_=>some (.slc t (h x) (lo.map h) (hi.map h),.sy fr,.sy fr,σ,fr+1)
 | .makeSlice t n c=>match eqX (h n) (h c),T t with
  | true,some { und:=.slice elem,.. }=>match T elem with
   | some w=>some (.mks t (h n),.sy fr,.ss id w.size fr,σ.set id (.xrow elem w.size fr),fr+1)
   | none=>none
  | _,_=>none
 | .call { callee:=.builtin b,args,argTypes }=>rA0 T σ id b argTypes.toList (args.toList.map h) fr
 | .lookup t x i ok=>match T t,h x with
  | some { und:=.map _ B,.. },.mm m=>match (σ.objs m).bind gV0 with
   | some c=>match uN0 T B fr with
    | some (p,r)=>match ok with
     | true=>some (.look t c (h i) true,.tup [p,.sy r],.tup [p,.sy r],σ,r+1)
     | false=>some (.look t c (h i) false,p,p,σ,r)
    | none=>none
   | none=>none
  | some { und:=.map _ B,.. },.sy m=>match uN0 T B fr with
   | some (p,r)=>match ok with
    | true=>some (.lookr t (.sy m) (h i) true,.tup [p,.sy r],.tup [p,.sy r],σ,r+1)
    | false=>some (.lookr t (.sy m) (h i) false,p,p,σ,r)
   | none=>none
  | some { und:=.map _ B,.. },.rm c=>match uN0 T B fr with
   | some (p,r)=>match ok with
    | true=>some (.lookr t (.rm c) (h i) true,.tup [p,.sy r],.tup [p,.sy r],σ,r+1)
    | false=>some (.lookr t (.rm c) (h i) false,p,p,σ,r)
   | none=>none
  | _,_=>none
 | .mapUpdate t m k x=>gy0 σ t (h m) (h k) (h x) fr
 | .insert t m k x=>gy0 σ t (h m) (h k) (h x) fr
 | _=>none
mutual
def AV.contP:AV->Bool
 | .sc _=>true
 | .sy _=>true
 | .rs es=>qK0 es
 | .rp cs=>dz0 cs
 | .rm c=>c.contP
 | .fn _ a c=>dz0 a&&dz0 c
 | .agg cs=>dz0 cs
 | .tup cs=>dz0 cs
 | _=>false
def dz0:List AV->Bool
 | []=>true
 | c::cs=>c.contP&&dz0 cs
def qK0:List (List AV)->Bool
 | []=>true
 | c::cs=>dz0 c&&qK0 cs
end
def ak0(σ:c8):Nat->AV->Option AV
 | 0,_=>none
 | k+1,v=>match v.contP with
  | true=>some v
  | false=>match v with
   | .agg cs=>match od0 (ak0 σ k) cs with
    | some l=>some (.agg l)
    | none=>none
   | .tup cs=>match od0 (ak0 σ k) cs with
    | some l=>some (.tup l)
    | none=>none
   | .ms id _ off len=>match σ.objs id with
    | some (.row _ _ es)=>if off+len<=es.length then
      match mapR (ak0 σ k) ((es.drop off).take len)with
      | some l=>some (.rs l)
      | none=>none else none
    | _=>none
   | .ss id _ i=>match σ.objs id with
    | some (.xrow _ _ j)=>if j=i then some (.sy j)else none
    | _=>none
   | .mp id 0 0=>match σ.objs id with
    | some (.row _ _ [cs])=>match od0 (ak0 σ k) cs with
     | some l=>some (.rp l)
     | none=>none
    | _=>none
   | .mm id=>match σ.objs id with
    | some (.xmap (.sy j))=>some (.rm (.sy j))
    | some (.map false [] 0)=>some (.rm (.rs []))
    | _=>none
   | .fn f a c=>match od0 (ak0 σ k) a,od0 (ak0 σ k) c with
    | some b,some c'=>some (.fn f b c')
    | _,_=>none
   | _=>none
mutual
def AV.nn:AV->Bool
 | .sc (.slice none 0 0)=>false
 | .agg cs=>nnL cs
 | .rs es=>nnR es
 | _=>true
def nnL:List AV->Bool
 | []=>true
 | c::cs=>c.nn&&nnL cs
def nnR:List (List AV)->Bool
 | []=>true
 | c::cs=>nnL c&&nnR cs
end
def nj0(σ:c8)(args:List AV):Option (List AV×Bool) :=
 match dz0 args&&nnL args with
 | true=>some (args,false)
 | false=>match od0 (ak0 σ 50) args with
  | some l=>some (kn0 l,true)
  | none=>none
def I8(σ:c8)(id:Nat)(o:j5):c8:=({ σ with tr:=.leaf }:c8).set id o
mutual
def AV.frz(σ1:c8):AV->AV
 | .agg cs=>.agg (jF0 σ1 cs)
 | .tup cs=>.tup (jF0 σ1 cs)
 | .fn f a c=>.fn f (jF0 σ1 a) (jF0 σ1 c)
 | .ss a z i=>(ak0 σ1 3 (.ss a z i)).getD (.ss a z i)
 | .ms a z i j=>(ak0 σ1 3 (.ms a z i j)).getD (.ms a z i j)
 | .mp a i j=>(ak0 σ1 3 (.mp a i j)).getD (.mp a i j)
 | v=>v
def jF0(σ1:c8):List AV->List AV
 | []=>[]
 | c::cs=>c.frz σ1::jF0 σ1 cs
end
def j5.frz(σ1:c8):j5->j5
 | .row e z es=>.row e z (es.map (jF0 σ1))
 | o=>o
def AS.frz(σ1:c8)(id:Nat)(s:AS):AS:={ n:=s.n,tr:=s.tr.map (AV.frz σ1),st:={ next:=s.st.next,tr:=(s.st.del id).tr.map (j5.frz σ1),low:=(s.st.del id).low } }
def kq0(s:AS):AV->Option Nat
 | .ss a z i=>match s.st.objs a with
  | some o=>match ak0 (I8 s.st a o) 3 (.ss a z i)with
   | some _=>some a
   | none=>none
  | none=>none
 | .ms a z 0 n=>match s.st.objs a with
  | some o=>match ak0 (I8 s.st a o) 3 (.ms a z 0 n)with
   | some _=>some a
   | none=>none
  | none=>none
 | .mp a 0 0=>match s.st.objs a with
  | some o=>match ak0 (I8 s.st a o) 3 (.mp a 0 0)with
   | some _=>some a
   | none=>none
  | none=>none
 | _=>none
def kI0(s:AS):List AV->Option Nat
 | []=>none
 | v::l=>match kq0 s v with
  | some a=>some a
  | none=>kI0 s l
def tailT(T:Tab)(t:TypeId):Bool:=match T t with
 | some { und:=.slice el,.. }=>match T el with
  | some a=>a.zeroCells.all fun v=>match v with
   | .sc (.pointer _)=>false
   | _=>true
  | none=>false
 | _=>false
def frzOf(T:Tab)(s:AS)(op:Op):Option (Nat×j5):=match (match op with
  | .call { callee:=.builtin .append,args:=⟨[_,c]⟩,argTypes:=_ }=>match s.eval c with
   | .ms id _ _ _=>match s.st.objs id with
    | some (.row _ _ es)=>kI0 s es.flatten
    | _=>none
   | _=>none
  | .mapUpdate _ _ _ x=>kq0 s (s.eval x)
  | .store _ a x=>match ku0 (s.eval a)with
   | some (id,_,_)=>match s.st.objs id with
    | some (.xrow ..)=>kq0 s (s.eval x)
    | _=>none
   | none=>none
  | .insert _ _ _ x=>kq0 s (s.eval x)
  | .slice t x lo hi none=>match (match lo,hi.map s.eval with
    | none,some (.sc (.int _ 0))=>true
    | some _,none=>tailT T t
    | _,_=>false)with
   | true=>none
   | false=>match s.eval x with
    | .ss a z i=>kq0 s (.ss a z i)
    | _=>none
  | _=>none)with
 | some a=>match s.st.objs a with
  | some o=>some (a,o)
  | none=>none
 | none=>none
structure Hint where
 k:Nat
 slots:List AV
 objs:List (Nat×j5)
 next:Nat
def Hint.state(h:Hint):AS:=AS.enter h.slots.length h.slots { next:=h.next,tr:=Tr.ofList h.objs .leaf,low:=0 }
def X7(l:Nat)(vals:List AV)(i:Nat):AV:=match cJ l i with
 | true=>(vals[i-l]?).getD (.sy i)
 | false=>.sy i
def pR0:List (Nat×Option Nat)->Nat->Option (Option Nat)
 | [],_=>none
 | (a,b)::l,i=>match aA a i with
  | true=>some b
  | false=>pR0 l i
def ja0(n:Nat)(l:List (Nat×Option Nat)):gq0:=fun i=>match bY i n with
 | true=>some (some i)
 | false=>pR0 l i
structure Acc where
 vals:List (Nat×AV)
 io:List (Nat×Option Nat)
def Acc.addV(a:Acc)(j:Nat)(v:AV):Acc:=match a.vals.any (fun p=>aA p.1 j)with
 | true=>a
 | false=>{ a with vals:=(j,v)::a.vals }
def Acc.addI(a:Acc)(i:Nat)(k:Option Nat):Acc:=match a.io.any (fun p=>aA p.1 i)with
 | true=>a
 | false=>{ a with io:=(i,k)::a.io }
mutual
def um(σ:c8)(l:Nat)(acc:Acc):AV->AV->Acc
 | .sy j,b=>match cJ l j with
  | true=>acc.addV j b
  | false=>acc
 | .ss id _ j,.ss id' _ d=>(acc.addI id (some id')).addV j (.sy d)
 | .ss id _ j,.ms id' _ _ _=>match σ.objs id' with
  | some (.row _ _ es)=>(acc.addI id (some id')).addV j (.rs es)
  | some (.xrow ..)=>(acc.addI id (some id')).addV j (.rs [])
  | _=>acc
 | .ss id _ j,.sc _=>(acc.addI id none).addV j (.rs [])
 | .mp id _ _,.mp id' _ _=>acc.addI id (some id')
 | .ms id _ _ _,.ms id' _ _ _=>acc.addI id (some id')
 | .mm id,.mm id'=>acc.addI id (some id')
 | .xp id k _,.xp id' e _=>(acc.addI id (some id')).addV k (.sy e)
 | .xs id _ o m,.xs id' _ o' f=>um σ l (um σ l (acc.addI id (some id')) o o') m f
 | .it id,.it id'=>acc.addI id (some id')
 | .agg a,.agg b=>umL σ l acc a b
 | .tup a,.tup b=>umL σ l acc a b
 | .rp a,.rp b=>umL σ l acc a b
 | .rm a,.rm b=>um σ l acc a b
 | .fn _ a c,.fn _ g c'=>umL σ l (umL σ l acc a g) c c'
 | _,_=>acc
def umL(σ:c8)(l:Nat)(acc:Acc):List AV->List AV->Acc
 | a::az,b::bs=>umL σ l (um σ l acc a b) az bs
 | _,_=>acc
end
def umR(σ:c8)(l:Nat)(acc:Acc):List (List AV)->List (List AV)->Acc
 | a::az,b::bs=>umR σ l (umL σ l acc a b) az bs
 | _,_=>acc
def umO(σ:c8)(l:Nat)(acc:Acc):j5->j5->Acc
 | .row _ _ es,.row _ _ a=>umR σ l acc es a
 | .xrow _ _ j,.xrow _ _ b=>acc.addV j (.sy b)
 | .xrow _ _ j,.row _ _ es=>acc.addV j (.rs es)
 | .map _ es _,.map _ a _=>umL σ l acc (es.map (·.2.1)) (a.map (·.2.1))
 | .xmap (.sy j),.xmap c=>acc.addV j c
 | .xiter s p,.xiter s' d=>um σ l (um σ l acc s s') p d
 | .xmap (.sy j),.map _ [] _=>acc.addV j (.rs [])
 | _,_=>acc
def ri0(s:AS)(l:Nat):List AV->Nat->Acc->Acc
 | [],_,acc=>acc
 | a::az,t,acc=>ri0 s l az (t+1) (um s.st l acc a (s.get t))
def lK0(s:AS)(n l:Nat):List (Nat×j5)->Acc->Acc
 | [],acc=>acc
 | (i,o)::os,acc=>match ja0 n acc.io i with
  | some (some k)=>match s.st.objs k with
   | some o'=>lK0 s n l os (umO s.st l acc o o')
   | none=>lK0 s n l os acc
  | _=>lK0 s n l os acc
def guess(s:AS)(n l:Nat)(h:Hint):Acc:=lK0 s n l h.objs (lK0 s n l h.objs (ri0 s l h.slots 0 ⟨[],[]⟩))
def cN0(a:Acc)(l:Nat):Nat->List AV
 | 0=>[]
 | k+1=>((a.vals.find? (fun p=>aA p.1 l)).map (·.2)).getD (.sc (.bool false))::cN0 a (l+1) k
def fitB:AV->Bool
 | .sc (.int _ _)=>true
 | .sc (.bool _)=>true
 | .sc (.string _)=>true
 | .sy _=>true
 | .rs es=>qK0 es
 | .rp cs=>dz0 cs
 | .rm c=>c.contP
 | _=>false
def pe0:List (Nat×TypeId×Nat)->List (Nat×TypeId×Nat)->Bool
 | [],[]=>true
 | a::az,b::bs=>aA a.1 b.1&&aA a.2.1 b.2.1&&aA a.2.2 b.2.2&&pe0 az bs
 | _,_=>false
def bc0(lo:Bool)(ι:gq0):j5->j5->Bool
 | .row e z es,.row b d a=>aA e b&&aA z d&&xO0 ι es a
 | .xrow e z i,.xrow b d h=>aA e b&&aA z d&&aA i h
 | .row e z [],.xrow b d _=>aA e b&&aA z d
 | .map agg es c,.map g a c'=>(agg==g)&&aA c c'&&aA es.length a.length&&(es.zip a).all fun p=>decide (p.1.1=p.2.1)&&cb0 ι p.1.2.1 p.2.2.1&&aA p.1.2.2 p.2.2.2
 | .xmap c,.xmap c'=>match c,c' with
  | .sy i,.sy j=>aA i j
  | .rs [],.rs []=>true
  | _,_=>false
 | .xmap (.rs []),.map false [] c=>aA c 0
 | .xiter s p,.xiter s' k=>eqX s s'&&eqX p k
 | .frow e z c cols _ _ none,.frow b d c' f _ _ none=>lo&&aA e b&&aA z d&&rmB c c'&&pe0 cols f
 | _,_=>false
def nS0:j5->Bool
 | .row _ _ []=>true
 | _=>false
def vL0(lo:Bool)(ι:gq0)(s:AS)(i:Nat)(o:j5):Bool:=match ι i with
 | some (some k)=>match s.st.objs k with
  | some o'=>bc0 lo ι o o'
  | none=>false
 | some none=>nS0 o
 | none=>false
def gu0(ι:gq0)(b:Nat->AV)(s:AS):List AV->Nat->Bool
 | [],_=>true
 | a::az,t=>cb0 ι (a.ssub b) (s.get t)&&gu0 ι b s az (t+1)
def injB(ι:gq0):List (Nat×j5)->Bool
 | []=>true
 | (i,_)::os=>os.all (fun p=>aA p.1 i||(match ι i with | some (some k)=>!W2 ι p.1 k | _=>true))&&injB ι os
def cg0(n l:Nat)(h:Hint)(s:AS):Option (List AV) :=
 let acc:=guess s n l h
 let vals:=cN0 acc l h.k
 let a:=X7 l vals
 let io:=acc.io.filter (fun p=>cJ n p.1)
 let ι:=ja0 n io
 match vals.all fitB&&aA h.slots.length s.n&&cJ n h.next&&io.all (fun p=>cJ n p.1&&bY p.1 h.next)&&gu0 ι a s h.slots 0&&h.objs.all (fun p=>vL0 (cJ R2 n) ι s p.1 (p.2.ssub a))&&injB ι h.objs with
 | true=>some vals
 | false=>none
mutual
def AV.refr(id j fr:Nat):AV->AV
 | .ss a z i=>match aA a id&&aA i j with
  | true=>.ss a z fr
  | false=>.ss a z i
 | .rs es=>.rs (sa0 id j fr es)
 | .rp cs=>.rp (ka0 id j fr cs)
 | .fn f a c=>.fn f (ka0 id j fr a) (ka0 id j fr c)
 | .agg cs=>.agg (ka0 id j fr cs)
 | .tup cs=>.tup (ka0 id j fr cs)
 | v=>v
def ka0(id j fr:Nat):List AV->List AV
 | []=>[]
 | c::cs=>c.refr id j fr::ka0 id j fr cs
def sa0(id j fr:Nat):List (List AV)->List (List AV)
 | []=>[]
 | c::cs=>ka0 id j fr c::sa0 id j fr cs
end
def j5.refr(id j fr:Nat):j5->j5
 | .row e z es=>.row e z (sa0 id j fr es)
 | .map agg es c=>.map agg (es.map fun e=>(e.1,e.2.1.refr id j fr,e.2.2)) c
 | o=>o
def AS.refr(id j fr:Nat)(s:AS):AS:={ n:=s.n,tr:=s.tr.map (AV.refr id j fr),st:={ next:=s.st.next,tr:=s.st.tr.map (j5.refr id j fr),low:=s.st.low } }
def qH0(s:AS)(op:Op)(fr:Nat):Option (RO×AV×AS) :=
 match op with
 | .store t a x=>match ku0 (s.eval a)with
  | some (id,i,off)=>match s.st.objs id with
   | some (.xrow e z j)=>some (.xst t e z (.sy j) i off (s.eval x),.sc undef,{ s.refr id j fr with st:=(s.refr id j fr).st.set id (.xrow e z fr) })
   | _=>none
  | none=>none
 | .slice t x none (some hi) none=>match s.eval x with
  | .ss id z j=>match s.st.objs id with
   | some (.xrow _ _ b)=>some (.tke t z (.sy j) (.sy b) (s.eval hi),.ss id z b,s)
   | _=>none
  | _=>none
 | .call { callee:=.builtin .copy,args,argTypes }=>match argTypes.toList,args.toList.map s.eval with
  | [t,_],[.ss id z j,y]=>match s.st.objs id,ssrc s.st y with
   | some (.xrow e d b),some c=>match aA z d&&aA j b with
    | true=>some (.cpy t e z (.sy j) c,.any,{ s.refr id j fr with st:=(s.refr id j fr).st.set id (.xrow e z fr) })
    | false=>none
   | _,_=>none
  | _,_=>none
 | _=>none
def rO0(s:AS)(b:Nat)(op:Op)(fr:Nat):Option (RO×AS) :=
 match op with
 | .store t a x=>match ku0 (s.eval a)with
  | some (id,i,off)=>match aA id b,s.st.objs id with
   | false,some (.xrow e z j)=>some (.xst t e z (.sy j) i off (s.eval x),{ s.refr id j fr with st:=(s.refr id j fr).st.set id (.xrow e z fr) })
   | _,_=>none
  | none=>none
 | _=>none
def sSort(Φ:G6)(s:AS)(f:FuncId)(args:List AV)(fr:Nat):Option (List Nat×RO×AS) :=
 match Φ.srt f with
 | none=>none
 | some _=>match args with
  | .ss id z j::rest=>match s.st.objs id with
   | some (.xrow e b c)=>match aA z b&&aA j c,od0 (ak0 (s.st.del id) 50) rest with
    | true,some a=>some (al0 (s.st.del id).tr,.call (XT+f) (.sy j::.sc (.int .i64 (z:Nat))::a) false,{ s.refr id j fr with st:=(s.refr id j fr).st.set id (.xrow e z fr) })
    | _,_=>none
   | _=>none
  | _=>none
def gs0(ops:Array Oper)(s:AS)(o:Oper):Option (Nat×Bool) :=
 match o.guard with
 | none=>none
 | some (j,want)=>match (ops[j]?).bind (·.dst)with
  | some d=>match bY d s.n with
   | true=>match s.get d with
    | .sy i=>some (i,want)
    | _=>none
   | false=>none
  | none=>none
abbrev KS:=AS->Nat->RT
abbrev KE:=EX->AS->Nat->RT
abbrev Exe:=Nat->Code->AS->Nat->KE->RT
section
variable (T:Tab) (Φ:G6) (F:FuncId->Option Func)
def sRow(s:AS)(f:FuncId)(args:List AV)(fr:Nat):Option (RO×AV×AS) :=
 match Φ (XR+f)with
 | none=>none
 | some _=>match args with
  | [.sy j]=>match F f with
   | some fn=>match fn.resultTypes.toList with
    | [t]=>match T t with
     | some { und:=.slice elem,.. }=>match T elem with
      | some a=>some (.call (XR+f) [.sy j] false,.ss (s.st.next+5) a.size fr,{ s with st:={ s.st with next:=s.st.next+7 }.set (s.st.next+5) (.xrow elem a.size fr) })
      | none=>none
     | _=>none
    | _=>none
   | none=>none
  | _=>none
def sCall(ex:Exe)(f:FuncId)(args:List AV)(dst:Option Tmp)(s:AS)(fr:Nat)(d:KS):RT :=
 match F f with
 | none=>.stuck
 | some fn=>match Φ.at f args with
  | some _=>match patOf T fn.resultTypes.toList fr with
   | some (pat,b)=>match s.bnd fr&&cJ fr b with
    | true=>match nj0 s.st args with
     | some (a,true)=>.op (.rows (al0 s.st.tr)) fr (.sc (.bool true)) (.op (.call f a true) fr pat (d (s.put dst pat) b))
     | some (a,false)=>.op (.call f a false) fr pat (d (s.put dst pat) b)
     | none=>.stuck
    | false=>.stuck
   | none=>.stuck
  | none=>match fn.body with
   | some c=>match cJ args.length fn.ntmps&&!(fn.name== "runtime.NumGoroutine")&&s.bnd fr with
    | true=>ex s.st.next c (AS.enter fn.ntmps args s.st) fr fun e s1 g=>match e with
     | .exi _=>.stuck
     | _=>match D1 T fn s1 with
      | some v=>d ({ s with st:=s1.st }.put dst v) g
      | none=>.stuck
    | false=>.stuck
   | none=>.stuck
def rc0(s:AS)(op:Op):Option (RO×AV):=match op with
 | .lookup t x i false=>match T t,s.eval x with
  | some { und:=.map _ b,.. },.sy m=>match T b with
   | some a=>match a.isAgg&&!nnL a.zeroCells with
    | true=>some (.hask t (.sy m) (s.eval i),a.zeroAV)
    | false=>none
   | none=>none
  | _,_=>none
 | _=>none
def sX0(id:Nat)(o:Oper)(op:Op)(s:AS)(fr:Nat)(b:KS):RT:=match sO0 T s.eval s.st id op fr with
 | some (ro,pat,v,σ',a)=>match s.bnd fr&&cJ fr a with
  | true=>.op ro fr pat (b ({ s with st:=σ' }.put o.dst v) a)
  | false=>.stuck
 | none=>match qH0 s op fr with
  | some (ro,v,s')=>match s.bnd fr with
   | true=>.op ro fr (.sy fr) (b (s'.put o.dst v) (fr+1))
   | false=>.stuck
  | none=>.stuck
def sOne(ex:Exe)(id:Nat)(o:Oper)(s:AS)(fr:Nat)(a:KS):RT :=
 match o.op with
 | .call { callee:=.value b,args:=args,argTypes:=_ }=>
  match s.eval b with
  | .fn (.func f) first cap=>match sSort Φ s f (first++args.toList.map s.eval++cap) fr with
   | some (c,ro,s')=>match s.bnd fr with
    | true=>.op (.rows c) fr (.sc (.bool true)) (.op ro fr (.sy fr) (a (s'.put o.dst (.tup [])) (fr+1)))
    | false=>.stuck
   | none=>match sRow T Φ F s f (first++args.toList.map s.eval++cap) fr with
    | some (ro,v,s')=>match s.bnd fr with
     | true=>.op ro fr (.sy fr) (a (s'.put o.dst v) (fr+1))
     | false=>.stuck
    | none=>sCall T Φ F ex f (first++args.toList.map s.eval++cap) o.dst s fr a
  | _=>.stuck
 | op=>match aopX T s.eval s.st id op with
  | some (v,σ')=>a ({ s with st:=σ' }.put o.dst v) fr
  | none=>match rc0 T s op with
   | some (ro,d)=>match s.bnd fr with
    | true=>.op ro fr (.sy fr) (.test fr (sX0 T id o op s (fr+1) a) (a (s.put o.dst d) (fr+1)))
    | false=>.stuck
   | none=>sX0 T id o op s fr a
def flatT(T:Tab)(t:TypeId):Bool:=match T t with
 | some ti=>ti.zeroCells.all fun c=>match c with
  | .sc (.int _ _)=>true
  | .sc (.bool _)=>true
  | .sc (.string _)=>true
  | _=>false
 | none=>false
def rU0(s:AS)(op:Op):Option (Nat×j5):=match frzOf T s op with
 | some p=>some p
 | none=>match op with
  | .call { callee:=.value b,args:=args,argTypes:=_ }=>match s.eval b with
   | .fn (.func f) first cap=>match Φ.srt f,Φ (XR+f),Φ.fn f,F f with
    | none,none,some _,some fn=>match fn.resultTypes.toList.all (flatT T)with
     | true=>none
     | false=>match kI0 s (first++args.toList.map s.eval++cap)with
      | some a=>match s.st.objs a with
       | some o=>some (a,o)
       | none=>none
      | none=>none
    | _,_,_,_=>none
   | _=>none
  | _=>none
def sFz(ex:Exe)(ops:Array Oper)(id:Nat)(o:Oper)(fr:Nat)(b:KS):Nat->AS->RT
 | 0,s=>sOne T Φ F ex id o s fr b
 | m+1,s=>match rU0 T Φ F s o.op with
  | some (a,x)=>match s.bnd fr with
   | true=>match E4 ops (s.frz (I8 s.st a x) a) o with
    | some true=>.op (.rows (al0 (I8 s.st a x).tr)) fr (.sc (.bool true)) (sFz ex ops id o fr b m (s.frz (I8 s.st a x) a))
    | _=>.stuck
   | false=>.stuck
  | none=>sOne T Φ F ex id o s fr b
def sIt(ex:Exe)(ops:Array Oper)(id:Nat)(o:Oper)(fr:Nat)(b:KS)(s:AS):RT :=
 match o.op with
 | .range t x=>match T t with
  | some { und:=.string,.. }=>match s.eval x with
   | .sy i=>match s.bnd fr with
    | true=>.op (.iss (.sy i)) fr (.sc (.bool true)) (b ({ s with st:=s.st.set id (.xiter (.sy i) (.sc (.int .i64 0))) }.put o.dst (.it id)) fr)
    | false=>.stuck
   | _=>.stuck
  | _=>sFz T Φ F ex ops id o fr b 3 s
 | .next it true=>match s.eval it with
  | .it a=>match s.st.objs a with
   | some (.xiter st p)=>match s.bnd fr with
    | true=>.op (.more st p) fr (.sy fr) (.test fr
      (.op (.sdec st p) (fr+1) (.tup [.sy (fr+1),.sy (fr+2),.sy (fr+3)]) (b ({ s with st:=s.st.set a (.xiter st (.sy (fr+3))) }.put o.dst (.tup [.sc (.bool true),.sy (fr+1),.sy (fr+2)])) (fr+4)))
      (b (s.put o.dst (.tup [.sc (.bool false)])) (fr+1)))
    | false=>.stuck
   | _=>.stuck
  | _=>.stuck
 | _=>sFz T Φ F ex ops id o fr b 3 s
def st0(ex:Exe)(ops:Array Oper)(n0:Nat):List Oper->Nat->AS->Nat->KS->RT
 | [],_,s,fr,k=>k s fr
 | o::rest,i,s,fr,k=>
  match U6 s.n o.dst with
  | false=>.stuck
  | true=>match E4 ops s o with
   | some true=>sIt T Φ F ex ops (n0+i) o fr (fun s' a=>st0 ex ops n0 rest (i+1) s' a k) s
   | some false=>st0 ex ops n0 rest (i+1) (s.put o.dst (.sc undef)) fr k
   | none=>match gs0 ops s o with
    | some (j,want)=>
     let go:=fun b:Bool=>match b==want with
      | true=>sIt T Φ F ex ops (n0+i) o fr (fun s' a=>st0 ex ops n0 rest (i+1) s' a k) (s.ssub (aN0 j b))
      | false=>st0 ex ops n0 rest (i+1) ((s.ssub (aN0 j b)).put o.dst (.sc undef)) fr k
     .test j (go true) (go false)
    | none=>.stuck
abbrev KD:=AS->Nat->Inf->RT
def ik0(σ:c8)(ids:List Nat):c8:={ bg0 (saved σ ids) { X4 (saved σ ids) σ with low:=σ.next } with low:=min σ.low σ.next }
def vO0(bar:Bool)(ids:List Nat)(f:FuncId)(args:List AV)(dst:Option Tmp)(s:AS)(fr:Nat)(b:KD):RT :=
 match F f,Φ.fn f with
 | some fn,some _=>match patOf T fn.resultTypes.toList fr with
  | some (pat,a)=>match s.bnd fr&&cJ fr a&&dz0 args with
   | true=>.op (.call f args false) fr pat (match bar with
    | true=>b (s.put dst pat) a ⟨[],[],false,0,true⟩
    | false=>b ({ s with st:=ik0 s.st ids }.put dst pat) a ⟨[],[],true,s.st.next,false⟩)
   | false=>.stuck
  | none=>.stuck
 | _,_=>.stuck
def sv0(n0 N mask i:Nat)(bar:Bool)(o:Oper)(s:AS)(fr:Nat)(b:KD):RT :=
 match o.op with
 | .call { callee:=.value c,args:=args,argTypes:=_ }=>
  match s.eval c with
  | .fn (.func f) first cap=>vO0 T Φ F bar (bB0 n0 N mask) f (first++args.toList.map s.eval++cap) o.dst s fr b
  | _=>.stuck
 | op=>match aopX T s.eval (small s.st (bj0 s.eval op)) (n0+i) op with
  | some (v,σ1)=>b ({ s with st:=(match σ1.objs (n0+i)with
     | some x=>(if isE op then X0 σ1 (bj0 s.eval op) s.st else s.st).set (n0+i) x
     | none=>(if isE op then X0 σ1 (bj0 s.eval op) s.st else s.st)) }.put o.dst v) fr ⟨bj0 s.eval op,if isE op then bj0 s.eval op else [],false,0,false⟩
  | none=>match sO0 T s.eval (small s.st (bj0 s.eval op)) (n0+i) op fr with
   | some (ro,pat,v,σ1,a)=>match s.bnd fr&&({ s with st:=small s.st (bj0 s.eval op) }:AS).bnd fr&&cJ fr a with
    | true=>.op ro fr pat (b ({ s with st:=(match σ1.objs (n0+i)with
      | some x=>(if isE op then X0 σ1 (bj0 s.eval op) s.st else s.st).set (n0+i) x
      | none=>(if isE op then X0 σ1 (bj0 s.eval op) s.st else s.st)) }.put o.dst v) a ⟨bj0 s.eval op,if isE op then bj0 s.eval op else [],false,0,false⟩)
    | false=>.stuck
   | none=>match rO0 s (n0+i) op fr with
    | some (ro,s')=>match s.bnd fr&&({ s with st:=small s.st (bj0 s.eval op) }:AS).bnd fr with
     | true=>.op ro fr (.sy fr) (b (s'.put o.dst (.sc undef)) (fr+1) ⟨bj0 s.eval op,bj0 s.eval op,false,0,false⟩)
     | false=>.stuck
    | none=>.stuck
def gQ0(ops:Array Oper)(n0 N:Nat)(a:List Nat):List Oper->Nat->AS->Nat->List Inf->(AS->Nat->List Inf->RT)->RT
 | [],_,s,fr,acc,k=>k s fr acc
 | o::rest,i,s,fr,acc,k=>
  match U6 s.n o.dst with
  | false=>.stuck
  | true=>match E4 ops s o with
   | some true=>sv0 T Φ F n0 N (a.getD i 0) i (gd0 o.op&&pj0 ops a i) o s fr fun s' c f=>gQ0 ops n0 N a rest (i+1) s' c (acc++[f]) k
   | some false=>gQ0 ops n0 N a rest (i+1) (s.put o.dst (.sc undef)) fr (acc++[⟨[],[],false,0,false⟩]) k
   | none=>match gs0 ops s o with
    | some (j,want)=>
     let go:=fun b:Bool=>match b==want with
      | true=>sv0 T Φ F n0 N (a.getD i 0) i (gd0 o.op&&pj0 ops a i) o (s.ssub (aN0 j b)) fr fun s' c f=>gQ0 ops n0 N a rest (i+1) s' c (acc++[f]) k
      | false=>gQ0 ops n0 N a rest (i+1) ((s.ssub (aN0 j b)).put o.dst (.sc undef)) fr (acc++[⟨[],[],false,0,false⟩]) k
     .test j (go true) (go false)
    | none=>.stuck
def isSt:Op->Bool
 | .store ..=>true
 | _=>false
def hP0:List Oper->List Oper->Option (List Oper×List Oper)
 | _,[]=>none
 | acc,o::l=>match hP0 (acc++[o]) l with
  | some r=>some r
  | none=>match (gd0 o.op||isSt o.op)&&V3 acc (o::l)with
   | true=>some (acc,o::l)
   | false=>none
def barOf(ops:Array Oper):Option (List Oper×List Oper):=hP0 [] ops.toList
theorem iY0:∀ {l acc a b:List Oper},hP0 acc l=some (a,b)->acc++l=a++b/\V3 a b=true
 | [],_,_,_,h=>by simp[hP0]at h
 | o::l,acc,a,b,h=>by
  unfold hP0 at h;split at h
  ·rename_i r c
   cases h;have:=iY0 c;exact⟨by rw[<- this.1];simp,this.2⟩
  split at h
  ·rename_i hc
   cases h;rw[ab]at hc;exact⟨rfl,hc.2⟩
  cases h
def cw0:Code->Nat
 | .region id _ _=>id
 | .seq a _=>cw0 a
 | .block _ b=>cw0 b
 | .loop b=>cw0 b
 | .scope b=>cw0 b
 | .cond _ a _=>cw0 a
 | _=>0
def fsum(s:AS):Nat->Nat
 | 0=>0
 | t+1=>(match s.get t with
  | .fn (.func g) _ _=>(g+1)*(t+1)
  | .sc (.int _ n)=>(n.toNat%64+7)*(t+1)
  | .sc (.bool b)=>(bif b then 3 else 5)*(t+1)
  | _=>0)+fsum s t
def iJ0(fr:Nat)(b:Code)(s:AS):Nat:=(fr*4096+cw0 b)*65536+fsum s s.n%65536
variable (H:Nat->Option Hint)
def nh0(ex:Exe)(n:Nat)(b:Code)(k:KE):Nat->AS->Nat->RT
 | 0,_,_=>.stuck
 | j+1,s,fr=>ex n b s fr fun e s' a=>match e with
  | .nor=>nh0 ex n b k j s' a
  | e=>k e s' a
def fzV(s:AS):AV->AV->Option Nat
 | .rp _,.mp i 0 0=>kq0 s (.mp i 0 0)
 | .sy _,.mp i 0 0=>kq0 s (.mp i 0 0)
 | .sy _,.ss i z j=>kq0 s (.ss i z j)
 | .sy _,.ms i z 0 n=>kq0 s (.ms i z 0 n)
 | _,_=>none
def fzL(s:AS):List AV->List AV->Option Nat
 | a::az,c::cs=>match fzV s a c with
  | some i=>some i
  | none=>fzL s az cs
 | _,_=>none
def fzAt(s:AS):List AV->Nat->Option (Nat×j5)
 | [],_=>none
 | a::az,t=>match (match a,s.get t with
   | .agg xs,.agg cs=>fzL s xs cs
   | x,v=>fzV s x v)with
  | some i=>match s.st.objs i with
   | some o=>some (i,o)
   | none=>fzAt s az (t+1)
  | none=>fzAt s az (t+1)
def fzOb(s:AS):List (Nat×j5)->Option (Nat×j5)
 | []=>none
 | (i,o)::l=>match (match o,s.st.objs i with
   | .row _ _ [cs],some (.row _ _ [b])=>fzL s cs b
   | _,_=>none)with
  | some a=>match s.st.objs a with
   | some x=>some (a,x)
   | none=>fzOb s l
  | none=>fzOb s l
def we0(s:AS)(h:Hint):Option (Nat×j5):=match fzAt s h.slots 0 with
 | some p=>some p
 | none=>fzOb s h.objs
def sPre(h:Hint)(fr:Nat)(k:AS->RT):Nat->AS->RT
 | 0,s=>k s
 | m+1,s=>match we0 s h with
  | some (a,x)=>match s.bnd fr with
   | true=>.op (.rows (al0 (I8 s.st a x).tr)) fr (.sc (.bool true)) (sPre h fr k m (s.frz (I8 s.st a x) a))
   | false=>.stuck
  | none=>k s
def jkey(fr:Nat)(b:Code):Nat:=1152921504606846976+fr*4096+cw0 b
def jst(h:Hint)(s:AS):Hint:={ h with slots:=h.slots.take s.n }
def yC0(h:Hint)(s:AS):List AV:=h.slots.drop s.n
def exec:Nat->Exe
 | 0,_,_,_,_,_=>.stuck
 | m+1,n,c,s,fr,k=>
  match c with
  | .skip=>k .nor s fr
  | .label _=>k .nor s fr
  | .region _ ops false=>st0 T Φ F (exec m) ops s.st.next ops.toList 0 { s with st:={ s.st with next:=s.st.next+ops.size } } fr fun s' d=>k .nor s' d
  | .region _ ops true=>match barOf ops with
   | some (l0,t)=>match lr0 ⟨l0⟩ (dv0 l0 [])with
    | true=>gQ0 T Φ F ⟨l0⟩ s.st.next l0.length (dv0 l0 []) l0 0 { s with st:={ s.st with next:=s.st.next+l0.length } } fr [] fun s' d fs=>
      match (cp0 ⟨l0⟩ (dv0 l0 [])).all (fun p=>fJ0 s.st.next p.1 p.2 (fs.getD p.1 ⟨[],[],false,0,false⟩) (fs.getD p.2 ⟨[],[],false,0,false⟩))with
      | true=>st0 T Φ F (exec m) ops s'.st.next t l0.length { s' with st:={ s'.st with next:=s'.st.next+(l0++t).length } } d fun s2 f=>k .nor s2 f
      | false=>.stuck
    | false=>.stuck
   | none=>match lr0 ops (dv0 ops.toList [])with
   | true=>gQ0 T Φ F ops s.st.next ops.size (dv0 ops.toList []) ops.toList 0 { s with st:={ s.st with next:=s.st.next+ops.size } } fr [] fun s' d fs=>
     match (cp0 ops (dv0 ops.toList [])).all (fun p=>fJ0 s.st.next p.1 p.2 (fs.getD p.1 ⟨[],[],false,0,false⟩) (fs.getD p.2 ⟨[],[],false,0,false⟩))with
     | true=>k .nor s' d
     | false=>.stuck
   | false=>.stuck
  | .seq a b=>match H (jkey fr b)with
   | some h=>match s.bnd fr&&(jst h s).state.bnd (fr+h.k)&&(aA (yC0 h s).length h.k&&(yC0 h s).all fitB&&iD0 fr (yC0 h s))with
    | true=>.loop fr (h.k+1) (yC0 h s++[.sc (.bool false)]) (.test (fr+h.k)
      (exec m n b (jst h s).state (fr+h.k+2) k)
      (exec m n a s (fr+h.k+2) fun e s' d=>match e with
       | .nor=>match cg0 n fr (jst h s) s' with
        | some vals=>.again fr (vals++[.sc (.bool true)])
        | none=>.stuck
       | e=>k e s' d))
    | false=>.stuck
   | none=>exec m n a s fr fun e s' d=>match e with
    | .nor=>exec m n b s' d k
    | e=>k e s' d
  | .cond x a b=>match s.eval x with
   | .sc (.bool t)=>exec m n (if t then a else b) s fr k
   | .sy i=>.test i (exec m n a (s.ssub (aN0 i true)) fr k) (exec m n b (s.ssub (aN0 i false)) fr k)
   | _=>.stuck
  | .block id b=>exec m n b s fr fun e s' d=>match e with
   | .exi j=>k (if j=id then .nor else .exi j) s' d
   | e=>k e s' d
  | .loop b=>match H (iJ0 fr b s)with
   | some h=>sPre h fr (fun s=>match cg0 n fr h s,h.state.bnd (fr+h.k)with
    | some inits,true=>.loop fr h.k inits (exec m n b h.state (fr+h.k+1) fun e s' d=>match e with
     | .nor=>match cg0 n fr h s' with
      | some vals=>.again fr vals
      | none=>.stuck
     | e=>k e s' d)
    | _,_=>.stuck) 8 s
   | none=>nh0 (exec m) n b k 1000 s fr
  | .exit id=>k (.exi id) s fr
  | .ret=>k .ret s fr
  | .scope b=>exec m n b s fr k
  | _=>.stuck
def kTop(T:Tab)(fn:Func)(e:EX)(s:AS)(_:Nat):RT:=match e with
 | .exi _=>.stuck
 | _=>match D1 T fn s with
  | some v=>match v.contP with
   | true=>.ret v.nilz []
   | false=>match ak0 s.st 50 v with
    | some c=>.ret c.nilz (al0 s.st.tr)
    | none=>.stuck
  | none=>.stuck
end
end Go.Ab
