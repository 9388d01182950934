/- A part of the proof; its readable source lies in wip of the prover's repo (squeezed here for the limit of bytes). -/
import Derived.Test.YtiogbkenmjdkoaaGreatDoorMa
import Derived.Laws.Externs
import Derived.Laws.StructEq
import GoSem.ClaimJoined
import Derived.Below
import Derived.ChangeArms
import Derived.Deep.Slices
set_option linter.all false
open Array renaming all_eq_true_iff_forall_mem->dh,eq_empty_of_size_eq_zero->gC,ext'->dz,forIn_toList->jo,getD_eq_getD_getElem?->eR,getElem?_eq_getElem->aZ,getElem?_eq_some_iff->aS,getElem?_push->bW,getElem?_setIfInBounds_ne->gy,getElem?_setIfInBounds_self_of_lt->fV,length_toList->ja,replicate->bz
open Bool renaming and_eq_true->ab,false_and->ib,false_eq_true->aq,false_or->dt,not_eq_true'->bS,not_false->aW,not_true->ax,true_and->dX,true->IN,false->IS
open Decidable renaming decide->IT
open ForInStep renaming yield->fH
open Function renaming comp->gY,comp_def->cR
open Go.Act renaming put->kp
open Go.DataW renaming weights->eM,weightsAll->fL,weightsEach->fw
open Go.Deferred renaming ofValue->i_
open Go.Instr renaming checkKey->bK
open Go.Op renaming eqFields->fQ,equalIn->eW
open Go.Oper renaming apart_spec->gS,upon->eQ,wp->gH
open Go.Program renaming fieldsOf->jq
open Go.Region renaming binds->cN,ready->bP,wanted->dD
open Go.Result renaming andThen_ok->ah
open Go.Sem renaming run->iy,run_bind->an,run_pure->ar
open Go.Utf8 renaming decode->cz
open Go.Value renaming int->bG
open Go.World renaming cells?_some->fz
open List renaming all_cons->cE,all_eq_true->ak,all_map->dV,cons_append->fC,cons_beq_cons->jx,drop_drop->eD,drop_eq_getElem_cons->bN,drop_zero->gB,eq_nil_of_length_eq_zero->bu,ext_getElem?->gZ,filter_cons->bw,filter_eq_self->di,forIn_cons->fW,getD->iJ,getElem?_eq_getElem->ae,getElem?_eq_some_iff->ao,getElem?_map->aX,getElem?_modify->jb,getElem_map->cK,getElem_mem->au,getElem_of_mem->aH,isEmpty_map->fO,length_cons->aA,length_map->aF,length_range->jH,map->bY,map_congr_left->bp,map_cons->ay,map_drop->dZ,map_map->dB,map_nil->bO,map_set->kK,map_take->dY,mem_append_left->bX,mem_append_right->cC,mem_cons->aI,mem_cons_of_mem->bB,mem_filterMap->dP,nil_append->bq,range'->dU,range'_succ->jU,range->bo,take_append_drop->cJ
open Nat renaming add_zero->dW,beq->aB,ble->dx,blt->cD,blt_eq->bc,eq_of_beq_eq_true->af,le_add_right->aY,le_of_ble_eq_true->aU,le_refl->aw,le_trans->bI,lt_or_ge->dc,strongRecOn->gX,zero_add->aN,zero_le->dq
open Ne renaming symm->kD
open Option renaming isNone_some->jd,map_map->dw,map_some->aj,none->kE,some->U,none->No
open Option.some renaming injEq->ai
open PUnit renaming unit->du
open Std.Legacy.Range renaming forIn_eq_forIn_range'->eX
namespace Go.Ab
open Go
variable [nF]
def Zl{ops:Array Oper}{c:List Nat}{n0:Nat}{fs:List qQ}(l4:FI ops c=IN)(vM:(AL ops c).all (λp=>zg n0 p.1 p.2 (fs.getD p.1 ⟨[],[],IS,0,IS⟩) (fs.getD p.2 ⟨[],[],IS,0,IS⟩))=IN)
  {i j:Nat} {a b:Oper} (d:i<j) (ha:ops[i]?=U a) (h:ops[j]?=U b) (hm:(c.getD j 0).testBit i=IS) :
  a.apart ops b=IN/\(idle a.op=IN\/idle b.op=IN\/zg n0 i j (fs.getD i ⟨[],[],IS,0,IS⟩) (fs.getD j ⟨[],[],IS,0,IS⟩)=IN):=by
 have hj:j<ops.size:=(aS.1 h).1;have h1:=ak.1 l4 j (by simpa using hj);rw[ab]at h1;have h2:=ak.1 h1.2 i (by simpa using d);rw[hm,dt,ha,h]at h2;refine⟨h2,?_⟩;by_cases e:idle a.op=IN
 .exact .inl e
 by_cases f:idle b.op=IN
 .exact .inr (.inl f)
 right;right;have g:(i,j)∈AL ops c:=by unfold AL;rw[List.mem_flatMap];refine⟨j,by simpa using hj,dP.2 ⟨i,by simpa using d,?_⟩⟩;rw[hm,ha,h];simp[e,f]
 exact ak.1 vM (i,j) g
structure Pd(n0 i j:Nat)(a b:qQ):Prop where
 ww:∀x∈a.wr,x∉b.rd/\x∉b.wr
 wr:∀x∈b.wr,x∉a.rd
 Tu:n0+i∉b.rd/\n0+i∉b.wr
 Tv:n0+j∉a.rd/\n0+j∉a.wr
 q5:¬(a.call=IN/\b.call=IN)
 pY:a.pE=IS/\b.pE=IS
 Lu:a.call=IN->b.wr=[]/\∀x∈b.rd,x<a.lC
 Lv:b.call=IN->a.wr=[]/\∀x∈a.rd,x<b.lC
def aN6{n0 i j:Nat}{a b:qQ}(h:zg n0 i j a b=IN):Pd n0 i j a b:=by
 unfold zg at h;simp only[ab]at h;obtain⟨⟨⟨⟨⟨⟨⟨⟨h1,h2⟩,k⟩,l⟩,m⟩,f⟩,g⟩,d⟩,e⟩:=h;refine⟨λx c=>?_,λx c=>?_,?_,?_,?_,⟨by simpa using f,by simpa using g⟩,λhc=>?_,λhc=>?_⟩
 .have:=ak.1 h1 x c
  simpa using this
 .have:=ak.1 h2 x c
  simpa using this
 .simpa using k
 .simpa using l
 .rintro ⟨n,o⟩;simp[n,o]at m
 .rw[hc]at d
  simp only[ax,dt,ab]at d;exact⟨by simpa using d.1,λx c=>by simpa using ak.1 d.2 x c⟩
 rw[hc]at e;simp only[ax,dt,ab]at e;exact⟨by simpa using e.1,λx c=>by simpa using ak.1 e.2 x c⟩
def left(N:Nat)(p:Nat->Bool):Nat:=((bo N).filter λi=>!p i).length
def VF{N i:Nat}{p:Nat->Bool}(a7:i<N)(hp:p i=IS):left N (λj=>j==i||p j)+1=left N p:=by
 unfold left;have key:∀l:List Nat,l.Nodup->i∈l->(l.filter λj=>!(j==i||p j)).length+1=(l.filter λj=>!p j).length:=by
  intro l
  induction l with
  |nil=>intro _ h;cases h
  |cons a l f=>
   intro b d;rw[List.nodup_cons]at b;by_cases e:a=i
   .subst e
    have c:(l.filter λj=>!(j==a||p j))=l.filter λj=>!p j:=by
     apply List.filter_congr;intro j hj;have:(j==a)=IS:=by simp;exact λh=>b.1 (h▸hj)
     simp[this]
    rw[bw,bw,c,hp];simp
   have hm:i∈l:=by
    rcases aI.1 d with h|h
    .exact lH h.symm e
    exact h
   have:=f b.2 hm;have g:(a==i)=IS:=by simpa using e
   rw[bw,bw,g,dt];cases k:p a
   .simp only[aW,jj,aA];omega
   simp only[ax,aq,j2];exact this
 exact key _ List.nodup_range (by simpa using a7)
def TW{N:Nat}{p:Nat->Bool}(h:left N p=0):∀i,i<N->p i=IN:=by intro i a7;unfold left at h;have:=List.length_eq_zero_iff.1 h;rw[List.filter_eq_nil_iff]at this;have:=this i (by simpa using a7);simpa using this
section
variable {P:Program} {T:dd} {ops:Array Oper} {n n0:Nat} {fs:List qQ} {evs:List z7} {sts:List AS} {s0 s':AS}
def M6{α:Type}{l:List α}{j n:Nat}(h:l.length=n)(hj:j<n):∃x,l[j]?=U x:=⟨l[j]'(by omega),ae _⟩
structure Lex(P:Program)(ops:Array Oper)(n n0:Nat)(fs:List qQ)(evs:List z7)(sts:List AS)(s0:AS):Prop where
 l4:FI ops (ox ops.toList [])=IN
 vM:(AL ops (ox ops.toList [])).all (λp=>zg n0 p.1 p.2 (fs.getD p.1 ⟨[],[],IS,0,IS⟩) (fs.getD p.2 ⟨[],[],IS,0,IS⟩))=IN
 mj:evs.length=ops.size
 nh:fs.length=ops.size
 px:sts.length=ops.size
 all:∀(j:Nat) o f ev st,ops[j]?=U o->fs[j]?=U f->evs[j]?=U ev->sts[j]?=U st->DH n0 ops.size j o f ev/\wQ P ops n n0 ops.size j (Gx ops n0 ops.size ((ox ops.toList []).getD j 0) o f st) ev/\(f.call=IN->f.lC=st.st.next) /\
    (∀t,st.get t=fold (λk=>IT (k<j)) (evs.map (·.tU)) 0 s0.get t)/\(∀id,st.st.bT id=fold (λk=>IT (k<j)) (evs.map (·.sH)) 0 s0.st.bT id) /\
    (st.st.next=fold (λk=>IT (k<j)) (evs.map λe=>λ_:Unit=>e.tk) 0 (λ_=>s0.st.next) ())
structure Way(ops:Array Oper)(n n0:Nat)(evs:List z7)(s0:AS)(G0:cb)(σ0:bg)(mr:World)(p:Nat->Bool)(G:cb)(l8:Nat->ag)(σ:bg)(a:Act)(w:World):Prop where
 rel:yg G n l8 σ a w
 l8:∀t,l8 t=fold p (evs.map (·.tU)) 0 s0.get t
 vT:∀id,σ.bT id=fold p (evs.map (·.sH)) 0 s0.st.bT id
 lC:σ.next=fold p (evs.map λe=>λ_:Unit=>e.tk) 0 (λ_=>s0.st.next) ()
 free:∀j,j<ops.size->p j=IS->G.pl (n0+j)=No
 closed:zf ops p
 QV:n0+ops.size<=σ.next
 yd:sE n0 G0 σ0 mr G σ w
def Lex.LS(h:Lex P ops n n0 fs evs sts s0){j:Nat}{o:Oper}(a:ops[j]?=U o){e:Edge}(he:e∈o.after)(b:cN .any e=IN):e.on<j:=by have hj:j<ops.size:=(aS.1 a).1;have h1:=ak.1 h.l4 j (by simpa using hj);rw[ab,a]at h1;have:=dh.1 h1.1 e he;simpa[b]using this
def Lex.az2(h:Lex P ops n n0 fs evs sts s0){j i:Nat}{o:Oper}(c:ops[j]?=U o)(d:((ox ops.toList []).getD j 0).testBit i=IN):i<j:=by
 have b:zf ops (λk=>IT (k<j)):=λk o' hk hp e he a=>by have:=h.LS hk he a;have:=sK hp;simp;omega
 have:=EI b j o c (λe he a=>by simpa using h.LS c he a) i d;simpa using this
def Lex.apart(h:Lex P ops n n0 fs evs sts s0){i j:Nat}{a b:Oper}{c d:qQ}(e:i<j)(ha:ops[i]?=U a)(f:ops[j]?=U b)(h1:fs[i]?=U c)(h2:fs[j]?=U d)(hm:((ox ops.toList []).getD j 0).testBit i=IS) :
  a.apart ops b=IN/\(idle a.op=IN\/idle b.op=IN\/Pd n0 i j c d):=by
 obtain⟨g1,g2⟩:=Zl h.l4 h.vM e ha f hm;refine⟨g1,?_⟩;rcases g2 with g|g|g
 .exact .inl g
 .exact .inr (.inl g)
 right;right;have k:fs.getD i ⟨[],[],IS,0,IS⟩=c:=by simp[iJ,h1]
 have l:fs.getD j ⟨[],[],IS,0,IS⟩=d:=by simp[iJ,h2]
 rw[k,l]at g;exact aN6 g
def Lex.at(h:Lex P ops n n0 fs evs sts s0){j:Nat}(hj:j<ops.size):∃o f ev st,ops[j]?=U o/\fs[j]?=U f/\evs[j]?=U ev/\sts[j]?=U st:=by obtain⟨f,hf⟩:=M6 h.nh hj;obtain⟨ev,a⟩:=M6 h.mj hj;obtain⟨st,l4⟩:=M6 h.px hj;exact⟨ops[j],f,ev,st,aZ hj,hf,a,l4⟩
def Lex.unordered(h:Lex P ops n n0 fs evs sts s0){p:Nat->Bool}(d:zf ops p){i k:Nat}{o:Oper}(q:ops[i]?=U o)(f:p i=IS)(b:∀e∈o.after,cN .any e=IN->p e.on=IN)
  {ok:Oper} (g:ops[k]?=U ok) (a:p k≠IT (k<i)):(k<i/\((ox ops.toList []).getD i 0).testBit k=IS)\/(i<k/\((ox ops.toList []).getD k 0).testBit i=IS/\p k=IN):=by
 rcases Nat.lt_trichotomy k i with j|heq|l
 .left
  refine⟨j,?_⟩;have c:p k=IS:=by
   have:IT (k<i)=IN:=by simpa using j
   rw[this]at a;simpa using a
  cases m:((ox ops.toList []).getD i 0).testBit k with
  |false=>rfl
  |true=>have:=EI d i o q b k m;rw[c]at this;cases this
 .subst heq
  rw[f]at a;simp at a
 right;have c:p k=IN:=by
  have:IT (k<i)=IS:=by simp;omega
  rw[this]at a;simpa using a
 refine⟨l,?_,c⟩;cases m:((ox ops.toList []).getD k 0).testBit i with
 |false=>rfl
 |true=>have:=EI d k ok g (d k ok g c) i m;rw[f]at this;cases this
def sd{α β:Type}{l:List α}{f:α->β}{j:Nat}{u:β}(h:(l.map f)[j]?=U u):∃x,l[j]?=U x/\f x=u:=by
 rw[aX]at h;cases hl:l[j]? with
 |none=>simp[hl]at h
 |some x=>rw[hl]at h;exact⟨x,rfl,by simpa using h⟩
def Way.step(h:Lex P ops n n0 fs evs sts s0){G0:cb}{σ0:bg}{mr:World}{p:Nat->Bool}{G:cb}{l8:Nat->ag}{σ:bg}{a:Act}{w:World}(hw:Way ops n n0 evs s0 G0 σ0 mr p G l8 σ a w)
  {i:Nat} (a7:i<ops.size) (C:p i=IS) (z:∀o,ops[i]?=U o->∀e∈o.after,cN .any e=IN->p e.on=IN) (K:Act->World->Prop) (Q:Exit->Act->World->Prop)
  (hK:∀G' tm' σ' a' w',Way ops n n0 evs s0 G0 σ0 mr (λj=>j==i||p j) G' tm' σ' a' w'->K a' w'):wpOp P ops Q i K a w:=by
 obtain⟨o,f,ev,st,O,hf,J,l4⟩:=h.at a7;obtain⟨B,e2,e3,e4,e5,e6⟩:=h.all i o f ev st O hf J l4;have hrd:=z o O;have diff:∀k m,evs[k]?=U m->p k≠IT (k<i)->∃ok l,ops[k]?=U ok/\fs[k]?=U l/\DH n0 ops.size k ok l m/\(∀d,ok.dst=U d->d∉o.looksAt ops)/\(((ox ops.toList []).getD i 0).testBit k=IS) /\
   (idle ok.op=IN\/idle o.op=IN\/((∀x∈l.wr,x∉f.rd)/\n0+k∉f.rd/\¬(l.call=IN/\f.call=IN)/\(l.call=IN->∀x∈f.rd,x<l.lC)/\(f.call=IN->l.wr=[])/\l.pE=IS/\f.pE=IS)):=by
  intro k m c b;have hk:k<ops.size:=by have:=(ao.1 c).1;rw[h.mj]at this;exact this
  obtain⟨ok,l,ek',R,g1,g2,g3,g4⟩:=h.at hk;rw[c]at g3;cases g3;obtain⟨lL,_⟩:=h.all k ok l m R g1 g2 c g4;rcases h.unordered hw.closed O C hrd g1 b with⟨r1,r2⟩|⟨r1,r2,_⟩
  .obtain⟨t1,t2⟩:=h.apart r1 g1 O g2 hf r2
   refine⟨ok,l,g1,g2,lL,(gS t1).1,r2,?_⟩;rcases t2 with t|t|t
   .exact .inl t
   .exact .inr (.inl t)
   exact .inr (.inr ⟨λx q=>(t.ww x q).1,t.Tu.1,t.q5,λhc=>(t.Lu hc).2,λhc=>(t.Lv hc).1,t.pY.1,t.pY.2⟩)
  obtain⟨t1,t2⟩:=h.apart r1 O g1 hf g2 r2;refine⟨ok,l,g1,g2,lL,(gS t1).2.2,?_,?_⟩
  .cases S:((ox ops.toList []).getD i 0).testBit k with
   |false=>rfl
   |true=>have:=h.az2 O S;omega
  rcases t2 with t|t|t
  .exact .inr (.inl t)
  .exact .inl t
  exact .inr (.inr ⟨λx q=>t.wr x q,t.Tv.1,λhc=>t.q5 ⟨hc.2,hc.1⟩,λhc=>(t.Lv hc).2,λhc=>(t.Lu hc).1,t.pY.2,t.pY.1⟩)
 have D:Gx ops n0 ops.size ((ox ops.toList []).getD i 0) o f st l8 σ:=by
  refine⟨λt ht=>?_,λid hid=>?_,λhc=>⟨?_,λid hid=>?_⟩,λhc=>⟨?_,λid=>?_⟩⟩
  .rw[hw.l8,e4]
   refine wq t _ 0 _ _ rfl (λk u hu b=>?_);obtain⟨m,c,rfl⟩:=sd hu;rw[aN]at b;obtain⟨ok,l,g1,g2,lL,fa,_⟩:=diff k m c b;cases q:m.tU t with
   |none=>rfl
   |some v=>exact lH ht (fa t (lL.tmp t (by simp[q])))
  .rw[hw.vT,e5]
   refine wq id _ 0 _ _ rfl (λk u hu b=>?_);obtain⟨m,c,rfl⟩:=sd hu;rw[aN]at b;obtain⟨ok,l,g1,g2,lL,_,_,j7⟩:=diff k m c b;cases q:m.sH id with
   |none=>rfl
   |some v=>
    rcases j7 with t|t|⟨t1,t2,t3,t4,_,t6⟩
    .rw[(lL.idle t).1 id]at q;cases q
    .rw[(B.idle t).2.2.1]at hid;cases hid
    rcases lL.obj id (by simp[q])with g|g|⟨g,g'⟩|g
    .exact lH hid (t1 id g)
    .exact lH hid (g▸t2)
    .have:=t4 g id hid;omega
    rw[t6.1]at g;cases g
  .rw[hw.lC,e6]
   refine wq () _ 0 _ _ rfl (λk u hu b=>?_);obtain⟨m,c,rfl⟩:=sd hu;rw[aN]at b;obtain⟨ok,l,g1,g2,lL,_,_,j7⟩:=diff k m c b;have E:l.call=IS:=by
    cases E:l.call with
    |false=>rfl
    |true=>
     rcases j7 with t|t|⟨_,_,t3,_⟩
     .rw[(lL.idle t).2.1]at E;cases E
     .rw[(B.idle t).2.1]at hc;cases hc
     exact lH ⟨E,hc⟩ t3
   have hbk:l.pE=IS:=by
    rcases j7 with t|t|⟨_,_,_,_,_,t6,_⟩
    .exact(lL.idle t).2.2.2
    .rw[(B.idle t).2.1]at hc;cases hc
    exact t6
   exact lL.num E hbk
  .rw[hw.vT,e5]
   refine wq id _ 0 _ _ rfl (λk u hu b=>?_);obtain⟨m,c,rfl⟩:=sd hu;rw[aN]at b;obtain⟨ok,l,g1,g2,lL,_,qm,j7⟩:=diff k m c b;cases q:m.sH id with
   |none=>rfl
   |some v=>
    rcases j7 with t|t|⟨_,_,t3,_,t5⟩
    .rw[(lL.idle t).1 id]at q;cases q
    .rw[(B.idle t).2.1]at hc;cases hc
    rcases lL.obj id (by simp[q])with g|g|⟨g,_⟩|g
    .rw[t5.1 hc]at g;cases g
    .exact lH (TG.2 ⟨k,(aS.1 g1).1,qm,g⟩) hid
    .exact lH ⟨g,hc⟩ t3
    rw[t5.2.1]at g;cases g
  .rw[hw.lC,e6]
   refine wq () _ 0 _ _ rfl (λk u hu b=>?_);obtain⟨m,c,rfl⟩:=sd hu;rw[aN]at b;obtain⟨ok,l,g1,g2,lL,_,_,j7⟩:=diff k m c b;rcases j7 with t|t|⟨_,_,_,_,_,_,t6⟩
   .exact lL.num (lL.idle t).2.1 (lL.idle t).2.2.2
   .rw[(B.idle t).2.2.2]at hc;cases hc
   rw[t6]at hc;cases hc
  rw[hw.vT,e5];refine wq id _ 0 _ _ rfl (λk u hu b=>?_);obtain⟨m,c,rfl⟩:=sd hu;rw[aN]at b;obtain⟨ok,l,g1,g2,lL,_,_,j7⟩:=diff k m c b;rcases j7 with t|t|⟨_,_,_,_,_,_,t6⟩
  .exact(lL.idle t).1 id
  .rw[(B.idle t).2.2.2]at hc;cases hc
  rw[t6]at hc;cases hc
 have later:∀k m,evs[k]?=U m->i<k->p k=IN->∃ok l,ops[k]?=U ok/\fs[k]?=U l/\DH n0 ops.size k ok l m/\(∀d,o.dst=U d->ok.dst≠U d)/\(idle ok.op=IN\/idle o.op=IN\/Pd n0 i k f l):=by
  intro k m c r s;have hk:k<ops.size:=by have:=(ao.1 c).1;rw[h.mj]at this;exact this
  obtain⟨ok,l,ek',R,g1,g2,g3,g4⟩:=h.at hk;rw[c]at g3;cases g3;obtain⟨lL,_⟩:=h.all k ok l m R g1 g2 c g4;have hm:((ox ops.toList []).getD k 0).testBit i=IS:=by
   cases S:((ox ops.toList []).getD k 0).testBit i with
   |false=>rfl
   |true=>have:=EI hw.closed k ok g1 (hw.closed k ok g1 s) i S;rw[C]at this;cases this
  obtain⟨t1,t2⟩:=h.apart r O g1 hf g2 hm;refine⟨ok,l,g1,g2,lL,(gS t1).2.1,?_⟩;rcases t2 with t|t|t
  .exact .inr (.inl t)
  .exact .inl t
  exact .inr (.inr t)
 have V:f.call=IN->f.lC=σ.next:=λhc=>by rw[e3 hc,(D.2.2.1 hc).1]
 refine e2 G a w l8 σ hw.rel D (hw.free i a7 C) hw.QV K Q ?_;intro G' a' w' σ' g1 g2 g3 g4 g5 g6 g7;refine hK G' _ σ' a' w' ⟨g5,λt=>?_,λid=>?_,?_,λj hj M=>?_,λj oj hoj M e he S=>?_,by have:=hw.QV;omega,hw.yd.trans ⟨g1,λk hk hg=>g2 k (by omega) (by omega) hg,g3,g4⟩ (aw _)⟩
 .have:=HM (p:=p) t (u0:=ev.tU) (evs.map (·.tU)) 0 i s0.get (by simp[J]) (by simpa using C) (λk u hu r s b=>by
   obtain⟨m,c,rfl⟩:=sd hu;obtain⟨ok,l,_,_,lL,fa,_⟩:=later k m c r (by simpa using s);cases q:m.tU t with
   |none=>rfl
   |some v=>exact lH (lL.tmp t (by simp[q])) (fa t (B.tmp t b)))
  simp only[aN]at this;rw[this,hw.l8]
 .have:=HM (p:=p) id (u0:=ev.sH) (evs.map (·.sH)) 0 i s0.st.bT (by simp[J]) (by simpa using C) (λk u hu r s b=>by
   obtain⟨m,c,rfl⟩:=sd hu;obtain⟨ok,l,_,_,lL,_,j7⟩:=later k m c r (by simpa using s);cases q:m.sH id with
   |none=>rfl
   |some v=>
    rcases j7 with t|t|t
    .rw[(lL.idle t).1 id]at q;cases q
    .exact lH ((B.idle t).1 id) b
    have o1:=B.obj id b;have o2:=lL.obj id (by simp[q]);have hk:k<ops.size:=by have:=(ao.1 c).1;rw[h.mj]at this;exact this
    have o1:id∈f.wr\/id=n0+i\/(f.call=IN/\f.lC<=id):=by
     rcases o1 with h'|h'|h'|h'
     .exact .inl h'
     .exact .inr (.inl h')
     .exact .inr (.inr h')
     rw[t.pY.1]at h';cases h'
    have o2:id∈l.wr\/id=n0+k\/(l.call=IN/\l.lC<=id):=by
     rcases o2 with h'|h'|h'|h'
     .exact .inl h'
     .exact .inr (.inl h')
     .exact .inr (.inr h')
     rw[t.pY.2]at h';cases h'
    rcases o1 with H|H|⟨H,a1'⟩<;>rcases o2 with I|I|⟨I,b1'⟩
    .exact lH I (t.ww id H).2
    .exact lH H (I▸t.Tv.2)
    .rw[(t.Lv I).1]at H;cases H
    .exact lH I (H▸t.Tu.2)
    .omega
    .have:=lL.start I;omega
    .rw[(t.Lu H).1]at I;cases I
    .have:=B.start H;omega
    exact lH ⟨H,I⟩ t.q5)
  simp only[aN]at this;rw[g6,this,hw.vT]
 .have:=HM (p:=p) () (u0:=λ_:Unit=>ev.tk) (evs.map λe=>λ_:Unit=>e.tk) 0 i (λ_=>s0.st.next) (by simp[J]) (by simpa using C) (λk u hu r s b=>by
   obtain⟨m,c,rfl⟩:=sd hu;obtain⟨ok,l,_,_,lL,_,j7⟩:=later k m c r (by simpa using s);cases q:m.tk with
   |none=>rfl
   |some v=>
    rcases j7 with t|t|t
    .rw[lL.num (lL.idle t).2.1 (lL.idle t).2.2.2]at q;cases q
    .exact lH (B.num (B.idle t).2.1 (B.idle t).2.2.2) b
    have c1:f.call=IN:=by
     cases hc:f.call with
     |true=>rfl
     |false=>exact lH (B.num hc t.pY.1) b
    have c2:l.call=IN:=by
     cases hc:l.call with
     |true=>rfl
     |false=>rw[lL.num hc t.pY.2]at q;cases q
    exact lH ⟨c1,c2⟩ t.q5)
  simp only[aN]at this;rw[g7,this,hw.lC]
 .have N:j≠i:=λe=>by subst e;simp at M
  have:p j=IS:=by simpa[N]using M
  exact g2 (n0+j) (by omega) (by omega) (hw.free j hj this)
 by_cases N:j=i
 .subst N
  simp[z oj hoj e he S]
 have:p j=IN:=by simpa[N]using M
 simp[hw.closed j oj hoj this e he S]
def Way.any(h:Lex P ops n n0 fs evs sts s0){G0:cb}{σ0:bg}{mr:World}(Q:Exit->Act->World->Prop)
  (x:∀p G l8 σ a w,Way ops n n0 evs s0 G0 σ0 mr p G l8 σ a w->(∀i,i<ops.size->p i=IN)->Q .normal a w) :
  ∀(fuel:Nat) (listed:Array Bool) (G:cb) (l8:Nat->ag) (σ:bg) (a:Act) (w:World),listed.size=ops.size->left ops.size (λj=>listed.getD j IS)=fuel ->
   Way ops n n0 evs s0 G0 σ0 mr (λj=>listed.getD j IS) G l8 σ a w->wpAny P .any ops Q fuel listed a w:=by
 have nil:∀(listed:Array Bool),listed.size=ops.size->bP .any ops listed=[]->∀i,i<ops.size->listed.getD i IS=IN:=by
  intro listed b d i
  induction i using gX with
  |_ i s=>
   intro a7;cases hl:listed.getD i IS with
   |true=>rfl
   |false=>
    obtain⟨o,f,ev,st,m,_⟩:=h.at a7;have:i∈bP .any ops listed:=mem_ready.2 ⟨by simp[b,a7]at hl⊢;exact hl,o,m,λe he z=>by
     have c:=h.LS m he z;exact s e.on c (by omega)⟩
    rw[d]at this;cases this
 intro fuel
 induction fuel with
 |zero=>
  intro listed G l8 σ a w b g hw;have k:=TW g;refine⟨?_,x _ _ _ _ _ _ hw k⟩;cases B:bP .any ops listed with
  |nil=>rfl
  |cons i is=>
   have:i∈bP .any ops listed:=by rw[B];simp
   obtain⟨h1,o,m,_⟩:=mem_ready.1 this;have a7:i<ops.size:=(aS.1 m).1;have:=k i a7;simp[b,a7]at h1 this;rw[h1]at this;cases this
 |succ fuel s=>
  intro listed G l8 σ a w b g hw;refine⟨λd=>x _ _ _ _ _ _ hw (nil listed b d),λi a7=>?_⟩;obtain⟨h1,o,m,t⟩:=mem_ready.1 a7;have c:i<ops.size:=(aS.1 m).1;have q:listed.getD i IS=IS:=by simp[b,c]at h1⊢;exact h1
  have l:∀j,(listed.setIfInBounds i IN).getD j IS=(j==i||listed.getD j IS):=λj=>by
   by_cases e:j=i
   .subst e;simp[b,c]
   rw[getD_set_ne IS (kD e)];have:(j==i)=IS:=by simpa using e
   rw[this];rfl
  refine Way.step h hw c q (λo' r=>by rw[m]at r;cases r;exact t) _ Q ?_;intro G' u σ' C w' v;refine s (listed.setIfInBounds i IN) G' u σ' C w' (by simp[b]) ?_ (by
   have e:(λj=>(listed.setIfInBounds i IN).getD j IS)=(λj=>j==i||listed.getD j IS):=funext l;rw[e];exact v)
  have e:(λj=>(listed.setIfInBounds i IN).getD j IS)=(λj=>j==i||listed.getD j IS):=funext l;rw[e];have:=VF (p:=λj=>listed.getD j IS) c q;omega
end
def mY.drawn{P:Program}{T:dd}(ca:mc P T)(hm:P.follows .mixedOrders=IN){cl:FuncId->List ag->bg->Option (ag×bg)}
  (D:∀f args σ v σ',cl f args σ=U (v,σ')->po P f args σ (λH m=>H=v/\m=σ')/\pH σ σ')
  {id:Nat} {ops:Array Oper} {s s':AS} (h:AM T cl ops s=U s') {Q:Exit->AS->Prop} (I:Q .normal s'):mY P (.region id ops IN) Q s:=by
 unfold AM at h;split at h
 case isFalse=>cases h
 rename_i l4;split at h
 case h_2=>cases h
 rename_i s1 fs J;split at h
 case isFalse=>cases h
 rename_i vM;cases h;intro G a w b;refine wp_region_any hm ?_;obtain⟨evs,sts,mj,nh,px,K,q,g1,g2,g3⟩:=N_ ca D ops.toList 0 _ _ fs (λj=>by simp) (by simp) (aw _) J;simp only[ja]at mj nh px;have r:Lex P ops s.n s.st.next fs evs sts { s with st:={ s.st with next:=s.st.next+ops.size } }:=⟨l4,vM,mj,nh,px,λj o f ev st h1 h2 M N=>by
  have:=q j o f ev st (by simpa using h1) h2 M N;simpa using this⟩
 have i:left ops.size (λj=>(bz ops.size IS).getD j IS)=ops.size:=by
  unfold left;rw[di.2 (λx z=>by
   have:x<ops.size:=by simpa using z
   simp[this])]
  simp
 have B:∀j,(bz ops.size IS).getD j IS=IS:=λj=>by by_cases hj:j<ops.size<;>simp[hj]
 refine Way.any r (G0:=G) (σ0:=s.st) (mr:=w) _ ?_ ops.size (bz ops.size IS) G s.get { s.st with next:=s.st.next+ops.size } a { w with drawn:=w.drawn+1 } (by simp) i ?_
 .intro p G' l8 σ O w' hw hp
  have agree:∀ {L V:Type} (us:List (L->Option V)) (f:L->V),us.length=ops.size->fold p us 0 f=fold (λ_=>IN) us 0 f:=λus f hl=>funext λl=>wq l us 0 f f rfl (λj u hu C=>by
   have hj:j<ops.size:=by have:=(ao.1 hu).1;omega
   rw[aN]at C;exact lH (hp j hj) C)
  have d:σ.next=s'.st.next:=by rw[hw.lC,agree _ _ (by simp[mj]),g3]
  have g:∀k,σ.bT k=s'.st.bT k:=λk=>by rw[hw.vT,agree _ _ (by simp[mj]),g2]
  have E:∀t,l8 t=s'.get t:=λt=>by rw[hw.l8,agree _ _ (by simp[mj]),g1]
  refine⟨s',G',⟨hw.yd.le,hw.yd.keeps,by rw[<-d];exact hw.yd.next,hw.yd.bb.trans (Fr.less λk x z=>by rw[g];exact z)⟩,⟨hw.rel.defers,by rw[hw.rel.size,K],λt=>by rw[<-E];exact hw.rel.tmps t,hw.rel.rel.less d.symm (λk x z=>by rw[g];exact z)⟩,I⟩
 have c:∀ {L V:Type} (us:List (L->Option V)) (f:L->V) (l:L),fold (λj=>(bz ops.size IS).getD j IS) us 0 f l=f l:=λus f l=>Aw l us 0 f _ (λj u _ hp=>by rw[B]at hp;cases hp) rfl;refine⟨⟨b.defers,b.size,b.tmps,(b.rel.next (aY _ _)).drawn _⟩,λt=>(c _ _ _).symm,λk=>(c _ _ _).symm,(c (evs.map λe=>λ_:Unit=>e.tk) (λ_=>s.st.next+ops.size) ()).symm,λj _ _=>b.rel.fresh _ (aY _ _),(λj o _ hp=>by rw[B]at hp;cases hp),aw _,?_⟩;exact⟨.refl G,.refl _ G,aY _ _,(Fr.less (σ:=s.st) (σ':={ s.st with next:=s.st.next+ops.size }) (λ_ _ h=>h)).trans (Fr.Re _ _ _ _ (aY _ _))⟩
def J1(T:dd)(t:TypeId)(args:List ag)(σ:bg):Option (ag×bg) :=
 match args with
 | [x]=>match T t with
  |some { fT:=.slice elem,.. }=>match T elem with
   |some a=>match nV σ x with
    |some xs=>if(xs.all λc=>c.length==a.size&&c.all ag.one)=IN/\(2*xs.length+1000)*a.bytes<=2^48/\xs.length<=2^62/\0<a.size then
      match x.isNil with
      |some IN=>U (.bF (.slice No 0 0),{ σ with next:=σ.next+7 })
      |_=>U (.ms (σ.next+5) a.size 0 xs.length,{ σ with next:=σ.next+7 }.set (σ.next+5) (.row elem a.size xs))else No
    |none=>No
   |none=>No
  |_=>No
 |_=>No
def fb.ofList{α:Type}:List (Nat×α)->fb α->fb α
 | [],t=>t
 | (k,v)::l,t=>fb.ofList l (t.set k (U v))
def fb.Iz{α:Type}:∀(l:List (Nat×α)) (t:fb α) (k:Nat) (v:α),(fb.ofList l t).get k=U v->(k,v)∈l\/t.get k=U v
 | [],t,k,v,h=>.inr h
 | (j,u)::l,t,k,v,h=>by
  rcases fb.Iz l (t.set j (U u)) k v h with h1|h1
  .exact .inl (bB _ h1)
  rw[fb.E0]at h1;split at h1
  next e=>cases h1;exact .inl (by rw[e];simp)
  exact .inr h1
def Ru(P:Program):fb Func:=fb.ofList (P.funcs.toList.zipIdx.map λp=>(p.2,p.1)) .leaf
def at1(P:Program)(f:FuncId)(fn:Func)(h:(Ru P).get f=U fn):P.funcs[f]?=U fn:=by
 rcases fb.Iz _ _ _ _ h with h|h
 .grind
 rw[fb.sc]at h;cases h
def tQ(f:ag->Option ag):List ag->Option (List ag)
 | []=>U []
 |c::cs=>match f c,tQ f cs with
  |some x,U xs=>U (x::xs)
  |_,_=>No
def Fm(f:ag->Option ag):List (List ag)->Option (List (List ag))
 | []=>U []
 |c::cs=>match tQ f c,Fm f cs with
  |some x,U xs=>U (x::xs)
  |_,_=>No
def xF{f:ag->Option ag}:∀ {l a:List ag},tQ f l=U a->a.length=l.length/\∀i (h:i<l.length) (h':i<a.length),f l[i]=U a[i]
 | [],a,h=>by simp only[tQ,ai]at h;subst h;exact⟨rfl,λi h=>by simp at h⟩
 |c::cs,a,h=>by
  unfold tQ at h;split at h
  next x xs h1 h2=>
   cases h;obtain⟨d,e⟩:=xF h2;refine⟨by simp[d],λi a7 b=>?_⟩;cases i with
   |zero=>exact h1
   |succ i=>exact e i (by simpa using a7) (by simpa using b)
  cases h
def V1{f:ag->Option ag}:∀ {l a:List (List ag)},Fm f l=U a->a.length=l.length/\∀i (h:i<l.length) (h':i<a.length),tQ f l[i]=U a[i]
 | [],a,h=>by simp only[Fm,ai]at h;subst h;exact⟨rfl,λi h=>by simp at h⟩
 |c::cs,a,h=>by
  unfold Fm at h;split at h
  next x xs h1 h2=>
   cases h;obtain⟨d,e⟩:=V1 h2;refine⟨by simp[d],λi a7 b=>?_⟩;cases i with
   |zero=>exact h1
   |succ i=>exact e i (by simpa using a7) (by simpa using b)
  cases h
def Live(G:cb)(σ:bg)(b:Nat):Prop:=∃id o p,σ.bT id=U o/\G.pl id=U p/\p.mF=IS/\p.block=b
open Classical in
noncomputable def cb.frozen(G:cb)(σ:bg)(w:World)(pl:Nat->Option nm):cb :={ mr:=G.mr,lM:=λb=>if Live G σ b then w.heap[b]? else G.lM b,pl:=pl }
def tZ{G:cb}{σ:bg}{w:World}(h:Rel G σ w){pl:Nat->Option nm}{b:Nat}{o:Obj}(a:G.lM b=U o):(G.frozen σ w pl).lM b=U o:=by
 simp only[cb.frozen];split
 next hl=>
  obtain⟨id,x,p,h1,h2,c,rfl⟩:=hl;rw[(h.real h1 h2 c).1]at a;cases a
 exact a
def L1{G:cb}{σ:bg}{w:World}(h:Rel G σ w){pl:Nat->Option nm}{b o:Nat}{v:Value}(hc:G.cell b o=U v):(G.frozen σ w pl).cell b o=U v:=by
 unfold cb.cell at *;cases a:G.lM b with
 |none=>simp[a]at hc
 |some x=>rw[tZ h a];simpa[a]using hc
def bg.none:bg:={ next:=0,mv:=.leaf,low:=0 }
def bg.ux(id:Nat):bg.none.bT id=kE:=fb.sc id
def Ph:Value->Value->Bool
 | .bool a,.bool b=>a==b
 | .int k a,.int l b=>IT (k=l)&&IT (a=b)
 | .string a,.string b=>IT (a=b)
 | .slice No 0 0,.slice No 0 0=>IN
 |_,_=>IS
def ZJ{a b:Value}(h:Ph a b=IN):a=b:=by
 unfold Ph at h
 grind
structure PX where
 f:FuncId
 args:List ag
 c:ag
def oI(P:Program)(m:PX):Prop:=∀σ,po P m.f m.args σ (λv σ'=>v=m.c/\σ'=σ)
def yJ(P:Program):Nat->List Field->Bool
 |_,[]=>IN
 |i,f::fs=>(f.name != "_")&&aB f.offset i&&(match P.underlying f.type with | some (.int _)=>IN | _=>IS)&&yJ P (i+1) fs
def K0(P:Program)(t:TypeId):Option Nat:=match P.underlying t with
 |some (.int _)=>U 1
 |some (.struct fs)=>match !P.stoodInHeld t&&yJ P 0 fs.toList,P.info? t with
  |true,U i=>match aB i.size fs.size with
   |true=>U fs.size
   |false=>No
  |_,_=>No
 |_=>No
def vG(P:Program):Nat->List Field->Option Nat
 |i,[]=>U i
 |i,f::fs=>match(f.name != "_")&&aB f.offset i with
  |true=>match K0 P f.type with
   |some k=>vG P (i+k) fs
   |none=>No
  |false=>No
def Rl(o:Option Nat)(n:Nat):Bool:=match o with
 |some m=>aB m n
 |none=>IS
def Pe(P:Program)(t:TypeId)(n:Nat):Option Nat :=
 match P.eqGuardType P.depth t with
 |true=>No
 |false=>match P.underlying t with
  |some (.struct fs)=>if !P.stoodInHeld t&&Rl (vG P 0 fs.toList) n then U n else No
  |some (.array len elem)=>match P.underlying elem,P.info? elem with
   |some (.int _),U i=>if aB i.size 1&&aB len n then U n else No
   |_,_=>No
  |_=>No
def B2(P:Program)(t:TypeId):Option mL :=
 match P.underlying t,P.info? t with
 |some u,U i=>match i.zero with
  |some z=>match aB z.cells.size i.size with
   |true=>U { fT:=u,size:=i.size,zero:=z,bytes:=i.bytes,flat:=Pe P t i.size }
   |false=>No
  |none=>No
 |_,_=>No
def sC(l:List Int):Array Value:=(l.map (bG .i64)).toArray
def bd4(k:Nat){xs ys:List Int}(h:xs.length=ys.length):(xs==ys)=((xs.take k==ys.take k)&&(xs.drop k==ys.drop k)):=by
 rw[Bool.eq_iff_iff];simp only[beq_iff_eq,ab];constructor
 .rintro rfl;exact⟨rfl,rfl⟩
 rintro ⟨h1,h2⟩;rw[<-cJ k xs,<-cJ k ys,h1,h2]
section
variable {P:Program} (w:World)
def yF{t:TypeId}{k:IntKind}(h:P.underlying t=U (.int k))(cs:Array Value)(off:Nat)(v:Value)(hv:cs[off]?=U v):(part t cs off).run P w=.ok v w:=by simp[part,isAgg,underlying,h,hv]
def RI(d:Nat)(az bs:List Int):∀(fs:List Field) (i:Nat),yJ P i fs=IN->i+fs.length=az.length->bs.length=az.length ->
  (fQ (d+1) (az.map (bG .i64)).toArray (bs.map (bG .i64)).toArray fs).run P w=.ok (az.drop i==bs.drop i) w
 | [],i,_,h1,h2=>by simp only[List.length_nil,dW]at h1;simp[fQ,h1,<-h2]
 |f::fs,i,hf,h1,h2=>by
  simp only[aA]at h1;simp only[yJ,ab]at hf;obtain⟨⟨⟨g,h⟩,hu⟩,j⟩:=hf;have b:f.offset=i:=af h;have c:f.name≠ "_":=by simpa using g
  split at hu
  next k hk=>
   have ha:(az.map (bG .i64)).toArray[f.offset]?=U (.int .i64 (az[i]'(by omega))):=by rw[b];simp
   have l:(bs.map (bG .i64)).toArray[f.offset]?=U (.int .i64 (bs[i]'(by omega))):=by rw[b];simp
   have m:=RI d az bs fs (i+1) j (by omega) h2;have n:az.drop i=az[i]'(by omega)::az.drop (i+1):=bN (by omega);have o:bs.drop i=bs[i]'(by omega)::bs.drop (i+1):=bN (by omega);simp only[fQ,b9 c,an,yF w hk _ _ _ ha,yF w hk _ _ _ l,ah,run_equalIn_int w d f.type .i64 k _ _ hk];have key:(az.drop i==bs.drop i)=((az[i]'(by omega)==bs[i]'(by omega))&&(az.drop (i+1)==bs.drop (i+1))):=by rw[n,o];exact jx
   rw[key];by_cases e:az[i]'(by omega)=bs[i]'(by omega)
   .have a:(az[i]'(by omega)==bs[i]'(by omega))=IN:=by simpa using e
    simp only[a,ax,aq,j2,m,dX]
   have a:(az[i]'(by omega)==bs[i]'(by omega))=IS:=by simpa using e
   simp only[a,aW,jj,ar,ib]
  cases hu
def Rh(b:Bool)(d:Nat)(az:List Int):∀(fs:List Field) (i:Nat),yJ P i fs=IN->i+fs.length=az.length ->
  (forIn fs du (λ(f:Field) (_:PUnit)=>do
    if f.name≠ "_" then bK b (d+1) f.type (<- part f.type (az.map (bG .i64)).toArray f.offset)
    pure (fH du)):Sem PUnit).run P w=.ok du w
 | [],i,_,h1=>by simp
 |f::fs,i,hf,h1=>by
  simp only[aA]at h1;simp only[yJ,ab]at hf;obtain⟨⟨⟨g,h⟩,hu⟩,j⟩:=hf;have a:f.offset=i:=af h;have c:f.name≠ "_":=by simpa using g
  split at hu
  next k hk=>
   have ha:(az.map (bG .i64)).toArray[f.offset]?=U (.int .i64 (az[i]'(by omega))):=by rw[a];simp
   have l:=Rh b d az fs (i+1) j (by omega);have e:(bK b (d+1) f.type (.int .i64 (az[i]'(by omega)))).run P w=.ok () w:=by simp[bK,underlying,hk]
   rw[fW];simp only[b9 c,an,yF w hk _ _ _ ha,ah,e,ar];exact l
  cases hu
def av7{t:TypeId}{fs:Array Field}(hu:P.underlying t=U (.struct fs))(hf:yJ P 0 fs.toList=IN)(b:Bool)(d:Nat)(az:List Int)(h1:az.length=fs.size) :
  (bK b (d+2) t (.agg (az.map (bG .i64)).toArray)).run P w=.ok () w:=by
 have:=Rh w b d az fs.toList 0 hf (by simp[h1]);rw[bK];simp only[an,run_underlying hu,ah];rw[<-jo];have e:=mP (λr=>r.andThen λ(_:PUnit) w'=>iy P (pure ()) w') this;simp only[ah,ar]at e;exact e
structure K8(P:Program)(w:World)(t:TypeId)(k d:Nat):Prop where
 ok:∀(az:List Int) (off:Nat),off+k<=az.length->∃v,(part t (sC az) off).run P w=.ok v w/\(∀b,(bK b d t v).run P w=.ok () w) /\
  ∀(bs:List Int),bs.length=az.length->∃u,(part t (sC bs) off).run P w=.ok u w/\(eW d t v u).run P w=.ok ((az.drop off).take k==(bs.drop off).take k) w
def Wx{az:List Int}{off:Nat}(h:off<az.length):(az.drop off).take 1=[az[off]]:=by rw[bN h];rfl
def ZH{t:TypeId}{k:IntKind}(h:P.underlying t=U (.int k))(d:Nat):K8 P w t 1 (d+1):=by refine⟨λaz off a=>⟨.int .i64 (az[off]'(by omega)),yF w h _ _ _ (by simp[sC]),λb=>by simp[bK,underlying,h],λbs c=>⟨.int .i64 (bs[off]'(by omega)),yF w h _ _ _ (by simp[sC]),?_⟩⟩⟩;rw[run_equalIn_int w d t .i64 k _ _ h,Wx (by omega),Wx (by omega)];simp
def aP8(az:List Int)(off k:Nat):(sC az).extract off (off+k)=sC ((az.drop off).take k):=by unfold sC;rw[<-Array.toList_inj];simp[dY,dZ]
def aW8{t:TypeId}{fs:Array Field}(hu:P.underlying t=U (.struct fs))(hs:P.stoodInHeld t=IS)(hf:yJ P 0 fs.toList=IN)(hz:∀w,(sizeOf t).run P w=.ok fs.size w)(d:Nat):K8 P w t fs.size (d+3):=by
 have a:P.fieldsOf t=fs:=by simp[jq,hu]
 have hp:∀(az:List Int) (off:Nat),(part t (sC az) off).run P w=.ok (.agg (sC ((az.drop off).take fs.size))) w:=λaz off=>by rw[<-aP8];simp[part,isAgg,underlying,hu,hz]
 refine⟨λaz off c=>⟨_,hp az off,λb=>?_,λbs e=>⟨_,hp bs off,?_⟩⟩⟩
 .exact av7 w hu hf b (d+1) ((az.drop off).take fs.size) (by simp;omega)
 rw[run_equalIn_struct w (d+2) t _ _ (by rw[a];exact hu) hs,a];have:=RI w (d+1) ((az.drop off).take fs.size) ((bs.drop off).take fs.size) fs.toList 0 hf (by simp;omega) (by simp;omega);simpa[sC]using this
def PK{t:TypeId}{k:Nat}(h:K0 P t=U k)(d:Nat):K8 P w t k (d+3):=by
 unfold K0 at h;split at h
 next b hk=>
  cases h;exact ZH w hk (d+2)
 next fs hu=>
  split at h
  next i hc a7=>
   split at h
   next a=>
    cases h;simp only[ab,bS]at hc;have a:=af a;exact aW8 w hu hc.1 hc.2 (λw=>by simp[sizeOf,typeInfo,a7,a]) d
   cases h
  cases h
 cases h
def MH:∀(fs:List Field) (i n:Nat),vG P i fs=U n->i<=n
 | [],i,n,h=>by simp only[vG,ai]at h;omega
 |f::fs,i,n,h=>by
  unfold vG at h;split at h
  .split at h
   .have:=MH fs _ n h;omega
   cases h
  cases h
def UD(d:Nat)(az bs:List Int):∀(fs:List Field) (i:Nat),vG P i fs=U az.length->bs.length=az.length ->
  (fQ (d+3) (sC az) (sC bs) fs).run P w=.ok (az.drop i==bs.drop i) w
 | [],i,h1,h2=>by simp only[vG,ai]at h1;simp[fQ,h1,<-h2]
 |f::fs,i,h1,h2=>by
  unfold vG at h1;split at h1
  next hc=>
   split at h1
   next k hk=>
    simp only[ab]at hc;have a:f.name≠ "_":=by simpa using hc.1
    have b:f.offset=i:=af hc.2;have hle:=MH fs _ _ h1;obtain⟨v,hv,_,c⟩:=(PK w hk d).ok az i hle;obtain⟨u,hu,he⟩:=c bs h2;have e:=UD d az bs fs (i+k) h1 h2;simp only[fQ,b9 a,an,b,hv,hu,ah,he];have key:=bd4 k (xs:=az.drop i) (ys:=bs.drop i) (by simp[h2]);rw[eD,eD]at key;rw[key];cases g:(az.drop i).take k==(bs.drop i).take k with
    |true=>simp only[ax,aq,j2,e,dX]
    |false=>simp only[aW,jj,ar,ib]
   cases h1
  cases h1
def Sd(b:Bool)(d:Nat)(az:List Int):∀(fs:List Field) (i:Nat),vG P i fs=U az.length ->
  (forIn fs du (λ(f:Field) (_:PUnit)=>do
    if f.name≠ "_" then bK b (d+3) f.type (<- part f.type (sC az) f.offset)
    pure (fH du)):Sem PUnit).run P w=.ok du w
 | [],i,h1=>by simp
 |f::fs,i,h1=>by
  unfold vG at h1;split at h1
  next hc=>
   split at h1
   next k hk=>
    simp only[ab]at hc;have a:f.name≠ "_":=by simpa using hc.1
    have c:f.offset=i:=af hc.2;have hle:=MH fs _ _ h1;obtain⟨v,hv,e,_⟩:=(PK w hk d).ok az i hle;rw[fW];simp only[b9 a,an,c,hv,ah,e b,ar];exact Sd b d az fs (i+k) h1
   cases h1
  cases h1
def aA3{t:TypeId}{fs:Array Field}(hu:P.underlying t=U (.struct fs))(hs:P.stoodInHeld t=IS)(az bs:List Int)(hf:vG P 0 fs.toList=U az.length)(h2:bs.length=az.length) :
  (eW 10000 t (.agg (sC az)) (.agg (sC bs))).run P w=.ok (az==bs) w /\
  ∀b,(bK b 10000 t (.agg (sC az))).run P w=.ok () w:=by
 have a:P.fieldsOf t=fs:=by simp[jq,hu]
 constructor
 .rw[run_equalIn_struct w 9999 t _ _ (by rw[a];exact hu) hs,a,UD w 9996 az bs fs.toList 0 hf h2]
  simp
 intro b;have:=Sd w b 9996 az fs.toList 0 hf;rw[bK];simp only[an,run_underlying hu,ah];rw[<-jo];have e:=mP (λr=>r.andThen λ(_:PUnit) w'=>iy P (pure ()) w') this;simp only[ah,ar]at e;exact e
def RY{elem:TypeId}{k:IntKind}(hu:P.underlying elem=U (.int k))(d:Nat)(az bs:List Int)(h2:bs.length=az.length):∀(m i:Nat),i+m=az.length ->
  (forIn (dU i m) (No,du) (λ(i:Nat) (_:Option Bool×PUnit)=>do
    if !(<-eW (d+1) elem (<-part elem (az.map (bG .i64)).toArray (i*1)) (<-part elem (bs.map (bG .i64)).toArray (i*1)))then pure (ForInStep.done (U IS,du))else pure (fH (No,du))):Sem (Option Bool×PUnit)).run P w=.ok (if az.drop i==bs.drop i then No else U IS,du) w
 | 0,i,h1=>by simp only[dW]at h1;simp[h1,<-h2]
 |m+1,i,h1=>by
  have ha:(az.map (bG .i64)).toArray[i*1]?=U (.int .i64 (az[i]'(by omega))):=by simp
  have c:(bs.map (bG .i64)).toArray[i*1]?=U (.int .i64 (bs[i]'(by omega))):=by simp
  have e:=RY hu d az bs h2 m (i+1) (by omega);have f:az.drop i=az[i]'(by omega)::az.drop (i+1):=bN (by omega);have g:bs.drop i=bs[i]'(by omega)::bs.drop (i+1):=bN (by omega);have key:(az.drop i==bs.drop i)=((az[i]'(by omega)==bs[i]'(by omega))&&(az.drop (i+1)==bs.drop (i+1))):=by rw[f,g];exact jx
  rw[jU,fW,key];simp only[an,yF w hu _ _ _ ha,yF w hu _ _ _ c,ah,run_equalIn_int w d elem .i64 k _ _ hu];by_cases b:az[i]'(by omega)=bs[i]'(by omega)
  .have a:(az[i]'(by omega)==bs[i]'(by omega))=IN:=by simpa using b
   simp only[a,ax,aq,j2,ar,ah,dX];exact e
  have a:(az[i]'(by omega)==bs[i]'(by omega))=IS:=by simpa using b
  simp only[a,aW,jj,ar,ah,ib,aq,j2]
def Rq{elem:TypeId}{k:IntKind}(hu:P.underlying elem=U (.int k))(hz:(sizeOf elem).run P w=.ok 1 w)(b:Bool)(d:Nat)(az:List Int):∀(m i:Nat),i+m=az.length ->
  (forIn (dU i m) du (λ(i:Nat) (_:PUnit)=>do
    bK b (d+1) elem (<-part elem (az.map (bG .i64)).toArray (i*(<-sizeOf elem)))
    pure (fH du)):Sem PUnit).run P w=.ok du w
 | 0,i,h1=>by simp
 |m+1,i,h1=>by
  have ha:(az.map (bG .i64)).toArray[i*1]?=U (.int .i64 (az[i]'(by omega))):=by simp
  have c:=Rq hu hz b d az m (i+1) (by omega);have a:(bK b (d+1) elem (.int .i64 (az[i]'(by omega)))).run P w=.ok () w:=by simp[bK,underlying,hu]
  rw[jU,fW];simp only[an,hz,ah,yF w hu _ _ _ ha,a,ar];exact c
def ax1{t elem:TypeId}{n:Nat}{k:IntKind}(a:P.underlying t=U (.array n elem))(hu:P.underlying elem=U (.int k))(hz:(sizeOf elem).run P w=.ok 1 w)(b:Bool)(d:Nat)(az:List Int)(h1:az.length=n) :
  (bK b (d+2) t (.agg (az.map (bG .i64)).toArray)).run P w=.ok () w:=by
 have:=Rq w hu hz b d az n 0 (by omega);rw[bK];simp only[an,run_underlying a,ah];rw[eX];have e:=mP (λr=>r.andThen λ(_:PUnit) w'=>iy P (pure ()) w') this;simp only[ah,ar]at e;simpa using e
def aC8{t elem:TypeId}{n:Nat}{k:IntKind}(e:P.underlying t=U (.array n elem))(hu:P.underlying elem=U (.int k))(hz:(sizeOf elem).run P w=.ok 1 w)(d:Nat)(az bs:List Int)(h1:az.length=n)(h2:bs.length=n) :
  (eW (d+2) t (.agg (az.map (bG .i64)).toArray) (.agg (bs.map (bG .i64)).toArray)).run P w=.ok (az==bs) w:=by
 have:=RY w hu d az bs (by omega) n 0 (by omega);rw[eW];simp only[an,run_underlying e,ah,hz];rw[eX];have a:[:n].size=n:=by simp
 rw[a]
 erw [this]
 simp only[ah,gB];by_cases c:(az==bs)=IN
 .simp[c]
 have b:(az==bs)=IS:=by simpa using c
 rw[b];simp
def ZW(P:Program):mc P (B2 P):=by
 have a:∀t ti,B2 P t=U ti->∃u i z,P.underlying t=U u/\P.info? t=U i/\i.zero=U z/\z.cells.size=i.size/\ti={ fT:=u,size:=i.size,zero:=z,bytes:=i.bytes,flat:=Pe P t i.size }:=by
  intro t ti h;unfold B2 at h;split at h
  next u i hu a7=>
   split at h
   next z hz=>
    split at h
    next q=>
     cases h;exact⟨u,i,z,hu,a7,hz,af q,rfl⟩
    cases h
   cases h
  cases h
 refine⟨λt ti h=>?_,λt ti h=>?_,λt ti h=>?_,λt ti n h c=>?_⟩
 .obtain⟨u,i,z,h1,h2,f,g,rfl⟩:=a t ti h;exact h1
 .obtain⟨u,i,z,h1,h2,f,g,rfl⟩:=a t ti h;exact⟨i,h2,rfl,rfl,f⟩
 .obtain⟨u,i,z,h1,h2,f,g,rfl⟩:=a t ti h;exact g
 obtain⟨u,i,z,h1,h2,f,g,rfl⟩:=a t ti h;simp only at c;unfold Pe at c;split at c
 .cases c
 rename_i r;refine⟨r,λaz bs w ha q=>?_⟩;split at c
 next fs d=>
  split at c
  next hc=>
   cases c;simp only[ab,bS]at hc;obtain⟨j,e⟩:=hc;unfold Rl at e;split at e
   next m hm=>
    have l:=af e;exact aA3 w d j az bs (by rw[hm,l,ha]) (by omega)
   cases e
  cases c
 next len elem d=>
  split at c
  next k v hk o=>
   split at c
   next hc=>
    cases c;simp only[ab]at hc;have p:=af hc.1;have s:=af hc.2;have hz:(sizeOf elem).run P w=.ok 1 w:=by simp[sizeOf,typeInfo,o,p]
    exact⟨aC8 w d hk hz 9998 az bs (by omega) (by omega),λb=>ax1 w d hk hz b 9998 az (by omega)⟩
   cases c
  cases c
 cases c
def OX(P:Program):fb mL:=fb.ofList ((bo P.types.size).filterMap λt=>(B2 P t).map λx=>(t,x)) .leaf
def bd2(P:Program):mc P (λt=>(OX P).get t):=by
 have key:∀t ti,(OX P).get t=U ti->B2 P t=U ti:=by
  intro t ti h;rcases fb.Iz _ _ _ _ h with h|h
  .obtain⟨x,_,b⟩:=dP.1 h
   cases ca:B2 P x with
   |none=>simp[ca]at b
   |some y=>simp[ca]at b;obtain⟨rfl,rfl⟩:=b;exact ca
  rw[fb.sc]at h;cases h
 have a:=ZW P;exact⟨λt ti h=>a.fT t ti (key t ti h),λt ti h=>a.info t ti (key t ti h),λt ti h=>a.DC t ti (key t ti h),λt ti n h=>a.flat t ti n (key t ti h)⟩
end
def uh.weaken{P:Program}{f:FuncId}{args:List ag}{σ:bg}{R d:ag->bg->Prop}(h:uh P f args σ R)
  (j:∀v σ1,R v σ1->∃a,d v a/\σ1.next<=a.next/\∀k x,a.bT k=U x->σ1.bT k=U x):uh P f args σ d:=by
 intro G vs w h1 h2;refine(h G vs w h1 h2).mono ?_;rintro e w' ⟨v,g,σ1,G',rfl,b,l,m,n⟩;obtain⟨a,c1,c2,i⟩:=j g σ1 n;have c:Rel G' { σ1 with next:=a.next } w':=m.next c2;exact⟨v,g,a,G',rfl,⟨b.le,b.keeps,bI b.next c2,b.bb.trans (Fr.less i)⟩,l,c.less rfl i,c1⟩
structure tO(o:Oper)(d:Option Tmp)(op:Op):Prop where
 dst:o.dst=d
 op:o.op=op
 guard:o.guard=No
def tO.wanted{o:Oper}{d:Option Tmp}{op:Op}(h:tO o d op)(ops:Array Oper)(s:AS):oV ops s o=U IN:=by simp[oV,h.guard]
section
variable {P:Program} {T:dd} {ops:Array Oper} {n0:Nat} {Q:AS->Prop} {s:AS}
def nZ.is(ca:mc P T){i:Nat}{rest:List Nat}{o:Oper}{d:Tmp}{op:Op}{v:ag}{σ':bg}(a:ops[i]?=U o)(h:tO o (U d) op)(a7:i∉rest)(b:d<s.n)
  (ha:j5 T s.eval s.st (n0+i) op=U (v,σ')) (hk:nZ P ops n0 Q rest ({ s with st:=σ' }.put (U d) v)):nZ P ops n0 Q (i::rest) s:=by
 refine nZ.plain ca a a7 (h.wanted ops s) (by rw[h.dst];simpa[oJ]using b) (by rw[h.op];exact ha) (Ic ha).1 ?_;rw[h.dst];exact hk
def nZ.aB0(ca:mc P T){i:Nat}{rest:List Nat}{o:Oper}{d:Tmp}{t elem yt:TypeId}{ti:mL}{x:Operand}(v:ops[i]?=U o)(h:tO o (U d) (.binOp .eql t x (.const (.slice No 0 0)) yt))(B:d<s.n)
  (C:T t=U ti) (hu:ti.fT=.slice elem) (D:(∃es,s.eval x=.rs es)\/∃id z off len,s.eval x=.ms id z off len)
  (hk:∀b,nZ P ops n0 Q rest (s.put (U d) (.bF (.bool b)))):nZ P ops n0 Q (i::rest) s:=by
 intro G a w p hf E;have f:=p.eval x;have g:∃q l c,a.eval x=.slice q l c:=by generalize a.eval x=u at f;rcases D with⟨es,e⟩|⟨id,z,off,len,e⟩<;>rw[e]at f<;>cases f<;>exact⟨_,_,_,rfl⟩
 obtain⟨q,l,c,r⟩:=g;simp only[wpOps,v,yH p (h.wanted ops s),jj];left;have k:P.underlying t=U (.slice elem):=by rw[ca.fT t ti C,hu]
 have m:(execOp a.eval o).run P w=.ok (.value (.bool q.isNone)) w:=by have hc:a.eval (.const (.slice No 0 0))=.slice No 0 0:=rfl;simp only[execOp,h.op,r,hc,eqGuard,an,ar,ah,binOp,Op.equal,Op.maxDepth];have e:=Lw w 9999 t elem q l c k;simp only[Nat.reduceAdd]at e;simp only[ax,aq,j2,ar,ah,e]
 unfold gH;rw[m];simp only[eQ];have:=hk q.isNone G (a.put (U d) (.bool q.isNone)) w (p.put (.refl G) p.rel (.bF _) (by simpa[oJ]using B)) (λj hj=>hf j (by simp[hj])) (by simpa using E);rw[h.dst];simpa using this
end
@[simp] theorem AS.bu4 (s:AS) (σ:bg) (t:Nat):({ s with st:=σ }:AS).get t=s.get t:=rfl
def zY:Operand:=.const (.slice No 0 0)
structure NS(fn:Func)(t:TypeId):Prop where
 ntmps:fn.ntmps=8
 results:fn.results=#[.tmp 2]
 body:∃i0 i1 i2 i3 o0 o1 o2 o3 o4 o5 o6 o7 yt,fn.body=U (.seq (.region i0 #[o0] IS) (.seq (.seq (.region i1 #[o1,o2] IS) (.cond (.tmp 4) (.seq (.region i2 #[o3] IS) .ret) .skip)) (.seq (.region i3 #[o4,o5,o6,o7] IS) .ret))) /\
  tO o0 (U 2) (.assign zY)/\tO o1 (U 3) (.move (.tmp 0))/\tO o2 (U 4) (.binOp .eql t (.tmp 3) zY yt)/\tO o3 (U 2) (.assign zY) /\
  tO o4 (U 5) (.buildSlice t 0 #[])/\tO o5 (U 6) (.move (.tmp 0))/\tO o6 (U 7) (.call { callee:=.builtin .append,args:=#[.tmp 5,.tmp 6],argTypes:=#[t,t] })/\tO o7 (U 2) (.assign (.tmp 7))
def uh.Xh{P:Program}{f:FuncId}{args:List ag}{σ:bg}{R:ag->bg->Prop}(h:(∀k x,σ.bT k=U x->k<σ.next)->uh P f args σ R):uh P f args σ R :=λG vs w h1 h2=>h (λk x a=>h2.Iy a) G vs w h1 h2
structure Step(s:AS)(d:Nat)(v:ag)(σ':bg)(s':AS):Prop where
 n:s'.n=s.n
 get:∀t,s'.get t=if t=d then v else s.get t
 st:s'.st=σ'
def Step.same{s s':AS}{d:Nat}{v:ag}{σ':bg}(h:Step s d v σ' s'):s'.get d=v:=by rw[h.get,b9 rfl]
def Step.other{s s':AS}{d t:Nat}{v:ag}{σ':bg}(h:Step s d v σ' s')(a:t≠d):s'.get t=s.get t:=by rw[h.get,b8 a]
section
variable {P:Program} {T:dd} {ops:Array Oper} {n0:Nat} {Q:AS->Prop} {s:AS}
def nZ.step(ca:mc P T){i:Nat}{rest:List Nat}{o:Oper}{d:Tmp}{op:Op}{v:ag}{σ':bg}(a:ops[i]?=U o)(h:tO o (U d) op)(a7:i∉rest)(b:d<s.n)
  (ha:j5 T s.eval s.st (n0+i) op=U (v,σ')) (hk:∀s',Step s d v σ' s'->nZ P ops n0 Q rest s'):nZ P ops n0 Q (i::rest) s :=
 nZ.is ca a h a7 b ha (hk _ ⟨by simp,λt=>AS.Hx _ _ _ _,by simp⟩)
theorem mY.J8{Q:Exit->AS->Prop}{id:Nat}{ops:Array Oper}(h:∀s',s'.n=s.n->(∀t,s'.get t=s.get t)->s'.st={ s.st with next:=s.st.next+ops.size }->nZ P ops s.st.next (λs'=>Q .normal s') (bo ops.size) s'):mY P (.region id ops IS) Q s :=mY.region (h _ rfl (λ_=>rfl) rfl)
end
def SY{P:Program}{T:dd}(ca:mc P T){fn:Func}{t elem:TypeId}{ti d:mL}(i:NS fn t)(J:T t=U ti)(hu:ti.fT=.slice elem)(K:T elem=U d){f:FuncId}(hf:P.funcs[f]?=U fn){x:ag}{σ:bg}
  {xs:List (List ag)} (a:nV σ x=U xs) (hok:(xs.all λc=>c.length==d.size&&c.all ag.one)=IN) (hby:(2*xs.length+1000)*d.bytes<=2^48) (hlen:xs.length<=2^62) (M:0<d.size)
  (N:∀k x,σ.bT k=U x->k<σ.next) (R:ag->bg->Prop)
  (hA:x.isNil≠U IS->R (.bF (.slice No 0 0)) { σ with next:=σ.next+4 })
  (hB:x.isNil≠U IN->∀σ1:bg,σ1.next=σ.next+7->(∀k,σ1.bT k=if k=σ.next+5 then U (.row elem d.size xs)else σ.bT k)->R (.ms (σ.next+5) d.size 0 xs.length) σ1) :
  uh P f [x] σ R:=by
 obtain⟨i0,i1,i2,i3,o0,o1,o2,o3,o4,o5,o6,o7,yt,hb,h0,h1,h2,h3,h4,h5,h6,h7⟩:=i.body;refine uh.IA ca hf hb (by rw[i.ntmps];simp) ?_;rw[i.ntmps];have O:(AS.enter 8 [x] σ).get 0=x:=by rw[AS.LU];rfl
 have G:(AS.enter 8 [x] σ).n=8:=rfl;have r:(AS.enter 8 [x] σ).st=σ:=rfl;generalize AS.enter 8 [x] σ=s at O G r;have w:∀s:AS,pQ T fn s=U (s.get 2):=λs=>by simp[pQ,i.results,uj,zt]
 have hti:∀σ id,vh T σ id t 0 []=U (.ms id d.size 0 0,σ.set id (.row elem d.size [])):=λσ id=>by obtain⟨u,ni,z2,z3,z4⟩:=ti;simp only at hu;subst hu;simp[vh,J,K,M,uN]
 refine mY.seq (mY.J8 λs1 n1 g1 t1=>?_);show nZ P #[o0] _ _ [0] _;refine nZ.step ca rfl h0 (by simp) (by rw[n1,G];decide) (v:=.bF (.slice No 0 0)) (σ':=s1.st) rfl λs2 k2=>nZ.nil ?_;show mY P (.seq _ _) _ s2;have Q:s2.n=8:=by rw[k2.n,n1,G]
 have S:s2.get 0=x:=by rw[k2.other (by decide),g1,O]
 have V:s2.st={ σ with next:=σ.next+1 }:=by rw[k2.st,t1,r];rfl
 refine mY.seq (mY.seq (mY.J8 λs3 n3 g3 t3=>?_));show nZ P #[o1,o2] _ _ [0,1] _;refine nZ.step ca rfl h1 (by simp) (by rw[n3,Q];decide) (v:=x) (σ':=s3.st) (by simp only[j5,AS.eval];rw[g3,S]) λB k4=>?_;have j:B.n=8:=by rw[k4.n,n3,Q]
 have hx4:B.get 0=x:=by rw[k4.other (by decide),g3,S]
 have C:B.st={ σ with next:=σ.next+3 }:=by rw[k4.st,t3,V];rfl
 have rest:∀b:Bool,x.isNil≠U (!b)->∀l:AS,l.n=8->l.get 0=x->l.get 4=.bF (.bool b)->l.st={ σ with next:=σ.next+3 } ->
   mY P (.cond (.tmp 4) (.seq (.region i2 #[o3] IS) .ret) .skip) (Bq (mY P (.seq (.region i3 #[o4,o5,o6,o7] IS) .ret) (λe s'=>(e=.normal\/e=.ret)/\∃v,pQ T fn s'=U v/\R v s'.st)) (λe s'=>(e=.normal\/e=.ret)/\∃v,pQ T fn s'=U v/\R v s'.st)) l:=by
  intro b hb l n5 x5 c5 t5;refine mY.cond (t:=b) c5 ?_;cases b with
  |true=>refine mY.seq (mY.J8 λs6 n6 g6 t6=>?_);show nZ P #[o3] _ _ [0] _;refine nZ.step ca rfl h3 (by simp) (by rw[n6,n5];decide) (v:=.bF (.slice No 0 0)) (σ':=s6.st) rfl λs7 m=>nZ.nil ?_;refine mY.ret ?_;refine⟨.inr rfl,_,w _,?_⟩;rw[m.same,m.st,t6,t5];exact hA hb
  |false=>
   refine mY.skip ?_;refine mY.seq (mY.J8 λs6 n6 g6 t6=>?_);show nZ P #[o4,o5,o6,o7] _ _ [0,1,2,3] _;have D:s6.st={ σ with next:=σ.next+7 }:=by rw[t6,t5];rfl
   have hnx:l.st.next=σ.next+3:=by rw[t5]
   rw[hnx];refine nZ.step ca rfl h4 (by simp) (by rw[n6,n5];decide) (v:=.ms (σ.next+3) d.size 0 0) (σ':=s6.st.set (σ.next+3) (.row elem d.size [])) (hti _ _) λs7 m=>?_;refine nZ.step ca rfl h5 (by simp) (by rw[m.n,n6,n5];decide) (v:=x) (σ':=s7.st) (by simp only[j5,AS.eval];rw[m.other (by decide),g6,x5]) λh k8=>?_;have e5:h.get 5=.ms (σ.next+3) d.size 0 0:=by rw[k8.other (by decide),m.same]
   have e6:h.get 6=x:=k8.same;have E:h.st=s6.st.set (σ.next+3) (.row elem d.size []):=by rw[k8.st,m.st]
   have o:∀k,h.st.bT k=if k=σ.next+3 then U (.row elem d.size [])else σ.bT k:=λk=>by rw[E,bg.l1,D];rfl
   have H:nV h.st x=U xs:=by
    rw[<-a];unfold nV;split
    next id z off len=>
     rw[o];have:id≠σ.next+3:=λe=>by
      simp only[nV]at a;split at a
      next ho=>have:=N _ _ ho;omega
      cases a
     rw[b8 this]
    .rfl
    .rfl
    rfl
   have happ:qt T h.st (σ.next+5) t t (.ms (σ.next+3) d.size 0 0) x=U (.ms (σ.next+5) d.size 0 xs.length,(h.st.del (σ.next+3)).set (σ.next+5) (.row elem d.size xs)):=by
    obtain⟨u,ni,z2,z3,z4⟩:=ti;simp only at hu;subst hu;have htr:om h.st (.ms (σ.next+3) d.size 0 0)=h.st:=by simp[om,o]
    simp only[qt,J,htr];have I:qT h.st elem d.size (.ms (σ.next+3) d.size 0 0)=U (U (σ.next+3),[]):=by simp[qT,o]
    simp only[rR,J,K,I,H];rw[b9 ⟨rfl,hok,by simpa using hby,by simpa using hlen,M⟩];simp
   refine nZ.step ca rfl h6 (by simp) (by rw[k8.n,m.n,n6,n5];decide) (v:=.ms (σ.next+5) d.size 0 xs.length) (σ':=(h.st.del (σ.next+3)).set (σ.next+5) (.row elem d.size xs)) (by
    simp only[j5,pC,ay,bO,AS.eval,e5,e6];exact happ) λs9 k9=>?_
   refine nZ.step ca rfl h7 (by simp) (by rw[k9.n,k8.n,m.n,n6,n5];decide) (v:=.ms (σ.next+5) d.size 0 xs.length) (σ':=s9.st) (by simp only[j5,AS.eval];rw[k9.same]) λs10 k10=>nZ.nil ?_;refine mY.ret ?_;refine⟨.inr rfl,_,w _,?_⟩;rw[k10.same,k10.st,k9.st];refine hB hb _ ?_ (λk=>?_)
   .rw[bg.F']
    show h.st.next=_;rw[E,bg.F',D]
   rw[bg.l1,bg.tb,o];by_cases q:k=σ.next+5
   .simp[q]
   rw[b8 q,b8 q];by_cases fa:k=σ.next+3
   .rw[b9 fa]
    cases hk:σ.bT k with
    |none=>rfl
    |some y=>have:=N _ _ hk;omega
   rw[b8 fa,b8 fa]
 have hev:B.eval (.tmp 3)=x:=k4.same;cases g:x.isNil with
 |some b=>
  refine nZ.step ca rfl h2 (by simp) (by rw[j];decide) (v:=.bF (.bool b)) (σ':=B.st) (by
   obtain⟨u,ni,z2,z3,z4⟩:=ti;simp only at hu;subst hu;simp only[j5,zY];rw[hev];simp[qH,AS.eval,ag.ofValue,J,g]) λl p=>nZ.nil ?_
  exact rest b (by rw[g];cases b<;>simp) l (by rw[p.n,j]) (by rw[p.other (by decide),hx4]) p.same (by rw[p.st,C])
 |none=>
  refine nZ.aB0 ca rfl h2 (by rw[j];decide) J hu (by
   rw[hev];unfold nV at a;split at a
   .exact .inr ⟨_,_,_,_,rfl⟩
   .exact .inl ⟨_,rfl⟩
   .simp[ag.isNil]at g
   cases a) λb=>nZ.nil ?_
  have p:Step B 4 (.bF (.bool b)) B.st (B.put (U 4) (.bF (.bool b))):=⟨by simp,λt=>AS.Hx _ _ _ _,by simp⟩;exact rest b (by rw[g];simp) _ (by rw[p.n,j]) (by rw[p.other (by decide),hx4]) p.same (by rw[p.st,C])
def bg7{σ:bg}{x:ag}{xs:List (List ag)}(a:nV σ x=U xs)(b:x.isNil≠U IS):xs=[]:=by
 unfold nV at a;split at a
 next id z off len=>
  split at a
  .split at a
   .cases a
    cases len with
    |zero=>simp
    |succ len=>simp[ag.isNil]at b
   cases a
  cases a
 .cases a
  cases xs with
  |nil=>rfl
  |cons e es=>simp[ag.isNil]at b
 .cases a;rfl
 cases a
def bg4 {P:Program} {T:dd} (ca:mc P T) {f:FuncId} {fn:Func} {t:TypeId} (hf:P.funcs[f]?=U fn) (a:(fn.name== "runtime.NumGoroutine")=IS) (g:NS fn t) {args:List ag} {σ σ':bg} {v:ag}
  (h:J1 T t args σ=U (v,σ')):po P f args σ (λI o=>I=v/\o=σ')/\pH σ σ':=by
 have b:fn.body.isNone=IS:=by obtain⟨_,_,_,_,_,_,_,_,_,_,_,_,_,J,_⟩:=g.body;simp[J]
 unfold J1 at h;split at h
 next x=>
  split at h
  next elem ni z2 z3 z4 D=>
   split at h
   next l p=>
    split at h
    next xs c=>
     split at h
     next hc=>
      obtain⟨q,r,hlen,s⟩:=hc;split at h
      next d=>
       cases h;refine⟨po.CY hf a b (uh.Xh λj=>?_),⟨aw _,λ_ _=>rfl⟩⟩;refine(SY ca g D rfl p hf c q r hlen s j (λv σ1=>v=.bF (.slice No 0 0)/\σ1={ σ with next:=σ.next+4 }) (λ_=>⟨rfl,rfl⟩) (λu=>lH d u)).weaken ?_;rintro v σ1 ⟨rfl,rfl⟩;exact⟨_,⟨rfl,rfl⟩,by simp,λ_ _ h=>h⟩
      rename_i d;cases h;refine⟨po.CY hf a b (uh.Xh λj=>?_),?_⟩
      .have key:=SY ca g D rfl p hf c q r hlen s j (λv σ1=>(xs=[]/\v=.bF (.slice No 0 0)/\σ1={ σ with next:=σ.next+4 })\/(v=.ms (σ.next+5) l.size 0 xs.length/\σ1.next=σ.next+7/\∀k,σ1.bT k=if k=σ.next+5 then U (.row elem l.size xs)else σ.bT k))
        (λu=>.inl ⟨bg7 c u,rfl,rfl⟩) (λ_ σ1 h1 h2=>.inr ⟨rfl,h1,h2⟩)
       intro G vs w h1 h2;refine(key G vs w h1 h2).mono ?_;rintro e w' ⟨v,N,σ1,G',rfl,m,E,z,B⟩;rcases B with⟨rfl,rfl,rfl⟩|⟨rfl,B,K⟩
       .cases E
        have hid:G'.pl (σ.next+5)=No:=z.fresh _ (by simp);have C:Rel G' { σ with next:=σ.next+7 } w':=z.next (n:=σ.next+7) (by simp);refine⟨_,_,_,G'.place (σ.next+5) { block:=0,size:=0,cap:=0,mF:=IN },rfl,⟨m.le.trans (cb.Bs hid),λi a7 M=>?_,by simp,m.bb.trans ?_⟩,.n4 (σ.next+5) l.size _ (cb.qd _ _ _) rfl,C.mF (σ.next+5) hid (by simp) _ rfl elem l.size,rfl,rfl⟩
        .have:=m.keeps i a7 M
         simp only[cb.place];rw[b8 (by omega)];exact this
        exact(Fr.less (σ:={ σ with next:=σ.next+4 }) (σ':={ σ with next:=σ.next+7 }) (λ_ _ h=>h)).trans (Fr.mF _ _ rfl _)
       have hle:∀k y,({ σ with next:=σ.next+7 }.set (σ.next+5) (.row elem l.size xs):bg).bT k=U y->σ1.bT k=U y:=λk y H=>by rw[K];rw[bg.l1]at H;exact H
       exact⟨_,_,_,G',rfl,⟨m.le,m.keeps,by simp,m.bb.trans (Fr.less hle)⟩,E,z.less (by rw[B];rfl) hle,rfl,rfl⟩
      have:=pH.set { σ with next:=σ.next+7 } (σ.next+5) (.row elem l.size xs);exact this
     cases h
    cases h
   cases h
  cases h
 cases h
open Go.RowKit
def cb.sD(w:World):cb:={ mr:=w,lM:=λb=>w.heap[b]?,pl:=λ_=>No }
def NR(w:World):Prop:=∀b o v,nF.cell b o=U v->(cb.sD w).cell b o=U v
def Rel.sD{w:World}(a:NR w):Rel (cb.sD w) bg.none w :=⟨rfl,rfl,rfl,aw _,λ_ _ h=>h,λ_ _=>rfl,(λid o h=>by rw[bg.ux]at h;cases h),(λi j oi oj pi pj h=>by rw[bg.ux]at h;cases h),a⟩
def G1{w:World}{a:Addr}{v:Value}(h:w.cell? a=U v):a.spot=No/\(cb.sD w).cell a.block a.off=U v:=by
 unfold World.cell? at h;split at h
 next c t bb b=>
  split at h
  .cases h
  rename_i hs;refine⟨by cases hsp:a.spot with|none=>rfl|some x=>simp[hsp]at hs,?_⟩;show(match w.heap[a.block]? with|some (.cells cs _ _)=>cs[a.off]?|_=>No)=_;rw[b];exact h
 cases h
def oI.calls {P:Program} {m:PX} {fn:Func} (r:P.funcs[m.f]?=U fn) (g:(fn.name== "runtime.NumGoroutine")=IS) (i:fn.body.isNone=IS) (h:oI P m)
  {G:cb} {vs:List Value} {w:World} (j:gl G m.args vs) (d:Rel G bg.none w) :
  Calls P m.f vs.toArray w λe w'=>∃v G',e=.returned v/\lB G' m.c v/\G.le G'/\Rel G' bg.none w'/\Below w.heap.size w w':=by
 have key:=h bg.none G vs w j d ⟨U 0,.move (.const undef),0, "",#[],No⟩ ⟨#[undef],[]⟩
  (λa w'=>∃v G',a.tmps[0]?=U v/\lB G' m.c v/\G.le G'/\Rel G' bg.none w'/\Below w.heap.size w w') (λ_ _ _=>False) (by
   rintro u t σ' G' w' n s b ⟨rfl,rfl⟩;refine⟨u,G',by simp[kp],s,n.le,b,?_⟩;have hle:=n.le.mr;exact⟨b.os.trans ((mP World.os hle).trans d.os.symm),b.tape.trans ((mP World.tape hle).trans d.tape.symm),b.output.trans ((mP World.output hle).trans d.output.symm),
    n.bb.size,λk hk=>n.bb.same k hk (λid o p q=>by rw[bg.ux]at q;cases q)⟩)
 have l:(callFunc m.f vs.toArray).run P w=.ok (.enter m.f vs.toArray) w:=by simp only[callFunc,an,run_program,ah,r,g,i,aq,j2,ar]
 rw[l]at key;refine Calls.mono key ?_;intro e w' he;cases e with
 |returned v=>
  obtain⟨u,G',h1,h2⟩:=he;have:u=v:=by simpa[kp]using h1.symm
  subst this;exact⟨u,G',rfl,h2⟩
 |panicked c=>exact he.elim
 |outgrown=>obtain⟨a,mr,q⟩:=he;exact q.elim
inductive pD (P:Program) (N:Nat):TypeId->List ag->Prop
 |bool {t:TypeId} (b:Bool) (h:P.underlying t=U .bool):pD P N t [.bF (.bool b)]
 |int {t:TypeId} {k:IntKind} {n:Int} (h:P.underlying t=U (.int k)) (hw:(Lit.int k n).wf=IN):pD P N t [.bF (.int k n)]
 |str {t:TypeId} {s:ByteArray} (h:P.underlying t=U .string) (hl:s.size<=N):pD P N t [.bF (.string s)]
 |slice {t e:TypeId} {es:List (List ag)} (h:P.underlying t=U (.slice e)) (hl:es.length<=N) (hes:∀c∈es,pD P N e c):pD P N t [.rs es]
 |struct {t:TypeId} {fs:Array Field} {avs:List ag} (h:P.underlying t=U (.struct fs)) (hl:avs.length=P.cellsOf t)
   (hf:∀f∈fs.toList,pD P N f.type ((avs.drop f.offset).take (P.cellsOf f.type))):pD P N t avs
def tG(P:Program):List Field->Nat->Nat->Bool
 | [],o,total=>aB o total
 |f::fs,o,total=>aB f.offset o&&tG P fs (o+P.cellsOf f.type) total
def yZ(P:Program):Nat->TypeId->Bool
 | 0,_=>IS
 |n+1,t=>match P.underlying t with
  |some .bool=>IN
  |some (.int _)=>IN
  |some .string=>IN
  |some (.slice e)=>yZ P n e&&(dx 1 (P.cellsOf e)&&dx 1 (P.bytesOf e))
  |some (.struct fs)=>tG P fs.toList 0 (P.cellsOf t)&&fs.toList.all λf=>yZ P n f.type
  |_=>IS
section
variable {H:Type} {enc:TypeId×Value->H} {P:Program} {N:Nat} {w:World}
def gl.Ov(G:cb)(v:Value):gl G [.bF v] [v]:=.cons (.bF v) (.nil G)
def SK{G:cb}{cs:List Value}(wZ:Field->Prop)(a:∀f,wZ f->∃avs,gl G avs ((cs.drop f.offset).take (P.cellsOf f.type))/\pD P N f.type avs/\f.offset+P.cellsOf f.type<=cs.length) :
  ∀(fs:List Field) (o:Nat),(∀f∈fs,wZ f)->tG P fs o cs.length=IN->o<=cs.length ->
   ∃avs,gl G avs (cs.drop o)/\∀f∈fs,o<=f.offset/\pD P N f.type ((avs.drop (f.offset-o)).take (P.cellsOf f.type))
 | [],o,_,d,_=>by have:o=cs.length:=af d;subst this;exact⟨[],by simpa using gl.nil G,λf hf=>by cases hf⟩
 |f::fs,o,h,d,hle=>by
  simp only[tG,ab]at d;have i:f.offset=o:=af d.1;obtain⟨avs,h1,h2,j⟩:=a f (h f (by simp));rw[i]at h1 j;obtain⟨c,k,l⟩:=SK wZ a fs (o+P.cellsOf f.type) (λg b=>h g (by simp[b])) d.2 j;have hl:avs.length=P.cellsOf f.type:=by rw[<-h1.1];simp;omega
  refine⟨avs++c,?_,?_⟩
  .have e:cs.drop o=(cs.drop o).take (P.cellsOf f.type)++cs.drop (o+P.cellsOf f.type):=by rw[<-eD,cJ]
   rw[e];exact h1.append k
  intro g b;rcases aI.1 b with rfl|b
  .refine⟨by omega,?_⟩
   rw[i,Nat.sub_self,gB,List.take_append_of_le_length (by omega),List.take_of_length_le (by omega)];exact h2
  obtain⟨n,m⟩:=l g b;refine⟨by omega,?_⟩;have:(avs++c).drop (g.offset-o)=c.drop (g.offset-(o+P.cellsOf f.type)):=by rw[List.drop_append,List.drop_eq_nil_of_le (by omega),hl];simp only[bq];congr 1;omega
  rw[this];exact m
theorem Wi{G:cb}(Q:Nat->List ag->Prop):∀(n:Nat),(∀i,i<n->∃avs,Q i avs)->∃es:List (List ag),es.length=n/\∀i (h:i<es.length),Q i es[i]
 | 0,_=>⟨[],rfl,λi h=>by simp at h⟩
 |n+1,a=>by
  obtain⟨es,h1,h2⟩:=Wi (G:=G) Q n (λi a7=>a i (by omega));obtain⟨avs,b⟩:=a n (by omega);refine⟨es++[avs],by simp[h1],λi a7=>?_⟩;by_cases e:i<es.length
  .rw[List.getElem_append_left e];exact h2 i e
  have:i=n:=by simp[h1]at a7;omega
  subst this;rw[List.getElem_append_right (by omega)];simpa[h1]using b
def Rt{e:TypeId}{d:DataW H}{n:Nat}(a:n∈d.weights P e):∀ {l:List (DataW H)},d∈l->n∈fL P e l
 | [],h=>by cases h
 |x::l,h=>by
  unfold fL;rcases aI.1 h with rfl|h
  .exact bX _ a
  exact cC _ (Rt a h)
def GS{n:Nat}:∀ {ts:List TypeId} {l:List (DataW H)} (i:Nat) {t:TypeId} {d:DataW H},ts[i]?=U t->l[i]?=U d->n∈d.weights P t->n∈fw P ts l
 | [],_,i,t,d,h,_,_=>by simp at h
 |_::_,[],i,t,d,_,h,_=>by simp at h
 |b::ts,c::l,0,t,d,h1,h2,a=>by simp only[List.getElem?_cons_zero,ai]at h1 h2;subst h1 h2;unfold fw;exact bX _ a
 |b::ts,c::l,i+1,t,d,h1,h2,a=>by simp only[List.getElem?_cons_succ]at h1 h2;unfold fw;exact cC _ (GS i h1 h2 a)
theorem Nc:∀(d:Nat) (t:TypeId),yZ P d t=IN->∀(fuel:Nat) (cs:List Value) (x:DataW H×List MemPlace),DataW.trod enc P w 0 (λ_=>IN) IN fuel t cs=U x->(∀n∈x.1.weights P t,n<=N) ->
  ∃avs,gl (cb.sD w) avs cs/\pD P N t avs
 | 0,t,hp,_,_,_,_,_=>by simp[yZ]at hp
 |d+1,t,hp,fuel,cs,x,h,R=>by
  unfold yZ at hp;split at hp
  .rename_i r
   obtain⟨b,rfl,_⟩:=DataW.trod_bool r h;exact⟨_,.Ov _ _,.bool b r⟩
  .rename_i k r
   obtain⟨n,rfl,_,hw⟩:=DataW.trod_int r h;exact⟨_,.Ov _ _,.int r hw⟩
  .rename_i r
   obtain⟨s,rfl,ex,_⟩:=DataW.trod_string r h;subst ex;exact⟨_,.Ov _ _,.str r (R s.size (by
    have:eM P t (.lit (.string s.data.toList):DataW H)=[s.data.toList.length]:=by rw[eM]
    rw[this];exact List.mem_singleton.2 rfl))⟩
  .rename_i e r
   rw[ab]at hp;rw[ab]at hp;have hpos:1<=P.cellsOf e:=aU hp.2.1;have S:1<=P.bytesOf e:=aU hp.2.2;rcases Go.Deep.open_slice r h with⟨rfl,_⟩|⟨a,len,cap,m,n,D,nm,rfl,_,hlc,hcm,hm,ex,K⟩
   .exact⟨[.rs []],.cons .qL (.nil _),.slice r (by simp) (λc hc=>by cases hc)⟩
   simp only[jj]at hm;subst ex;have ew:eM P t (.slice ((bo len).map D) ((bo (m-len)).map λj=>D (len+j)):DataW H)=((bo len).map D).length.add ((bo (m-len)).map λj=>D (len+j)).length*P.bytesOf e::(fL P e ((bo len).map D)++fL P e ((bo (m-len)).map λj=>D (len+j))):=by rw[eM,r];rfl
   rw[ew]at R;have hlen:len<=N:=by have h1:=R _ (List.mem_cons_self ..);rw[aF,aF,jH,jH]at h1;have h2:len*1<=(len.add (m-len))*P.bytesOf e:=Nat.mul_le_mul (aY len _) S;omega
   have hND:∀i,i<len->∀q∈(D i).weights P e,q<=N:=λi a7 q hq=>R q (bB _ (bX _ (Rt hq (List.mem_map.2 ⟨i,List.mem_range.2 a7,rfl⟩))));rw[hm]at K;have V:∀i,i<len->∃avs,∃p,w.cells? 0 (a.add (i*P.cellsOf e)) (P.cellsOf e)=U p/\gl (cb.sD w) avs p/\pD P N e avs:=λi a7=>by obtain⟨p,h1,h2⟩:=K i (by omega);obtain⟨avs,I,C⟩:=Nc d e hp.1 _ _ _ h2 (hND i a7);exact⟨avs,p,h1,I,C⟩
   obtain⟨es,hes1,B⟩:=Wi (G:=cb.sD w) (λi avs=>∃p,w.cells? 0 (a.add (i*P.cellsOf e)) (P.cellsOf e)=U p/\gl (cb.sD w) avs p/\pD P N e avs) len V;have u:cap≠0->a.spot=No:=λhc=>by obtain⟨p,h1,_⟩:=K 0 (by omega);obtain⟨_,h2,I⟩:=fz h1;have C:=I 0 (by omega);rw[ae (by omega)]at C;simp[Addr.add]at C;exact(G1 C).1
   refine⟨[.rs es],.cons ?_ (.nil _),.slice r (by omega) (λc hc=>?_)⟩
   .rw[<-hes1]
    refine .rs es a cap (P.cellsOf e) (λi j=>(w.cell? ⟨a.block,a.off+i*P.cellsOf e+j,No⟩).getD undef) u (by omega) (λi a7=>?_) (λi j a7 hj=>?_) (λi j a7 hj=>?_)
    .obtain⟨p,h1,h2,_⟩:=B i a7
     obtain⟨_,I,_⟩:=fz h1;have:=h2.1;omega
    .obtain⟨p,h1,h2,_⟩:=B i a7
     obtain⟨_,I,C⟩:=fz h1;have J:=C j hj;rw[ae (by omega)]at J;have hs:=u (by omega);obtain⟨b,o,sp⟩:=a;simp only at hs;subst hs;rw[sM,sM]at J;rw[J];exact(G1 J).2
    obtain⟨p,h1,h2,_⟩:=B i a7;obtain⟨_,I,C⟩:=fz h1;have hl:=h2.1;have J:=C j (by omega);rw[ae (by omega)]at J;have hs:=u (by omega);obtain⟨b,o,sp⟩:=a;simp only at hs;subst hs;rw[sM,sM]at J;rw[J];exact h2.2 j hj (by omega)
   obtain⟨i,a7,rfl⟩:=aH hc;obtain⟨_,_,_,I⟩:=B i a7;exact I
  .rename_i fs r
   rw[ab]at hp;obtain⟨xs,n,rfl,ex,hlen,hxl,hf⟩:=DataW.trod_struct r h;subst ex;have ew:eM P t (.agg (xs.map (·.1)):DataW H)=fw P (fs.toList.map (·.type)) (xs.map (·.1)):=by rw[eM,r]
   rw[ew]at R;have v:=hp.1;rw[<-hlen]at v;have M:∀f,f∈fs.toList->∃avs,gl (cb.sD w) avs ((cs.drop f.offset).take (P.cellsOf f.type))/\pD P N f.type avs:=λf z=>by
    obtain⟨i,a7,rfl⟩:=aH z;have h1:=hf i (fs.toList[i]) (by simp);rw[ae (by simp at a7;omega)]at h1;have hi2:i<xs.length:=by simp at a7;omega
    exact Nc d _ (ak.1 hp.2 _ z) _ _ _ h1 (λq hq=>R q (GS i (t:=fs.toList[i].type) (d:=(xs[i]'hi2).1) (by rw[aX,ae a7];rfl) (by rw[aX,ae hi2];rfl) hq))
   have O:∀(l:List Field) (o:Nat),tG P l o cs.length=IN->∀f∈l,f.offset+P.cellsOf f.type<=cs.length:=by
    have Q:∀(l:List Field) (o:Nat),tG P l o cs.length=IN->o<=cs.length:=by
     intro l
     induction l with
     |nil=>intro o E;exact Nat.le_of_eq (af E)
     |cons g l V=>intro o E;simp only[tG,ab]at E;have:=V _ E.2;omega
    intro l
    induction l with
    |nil=>intro o _ f hf;cases hf
    |cons g l V=>
     intro o E f hf;simp only[tG,ab]at E;rcases aI.1 hf with rfl|hf
     .have:=Q _ _ E.2
      rw[af E.1];exact this
     exact V _ E.2 f hf
   obtain⟨avs,h1,h2⟩:=SK (P:=P) (G:=cb.sD w) (cs:=cs) (λf=>f∈fs.toList)
    (λf z=>by obtain⟨avs,a1,a2⟩:=M f z;exact⟨avs,a1,a2,O _ _ v f z⟩) fs.toList 0 (λ_ h=>h) v (dq _)
   rw[gB]at h1;refine⟨avs,h1,.struct r (by rw[<-h1.1];exact hlen) (λf z=>?_)⟩;have:=(h2 f z).2;simpa using this
  cases hp
end
def pD.aw0{P:Program}{N:Nat}{t:TypeId}{k:IntKind}{avs:List ag}(a:P.underlying t=U (.int k))(h:pD P N t avs):∃n,avs=[.bF (.int k n)]/\(Lit.int k n).wf=IN:=by
 cases h with
 |int h hw=>rw[a]at h;cases h;exact⟨_,rfl,hw⟩
 |bool b h=>rw[a]at h;cases h
 |str h=>rw[a]at h;cases h
 |slice h=>rw[a]at h;cases h
 |struct h=>rw[a]at h;cases h
def pD.aY5{P:Program}{N:Nat}{t e:TypeId}{avs:List ag}(a:P.underlying t=U (.slice e))(h:pD P N t avs):∃es,avs=[.rs es]/\es.length<=N/\∀c∈es,pD P N e c:=by
 cases h with
 |int h hw=>rw[a]at h;cases h
 |bool b h=>rw[a]at h;cases h
 |str h=>rw[a]at h;cases h
 |slice h hl hes=>rw[a]at h;cases h;exact⟨_,rfl,hl,hes⟩
 |struct h=>rw[a]at h;cases h
def pD.ba8{P:Program}{N:Nat}{t:TypeId}{avs:List ag}(a:P.underlying t=U .string)(h:pD P N t avs):∃s,avs=[.bF (.string s)]/\s.size<=N:=by
 cases h with
 |int h hw=>rw[a]at h;cases h
 |bool b h=>rw[a]at h;cases h
 |str h hl=>exact⟨_,rfl,hl⟩
 |slice h=>rw[a]at h;cases h
 |struct h=>rw[a]at h;cases h
def pD.ba9{P:Program}{N:Nat}{t:TypeId}{fs:Array Field}{avs:List ag}(a:P.underlying t=U (.struct fs))(h:pD P N t avs) :
  avs.length=P.cellsOf t/\∀f∈fs.toList,pD P N f.type ((avs.drop f.offset).take (P.cellsOf f.type)):=by
 cases h with
 |int h hw=>rw[a]at h;cases h
 |bool b h=>rw[a]at h;cases h
 |str h=>rw[a]at h;cases h
 |slice h=>rw[a]at h;cases h
 |struct h hl hf=>rw[a]at h;cases h;exact⟨hl,hf⟩
def rowsOf:ag->List (List ag)
 | .rs es=>es
 |_=>[]
def mf:ag->Nat
 | .bF (.int _ n)=>n.toNat
 |_=>0
mutual
def ag.sub(θ:Nat->ag):ag->ag
 | .any=>.any
 | .bF v=>.bF v
 | .rs es=>.rs (oA θ es)
 | .h8 cs=>.h8 (mR θ cs)
 | .ms id size off len=>.ms id size off len
 | .mp id i j=>.mp id i j
 | .lX id=>.lX id
 | .it id=>.it id
 | .fn f a c=>.fn f (mR θ a) (mR θ c)
 | .agg cs=>.agg (mR θ cs)
 | .fe vs=>.fe (mR θ vs)
 | .ek i=>θ i
 | .ea id size i=>.ms id size 0 (rowsOf (θ i)).length
 | .oN id k off=>.mp id (mf (θ k)) off
 | .xs id z o l=>.ms id z (mf (o.sub θ)) (mf (l.sub θ))
 | .mx c=>.mx (c.sub θ)
def mR(θ:Nat->ag):List ag->List ag
 | []=>[]
 |c::cs=>c.sub θ::mR θ cs
def oA(θ:Nat->ag):List (List ag)->List (List ag)
 | []=>[]
 |c::cs=>mR θ c::oA θ cs
end
def p3(θ:Nat->ag):∀l,mR θ l=l.map (ag.sub θ)
 | []=>by simp[mR]
 |c::cs=>by simp[mR,p3 θ cs]
def vE(θ:Nat->ag):∀l,oA θ l=l.map (bY (ag.sub θ))
 | []=>by simp[oA]
 |c::cs=>by simp[oA,p3,vE θ cs]
section
variable (θ:Nat->ag)
@[simp] theorem YO:ag.sub θ .any=.any:=by simp[ag.sub]
@[simp] theorem oq (v:Value):ag.sub θ (.bF v)=.bF v:=by simp[ag.sub]
@[simp] theorem wV (es:List (List ag)):ag.sub θ (.rs es)=.rs (es.map (bY (ag.sub θ))):=by simp[ag.sub,vE]
@[simp] theorem J0 (cs:List ag):ag.sub θ (.h8 cs)=.h8 (cs.map (ag.sub θ)):=by simp[ag.sub,p3]
@[simp] theorem tD (id size off len:Nat):ag.sub θ (.ms id size off len)=.ms id size off len:=by simp[ag.sub]
@[simp] theorem Fx (id i j:Nat):ag.sub θ (.mp id i j)=.mp id i j:=by simp[ag.sub]
@[simp] theorem wX (id:Nat):ag.sub θ (.lX id)=.lX id:=by simp[ag.sub]
@[simp] theorem Pu (id:Nat):ag.sub θ (.it id)=.it id:=by simp[ag.sub]
@[simp] theorem Pr (f:Fn) (a c:List ag):ag.sub θ (.fn f a c)=.fn f (a.map (ag.sub θ)) (c.map (ag.sub θ)):=by simp[ag.sub,p3]
@[simp] theorem y0 (cs:List ag):ag.sub θ (.agg cs)=.agg (cs.map (ag.sub θ)):=by simp[ag.sub,p3]
@[simp] theorem Fj (cs:List ag):ag.sub θ (.fe cs)=.fe (cs.map (ag.sub θ)):=by simp[ag.sub,p3]
@[simp] theorem lQ (i:Nat):ag.sub θ (.ek i)=θ i:=by simp[ag.sub]
@[simp] theorem p5 (id size i:Nat):ag.sub θ (.ea id size i)=.ms id size 0 (rowsOf (θ i)).length:=by simp[ag.sub]
@[simp] theorem y7 (θ:Nat->ag) (c:ag):(ag.mx c).sub θ=.mx (c.sub θ):=by simp only[ag.sub]
@[simp] theorem Pp (θ:Nat->ag) (id z:Nat) (o l:ag):(ag.xs id z o l).sub θ=.ms id z (mf (o.sub θ)) (mf (l.sub θ)):=by simp only[ag.sub]
@[simp] theorem bv6 (θ:Nat->ag) (id k off:Nat):(ag.oN id k off).sub θ=.mp id (mf (θ k)) off:=by simp only[ag.sub]
end
mutual
def ag.ki:ag->Bool
 | .bF _=>IN
 | .rs es=>rH es
 | .h8 cs=>ri cs
 | .mx c=>c.ki
 | .fn _ a c=>ri a&&ri c
 | .agg cs=>ri cs
 | .fe cs=>ri cs
 |_=>IS
def ri:List ag->Bool
 | []=>IN
 |c::cs=>c.ki&&ri cs
def rH:List (List ag)->Bool
 | []=>IN
 |c::cs=>ri c&&rH cs
end
def uP:∀l,ri l=l.all ag.ki
 | []=>by simp[ri]
 |c::cs=>by simp[ri,uP cs]
def CJ:∀l,rH l=l.all (List.all · ag.ki)
 | []=>by simp[rH]
 |c::cs=>by simp[rH,CJ cs,uP]
def ru{es:List (List ag)}(h:(ag.rs es).ki=IN):∀i (h:i<es.length) j (h':j<es[i].length),(es[i][j]).ki=IN:=λi a7 j hj=>by
 simp only[ag.ki,CJ]at h
 grind[ak,au]
def rT{G G':cb}(m:∀b o,G.lM b=U o->G'.lM b=U o){v:ag}{u:Value}(n:lB G v u):v.ki=IN->lB G' v u:=by
 have d:∀ {b o:Nat} {v:Value},G.cell b o=U v->G'.cell b o=U v:=λ{b o v} hc=>by grind[cb.cell]
 induction n with
 |any v=>intro h;simp[ag.ki]at h
 |bF v=>intro _;exact .bF v
 |qL=>intro _;exact .qL
 |rs es a cap size val hs hc hlen himm _ e=>intro h;exact .rs es a cap size val hs hc hlen (λi j h1 h2=>d (himm i j h1 h2)) (λi j a7 hj=>e i j a7 hj (ru h i a7 j hj))
 |h8 cs a val hs himm _ e=>intro h;simp only[ag.ki,uP]at h;exact .h8 cs a val hs (λj hj=>d (himm j hj)) (λj hj=>e j hj (ak.1 h _ (au hj)))
 |ms=>intro h;simp[ag.ki]at h
 |n4=>intro h;simp[ag.ki]at h
 |mp=>intro h;simp[ag.ki]at h
 |lX=>intro h;simp[ag.ki]at h
 |it=>intro h;simp[ag.ki]at h
 |mx rows b ents himm hlen qJ _ e=>
  intro h;simp only[ag.ki]at h;refine .mx rows b ents (m _ _ himm) hlen qJ (λi a7 c=>e i a7 c ?_);have g:=ru (es:=rows) (by simp only[ag.ki];exact h) i a7;generalize rows[i]=r at g;unfold nR;split
  .exact g 1 (by simp)
  simp[ag.ki]
 |fn f first cap fv cv h1 h2 _ _ k l=>intro h;simp only[ag.ki,uP,ab]at h;exact .fn f first cap fv cv h1 h2 (λi a7 c=>k i a7 c (ak.1 h.1 _ (au a7))) (λi a7 c=>l i a7 c (ak.1 h.2 _ (au a7)))
 |agg cs vs h1 _ e=>intro h;simp only[ag.ki,uP]at h;exact .agg cs vs h1 (λi a7 c=>e i a7 c (ak.1 h _ (au a7)))
 |fe cs vs h1 _ e=>intro h;simp only[ag.ki,uP]at h;exact .fe cs vs h1 (λi a7 c=>e i a7 c (ak.1 h _ (au a7)))
def mW:ag->Prop
 | .bF (.int _ _)=>True
 | .bF (.bool _)=>True
 | .bF (.string _)=>True
 | .rs es=>(ag.rs es).ki=IN
 | .h8 cs=>(ag.h8 cs).ki=IN
 | .mx c=>(ag.mx c).ki=IN
 |_=>False
def Fit(θ:Nat->ag):Prop:=∀i,mW (θ i)
def mW.cases{v:ag}(h:mW v):(∃k n,v=.bF (.int k n))\/(∃b,v=.bF (.bool b))\/(∃s,v=.bF (.string s))\/(∃es,v=.rs es)\/(∃cs,v=.h8 cs)\/∃c,v=.mx c:=by
 unfold mW at h
 grind
def mW.ki{v:ag}(h:mW v):v.ki=IN:=by
 unfold mW at h;split at h
 .rfl
 .rfl
 .rfl
 .exact h
 .exact h
 .exact h
 cases h
def mW.cells{v:ag}(h:mW v):v.cells=U [v]:=by rcases h.cases with⟨k,n,rfl⟩|⟨b,rfl⟩|⟨s,rfl⟩|⟨es,rfl⟩|⟨cs,rfl⟩|⟨c,rfl⟩<;>rfl
def mW.one{v:ag}(h:mW v):v.one=IN:=by rcases h.cases with⟨k,n,rfl⟩|⟨b,rfl⟩|⟨s,rfl⟩|⟨es,rfl⟩|⟨cs,rfl⟩|⟨c,rfl⟩<;>rfl
def mW.s5{v:ag}(h:mW v):v.s5=[]:=by rcases h.cases with⟨k,n,rfl⟩|⟨b,rfl⟩|⟨s,rfl⟩|⟨es,rfl⟩|⟨cs,rfl⟩|⟨c,rfl⟩<;>rfl
section
variable {θ:Nat->ag} (hθ:Fit θ)
include hθ
theorem HC{v:ag}{cs:List ag}(h:v.cells=U cs):(v.sub θ).cells=U (cs.map (ag.sub θ)):=by
 cases v with
 |ek i=>simp only[ag.cells,ai]at h;subst h;simpa using(hθ i).cells
 |ea id size i=>simp only[ag.cells,ai]at h;subst h;simp[ag.cells]
 |bF v=>cases v<;>simp[ag.cells]at h<;>subst h<;>simp[ag.cells]
 |any=>simp[ag.cells]at h
 |fe l=>simp[ag.cells]at h
 |_=>simp only[ag.cells,ai]at h;subst h;simp[ag.cells]
theorem one_sub{v:ag}(h:v.one=IN):(v.sub θ).one=IN:=by
 cases v with
 |ek i=>simpa using(hθ i).one
 |ea id size i=>simp[ag.one]
 |bF v=>cases v<;>simp[ag.one]at h<;>simp[ag.one]
 |any=>simp[ag.one]at h
 |fe l=>simp[ag.one]at h
 |agg l=>simp[ag.one]at h
 |_=>simp[ag.one]
end
def fb.map{α β:Type}(f:α->β):fb α->fb β
 | .leaf=>.leaf
 | .node v l r=>.node (v.map f) (l.map f) (r.map f)
def fb.sd{α β:Type}(f:α->β):∀(t:fb α) (k:Nat),(t.map f).get k=(t.get k).map f
 | .leaf,k=>by simp[fb.map,fb.sc]
 | .node v l r,k=>by
  cases k with
  |zero=>simp[fb.map,fb.get]
  |succ k=>
   simp only[fb.map,fb.get];split
   .exact fb.sd f l _
   exact fb.sd f r _
def fb.Nj{α β:Type}(g:α->β)(v:Option α):∀(f k:Nat) (t:fb α),(fb.pZ v f k t).map g=fb.pZ (v.map g) f k (t.map g)
 | 0,k,t=>by cases k<;>cases t<;>simp[fb.pZ,fb.map]
 |f+1,0,t=>by cases t<;>simp[fb.pZ,fb.map]
 |f+1,k+1,.leaf=>by simp only[fb.pZ,fb.map];split<;>simp[fb.map,fb.Nj g v f (k / 2) .leaf]
 |f+1,k+1,.node x l r=>by simp only[fb.pZ,fb.map];split<;>simp[fb.map,fb.Nj g v f (k / 2)]
def fb.map_set{α β:Type}(g:α->β)(t:fb α)(k:Nat)(v:Option α):(t.set k v).map g=(t.map g).set k (v.map g):=fb.Nj g v k k t
def qh(c:ag):b7:=.map (qF (rowsOf c)) (nt 0 (rowsOf c)) (rowsOf c).length
abbrev mg:Nat:=1048576
def hid(r c:Nat):Nat:=(16*r+c)%mg
abbrev nO:=List (Nat×TypeId×Nat)
def oY(cc:nO)(j:Nat):Option (Nat×TypeId×Nat):=cc.find? (λc=>aB c.1 j)
def yW(cc:nO)(j:Nat)(v:ag):ag:=match oY cc j with
 |some _=>.rs []
 |none=>v
def qR(cc:nO):Nat->List ag->List ag
 |_,[]=>[]
 |j,v::vs=>yW cc j v::qR cc (j+1) vs
def isNil:ag->Bool
 | .bF (.slice No 0 0)=>IN
 |_=>IS
def zV(cc:nO)(rows:List (List ag)):Bool:=IT (16*rows.length<=mg)&&cc.all (λc=>cD c.1 16)&&rows.all λr=>cc.all λc=>match r[c.1]? with
 |some v=>isNil v
 |none=>IS
def vC(cc:List (Nat×TypeId×Nat))(r j:Nat)(v:ag):ag:=match cc.find? (λc=>aB c.1 j)with
 |some c=>.ms (hid r j) c.2.2 0 (rowsOf v).length
 |none=>v
def sv(cc:List (Nat×TypeId×Nat))(r:Nat):Nat->List ag->List ag
 |_,[]=>[]
 |j,v::vs=>vC cc r j v::sv cc r (j+1) vs
def oG(cc:List (Nat×TypeId×Nat)):Nat->List (List ag)->List (List ag)
 |_,[]=>[]
 |r,x::xs=>sv cc r 0 x::oG cc (r+1) xs
def tu(rows:List (List ag))(i off:Nat):Option ag->List (List ag)
 |none=>rows
 |some v=>match rows[i]? with
  |some cs=>rows.set i (cs.set off v)
  |none=>rows
def strOf:ag->ByteArray
 | .bF (.string s)=>s
 |_=>ByteArray.empty
def b7.sub(θ:Nat->ag):b7->b7
 | .row e s es=>.row e s (es.map (bY (ag.sub θ)))
 | .map agg es c=>.map agg (es.map λe=>(e.1,e.2.1.sub θ,e.2.2)) c
 | .qe s p=>.qe s p
 | .se m a b c=>.se m a b c
 | .f' e s i=>.row e s (rowsOf (θ i))
 | .mS c=>qh (c.sub θ)
 | .pO s p=>.qe (strOf (s.sub θ)) (mf (p.sub θ))
 | .nD e z c cc k off v=>.row e z (tu (oG cc 0 (rowsOf (c.sub θ))) (mf (k.sub θ)) off (v.map (ag.sub θ)))
def bg.sub(θ:Nat->ag)(σ:bg):bg:={ next:=σ.next,mv:=σ.mv.map (b7.sub θ),low:=σ.low }
def bg.mh(θ:Nat->ag)(σ:bg)(id:Nat):(σ.sub θ).bT id=(σ.bT id).map (b7.sub θ):=fb.sd _ _ _
def bg.n'(θ:Nat->ag)(σ:bg)(id:Nat)(o:b7):(σ.set id o).sub θ=(σ.sub θ).set id (o.sub θ):=by simp[bg.sub,bg.set,fb.map_set]
def bg.Ds(θ:Nat->ag)(σ:bg)(id:Nat):(σ.del id).sub θ=(σ.sub θ).del id:=by simp[bg.sub,bg.del,fb.map_set]
@[simp] theorem bg.bv5 (θ:Nat->ag) (σ:bg):(σ.sub θ).next=σ.next:=rfl
@[simp] theorem bg.bv4 (θ:Nat->ag) (σ:bg):(σ.sub θ).low=σ.low:=rfl
def AS.sub(θ:Nat->ag)(s:AS):AS:={ n:=s.n,mv:=s.mv.map (ag.sub θ),st:=s.st.sub θ }
@[simp] theorem AS.OC (θ:Nat->ag) (s:AS):(s.sub θ).n=s.n:=rfl
@[simp] theorem AS.uE (θ:Nat->ag) (s:AS):(s.sub θ).st=s.st.sub θ:=rfl
def AS.tS(θ:Nat->ag)(s:AS)(t:Nat):(s.sub θ).get t=(s.get t).sub θ:=by simp only[AS.get,AS.sub,fb.sd];cases s.mv.get t<;>simp
def AS.q2(θ:Nat->ag)(s:AS)(σ:bg)(d:Option Tmp)(v:ag):({ s with st:=σ }.put d v).sub θ=({ s.sub θ with st:=σ.sub θ }.put d (v.sub θ)):=by cases d<;>simp[AS.put,AS.sub,fb.map_set]
def Sn(θ:Nat->ag)(v:Value):(ag.ofValue v).sub θ=ag.ofValue v:=by cases v<;>simp[ag.ofValue]
def AS.sub_eval(θ:Nat->ag)(s:AS)(x:Operand):(s.sub θ).eval x=(s.eval x).sub θ:=by
 cases x with
 |tmp t=>exact AS.tS θ s t
 |const v=>exact(Sn θ v).symm
 |global g=>simp[AS.eval]
 |func f=>simp[AS.eval]
def AS.Ws(θ:Nat->ag)(s:AS):(s.sub θ).eval=λx=>(s.eval x).sub θ:=funext (AS.sub_eval θ s)
def Ew(θ:Nat->ag){ops:Array Oper}{s:AS}{o:Oper}{b:Bool}(h:oV ops s o=U b):oV ops (s.sub θ) o=U b:=by
 unfold oV at *;split at h
 .exact h
 split at h
 .split at h
  next a=>
   simp only[AS.OC,a,jj,AS.tS];split at h
   next c=>rw[c];simpa using h
   next c=>rw[c];simpa using h
   cases h
  cases h
 cases h
section
variable {θ:Nat->ag}
def NX(l:List Value):(l.map ag.bF).map (ag.sub θ)=l.map ag.bF:=by simp
def GY(ti:mL):ti.zeroCells.map (ag.sub θ)=ti.zeroCells:=NX _
def EG(ti:mL):ti.qs.sub θ=ti.qs:=Sn θ _
def be5{T:dd}{σ σ':bg}{id:Nat}{t:TypeId}{v:ag}(h:zc T σ id t=U (v,σ')):zc T (σ.sub θ) id t=U (v.sub θ,σ'.sub θ):=by
 unfold zc at *;split at h
 .cases h;simp[bg.n',b7.sub,GY]
 cases h
def GZ{ti:mL}{cs:List ag}{j:Nat}{v:ag}(h:rm ti cs j=U v):rm ti (cs.map (ag.sub θ)) j=U (v.sub θ):=by
 unfold rm at *;split at h
 next ha=>
  rw[b9 ha];split at h
  next hl=>
   cases h;rw[b9 (by simpa using hl)];simp[dY,dZ]
  cases h
 rename_i ha;rw[b8 ha];simp[h]
def MB{T:dd}{σ:bg}{t:TypeId}{x v:ag}(h:o8 T σ t x=U v):o8 T (σ.sub θ) t (x.sub θ)=U (v.sub θ):=by
 unfold o8 at h;split at h
 .split at h
  next elem size es c=>
   split at h
   next cs a=>
    split at h
    next ti b=>
     simp only[o8,Fx,bg.mh,c,aj,b7.sub,aX,a,b];exact GZ h
    cases h
   cases h
  cases h
 .split at h
  next ti b=>
   simp only[o8,J0,b];exact GZ h
  cases h
 cases h
def bf6{T:dd}{σ:bg}{t:TypeId}{x v:ag}(h:sQ T σ t x=U v):sQ T (σ.sub θ) t (x.sub θ)=U (v.sub θ):=by
 unfold sQ at h;split at h
 next g b=>
  rw[M5 b,oq];simp only[sQ,uX];unfold Gp at h⊢;split at h
  .split at h
   next l hl=>
    have:=GZ (θ:=θ) h;simp only[dB]at this;have e:l.map (ag.sub θ ∘ ag.bF)=l.map ag.bF:=bp λa _=>oq θ a;rw[e]at this;exact this
   cases h
  cases h
 rename_i b;have h1:=MB (θ:=θ) h;have h2:uX (x.sub θ)=No:=by
  unfold o8 at h;split at h
  .rfl
  .rw[J0];rfl
  cases h
 simp only[sQ,h2];exact h1
def RG{T:dd}{s:TypeId}{x v:ag}{f:Nat}(h:wx T s x f=U v):wx T s (x.sub θ) f=U (v.sub θ):=by
 unfold wx at h;split at h
 next fields _ _ _ _ hs=>
  split at h
  next fd hf=>
   split at h
   next b a=>
    split at h
    .cases h
    rename_i hz;split at h
    .cases h
     simp only[wx,hs,hf,a,Fx];rw[b8 hz]
    .split at h
     next hl=>
      cases h;simp only[wx,hs,hf,a,J0];rw[b8 hz];simp[hl,dZ]
     cases h
    cases h
   cases h
  cases h
 cases h
def TU{T:dd}{t:TypeId}{cs:List ag}{off:Nat}{v:ag}(h:xV T t cs off=U v):xV T t (cs.map (ag.sub θ)) off=U (v.sub θ):=by
 unfold xV at *;split at h
 next ti a=>exact GZ h
 cases h
def bb7{T:dd}{s:TypeId}{x v:ag}{f:Nat}(h:Bc T s x f=U v):Bc T s (x.sub θ) f=U (v.sub θ):=by
 unfold Bc at h;split at h
 next fields _ _ _ _ cs hs=>
  split at h
  next fd hf=>
   simp only[Bc,hs,y0,hf];exact TU h
  cases h
 cases h
def ay1{T:dd}{t:TypeId}{x ix v:ag}(h:qf T t x ix=U v):qf T t (x.sub θ) (ix.sub θ)=U (v.sub θ):=by
 unfold qf at h;split at h
 next elem _ _ _ _ k n b=>
  split at h
  next d he=>
   split at h
   next id size off len=>
    split at h
    next a=>
     cases h;simp[qf,b,he,a]
    cases h
   next es=>
    split at h
    next a=>
     split at h
     next cs c=>
      split at h
      next hl=>
       cases h;simp[qf,b,he,a,aX,c,hl]
      cases h
     cases h
    cases h
   cases h
  cases h
 next len elem _ _ _ _ k n b=>
  split at h
  next d he=>
   split at h
   next a=>
    split at h
    .cases h
     simp[qf,b,he,a]
    .split at h
     next hl=>
      cases h;simp[qf,b,he,a,hl,dZ]
     cases h
    cases h
   cases h
  cases h
 cases h
def bc1{T:dd}{t:TypeId}{x ix v:ag}(h:uV T t x ix=U v):uV T t (x.sub θ) (ix.sub θ)=U (v.sub θ):=by
 unfold uV at h;split at h
 next len elem _ _ _ _ cs k n a=>
  split at h
  next e he=>
   split at h
   next c=>
    simp only[uV,a,he,y0,oq];rw[b9 c];exact TU h
   cases h
  cases h
 next a=>
  split at h
  next c=>
   split at h
   next b d=>
    cases h;simp[uV,a,c,d]
   cases h
  cases h
 cases h
def yM{len:Nat}{x:Option ag}{d n:Nat}(h:bound len x d=U n):bound len (x.map (ag.sub θ)) d=U n:=by
 unfold bound at h;split at h
 .simpa[bound]using h
 .split at h
  next a=>simpa[bound,a]using h
  cases h
 cases h
def bb5{T:dd}{t:TypeId}{x v:ag}{b5 a7 pX:Option ag}(h:qz T t x b5 a7 pX=U v):qz T t (x.sub θ) (b5.map (ag.sub θ)) (a7.map (ag.sub θ)) (pX.map (ag.sub θ))=U (v.sub θ):=by
 unfold qz at h;split at h
 next elem _ _ _ _ e=>
  split at h
  next i id size off len he=>
   split at h
   next hs=>
    split at h
    next g a=>
     split at h
     next l b=>
      cases h;simp[qz,e,he,hs,yM a,yM b]
     cases h
    cases h
   cases h
  next i es he=>
   split at h
   next g a=>
    split at h
    next l b=>
     split at h
     next f=>
      cases h;have d:((es.map (bY (ag.sub θ))).all λc=>c.length==i.size)=IN:=by rw[dV];simpa[cR]using f
      simp only[qz,Option.map_none,e,he,wV,aF,yM a,yM b];rw[b9 d];simp[dY,dZ]
     cases h
    cases h
   cases h
  next he=>
   split at h
   next g a=>
    split at h
    next l b=>
     cases h;simp[qz,e,he,yM a,yM b]
    cases h
   cases h
  cases h
 next e=>
  split at h
  next s=>
   split at h
   next g a=>
    split at h
    next l b=>
     cases h;simp[qz,e,yM a,yM b]
    cases h
   cases h
  cases h
 cases h
def H2:∀ {cs:List ag} {l:List Int},ag.uo cs=U l->cs.map (ag.sub θ)=cs
 | [],_,_=>rfl
 |c::cs,l,h=>by
  unfold ag.uo at h;split at h
  next e=>cases e
  next n a e=>
   cases e;split at h
   next b hl=>
    simp[H2 hl]
   cases h
  cases h
def bj4{x:ag}{b:Bool}(h:x.isNil=U b):(x.sub θ).isNil=U b:=by
 unfold ag.isNil at h;split at h
 .simpa[ag.isNil]using h
 .simpa[ag.isNil]using h
 .simpa[ag.isNil]using h
 cases h
def bo8(T:dd)(op:BinOp)(t:TypeId)(z:ag):qH T op t z (.bF (.slice No 0 0))=(match T t,z.isNil with
  |some { fT:=.slice _,.. },U b=>match op with
   | .eql=>U (.bF (.bool b))
   | .neq=>U (.bF (.bool !b))
   |_=>No
  |_,_=>No):=by cases z<;>first|rfl| (rename_i v;cases v<;>rfl)
def bm4{T:dd}{op:BinOp}{t:TypeId}{x y v:ag}(h:qH T op t x y=U v):qH T op t (x.sub θ) (y.sub θ)=U (v.sub θ):=by
 have c:=h;unfold qH at h;split at h
 .split at h
  next e _ _ _ _ b f g=>
   have d:=bj4 (θ:=θ) g;rw[oq,bo8,f,d];simp only;split at h
   .cases h;rfl
   .cases h;rfl
   cases h
  cases h
 next a b _=>
  rw[oq,oq,c];split at h
  .split at h
   .cases h;rfl
   .cases h;rfl
   cases h
  cases h
 next a b i j=>
  rw[oq,oq,c];split at h
  .cases h;rfl
  cases h
 next cs k=>
  split at h
  next az bs ti h1 h2 l=>
   rw[y0,y0,H2 h1,H2 h2,c];split at h
   .split at h
    .cases h;rfl
    .cases h;rfl
    cases h
   cases h
  cases h
 cases h
def YZ{op:UnOp}{x v:ag}(h:vu op x=U v):vu op (x.sub θ)=U (v.sub θ):=by
 unfold vu at h;split at h
 .cases h;simp[vu]
 .cases h;simp[vu]
 cases h
def TK:∀ {es:List (List ag)} {a6:List Int},w9 es=U a6->es.map (bY (ag.sub θ))=es
 | [],_,_=>rfl
 |r::es,a6,h=>by
  unfold w9 at h;split at h
  next e=>cases e
  next n l e=>
   cases e;split at h
   next ms hm=>
    simp[TK hm]
   cases h
  cases h
def bj1{T:dd}{s d:TypeId}{x v:ag}(h:vR T s d x=U v):vR T s d (x.sub θ)=U (v.sub θ):=by
 have a:=h;unfold vR at h;split at h
 next h1 h2=>
  cases h;simp[vR,h1,h2]
 next h1 h2=>
  split at h
  .split at h
   next b=>
    cases h;simp only[ag.sub,vE,TK b];exact a
   cases h
  cases h
 cases h
def aA1{x v:ag}{i:Nat}(h:AG x i=U v):AG (x.sub θ) i=U (v.sub θ):=by
 unfold AG at h;split at h
 .simp[AG,h]
 cases h
def SX(cs:List ag)(j:Nat)(vs:List ag):(p4 cs j vs).map (ag.sub θ)=p4 (cs.map (ag.sub θ)) j (vs.map (ag.sub θ)):=by simp[p4,dY,dZ]
variable (hθ:Fit θ)
include hθ
theorem bo2{σ σ':bg}{id:Nat}{t:TypeId}{x v:ag}(h:yi σ id t x=U (v,σ')):yi (σ.sub θ) id t (x.sub θ)=U (v.sub θ,σ'.sub θ):=by
 unfold yi at h;split at h
 next cs hc=>
  cases h;simp[yi,HC hθ hc,bg.n',b7.sub]
 cases h
theorem L2{vs:List ag}(h:vs.all ag.one=IN):(vs.map (ag.sub θ)).all ag.one=IN:=by rw[dV,ak];intro v hv;exact one_sub hθ (ak.1 h v hv)
theorem bf7{T:dd}{σ σ':bg}{t:TypeId}{x v:ag}(h:rA T σ t x v=U σ'):rA T (σ.sub θ) t (x.sub θ) (v.sub θ)=U (σ'.sub θ):=by
 unfold rA at h;split at h
 next id i j vs ti hc c=>
  split at h
  next elem size es d=>
   split at h
   next cs b=>
    split at h
    next a=>
     cases h;simp only[rA,Fx,HC hθ hc,c,bg.mh,d,aj,b7.sub,aX,b,aF];rw[b9 ⟨a.1,a.2.1,L2 hθ a.2.2⟩];rw[bg.n'];simp[b7.sub,SX,kK]
    cases h
   cases h
  cases h
 cases h
theorem MJ{place:Nat->Option (Nat×Nat)}:∀ {parts:List (Nat×ag)} {cells cs:List ag},tI place cells parts=U cs->tI place (cells.map (ag.sub θ)) (parts.map λp=>(p.1,p.2.sub θ))=U (cs.map (ag.sub θ))
 | [],cells,cs,h=>by simp only[tI,ai]at h;subst h;simp[tI]
 | (i,v)::rest,cells,cs,h=>by
  unfold tI at h;split at h
  next off size vs hp hv=>
   split at h
   next hc=>
    simp only[ay,tI,hp,HC hθ hv,aF];rw[b9 hc];have:=MJ h;rwa [SX]at this
   cases h
  cases h
theorem R_{size:Nat}:∀ {parts:List (Nat×ag)} {es rs:List (List ag)},uN size es parts=U rs->uN size (es.map (bY (ag.sub θ))) (parts.map λp=>(p.1,p.2.sub θ))=U (rs.map (bY (ag.sub θ)))
 | [],es,rs,h=>by simp only[uN,ai]at h;subst h;simp[uN]
 | (i,v)::rest,es,rs,h=>by
  unfold uN at h;split at h
  next vs hv=>
   split at h
   next hc=>
    simp only[ay,uN,HC hθ hv,aF];rw[b9 hc];have:=R_ h;rwa [kK]at this
   cases h
  cases h
theorem bc2{T:dd}{t:TypeId}{parts:List (Nat×ag)}{v:ag}(h:ze T t parts=U v):ze T t (parts.map λp=>(p.1,p.2.sub θ))=U (v.sub θ):=by
 unfold ze at h;split at h
 next fields _ z _ _ a=>
  split at h
  next l hl=>
   split at h
   next cs hc=>
    cases h;have:=MJ hθ hc;rw[NX]at this;simp only[ze,a,hl,this,y0]
   cases h
  cases h
 next n elem _ z _ _ a=>
  split at h
  next b he=>
   split at h
   next cs hc=>
    cases h;have:=MJ hθ hc;rw[NX]at this;simp only[ze,a,he,this,y0]
   cases h
  cases h
 cases h
theorem aw9{T:dd}{σ σ':bg}{id:Nat}{t:TypeId}{len:Nat}{parts:List (Nat×ag)}{v:ag}(h:vh T σ id t len parts=U (v,σ')) :
  vh T (σ.sub θ) id t len (parts.map λp=>(p.1,p.2.sub θ))=U (v.sub θ,σ'.sub θ):=by
 unfold vh at h;split at h
 next elem _ _ _ _ a=>
  split at h
  next b he=>
   split at h
   next hc=>
    split at h
    next es hes=>
     cases h;have:=R_ hθ hes;rw[List.map_replicate,GY]at this;simp only[vh,a,he,hc,and_self,jj,this,tD,bg.n',b7.sub]
    cases h
   cases h
  cases h
 cases h
omit hθ in
theorem TI{σ:bg}{x:ag}{es:List (List ag)}(h:nV σ x=U es):nV (σ.sub θ) (x.sub θ)=U (es.map (bY (ag.sub θ))):=by
 unfold nV at h;split at h
 .split at h
  next a=>
   split at h
   next hl=>
    cases h;simp[nV,bg.mh,a,b7.sub,hl,dY,dZ]
   cases h
  cases h
 .cases h;simp[nV]
 .cases h;simp[nV]
 cases h
omit hθ in
theorem be7{σ:bg}{elem:TypeId}{size:Nat}{x:ag}{r:Option Nat×List (List ag)}(h:qT σ elem size x=U r):qT (σ.sub θ) elem size (x.sub θ)=U (r.1,r.2.map (bY (ag.sub θ))):=by
 unfold qT at h;split at h
 .split at h
  next a=>
   split at h
   next hc=>
    cases h;simp only[tD,qT,bg.mh,a,aj,b7.sub,aF];rw[b9 hc]
   cases h
  cases h
 .cases h;simp[qT]
 cases h
theorem aP7{T:dd}{σ σ':bg}{id:Nat}{sT xT:TypeId}{s x v:ag}(h:rR T σ id sT xT s x=U (v,σ')):rR T (σ.sub θ) id sT xT (s.sub θ) (x.sub θ)=U (v.sub θ,σ'.sub θ):=by
 unfold rR at h;split at h
 next elem _ _ _ _ j e f=>
  split at h
  next g he=>
   split at h
   next b es xs i hs=>
    split at h
    next hc=>
     cases h;have a:((xs.map (bY (ag.sub θ))).all λc=>c.length==g.size&&c.all ag.one)=IN:=by rw[dV,ak];intro c d;have:=ak.1 hc.2.1 c d;simp only[gY,aF,ab]at this⊢;exact⟨this.1,L2 hθ this.2⟩
     simp only[rR,e,f,he,be7 i,TI hs,aF];rw[b9 ⟨hc.1,a,hc.2.2⟩];cases b<;>simp[bg.n',bg.Ds,b7.sub]
    cases h
   cases h
  cases h
 cases h
omit hθ in
theorem ay9{σ:bg}{s:ag}{elem:TypeId}{size:Nat}{r:Option Nat×List (List ag)}(a:qT (om σ s) elem size s=U r):om (σ.sub θ) (s.sub θ)=(om σ s).sub θ:=by
 unfold qT at a;split at a
 next id z len=>
  simp only[om,tD,bg.mh];cases b:σ.bT id with
  |none=>simp
  |some o=>
   cases o with
   |row e d es=>
    simp only[aj,b7.sub,aF];split
    .rw[bg.n'];simp[b7.sub,dY]
    rfl
   |f' e d i=>simp only[om,b]at a;cases a
   |mS c=>simp only[om,b]at a;cases a
   |nD=>simp only[om,b]at a;cases a
   |_=>simp[b7.sub]
 .simp[om]
 cases a
omit hθ in
theorem aX1{T:dd}{σ σ':bg}{id:Nat}{elem:TypeId}{s x v:ag}(h:wS T σ id elem s x=U (v,σ')):wS T (σ.sub θ) id elem (s.sub θ) (x.sub θ)=U (v.sub θ,σ'.sub θ):=by
 unfold wS at h;split at h
 next k n a he=>
  split at h
  next hc=>
   cases h;simp only[wS,oq,he];rw[b9 hc];simp[bg.n',b7.sub,GY]
  cases h
 cases h
theorem aL7{T:dd}{σ σ':bg}{id:Nat}{sT xT:TypeId}{s x v:ag}(h:qt T σ id sT xT s x=U (v,σ')):qt T (σ.sub θ) id sT xT (s.sub θ) (x.sub θ)=U (v.sub θ,σ'.sub θ):=by
 unfold qt at h⊢;split at h
 .exact aX1 h
 have hk:=aP7 hθ h;unfold rR at h;split at h
 .split at h
  .split at h
   next a _=>
    rwa [ay9 a]
   cases h
  cases h
 cases h
omit hθ in
theorem bq5{T:dd}{σ:bg}{t:TypeId}{x v:ag}(h:pt T σ t x=U v):pt T (σ.sub θ) t (x.sub θ)=U (v.sub θ):=by
 unfold pt at h;split at h
 next ti a=>
  split at h
  next hu=>cases h;simp[pt,a,hu]
  next hu=>cases h;simp[pt,a,hu]
  next hu=>cases h;simp[pt,a,hu]
  next hu=>cases h;simp[pt,a,hu]
  next n e _ hu=>cases h;simp[pt,a,hu]
  next hu=>
   split at h
   next b=>cases h;simp[pt,a,hu,bg.mh,b,b7.sub]
   cases h
  cases h
 cases h
omit hθ in
theorem Tj(k:IntKind):∀ {l:List ag} {a:Int} {v:Value},xO k a l=U v->l.map (ag.sub θ)=l
 | [],_,_,_=>rfl
 |c::l,a,v,h=>by
  unfold xO at h;split at h
  next e=>cases e
  next e=>cases e;simp[Tj k h]
  cases h
omit hθ in
theorem SC(k:IntKind):∀ {l:List ag} {a:Int} {v:Value},xQ k a l=U v->l.map (ag.sub θ)=l
 | [],_,_,_=>rfl
 |c::l,a,v,h=>by
  unfold xQ at h;split at h
  next e=>cases e
  next e=>cases e;simp[SC k h]
  cases h
omit hθ in
theorem bq8{l:List ag}{v:Value}(h:yp l=U v):l.map (ag.sub θ)=l:=by
 unfold yp at h;split at h
 .simp[Tj _ h]
 cases h
omit hθ in
theorem bq9{l:List ag}{v:Value}(h:zH l=U v):l.map (ag.sub θ)=l:=by
 unfold zH at h;split at h
 .simp[SC _ h]
 cases h
omit hθ in
theorem bk5{T:dd}{t:TypeId}{x v:ag}(h:zT T t x=U v):zT T t (x.sub θ)=U (v.sub θ):=by
 unfold zT at h;split at h
 next a=>cases h;simp[zT,a]
 cases h
omit hθ in
theorem CH{x:ag}{k:Bool×List Int}(h:x.key=U k):(x.sub θ).key=U k:=by
 unfold ag.key at h;split at h
 .simpa[ag.key]using h
 .split at h
  next cs l hl=>
   rw[y0,H2 hl];simpa[ag.key,hl]using h
  cases h
 cases h
omit hθ in
theorem ES(agg:Bool)(l:List Int):∀(es:List (List Int×ag×Nat)) (i:Nat),nd agg l (es.map λe=>(e.1,e.2.1.sub θ,e.2.2)) i=(nd agg l es i).map λp=>(p.1,p.2.sub θ)
 | [],i=>rfl
 |e::es,i=>by
  simp only[ay,nd];split
  .rfl
  exact ES agg l es (i+1)
omit hθ in
theorem Hg(T:dd)(a:TypeId)(b:Bool)(l:List Int)(es:List (List Int×ag×Nat)):ry T a b l (es.map λe=>(e.1,e.2.1.sub θ,e.2.2))=ry T a b l es:=by simp only[ry,dV,cR]
omit hθ in
theorem aC3{r:List ag}(h:ua r=IN):ua (r.map (ag.sub θ))=IN/\∀j,nR j (r.map (ag.sub θ))=((nR j r).1,(nR j r).2.1.sub θ,(nR j r).2.2):=by
 unfold ua at h;split at h
 next k v=>
  cases hk:k.key with
  |none=>simp[hk]at h
  |some x=>simp[ua,nR,CH hk,hk]
 cases h
omit hθ in
theorem RL:∀ {rows:List (List ag)} (j:Nat),rows.all ua=IN->(rows.map (bY (ag.sub θ))).all ua=IN/\nt j (rows.map (bY (ag.sub θ)))=(nt j rows).map λe=>(e.1,e.2.1.sub θ,e.2.2)
 | [],_,_=>by simp[nt]
 |r::rs,j,h=>by simp only[cE,ab]at h;obtain⟨h1,h2⟩:=aC3 (θ:=θ) h.1;obtain⟨a,b⟩:=RL (rows:=rs) (j+1) h.2;simp only[ay,cE,ab,nt,h2,b];exact⟨⟨h1,a⟩,trivial⟩
omit hθ in
theorem bk3{rows:List (List ag)}(h:rows.all ua=IN):qF (rows.map (bY (ag.sub θ)))=qF rows:=by
 cases rows with
 |nil=>rfl
 |cons r rs=>
  simp only[cE,ab]at h;have h1:=h.1;unfold ua at h1;split at h1
  next k v=>
   cases hk:k.key with
   |none=>simp[hk]at h1
   |some x=>simp[qF,CH hk,hk]
  cases h1
omit hθ in
theorem aO4{T:dd}{σ:bg}{t:TypeId}{x ix v:ag}{ok:Bool}(h:oW T σ t x ix ok=U v):oW T (σ.sub θ) t (x.sub θ) (ix.sub θ) ok=U (v.sub θ):=by
 unfold oW at h;split at h
 next d e _ _ _ _ b l a hk=>
  split at h
  next f he=>
   split at h
   .split at h
    next agg es _ c=>
     split at h
     next hc=>
      cases h;simp only[oW,a,CH hk,he,wX,bg.mh,c,aj,b7.sub,Hg,fO,ES];rw[b9 hc];cases nd b l es 0<;>cases ok<;>simp[EG]
     cases h
    cases h
   next rows=>
    split at h
    next hc=>
     cases h;obtain⟨lL,fa⟩:=RL (θ:=θ) 0 hc.2.2;simp only[oW,a,CH hk,he,y7,wV,lL,fa,bk3 hc.2.2,Hg,fO,ES];rw[b9 ⟨hc.1,hc.2.1,trivial⟩];cases nd b l (nt 0 rows) 0<;>cases ok<;>simp[EG]
    cases h
   cases h
  cases h
 cases h
omit hθ in
theorem bs6(agg:Bool)(l:List Int)(v:ag)(clock:Nat)(es:List (List Int×ag×Nat)) :
  pW agg l (v.sub θ) clock (es.map λe=>(e.1,e.2.1.sub θ,e.2.2))=((pW agg l v clock es).1.map (λe=>(e.1,e.2.1.sub θ,e.2.2)),(pW agg l v clock es).2):=by
 simp only[pW,ES];cases nd agg l es 0 with
 |none=>simp
 |some p=>
  simp only[aj,Prod.mk.injEq,and_true];apply gZ;intro j;simp only[jb,aX];cases es[j]? with
  |none=>simp
  |some e=>simp only[aj];split<;>simp
omit hθ in
theorem VY(n:Int):∀(es:List (List Int×ag×Nat)) (i:Nat),yo n (es.map λe=>(e.1,e.2.1.sub θ,e.2.2)) i=yo n es i
 | [],_=>rfl
 |e::es,i=>by simp only[ay,yo];rw[VY n es]
omit hθ in
theorem ay8{T:dd}{σ σ':bg}{t:TypeId}{x ix v:ag}(h:vm T σ t x ix=U (v,σ')):vm T (σ.sub θ) t (x.sub θ) (ix.sub θ)=U (v.sub θ,σ'.sub θ):=by
 unfold vm at h;split at h
 next g j _ _ _ _ b l d hk=>
  split at h
  next k a=>
   split at h
   .split at h
    next agg es clock e=>
     simp only[vm,d,CH hk,a,wX,bg.mh,e,aj,b7.sub,Hg,fO,ES];split at h
     next hc=>
      cases h;rw[b9 hc];simp[bg.n',b7.sub,EG]
     rename_i f;rw[b8 f];split at h
     next hc=>
      rw[b9 hc];split at h
      next i c hm=>
       cases h;simp[hm,dw,cR]
      rename_i hm;cases h;simp[hm,bg.n',b7.sub,EG]
     cases h
    cases h
   cases h
  cases h
 cases h
omit hθ in
theorem ax0{σ σ':bg}{x st v:ag}(h:vi σ x st v=U σ'):vi (σ.sub θ) (x.sub θ) (st.sub θ) (v.sub θ)=U (σ'.sub θ):=by
 unfold vi at h;split at h
 .split at h
  next agg es clock a=>
   split at h
   next i a7=>
    cases h;simp only[vi,wX,oq,bg.mh,a,aj,b7.sub,VY,a7,bg.n'];congr 3;apply gZ;intro j;simp only[jb,aX];cases es[j]? with
    |none=>simp
    |some e=>simp only[aj];split<;>rfl
   cases h
  cases h
 cases h
omit hθ in
theorem Rs{T:dd}{σ σ':bg}{t:TypeId}{x ix v:ag}(h:q3 T σ t x ix v=U σ'):q3 T (σ.sub θ) t (x.sub θ) (ix.sub θ) (v.sub θ)=U (σ'.sub θ):=by
 unfold q3 at h;split at h
 next e f _ _ _ _ b l a hk=>
  split at h
  .split at h
   next agg es clock c=>
    simp only[q3,a,CH hk,wX,bg.mh,c,aj,b7.sub,Hg,fO];split at h
    next hc=>
     cases h;rw[b9 hc];simp[bg.n',b7.sub]
    rename_i d;rw[b8 d];split at h
    next hc=>
     cases h;rw[b9 hc];simp[bg.n',b7.sub,bs6]
    cases h
   cases h
  cases h
 cases h
theorem bn2{T:dd}{σ σ':bg}{t:TypeId}{x:ag}(h:td T σ t x=U σ'):td T (σ.sub θ) t (x.sub θ)=U (σ'.sub θ):=by
 unfold td at h;split at h
 next elem _ _ _ _ id' size off len b=>
  split at h
  next d e f es a c=>
   split at h
   next hc=>
    cases h;simp only[tD,td,b,a,bg.mh,c,aj,b7.sub,aF];rw[b9 hc];simp[bg.n',b7.sub,dY]
   cases h
  cases h
 cases h
theorem bm8{T:dd}{σ σ':bg}{id:Nat}{t:TypeId}{n c v:ag}(h:tg T σ id t n c=U (v,σ')):tg T (σ.sub θ) id t (n.sub θ) (c.sub θ)=U (v.sub θ,σ'.sub θ):=by
 unfold tg at h;split at h
 next elem _ _ _ _ d e f g b=>
  split at h
  next i a=>
   split at h
   next hc=>
    cases h;simp only[oq,tD,tg,b,a];rw[b9 hc];simp[bg.n',b7.sub,GY]
   cases h
  cases h
 cases h
theorem bl2{T:dd}{σ σ':bg}{t:TypeId}{x y:ag}(h:sB T σ t x y=U σ'):sB T (σ.sub θ) t (x.sub θ) (y.sub θ)=U (σ'.sub θ):=by
 unfold sB at h;split at h
 next elem _ _ _ _ id' size len g=>
  split at h
  next i e n es xs d j a=>
   split at h
   next hc=>
    cases h;obtain⟨h1,h2,k,l,m⟩:=hc;simp only[tD,sB,g,d,bg.mh,j,aj,b7.sub,TI a,aF];have b:((xs.map (bY (ag.sub θ))).all λc=>c.length==i.size&&c.all ag.one)=IN:=by rw[dV,ak];intro c f;have:=ak.1 m c f;simp only[gY,aF,ab]at this⊢;exact⟨this.1,L2 hθ this.2⟩
    rw[b9 ⟨h1,h2,k,l,b⟩];simp[bg.n',b7.sub]
   cases h
  cases h
 cases h
theorem aL6{T:dd}{σ σ':bg}{id:Nat}{b:Builtin}{ts:Array TypeId}{args:List ag}{v:ag}(h:pC T σ id b ts args=U (v,σ')):pC T (σ.sub θ) id b ts (args.map (ag.sub θ))=U (v.sub θ,σ'.sub θ):=by
 unfold pC at h;split at h
 next t x d=>
  split at h
  next u hu=>cases h;simp[pC,d,bq5 hu]
  cases h
 next s x a c d=>
  have:=aL7 hθ h;simp only[pC,d,ay,bO];exact this
 next t x d=>
  split at h
  next u hu=>cases h;simp[pC,d,bk5 hu]
  cases h
 next l=>
  split at h
  next u hu=>cases h;simp[pC,bq8 hu,hu]
  cases h
 next l=>
  split at h
  next u hu=>cases h;simp[pC,bq9 hu,hu]
  cases h
 next t x d=>
  split at h
  next u hu=>cases h;simp[pC,d,bn2 hθ hu]
  cases h
 next s x a c d=>
  split at h
  next u hu=>cases h;simp[pC,d,bl2 hθ hu]
  cases h
 cases h
theorem WB{T:dd}{g:Operand->ag}{σ σ':bg}{id:Nat}{op:Op}{v:ag}(h:j5 T g σ id op=U (v,σ')):j5 T (λx=>(g x).sub θ) (σ.sub θ) id op=U (v.sub θ,σ'.sub θ):=by
 cases op with
 |move x=>cases h;rfl
 |assign x=>cases h;rfl
 |pick c a b=>
  simp only[j5]at h⊢;split at h
  next t hc=>cases h;simp only[hc,oq];cases t<;>rfl
  cases h
 |alloc t=>exact be5 h
 |box t x=>exact bo2 hθ h
 |build t j=>
  simp only[j5]at h⊢;split at h
  next u hu=>
   cases h;have:=bc2 hθ hu;simp only[dB,cR]at this;rw[this]
  cases h
 |buildSlice t len j=>simp only[j5]at h⊢;have:=aw9 hθ h;simp only[dB,cR]at this;exact this
 |load t x=>
  simp only[j5]at h⊢;split at h
  next u hu=>cases h;rw[bf6 hu]
  cases h
 |store t a x=>
  simp only[j5]at h⊢;split at h
  next u hu=>cases h;rw[bf7 hθ hu];simp
  cases h
 |nilCheck x=>
  simp only[j5]at h⊢;split at h
  next e=>cases h;simp[e]
  next e=>cases h;simp[e]
  next e=>cases h;simp[e]
  cases h
 |binOp o t x y p=>
  simp only[j5]at h⊢;split at h
  next u hu=>cases h;rw[bm4 hu]
  cases h
 |unOp o t x=>
  simp only[j5]at h⊢;split at h
  next u hu=>cases h;rw[YZ hu]
  cases h
 |convert s d x=>
  simp only[j5]at h⊢;split at h
  next u hu=>cases h;rw[bj1 hu]
  cases h
 |makeFunc f a c=>simp only[j5]at h⊢;cases h;simp[cR]
 |makeSlice t n c=>simp only[j5]at h⊢;exact bm8 hθ h
 |makeMap t n=>
  cases n with
  |none=>simp only[j5]at h⊢;cases h;simp[bg.n',b7.sub]
  |some n=>simp[j5]at h
 |slice t x b5 a7 pX=>
  simp only[j5]at h⊢;split at h
  next u hu=>
   cases h;have:=bb5 (θ:=θ) hu;simp only[dw,cR]at this;rw[this]
  cases h
 |fieldAddr t x f=>
  simp only[j5]at h⊢;split at h
  next u hu=>cases h;rw[RG hu]
  cases h
 |field t x f=>
  simp only[j5]at h⊢;split at h
  next u hu=>cases h;rw[bb7 hu]
  cases h
 |indexAddr t x i=>
  simp only[j5]at h⊢;split at h
  next u hu=>cases h;rw[ay1 hu]
  cases h
 |index t x i=>
  simp only[j5]at h⊢;split at h
  next u hu=>cases h;rw[bc1 hu]
  cases h
 |lookup t x i ok=>
  simp only[j5]at h⊢;split at h
  next u hu=>cases h;rw[aO4 hu]
  cases h
 |mapUpdate t m k x=>
  simp only[j5]at h⊢;split at h
  next u hu=>cases h;rw[Rs hu];simp
  cases h
 |insert t m k x=>
  simp only[j5]at h⊢;split at h
  next u hu=>cases h;rw[Rs hu];simp
  cases h
 |mapEntry t m k=>simp only[j5]at h⊢;exact ay8 h
 |entryStore t m s x=>
  simp only[j5]at h⊢;split at h
  next u hu=>cases h;rw[ax0 hu];simp
  cases h
 |extract x i=>
  simp only[j5]at h⊢;split at h
  next u hu=>cases h;rw[aA1 hu]
  cases h
 |call c=>
  obtain⟨callee,args,ts⟩:=c;cases callee with
  |builtin b=>simp only[j5]at h⊢;have:=aL6 hθ h;simpa[dB,cR]using this
  |value f=>simp[j5]at h
  |invoke r m=>simp[j5]at h
 |_=>simp[j5]at h
end
structure oK(n:Nat)(G:cb)(σ:bg)(w:World)(G':cb)(σ':bg)(w':World):Prop where
 mr:G'.mr=G.mr
 lM:∀b o,G.lM b=U o->G'.lM b=U o
 pl:∀i,i<n->G'.pl i=G.pl i
 lC:n<=σ'.next
 bb:Fr G σ w G' σ' w'
def oK.refl{n:Nat}(G:cb)(σ:bg)(w:World)(a:n<=σ.next):oK n G σ w G σ w:=⟨rfl,λ_ _ h=>h,λ_ _=>rfl,a,.refl G σ w⟩
def oK.trans{n m:Nat}{e f g:cb}{σ1 a c:bg}{j l p:World}(h:oK n e σ1 j f a l)(k:oK m f a l g c p)(d:n<=m):oK n e σ1 j g c p :=⟨k.mr.trans h.mr,λb o x=>k.lM b o (h.lM b o x),λi a7=>(k.pl i (by omega)).trans (h.pl i a7),bI d k.lC,h.bb.trans k.bb⟩
def sE.Kl{m n:Nat}{G:cb}{σ:bg}{w:World}{G':cb}{σ':bg}{w':World}(h:sE m G σ w G' σ' w')(b:n<=m)(a:n<=σ.next):oK n G σ w G' σ' w' :=
 ⟨h.le.mr,h.le.lM,λi a7=>by
  cases hp:G.pl i with
  |none=>exact h.keeps i (by omega) hp
  |some p=>exact h.le.pl i p hp,bI a h.next,h.bb⟩
def oK.le{n:Nat}{G:cb}{σ σ0:bg}{w mr:World}{G':cb}{σ':bg}{w':World}(h:oK n G σ w G' σ' w')(a:Rel G σ0 mr)(b:σ0.next<=n):G.le G' :=⟨h.mr,h.lM,λi p hp=>by rw[h.pl i (by have:=a.R9 hp;omega)];exact hp⟩
def j4(P:Program)(n:Nat)(c:Code)(Q:Exit->AS->Prop)(s:AS):Prop :=n<=s.st.next->∀G a w,np G s a w->c.wp P (λe b w'=>∃s' G',oK n G s.st w G' s'.st w'/\np G' s' b w'/\Q e s') a w
section
variable {P:Program} {n:Nat} {Q:Exit->AS->Prop} {s:AS}
def j4.mono{c:Code}{Q':Exit->AS->Prop}(h:j4 P n c Q s)(b:∀e s',Q e s'->Q' e s'):j4 P n c Q' s :=λd G a w f=>wp_mono (h d G a w f) λ_ _ _ ⟨s',G',g,a2,a3⟩=>⟨s',G',g,a2,b _ _ a3⟩
def j4.x6{c:Code}(h:mY P c Q s):j4 P n c Q s :=λb G a w d=>wp_mono (h G a w d) λ_ _ _ ⟨s',G',e,a2,a3⟩=>⟨s',G',e.Kl b b,a2,a3⟩
def j4.seq{x y:Code}(h:j4 P n x (Bq (j4 P n y Q) Q) s):j4 P n (.seq x y) Q s:=by
 intro c G a w d;refine wp_seq (wp_mono (h c G a w d) ?_);rintro e f w' ⟨s',G',b,a2,a3⟩;cases e with
 |normal=>refine wp_mono (a3 b.lC G' f w' a2) ?_;rintro m g o ⟨s2,i,j,k,l⟩;exact⟨s2,i,b.trans j (aw _),k,l⟩
 |_=>exact⟨s',G',b,a2,a3⟩
def j4.cond{c:Operand}{x y:Code}{t:Bool}(hc:s.eval c=.bF (.bool t))(h:j4 P n (if t then x else y) Q s):j4 P n (.cond c x y) Q s:=by intro e G a w d;have:=d.eval c;rw[hc]at this;generalize b:a.eval c=u at this;cases this;exact wp_cond b (h e G a w d)
def j4.block{id:Nat}{c:Code}(h:j4 P n c (HU id Q) s):j4 P n (.block id c) Q s:=by
 intro d G a w f;refine wp_block (wp_mono (h d G a w f) ?_);rintro e g w' ⟨s',G',b,a2,a3⟩;cases e with
 |exit id' =>
  simp only[HU]at a3;simp only[Exit.inBlock];split
  next e=>rw[b9 e]at a3;exact⟨s',G',b,a2,a3⟩
  rename_i e;rw[b8 e]at a3;exact⟨s',G',b,a2,a3⟩
 |_=>exact⟨s',G',b,a2,a3⟩
def j4.scope{c:Code}(h:j4 P n c (λe s'=>aB3 e/\Q e s') s):j4 P n (.scope c) Q s:=by
 intro b G a w d;refine wp_scope_straight (wp_mono (h b G a w d) ?_);rintro e g w' ⟨s',G',f,a2,a3,a4⟩;cases e with
 |goto l=>exact a3.elim
 |_=>exact⟨s',G',f,a2,a4⟩
def j4.loop{c:Code}(I:Nat->AS->Prop)(round:∀k s,I k s->j4 P n c (Bq (λs'=>∃m,m<k/\I m s') Q) s){k:Nat}(C:I k s):j4 P n (.loop c) Q s:=by
 intro D G a w E;have pick:∀d b,(∃k,∃s' G',oK n G s.st w G' s'.st b/\np G' s' d b/\I k s') ->
   ∃k,(∃s' G',oK n G s.st w G' s'.st b/\np G' s' d b/\I k s')/\∀m,m<k->¬ ∃s' G',oK n G s.st w G' s'.st b/\np G' s' d b/\I m s':=by
  rintro d b ⟨k,hk⟩
  induction k using gX with
  |_ k H=>
   by_cases hm:∃m,m<k/\∃s' G',oK n G s.st w G' s'.st b/\np G' s' d b/\I m s'
   .obtain⟨m,g,i⟩:=hm
    exact H m g i
   exact⟨k,hk,λm g i=>hm ⟨m,g,i⟩⟩
 classical
 let l:Act->World->Nat:=λd b=>if h:∃k,∃s' G',oK n G s.st w G' s'.st b/\np G' s' d b/\I k s' then(pick d b h).choose else 0
 refine wp_loop (λd b=>∃k,∃s' G',oK n G s.st w G' s'.st b/\np G' s' d b/\I k s') l ⟨k,s,G,.refl _ _ _ D,E,C⟩ ?_;intro d b r;have t:l d b=(pick d b r).choose:=by simp only[l];rw[dif_pos r]
 obtain⟨⟨s',G',z,J,K⟩,q⟩:=(pick d b r).choose_spec;rw[t];refine wp_mono (round _ s' K z.lC G' d b J) ?_;rintro e a2 j ⟨s2,u,c1,c2,B⟩;have v:=z.trans c1 (aw _);cases e with
 |normal=>
  obtain⟨m,hm,o⟩:=B;have f:∃k,∃s' G',oK n G s.st w G' s'.st j/\np G' s' a2 j/\I k s':=⟨m,s2,u,v,c2,o⟩;refine⟨f,?_⟩;have p:l a2 j=(pick a2 j f).choose:=by simp only[l];rw[dif_pos f]
  rw[p];have h2:=(pick a2 j f).choose_spec.2;rcases dc m (pick a2 j f).choose with x|M
  .exact lH ⟨s2,u,v,c2,o⟩ (h2 m x)
  omega
 |_=>exact⟨s2,u,v,c2,B⟩
end
def mO(P:Program)(ops:Array Oper)(n0 n:Nat)(Q:AS->Prop)(l:List Nat)(s:AS):Prop :=
 ∀G a w,np G s a w->(∀j∈l,j<ops.size/\G.pl (n0+j)=No)->n0+ops.size<=s.st.next->n<=n0 ->
  wpOps P ops (λe b w'=>e=.normal/\∃s' G',oK n G s.st w G' s'.st w'/\np G' s' b w'/\Q s') l a w
section
variable {P:Program} {ops:Array Oper} {n0 n:Nat} {Q:AS->Prop} {s:AS}
def mO.nil(h:Q s):mO P ops n0 n Q [] s:=λG _ _ a _ h1 h2=>⟨rfl,s,G,.refl _ _ _ (by omega),a,h⟩
def mO.skip{i:Nat}{rest:List Nat}{o:Oper}(d:ops[i]?=U o)(hw:oV ops s o=U IS)(e:oJ s.n o.dst=IN)(h:mO P ops n0 n Q rest (s.put o.dst (.bF undef))):mO P ops n0 n Q (i::rest) s:=by intro G a w b hf f c;simp only[wpOps,d,yH b hw,aq,j2];have:=h G _ w (b.put (.refl G) b.rel (.bF undef) e) (λj hj=>hf j (by simp[hj])) (by simpa using f) c;simpa using this
def mO.plain{T:dd}(ca:mc P T){i:Nat}{rest:List Nat}{o:Oper}{v:ag}{σ':bg}(m:ops[i]?=U o)(a7:i∉rest)(hw:oV ops s o=U IN)(r:oJ s.n o.dst=IN)
  (ha:j5 T s.eval s.st (n0+i) o.op=U (v,σ')) (h:mO P ops n0 n Q rest ({ s with st:=σ' }.put o.dst v)):mO P ops n0 n Q (i::rest) s:=by
 intro G a w d hf N f;have t:i<ops.size:=(aS.1 m).1;have x:σ'.next=s.st.next:=(Ic ha).1;simp only[wpOps,m,yH d hw,jj];left;obtain⟨G',u,w',h1,h2,c,z,B,g⟩:=Pw (P:=P) ca d.rel d.eval (hf i (by simp)).2 (by omega) ha;have l:∀j∈rest,n0+j≠n0+i:=λj hj e=>a7 (by have C:j=i:=Nat.add_left_cancel e;rw[<-C];exact hj);have key:=h G' (a.put o.dst u) w' (d.put h1 B z r) (λj hj=>⟨(hf j (by simp[hj])).1,h2 _ (l j hj) (hf j (by simp[hj])).2⟩) (by simp;omega) f;have D:oK n G s.st w G' σ' w':=⟨h1.mr,h1.lM,λk hk=>by
  cases hp:G.pl k with
  |none=>exact h2 k (by omega) hp
  |some p=>exact h1.pl k p hp,by omega,g⟩
 have b:=rl (P:=P) (ops:=ops) (Q':=λe q w'=>e=.normal/\∃s' G',oK n G s.st w G' s'.st w'/\np G' s' q w'/\Q s') (λe q w' ⟨E,s',H,I,J,K⟩ =>
  ⟨E,s',H,D.trans (by simpa using I) (aw _),J,K⟩) rest _ _ key
 unfold gH;rcases c with c|⟨c,M⟩
 .rw[c];exact b
 rw[c];subst M;exact b
def Told(P:Program)(f:FuncId)(args:List ag)(σ:bg)(c:ag):Prop:=po P f args σ (λv σ'=>v=c/\σ'=σ)
def LD{a:Act}{w:World}{o:Oper}{d:Operand}{args:Array Operand}{ts:Array TypeId}{f:FuncId}{fv cv:List Value}(b:o.op=.call { callee:=.value d,args:=args,argTypes:=ts })
  (c:a.eval d=.func (.func f) fv.toArray cv.toArray):(execOp a.eval o).run P w=(callFunc f (fv++args.toList.map a.eval++cv).toArray).run P w:=by
 have e:fv.toArray++args.map a.eval++cv.toArray=(fv++args.toList.map a.eval++cv).toArray:=by apply dz;simp
 simp only[execOp,b,resolve,c,i_,an,ar,ah,invoke,e]
def mO.told{i:Nat}{rest:List Nat}{o:Oper}{k:Operand}{args:Array Operand}{ts:Array TypeId}{f:FuncId}{first cap:List ag}(t:ops[i]?=U o)(l:o.op=.call { callee:=.value k,args:=args,argTypes:=ts })
  (hw:oV ops s o=U IN) (x:oJ s.n o.dst=IN) (m:s.eval k=.fn (.func f) first cap) {c:ag}
  (hc:Told P f (first++args.toList.map s.eval++cap) s.st c) (h:mO P ops n0 n Q rest (s.put o.dst c)):mO P ops n0 n Q (i::rest) s:=by
 intro G a w g hf z p;simp only[wpOps,t,yH g hw,jj];left;have b:=g.eval k;rw[m]at b;generalize q:a.eval k=u at b;cases b with
 |fn _ _ _ fv cv h1 h2 B C=>
 have d:gl G (first++args.toList.map s.eval++cap) (fv++args.toList.map a.eval++cv) :=(gl.append (G:=G) ⟨h1,B⟩ (gl.map g.eval args.toList)).append ⟨h2,C⟩;unfold gH;rw[LD l q];refine hc G _ w d g.rel o a _ _ ?_;rintro v M σ' G' w' r D E ⟨rfl,rfl⟩;have key:=h G' (a.put o.dst v) w' (g.put r.le E D x) (λj hj=>⟨(hf j (by simp[hj])).1,r.keeps _ (by have:=(hf j (by simp[hj])).1;omega) (hf j (by simp[hj])).2⟩) (by simpa using z) p;have H:oK n G s.st w G' s.st w':=r.Kl (by omega) (by omega);exact rl (λe N w' ⟨I,s',J,c1,c2,K⟩=>⟨I,s',J,H.trans (by simpa using c1) (aw _),c2,K⟩) rest _ _ key
def mO.turns{i:Nat}{rest:List Nat}{o:Oper}{k:Operand}{args:Array Operand}{ts:Array TypeId}{f:FuncId}{first cap:List ag}(t:ops[i]?=U o)(l:o.op=.call { callee:=.value k,args:=args,argTypes:=ts })
  (hw:oV ops s o=U IN) (x:oJ s.n o.dst=IN) (m:s.eval k=.fn (.func f) first cap) {c:ag} {σ1:bg} (z:s.st.next<=σ1.next)
  (hc:po P f (first++args.toList.map s.eval++cap) s.st (λv σ'=>v=c/\σ'=σ1)) (h:mO P ops n0 n Q rest ({ s with st:=σ1 }.put o.dst c)):mO P ops n0 n Q (i::rest) s:=by
 intro G a w g hf M p;simp only[wpOps,t,yH g hw,jj];left;have b:=g.eval k;rw[m]at b;generalize q:a.eval k=u at b;cases b with
 |fn _ _ _ fv cv h1 h2 B C=>
 have d:gl G (first++args.toList.map s.eval++cap) (fv++args.toList.map a.eval++cv) :=(gl.append (G:=G) ⟨h1,B⟩ (gl.map g.eval args.toList)).append ⟨h2,C⟩;unfold gH;rw[LD l q];refine hc G _ w d g.rel o a _ _ ?_;rintro v N σ' G' w' r D E ⟨rfl,rfl⟩;have key:=h G' (a.put o.dst v) w' (g.put r.le E D x) (λj hj=>⟨(hf j (by simp[hj])).1,r.keeps _ (by have:=(hf j (by simp[hj])).1;omega) (hf j (by simp[hj])).2⟩) (by simp;omega) p;have H:oK n G s.st w G' σ' w':=r.Kl (by omega) (by omega);exact rl (λe O w' ⟨I,s',J,c1,c2,K⟩=>⟨I,s',J,H.trans (by simpa using c1) (aw _),c2,K⟩) rest _ _ key
def mO.inline{T:dd}(ca:mc P T){i:Nat}{rest:List Nat}{o:Oper}{t:Operand}{args:Array Operand}{ts:Array TypeId}{f:FuncId}{first cap:List ag}{fn:Func}{c:Code}(K:ops[i]?=U o)
  (z:o.op=.call { callee:=.value t,args:=args,argTypes:=ts }) (hw:oV ops s o=U IN) (M:oJ s.n o.dst=IN) (B:s.eval t=.fn (.func f) first cap)
  (q:P.funcs[f]?=U fn) (g:(fn.name== "runtime.NumGoroutine")=IS) (I:fn.body=U c) (hl:(first++args.toList.map s.eval++cap).length<=fn.ntmps)
  (h:j4 P s.st.next c (λe s1=>(e=.normal\/e=.ret)/\∃v,pQ T fn s1=U v/\mO P ops n0 n Q rest ({ s with st:=s1.st }.put o.dst v)) (AS.enter fn.ntmps (first++args.toList.map s.eval++cap) s.st)) :
  mO P ops n0 n Q (i::rest) s:=by
 intro G a w p hf N C;simp only[wpOps,K,yH p hw,jj];left;have l:=p.eval t;rw[B]at l;generalize D:a.eval t=u at l;cases l with
 |fn _ _ _ fv cv h1 h2 O R=>
 have m:gl G (first++args.toList.map s.eval++cap) (fv++args.toList.map a.eval++cv) :=(gl.append (G:=G) ⟨h1,O⟩ (gl.map p.eval args.toList)).append ⟨h2,R⟩;unfold gH;have r:(callFunc f (fv++args.toList.map a.eval++cv).toArray).run P w=.ok (.enter f (fv++args.toList.map a.eval++cv).toArray) w:=by simp only[callFunc,an,run_program,ah,q,g,I,jd,aq,j2,ar]
 rw[LD z D,r];simp only[eQ];refine calls_of_wp q I (wp_mono (h (aw _) G _ w (np.enter m p.rel fn.ntmps hl)) ?_);rintro e E w' ⟨s1,G',b,x,hex,v,hv,S⟩;obtain⟨y,J,H⟩:=LZ (P:=P) ca x hv;have hle:G.le G':=b.le p.rel (aw _);have key:=S G' (a.put o.dst y) w' (p.put hle x.rel H M) (λj hj=>⟨(hf j (by simp[hj])).1,by rw[b.pl _ (by have:=(hf j (by simp[hj])).1;show n0+j<s.st.next;omega)];exact(hf j (by simp[hj])).2⟩) (by
  have:=b.lC;simp only[AS.Bt];show n0+ops.size<=s1.st.next;exact bI N this) C
 have V:oK n G s.st w G' s1.st w':=⟨b.mr,b.lM,λk hk=>b.pl k (by show k<s.st.next;omega),by have:=b.lC;show n<=s1.st.next;exact bI (by omega) this,b.bb⟩;have d:=rl (P:=P) (ops:=ops) (Q':=λe E w'=>e=.normal/\∃s' G',oK n G s.st w G' s'.st w'/\np G' s' E w'/\Q s') (λe E w' ⟨e1,s',G2,c1,c2,c3⟩ =>
  ⟨e1,s',G2,V.trans (by simpa using c1) (aw _),c2,c3⟩) rest _ _ key
 rcases hex with rfl|rfl
 .exact⟨x.defers,y,J,d⟩
 exact⟨x.defers,y,J,d⟩
end
def j4.region{P:Program}{n:Nat}{Q:Exit->AS->Prop}{s:AS}{id:Nat}{ops:Array Oper}
  (h:mO P ops s.st.next n (λs'=>Q .normal s') (bo ops.size) { s with st:={ s.st with next:=s.st.next+ops.size } }):j4 P n (.region id ops IS) Q s:=by
 intro f G a w b;refine wp_region ?_;have d:np G { s with st:={ s.st with next:=s.st.next+ops.size } } a w:=⟨b.defers,b.size,b.tmps,b.rel.next (aY _ _)⟩;refine rl ?_ _ _ _ (h G a w d (λj hj=>⟨by simpa using hj,b.rel.fresh _ (aY _ _)⟩) (aw _) f);rintro e k w' ⟨rfl,s',G',c,g,i⟩;refine⟨s',G',⟨c.mr,c.lM,c.pl,c.lC,?_⟩,g,i⟩;exact(Fr.less (σ:=s.st) (σ':={ s.st with next:=s.st.next+ops.size }) (λ_ _ h=>h)).trans c.bb
def cb.og(ι:Nat->Option (Option Nat))(G:cb):cb :={ mr:=G.mr,lM:=G.lM,pl:=λi=>match ι i with|some (U k)=>G.pl k|some No=>U ⟨0,0,0,IN⟩|none=>No }
def nC(ι:Nat->Option (Option Nat))(a b:ag):Prop:=∀G u,lB G b u->lB (G.og ι) a u
def pK(ι:Nat->Option (Option Nat)):b7->b7->Prop
 | .row e s es,.row n s' d=>e=n/\s=s'/\es.length<=d.length/\∀i (h:i<es.length) (h':i<d.length),es[i].length=d[i].length/\∀j (g:j<es[i].length) (o:j<d[i].length),nC ι es[i][j] d[i][j]
 | .map agg es c,.map f d c'=>agg=f/\c=c'/\es.length=d.length/\∀i (h:i<es.length) (h':i<d.length),es[i].1=d[i].1/\nC ι es[i].2.1 d[i].2.1/\es[i].2.2=d[i].2.2
 | .qe a b,.qe l m=>a=l/\b=m
 | .se No a b c,.se No l m c'=>a=l/\b=m/\c=c'
 | .se (U i) a b c,.se (U k) l m c'=>ι i=U (U k)/\a=l/\b=m/\c=c'
 |_,_=>False
structure Ren(ι:Nat->Option (Option Nat))(n:Nat)(s' s:AS):Prop where
 Iq:s'.n=s.n
 low:∀i,i<n->ι i=U (U i)
 nq:∀i k,ι i=U k->i<s'.st.next
 lC:n<=s'.st.next
 inj:∀i j k oi oj,ι i=U (U k)->ι j=U (U k)->s'.st.bT i=U oi->s'.st.bT j=U oj->i=j
 th:∀t,t<s.n->nC ι (s'.get t) (s.get t)
 beyond:∀t,s.n<=t->s'.get t=.bF undef
 bT:∀i o,s'.st.bT i=U o->(∃k o',ι i=U (U k)/\s.st.bT k=U o'/\pK ι o o')\/(ι i=U No/\∃e z,o=.row e z [])
def pK.ok{ι:Nat->Option (Option Nat)}{G:cb}{p:nm}{o o':b7}{r:Option Obj}(h:pK ι o o')(hk:oc G p o' r):oc (G.og ι) p o r:=by
 cases o with
 |row e z es=>
  cases o' with
  |row C D l =>obtain⟨rfl,rfl,hl,h1⟩:=h;obtain⟨cs,d,g,f,E,v⟩:=hk;refine⟨cs,d,g,f,by omega,λi a7=>?_⟩;obtain⟨m1,m2⟩:=h1 i a7 (by omega);obtain⟨mj,nh⟩:=v i (by omega);exact⟨by omega,λj hj n=>m2 j hj (by omega) G _ (nh j (by omega) n)⟩
  |_=>exact h.elim
 |map agg es c=>
  cases o' with
  |map t l c' =>obtain⟨rfl,rfl,hl,h1⟩:=h;obtain⟨ents,d,g,f⟩:=hk;refine⟨ents,d,by omega,λi a7 q=>?_⟩;obtain⟨m1,m2,m3⟩:=h1 i a7 (by omega);obtain⟨mj,nh,px⟩:=f i (by omega) q;exact⟨by rw[m1];exact mj,m2 G _ nh,by rw[m3];exact px⟩
  |_=>exact h.elim
 |qe a b=>
  cases o' with
  |qe w x=>obtain⟨rfl,rfl⟩:=h;exact hk
  |_=>exact h.elim
 |se m a b c=>
  cases o' with
  |se u w x c' =>
   cases m with
   |none=>
    cases u with
    |none=>obtain⟨rfl,rfl,rfl⟩:=h;exact hk
    |some k=>exact h.elim
   |some i=>
    cases u with
    |none=>exact h.elim
    |some k=>obtain⟨a7,rfl,rfl,rfl⟩:=h;obtain⟨m1,d,B,g,f⟩:=hk;exact⟨m1,d,B,by simp only[cb.og,a7];exact g,f⟩
  |_=>exact(by cases m<;>exact h.elim)
 |f' e z i=>cases o'<;>exact h.elim
 |mS c=>cases o'<;>exact h.elim
 |nD=>cases o'<;>exact h.elim
 |pO s p=>cases o'<;>exact h.elim
def Ren.rel{ι:Nat->Option (Option Nat)}{n:Nat}{s' s:AS}(h:Ren ι n s' s){G:cb}{a:Act}{w:World}(f:np G s a w):np (G.og ι) s' a w/\oK n G s.st w (G.og ι) s'.st w:=by
 have g:∀i k,ι i=U (U k)->(G.og ι).pl i=G.pl k:=λi k a7=>by simp only[cb.og,a7]
 have d:∀i,ι i=U No->(G.og ι).pl i=U ⟨0,0,0,IN⟩:=λi a7=>by simp only[cb.og,a7]
 refine⟨⟨f.defers,by rw[h.Iq];exact f.size,λt=>?_,?_⟩,?_⟩
 .rcases dc t s.n with u|u
  .exact h.th t u G _ (f.tmps t)
  rw[h.beyond t u];have:a.tmps.getD t undef=undef:=by simp[f.size,Nat.not_lt.2 u]
  rw[this];exact .bF _
 .refine⟨f.rel.os,f.rel.tape,f.rel.output,f.rel.size,f.rel.lM,λi a7=>?_,λi o J=>?_,λi j oi oj pi pj h1 h2 q v v1 v2 K=>?_,f.rel.qV⟩
  .cases r:ι i with
   |none=>simp only[cb.og,r]
   |some k=>have:=h.nq i k r;omega
  .rcases h.bT i o J with⟨k,o',a7,hk,l⟩|⟨a7,e,z,rfl⟩
   .obtain⟨p,hp,hl⟩:=f.rel.bT k o' hk
    refine⟨p,by rw[g i k a7];exact hp,?_⟩;rcases hl with⟨hv,e,z,rfl⟩|⟨hv,mj,nh,px⟩
    .cases o with
     |row M N es=>obtain⟨rfl,rfl,hlen,_⟩:=l;have:es=[]:=bu (by simpa using hlen);subst this;exact .inl ⟨hv,_,_,rfl⟩
     |se m a b c=>cases m<;>exact l.elim
     |_=>exact l.elim
    exact .inr ⟨hv,mj,nh,l.ok px⟩
   exact⟨_,d i a7,.inl ⟨rfl,e,z,rfl⟩⟩
  rcases h.bT i oi h1 with⟨x,B,a7,C,_⟩|⟨a7,_⟩
  .rcases h.bT j oj h2 with⟨I,D,hj,E,_⟩|⟨hj,_⟩
   .rw[g i x a7]at q
    rw[g j I hj]at v;have:=f.rel.sep x I B D pi pj C E q v v1 v2 K;subst this;exact h.inj i j x oi oj a7 hj h1 h2
   rw[d j hj]at v;cases v;cases v2
  rw[d i a7]at q;cases q;cases v1
 refine⟨rfl,λ_ _ H=>H,λi a7=>g i i (h.low i a7),h.lC,⟨aw _,λ_ _ _=>rfl,λi o p h1 h2 q _=>?_,λ_ _ H=>.inl H,aw _⟩⟩;rcases h.bT i o h1 with⟨k,o',a7,hk,_⟩|⟨a7,_⟩
 .rw[g i k a7]at h2
  exact⟨k,o',p,hk,h2,q,rfl⟩
 rw[d i a7]at h2;cases h2;cases q
def j4.conv{P:Program}{ι:Nat->Option (Option Nat)}{n:Nat}{c:Code}{Q:Exit->AS->Prop}{s' s:AS}(h:Ren ι n s' s)(b:j4 P n c Q s'):j4 P n c Q s:=by intro k G a w d;obtain⟨h1,h2⟩:=h.rel d;refine wp_mono (b h.lC _ a w h1) ?_;rintro e l w' ⟨s2,f,g,i,j⟩;exact⟨s2,f,h2.trans g (aw _),i,j⟩
def j4.ag5{P:Program}{n:Nat}{c:Code}{Q:Exit->AS->Prop}{s:AS}(h:j4 P n c (λe s1=>∃ι s2,Ren ι n s2 s1/\Q e s2) s):j4 P n c Q s:=by intro b G a w d;refine wp_mono (h b G a w d) ?_;rintro e k w' ⟨s1,l,f,g,ι,s2,i,j⟩;obtain⟨h1,h2⟩:=i.rel g;exact⟨s2,_,f.trans h2 (aw _),h1,j⟩
def oI.IA {P:Program} {T:dd} (ca:mc P T) {f:FuncId} {fn:Func} {c:Code} {args:List ag} {r:ag} (C:P.funcs[f]?=U fn) (t:(fn.name== "runtime.NumGoroutine")=IS) (l:fn.body=U c) (hn:args.length<=fn.ntmps)
  (hp:args.all ag.ki=IN) (h:j4 P 0 c (λe s'=>(e=.normal\/e=.ret)/\∃v,pQ T fn s'=U v/\∀G w u pl,Rel G s'.st w->lB G v u->lB (G.frozen s'.st w pl) r u) (AS.enter fn.ntmps args bg.none)):oI P ⟨f,args,r⟩:=by
 intro σ G vs w m d o a V Q hK;have D:(callFunc f vs.toArray).run P w=.ok (.enter f vs.toArray) w:=by simp only[callFunc,an,run_program,ah,C,t,l,jd,aq,j2,ar]
 show o.upon P a V Q ((callFunc f vs.toArray).run P w);rw[D];simp only[eQ];let G0:cb:={ G with pl:=λ_=>kE };have q:gl G0 args vs:=⟨m.1,λi h1 h2=>rT (G:=G) (G':=G0) (λ_ _ h=>h) (m.2 i h1 h2) (ak.1 hp _ (au h1))⟩;have z:Rel G0 bg.none w:=⟨d.os,d.tape,d.output,d.size,d.lM,λ_ _=>rfl,(λid o h=>by rw[bg.ux]at h;cases h),(λi j oi oj pi pj h=>by rw[bg.ux]at h;cases h),d.qV⟩;refine calls_of_wp C l (wp_mono (h (dq _) G0 _ w (np.enter q z fn.ntmps hn)) ?_);rintro e a' E ⟨s1,K,s,M,hex,v,hv,hd⟩;obtain⟨y,hy,N⟩:=LZ (P:=P) ca M hv;have g:=M.rel;have k:∀b,¬ ∃id0 o0 p0,bg.none.bT id0=U o0/\G0.pl id0=U p0/\p0.mF=IS/\p0.block=b:=λb ⟨id,o0,p0,h,_⟩=>by rw[bg.ux]at h;cases h
 have n:∀b,b<w.heap.size->E.heap[b]?=w.heap[b]?:=λb l=>s.bb.same b l (λid o p h=>by rw[show(AS.enter fn.ntmps args bg.none).st=bg.none from rfl,bg.ux]at h;cases h);let G':cb:=K.frozen s1.st E G.pl;have himm:∀b x,G'.lM b=U x->G.lM b=U x\/w.heap.size<=b:=λb x B=>by
  simp only[G',cb.frozen]at B;split at B
  next hl=>
   obtain⟨id,o1,p,h1,h2,H,rfl⟩:=hl;right;rcases dc p.block w.heap.size with I|I
   .exact lH (s.bb.live id o1 p h1 h2 H I) (k _)
   exact I
  rcases s.bb.lM b x B with h1|h1|h1
  .exact .inl h1
  .exact .inr h1
  exact lH h1 (k _)
 have hle:G.le G':=⟨s.mr,λb x l=>tZ g (s.lM b x l),λ_ _ h=>h⟩;have O:K.mr=G.mr:=s.mr;have fin:V (a.put o.dst y) E:=by
  refine hK y r σ G' E ⟨hle,λ_ _ h=>h,aw _,⟨s.bb.size,λb l _=>n b l,λid x p h1 h2 H _=>⟨id,x,p,h1,h2,H,rfl⟩,λb x l=>?_,s.bb.drawn⟩⟩ (hd K E y G.pl g N) ?_ ⟨rfl,rfl⟩
  .rcases himm b x l with h1|h1
   .exact .inl h1
   exact .inr (.inl h1)
  refine⟨g.os,g.tape,g.output,g.size,λb x l=>?_,d.fresh,λid x B=>?_,d.sep,λb o v hv=>hle.cell (d.qV b o v hv)⟩
  .simp only[G',cb.frozen]at l
   split at l
   .exact l
   exact g.lM b x l
  obtain⟨p,J,hl⟩:=d.bT id x B;refine⟨p,J,?_⟩;rcases hl with⟨h1,h2⟩|⟨h1,h2,H,I⟩
  .exact .inl ⟨h1,h2⟩
  have R:=d.ta B J h1;refine .inr ⟨h1,?_,by show K.mr.heap.size<=_;rw[O];exact H,by rw[n _ R];exact I.mono hle⟩;cases a7:G'.lM p.block with
  |none=>rfl
  |some y=>
   rcases himm _ _ a7 with S|S
   .rw[h2]at S;cases S
   omega
 rcases hex with rfl|rfl
 .exact⟨M.defers,y,hy,fin⟩
 exact⟨M.defers,y,hy,fin⟩
def DA:ag->Bool
 | .bF _=>IN
 | .agg cs=>cs.all λc=>match c with| .bF _=>IN|_=>IS
 | .fe cs=>cs.all λc=>match c with| .bF _=>IN| .agg a=>a.all (λd=>match d with| .bF _=>IN|_=>IS)|_=>IS
 |_=>IS
def lB.flatAll{G G':cb}{cs:List ag}{vs:List Value}(h1:vs.length=cs.length)(h:∀i (h:i<cs.length) (h':i<vs.length),lB G cs[i] vs[i])(hf:cs.all (λc=>match c with| .bF _=>IN|_=>IS)=IN) :
  ∀i (h:i<cs.length) (h':i<vs.length),lB G' cs[i] vs[i]:=λi a7 a=>by
 have h2:=ak.1 hf cs[i] (au a7);have b:=h i a7 a;generalize cs[i]=c at *;split at h2
 .cases b;exact .bF _
 cases h2
def lB.flat{G G':cb}{c:ag}{v:Value}(h:lB G c v)(hf:DA c=IN):lB G' c v:=by
 unfold DA at hf;split at hf
 .cases h;exact .bF _
 next cs=>
  cases h with
  |agg _ vs h1 h2=>exact .agg cs vs h1 (lB.flatAll h1 h2 hf)
 next cs=>
  cases h with
  |fe _ vs h1 h2=>
   refine .fe cs vs h1 λi a7 a=>?_;have b:=ak.1 hf cs[i] (au a7);have d:=h2 i a7 a;generalize cs[i]=c at *;generalize vs[i]=v at *;split at b
   .cases d;exact .bF _
   .cases d with
    |agg _ us g1 g2=>exact .agg _ us g1 (lB.flatAll g1 g2 b)
   cases b
 cases hf
def aC7{P:Program}{f:FuncId}{args l:List ag}{c:ag}{σ:bg}(hm:oI P ⟨f,l,c⟩)(hf:DA c=IN)
  (D:∀G vs w,gl G args vs->Rel G σ w->gl (G.frozen σ w (λ_=>No)) l vs):Told P f args σ c:=by
 intro G vs w m d o a E Q H;let t:=G.frozen σ w (λ_=>No);have n:Rel t bg.none w:=⟨d.os,d.tape,d.output,d.size,λb x k=>by
   simp only[t,cb.frozen]at k;split at k
   .exact k
   exact d.lM b x k,λ_ _=>rfl,(λid o h=>by rw[bg.ux]at h;cases h),(λi j oi oj pi pj h=>by rw[bg.ux]at h;cases h),λb o v hv=>L1 d (d.qV b o v hv)⟩
 refine hm bg.none t vs w (D G vs w m d) n o a E Q ?_;rintro u I σ' G' w' r z e ⟨rfl,rfl⟩;have g:∀b,b<w.heap.size->w'.heap[b]?=w.heap[b]?:=λb k=>r.bb.same b k (λid o p h=>by rw[bg.ux]at h;cases h);have q:G'.mr=G.mr:=r.le.mr;refine H u I σ G w' ⟨.refl G,.refl _ G,aw _,⟨r.bb.size,λb k _=>g b k,λid x p h1 h2 B _=>⟨id,x,p,h1,h2,B,rfl⟩,λb x k=>.inl k,r.bb.drawn⟩⟩ (z.flat hf) ?_ ⟨rfl,rfl⟩;refine⟨e.os.trans (by rw[q]),e.tape.trans (by rw[q]),e.output.trans (by rw[q]),bI d.size r.bb.size,λb x k=>by rw[g b (d.lt k)];exact d.lM b x k,d.fresh,λid x C=>?_,d.sep,d.qV⟩;obtain⟨p,s,hl⟩:=d.bT id x C;refine⟨p,s,?_⟩;rcases hl with⟨h1,h2⟩|⟨h1,h2,B,J⟩
 .exact .inl ⟨h1,h2⟩
 exact .inr ⟨h1,h2,B,by rw[g _ (d.ta C s h1)];exact J⟩
mutual
def ag.er(k:Nat):ag->Bool
 | .ek i=>cD i k
 | .ea _ _ i=>cD i k
 | .oN _ i _=>cD i k
 | .xs _ _ o l=>o.er k&&l.er k
 | .mx c=>c.er k
 | .rs es=>Er k es
 | .h8 cs=>qI k cs
 | .fn _ a c=>qI k a&&qI k c
 | .agg cs=>qI k cs
 | .fe cs=>qI k cs
 |_=>IN
def qI(k:Nat):List ag->Bool
 | []=>IN
 |c::cs=>c.er k&&qI k cs
def Er(k:Nat):List (List ag)->Bool
 | []=>IN
 |c::cs=>qI k c&&Er k cs
end
mutual
theorem iv{θ d:Nat->ag}{k:Nat}(h:∀i,i<k->d i=θ i):∀v:ag,v.er k=IN->v.sub d=v.sub θ
 | .any,_=>by simp
 | .bF v,_=>by simp
 | .rs es,b=>by simp only[ag.sub];rw[Mm h es (by simpa[ag.er]using b)]
 | .h8 cs,b=>by simp only[ag.sub];rw[vk h cs (by simpa[ag.er]using b)]
 | .ms ..,_=>by simp
 | .mp ..,_=>by simp
 | .lX _,_=>by simp
 | .it _,_=>by simp
 | .fn f a c,b=>by simp only[ag.er,ab]at b;simp only[ag.sub];rw[vk h a b.1,vk h c b.2]
 | .agg cs,b=>by simp only[ag.sub];rw[vk h cs (by simpa[ag.er]using b)]
 | .fe cs,b=>by simp only[ag.sub];rw[vk h cs (by simpa[ag.er]using b)]
 | .ek i,b=>by simp only[ag.er,bc]at b;simp[h i b]
 | .ea id e i,b=>by simp only[ag.er,bc]at b;simp[h i b]
 | .oN id i off,b=>by simp only[ag.er,bc]at b;simp only[ag.sub,h i b]
 | .xs id z o l,b=>by simp only[ag.er,ab]at b;simp only[ag.sub];rw[iv h o b.1,iv h l b.2]
 | .mx c,b=>by simp only[ag.sub];rw[iv h c (by simpa[ag.er]using b)]
theorem vk{θ a:Nat->ag}{k:Nat}(h:∀i,i<k->a i=θ i):∀l:List ag,qI k l=IN->mR a l=mR θ l
 | [],_=>by simp[mR]
 |c::cs,b=>by simp only[qI,ab]at b;simp only[mR];rw[iv h c b.1,vk h cs b.2]
theorem Mm{θ a:Nat->ag}{k:Nat}(h:∀i,i<k->a i=θ i):∀l:List (List ag),Er k l=IN->oA a l=oA θ l
 | [],_=>by simp[oA]
 |c::cs,b=>by simp only[Er,ab]at b;simp only[oA];rw[vk h c b.1,Mm h cs b.2]
end
def b7.er(k:Nat):b7->Bool
 | .row _ _ es=>Er k es
 | .map _ es _=>es.all λe=>e.2.1.er k
 | .f' _ _ i=>cD i k
 | .mS c=>c.er k
 | .pO s p=>s.er k&&p.er k
 | .nD _ _ c _ i _ v=>c.er k&&(i.er k&&(match v with|some x=>x.er k|none=>IN))
 |_=>IN
def b7.iv{θ b:Nat->ag}{k:Nat}(h:∀i,i<k->b i=θ i)(o:b7)(a:o.er k=IN):o.sub b=o.sub θ:=by
 cases o with
 |row e z es=>simp only[b7.sub];rw[<-vE,<-vE,Mm h es a]
 |map agg es c=>simp only[b7.sub];congr 1;apply bp;intro e he;rw[Go.Ab.iv h _ (ak.1 a e he)]
 |f' e z i=>simp only[b7.er,bc]at a;simp only[b7.sub];rw[h i a]
 |mS c=>simp only[b7.er]at a;simp only[b7.sub];rw[Go.Ab.iv h c a]
 |pO s p=>simp only[b7.er,ab]at a;simp only[b7.sub];rw[Go.Ab.iv h s a.1,Go.Ab.iv h p a.2]
 |nD e z c cc i off v=>
  simp only[b7.er,ab]at a;simp only[b7.sub];rw[Go.Ab.iv h c a.1,Go.Ab.iv h i a.2.1];cases v with
  |none=>rfl
  |some x=>simp only[aj];rw[Go.Ab.iv h x a.2.2]
 |_=>rfl
def fb.all{α:Type}(p:α->Bool):fb α->Bool
 | .leaf=>IN
 | .node v l r=>(match v with|some x=>p x|none=>IN)&&l.all p&&r.all p
def fb.map_congr{α β:Type}{f g:α->β}{p:α->Bool}(h:∀x,p x=IN->f x=g x):∀t:fb α,t.all p=IN->t.map f=t.map g
 | .leaf,_=>rfl
 | .node v l r,a=>by
  simp only[fb.all,ab]at a;simp only[fb.map];rw[fb.map_congr h l a.1.2,fb.map_congr h r a.2];cases v with
  |none=>rfl
  |some x=>simp[h x a.1.1]
def AS.er(k:Nat)(s:AS):Bool:=s.mv.all (ag.er k)&&s.st.mv.all (b7.er k)
def AS.iv{θ a:Nat->ag}{k:Nat}(h:∀i,i<k->a i=θ i){s:AS}(b:s.er k=IN):s.sub a=s.sub θ:=by simp only[AS.er,ab]at b;simp only[AS.sub,bg.sub];rw[fb.map_congr (Go.Ab.iv h) _ b.1,fb.map_congr (b7.iv h) _ b.2]
def bg.iv{θ a:Nat->ag}{k:Nat}(h:∀i,i<k->a i=θ i){s:AS}(b:s.er k=IN):s.st.sub a=s.st.sub θ:=by have:=AS.iv h b;have h2:=mP AS.st this;simpa using h2
mutual
def ag.me(b:Nat->ag):ag->ag
 | .rs es=>.rs (Dh b es)
 | .h8 cs=>.h8 (w5 b cs)
 | .fn f a c=>.fn f (w5 b a) (w5 b c)
 | .agg cs=>.agg (w5 b cs)
 | .fe vs=>.fe (w5 b vs)
 | .ek i=>b i
 | .ea id d i=>match b i with
  | .ek j=>.ea id d j
  | .rs es=>.ms id d 0 es.length
  |_=>.ms id d 0 0
 | .oN id k off=>match b k with
  | .ek j=>.oN id j off
  |v=>.mp id (mf v) off
 | .xs id z o l=>.xs id z (o.me b) (l.me b)
 | .mx c=>.mx (c.me b)
 |v=>v
def w5(a:Nat->ag):List ag->List ag
 | []=>[]
 |c::cs=>c.me a::w5 a cs
def Dh(a:Nat->ag):List (List ag)->List (List ag)
 | []=>[]
 |c::cs=>w5 a c::Dh a cs
end
mutual
theorem rk(b θ:Nat->ag):∀v:ag,(v.me b).sub θ=v.sub (λi=>(b i).sub θ)
 | .any=>by simp[ag.me]
 | .bF v=>by simp[ag.me]
 | .rs es=>by simp only[ag.me,ag.sub];rw[MM b θ es]
 | .h8 cs=>by simp only[ag.me,ag.sub];rw[Ay b θ cs]
 | .ms ..=>by simp[ag.me]
 | .mp ..=>by simp[ag.me]
 | .lX _=>by simp[ag.me]
 | .it _=>by simp[ag.me]
 | .fn f a c=>by simp only[ag.me,ag.sub];rw[Ay b θ a,Ay b θ c]
 | .agg cs=>by simp only[ag.me,ag.sub];rw[Ay b θ cs]
 | .fe cs=>by simp only[ag.me,ag.sub];rw[Ay b θ cs]
 | .ek i=>by simp[ag.me]
 | .ea id d i=>by simp only[ag.me,p5];cases b i<;>simp[rowsOf]
 | .oN id k off=>by simp only[ag.me,ag.sub];cases b k<;>simp[ag.sub,mf]
 | .xs id z o l=>by simp only[ag.me,ag.sub];rw[rk b θ o,rk b θ l]
 | .mx c=>by simp only[ag.me,ag.sub];rw[rk b θ c]
theorem Ay(a θ:Nat->ag):∀l:List ag,mR θ (w5 a l)=mR (λi=>(a i).sub θ) l
 | []=>by simp[mR,w5]
 |c::cs=>by simp only[mR,w5];rw[rk a θ c,Ay a θ cs]
theorem MM(a θ:Nat->ag):∀l:List (List ag),oA θ (Dh a l)=oA (λi=>(a i).sub θ) l
 | []=>by simp[oA,Dh]
 |c::cs=>by simp only[oA,Dh];rw[Ay a θ c,MM a θ cs]
end
def b7.me(a:Nat->ag):b7->b7
 | .row e s es=>.row e s (Dh a es)
 | .map agg es c=>.map agg (es.map λe=>(e.1,e.2.1.me a,e.2.2)) c
 | .f' e s i=>match a i with
  | .ek j=>.f' e s j
  | .rs es=>.row e s es
  |_=>.row e s []
 | .mS c=>.mS (c.me a)
 | .pO s p=>.pO (s.me a) (p.me a)
 | .nD e z c cc k off v=>.nD e z (c.me a) cc (k.me a) off (v.map (ag.me a))
 |o=>o
def b7.rk(a θ:Nat->ag)(o:b7):(o.me a).sub θ=o.sub (λi=>(a i).sub θ):=by
 cases o with
 |row e z es=>simp only[b7.me,b7.sub,<-vE];rw[MM]
 |map agg es c=>simp only[b7.me,b7.sub,dB];congr 1;apply bp;intro e _;simp[Go.Ab.rk]
 |f' e z i=>simp only[b7.me,b7.sub];cases a i<;>simp[b7.sub,rowsOf]
 |mS c=>simp only[b7.me,b7.sub];rw[Go.Ab.rk]
 |pO s p=>simp only[b7.me,b7.sub];rw[Go.Ab.rk,Go.Ab.rk]
 |nD e z c cc k off v=>
  simp only[b7.me,b7.sub];rw[Go.Ab.rk,Go.Ab.rk];cases v with
  |none=>rfl
  |some x=>simp only[aj];rw[Go.Ab.rk]
 |_=>rfl
def AS.me(a:Nat->ag)(s:AS):AS:={ n:=s.n,mv:=s.mv.map (ag.me a),st:={ next:=s.st.next,mv:=s.st.mv.map (b7.me a),low:=s.st.low } }
def fb.map_map{α β a:Type}(f:α->β)(g:β->a):∀t:fb α,(t.map f).map g=t.map (λx=>g (f x))
 | .leaf=>rfl
 | .node v l r=>by simp only[fb.map];rw[fb.map_map f g l,fb.map_map f g r];cases v<;>rfl
def AS.rk(a θ:Nat->ag)(s:AS):(s.me a).sub θ=s.sub (λi=>(a i).sub θ):=by simp only[AS.me,AS.sub,bg.sub,fb.map_map];have h1:(λx=>ag.sub θ (ag.me a x))=ag.sub (λi=>(a i).sub θ):=funext λx=>Go.Ab.rk a θ x;have h2:(λx=>b7.sub θ (b7.me a x))=b7.sub (λi=>(a i).sub θ):=funext λx=>b7.rk a θ x;rw[h1,h2]
def p9(j:Nat)(b:Bool)(i:Nat):ag:=bif aB i j then .bF (.bool b)else .ek i
def EZ{θ:Nat->ag}{j:Nat}{b:Bool}(h:θ j=.bF (.bool b))(s:AS):(s.me (p9 j b)).sub θ=s.sub θ:=by
 rw[AS.rk];congr 1;funext i;unfold p9;cases a:aB i j with
 |true=>have:=af a;subst this;simp[h]
 |false=>simp
abbrev pM:=Nat->Option (Option Nat)
def vr(ι:pM)(i k:Nat):Bool:=match ι i with|some (U j)=>aB j k|_=>IS
def HZ(ι:pM)(i:Nat):Bool:=match ι i with|some No=>IN|_=>IS
def Aj{ι:pM}{i k:Nat}(h:vr ι i k=IN):ι i=U (U k):=by
 unfold vr at h;split at h
 next j hj=>rw[hj,af h]
 cases h
def aN8{ι:pM}{i:Nat}(h:HZ ι i=IN):ι i=U No:=by
 unfold HZ at h;split at h
 next hj=>exact hj
 cases h
def Mc:Fn->Fn->Bool
 | .func a,.func b=>aB a b
 |_,_=>IS
def at6{a b:Fn}(h:Mc a b=IN):a=b:=by
 unfold Mc at h;split at h
 .rw[af h]
 cases h
def Pa:Value->Value->Bool
 | .tuple a,.tuple b=>aB a.size 0&&aB b.size 0
 | .pointer No,.pointer No=>IN
 |a,b=>Ph a b
def YV{a b:Value}(h:Pa a b=IN):a=b:=by
 unfold Pa at h;split at h
 next a b=>
  simp only[ab]at h;have h1:a=#[]:=gC (af h.1);have h2:b=#[]:=gC (af h.2);rw[h1,h2]
 .rfl
 exact ZJ h
def Dd:ag->ag->Bool
 | .ek i,.ek j=>aB i j
 |_,_=>IS
def Kc{a b:ag}(h:Dd a b=IN):∃i,a=.ek i/\b=.ek i:=by
 unfold Dd at h;split at h
 .exact⟨_,rfl,by rw[af h]⟩
 cases h
def AR:ag->ag->Bool
 | .ek i,.ek j=>aB i j
 | .bF (.int .i64 a),.bF (.int .i64 b)=>IT (a=b)
 |_,_=>IS
def FG{θ:Nat->ag}{a b:ag}(h:AR a b=IN):a.sub θ=b.sub θ:=by
 unfold AR at h;split at h
 .rw[af h]
 .rw[sK h]
 cases h
mutual
def nT(ι:pM):ag->ag->Bool
 | .any,_=>IN
 | .bF v,.bF m=>Pa v m
 | .rs es,.rs g=>zS ι es g
 | .h8 cs,.h8 b=>vZ ι cs b
 | .ms id z o l,.ms id' d o' h=>vr ι id id'&&aB z d&&aB o o'&&aB l h
 | .ms id _ o l,.bF (.slice No 0 0)=>HZ ι id&&aB o 0&&aB l 0
 | .mp id i j,.mp id' e n=>vr ι id id'&&aB i e&&aB j n
 | .lX id,.lX id'=>vr ι id id'
 | .it id,.it id'=>vr ι id id'
 | .fn f a c,.fn p q c'=>Mc f p&&vZ ι a q&&vZ ι c c'
 | .agg cs,.agg b=>vZ ι cs b
 | .fe cs,.fe b=>vZ ι cs b
 | .ek i,.ek e=>aB i e
 | .ea id z i,.ea id' d e=>vr ι id id'&&aB z d&&aB i e
 | .oN id k o,.oN id' r o'=>vr ι id id'&&aB k r&&aB o o'
 | .xs id z o l,.xs id' d o' h=>vr ι id id'&&aB z d&&AR o o'&&AR l h
 | .mx c,.mx c'=>Dd c c'
 |_,_=>IS
def vZ(ι:pM):List ag->List ag->Bool
 | [],[]=>IN
 |a::az,b::bs=>nT ι a b&&vZ ι az bs
 |_,_=>IS
def zS(ι:pM):List (List ag)->List (List ag)->Bool
 | [],[]=>IN
 |a::az,b::bs=>vZ ι a b&&zS ι az bs
 |_,_=>IS
end
def B1(ι:pM)(az bs:List ag):Prop:=az.length=bs.length/\∀i (h:i<az.length) (h':i<bs.length),nC ι az[i] bs[i]
def B1.cons{ι:pM}{a b:ag}{az bs:List ag}(h:nC ι a b)(hs:B1 ι az bs):B1 ι (a::az) (b::bs):=by
 refine⟨by simp[hs.1],λi h1 h2=>?_⟩;cases i with
 |zero=>exact h
 |succ i=>exact hs.2 i (by simpa using h1) (by simpa using h2)
def D2(ι:pM)(az bs:List (List ag)):Prop:=az.length=bs.length/\∀i (h:i<az.length) (h':i<bs.length),B1 ι az[i] bs[i]
def nC.fit{ι:pM}{v:ag}(h:mW v):nC ι v v:=λG _ a=>rT (G:=G) (G':=G.og ι) (λ_ _ b=>b) a h.ki
def nC.rs{ι:pM}{es b:List (List ag)}(h:D2 ι es b):nC ι (.rs es) (.rs b):=by
 intro G u c;cases c with
 |qL=>have:es=[]:=bu (by simpa using h.1);subst this;exact .qL
 |rs _ a cap size val hs hc hlen himm hrep=>
  rw[<-h.1];have hl:=h.1;refine .rs es a cap size val hs (by omega) (λi a7=>?_) (λi j a7 hj=>himm i j (by omega) hj) (λi j a7 hj=>?_)
  .rw[(h.2 i a7 (by omega)).1];exact hlen i (by omega)
  have h2:=h.2 i a7 (by omega);exact h2.2 j hj (by rw[<-h2.1];exact hj) G _ (hrep i j (by omega) (by rw[<-h2.1];exact hj))
mutual
theorem Oh{θ:Nat->ag}(e:Fit θ){ι:pM}:∀(a b:ag),nT ι a b=IN->nC ι (a.sub θ) (b.sub θ)
 | .any,b,_=>λG u _=>by rw[YO];exact .any u
 | .bF v,b,h=>by
  cases b with
  |bF H=>simp only[nT]at h;rw[YV h];intro G u d;simp only[oq]at *;cases d;exact .bF _
  |_=>simp[nT]at h
 | .rs es,b,h=>by
  cases b with
  |rs w=>simp only[nT]at h;simp only[ag.sub];exact nC.rs (N6 e es w h)
  |_=>simp[nT]at h
 | .h8 cs,b,h=>by
  cases b with
  |h8 m =>
   simp only[nT]at h;have hl:=A3 e cs m h;simp only[ag.sub];intro G u d;cases d with
   |h8 _ a val hs himm hrep=>exact .h8 _ a val hs (λj hj=>himm j (by rw[<-hl.1];exact hj)) (λj hj=>hl.2 j hj (by rw[<-hl.1];exact hj) G _ (hrep j (by rw[<-hl.1];exact hj)))
  |_=>simp[nT]at h
 | .ms id z o l,b,h=>by
  cases b with
  |ms id' x o' B =>
   simp only[nT,ab]at h;have h1:=Aj h.1.1.1;have h2:=af h.1.1.2;have n:=af h.1.2;have r:=af h.2;subst h2;subst n;subst r;intro G u d;simp only[tD]at *;cases d with
   |ms _ _ _ _ p hp hv hz a c ha s hl hsp=>exact .ms id z o l p (by simp only[cb.og,h1];exact hp) hv hz a c ha s hl hsp
   |n4 _ _ p hp hv=>exact .n4 id z p (by simp only[cb.og,h1];exact hp) hv
  |bF v=>
   have hv:v=.slice No 0 0/\(HZ ι id&&aB o 0&&aB l 0)=IN:=by
    cases v with
    |slice a b c=>
     cases a with
     |none=>
      cases b with
      |zero=>cases c with
       |zero=>exact⟨rfl,by simpa only[nT]using h⟩
       |succ c=>simp[nT]at h
      |succ b=>simp[nT]at h
     |some a=>simp[nT]at h
    |_=>simp[nT]at h
   obtain⟨rfl,q⟩:=hv;rw[ab,ab]at q;have h1:=aN8 q.1.1;have n:=af q.1.2;have r:=af q.2;subst n;subst r;rw[tD,oq];intro G u d;cases d;exact .n4 id z ⟨0,0,0,IN⟩ (by simp only[cb.og,h1]) rfl
  |_=>simp[nT]at h
 | .mp id i j,b,h=>by
  cases b with
  |mp id' C I =>
   simp only[nT,ab]at h;have h1:=Aj h.1.1;have h2:=af h.1.2;have n:=af h.2;subst h2;subst n;intro G u d;simp only[Fx]at *;cases d with
   |mp _ _ _ p hp=>exact .mp id i j p (by simp only[cb.og,h1];exact hp)
  |_=>simp[nT]at h
 | .lX id,b,h=>by
  cases b with
  |lX id' =>
   simp only[nT]at h;have h1:=Aj h;intro G u d;simp only[wX]at *;cases d with
   |lX _ p hp=>exact .lX id p (by simp only[cb.og,h1];exact hp)
  |_=>simp[nT]at h
 | .it id,b,h=>by
  cases b with
  |it id' =>
   simp only[nT]at h;have h1:=Aj h;intro G u d;simp only[Pu]at *;cases d with
   |it _ p hp=>exact .it id p (by simp only[cb.og,h1];exact hp)
  |_=>simp[nT]at h
 | .fn f a c,b,h=>by
  cases b with
  |fn J D c' =>
   simp only[nT,ab]at h;have h1:=at6 h.1.1;subst h1;have ha:=A3 e a D h.1.2;have hc:=A3 e c c' h.2;simp only[ag.sub];intro G u d;cases d with
   |fn _ _ _ fv cv mj nh t E=>exact .fn f _ _ fv cv (by rw[mj,ha.1]) (by rw[nh,hc.1]) (λi a7 g=>ha.2 i a7 (by rw[<-ha.1];exact a7) G _ (t i (by rw[<-ha.1];exact a7) g)) (λi a7 g=>hc.2 i a7 (by rw[<-hc.1];exact a7) G _ (E i (by rw[<-hc.1];exact a7) g))
  |_=>simp[nT]at h
 | .agg cs,b,h=>by
  cases b with
  |agg m =>
   simp only[nT]at h;have hl:=A3 e cs m h;simp only[ag.sub];intro G u d;cases d with
   |agg _ vs mj t=>exact .agg _ vs (by rw[mj,hl.1]) (λi a7 g=>hl.2 i a7 (by rw[<-hl.1];exact a7) G _ (t i (by rw[<-hl.1];exact a7) g))
  |_=>simp[nT]at h
 | .fe cs,b,h=>by
  cases b with
  |fe m =>
   simp only[nT]at h;have hl:=A3 e cs m h;simp only[ag.sub];intro G u d;cases d with
   |fe _ vs mj t=>exact .fe _ vs (by rw[mj,hl.1]) (λi a7 g=>hl.2 i a7 (by rw[<-hl.1];exact a7) G _ (t i (by rw[<-hl.1];exact a7) g))
  |_=>simp[nT]at h
 | .ek i,b,h=>by
  cases b with
  |ek C=>simp only[nT]at h;rw[<-af h,lQ];exact nC.fit (e i)
  |_=>simp[nT]at h
 | .ea id z i,b,h=>by
  cases b with
  |ea id' x C =>
   simp only[nT,ab]at h;have h1:=Aj h.1.1;have h2:=af h.1.2;have n:=af h.2;subst h2;subst n;intro G u d;simp only[p5]at *;generalize(rowsOf (θ i)).length=l at *;cases d with
   |ms _ _ _ _ p hp hv hz a c ha s hl hsp=>exact .ms id z 0 l p (by simp only[cb.og,h1];exact hp) hv hz a c ha s hl hsp
   |n4 _ _ p hp hv=>exact .n4 id z p (by simp only[cb.og,h1];exact hp) hv
  |_=>simp[nT]at h
 | .oN id k o,b,h=>by
  cases b with
  |oN id' K o' =>
   simp only[nT,ab]at h;have h1:=Aj h.1.1;have h2:=af h.1.2;have n:=af h.2;subst h2;subst n;intro G u d;simp only[ag.sub]at *;cases d with
   |mp _ _ _ p hp=>exact .mp id _ _ p (by simp only[cb.og,h1];exact hp)
  |_=>simp[nT]at h
 | .xs id z o l,b,h=>by
  cases b with
  |xs id' x o' B =>
   simp only[nT,ab]at h;have h1:=Aj h.1.1.1;have h2:=af h.1.1.2;have n:=FG (θ:=θ) h.1.2;have r:=FG (θ:=θ) h.2;subst h2;intro G u d;simp only[ag.sub,n,r]at *;generalize mf (o'.sub θ)=M at *;generalize mf (B.sub θ)=N at *;cases d with
   |ms _ _ _ _ p hp hv hz a c ha s hl hsp=>exact .ms id z _ _ p (by simp only[cb.og,h1];exact hp) hv hz a c ha s hl hsp
   |n4 _ _ p hp hv=>exact .n4 id z p (by simp only[cb.og,h1];exact hp) hv
  |_=>simp[nT]at h
 | .mx c,b,h=>by
  cases b with
  |mx c' =>simp only[nT]at h;obtain⟨i,rfl,rfl⟩:=Kc h;simp only[y7,lQ];intro G u d;exact rT (G:=G) (G':=G.og ι) (λ_ _ q=>q) d (by simp only[ag.ki];exact(e _).ki)
  |_=>simp[nT]at h
theorem A3{θ:Nat->ag}(c:Fit θ){ι:pM}:∀(a b:List ag),vZ ι a b=IN->B1 ι (mR θ a) (mR θ b)
 | [],b,h=>by
  cases b with
  |nil=>exact⟨rfl,λi a7=>by simp[mR]at a7⟩
  |cons _ _=>simp[vZ]at h
 |a::az,b,h=>by
  cases b with
  |nil=>simp[vZ]at h
  |cons b bs=>simp only[vZ,ab]at h;simp only[mR];exact(Oh c a b h.1:nC ι _ _) |> λh1=>B1.cons h1 (A3 c az bs h.2)
theorem N6{θ:Nat->ag}(c:Fit θ){ι:pM}:∀(a b:List (List ag)),zS ι a b=IN->D2 ι (oA θ a) (oA θ b)
 | [],b,h=>by
  cases b with
  |nil=>exact⟨rfl,λi a7=>by simp[oA]at a7⟩
  |cons _ _=>simp[zS]at h
 |a::az,b,h=>by
  cases b with
  |nil=>simp[zS]at h
  |cons b bs=>
   simp only[zS,ab]at h;simp only[oA];have h1:=A3 c a b h.1;have h2:=N6 c az bs h.2;refine⟨by simp[h2.1],λi a7 d=>?_⟩;cases i with
   |zero=>exact h1
   |succ i=>exact h2.2 i (by simpa using a7) (by simpa using d)
end
def O'{P:Program}{o:Oper}{a:Act}{K g:Act->World->Prop}{Q Q':Exit->Act->World->Prop}(i:∀e a w,Q e a w->e=.normal)(hk:∀a w,K a w->g a w){r:Result Next}(h:o.upon P a K Q r):o.upon P a g Q' r:=by
 have hp:∀c a w,¬Q (.panic c) a w:=λc a w b=>by cases i _ _ _ b
 have hl:¬LetsOut Q:=λ⟨a,w,b⟩=>by cases i _ _ _ b
 cases r with
 |ok n w' =>
  cases n with
  |value v=>exact hk _ _ h
  |skip=>exact hk _ _ h
  |defer d=>exact hk _ _ h
  |enter f args=>
   simp only[eQ]at h⊢;refine h.mono ?_;intro e j b;cases e with
   |returned v=>exact hk _ _ b
   |panicked c=>exact lH b (hp _ _ _)
   |outgrown=>exact lH b hl
  |row row args=>simp only[eQ]at h⊢;exact h.mono λ_ _ b=>hk _ _ b
  |_=>simp only[eQ]at h
 |halt x w' =>
  cases x with
  |panic v=>simp only[eQ]at h;exact lH h (hp _ _ _)
  |_=>simp only[eQ]at h
def bj5{P:Program}{c:Array Oper}{o:Oper}{Q Q':Exit->Act->World->Prop}(g:∀e a w,Q e a w->e=.normal){i:Nat}(a7:i<c.size)(n:∀x j b,c[i]?=U x->x.guard=U (j,b)->j<c.size){K k:Act->World->Prop}(hk:∀a w,K a w->k a w){a:Act}{w:World}
  (h:wpOp P c Q i K a w):wpOp P (c.push o) Q' i k a w:=by
 unfold wpOp at h⊢;have l:∀j,j<c.size->(c.push o)[j]?=c[j]?:=λj hj=>by rw[bW,b8 (by omega)]
 rw[l i a7];have m:c[i]?=U c[i]:=aZ a7;rw[m]at h⊢;simp only at h⊢;have hw:dD c[i] (yielded (c.push o) a.tmps)=dD c[i] (yielded c a.tmps):=by
  unfold dD;split
  .rfl
  rename_i j b f;unfold yielded;rw[l j (n _ _ _ m f)]
 rw[hw];split at h
 next d=>
  rw[b9 d];rcases h with h|⟨_,a2,p,h2⟩
  .exact .inl (O' g hk h)
  cases g _ _ _ h2
 rename_i d;rw[b8 d];exact hk _ _ h
def bb4{P:Program}{c:Array Oper}{o:Oper}{Q:Exit->Act->World->Prop}(hg:∀(i:Nat) (x:Oper) (j:Nat) (b:Bool),c[i]?=U x->x.guard=U (j,b)->j<c.size)(hL:∀e∈o.after,cN .any e=IN->e.on<c.size)(he:∀(i:Nat) (x:Oper) (e:Edge),c[i]?=U x->e∈x.after->cN .any e=IN->e.on<i)
  (G:∀p:Nat->Bool,zf c p->(∀e∈o.after,cN .any e=IN->p e.on=IN)->∀i,i<c.size->p i=IN) :
  ∀(fuel:Nat) (listed:Array Bool) (a:Act) (w:World),listed.size=c.size->zf c (λj=>listed.getD j IS)->left c.size (λj=>listed.getD j IS)=fuel ->
   wpAny P .any c (λe a w=>e=.normal/\wpOp P (c.push o) Q c.size (Q .normal) a w) fuel listed a w->wpAny P .any (c.push o) Q (fuel+1) (listed.push IS) a w:=by
 have q:∀(l:Array Bool) (j:Nat),l.size=c.size->j<c.size->∀d,(l.push IS).getD j d=l.getD j d:=λl j hl hj d=>by simp[eR,bW,show j≠l.size by omega]
 have v:∀(l:Array Bool),l.size=c.size->∀d,(l.push IS).getD c.size d=IS:=λl hl d=>by simp only[eR,bW,hl,jj,Option.getD_some]
 have e0:∀j,j<c.size->(c.push o)[j]?=c[j]?:=λj hj=>by rw[bW,b8 (by omega)]
 have eL:(c.push o)[c.size]?=U o:=by rw[bW,b9 rfl]
 have C:∀(l:Array Bool),l.size=c.size->∀i,i<c.size->(i∈bP .any (c.push o) (l.push IS)↔i∈bP .any c l):=λl hl i a7=>by
  rw[mem_ready,mem_ready,e0 i a7,q l i hl a7];constructor
  .rintro ⟨h1,x,h2,H⟩
   refine⟨h1,x,h2,λe k r=>?_⟩;have:=H e k r;rwa [q l e.on hl (by have:=he i x e h2 k r;omega)]at this
  rintro ⟨h1,x,h2,H⟩;refine⟨h1,x,h2,λe k r=>?_⟩;rw[q l e.on hl (by have:=he i x e h2 k r;omega)];exact H e k r
 have M:∀(l:Array Bool),l.size=c.size->zf c (λj=>l.getD j IS)->c.size∈bP .any (c.push o) (l.push IS)->∀i,i<c.size->l.getD i IS=IN:=λl hl s z=>by
  rw[mem_ready,eL]at z;obtain⟨_,x,D,H⟩:=z;cases D;refine G _ s (λe k r=>?_);have:=H e k r;by_cases hs:e.on<c.size
  .rwa [q l e.on hl hs]at this
  exfalso;by_cases N:e.on=c.size
  .rw[N,v l hl]at this;cases this
  have:(l.push IS).getD e.on IS=IS:=by simp[eR,bW,show e.on≠l.size by omega,show ¬e.on<l.size by omega]
  simp_all
 have er:∀(l:Array Bool) i,i∈bP .any (c.push o) l->i<c.size\/i=c.size:=λl i a7=>by obtain⟨_,x,D,_⟩:=mem_ready.1 a7;have:=(aS.1 D).1;simp at this;omega
 have full:∀(l:Array Bool),l.size=c.size->(∀i,i<c.size->l.getD i IS=IN)->bP .any c l=[]:=λl hl hp=>by
  cases z:bP .any c l with
  |nil=>rfl
  |cons i is=>
   have a7:i∈bP .any c l:=by rw[z];simp
   obtain⟨h1,x,D,_⟩:=mem_ready.1 a7;have g:=(aS.1 D).1;have:=hp i g;simp[hl,g]at h1 this;rw[h1]at this;cases this
 have after:∀(l:Array Bool) (a:Act) (w:World) (fuel:Nat),l.size=c.size->(∀i,i<c.size->l.getD i IS=IN)->Q .normal a w->wpAny P .any (c.push o) Q fuel ((l.push IS).setIfInBounds c.size IN) a w:=λl a w fuel hl hp hQ=>by
  have n:bP .any (c.push o) ((l.push IS).setIfInBounds c.size IN)=[]:=by
   cases z:bP .any (c.push o) ((l.push IS).setIfInBounds c.size IN)with
   |nil=>rfl
   |cons i is=>
    have a7:i∈bP .any (c.push o) ((l.push IS).setIfInBounds c.size IN):=by rw[z];simp
    obtain⟨h1,_⟩:=mem_ready.1 a7;rcases er _ _ a7 with g|rfl
    .rw[getD_set_ne IN (by omega),q l i hl g]at h1
     have:=hp i g;simp[hl,g]at h1 this;rw[h1]at this;cases this
    simp[hl]at h1
  cases fuel with
  |zero=>exact⟨n,hQ⟩
  |succ f=>exact⟨λ_=>hQ,λi a7=>by rw[n]at a7;cases a7⟩
 have B:∀(l:Array Bool),l.size=c.size->(∀i,i<c.size->l.getD i IS=IN)->c.size∈bP .any (c.push o) (l.push IS):=λl hl hp=>by rw[mem_ready,eL,v l hl];refine⟨rfl,o,rfl,λe k r=>?_⟩;rw[q l e.on hl (hL e k r)];exact hp _ (hL e k r)
 intro fuel
 induction fuel with
 |zero=>
  intro listed a w m s t h;have hp:=TW t;refine⟨λn=>?_,λi a7=>?_⟩
  .have:=B listed m hp;rw[n]at this;cases this
  rcases er _ _ a7 with g|rfl
  .rw[C listed m i g,full listed m hp]at a7;cases a7
  refine wpOp_mono ?_ h.2.2;intro I w' O;exact after listed I w' 0 m hp O
 |succ fuel ih=>
  intro listed a w m s t h;refine⟨λn=>?_,λi a7=>?_⟩
  .have h1:bP .any c listed=[]:=by
    cases z:bP .any c listed with
    |nil=>rfl
    |cons i is=>
     have a7:i∈bP .any c listed:=by rw[z];simp
     obtain⟨_,x,D,_⟩:=mem_ready.1 a7;have g:=(aS.1 D).1;rw[<-C listed m i g,n]at a7;cases a7
   have hp:∀i,i<c.size->listed.getD i IS=IN:=λi=>by
    induction i using gX with
    |_ i R=>
     intro g;cases hl:listed.getD i IS with
     |true=>rfl
     |false=>
      have:i∈bP .any c listed:=mem_ready.2 ⟨by simp[m,g]at hl⊢;exact hl,_,aZ g,λe k r=>by
       have:=he i _ e (aZ g) k r;exact R e.on this (by omega)⟩
      rw[h1]at this;cases this
   have:=B listed m hp;rw[n]at this;cases this
  rcases er _ _ a7 with g|rfl
  .rw[C listed m i g]at a7
   refine bj5 (Q:=λe a w=>e=.normal/\wpOp P (c.push o) Q c.size (Q .normal) a w) (λ_ _ _ hh=>hh.1) g (λx j b h1 h2=>hg i x j b h1 h2) (λI w' hk=>?_) (h.2 i a7);have J:∀j,(listed.setIfInBounds i IN).getD j IS=(j==i||listed.getD j IS):=λj=>by
    by_cases e:j=i
    .subst e;simp[m,g]
    rw[getD_set_ne IS (kD e)];have:(j==i)=IS:=by simpa using e
    rw[this];rfl
   have u:(λj=>(listed.setIfInBounds i IN).getD j IS)=(λj=>j==i||listed.getD j IS):=funext J;obtain⟨r1,x,r2,r3⟩:=mem_ready.1 a7;have S:listed.getD i IS=IS:=by simp[m,g]at r1⊢;exact r1
   have e1:(listed.push IS).setIfInBounds i IN=(listed.setIfInBounds i IN).push IS:=by
    apply Array.ext_getElem?;intro j;by_cases V:j=i
    .subst V
     rw[fV (by simp;omega),bW,b8 (by simp;omega),fV (by omega)]
    rw[gy (kD V),bW,bW];simp only[Array.size_setIfInBounds];split
    .rfl
    rw[gy (kD V)]
   rw[e1];refine ih _ I w' (by simp[m]) ?_ ?_ hk
   .rw[u]
    intro j oj E hpj e k r;by_cases K:j=i
    .subst K
     rw[r2]at E;cases E;simp[r3 e k r]
    have:listed.getD j IS=IN:=by simpa[K]using hpj
    simp[s j oj E this e k r]
   rw[u];have:=VF (p:=λj=>listed.getD j IS) g S;omega
  have hp:=M listed m s a7;have h0:=h.1 (full listed m hp);refine wpOp_mono ?_ h0.2;intro I w' O;exact after listed I w' _ m hp O
def bk0{P:Program}{T:dd}(ca:mc P T){cl:FuncId->List ag->bg->Option (ag×bg)}
  (E:∀f args σ v σ',cl f args σ=U (v,σ')->po P f args σ (λI m=>I=v/\m=σ')/\pH σ σ')
  {ops:Array Oper} {s s':AS} (h:AM T cl ops s=U s') {G:cb} {a:Act} {w:World} (b:np G s a w) {Q:Exit->Act->World->Prop}
  (J:∀G' D w',sE s.st.next G s.st w G' s'.st w'->np G' s' D w'->Q .normal D w'):wpAny P .any ops Q ops.size (bz ops.size IS) a { w with drawn:=w.drawn+1 }:=by
 unfold AM at h;split at h
 case isFalse=>cases h
 rename_i l4;split at h
 case h_2=>cases h
 rename_i s1 fs K;split at h
 case isFalse=>cases h
 rename_i vM;cases h;obtain⟨evs,sts,mj,nh,px,M,q,g1,g2,g3⟩:=N_ ca E ops.toList 0 _ _ fs (λj=>by simp) (by simp) (aw _) K;simp only[ja]at mj nh px;have r:Lex P ops s.n s.st.next fs evs sts { s with st:={ s.st with next:=s.st.next+ops.size } }:=⟨l4,vM,mj,nh,px,λj o f ev st h1 h2 N O=>by
  have:=q j o f ev st (by simpa using h1) h2 N O;simpa using this⟩
 have i:left ops.size (λj=>(bz ops.size IS).getD j IS)=ops.size:=by
  unfold left;rw[di.2 (λx z=>by
   have:x<ops.size:=by simpa using z
   simp[this])]
  simp
 have B:∀j,(bz ops.size IS).getD j IS=IS:=λj=>by by_cases hj:j<ops.size<;>simp[hj]
 refine Way.any r (G0:=G) (σ0:=s.st) (mr:=w) _ ?_ ops.size (bz ops.size IS) G s.get { s.st with next:=s.st.next+ops.size } a { w with drawn:=w.drawn+1 } (by simp) i ?_
 .intro p G' l8 σ D w' hw hp
  have agree:∀ {L V:Type} (us:List (L->Option V)) (f:L->V),us.length=ops.size->fold p us 0 f=fold (λ_=>IN) us 0 f:=λus f hl=>funext λl=>wq l us 0 f f rfl (λj u hu C=>by
   have hj:j<ops.size:=by have:=(ao.1 hu).1;omega
   rw[aN]at C;exact lH (hp j hj) C)
  have d:σ.next=s'.st.next:=by rw[hw.lC,agree _ _ (by simp[mj]),g3]
  have g:∀k,σ.bT k=s'.st.bT k:=λk=>by rw[hw.vT,agree _ _ (by simp[mj]),g2]
  have H:∀t,l8 t=s'.get t:=λt=>by rw[hw.l8,agree _ _ (by simp[mj]),g1]
  exact J G' D w' ⟨hw.yd.le,hw.yd.keeps,by rw[<-d];exact hw.yd.next,hw.yd.bb.trans (Fr.less λk x z=>by rw[g];exact z)⟩ ⟨hw.rel.defers,by rw[hw.rel.size,M],λt=>by rw[<-H];exact hw.rel.tmps t,hw.rel.rel.less d.symm (λk x z=>by rw[g];exact z)⟩
 have c:∀ {L V:Type} (us:List (L->Option V)) (f:L->V) (l:L),fold (λj=>(bz ops.size IS).getD j IS) us 0 f l=f l:=λus f l=>Aw l us 0 f _ (λj u _ hp=>by rw[B]at hp;cases hp) rfl;refine⟨⟨b.defers,b.size,b.tmps,(b.rel.next (aY _ _)).drawn _⟩,λt=>(c _ _ _).symm,λk=>(c _ _ _).symm,(c (evs.map λe=>λ_:Unit=>e.tk) (λ_=>s.st.next+ops.size) ()).symm,λj _ _=>b.rel.fresh _ (aY _ _),(λj o _ hp=>by rw[B]at hp;cases hp),aw _,?_⟩;exact⟨.refl G,.refl _ G,aY _ _,(Fr.less (σ:=s.st) (σ':={ s.st with next:=s.st.next+ops.size }) (λ_ _ h=>h)).trans (Fr.Re _ _ _ _ (aY _ _))⟩
def AB(a:Array Oper)(o:Oper):Bool :=
 (bo a.size).all (λi=>(Ef (ox a.toList []) o).testBit i)&&o.after.all (λe=>!Region.binds .any e||IT (e.on<a.size)) &&
 (bo a.size).all (λi=>match a[i]? with
  |some x=>(match x.guard with|some (j,_)=>IT (j<a.size)|none=>IN)&&x.after.all (λe=>!Region.binds .any e||IT (e.on<i))
  |none=>IN)
def az0{a:Array Oper}{o:Oper}(h:AB a o=IN):∀p:Nat->Bool,zf a p->(∀e∈o.after,cN .any e=IN->p e.on=IN)->∀i,i<a.size->p i=IN:=by
 intro p c d i a7;unfold AB at h;simp only[ab]at h;have k:=ak.1 h.1.1 i (by simpa using a7);unfold Ef at k;rcases Nf _ i _ _ k with f|⟨e,he,b,f⟩
 .simp at f
 have g:=d e (by simpa using he) b;rcases f with rfl|f
 .exact g
 have j:e.on<a.size:=by have:=dh.1 h.1.2 e (by simpa using he);simpa[b]using this
 exact EI c e.on _ (aZ j) (c e.on _ (aZ j) g) i f
def bn0{P:Program}{c:Array Oper}{o:Oper}{Q Q':Exit->Act->World->Prop}(g:∀e a w,Q e a w->e=.normal){i:Nat}(a7:i<c.size)(n:∀x j b,c[i]?=U x->x.guard=U (j,b)->j<c.size){K k:Act->World->Prop}(hk:∀a w,K a w->k a w){a:Act}{w:World}
  (h:wpOp P (c.push o) Q i K a w):wpOp P c Q' i k a w:=by
 unfold wpOp at h⊢;have l:∀j,j<c.size->(c.push o)[j]?=c[j]?:=λj hj=>by rw[bW,b8 (by omega)]
 rw[l i a7]at h;have m:c[i]?=U c[i]:=aZ a7;rw[m]at h⊢;simp only at h⊢;have hw:dD c[i] (yielded (c.push o) a.tmps)=dD c[i] (yielded c a.tmps):=by
  unfold dD;split
  .rfl
  rename_i j b f;unfold yielded;rw[l j (n _ _ _ m f)]
 rw[hw]at h;split at h
 next d=>
  rw[b9 d];rcases h with h|⟨_,a2,p,h2⟩
  .exact .inl (O' g hk h)
  cases g _ _ _ h2
 rename_i d;rw[b8 d];exact hk _ _ h
def TS{P:Program}{c:Array Oper}{o:Oper}{Q:Exit->Act->World->Prop}(d:∀e a w,Q e a w->e=.normal)(f:∀(i:Nat) (x:Oper) (j:Nat) (b:Bool),c[i]?=U x->x.guard=U (j,b)->j<c.size) :
  ∀(l:List Nat) (a:Act) (w:World),(∀i∈l,i<c.size)->wpOps P (c.push o) Q (l++[c.size]) a w->wpOps P c (λe a w=>e=.normal/\wpOp P (c.push o) Q c.size (Q .normal) a w) l a w
 | [],a,w,_,h=>by simp only[bq]at h;rw[wpOps_cons]at h;exact⟨rfl,h⟩
 |i::l,a,w,hl,h=>by rw[fC,wpOps_cons]at h;rw[wpOps_cons];exact bn0 d (hl i (by simp)) (λx j b h1 h2=>f i x j b h1 h2) (λg w' hk=>TS d f l g w' (λj hj=>hl j (by simp[hj])) hk) h
def B6{P:Program}{md:Region.Mode}{ops:Array Oper}{Q Q':Exit->Act->World->Prop}(b:∀e a w,Q e a w->e=.normal)(h:∀a w,Q .normal a w->Q' .normal a w):∀(fuel:Nat) (listed:Array Bool) (a:Act) (w:World),wpAny P md ops Q fuel listed a w->wpAny P md ops Q' fuel listed a w
 | 0,_,a,w,⟨h1,h2⟩=>⟨h1,h a w h2⟩
 |fuel+1,listed,a,w,⟨h1,h2⟩=>⟨λc=>h a w (h1 c),λi a7=>by
   have:=h2 i a7;unfold wpOp at this⊢;split at this
   .exact B6 b h fuel _ _ _ this
   split at this
   next hw=>
    rw[b9 hw];rcases this with this|⟨_,a2,f,d⟩
    .exact .inl (O' b (λg w' hk=>B6 b h fuel _ _ _ hk) this)
    cases b _ _ _ d
   rename_i hw;rw[b8 hw];exact B6 b h fuel _ _ _ this⟩
def xA:List Oper->List Oper->Bool
 |_,[]=>IN
 |l0,o::t=>AB ⟨l0⟩ o&&xA (l0++[o]) t
def push_mk(l:List Oper)(o:Oper):(⟨l⟩:Array Oper).push o=⟨l++[o]⟩:=by apply dz;simp
def Rz{a:Array Oper}{o:Oper}(hl:AB a o=IN):(∀(i:Nat) (x:Oper) (j:Nat) (b:Bool),a[i]?=U x->x.guard=U (j,b)->j<a.size)/\(∀e∈o.after,cN .any e=IN->e.on<a.size) /\
  (∀(i:Nat) (x:Oper) (e:Edge),a[i]?=U x->e∈x.after->cN .any e=IN->e.on<i):=by
 have c:=hl;unfold AB at c;simp only[ab]at c;refine⟨λi x j b d g=>?_,λe he f=>?_,λi x e d he f=>?_⟩
 .have:=ak.1 c.2 i (by simpa using(aS.1 d).1)
  simp only[d,g,ab,gb]at this;exact this.1
 .have:=dh.1 c.1.2 e he
  simpa[f]using this
 have:=ak.1 c.2 i (by simpa using(aS.1 d).1);simp only[d,ab]at this;have:=dh.1 this.2 e he;simpa[f]using this
def Rr:∀(t l0:List Oper) (o:Oper),xA l0 (t++[o])=IN->xA l0 t=IN/\AB ⟨l0++t⟩ o=IN
 | [],l0,o,h=>by simp only[bq,xA,Bool.and_true]at h;exact⟨rfl,by simpa using h⟩
 |x::t,l0,o,h=>by simp only[fC,xA,ab]at h⊢;obtain⟨h1,h2⟩:=Rr t (l0++[x]) o h.2;exact⟨⟨h.1,h1⟩,by simpa using h2⟩
def aP9{P:Program}{b:Array Oper}{o:Oper}(hl:AB b o=IN){Q:Exit->Act->World->Prop}{a:Act}{w:World}(h:wpAny P .any b (λe a w=>e=.normal/\wpOp P (b.push o) Q b.size (Q .normal) a w) b.size (bz b.size IS) a w) :
  wpAny P .any (b.push o) Q (b.size+1) (bz (b.size+1) IS) a w:=by
 obtain⟨h1,h2,f⟩:=Rz hl;have d:∀j,(bz b.size IS).getD j IS=IS:=λj=>by by_cases hj:j<b.size<;>simp[hj]
 have c:left b.size (λj=>(bz b.size IS).getD j IS)=b.size:=by
  unfold left;rw[di.2 (λx g=>by
   have:x<b.size:=by simpa using g
   simp[this])]
  simp
 have i:bz (b.size+1) IS=(bz b.size IS).push IS:=by
  apply Array.ext
  .simp
  intro j h1 h2;simp[Array.getElem_push]
 rw[i];exact bb4 h1 h2 f (az0 hl) b.size _ a _ (by simp) (λj o' _ hp=>by rw[show(λj=>(bz b.size IS).getD j IS) j=IS from d j]at hp;cases hp) c h
def SD{P:Program}{l0:List Oper}:∀(n:Nat) (t:List Oper),t.length=n->xA l0 t=IN->∀ {Q:Exit->Act->World->Prop},(∀e a w,Q e a w->e=.normal)->∀ {a:Act} {w:World},
  wpAny P .any ⟨l0⟩ (λe a w=>e=.normal/\wpOps P ⟨l0++t⟩ Q (dU l0.length t.length) a w) l0.length (bz l0.length IS) a w->wpAny P .any ⟨l0++t⟩ Q (l0++t).length (bz (l0++t).length IS) a w
 | 0,t,d,_,Q,f,a,w,h=>by
  have:t=[]:=by simpa using d
  subst this;rw[List.append_nil];refine B6 (Q:=λe a w=>e=.normal/\wpOps P ⟨l0++[]⟩ Q (dU l0.length ([]:List Oper).length) a w) (λ_ _ _ c=>c.1) ?_ _ _ _ _ h;rintro g w' ⟨_,h2⟩;simpa[wpOps]using h2
 |n+1,t,d,l,Q,f,a,w,h=>by
  obtain⟨b,o,rfl⟩:∃b o,t=b++[o]:=by
   rcases List.eq_nil_or_concat t with rfl|⟨b,o,rfl⟩
   .simp at d
   exact⟨b,o,by simp⟩
  obtain⟨h1,h2⟩:=Rr b l0 o l;have j:(⟨l0++(b++[o])⟩:Array Oper)=(⟨l0++b⟩:Array Oper).push o:=by rw[push_mk];simp
  have m:(l0++(b++[o])).length=(⟨l0++b⟩:Array Oper).size+1:=by simp;omega
  rw[j,m];refine aP9 h2 ?_;refine SD n b (by simpa using d) h1 (λe a w c=>c.1) ?_;refine B6 (λ_ _ _ c=>c.1) ?_ _ _ _ _ h;rintro g w' ⟨_,k⟩;refine⟨rfl,?_⟩;rw[j]at k;refine TS f (Rz h2).1 _ g w' (λi a7=>by simp at a7⊢;omega) ?_;have p:dU l0.length (b++[o]).length=dU l0.length b.length++[(⟨l0++b⟩:Array Oper).size]:=by simp[List.range'_concat]
  rw[<-p];exact k
def j4.ah7{P:Program}{T:dd}(ca:mc P T)(hm:P.follows .mixedOrders=IN){cl:FuncId->List ag->bg->Option (ag×bg)}
  (m:∀f args σ v σ',cl f args σ=U (v,σ')->po P f args σ (λB g=>B=v/\g=σ')/\pH σ σ')
  {id n:Nat} {l0 t:List Oper} (hl:xA l0 t=IN) {s s':AS} (h:AM T cl ⟨l0⟩ s=U s') {Q:Exit->AS->Prop}
  (b:mO P ⟨l0++t⟩ s'.st.next n (λs2=>Q .normal s2) (dU l0.length t.length) { s' with st:={ s'.st with next:=s'.st.next+(l0++t).length } }):j4 P n (.region id ⟨l0++t⟩ IN) Q s:=by
 intro o G a w i;refine wp_region_any hm ?_;have key:=SD (P:=P) (l0:=l0) t.length t rfl hl (Q:=λe k w'=>e=.normal/\∃s2 d,oK n G s.st w d s2.st w'/\np d s2 k w'/\Q .normal s2) (λ_ _ _ p=>p.1) (a:=a) (w:={ w with drawn:=w.drawn+1 }) ?_
 .refine B6 (λ_ _ _ p=>p.1) ?_ _ _ _ _ key
  rintro k w' ⟨_,s2,d,c,q,r⟩;exact⟨s2,d,c,q,r⟩
 refine bk0 ca m h i (λG' k w' z l=>⟨rfl,?_⟩);have u:np G' { s' with st:={ s'.st with next:=s'.st.next+(l0++t).length } } k w':=⟨l.defers,l.size,l.tmps,l.rel.next (aY _ _)⟩;have:=b G' k w' u (λj hj=>⟨by simp at hj⊢;omega,l.rel.fresh _ (aY _ _)⟩) (aw _) (bI o z.next);have x:=z.Kl (n:=n) o o;refine rl ?_ _ _ _ this;rintro e a2 C ⟨rfl,s2,d,c,q,r⟩;exact⟨rfl,s2,d,x.trans ⟨c.mr,c.lM,c.pl,c.lC,(Fr.less (σ:=s'.st) (σ':={ s'.st with next:=s'.st.next+(l0++t).length }) (λ_ _ h=>h)).trans c.bb⟩ (aw _),q,r⟩
mutual
def ag.rh:ag->ag
 | .bF (.slice No 0 0)=>.rs []
 | .rs es=>.rs (Gs es)
 | .agg cs=>.agg (xY cs)
 | .fe cs=>.fe (xY cs)
 |v=>v
def xY:List ag->List ag
 | []=>[]
 |c::cs=>c.rh::xY cs
def Gs:List (List ag)->List (List ag)
 | []=>[]
 |c::cs=>xY c::Gs cs
end
def AJ:∀l,xY l=l.map ag.rh
 | []=>by simp[xY]
 |c::cs=>by simp[xY,AJ cs]
def V4:∀l,Gs l=l.map (bY ag.rh)
 | []=>by simp[Gs]
 |c::cs=>by simp[Gs,AJ,V4 cs]
mutual
theorem Cx{G:cb}{θ:Nat->ag}:∀(v:ag) (u:Value),lB G (v.sub θ) u->lB G (v.rh.sub θ) u
 | .bF v,u,h=>by
  by_cases hv:v=.slice No 0 0
  .subst hv
   simp only[ag.sub]at h;cases h;simp only[ag.rh,ag.sub,oA];exact .qL
  have:(ag.bF v).rh=.bF v:=by
   unfold ag.rh;split
   next e=>cases e;exact(hv rfl).elim
   next e=>cases e
   next e=>cases e
   next e=>cases e
   rfl
  rw[this];exact h
 | .rs es,u,h=>by
  have d:=Uk (G:=G) (θ:=θ) es;simp only[ag.rh,ag.sub,vE,V4]at h⊢;generalize g:es.map (bY (ag.sub θ))=xs at h;cases h with
  |qL=>
   have:es=[]:=by simpa using g
   subst this;exact .qL
  |rs _ a cap size val hs hc hlen himm hrep=>
   subst g;have hl:(es.map (bY (ag.sub θ))).length=((es.map (bY ag.rh)).map (bY (ag.sub θ))).length:=by simp
   rw[hl];refine .rs _ a cap size val hs (by rw[<-hl];exact hc) (λi a7=>?_) (λi j a7 hj=>himm i j (by rw[hl];exact a7) hj) (λi j a7 hj=>?_)
   .have:=hlen i (by rw[hl];exact a7)
    simpa using this
   have b:i<es.length:=by simpa using a7
   have f:j<es[i].length:=by simpa using hj
   have:=hrep i j (by simpa using b) (by simpa using f);simp only[cK]at this⊢;exact d _ (au b) _ (au f) _ this
 | .agg cs,u,h=>by
  have d:=HD (G:=G) (θ:=θ) cs;simp only[ag.rh,ag.sub,p3,AJ]at h⊢;cases h with
  |agg _ vs h1 h2=>
   refine .agg _ vs (by simpa using h1) (λi a7 b=>?_);have c:i<cs.length:=by simpa using a7
   have:=h2 i (by simpa using c) b;simp only[cK]at this⊢;exact d _ (au c) _ this
 | .fe cs,u,h=>by
  have d:=HD (G:=G) (θ:=θ) cs;simp only[ag.rh,ag.sub,p3,AJ]at h⊢;cases h with
  |fe _ vs h1 h2=>
   refine .fe _ vs (by simpa using h1) (λi a7 b=>?_);have c:i<cs.length:=by simpa using a7
   have:=h2 i (by simpa using c) b;simp only[cK]at this⊢;exact d _ (au c) _ this
 | .any,u,h=>h
 | .h8 _,u,h=>h
 | .ms _ _ _ _,u,h=>h
 | .mp _ _ _,u,h=>h
 | .lX _,u,h=>h
 | .it _,u,h=>h
 | .fn _ _ _,u,h=>h
 | .ek _,u,h=>h
 | .ea _ _ _,u,h=>h
 | .oN _ _ _,u,h=>h
 | .xs _ _ _ _,u,h=>h
 | .mx _,u,h=>h
theorem HD{G:cb}{θ:Nat->ag}:∀(l:List ag) (v:ag),v∈l->∀u,lB G (v.sub θ) u->lB G (v.rh.sub θ) u
 | [],_,hv,_,_=>by simp at hv
 |c::cs,v,hv,u,h=>by
  rcases aI.1 hv with e|hv
  .rw[e]at h⊢;exact Cx c u h
  exact HD cs v hv u h
theorem Uk{G:cb}{θ:Nat->ag}:∀(l:List (List ag)) (r:List ag),r∈l->∀v,v∈r->∀u,lB G (v.sub θ) u->lB G (v.rh.sub θ) u
 | [],_,a,_,_,_,_=>by simp at a
 |c::cs,r,a,v,hv,u,h=>by
  rcases aI.1 a with e|a
  .rw[e]at hv;exact HD c v hv u h
  exact Uk cs r a v hv u h
end
inductive ml where
 |bin (o:BinOp) (t:TypeId) (x y:ag)
 |un (o:UnOp) (x:ag)
 |conv (s d:TypeId) (x:ag)
 |pick (c a b:ag)
 |idx (t:TypeId) (x i:ag)
 |index (t:TypeId) (x i:ag)
 |BF (t:TypeId) (x:ag) (b5 a7:Option ag)
 |len (t:TypeId) (x:ag)
 |pX (l:List ag)
 |Bk (l:List ag)
 |cat (sT xT:TypeId) (x y:ag)
 |call (f:FuncId) (args:List ag) (flat:Bool)
 |rows (l:List Nat)
 |look (t:TypeId) (c ix:ag) (ok:Bool)
 |w6 (t:TypeId) (x ix:ag) (ok:Bool)
 |pW (t:TypeId) (c ix v:ag)
 |Bj (t:TypeId) (c:ag)
 |zr
 |zb (t:TypeId) (c i:ag)
 |xl (t e:TypeId) (z:Nat) (c i:ag) (off:Nat)
 |vd (t e:TypeId) (z:Nat) (c i:ag) (off:Nat) (v:ag)
 |A7 (x:ag)
 |zu (n:Nat) (x:ag)
 |BM (sT:TypeId) (x:ag)
 |A5 (t:TypeId) (g:Nat)
 |zG (c i:ag) (off:Nat)
 |A8 (x:ag)
 |more (s p:ag)
 |BD (s p:ag)
 |Bn (cc:nO) (x:ag)
 |tail (t:TypeId) (z:Nat) (c b5:ag)
 |BH (t:TypeId) (z:Nat) (c c' a7:ag)
 |cut (t e:TypeId) (z:Nat) (c o l:ag)
 |Bm (l:ag)
 |A9 (t:TypeId) (o l i:ag)
 |Bi (t:TypeId) (n:ag)
 |AE (t e:TypeId) (z:Nat) (c y:ag)
 |A6 (t:TypeId) (x ix:ag)
abbrev lb:=FuncId->Option (List ag->Option ag)
abbrev p6:Nat:=1000000
def bn3(P:Program)(f:FuncId)(φ:List ag->Option ag):Prop:=∀v z rest c,φ (v::.bF (.int .i64 (z:Nat))::rest)=U c->∃es a,v=.rs es/\c=.rs a/\a.length=es.length /\
 ∀σ id e restv,σ.bT id=U (.row e z es)->(∀G vs w,gl G restv vs->Rel G (σ.del id) w->gl (G.frozen (σ.del id) w (λ_=>No)) rest vs) ->
  po P f (.ms id z 0 es.length::restv) σ (λv σ'=>v=.fe []/\σ'=σ.set id (.row e z a))
abbrev yL:Nat:=2000000
def Y5(P:Program)(f:FuncId)(φ:List ag->Option ag):Prop:=∀args c,φ args=U c->∃es,c=.rs es/\∀T fn t elem ti a,mc P T->P.funcs[f]?=U fn->fn.resultTypes.toList=[t]->T t=U ti->ti.fT=.slice elem->T elem=U a ->
 ∀σ:bg,po P f args σ (λv σ'=>v=.ms (σ.next+5) a.size 0 es.length/\σ'={ σ with next:=σ.next+7 }.set (σ.next+5) (.row elem a.size es))
structure A_(P:Program)(Φ:lb):Prop where
 w_:∀f φ,f<p6->Φ f=U φ->∀args c,φ args=U c->oI P ⟨f,args,c⟩
 sort:∀f φ,f<p6->Φ (p6+f)=U φ->bn3 P f φ
 row:∀f φ,Φ (yL+f)=U φ->Y5 P f φ
def lb.Ki(Φ:lb)(f:FuncId):Option (List ag->Option ag):=match cD f p6 with
 |true=>Φ (p6+f)
 |false=>No
def lb.fn(Φ:lb)(f:FuncId):Option (List ag->Option ag):=match cD f p6 with
 |true=>Φ f
 |false=>No
def au0(Φ:lb):ag->Bool
 | .fn (.func g) _ _=>(Φ.fn g).isSome
 | .fn _ _ _=>IS
 |_=>IN
def ab8:ag->Bool
 | .ea _ _ _=>IN
 |_=>IS
def lb.at(Φ:lb)(f:FuncId)(args:List ag):Option (List ag->Option ag):=match args.all (au0 Φ)&&!(args.any ab8&&(Φ (yL+p6+f)).isSome)with
 |true=>Φ.fn f
 |false=>No
def lb.af4{Φ:lb}{f:FuncId}{args:List ag}{φ:List ag->Option ag}(h:Φ.at f args=U φ):Φ.fn f=U φ:=by grind[lb.at]
def lb.xM{Φ:lb}{f:FuncId}{φ:List ag->Option ag}(h:Φ.fn f=U φ):f<p6/\Φ f=U φ:=by
 unfold lb.fn at h;split at h
 next a=>exact⟨by simpa using a,h⟩
 cases h
def Kv(T:dd)(sT xT:TypeId)(a b:ag):Option ag :=
 match T sT,T xT with
 |some { fT:=.slice elem,.. },U e=>
  match T elem with
  |some d=>match a,b with
   | .rs es,.rs xs=>if e.isInt=IS/\(xs.all λc=>c.length==d.size&&c.all ag.one)=IN/\(2*(es.length+xs.length)+1000)*d.bytes<=2^48/\es.length+xs.length<=2^62/\0<d.size then
     U (.rs (es++xs))else No
   |_,_=>No
  |none=>No
 |_,_=>No
def sA(c:ag):bg:=bg.none.set 0 (qh c)
def Kb(b:Bool)(l:List Int):List ag->Bool
 |r=>rC b l (nR 0 r).1
def sr(k v:ag)(b:Bool)(l:List Int):List (List ag)->List (List ag)
 | []=>[[k,v]]
 |r::rs=>match Kb b l r with
  |true=>[k,v]::rs
  |false=>r::sr k v b l rs
def E9:b7->Option ag
 | .mS c=>U c
 | .map IS [] 0=>U (.rs [])
 |_=>No
def SF(i j:Nat)(r:List ag):(nR i r).1=(nR j r).1:=by unfold nR;split<;>rfl
def Mt(b:Bool)(l:List Int):∀(es:List (List Int×ag×Nat)) (k:Nat),nd b l es (k+1)=(nd b l es k).map (λp=>(p.1+1,p.2))
 | [],_=>rfl
 |e::es,k=>by
  simp only[nd];split
  .rfl
  exact Mt b l es (k+1)
theorem VD{ix v:ag}{b:Bool}{l:List Int}(hk:ix.key=U (b,l)):∀(rs:List (List ag)) (j:Nat),nt j (sr ix v b l rs)=(pW b l v (j+rs.length) (nt j rs)).1
 | [],j=>by simp[sr,nt,nR,hk,pW,nd]
 |r::rs,j=>by
  have d:=VD (v:=v) hk rs (j+1);simp only[sr,Kb,nt];have a:rC b l (nR j r).1=rC b l (nR 0 r).1:=by rw[SF j 0]
  split
  .rename_i hc
   have e:nR j [ix,v]=(l,v,j):=by simp[nR,hk]
   have c:=MR j r;simp only[nt,e];generalize nR j r=q at a c;simp[pW,nd,a,hc,c]
  rename_i hc;simp only[nt,d];have f:j+1+rs.length=j+(rs.length+1):=by omega
  simp only[pW,nd,a,hc,aq,j2,aA,f];rw[Mt];cases nd b l (nt (j+1) rs) 0 with
  |none=>simp
  |some p=>simp
theorem WH{ix v:ag}{b:Bool}{l:List Int}:∀(rs:List (List ag)) (j:Nat),(sr ix v b l rs).length=(pW b l v rs.length (nt j rs)).2
 | [],j=>by simp[sr,pW,nd,nt]
 |r::rs,j=>by
  have c:=WH (ix:=ix) (v:=v) (b:=b) (l:=l) rs (j+1);simp only[sr,Kb,nt];have a:rC b l (nR j r).1=rC b l (nR 0 r).1:=by rw[SF j 0]
  split
  .rename_i hc
   simp[pW,nd,a,hc]
  rename_i hc;simp only[aA,c];simp only[pW,nd,a,hc,aq,j2,aA];rw[Mt];cases nd b l (nt (j+1) rs) 0 with
  |none=>simp
  |some p=>simp
def ay6{T:dd}{σ:bg}{id:Nat}{c ix v:ag}{t:TypeId}{b:Bool}{l:List Int}(i:σ.bT id=U (qh c))(hk:ix.key=U (b,l)){d:bg}(h:q3 T (sA c) t (.lX 0) ix v=U d) :
  q3 T σ t (.lX id) ix v=U (σ.set id (qh (.rs (sr ix v b l (rowsOf c))))):=by
 have e:(sA c).bT 0=U (qh c):=by simp[sA,bg.l1]
 unfold q3 at h⊢;split at h
 next o p _ _ _ _ q s j a=>
  rw[hk]at a;cases a;simp only[e,qh]at h;simp only[j,hk,i,qh];split at h
  next hc=>
   rw[b9 hc];have u:rowsOf c=[]:=by have:=hc.1;cases w:rowsOf c<;>grind[rowsOf,nt]
   grind[rowsOf,sr,qF,nt,nR]
  rename_i hc;rw[b8 hc];split at h
  next f=>
   rw[b9 f];have k:∀es:List (List ag),rowsOf (.rs es)=es:=λ_=>rfl;have g:=VD (v:=v) hk (rowsOf c) 0;have m:=WH (ix:=ix) (v:=v) (b:=b) (l:=l) (rowsOf c) 0;simp only[aN]at g;simp only[k];generalize rowsOf c=rs at *;rw[g,m];have n:qF rs=qF (sr ix v b l rs):=by
    cases rs with
    |nil=>grind[qF,sr]
    |cons r rs=>
     simp only[sr];split
     .grind[qF]
     unfold qF
     grind[absurd]
   rw[<-n]
  cases h
 cases h
def pF(e:TypeId)(z:Nat)(c:ag):bg:=bg.none.set 0 (.row e z (rowsOf c))
def Mx:ag->Bool
 | .rs _=>IN
 |_=>IS
def KH(T:dd)(sT:TypeId)(x:ag):Option ag :=
 match T sT with
 |some { fT:=.slice elem,.. }=>match T elem with
  |some a=>match x with
   | .bF (.int _ n)=>if IntKind.i64.wrap n=n/\0<n/\(2*n.toNat+1000)*a.bytes<=2^48/\n.toNat<=2^62/\0<a.size then
     U (.rs (List.replicate n.toNat a.zeroCells))else No
   |_=>No
  |none=>No
 |_=>No
def J3(T:dd)(t:TypeId):Nat:=match T t with
 |some { fT:=.slice el,.. }=>(match T el with
  |some a=>a.size
  |none=>0)
 |_=>0
def wb(σ:bg):Option ag:=match σ.bT 0 with
 |some (.row _ _ es)=>U (.rs es)
 |_=>No
def fr(T:dd)(Φ:lb)(θ:Nat->ag):ml->Option ag
 | .bin o t x y=>qH T o t (x.sub θ) (y.sub θ)
 | .un o x=>vu o (x.sub θ)
 | .conv s d x=>vR T s d (x.sub θ)
 | .pick c a b=>match c.sub θ with
  | .bF (.bool t)=>U (if t then a.sub θ else b.sub θ)
  |_=>No
 | .idx t x i=>qf T t (x.sub θ) (i.sub θ)
 | .index t x i=>uV T t (x.sub θ) (i.sub θ)
 | .BF t x b5 a7=>qz T t (x.sub θ) (b5.map (ag.sub θ)) (a7.map (ag.sub θ)) No
 | .len t x=>pt T bg.none t (x.sub θ)
 | .pX l=>(yp (l.map (ag.sub θ))).map .bF
 | .Bk l=>(zH (l.map (ag.sub θ))).map .bF
 | .cat sT xT x y=>Kv T sT xT (x.sub θ) (y.sub θ)
 | .call f args flat=>match Φ f with
  |some φ=>match φ (args.map (ag.sub θ))with
   |some c=>if flat=IN->DA c=IN then U c else No
   |none=>No
  |none=>No
 | .rows l=>match l.all (λj=>match θ j with| .rs _=>IN|_=>IS)with
  |true=>U (.bF (.bool IN))
  |false=>No
 | .look t c ix ok=>oW T (sA (c.sub θ)) t (.lX 0) (ix.sub θ) ok
 | .w6 t x ix ok=>oW T bg.none t (x.sub θ) (ix.sub θ) ok
 | .pW t c ix v=>match q3 T (sA (c.sub θ)) t (.lX 0) (ix.sub θ) (v.sub θ)with
  |some _=>match(ix.sub θ).key with
   |some (b,l)=>U (.rs (sr (ix.sub θ) (v.sub θ) b l (rowsOf (c.sub θ))))
   |none=>No
  |none=>No
 | .Bj t c=>pt T (sA (c.sub θ)) t (.lX 0)
 | .zr=>U (.bF (.bool IN))
 | .A7 x=>match x.sub θ with
  | .h8 _=>U (.bF (.bool IN))
  |_=>No
 | .BM sT x=>KH T sT (x.sub θ)
 | .A5 t g=>Gp T t g
 | .A8 x=>match x.sub θ with
  | .bF (.string _)=>U (.bF (.bool IN))
  |_=>No
 | .more s p=>match s.sub θ with
  | .bF (.string b)=>match p.sub θ with
   | .bF (.int .i64 n)=>U (.bF (.bool (IT (n.toNat<b.size))))
   |_=>No
  |_=>No
 | .Bn cc x=>match x.sub θ with
  | .rs rows=>match zV cc rows with
   |true=>U (.rs (rows.map (qR cc 0)))
   |false=>No
  |_=>No
 | .BD s p=>match s.sub θ with
  | .bF (.string b)=>match p.sub θ with
   | .bF (.int .i64 n)=>match IT (n.toNat<b.size)with
    |true=>U (.fe [.bF (.int .i64 n.toNat),.bF (.int .i32 (cz b n.toNat).1),.bF (.int .i64 (n.toNat+(cz b n.toNat).2:Nat))])
    |false=>No
   |_=>No
  |_=>No
 | .zG c i off=>match(rowsOf (c.sub θ))[mf (i.sub θ)]? with
  |some r=>match cD off r.length with
   |true=>U (.bF (.bool IN))
   |false=>No
  |none=>No
 | .zu n x=>match x.sub θ with
  | .h8 cs=>match aB cs.length n with
   |true=>U (.h8 cs)
   |false=>No
  |_=>No
 | .tail t z c b5=>match qz T t (.ms 0 z 0 (rowsOf (c.sub θ)).length) (U (b5.sub θ)) No No with
  |some (.ms _ _ o l)=>U (.fe [.bF (.int .i64 o),.bF (.int .i64 l)])
  |_=>No
 | .BH t z c c' a7=>match qz T t (.ms 0 z 0 (rowsOf (c.sub θ)).length) No (U (a7.sub θ)) No with
  |some (.ms _ _ o l)=>match aB o 0&&aB l (rowsOf (c'.sub θ)).length with
   |true=>U (.bF (.bool IN))
   |false=>No
  |_=>No
 | .cut t e z c o l=>(td T (pF e z (c.sub θ)) t (.ms 0 z (mf (o.sub θ)) (mf (l.sub θ)))).bind wb
 | .Bm l=>match l.sub θ with
  | .bF (.int .i64 n)=>match IT (0<=n)with
   |true=>U (.bF (.bool IN))
   |false=>No
  |_=>No
 | .A9 t o l i=>match qf T t (.ms 0 (J3 T t) (mf (o.sub θ)) (mf (l.sub θ))) (i.sub θ)with
  |some (.mp _ k _)=>U (.bF (.int .i64 k))
  |_=>No
 | .A6 t x ix=>match oW T bg.none t (x.sub θ) (ix.sub θ) IN with
  |some (.fe [_,.bF (.bool b)])=>U (.bF (.bool b))
  |_=>No
 | .Bi t n=>(tg T bg.none 0 t (n.sub θ) (n.sub θ)).bind λp=>wb p.2
 | .AE t e z c y=>match Mx (y.sub θ)with
  |true=>(sB T (pF e z (c.sub θ)) t (.ms 0 z 0 (rowsOf (c.sub θ)).length) (y.sub θ)).bind wb
  |false=>No
 | .zb t c i=>match qf T t (.ms 0 (match T t with|some { fT:=.slice el,.. }=>(match T el with|some h=>h.size|none=>0)|_=>0) 0 (rowsOf (c.sub θ)).length) (i.sub θ)with
  |some _=>U (.bF (.bool IN))
  |none=>No
 | .xl t e z c i off=>o8 T (pF e z (c.sub θ)) t (.mp 0 (mf (i.sub θ)) off)
 | .vd t e z c i off v=>match rA T (pF e z (c.sub θ)) t (.mp 0 (mf (i.sub θ)) off) (v.sub θ)with
  |some σ=>match σ.bT 0 with
   |some (.row _ _ es)=>match aB es.length (rowsOf (c.sub θ)).length with
    |true=>U (.rs es)
    |false=>No
   |_=>No
  |none=>No
def pG:fb b7->List Nat
 | .leaf=>[]
 | .node v l r=>(match v with|some (.f' _ _ j)=>[j]|some (.mS (.ek j))=>[j]|_=>[])++(pG l++pG r)
inductive mV where
 |stuck
 |ret (c:ag) (l:List Nat)
 |op (o:ml) (bb:Nat) (pat:ag) (r:mV)
 |test (i:Nat) (a b:mV)
 |loop (l k:Nat) (inits:List ag) (body:mV)
 |again (l:Nat) (hi:List ag)
def mA(T:dd)(Φ:lb)(Q:ag->Prop):mV->(Nat->ag)->(Nat->List ag->Prop)->Prop
 | .stuck,_,_=>False
 | .ret c l,θ,_=>(∀j∈l,∃es,θ j=.rs es)/\Q (c.sub θ)
 | .op o bb pat r,θ,A=>∃d,(∀i,i<bb->d i=θ i)/\Fit d/\fr T Φ θ o=U (pat.sub d)/\mA T Φ Q r d A
 | .test i a b,θ,A=>(θ i=.bF (.bool IN)/\mA T Φ Q a θ A)\/(θ i=.bF (.bool IS)/\mA T Φ Q b θ A)
 | .loop l k inits body,θ,A=>∃I:Nat->List ag->Prop,(∃n,I n (inits.map (ag.sub θ)))/\∀n hi,I n hi->hi.length=k->(∀v∈hi,mW v) ->
   ∀d,(∀i,i<l->d i=θ i)->(∀j (h:j<hi.length),d (l+j)=hi[j])->d (l+k)=.bF (.bool IS)->Fit d->mA T Φ Q body d (λf=>if f=l then(λe=>∃m,m<n/\I m e)else A f)
 | .again l hi,θ,A=>A l (hi.map (ag.sub θ))
def yR(bb:Nat):Nat->List ag
 | 0=>[]
 |n+1=>.ek bb::yR (bb+1) n
def zM(T:dd)(t:TypeId)(bb:Nat):Option (ag×Nat) :=
 match T t with
 |some ti=>if ti.isAgg then U (.agg (yR bb ti.size),bb+ti.size)else U (.ek bb,bb+1)
 |none=>No
def Ur(T:dd):List TypeId->Nat->Option (List ag×Nat)
 | [],bb=>U ([],bb)
 |t::ts,bb=>match zM T t bb with
  |some (p,a)=>match Ur T ts a with
   |some (c,b)=>U (p::c,b)
   |none=>No
  |none=>No
def Us(T:dd)(ts:List TypeId)(bb:Nat):Option (ag×Nat) :=
 match ts with
 | [t]=>zM T t bb
 |ts=>match Ur T ts bb with
  |some (b,a)=>U (.fe b,a)
  |none=>No
def KP(σ:bg)(elem:TypeId)(size:Nat):ag->Option (Option Nat×ag)
 | .bF (.slice No 0 0)=>U (No,.rs [])
 | .ms id _ 0 len=>match σ.bT id with
  |some (.row e a es)=>if len=es.length/\a=size/\e=elem then U (U id,.rs es)else No
  |_=>No
 | .ea id _ i=>match σ.bT id with
  |some (.f' e a j)=>if j=i/\a=size/\e=elem then U (U id,.ek j)else No
  |_=>No
 |_=>No
def Gb(σ:bg):ag->Option ag
 | .bF (.slice No 0 0)=>U (.rs [])
 | .ek i=>U (.ek i)
 | .rs es=>U (.rs es)
 | .ms id _ off len=>match σ.bT id with
  |some (.row _ _ es)=>if off+len<=es.length then U (.rs ((es.drop off).take len))else No
  |_=>No
 | .ea id _ i=>match σ.bT id with
  |some (.f' _ _ j)=>if j=i then U (.ek j)else No
  |_=>No
 |_=>No
def aw4:ag->Bool
 | .ek _=>IN
 | .rs _=>IN
 |_=>IS
def Oq(T:dd)(σ:bg)(id:Nat)(sT xT:TypeId)(a c:ag)(bb:Nat):Option (ml×ag×ag×bg×Nat) :=
 match T sT with
 |some { fT:=.slice elem,.. }=>match T elem with
  |some b=>match KP σ elem b.size a,Gb σ c with
   |some (d,x),U y=>U (.cat sT xT x y,.ek bb,.ea id b.size bb,(match d with|some i=>σ.del i|none=>σ).set id (.f' elem b.size bb),bb+1)
   |_,_=>No
  |none=>No
 |_=>No
def Ot(T:dd)(σ:bg)(id:Nat)(sT:TypeId)(a c:ag)(bb:Nat):Option (ml×ag×ag×bg×Nat) :=
 match T sT with
 |some { fT:=.slice elem,.. }=>match T elem with
  |some b=>match a with
   | .bF (.slice No 0 0)=>U (.BM sT c,.ek bb,.ea id b.size bb,σ.set id (.f' elem b.size bb),bb+1)
   |_=>No
  |none=>No
 |_=>No
def OB(σ:bg)(i:Nat)(c:ag):Option ag:=match aw4 c with
 |true=>U c
 |false=>match c with
  | .ms i2 z o l=>match aB i2 i with
   |true=>No
   |false=>Gb σ (.ms i2 z o l)
  |_=>No
def KZ(T:dd)(σ:bg)(id:Nat)(sT xT:TypeId)(a c:ag)(bb:Nat):Option (ml×ag×ag×bg×Nat) :=
 match T sT with
 |some { fT:=.slice elem,.. }=>match T elem with
  |some b=>match a with
   | .ms i _ 0 0=>match σ.bT i with
    |some (.f' e d _)=>match aB d b.size&&aB e elem,OB σ i c with
     |true,U y=>U (.cat sT xT (.rs []) y,.ek bb,.ea id b.size bb,(σ.del i).set id (.f' elem b.size bb),bb+1)
     |_,_=>No
    |_=>No
   |_=>No
  |none=>No
 |_=>No
def O8(T:dd)(σ:bg)(id:Nat)(b:Builtin)(ts:List TypeId)(args:List ag)(bb:Nat):Option (ml×ag×ag×bg×Nat) :=
 match b,ts,args with
 | .len,[t],[.ek i]=>U (.len t (.ek i),.ek bb,.ek bb,σ,bb+1)
 | .len,[t],[.ea _ _ i]=>match T t with
  |some { fT:=.slice _,.. }=>U (.len t (.ek i),.ek bb,.ek bb,σ,bb+1)
  |_=>No
 | .max,_,l=>U (.pX l,.ek bb,.ek bb,σ,bb+1)
 | .min,_,l=>U (.Bk l,.ek bb,.ek bb,σ,bb+1)
 | .append,[s,x],[a,c]=>match T x with
  |some { fT:=.int _,.. }=>Ot T σ id s a c bb
  |_=>match KZ T σ id s x a c bb with
   |some q=>U q
   |none=>Oq T σ id s x a c bb
 | .len,[t],[.xs _ _ _ l]=>match T t with
  |some { fT:=.slice _,.. }=>U (.Bm l,.bF (.bool IN),l,σ,bb)
  |_=>No
 | .clear,[t],[.xs id z o l]=>match σ.bT id with
  |some (.f' e d j)=>match aB z d with
   |true=>U (.cut t e z (.ek j) o l,.ek bb,.bF (.tuple #[]),σ.set id (.f' e z bb),bb+1)
   |false=>No
  |_=>No
 | .len,[t],[.lX m]=>match(σ.bT m).bind E9 with
  |some c=>U (.Bj t c,.ek bb,.ek bb,σ,bb+1)
  |none=>No
 |_,_,_=>No
def HT(σ:bg)(t:TypeId)(m k x:ag)(bb:Nat):Option (ml×ag×ag×bg×Nat) :=
 match m with
 | .lX id=>match(σ.bT id).bind E9 with
  |some c=>U (.pW t c k x,.ek bb,.bF undef,σ.set id (.mS (.ek bb)),bb+1)
  |none=>No
 |_=>No
def xZ:ag->Option (Nat×ag×Nat)
 | .oN id k off=>U (id,.ek k,off)
 | .mp id i off=>U (id,.bF (.int .i64 i),off)
 |_=>No
def aw1(a:Operand->ag):Op->Bool
 | .load _ x=>(uX (a x)).isSome
 |_=>IS
def GU(T:dd)(a:Operand->ag)(σ:bg)(id:Nat)(op:Op):Option (ag×bg):=match aw1 a op with
 |true=>No
 |false=>j5 T a σ id op
def W4{T:dd}{a:Operand->ag}{σ:bg}{id:Nat}{op:Op}{r:ag×bg}(h:GU T a σ id op=U r):j5 T a σ id op=U r:=by grind[GU]
def Kx(T:dd)(h:Operand->ag)(σ:bg)(id:Nat)(op:Op)(bb:Nat):Option (ml×ag×ag×bg×Nat) :=
 match op with
 | .binOp o t x y _=>U (.bin o t (h x) (h y),.ek bb,.ek bb,σ,bb+1)
 | .unOp o _ x=>U (.un o (h x),.ek bb,.ek bb,σ,bb+1)
 | .convert s d x=>U (.conv s d (h x),.ek bb,.ek bb,σ,bb+1)
 | .pick c a b=>U (.pick (h c) (h a) (h b),.ek bb,.ek bb,σ,bb+1)
 | .nilCheck x=>match h x with
  | .oN id k off=>U (.zr,.bF (.bool IN),.oN id k off,σ,bb)
  | .ek i=>U (.A7 (.ek i),.bF (.bool IN),.ek i,σ,bb)
  |_=>No
 | .fieldAddr t x f=>match h x,T t with
  | .oN id k off,U { fT:=.struct fields,.. }=>match fields[f]? with
   |some fd=>match T fd.type with
    |some C=>match aB C.size 0 with
     |true=>No
     |false=>U (.zr,.bF (.bool IN),.oN id k (off+fd.offset),σ,bb)
    |none=>No
   |none=>No
  | .ek i,U ti=>match wx T t (.h8 (yR bb ti.size)) f with
   |some v=>U (.zu ti.size (.ek i),.h8 (yR bb ti.size),v,σ,bb+ti.size)
   |none=>No
  |_,_=>No
 | .load t x=>match uX (h x)with
  |some g=>(match zM T t bb with
   |some (p,r)=>U (.A5 t g,p,p,σ,r)
   |none=>No)
  |none=>match xZ (h x)with
  |some (id,i,off)=>match σ.bT id,zM T t bb with
   |some (.f' e z j),U (p,r)=>U (.xl t e z (.ek j) i off,p,p,σ,r)
   |some (.nD e z c cc k u v),U (p,r)=>match T t with
    |some ti=>match ti.isAgg with
     |true=>No
     |false=>match aB off u with
      |true=>match v,Dd i k with
       |some v0,IN=>U (.zG c i off,.bF (.bool IN),v0,σ,bb)
       |_,_=>No
      |false=>match cc.all (λq=>!Nat.beq q.1 off)with
       |true=>U (.xl t e z c i off,p,p,σ,r)
       |false=>No
    |none=>No
   |_,_=>No
  |none=>match h x,T t with
   | .ek i,U ti=>match o8 T bg.none t (.h8 (yR bb ti.size))with
    |some v=>U (.zu ti.size (.ek i),.h8 (yR bb ti.size),v,σ,bb+ti.size)
    |none=>No
   |_,_=>No
 | .store t a x=>match xZ (h a),T t,h x with
  |some (id,i,off),U ti,.ea m D j=>match σ.bT id with
   |some (.nD e z c cc k u (U _))=>match aB ti.size 1&&aB off u&&Dd i k with
    |true=>U (.zG c i off,.bF (.bool IN),.bF undef,σ.set id (.nD e z c cc k u (U (.ea m D j))),bb)
    |false=>No
   |_=>No
  |_,_,_=>No
 | .indexAddr t x i=>match T t with
  |some { fT:=.slice elem,.. }=>match T elem with
   |some w=>match h x with
    | .ea id z j=>match aB z w.size with
     |true=>match h i with
      | .ek k=>U (.zb t (.ek j) (.ek k),.bF (.bool IN),.oN id k 0,σ,bb)
      | .bF (.int E n)=>U (.zb t (.ek j) (.bF (.int E n)),.bF (.bool IN),.mp id n.toNat 0,σ,bb)
      |_=>No
     |false=>No
    | .xs id z o l=>match aB z w.size with
     |true=>U (.A9 t o l (h i),.ek bb,.oN id bb 0,σ,bb+1)
     |false=>No
    |_=>U (.idx t (h x) (h i),.h8 (yR bb w.size),.h8 (yR bb w.size),σ,bb+w.size)
   |none=>No
  |_=>No
 | .index t x i=>match T t with
  |some { fT:=.array _ e,.. }=>match zM T e bb with
   |some (p,r)=>U (.index t (h x) (h i),p,p,σ,r)
   |none=>No
  |_=>U (.index t (h x) (h i),.ek bb,.ek bb,σ,bb+1)
 | .slice t x b5 a7 No=>match T t,h x,b5.map h,a7.map h with
  |some { fT:=.slice elem,.. },.ea id z _,No,U (.bF (.int _ 0))=>match T elem with
   |some w=>match aB z w.size with
    |true=>U (.zr,.bF (.bool IN),.ms id z 0 0,σ,bb)
    |false=>No
   |none=>No
  |some { fT:=.slice _,.. },.ea id z j,U G,No=>U (.tail t z (.ek j) G,.fe [.ek bb,.ek (bb+1)],.xs id z (.ek bb) (.ek (bb+1)),σ,bb+2)
  |some { fT:=.slice _,.. },.ea _ _ _,No,U _=>No
  |_,_,_,_=>U (.BF t (h x) (b5.map h) (a7.map h),.ek bb,.ek bb,σ,bb+1)
 | .makeSlice t n c=>match AR (h n) (h c),T t with
  |true,U { fT:=.slice elem,.. }=>match T elem with
   |some w=>U (.Bi t (h n),.ek bb,.ea id w.size bb,σ.set id (.f' elem w.size bb),bb+1)
   |none=>No
  |_,_=>No
 | .call { callee:=.builtin b,args,argTypes }=>O8 T σ id b argTypes.toList (args.toList.map h) bb
 | .lookup t x i ok=>match T t,h x with
  |some { fT:=.map _ B,.. },.lX m=>match(σ.bT m).bind E9 with
   |some c=>match zM T B bb with
    |some (p,r)=>match ok with
     |true=>U (.look t c (h i) IN,.fe [p,.ek r],.fe [p,.ek r],σ,r+1)
     |false=>U (.look t c (h i) IS,p,p,σ,r)
    |none=>No
   |none=>No
  |some { fT:=.map _ B,.. },.ek m=>match zM T B bb with
   |some (p,r)=>match ok with
    |true=>U (.w6 t (.ek m) (h i) IN,.fe [p,.ek r],.fe [p,.ek r],σ,r+1)
    |false=>U (.w6 t (.ek m) (h i) IS,p,p,σ,r)
   |none=>No
  |some { fT:=.map _ B,.. },.mx c=>match zM T B bb with
   |some (p,r)=>match ok with
    |true=>U (.w6 t (.mx c) (h i) IN,.fe [p,.ek r],.fe [p,.ek r],σ,r+1)
    |false=>U (.w6 t (.mx c) (h i) IS,p,p,σ,r)
   |none=>No
  |_,_=>No
 | .mapUpdate t m k x=>HT σ t (h m) (h k) (h x) bb
 | .insert t m k x=>HT σ t (h m) (h k) (h x) bb
 |_=>No
mutual
def ag.qU:ag->Bool
 | .bF _=>IN
 | .ek _=>IN
 | .rs es=>Gh es
 | .h8 cs=>r9 cs
 | .mx c=>c.qU
 | .fn _ a c=>r9 a&&r9 c
 | .agg cs=>r9 cs
 | .fe cs=>r9 cs
 |_=>IS
def r9:List ag->Bool
 | []=>IN
 |c::cs=>c.qU&&r9 cs
def Gh:List (List ag)->Bool
 | []=>IN
 |c::cs=>r9 c&&Gh cs
end
def pI(σ:bg):Nat->ag->Option ag
 | 0,_=>No
 |k+1,v=>match v.qU with
  |true=>U v
  |false=>match v with
   | .agg cs=>match tQ (pI σ k) cs with
    |some l=>U (.agg l)
    |none=>No
   | .fe cs=>match tQ (pI σ k) cs with
    |some l=>U (.fe l)
    |none=>No
   | .ms id _ off len=>match σ.bT id with
    |some (.row _ _ es)=>if off+len<=es.length then
      match Fm (pI σ k) ((es.drop off).take len)with
      |some l=>U (.rs l)
      |none=>No else No
    |_=>No
   | .ea id _ i=>match σ.bT id with
    |some (.f' _ _ j)=>if j=i then U (.ek j)else No
    |_=>No
   | .mp id 0 0=>match σ.bT id with
    |some (.row _ _ [cs])=>match tQ (pI σ k) cs with
     |some l=>U (.h8 l)
     |none=>No
    |_=>No
   | .lX id=>match σ.bT id with
    |some (.mS (.ek j))=>U (.mx (.ek j))
    |some (.map IS [] 0)=>U (.mx (.rs []))
    |_=>No
   | .fn f a c=>match tQ (pI σ k) a,tQ (pI σ k) c with
    |some b,U c'=>U (.fn f b c')
    |_,_=>No
   |_=>No
mutual
def ag.Iq:ag->Bool
 | .bF (.slice No 0 0)=>IS
 | .agg cs=>CW cs
 | .rs es=>Tw es
 |_=>IN
def CW:List ag->Bool
 | []=>IN
 |c::cs=>c.Iq&&CW cs
def Tw:List (List ag)->Bool
 | []=>IN
 |c::cs=>CW c&&Tw cs
end
def Og(σ:bg)(args:List ag):Option (List ag×Bool) :=
 match r9 args&&CW args with
 |true=>U (args,IS)
 |false=>match tQ (pI σ 50) args with
  |some l=>U (xY l,IN)
  |none=>No
def nk(σ:bg)(id:Nat)(o:b7):bg:=({ σ with mv:=.leaf }:bg).set id o
mutual
def ag.ny(σ1:bg):ag->ag
 | .agg cs=>.agg (rf σ1 cs)
 | .fe cs=>.fe (rf σ1 cs)
 | .fn f a c=>.fn f (rf σ1 a) (rf σ1 c)
 | .ea a z i=>(pI σ1 3 (.ea a z i)).getD (.ea a z i)
 | .ms a z i j=>(pI σ1 3 (.ms a z i j)).getD (.ms a z i j)
 | .mp a i j=>(pI σ1 3 (.mp a i j)).getD (.mp a i j)
 |v=>v
def rf(σ1:bg):List ag->List ag
 | []=>[]
 |c::cs=>c.ny σ1::rf σ1 cs
end
def b7.ny(σ1:bg):b7->b7
 | .row e z es=>.row e z (es.map (rf σ1))
 |o=>o
def AS.ny(σ1:bg)(id:Nat)(s:AS):AS:={ n:=s.n,mv:=s.mv.map (ag.ny σ1),st:={ next:=s.st.next,mv:=(s.st.del id).mv.map (b7.ny σ1),low:=(s.st.del id).low } }
def w4(s:AS):ag->Option Nat
 | .ea a z i=>match s.st.bT a with
  |some o=>match pI (nk s.st a o) 3 (.ea a z i)with
   |some _=>U a
   |none=>No
  |none=>No
 | .ms a z 0 n=>match s.st.bT a with
  |some o=>match pI (nk s.st a o) 3 (.ms a z 0 n)with
   |some _=>U a
   |none=>No
  |none=>No
 | .mp a 0 0=>match s.st.bT a with
  |some o=>match pI (nk s.st a o) 3 (.mp a 0 0)with
   |some _=>U a
   |none=>No
  |none=>No
 |_=>No
def HK(s:AS):List ag->Option Nat
 | []=>No
 |v::l=>match w4 s v with
  |some a=>U a
  |none=>HK s l
def bd7(T:dd)(t:TypeId):Bool:=match T t with
 |some { fT:=.slice el,.. }=>match T el with
  |some a=>a.zeroCells.all λv=>match v with
   | .bF (.pointer _)=>IS
   |_=>IN
  |none=>IS
 |_=>IS
def RC(T:dd)(s:AS)(op:Op):Option (Nat×b7):=match(match op with
  | .call { callee:=.builtin .append,args:=⟨[_,c]⟩,argTypes:=_ }=>match s.eval c with
   | .ms id _ _ _=>match s.st.bT id with
    |some (.row _ _ es)=>HK s es.flatten
    |_=>No
   |_=>No
  | .mapUpdate _ _ _ x=>w4 s (s.eval x)
  | .convert _ d x=>match T d with
   |some { fT:=.string,.. }=>w4 s (s.eval x)
   |_=>No
  | .store _ a x=>match xZ (s.eval a)with
   |some (id,_,_)=>match s.st.bT id with
    |some (.f' ..)=>w4 s (s.eval x)
    |_=>No
   |none=>No
  | .insert _ _ _ x=>w4 s (s.eval x)
  | .slice t x b5 a7 No=>match(match b5,a7.map s.eval with
    |none,U (.bF (.int _ 0))=>IN
    |some _,No=>bd7 T t
    |_,_=>IS)with
   |true=>No
   |false=>match s.eval x with
    | .ea a z i=>w4 s (.ea a z i)
    |_=>No
  |_=>No)with
 |some a=>match s.st.bT a with
  |some o=>U (a,o)
  |none=>No
 |none=>No
structure Hint where
 k:Nat
 th:List ag
 bT:List (Nat×b7)
 next:Nat
def Hint.state(h:Hint):AS:=AS.enter h.th.length h.th { next:=h.next,mv:=fb.ofList h.bT .leaf,low:=0 }
def pg(l:Nat)(hi:List ag)(i:Nat):ag:=match dx l i with
 |true=>(hi[i-l]?).getD (.ek i)
 |false=>.ek i
def Dr:List (Nat×Option Nat)->Nat->Option (Option Nat)
 | [],_=>No
 | (a,b)::l,i=>match aB a i with
  |true=>U b
  |false=>Dr l i
def CO(n:Nat)(l:List (Nat×Option Nat)):pM:=λi=>match cD i n with
 |true=>U (U i)
 |false=>Dr l i
structure Acc where
 hi:List (Nat×ag)
 io:List (Nat×Option Nat)
def Acc.wG(a:Acc)(j:Nat)(v:ag):Acc:=match a.hi.any (λp=>aB p.1 j)with
 |true=>a
 |false=>{ a with hi:=(j,v)::a.hi }
def Acc.pr(a:Acc)(i:Nat)(k:Option Nat):Acc:=match a.io.any (λp=>aB p.1 i)with
 |true=>a
 |false=>{ a with io:=(i,k)::a.io }
mutual
def BI(σ:bg)(l:Nat)(acc:Acc):ag->ag->Acc
 | .ek j,b=>match dx l j with
  |true=>acc.wG j b
  |false=>acc
 | .ea id _ j,.ea id' _ d=>(acc.pr id (U id')).wG j (.ek d)
 | .ea id _ j,.ms id' _ _ _=>match σ.bT id' with
  |some (.row _ _ es)=>(acc.pr id (U id')).wG j (.rs es)
  |some (.f' ..)=>(acc.pr id (U id')).wG j (.rs [])
  |_=>acc
 | .ea id _ j,.bF _=>(acc.pr id No).wG j (.rs [])
 | .mp id _ _,.mp id' _ _=>acc.pr id (U id')
 | .ms id _ _ _,.ms id' _ _ _=>acc.pr id (U id')
 | .lX id,.lX id'=>acc.pr id (U id')
 | .oN id k _,.oN id' e _=>(acc.pr id (U id')).wG k (.ek e)
 | .xs id _ o m,.xs id' _ o' f=>BI σ l (BI σ l (acc.pr id (U id')) o o') m f
 | .it id,.it id'=>acc.pr id (U id')
 | .agg a,.agg b=>zF σ l acc a b
 | .fe a,.fe b=>zF σ l acc a b
 | .h8 a,.h8 b=>zF σ l acc a b
 | .mx a,.mx b=>BI σ l acc a b
 | .fn _ a c,.fn _ g c'=>zF σ l (zF σ l acc a g) c c'
 |_,_=>acc
def zF(σ:bg)(l:Nat)(acc:Acc):List ag->List ag->Acc
 |a::az,b::bs=>zF σ l (BI σ l acc a b) az bs
 |_,_=>acc
end
def WN(σ:bg)(l:Nat)(acc:Acc):List (List ag)->List (List ag)->Acc
 |a::az,b::bs=>WN σ l (zF σ l acc a b) az bs
 |_,_=>acc
def bh6(σ:bg)(l:Nat)(acc:Acc):b7->b7->Acc
 | .row _ _ es,.row _ _ a=>WN σ l acc es a
 | .f' _ _ j,.f' _ _ b=>acc.wG j (.ek b)
 | .f' _ _ j,.row _ _ es=>acc.wG j (.rs es)
 | .map _ es _,.map _ a _=>zF σ l acc (es.map (·.2.1)) (a.map (·.2.1))
 | .mS (.ek j),.mS c=>acc.wG j c
 | .pO s p,.pO s' d=>BI σ l (BI σ l acc s s') p d
 | .mS (.ek j),.map _ [] _=>acc.wG j (.rs [])
 |_,_=>acc
def W_(s:AS)(l:Nat):List ag->Nat->Acc->Acc
 | [],_,acc=>acc
 |a::az,t,acc=>W_ s l az (t+1) (BI s.st l acc a (s.get t))
def FH(s:AS)(n l:Nat):List (Nat×b7)->Acc->Acc
 | [],acc=>acc
 | (i,o)::os,acc=>match CO n acc.io i with
  |some (U k)=>match s.st.bT k with
   |some o'=>FH s n l os (bh6 s.st l acc o o')
   |none=>FH s n l os acc
  |_=>FH s n l os acc
def RT(s:AS)(n l:Nat)(h:Hint):Acc:=FH s n l h.bT (FH s n l h.bT (W_ s l h.th 0 ⟨[],[]⟩))
def vH(a:Acc)(l:Nat):Nat->List ag
 | 0=>[]
 |k+1=>((a.hi.find? (λp=>aB p.1 l)).map (·.2)).getD (.bF (.bool IS))::vH a (l+1) k
def Ho:ag->Bool
 | .bF (.int _ _)=>IN
 | .bF (.bool _)=>IN
 | .bF (.string _)=>IN
 | .ek _=>IN
 | .rs es=>Gh es
 | .h8 cs=>r9 cs
 | .mx c=>c.qU
 |_=>IS
def Dz:List (Nat×TypeId×Nat)->List (Nat×TypeId×Nat)->Bool
 | [],[]=>IN
 |a::az,b::bs=>aB a.1 b.1&&aB a.2.1 b.2.1&&aB a.2.2 b.2.2&&Dz az bs
 |_,_=>IS
def qn(b5:Bool)(ι:pM):b7->b7->Bool
 | .row e z es,.row b d a=>aB e b&&aB z d&&zS ι es a
 | .f' e z i,.f' b d h=>aB e b&&aB z d&&aB i h
 | .row e z [],.f' b d _=>aB e b&&aB z d
 | .map agg es c,.map g a c'=>(agg==g)&&aB c c'&&aB es.length a.length&&(es.zip a).all λp=>IT (p.1.1=p.2.1)&&nT ι p.1.2.1 p.2.2.1&&aB p.1.2.2 p.2.2.2
 | .mS c,.mS c'=>match c,c' with
  | .ek i,.ek j=>aB i j
  | .rs [],.rs []=>IN
  |_,_=>IS
 | .mS (.rs []),.map IS [] c=>aB c 0
 | .pO s p,.pO s' k=>AR s s'&&AR p k
 | .nD e z c cc _ _ No,.nD b d c' f _ _ No=>b5&&aB e b&&aB z d&&Dd c c'&&Dz cc f
 |_,_=>IS
def UJ:b7->Bool
 | .row _ _ []=>IN
 |_=>IS
def PB(b5:Bool)(ι:pM)(s:AS)(i:Nat)(o:b7):Bool:=match ι i with
 |some (U k)=>match s.st.bT k with
  |some o'=>qn b5 ι o o'
  |none=>IS
 |some No=>UJ o
 |none=>IS
def HL(ι:pM)(b:Nat->ag)(s:AS):List ag->Nat->Bool
 | [],_=>IN
 |a::az,t=>nT ι (a.me b) (s.get t)&&HL ι b s az (t+1)
def HJ(ι:pM):List (Nat×b7)->Bool
 | []=>IN
 | (i,_)::os=>os.all (λp=>aB p.1 i||(match ι i with|some (U k)=>!vr ι p.1 k|_=>IN))&&HJ ι os
def AK(n l:Nat)(h:Hint)(s:AS):Option (List ag) :=
 let acc:=RT s n l h
 let hi:=vH acc l h.k
 let a:=pg l hi
 let io:=acc.io.filter (λp=>dx n p.1)
 let ι:=CO n io
 match hi.all Ho&&aB h.th.length s.n&&dx n h.next&&io.all (λp=>dx n p.1&&cD p.1 h.next)&&HL ι a s h.th 0&&h.bT.all (λp=>PB (dx mg n) ι s p.1 (p.2.me a))&&HJ ι h.bT with
 |true=>U hi
 |false=>No
mutual
def ag.mU(id j bb:Nat):ag->ag
 | .ea a z i=>match aB a id&&aB i j with
  |true=>.ea a z bb
  |false=>.ea a z i
 | .rs es=>.rs (Gi id j bb es)
 | .h8 cs=>.h8 (xW id j bb cs)
 | .fn f a c=>.fn f (xW id j bb a) (xW id j bb c)
 | .agg cs=>.agg (xW id j bb cs)
 | .fe cs=>.fe (xW id j bb cs)
 |v=>v
def xW(id j bb:Nat):List ag->List ag
 | []=>[]
 |c::cs=>c.mU id j bb::xW id j bb cs
def Gi(id j bb:Nat):List (List ag)->List (List ag)
 | []=>[]
 |c::cs=>xW id j bb c::Gi id j bb cs
end
def b7.mU(id j bb:Nat):b7->b7
 | .row e z es=>.row e z (Gi id j bb es)
 | .map agg es c=>.map agg (es.map λe=>(e.1,e.2.1.mU id j bb,e.2.2)) c
 |o=>o
def AS.mU(id j bb:Nat)(s:AS):AS:={ n:=s.n,mv:=s.mv.map (ag.mU id j bb),st:={ next:=s.st.next,mv:=s.st.mv.map (b7.mU id j bb),low:=s.st.low } }
def O_(s:AS)(op:Op)(bb:Nat):Option (ml×ag×AS) :=
 match op with
 | .store t a x=>match xZ (s.eval a)with
  |some (id,i,off)=>match s.st.bT id with
   |some (.f' e z j)=>U (.vd t e z (.ek j) i off (s.eval x),.bF undef,{ s.mU id j bb with st:=(s.mU id j bb).st.set id (.f' e z bb) })
   |_=>No
  |none=>No
 | .slice t x No (U a7) No=>match s.eval x with
  | .ea id z j=>match s.st.bT id with
   |some (.f' _ _ b)=>U (.BH t z (.ek j) (.ek b) (s.eval a7),.ea id z b,s)
   |_=>No
  |_=>No
 | .call { callee:=.builtin .copy,args,argTypes }=>match argTypes.toList,args.toList.map s.eval with
  | [t,_],[.ea id z j,y]=>match s.st.bT id,Gb s.st y with
   |some (.f' e d b),U c=>match aB z d&&aB j b with
    |true=>U (.AE t e z (.ek j) c,.any,{ s.mU id j bb with st:=(s.mU id j bb).st.set id (.f' e z bb) })
    |false=>No
   |_,_=>No
  |_,_=>No
 |_=>No
def Xm(s:AS)(b:Nat)(op:Op)(bb:Nat):Option (ml×AS) :=
 match op with
 | .store t a x=>match xZ (s.eval a)with
  |some (id,i,off)=>match aB id b,s.st.bT id with
   |false,U (.f' e z j)=>U (.vd t e z (.ek j) i off (s.eval x),{ s.mU id j bb with st:=(s.mU id j bb).st.set id (.f' e z bb) })
   |_,_=>No
  |none=>No
 |_=>No
def Wb(Φ:lb)(s:AS)(f:FuncId)(args:List ag)(bb:Nat):Option (List Nat×ml×AS) :=
 match Φ.Ki f with
 |none=>No
 |some _=>match args with
  | .ea id z j::rest=>match s.st.bT id with
   |some (.f' e b c)=>match aB z b&&aB j c,tQ (pI (s.st.del id) 50) rest with
    |true,U a=>U (pG (s.st.del id).mv,.call (p6+f) (.ek j::.bF (.int .i64 (z:Nat))::a) IS,{ s.mU id j bb with st:=(s.mU id j bb).st.set id (.f' e z bb) })
    |_,_=>No
   |_=>No
  |_=>No
def HX(ops:Array Oper)(s:AS)(o:Oper):Option (Nat×Bool) :=
 match o.guard with
 |none=>No
 |some (j,want)=>match(ops[j]?).bind (·.dst)with
  |some d=>match cD d s.n with
   |true=>match s.get d with
    | .ek i=>U (i,want)
    |_=>No
   |false=>No
  |none=>No
abbrev uK:=AS->Nat->mV
abbrev yy:=rP->AS->Nat->mV
abbrev tY:=Nat->Code->AS->Nat->yy->mV
section
variable (T:dd) (Φ:lb) (F:FuncId->Option Func)
def Wa(s:AS)(f:FuncId)(args:List ag)(bb:Nat):Option (ml×ag×AS) :=
 match Φ (yL+f)with
 |none=>No
 |some _=>match r9 args&&CW args with
  |true=>match F f with
   |some fn=>match fn.resultTypes.toList with
    | [t]=>match T t with
     |some { fT:=.slice elem,.. }=>match T elem with
      |some a=>U (.call (yL+f) args IS,.ea (s.st.next+5) a.size bb,{ s with st:={ s.st with next:=s.st.next+7 }.set (s.st.next+5) (.f' elem a.size bb) })
      |none=>No
     |_=>No
    |_=>No
   |none=>No
  |false=>No
def V_(ex:tY)(f:FuncId)(args:List ag)(dst:Option Tmp)(s:AS)(bb:Nat)(d:uK):mV :=
 match F f with
 |none=>.stuck
 |some fn=>match Φ.at f args with
  |some _=>match Us T fn.resultTypes.toList bb with
   |some (pat,b)=>match s.er bb&&dx bb b with
    |true=>match Og s.st args with
     |some (a,IN)=>.op (.rows (pG s.st.mv)) bb (.bF (.bool IN)) (.op (.call f a IN) bb pat (d (s.put dst pat) b))
     |some (a,IS)=>.op (.call f a IS) bb pat (d (s.put dst pat) b)
     |none=>.stuck
    |false=>.stuck
   |none=>.stuck
  |none=>match fn.body with
   |some c=>match dx args.length fn.ntmps&&!(fn.name== "runtime.NumGoroutine")&&s.er bb with
    |true=>ex s.st.next c (AS.enter fn.ntmps args s.st) bb λe s1 g=>match e with
     | .oz _=>.stuck
     |_=>match pQ T fn s1 with
      |some v=>d ({ s with st:=s1.st }.put dst v) g
      |none=>.stuck
    |false=>.stuck
   |none=>.stuck
def Pb(s:AS)(op:Op):Option (ml×ag):=match op with
 | .lookup t x i IS=>match T t,s.eval x with
  |some { fT:=.map _ b,.. },.ek m=>match T b with
   |some a=>match a.isAgg&&!CW a.zeroCells with
    |true=>U (.A6 t (.ek m) (s.eval i),a.qs)
    |false=>No
   |none=>No
  |_,_=>No
 |_=>No
def Kt(id:Nat)(o:Oper)(op:Op)(s:AS)(bb:Nat)(b:uK):mV:=match Kx T s.eval s.st id op bb with
 |some (ro,pat,v,σ',a)=>match s.er bb&&dx bb a with
  |true=>.op ro bb pat (b ({ s with st:=σ' }.put o.dst v) a)
  |false=>.stuck
 |none=>match O_ s op bb with
  |some (ro,v,s')=>match s.er bb with
   |true=>.op ro bb (.ek bb) (b (s'.put o.dst v) (bb+1))
   |false=>.stuck
  |none=>.stuck
def Kd(ex:tY)(id:Nat)(o:Oper)(s:AS)(bb:Nat)(a:uK):mV :=
 match o.op with
 | .call { callee:=.value b,args:=args,argTypes:=_ }=>
  match s.eval b with
  | .fn (.func f) first cap=>match Wb Φ s f (first++args.toList.map s.eval++cap) bb with
   |some (c,ro,s')=>match s.er bb with
    |true=>.op (.rows c) bb (.bF (.bool IN)) (.op ro bb (.ek bb) (a (s'.put o.dst (.fe [])) (bb+1)))
    |false=>.stuck
   |none=>match Wa T Φ F s f (first++args.toList.map s.eval++cap) bb with
    |some (ro,v,s')=>match s.er bb with
     |true=>.op ro bb (.ek bb) (a (s'.put o.dst v) (bb+1))
     |false=>.stuck
    |none=>V_ T Φ F ex f (first++args.toList.map s.eval++cap) o.dst s bb a
  |_=>.stuck
 |op=>match GU T s.eval s.st id op with
  |some (v,σ')=>a ({ s with st:=σ' }.put o.dst v) bb
  |none=>match Pb T s op with
   |some (ro,d)=>match s.er bb with
    |true=>.op ro bb (.ek bb) (.test bb (Kt T id o op s (bb+1) a) (a (s.put o.dst d) (bb+1)))
    |false=>.stuck
   |none=>Kt T id o op s bb a
def at5(T:dd)(t:TypeId):Bool:=match T t with
 |some ti=>ti.zeroCells.all λc=>match c with
  | .bF (.int _ _)=>IN
  | .bF (.bool _)=>IN
  | .bF (.string _)=>IN
  |_=>IS
 |none=>IS
def WZ(s:AS)(op:Op):Option (Nat×b7):=match RC T s op with
 |some p=>U p
 |none=>match op with
  | .call { callee:=.value b,args:=args,argTypes:=_ }=>match s.eval b with
   | .fn (.func f) first cap=>match Φ.Ki f,Φ (yL+f),Φ.fn f,F f with
    |none,No,U _,U fn=>match fn.resultTypes.toList.all (at5 T)with
     |true=>No
     |false=>match HK s (first++args.toList.map s.eval++cap)with
      |some a=>match s.st.bT a with
       |some o=>U (a,o)
       |none=>No
      |none=>No
    |none,U _,_,_=>match HK s (first++args.toList.map s.eval++cap)with
     |some a=>match s.st.bT a with
      |some o=>U (a,o)
      |none=>No
     |none=>No
    |_,_,_,_=>No
   |_=>No
  |_=>No
def F9(ex:tY)(ops:Array Oper)(id:Nat)(o:Oper)(bb:Nat)(b:uK):Nat->AS->mV
 | 0,s=>Kd T Φ F ex id o s bb b
 |m+1,s=>match WZ T Φ F s o.op with
  |some (a,x)=>match s.er bb with
   |true=>match oV ops (s.ny (nk s.st a x) a) o with
    |some IN=>.op (.rows (pG (nk s.st a x).mv)) bb (.bF (.bool IN)) (F9 ex ops id o bb b m (s.ny (nk s.st a x) a))
    |_=>.stuck
   |false=>.stuck
  |none=>Kd T Φ F ex id o s bb b
def F_(ex:tY)(ops:Array Oper)(id:Nat)(o:Oper)(bb:Nat)(b:uK)(s:AS):mV :=
 match o.op with
 | .range t x=>match T t with
  |some { fT:=.string,.. }=>match s.eval x with
   | .ek i=>match s.er bb with
    |true=>.op (.A8 (.ek i)) bb (.bF (.bool IN)) (b ({ s with st:=s.st.set id (.pO (.ek i) (.bF (.int .i64 0))) }.put o.dst (.it id)) bb)
    |false=>.stuck
   |_=>.stuck
  |_=>F9 T Φ F ex ops id o bb b 3 s
 | .next it IN=>match s.eval it with
  | .it a=>match s.st.bT a with
   |some (.pO st p)=>match s.er bb with
    |true=>.op (.more st p) bb (.ek bb) (.test bb
      (.op (.BD st p) (bb+1) (.fe [.ek (bb+1),.ek (bb+2),.ek (bb+3)]) (b ({ s with st:=s.st.set a (.pO st (.ek (bb+3))) }.put o.dst (.fe [.bF (.bool IN),.ek (bb+1),.ek (bb+2)])) (bb+4)))
      (b (s.put o.dst (.fe [.bF (.bool IS)])) (bb+1)))
    |false=>.stuck
   |_=>.stuck
  |_=>.stuck
 |_=>F9 T Φ F ex ops id o bb b 3 s
def v_(ex:tY)(ops:Array Oper)(n0:Nat):List Oper->Nat->AS->Nat->uK->mV
 | [],_,s,bb,k=>k s bb
 |o::rest,i,s,bb,k=>
  match oJ s.n o.dst with
  |false=>.stuck
  |true=>match oV ops s o with
   |some IN=>F_ T Φ F ex ops (n0+i) o bb (λs' a=>v_ ex ops n0 rest (i+1) s' a k) s
   |some IS=>v_ ex ops n0 rest (i+1) (s.put o.dst (.bF undef)) bb k
   |none=>match HX ops s o with
    |some (j,want)=>
     let go:=λb:Bool=>match b==want with
      |true=>F_ T Φ F ex ops (n0+i) o bb (λs' a=>v_ ex ops n0 rest (i+1) s' a k) (s.me (p9 j b))
      |false=>v_ ex ops n0 rest (i+1) ((s.me (p9 j b)).put o.dst (.bF undef)) bb k
     .test j (go IN) (go IS)
    |none=>.stuck
abbrev K':=AS->Nat->qQ->mV
def E'(σ:bg)(ids:List Nat):bg:={ tB (saved σ ids) { rB (saved σ ids) σ with low:=σ.next }with low:=min σ.low σ.next }
def PD(pE:Bool)(ids:List Nat)(f:FuncId)(args:List ag)(dst:Option Tmp)(s:AS)(bb:Nat)(b:K'):mV :=
 match F f,Φ.fn f with
 |some fn,U _=>match Us T fn.resultTypes.toList bb with
  |some (pat,a)=>match s.er bb&&dx bb a&&r9 args with
   |true=>.op (.call f args IS) bb pat (match pE with
    |true=>b (s.put dst pat) a ⟨[],[],IS,0,IN⟩
    |false=>b ({ s with st:=E' s.st ids }.put dst pat) a ⟨[],[],IN,s.st.next,IS⟩)
   |false=>.stuck
  |none=>.stuck
 |_,_=>.stuck
def Gq(n0 N mask i:Nat)(pE:Bool)(o:Oper)(s:AS)(bb:Nat)(b:K'):mV :=
 match o.op with
 | .call { callee:=.value c,args:=args,argTypes:=_ }=>
  match s.eval c with
  | .fn (.func f) first cap=>PD T Φ F pE (qE n0 N mask) f (first++args.toList.map s.eval++cap) o.dst s bb b
  |_=>.stuck
 |op=>match GU T s.eval (small s.st (nx s.eval op)) (n0+i) op with
  |some (v,σ1)=>b ({ s with st:=(match σ1.bT (n0+i)with
     |some x=>(if oS op then rv σ1 (nx s.eval op) s.st else s.st).set (n0+i) x
     |none=>(if oS op then rv σ1 (nx s.eval op) s.st else s.st)) }.put o.dst v) bb ⟨nx s.eval op,if oS op then nx s.eval op else [],IS,0,IS⟩
  |none=>match Kx T s.eval (small s.st (nx s.eval op)) (n0+i) op bb with
   |some (ro,pat,v,σ1,a)=>match s.er bb&&({ s with st:=small s.st (nx s.eval op) }:AS).er bb&&dx bb a with
    |true=>.op ro bb pat (b ({ s with st:=(match σ1.bT (n0+i)with
      |some x=>(if oS op then rv σ1 (nx s.eval op) s.st else s.st).set (n0+i) x
      |none=>(if oS op then rv σ1 (nx s.eval op) s.st else s.st)) }.put o.dst v) a ⟨nx s.eval op,if oS op then nx s.eval op else [],IS,0,IS⟩)
    |false=>.stuck
   |none=>match Xm s (n0+i) op bb with
    |some (ro,s')=>match s.er bb&&({ s with st:=small s.st (nx s.eval op) }:AS).er bb with
     |true=>.op ro bb (.ek bb) (b (s'.put o.dst (.bF undef)) (bb+1) ⟨nx s.eval op,nx s.eval op,IS,0,IS⟩)
     |false=>.stuck
    |none=>.stuck
def vP(ops:Array Oper)(n0 N:Nat)(a:List Nat):List Oper->Nat->AS->Nat->List qQ->(AS->Nat->List qQ->mV)->mV
 | [],_,s,bb,acc,k=>k s bb acc
 |o::rest,i,s,bb,acc,k=>
  match oJ s.n o.dst with
  |false=>.stuck
  |true=>match oV ops s o with
   |some IN=>Gq T Φ F n0 N (a.getD i 0) i (zd o.op&&Dg ops a i) o s bb λs' c f=>vP ops n0 N a rest (i+1) s' c (acc++[f]) k
   |some IS=>vP ops n0 N a rest (i+1) (s.put o.dst (.bF undef)) bb (acc++[⟨[],[],IS,0,IS⟩]) k
   |none=>match HX ops s o with
    |some (j,want)=>
     let go:=λb:Bool=>match b==want with
      |true=>Gq T Φ F n0 N (a.getD i 0) i (zd o.op&&Dg ops a i) o (s.me (p9 j b)) bb λs' c f=>vP ops n0 N a rest (i+1) s' c (acc++[f]) k
      |false=>vP ops n0 N a rest (i+1) ((s.me (p9 j b)).put o.dst (.bF undef)) bb (acc++[⟨[],[],IS,0,IS⟩]) k
     .test j (go IN) (go IS)
    |none=>.stuck
def aw3:Op->Bool
 | .store ..=>IN
 |_=>IS
def Fb:List Oper->List Oper->Option (List Oper×List Oper)
 |_,[]=>No
 |acc,o::l=>match Fb (acc++[o]) l with
  |some r=>U r
  |none=>match(zd o.op||aw3 o.op)&&xA acc (o::l)with
   |true=>U (acc,o::l)
   |false=>No
def af6(ops:Array Oper):Option (List Oper×List Oper):=Fb [] ops.toList
def Tf:∀ {l acc a b:List Oper},Fb acc l=U (a,b)->acc++l=a++b/\xA a b=IN
 | [],_,_,_,h=>by simp[Fb]at h
 |o::l,acc,a,b,h=>by
  unfold Fb at h;split at h
  next r c=>
   cases h;have:=Tf c;exact⟨by rw[<-this.1];simp,this.2⟩
  split at h
  next hc=>
   cases h;rw[ab]at hc;exact⟨rfl,hc.2⟩
  cases h
def AQ:Code->Nat
 | .region id _ _=>id
 | .seq a _=>AQ a
 | .block _ b=>AQ b
 | .loop b=>AQ b
 | .scope b=>AQ b
 | .cond _ a _=>AQ a
 |_=>0
def RD(s:AS):Nat->Nat
 | 0=>0
 |t+1=>(match s.get t with
  | .fn (.func g) _ _=>(g+1)*(t+1)
  | .bF (.int _ n)=>(n.toNat%64+7)*(t+1)
  | .bF (.bool b)=>(bif b then 3 else 5)*(t+1)
  |_=>0)+RD s t
def qJ(bb:Nat)(b:Code)(s:AS):Nat:=(bb*4096+AQ b)*65536+RD s s.n%65536
variable (H:Nat->Option Hint)
def Oi(ex:tY)(n:Nat)(b:Code)(k:yy):Nat->AS->Nat->mV
 | 0,_,_=>.stuck
 |j+1,s,bb=>ex n b s bb λe s' a=>match e with
  | .nr=>Oi ex n b k j s' a
  |e=>k e s' a
def RH(s:AS):ag->ag->Option Nat
 | .h8 _,.mp i 0 0=>w4 s (.mp i 0 0)
 | .ek _,.mp i 0 0=>w4 s (.mp i 0 0)
 | .ek _,.ea i z j=>w4 s (.ea i z j)
 | .ek _,.ms i z 0 n=>w4 s (.ms i z 0 n)
 |_,_=>No
def Md(s:AS):List ag->List ag->Option Nat
 |a::az,c::cs=>match RH s a c with
  |some i=>U i
  |none=>Md s az cs
 |_,_=>No
def CF(s:AS):List ag->Nat->Option (Nat×b7)
 | [],_=>No
 |a::az,t=>match(match a,s.get t with
   | .agg xs,.agg cs=>Md s xs cs
   |x,v=>RH s x v)with
  |some i=>match s.st.bT i with
   |some o=>U (i,o)
   |none=>CF s az (t+1)
  |none=>CF s az (t+1)
def CG(s:AS):List (Nat×b7)->Option (Nat×b7)
 | []=>No
 | (i,o)::l=>match(match o,s.st.bT i with
   | .row _ _ [cs],U (.row _ _ [b])=>Md s cs b
   |_,_=>No)with
  |some a=>match s.st.bT a with
   |some x=>U (a,x)
   |none=>CG s l
  |none=>CG s l
def Yb(s:AS)(h:Hint):Option (Nat×b7):=match CF s h.th 0 with
 |some p=>U p
 |none=>CG s h.bT
def Ke(h:Hint)(bb:Nat)(k:AS->mV):Nat->AS->mV
 | 0,s=>k s
 |m+1,s=>match Yb s h with
  |some (a,x)=>match s.er bb with
   |true=>.op (.rows (pG (nk s.st a x).mv)) bb (.bF (.bool IN)) (Ke h bb k m (s.ny (nk s.st a x) a))
   |false=>.stuck
  |none=>k s
def aw7(bb:Nat)(b:Code):Nat:=1152921504606846976+bb*4096+AQ b
def E_(h:Hint)(s:AS):Hint:={ h with th:=h.th.take s.n }
def zP(h:Hint)(s:AS):List ag:=h.th.drop s.n
def exec:Nat->tY
 | 0,_,_,_,_,_=>.stuck
 |m+1,n,c,s,bb,k=>
  match c with
  | .skip=>k .nr s bb
  | .label _=>k .nr s bb
  | .region _ ops IS=>v_ T Φ F (exec m) ops s.st.next ops.toList 0 { s with st:={ s.st with next:=s.st.next+ops.size } } bb λs' d=>k .nr s' d
  | .region _ ops IN=>match af6 ops with
   |some (l0,t)=>match FI ⟨l0⟩ (ox l0 [])with
    |true=>vP T Φ F ⟨l0⟩ s.st.next l0.length (ox l0 []) l0 0 { s with st:={ s.st with next:=s.st.next+l0.length } } bb [] λs' d fs=>
      match(AL ⟨l0⟩ (ox l0 [])).all (λp=>zg s.st.next p.1 p.2 (fs.getD p.1 ⟨[],[],IS,0,IS⟩) (fs.getD p.2 ⟨[],[],IS,0,IS⟩))with
      |true=>v_ T Φ F (exec m) ops s'.st.next t l0.length { s' with st:={ s'.st with next:=s'.st.next+(l0++t).length } } d λs2 f=>k .nr s2 f
      |false=>.stuck
    |false=>.stuck
   |none=>match FI ops (ox ops.toList [])with
   |true=>vP T Φ F ops s.st.next ops.size (ox ops.toList []) ops.toList 0 { s with st:={ s.st with next:=s.st.next+ops.size } } bb [] λs' d fs=>
     match(AL ops (ox ops.toList [])).all (λp=>zg s.st.next p.1 p.2 (fs.getD p.1 ⟨[],[],IS,0,IS⟩) (fs.getD p.2 ⟨[],[],IS,0,IS⟩))with
     |true=>k .nr s' d
     |false=>.stuck
   |false=>.stuck
  | .seq a b=>match H (aw7 bb b)with
   |some h=>match s.er bb&&(E_ h s).state.er (bb+h.k)&&(aB (zP h s).length h.k&&(zP h s).all Ho&&qI bb (zP h s))with
    |true=>.loop bb (h.k+1) (zP h s++[.bF (.bool IS)]) (.test (bb+h.k)
      (exec m n b (E_ h s).state (bb+h.k+2) k)
      (exec m n a s (bb+h.k+2) λe s' d=>match e with
       | .nr=>match AK n bb (E_ h s) s' with
        |some hi=>.again bb (hi++[.bF (.bool IN)])
        |none=>.stuck
       |e=>k e s' d))
    |false=>.stuck
   |none=>exec m n a s bb λe s' d=>match e with
    | .nr=>exec m n b s' d k
    |e=>k e s' d
  | .cond x a b=>match s.eval x with
   | .bF (.bool t)=>exec m n (if t then a else b) s bb k
   | .ek i=>.test i (exec m n a (s.me (p9 i IN)) bb k) (exec m n b (s.me (p9 i IS)) bb k)
   |_=>.stuck
  | .block id b=>exec m n b s bb λe s' d=>match e with
   | .oz j=>k (if j=id then .nr else .oz j) s' d
   |e=>k e s' d
  | .loop b=>match H (qJ bb b s)with
   |some h=>Ke h bb (λs=>match AK n bb h s,h.state.er (bb+h.k)with
    |some inits,IN=>.loop bb h.k inits (exec m n b h.state (bb+h.k+1) λe s' d=>match e with
     | .nr=>match AK n bb h s' with
      |some hi=>.again bb hi
      |none=>.stuck
     |e=>k e s' d)
    |_,_=>.stuck) 8 s
   |none=>Oi (exec m) n b k 1000 s bb
  | .exit id=>k (.oz id) s bb
  | .ret=>k .ret s bb
  | .scope b=>exec m n b s bb k
  |_=>.stuck
def H6(T:dd)(fn:Func)(e:rP)(s:AS)(_:Nat):mV:=match e with
 | .oz _=>.stuck
 |_=>match pQ T fn s with
  |some v=>match v.qU with
   |true=>.ret v.rh []
   |false=>match pI s.st 50 v with
    |some c=>.ret c.rh (pG s.st.mv)
    |none=>.stuck
  |none=>.stuck
end
end Go.Ab
