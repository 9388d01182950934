/- A part of the proof; its readable source lies in wip of the prover's repo (squeezed here for the limit of bytes). -/
import Derived.Test.YthaceaflkhpooaaGreatDoorMa
import Derived.Laws.Externs
import Derived.Laws.StructEq
import GoSem.ClaimJoined
import Derived.Below
import Derived.ChangeArms
import Derived.Deep.Slices
set_option linter.unusedVariables false
set_option linter.unusedSimpArgs false
set_option linter.unusedSectionVars false
namespace Go.Ab
open Go
variable [B0]
theorem xo0{ops:Array Oper}{masks:List Nat}{n0:Nat}{fs:List Inf}(hst:kt0 ops masks=true)(hdyn:(bX0 ops masks).all (fun p=>fo0 n0 p.1 p.2 (fs.getD p.1 ⟨[],[],false,0,false⟩) (fs.getD p.2 ⟨[],[],false,0,false⟩))=true)
  {i j:Nat} {a b:Oper} (hij:i<j) (ha:ops[i]?=some a) (hb:ops[j]?=some b) (hm:(masks.getD j 0).testBit i=false) :
  a.apart ops b=true/\(idle a.op=true\/idle b.op=true\/fo0 n0 i j (fs.getD i ⟨[],[],false,0,false⟩) (fs.getD j ⟨[],[],false,0,false⟩)=true):=by
 have hj:j<ops.size:=(Array.getElem?_eq_some_iff.1 hb).1
 have h1:=List.all_eq_true.1 hst j (by simpa using hj)
 rw[Bool.and_eq_true]at h1
 have h2:=List.all_eq_true.1 h1.2 i (by simpa using hij)
 rw[hm,Bool.false_or,ha,hb]at h2
 refine⟨h2,?_⟩
 by_cases hi1:idle a.op=true
 ·exact .inl hi1
 ·by_cases hi2:idle b.op=true
  ·exact .inr (.inl hi2)
  ·right;right
   have hmem:(i,j)∈bX0 ops masks:=by
    unfold bX0
    rw[List.mem_flatMap]
    refine⟨j,by simpa using hj,List.mem_filterMap.2 ⟨i,by simpa using hij,?_⟩⟩
    rw[hm,ha,hb]
    simp[hi1,hi2]
   exact List.all_eq_true.1 hdyn (i,j) hmem
structure qz0(n0 i j:Nat)(a b:Inf):Prop where
 ww:∀ x∈a.wr,x∉b.rd/\x∉b.wr
 wr:∀ x∈b.wr,x∉a.rd
 ni:n0+i∉b.rd/\n0+i∉b.wr
 nj:n0+j∉a.rd/\n0+j∉a.wr
 cc:¬ (a.call=true/\b.call=true)
 nb:a.bar=false/\b.bar=false
 ca:a.call=true->b.wr=[]/\∀ x∈b.rd,x<a.nx
 cb:b.call=true->a.wr=[]/\∀ x∈a.rd,x<b.nx
theorem mc0{n0 i j:Nat}{a b:Inf}(h:fo0 n0 i j a b=true):qz0 n0 i j a b:=by
 unfold fo0 at h
 simp only[Bool.and_eq_true]at h
 obtain⟨⟨⟨⟨⟨⟨⟨⟨h1,h2⟩,h3⟩,h4⟩,h5⟩,hb1⟩,hb2⟩,h6⟩,h7⟩:=h
 refine⟨fun x hx=>?_,fun x hx=>?_,?_,?_,?_,⟨by simpa using hb1,by simpa using hb2⟩,fun hc=>?_,fun hc=>?_⟩
 ·have:=List.all_eq_true.1 h1 x hx
  simpa using this
 ·have:=List.all_eq_true.1 h2 x hx
  simpa using this
 ·simpa using h3
 ·simpa using h4
 ·rintro ⟨e1,e2⟩;simp[e1,e2]at h5
 ·rw[hc]at h6
  simp only[Bool.not_true,Bool.false_or,Bool.and_eq_true]at h6
  exact⟨by simpa using h6.1,fun x hx=>by simpa using List.all_eq_true.1 h6.2 x hx⟩
 ·rw[hc]at h7
  simp only[Bool.not_true,Bool.false_or,Bool.and_eq_true]at h7
  exact⟨by simpa using h7.1,fun x hx=>by simpa using List.all_eq_true.1 h7.2 x hx⟩
def left(N:Nat)(p:Nat->Bool):Nat:=((List.range N).filter fun i=>!p i).length
theorem nc0{N i:Nat}{p:Nat->Bool}(hi:i<N)(hp:p i=false):left N (fun j=>j==i||p j)+1=left N p:=by
 unfold left
 have key:∀ l:List Nat,l.Nodup->i∈l->(l.filter fun j=>!(j==i||p j)).length+1=(l.filter fun j=>!p j).length:=by
  intro l
  induction l with
  | nil=>intro _ h;cases h
  | cons a l ih =>
   intro hnd hmem
   rw[List.nodup_cons]at hnd
   by_cases e:a=i
   ·subst e
    have hrest:(l.filter fun j=>!(j==a||p j))=l.filter fun j=>!p j:=by
     apply List.filter_congr
     intro j hj
     have:(j==a)=false:=by simp;exact fun h=>hnd.1 (h▸hj)
     simp[this]
    rw[List.filter_cons,List.filter_cons,hrest,hp]
    simp
   ·have hm:i∈l:=by
     rcases List.mem_cons.1 hmem with h | h
     ·exact absurd h.symm e
     ·exact h
    have:=ih hnd.2 hm
    have e':(a==i)=false:=by simpa using e
    rw[List.filter_cons,List.filter_cons,e',Bool.false_or]
    cases hpa:p a
    ·simp only[Bool.not_false,if_true,List.length_cons];omega
    ·simp only[Bool.not_true,Bool.false_eq_true,if_false];exact this
 exact key _ List.nodup_range (by simpa using hi)
theorem kE0{N:Nat}{p:Nat->Bool}(h:left N p=0):∀ i,i<N->p i=true:=by
 intro i hi
 unfold left at h
 have:=List.length_eq_zero_iff.1 h
 rw[List.filter_eq_nil_iff]at this
 have:=this i (by simpa using hi)
 simpa using this
section
variable {P:Program} {T:Tab} {ops:Array Oper} {n n0:Nat} {fs:List Inf} {evs:List Ev} {sts:List AS} {s0 s':AS}
theorem hD0{α:Type}{l:List α}{j n:Nat}(h:l.length=n)(hj:j<n):∃ x,l[j]?=some x:=⟨l[j]'(by omega),List.getElem?_eq_getElem _⟩
structure Lex(P:Program)(ops:Array Oper)(n n0:Nat)(fs:List Inf)(evs:List Ev)(sts:List AS)(s0:AS):Prop where
 hst:kt0 ops (da0 ops.toList [])=true
 hdyn:(bX0 ops (da0 ops.toList [])).all (fun p=>fo0 n0 p.1 p.2 (fs.getD p.1 ⟨[],[],false,0,false⟩) (fs.getD p.2 ⟨[],[],false,0,false⟩))=true
 l1:evs.length=ops.size
 l2:fs.length=ops.size
 l3:sts.length=ops.size
 all:∀ (j:Nat) o f ev st,ops[j]?=some o->fs[j]?=some f->evs[j]?=some ev->sts[j]?=some st->EvOk n0 ops.size j o f ev/\bb0 P ops n n0 ops.size j (Cond ops n0 ops.size ((da0 ops.toList []).getD j 0) o f st) ev/\(f.call=true->f.nx=st.st.next) /\
    (∀ t,st.get t=fold (fun k=>decide (k<j)) (evs.map (·.uT)) 0 s0.get t)/\(∀ id,st.st.objs id=fold (fun k=>decide (k<j)) (evs.map (·.uO)) 0 s0.st.objs id) /\
    (st.st.next=fold (fun k=>decide (k<j)) (evs.map fun e=>fun _:Unit=>e.uN) 0 (fun _=>s0.st.next) ())
structure Way(ops:Array Oper)(n n0:Nat)(evs:List Ev)(s0:AS)(G0:j4)(σ0:c9)(w0:World)(p:Nat->Bool)(G:j4)(tm:Nat->AV)(σ:c9)(a:Act)(w:World):Prop where
 rel:uf0 G n tm σ a w
 tm:∀ t,tm t=fold p (evs.map (·.uT)) 0 s0.get t
 ob:∀ id,σ.objs id=fold p (evs.map (·.uO)) 0 s0.st.objs id
 nx:σ.next=fold p (evs.map fun e=>fun _:Unit=>e.uN) 0 (fun _=>s0.st.next) ()
 free:∀ j,j<ops.size->p j=false->G.pl (n0+j)=none
 closed:fy0 ops p
 big:n0+ops.size<=σ.next
 tran:lL0 n0 G0 σ0 w0 G σ w
theorem Lex.edge(h:Lex P ops n n0 fs evs sts s0){j:Nat}{o:Oper}(ho:ops[j]?=some o){e:Edge}(he:e∈o.after)(hb:Region.binds .any e=true):e.on<j:=by
 have hj:j<ops.size:=(Array.getElem?_eq_some_iff.1 ho).1
 have h1:=List.all_eq_true.1 h.hst j (by simpa using hj)
 rw[Bool.and_eq_true,ho]at h1
 have:=Array.all_eq_true_iff_forall_mem.1 h1.1 e he
 simpa[hb]using this
theorem Lex.mask_lt(h:Lex P ops n n0 fs evs sts s0){j i:Nat}{o:Oper}(ho:ops[j]?=some o)(hb:((da0 ops.toList []).getD j 0).testBit i=true):i<j:=by
 have hcl:fy0 ops (fun k=>decide (k<j)):=fun k o' hk hp e he hbe=>by
  have:=h.edge hk he hbe
  have:=of_decide_eq_true hp
  simp;omega
 have:=bI0 hcl j o ho (fun e he hbe=>by simpa using h.edge ho he hbe) i hb
 simpa using this
theorem Lex.apart(h:Lex P ops n n0 fs evs sts s0){i j:Nat}{a b:Oper}{fa fb:Inf}(hij:i<j)(ha:ops[i]?=some a)(hb:ops[j]?=some b)(h1:fs[i]?=some fa)(h2:fs[j]?=some fb)(hm:((da0 ops.toList []).getD j 0).testBit i=false) :
  a.apart ops b=true/\(idle a.op=true\/idle b.op=true\/qz0 n0 i j fa fb):=by
 obtain⟨g1,g2⟩:=xo0 h.hst h.hdyn hij ha hb hm
 refine⟨g1,?_⟩
 rcases g2 with g | g | g
 ·exact .inl g
 ·exact .inr (.inl g)
 ·right;right
  have e1:fs.getD i ⟨[],[],false,0,false⟩=fa:=by simp[List.getD,h1]
  have e2:fs.getD j ⟨[],[],false,0,false⟩=fb:=by simp[List.getD,h2]
  rw[e1,e2]at g
  exact mc0 g
theorem Lex.at(h:Lex P ops n n0 fs evs sts s0){j:Nat}(hj:j<ops.size):∃ o f ev st,ops[j]?=some o/\fs[j]?=some f/\evs[j]?=some ev/\sts[j]?=some st:=by
 obtain⟨f,hf⟩:=hD0 h.l2 hj
 obtain⟨ev,hev⟩:=hD0 h.l1 hj
 obtain⟨st,hst⟩:=hD0 h.l3 hj
 exact⟨ops[j],f,ev,st,Array.getElem?_eq_getElem hj,hf,hev,hst⟩
theorem Lex.unordered(h:Lex P ops n n0 fs evs sts s0){p:Nat->Bool}(hcl:fy0 ops p){i k:Nat}{o:Oper}(ho:ops[i]?=some o)(hpi:p i=false)(hready:∀ e∈o.after,Region.binds .any e=true->p e.on=true)
  {ok:Oper} (hok:ops[k]?=some ok) (hne:p k≠decide (k<i)):(k<i/\((da0 ops.toList []).getD i 0).testBit k=false)\/(i<k/\((da0 ops.toList []).getD k 0).testBit i=false/\p k=true):=by
 rcases Nat.lt_trichotomy k i with hlt | heq | hgt
 ·left
  refine⟨hlt,?_⟩
  have hpk:p k=false:=by
   have:decide (k<i)=true:=by simpa using hlt
   rw[this]at hne
   simpa using hne
  cases hb:((da0 ops.toList []).getD i 0).testBit k with
  | false=>rfl
  | true=>have:=bI0 hcl i o ho hready k hb;rw[hpk]at this;cases this
 ·subst heq
  rw[hpi]at hne;simp at hne
 ·right
  have hpk:p k=true:=by
   have:decide (k<i)=false:=by simp;omega
   rw[this]at hne
   simpa using hne
  refine⟨hgt,?_,hpk⟩
  cases hb:((da0 ops.toList []).getD k 0).testBit i with
  | false=>rfl
  | true=>have:=bI0 hcl k ok hok (hcl k ok hok hpk) i hb;rw[hpi]at this;cases this
theorem map_get{α β:Type}{l:List α}{f:α->β}{j:Nat}{u:β}(h:(l.map f)[j]?=some u):∃ x,l[j]?=some x/\f x=u:=by
 rw[List.getElem?_map]at h
 cases hl:l[j]? with
 | none=>simp[hl]at h
 | some x=>rw[hl]at h;exact⟨x,rfl,by simpa using h⟩
theorem Way.step(h:Lex P ops n n0 fs evs sts s0){G0:j4}{σ0:c9}{w0:World}{p:Nat->Bool}{G:j4}{tm:Nat->AV}{σ:c9}{a:Act}{w:World}(hw:Way ops n n0 evs s0 G0 σ0 w0 p G tm σ a w)
  {i:Nat} (hi:i<ops.size) (hpi:p i=false) (hready:∀ o,ops[i]?=some o->∀ e∈o.after,Region.binds .any e=true->p e.on=true) (K:Act->World->Prop) (Q:Exit->Act->World->Prop)
  (hK:∀ G' tm' σ' a' w',Way ops n n0 evs s0 G0 σ0 w0 (fun j=>j==i||p j) G' tm' σ' a' w'->K a' w'):wpOp P ops Q i K a w:=by
 obtain⟨o,f,ev,st,ho,hf,hev,hst⟩:=h.at hi
 obtain⟨e1,e2,e3,e4,e5,e6⟩:=h.all i o f ev st ho hf hev hst
 have hrd:=hready o ho

 have diff:∀ k ek,evs[k]?=some ek->p k≠decide (k<i)->∃ ok fk,ops[k]?=some ok/\fs[k]?=some fk/\EvOk n0 ops.size k ok fk ek/\(∀ d,ok.dst=some d->d∉o.looksAt ops)/\(((da0 ops.toList []).getD i 0).testBit k=false) /\
   (idle ok.op=true\/idle o.op=true\/((∀ x∈fk.wr,x∉f.rd)/\n0+k∉f.rd/\¬ (fk.call=true/\f.call=true)/\(fk.call=true->∀ x∈f.rd,x<fk.nx)/\(f.call=true->fk.wr=[])/\fk.bar=false/\f.bar=false)):=by
  intro k ek hek hne
  have hk:k<ops.size:=by have:=(List.getElem?_eq_some_iff.1 hek).1;rw[h.l1]at this;exact this
  obtain⟨ok,fk,ek',stk,g1,g2,g3,g4⟩:=h.at hk
  rw[hek]at g3;cases g3
  obtain⟨q1,_⟩:=h.all k ok fk ek stk g1 g2 hek g4
  rcases h.unordered hw.closed ho hpi hrd g1 hne with ⟨r1,r2⟩ | ⟨r1,r2,_⟩
  ·obtain⟨t1,t2⟩:=h.apart r1 g1 ho g2 hf r2
   refine⟨ok,fk,g1,g2,q1,(Oper.apart_spec t1).1,r2,?_⟩
   rcases t2 with t | t | t
   ·exact .inl t
   ·exact .inr (.inl t)
   ·exact .inr (.inr ⟨fun x hx=>(t.ww x hx).1,t.ni.1,t.cc,fun hc=>(t.ca hc).2,fun hc=>(t.cb hc).1,t.nb.1,t.nb.2⟩)
  ·obtain⟨t1,t2⟩:=h.apart r1 ho g1 hf g2 r2
   refine⟨ok,fk,g1,g2,q1,(Oper.apart_spec t1).2.2,?_,?_⟩
   ·cases hb:((da0 ops.toList []).getD i 0).testBit k with
    | false=>rfl
    | true=>have:=h.mask_lt ho hb;omega
   ·rcases t2 with t | t | t
    ·exact .inr (.inl t)
    ·exact .inl t
    ·exact .inr (.inr ⟨fun x hx=>t.wr x hx,t.nj.1,fun hc=>t.cc ⟨hc.2,hc.1⟩,fun hc=>(t.cb hc).2,fun hc=>(t.ca hc).1,t.nb.2,t.nb.1⟩)
 have hcond:Cond ops n0 ops.size ((da0 ops.toList []).getD i 0) o f st tm σ:=by
  refine⟨fun t ht=>?_,fun id hid=>?_,fun hc=>⟨?_,fun id hid=>?_⟩,fun hc=>⟨?_,fun id=>?_⟩⟩
  ·rw[hw.tm,e4]
   refine M9 t _ 0 _ _ rfl (fun k u hu hne=>?_)
   obtain⟨ek,hek,rfl⟩:=map_get hu
   rw[Nat.zero_add]at hne
   obtain⟨ok,fk,g1,g2,q1,q2,_⟩:=diff k ek hek hne
   cases hx:ek.uT t with
   | none=>rfl
   | some v=>exact absurd ht (q2 t (q1.tmp t (by simp[hx])))
  ·rw[hw.ob,e5]
   refine M9 id _ 0 _ _ rfl (fun k u hu hne=>?_)
   obtain⟨ek,hek,rfl⟩:=map_get hu
   rw[Nat.zero_add]at hne
   obtain⟨ok,fk,g1,g2,q1,_,_,q3⟩:=diff k ek hek hne
   cases hx:ek.uO id with
   | none=>rfl
   | some v =>
    rcases q3 with t | t | ⟨t1,t2,t3,t4,_,t6⟩
    ·rw[(q1.idle t).1 id]at hx;cases hx
    ·rw[(e1.idle t).2.2.1]at hid;cases hid
    ·rcases q1.obj id (by simp[hx])with g | g | ⟨g,g'⟩ | g
     ·exact absurd hid (t1 id g)
     ·exact absurd hid (g▸t2)
     ·have:=t4 g id hid;omega
     ·rw[t6.1]at g;cases g
  ·rw[hw.nx,e6]
   refine M9 () _ 0 _ _ rfl (fun k u hu hne=>?_)
   obtain⟨ek,hek,rfl⟩:=map_get hu
   rw[Nat.zero_add]at hne
   obtain⟨ok,fk,g1,g2,q1,_,_,q3⟩:=diff k ek hek hne
   have hck:fk.call=false:=by
    cases hck:fk.call with
    | false=>rfl
    | true =>
     rcases q3 with t | t | ⟨_,_,t3,_⟩
     ·rw[(q1.idle t).2.1]at hck;cases hck
     ·rw[(e1.idle t).2.1]at hc;cases hc
     ·exact absurd ⟨hck,hc⟩ t3
   have hbk:fk.bar=false:=by
    rcases q3 with t | t | ⟨_,_,_,_,_,t6,_⟩
    ·exact(q1.idle t).2.2.2
    ·rw[(e1.idle t).2.1]at hc;cases hc
    ·exact t6
   exact q1.num hck hbk
  ·rw[hw.ob,e5]
   refine M9 id _ 0 _ _ rfl (fun k u hu hne=>?_)
   obtain⟨ek,hek,rfl⟩:=map_get hu
   rw[Nat.zero_add]at hne
   obtain⟨ok,fk,g1,g2,q1,_,qm,q3⟩:=diff k ek hek hne
   cases hx:ek.uO id with
   | none=>rfl
   | some v =>
    rcases q3 with t | t | ⟨_,_,t3,_,t5⟩
    ·rw[(q1.idle t).1 id]at hx;cases hx
    ·rw[(e1.idle t).2.1]at hc;cases hc
    ·rcases q1.obj id (by simp[hx])with g | g | ⟨g,_⟩ | g
     ·rw[t5.1 hc]at g;cases g
     ·exact absurd (lG0.2 ⟨k,(Array.getElem?_eq_some_iff.1 g1).1,qm,g⟩) hid
     ·exact absurd ⟨g,hc⟩ t3
     ·rw[t5.2.1]at g;cases g
  ·rw[hw.nx,e6]
   refine M9 () _ 0 _ _ rfl (fun k u hu hne=>?_)
   obtain⟨ek,hek,rfl⟩:=map_get hu
   rw[Nat.zero_add]at hne
   obtain⟨ok,fk,g1,g2,q1,_,_,q3⟩:=diff k ek hek hne
   rcases q3 with t | t | ⟨_,_,_,_,_,_,t6⟩
   ·exact q1.num (q1.idle t).2.1 (q1.idle t).2.2.2
   ·rw[(e1.idle t).2.2.2]at hc;cases hc
   ·rw[t6]at hc;cases hc
  ·rw[hw.ob,e5]
   refine M9 id _ 0 _ _ rfl (fun k u hu hne=>?_)
   obtain⟨ek,hek,rfl⟩:=map_get hu
   rw[Nat.zero_add]at hne
   obtain⟨ok,fk,g1,g2,q1,_,_,q3⟩:=diff k ek hek hne
   rcases q3 with t | t | ⟨_,_,_,_,_,_,t6⟩
   ·exact(q1.idle t).1 id
   ·rw[(e1.idle t).2.2.2]at hc;cases hc
   ·rw[t6]at hc;cases hc

 have later:∀ k ek,evs[k]?=some ek->i<k->p k=true->∃ ok fk,ops[k]?=some ok/\fs[k]?=some fk/\EvOk n0 ops.size k ok fk ek/\(∀ d,o.dst=some d->ok.dst≠some d)/\(idle ok.op=true\/idle o.op=true\/qz0 n0 i k f fk):=by
  intro k ek hek hik hpk
  have hk:k<ops.size:=by have:=(List.getElem?_eq_some_iff.1 hek).1;rw[h.l1]at this;exact this
  obtain⟨ok,fk,ek',stk,g1,g2,g3,g4⟩:=h.at hk
  rw[hek]at g3;cases g3
  obtain⟨q1,_⟩:=h.all k ok fk ek stk g1 g2 hek g4
  have hm:((da0 ops.toList []).getD k 0).testBit i=false:=by
   cases hb:((da0 ops.toList []).getD k 0).testBit i with
   | false=>rfl
   | true=>have:=bI0 hw.closed k ok g1 (hw.closed k ok g1 hpk) i hb;rw[hpi]at this;cases this
  obtain⟨t1,t2⟩:=h.apart hik ho g1 hf g2 hm
  refine⟨ok,fk,g1,g2,q1,(Oper.apart_spec t1).2.1,?_⟩
  rcases t2 with t | t | t
  ·exact .inr (.inl t)
  ·exact .inl t
  ·exact .inr (.inr t)
 have hcallnx:f.call=true->f.nx=σ.next:=fun hc=>by rw[e3 hc,(hcond.2.2.1 hc).1]
 refine e2 G a w tm σ hw.rel hcond (hw.free i hi hpi) hw.big K Q ?_
 intro G' a' w' σ' g1 g2 g3 g4 g5 g6 g7
 refine hK G' _ σ' a' w' ⟨g5,fun t=>?_,fun id=>?_,?_,fun j hj hpj=>?_,fun j oj hoj hpj e he hb=>?_,by have:=hw.big;omega,hw.tran.trans ⟨g1,fun k hk hg=>g2 k (by omega) (by omega) hg,g3,g4⟩ (Nat.le_refl _)⟩
 ·have:=gf0 (p:=p) t (u0:=ev.uT) (evs.map (·.uT)) 0 i s0.get (by simp[hev]) (by simpa using hpi) (fun k u hu hik hpk hne=>by
   obtain⟨ek,hek,rfl⟩:=map_get hu
   obtain⟨ok,fk,_,_,q1,q2,_⟩:=later k ek hek hik (by simpa using hpk)
   cases hx:ek.uT t with
   | none=>rfl
   | some v=>exact absurd (q1.tmp t (by simp[hx])) (q2 t (e1.tmp t hne)))
  simp only[Nat.zero_add]at this
  rw[this,hw.tm]
 ·have:=gf0 (p:=p) id (u0:=ev.uO) (evs.map (·.uO)) 0 i s0.st.objs (by simp[hev]) (by simpa using hpi) (fun k u hu hik hpk hne=>by
   obtain⟨ek,hek,rfl⟩:=map_get hu
   obtain⟨ok,fk,_,_,q1,_,q3⟩:=later k ek hek hik (by simpa using hpk)
   cases hx:ek.uO id with
   | none=>rfl
   | some v =>
    rcases q3 with t | t | t
    ·rw[(q1.idle t).1 id]at hx;cases hx
    ·exact absurd ((e1.idle t).1 id) hne
    ·have o1:=e1.obj id hne
     have o2:=q1.obj id (by simp[hx])
     have hk:k<ops.size:=by have:=(List.getElem?_eq_some_iff.1 hek).1;rw[h.l1]at this;exact this
     have o1:id∈f.wr\/id=n0+i\/(f.call=true/\f.nx<=id):=by
      rcases o1 with h' | h' | h' | h'
      ·exact .inl h'
      ·exact .inr (.inl h')
      ·exact .inr (.inr h')
      ·rw[t.nb.1]at h';cases h'
     have o2:id∈fk.wr\/id=n0+k\/(fk.call=true/\fk.nx<=id):=by
      rcases o2 with h' | h' | h' | h'
      ·exact .inl h'
      ·exact .inr (.inl h')
      ·exact .inr (.inr h')
      ·rw[t.nb.2]at h';cases h'
     rcases o1 with a1 | a1 | ⟨a1,a1'⟩<;>rcases o2 with b1 | b1 | ⟨b1,b1'⟩
     ·exact absurd b1 (t.ww id a1).2
     ·exact absurd a1 (b1▸t.nj.2)
     ·rw[(t.cb b1).1]at a1;cases a1
     ·exact absurd b1 (a1▸t.ni.2)
     ·omega
     ·have:=q1.start b1;omega
     ·rw[(t.ca a1).1]at b1;cases b1
     ·have:=e1.start a1;omega
     ·exact absurd ⟨a1,b1⟩ t.cc)
  simp only[Nat.zero_add]at this
  rw[g6,this,hw.ob]
 ·have:=gf0 (p:=p) () (u0:=fun _:Unit=>ev.uN) (evs.map fun e=>fun _:Unit=>e.uN) 0 i (fun _=>s0.st.next) (by simp[hev]) (by simpa using hpi) (fun k u hu hik hpk hne=>by
   obtain⟨ek,hek,rfl⟩:=map_get hu
   obtain⟨ok,fk,_,_,q1,_,q3⟩:=later k ek hek hik (by simpa using hpk)
   cases hx:ek.uN with
   | none=>rfl
   | some v =>
    rcases q3 with t | t | t
    ·rw[q1.num (q1.idle t).2.1 (q1.idle t).2.2.2]at hx;cases hx
    ·exact absurd (e1.num (e1.idle t).2.1 (e1.idle t).2.2.2) hne
    ·have c1:f.call=true:=by
      cases hc:f.call with
      | true=>rfl
      | false=>exact absurd (e1.num hc t.nb.1) hne
     have c2:fk.call=true:=by
      cases hc:fk.call with
      | true=>rfl
      | false=>rw[q1.num hc t.nb.2]at hx;cases hx
     exact absurd ⟨c1,c2⟩ t.cc)
  simp only[Nat.zero_add]at this
  rw[g7,this,hw.nx]
 ·have hji:j≠i:=fun e=>by subst e;simp at hpj
  have:p j=false:=by simpa[hji]using hpj
  exact g2 (n0+j) (by omega) (by omega) (hw.free j hj this)
 ·by_cases hji:j=i
  ·subst hji
   simp[hready oj hoj e he hb]
  ·have:p j=true:=by simpa[hji]using hpj
   simp[hw.closed j oj hoj this e he hb]
theorem Way.any(h:Lex P ops n n0 fs evs sts s0){G0:j4}{σ0:c9}{w0:World}(Q:Exit->Act->World->Prop)
  (hQ:∀ p G tm σ a w,Way ops n n0 evs s0 G0 σ0 w0 p G tm σ a w->(∀ i,i<ops.size->p i=true)->Q .normal a w) :
  ∀ (fuel:Nat) (listed:Array Bool) (G:j4) (tm:Nat->AV) (σ:c9) (a:Act) (w:World),listed.size=ops.size->left ops.size (fun j=>listed.getD j false)=fuel ->
   Way ops n n0 evs s0 G0 σ0 w0 (fun j=>listed.getD j false) G tm σ a w->wpAny P .any ops Q fuel listed a w:=by
 have nil:∀ (listed:Array Bool),listed.size=ops.size->Region.ready .any ops listed=[]->∀ i,i<ops.size->listed.getD i false=true:=by
  intro listed hsz hnil i
  induction i using Nat.strongRecOn with
  | _ i ih =>
   intro hi
   cases hl:listed.getD i false with
   | true=>rfl
   | false =>
    obtain⟨o,f,ev,st,ho,_⟩:=h.at hi
    have:i∈Region.ready .any ops listed:=mem_ready.2 ⟨by simp[hsz,hi]at hl ⊢;exact hl,o,ho,fun e he hb=>by
     have hlt:=h.edge ho he hb
     exact ih e.on hlt (by omega)⟩
    rw[hnil]at this;cases this
 intro fuel
 induction fuel with
 | zero =>
  intro listed G tm σ a w hsz hleft hw
  have hall:=kE0 hleft
  refine⟨?_,hQ _ _ _ _ _ _ hw hall⟩
  cases hr:Region.ready .any ops listed with
  | nil=>rfl
  | cons i is =>
   have:i∈Region.ready .any ops listed:=by rw[hr];simp
   obtain⟨h1,o,ho,_⟩:=mem_ready.1 this
   have hi:i<ops.size:=(Array.getElem?_eq_some_iff.1 ho).1
   have:=hall i hi
   simp[hsz,hi]at h1 this
   rw[h1]at this;cases this
 | succ fuel ih =>
  intro listed G tm σ a w hsz hleft hw
  refine⟨fun hnil=>hQ _ _ _ _ _ _ hw (nil listed hsz hnil),fun i hi=>?_⟩
  obtain⟨h1,o,ho,hrd⟩:=mem_ready.1 hi
  have hlt:i<ops.size:=(Array.getElem?_eq_some_iff.1 ho).1
  have hpi:listed.getD i false=false:=by simp[hsz,hlt]at h1 ⊢;exact h1
  have hset:∀ j,(listed.setIfInBounds i true).getD j false=(j==i||listed.getD j false):=fun j=>by
   by_cases e:j=i
   ·subst e;simp[hsz,hlt]
   ·rw[getD_set_ne false (Ne.symm e)]
    have:(j==i)=false:=by simpa using e
    rw[this];rfl
  refine Way.step h hw hlt hpi (fun o' ho'=>by rw[ho]at ho';cases ho';exact hrd) _ Q ?_
  intro G' tm' σ' a' w' hw'
  refine ih (listed.setIfInBounds i true) G' tm' σ' a' w' (by simp[hsz]) ?_ (by
   have e:(fun j=>(listed.setIfInBounds i true).getD j false)=(fun j=>j==i||listed.getD j false):=funext hset
   rw[e];exact hw')
  have e:(fun j=>(listed.setIfInBounds i true).getD j false)=(fun j=>j==i||listed.getD j false):=funext hset
  rw[e]
  have:=nc0 (p:=fun j=>listed.getD j false) hlt hpi
  omega
end
theorem AWp.drawn{P:Program}{T:Tab}(hT:C2 P T)(hm:P.follows .mixedOrders=true){cl:FuncId->List AV->c9->Option (AV×c9)}
  (hcl:∀ f args σ v σ',cl f args σ=some (v,σ')->C1 P f args σ (fun v' σ''=>v'=v/\σ''=σ')/\Z2 σ σ')
  {id:Nat} {ops:Array Oper} {s s':AS} (h:aW0 T cl ops s=some s') {Q:Exit->AS->Prop} (hQ:Q .normal s'):AWp P (.region id ops true) Q s:=by
 unfold aW0 at h
 split at h
 case isFalse=>cases h
 rename_i hst
 split at h
 case h_2=>cases h
 rename_i s1 fs hr
 split at h
 case isFalse=>cases h
 rename_i hdyn
 cases h
 intro G a w hrel
 refine wp_region_any hm ?_
 obtain⟨evs,sts,l1,l2,l3,l4,hall,g1,g2,g3⟩:=mK0 hT hcl ops.toList 0 _ _ fs (fun j=>by simp) (by simp) (Nat.le_refl _) hr
 simp only[Array.length_toList]at l1 l2 l3
 have hlex:Lex P ops s.n s.st.next fs evs sts { s with st:={ s.st with next:=s.st.next+ops.size } }:=⟨hst,hdyn,l1,l2,l3,fun j o f ev st h1 h2 h3 h4=>by
  have:=hall j o f ev st (by simpa using h1) h2 h3 h4
  simpa using this⟩
 have hleft:left ops.size (fun j=>(Array.replicate ops.size false).getD j false)=ops.size:=by
  unfold left
  rw[List.filter_eq_self.2 (fun x hx=>by
   have:x<ops.size:=by simpa using hx
   simp[this])]
  simp
 have hp0:∀ j,(Array.replicate ops.size false).getD j false=false:=fun j=>by
  by_cases hj:j<ops.size<;>simp[hj]
 refine Way.any hlex (G0:=G) (σ0:=s.st) (w0:=w) _ ?_ ops.size (Array.replicate ops.size false) G s.get { s.st with next:=s.st.next+ops.size } a { w with drawn:=w.drawn+1 } (by simp) hleft ?_
 ·intro p G' tm σ a' w' hw hp
  have agree:∀ {L V:Type} (us:List (L->Option V)) (f:L->V),us.length=ops.size->fold p us 0 f=fold (fun _=>true) us 0 f:=fun us f hl=>funext fun l=>M9 l us 0 f f rfl (fun j u hu hne=>by
   have hj:j<ops.size:=by have:=(List.getElem?_eq_some_iff.1 hu).1;omega
   rw[Nat.zero_add]at hne
   exact absurd (hp j hj) hne)
  have hnext:σ.next=s'.st.next:=by rw[hw.nx,agree _ _ (by simp[l1]),g3]
  have hobjs:∀ k,σ.objs k=s'.st.objs k:=fun k=>by rw[hw.ob,agree _ _ (by simp[l1]),g2]
  have htm:∀ t,tm t=s'.get t:=fun t=>by rw[hw.tm,agree _ _ (by simp[l1]),g1]
  refine⟨s',G',⟨hw.tran.le,hw.tran.keeps,by rw[<- hnext];exact hw.tran.next,hw.tran.fr.trans (Fr.less fun k x hx=>by rw[hobjs];exact hx)⟩,⟨hw.rel.defers,by rw[hw.rel.size,l4],fun t=>by rw[<- htm];exact hw.rel.tmps t,hw.rel.rel.less hnext.symm (fun k x hx=>by rw[hobjs];exact hx)⟩,hQ⟩
 ·have hnone:∀ {L V:Type} (us:List (L->Option V)) (f:L->V) (l:L),fold (fun j=>(Array.replicate ops.size false).getD j false) us 0 f l=f l:=fun us f l=>aB0 l us 0 f _ (fun j u _ hp=>by rw[hp0]at hp;cases hp) rfl
  refine⟨⟨hrel.defers,hrel.size,hrel.tmps,(hrel.rel.next (Nat.le_add_right _ _)).drawn _⟩,fun t=>(hnone _ _ _).symm,fun k=>(hnone _ _ _).symm,(hnone (evs.map fun e=>fun _:Unit=>e.uN) (fun _=>s.st.next+ops.size) ()).symm,fun j _ _=>hrel.rel.fresh _ (Nat.le_add_right _ _),(fun j o _ hp=>by rw[hp0]at hp;cases hp),Nat.le_refl _,?_⟩
  exact⟨.refl G,.refl _ G,Nat.le_add_right _ _,(Fr.less (σ:=s.st) (σ':={ s.st with next:=s.st.next+ops.size }) (fun _ _ h=>h)).trans (Fr.draws _ _ _ _ (Nat.le_add_right _ _))⟩
end Go.Ab
namespace Go.Ab
open Go
variable [B0]
def go(T:Tab)(F:FuncId->Option Func)(K:qO0):Nat->Code->AS->Option (EX×AS)
 | 0,_,_=>none
 | k+1,c,s =>
  match c with
  | .skip=>some (.nor,s)
  | .label _=>some (.nor,s)
  | .region _ ops false =>
   match nU0 T (na0 T F K (go T F K k)) ops s.st.next ops.toList 0 { s with st:={ s.st with next:=s.st.next+ops.size } } with
   | some s'=>some (.nor,s')
   | none=>none
  | .region _ ops true =>
   match aW0 T (na0 T F K (go T F K k)) ops s with
   | some s'=>some (.nor,s')
   | none=>none
  | .seq a b=>match go T F K k a s with
   | some (.nor,s')=>go T F K k b s'
   | r=>r
  | .cond x a b=>match s.eval x with
   | .sc (.bool t)=>go T F K k (if t then a else b) s
   | _=>none
  | .block id b=>match go T F K k b s with
   | some (.exi j,s')=>some (if j=id then .nor else .exi j,s')
   | r=>r
  | .loop b=>match go T F K k b s with
   | some (.nor,s')=>go T F K k (.loop b) s'
   | r=>r
  | .exit id=>some (.exi id,s)
  | .ret=>some (.ret,s)
  | .scope b=>go T F K k b s
  | _=>none
section
variable {T:Tab} {F:FuncId->Option Func} {K:qO0}
end
def vW0(P:Program)(K:qO0):Prop:=∀ f g,K f=some g->∀ args σ v σ',g args σ=some (v,σ')->C1 P f args σ (fun v' σ''=>v'=v/\σ''=σ')/\Z2 σ σ'
section
variable {P:Program} {T:Tab} (hT:C2 P T) {F:FuncId->Option Func} (hF:∀ f fn,F f=some fn->P.funcs[f]?=some fn) (hm:P.follows .mixedOrders=true) {K:qO0} (hK:vW0 P K)
end
end Go.Ab
namespace Go.Ab
open Go
variable [B0]
def iM0(T:Tab)(t:TypeId)(args:List AV)(σ:c9):Option (AV×c9) :=
 match args with
 | [x]=>match T t with
  | some { und:=.slice elem,.. }=>match T elem with
   | some ei=>match P6 σ x with
    | some xs=>if (xs.all fun c=>c.length==ei.size&&c.all AV.one)=true/\(2*xs.length+1000)*ei.bytes<=2^48/\xs.length<=2^62/\0<ei.size then
      match x.isNil with
      | some true=>some (.sc (.slice none 0 0),{ σ with next:=σ.next+7 })
      | _=>some (.ms (σ.next+5) ei.size 0 xs.length,{ σ with next:=σ.next+7 }.set (σ.next+5) (.row elem ei.size xs))
     else none
    | none=>none
   | none=>none
  | _=>none
 | _=>none
end Go.Ab
namespace Go.Ab
open Go
variable [B0]
def nC0(args:List AV)(σ:c9):Option (AV×c9) :=
 match args with
 | [.sc (.int .u64 x),.sc (.int .u64 y),.sc (.int .u64 c)] =>
  if 0<=x/\0<=y/\(c=0\/c=1)then
   some (.tup [.sc (.int .u64 ((x+y+c)%18446744073709551616)),.sc (.int .u64 ((x+y+c) / 18446744073709551616))],σ)
  else none
 | _=>none
end Go.Ab
namespace Go.Ab
open Go
variable [B0]
def Tr.ofList{α:Type}:List (Nat×α)->Tr α->Tr α
 | [],t=>t
 | (k,v)::l,t=>Tr.ofList l (t.set k (some v))
theorem Tr.ofList_get{α:Type}:∀ (l:List (Nat×α)) (t:Tr α) (k:Nat) (v:α),(Tr.ofList l t).get k=some v->(k,v)∈l\/t.get k=some v
 | [],t,k,v,h=>.inr h
 | (j,u)::l,t,k,v,h=>by
  rcases Tr.ofList_get l (t.set j (some u)) k v h with h1 | h1
  ·exact .inl (List.mem_cons_of_mem _ h1)
  ·rw[Tr.get_set]at h1
   split at h1
   ·rename_i e;cases h1;exact .inl (by rw[e];simp)
   ·exact .inr h1
def fTr(P:Program):Tr Func:=Tr.ofList (P.funcs.toList.zipIdx.map fun p=>(p.2,p.1)) .leaf
theorem fTr_ok(P:Program)(f:FuncId)(fn:Func)(h:(fTr P).get f=some fn):P.funcs[f]?=some fn:=by
 rcases Tr.ofList_get _ _ _ _ h with h | h
 ·obtain⟨⟨x,i⟩,hp,e⟩:=List.mem_map.1 h
  cases e
  have:=List.mem_zipIdx_iff_getElem?.1 hp
  simpa using this
 ·rw[Tr.get_leaf]at h;cases h
end Go.Ab
namespace Go.Ab
open Go
variable [B0]
def jY0(f:AV->Option AV):List AV->Option (List AV)
 | []=>some []
 | c::cs=>match f c,jY0 f cs with
  | some x,some xs=>some (x::xs)
  | _,_=>none
def tc0(f:AV->Option AV):List (List AV)->Option (List (List AV))
 | []=>some []
 | c::cs=>match jY0 f c,tc0 f cs with
  | some x,some xs=>some (x::xs)
  | _,_=>none
theorem L9{f:AV->Option AV}:∀ {l l':List AV},jY0 f l=some l'->l'.length=l.length/\∀ i (h:i<l.length) (h':i<l'.length),f l[i]=some l'[i]
 | [],l',h=>by simp only[jY0,Option.some.injEq]at h;subst h;exact⟨rfl,fun i h=>by simp at h⟩
 | c::cs,l',h=>by
  unfold jY0 at h
  split at h
  ·rename_i x xs h1 h2
   cases h
   obtain⟨e1,e2⟩:=L9 h2
   refine⟨by simp[e1],fun i hi hi'=>?_⟩
   cases i with
   | zero=>exact h1
   | succ i=>exact e2 i (by simpa using hi) (by simpa using hi')
  ·cases h
theorem gh0{f:AV->Option AV}:∀ {l l':List (List AV)},tc0 f l=some l'->l'.length=l.length/\∀ i (h:i<l.length) (h':i<l'.length),jY0 f l[i]=some l'[i]
 | [],l',h=>by simp only[tc0,Option.some.injEq]at h;subst h;exact⟨rfl,fun i h=>by simp at h⟩
 | c::cs,l',h=>by
  unfold tc0 at h
  split at h
  ·rename_i x xs h1 h2
   cases h
   obtain⟨e1,e2⟩:=gh0 h2
   refine⟨by simp[e1],fun i hi hi'=>?_⟩
   cases i with
   | zero=>exact h1
   | succ i=>exact e2 i (by simpa using hi) (by simpa using hi')
  ·cases h
def deep(σ:c9):Nat->AV->Option AV
 | 0,_=>none
 | k+1,v=>match v with
  | .sc x=>some (.sc x)
  | .rs es=>match tc0 (deep σ k) es with
   | some l=>some (.rs l)
   | none=>none
  | .ms id _ off len=>match σ.objs id with
   | some (.row _ _ es)=>if off+len<=es.length then
     match tc0 (deep σ k) ((es.drop off).take len)with
     | some l=>some (.rs l)
     | none=>none
    else none
   | _=>none
  | .agg cs=>match jY0 (deep σ k) cs with
   | some l=>some (.agg l)
   | none=>none
  | .tup cs=>match jY0 (deep σ k) cs with
   | some l=>some (.tup l)
   | none=>none
  | _=>none
def Live(G:j4)(σ:c9)(b:Nat):Prop:=∃ id o p,σ.objs id=some o/\G.pl id=some p/\p.virt=false/\p.block=b
open Classical in
noncomputable def j4.frozen(G:j4)(σ:c9)(w:World)(pl:Nat->Option Pl):j4 :=
 { w0:=G.w0,imm:=fun b=>if Live G σ b then w.heap[b]? else G.imm b,pl:=pl }
theorem F7{G:j4}{σ:c9}{w:World}(h:Rel G σ w){pl:Nat->Option Pl}{b:Nat}{o:Obj}(hb:G.imm b=some o):(G.frozen σ w pl).imm b=some o:=by
 simp only[j4.frozen]
 split
 ·rename_i hl
  obtain⟨id,x,p,h1,h2,h3,rfl⟩:=hl
  rw[(h.real h1 h2 h3).1]at hb;cases hb
 ·exact hb
theorem bY0{G:j4}{σ:c9}{w:World}(h:Rel G σ w){pl:Nat->Option Pl}{b o:Nat}{v:Value}(hc:G.cell b o=some v):(G.frozen σ w pl).cell b o=some v:=by
 unfold j4.cell at *
 cases hb:G.imm b with
 | none=>simp[hb]at hc
 | some x=>rw[F7 h hb];simpa[hb]using hc
theorem qU0{G:j4}{σ:c9}{w:World}(h:Rel G σ w)(pl:Nat->Option Pl):∀ (k:Nat) (v c:AV) (u:Value),deep σ k v=some c->Rep G v u->Rep (G.frozen σ w pl) c u
 | 0,v,c,u,hd,_=>by simp[deep]at hd
 | k+1,v,c,u,hd,hr=>by
  have ih:=qU0 h pl k
  unfold deep at hd
  split at hd
  ·cases hd;cases hr;exact .sc _
  ·rename_i es
   split at hd
   ·rename_i l hl
    cases hd
    obtain⟨e1,e2⟩:=gh0 hl
    cases hr with
    | rsNil =>
     have:l=[]:=by simpa using e1
     subst this;exact .rsNil
    | rs _ a cap size val hs hc hlen himm hrep =>
     rw[<- e1]
     refine .rs l a cap size val hs (by omega) (fun i hi=>?_) (fun i j hi hj=>bY0 h (himm i j (by omega) hj)) (fun i j hi hj=>?_)
     ·rw[(L9 (e2 i (by omega) hi)).1];exact hlen i (by omega)
     ·obtain⟨f1,f2⟩:=L9 (e2 i (by omega) hi)
      exact ih _ _ _ (f2 j (by omega) hj) (hrep i j (by omega) (by omega))
   ·cases hd
  ·rename_i id z off len
   split at hd
   ·rename_i elem size es ho
    split at hd
    ·rename_i hle
     split at hd
     ·rename_i l hl
      cases hd
      obtain⟨e1,e2⟩:=gh0 hl
      cases hr with
      | msNil _ _ p hp hv =>
       have:l=[]:=by simpa using e1
       subst this;exact .rsNil
      | ms _ _ _ _ p hp hv hz a c hA hoff hlc hsp =>
       obtain⟨him,hw0,cells,hb,hps,hn,hcap,hrow⟩:=h.real ho hp hv
       have hll:l.length=len:=by rw[e1];simp;omega
       have hlive:(G.frozen σ w pl).imm p.block=some (.cells cells elem (0,0)):=by
        simp only[j4.frozen]
        rw[if_pos ⟨id,_,p,ho,hp,hv,rfl⟩];exact hb
       have O3:∀ i (hi:i<l.length),∃ hi':off+i<es.length,jY0 (deep σ k) es[off+i]=some l[i]:=fun i hi=>by
        have:=e2 i (by rw[<- e1];exact hi) hi
        simp only[List.getElem_take,List.getElem_drop]at this
        exact⟨by omega,this⟩
       rw[<- hll]
       by_cases hc0:c=0
       ·have:l=[]:=List.eq_nil_of_length_eq_zero (by omega)
        subst this
        exact .rs [] a c 0 (fun _ _=>undef) (fun _=>hsp) (by simp) (fun i hi=>by simp at hi) (fun i j hi=>by simp at hi) (fun i j hi=>by simp at hi)
       ·rw[hA hc0]
        refine .rs l _ c size (fun i j=>cells.getD ((off+i)*size+j) undef) (fun _=>rfl) (by omega) (fun i hi=>?_) (fun i j hi hj=>?_) (fun i j hi hj=>?_)
        ·obtain⟨hi',hm⟩:=O3 i hi
         rw[(L9 hm).1];exact(hrow _ hi').1
        ·obtain⟨hi',hm⟩:=O3 i hi
         have hlt:(off+i)*size+j<cells.size:=by
          rw[hn]
          have:(off+i+1)*size<=p.cap*size:=Nat.mul_le_mul_right _ (by omega)
          rw[Nat.add_mul]at this;omega
         simp only[j4.cell,hlive,hps]
         have e3:off*size+i*size+j=(off+i)*size+j:=by rw[Nat.add_mul]
         rw[e3]
         simp[hlt]
        ·obtain⟨hi',hm⟩:=O3 i hi
         obtain⟨f1,f2⟩:=L9 hm
         have hsz:=(hrow _ hi').1
         have hlt:(off+i)*size+j<cells.size:=by
          rw[hn]
          have:(off+i+1)*size<=p.cap*size:=Nat.mul_le_mul_right _ (by omega)
          rw[Nat.add_mul]at this;omega
         have:=(hrow _ hi').2 j (by omega) hlt
         have hv':cells.getD ((off+i)*size+j) undef=cells[(off+i)*size+j]:=by simp[hlt]
         rw[hv']
         exact ih _ _ _ (f2 j (by omega) hj) this
     ·cases hd
    ·cases hd
   ·cases hd
  ·rename_i cs
   split at hd
   ·rename_i l hl
    cases hd
    obtain⟨e1,e2⟩:=L9 hl
    cases hr with
    | agg _ vs h1 h2=>exact .agg l vs (by omega) (fun i hi hi'=>ih _ _ _ (e2 i (by omega) hi) (h2 i (by omega) hi'))
   ·cases hd
  ·rename_i cs
   split at hd
   ·rename_i l hl
    cases hd
    obtain⟨e1,e2⟩:=L9 hl
    cases hr with
    | tup _ vs h1 h2=>exact .tup l vs (by omega) (fun i hi hi'=>ih _ _ _ (e2 i (by omega) hi) (h2 i (by omega) hi'))
   ·cases hd
  ·cases hd
def AV.pure:Nat->AV->Bool
 | 0,_=>false
 | k+1,v=>match v with
  | .sc _=>true
  | .rs es=>es.all fun c=>c.all (AV.pure k)
  | .agg cs | .tup cs=>cs.all (AV.pure k)
  | _=>false
theorem nV0{G G':j4}(hG:∀ b o,G.imm b=some o->G'.imm b=some o):∀ (k:Nat) (v:AV) (u:Value),AV.pure k v=true->Rep G v u->Rep G' v u
 | 0,v,u,hp,_=>by simp[AV.pure]at hp
 | k+1,v,u,hp,hr=>by
  have ih:=nV0 hG k
  have hcell:∀ {b o:Nat} {v:Value},G.cell b o=some v->G'.cell b o=some v:=fun {b o v} hc=>by
   unfold j4.cell at *
   cases hb:G.imm b with
   | none=>simp[hb]at hc
   | some x=>rw[hG b x hb];simpa[hb]using hc
  unfold AV.pure at hp
  split at hp
  ·cases hr;exact .sc _
  ·rename_i es
   cases hr with
   | rsNil=>exact .rsNil
   | rs _ a cap size val hs hc hlen himm hrep =>
    refine .rs es a cap size val hs hc hlen (fun i j h1 h2=>hcell (himm i j h1 h2)) (fun i j hi hj=>ih _ _ ?_ (hrep i j hi hj))
    have:=List.all_eq_true.1 hp es[i] (List.getElem_mem hi)
    exact List.all_eq_true.1 this _ (List.getElem_mem hj)
  ·rename_i cs
   cases hr with
   | agg _ vs h1 h2=>exact .agg cs vs h1 (fun i hi hi'=>ih _ _ (List.all_eq_true.1 hp _ (List.getElem_mem hi)) (h2 i hi hi'))
  ·rename_i cs
   cases hr with
   | tup _ vs h1 h2=>exact .tup cs vs h1 (fun i hi hi'=>ih _ _ (List.all_eq_true.1 hp _ (List.getElem_mem hi)) (h2 i hi hi'))
  ·cases hp
def c9.none:c9:={ next:=0,tr:=.leaf,low:=0 }
theorem c9.none_objs(id:Nat):c9.none.objs id=Option.none:=Tr.get_leaf id
theorem sb0{P:Program}{f:FuncId}{args:List AV}{v c:AV}{σ':c9}(hp:args.all (AV.pure 100)=true){k:Nat}(hd:deep σ' k v=some c)
  (hcall:C1 P f args c9.none (fun v' σ''=>v'=v/\σ''=σ')) (σ:c9):C1 P f args σ (fun v' σ''=>v'=c/\σ''=σ):=by
 intro G vs w hargs hrel o a Kc Q hK
 let G0:j4:={ G with pl:=fun _=>Option.none }
 have hargs0:B7 G0 args vs:=⟨hargs.1,fun i h1 h2=>nV0 (G:=G) (G':=G0) (fun _ _ h=>h) 100 _ _ (List.all_eq_true.1 hp _ (List.getElem_mem h1)) (hargs.2 i h1 h2)⟩
 have hrel0:Rel G0 c9.none w:=⟨hrel.os,hrel.tape,hrel.output,hrel.size,hrel.imm,fun _ _=>rfl,(fun id o h=>by rw[c9.none_objs]at h;cases h),(fun i j oi oj pi pj h=>by rw[c9.none_objs]at h;cases h),hrel.glob⟩
 refine hcall G0 vs w hargs0 hrel0 o a Kc Q ?_
 rintro u av σ1 G1 w1 ht hr1 hrel1 ⟨rfl,rfl⟩
 have hnolive:∀ b,¬ ∃ id0 o0 p0,c9.none.objs id0=some o0/\G0.pl id0=some p0/\p0.virt=false/\p0.block=b:=fun b ⟨id,o0,p0,h,_⟩=>by rw[c9.none_objs]at h;cases h
 have hsame:∀ b,b<w.heap.size->w1.heap[b]?=w.heap[b]?:=fun b hb=>ht.fr.same b hb (fun id o p h=>by rw[c9.none_objs]at h;cases h)
 let G':j4:=G1.frozen σ1 w1 G.pl
 have himm:∀ b x,G'.imm b=some x->G.imm b=some x\/w.heap.size<=b:=fun b x hx=>by
  simp only[G',j4.frozen]at hx
  split at hx
  ·rename_i hl
   obtain⟨id,o1,p,h1,h2,h3,rfl⟩:=hl
   right
   rcases Nat.lt_or_ge p.block w.heap.size with h4 | h4
   ·exact absurd (ht.fr.live id o1 p h1 h2 h3 h4) (hnolive _)
   ·exact h4
  ·rcases ht.fr.imm b x hx with h1 | h1 | h1
   ·exact .inl h1
   ·exact .inr h1
   ·exact absurd h1 (hnolive _)
 have hle:G.le G':=⟨ht.le.w0,fun b x hb=>F7 hrel1 (ht.le.imm b x hb),fun _ _ h=>h⟩
 have hw0:G1.w0=G.w0:=ht.le.w0
 refine hK u c σ G' w1 ⟨hle,fun _ _ h=>h,Nat.le_refl _,⟨ht.fr.size,fun b hb _=>hsame b hb,fun id x p h1 h2 h3 _=>⟨id,x,p,h1,h2,h3,rfl⟩,fun b x hb=>?_,ht.fr.drawn⟩⟩ (qU0 hrel1 G.pl k _ _ _ hd hr1) ?_ ⟨rfl,rfl⟩
 ·rcases himm b x hb with h1 | h1
  ·exact .inl h1
  ·exact .inr (.inl h1)
 ·refine⟨hrel1.os,hrel1.tape,hrel1.output,hrel1.size,fun b x hb=>?_,hrel.fresh,fun id x hx=>?_,hrel.sep,fun b o v hv=>hle.cell (hrel.glob b o v hv)⟩
  ·simp only[G',j4.frozen]at hb
   split at hb
   ·exact hb
   ·exact hrel1.imm b x hb
  ·obtain⟨p,hp1,hl⟩:=hrel.objs id x hx
   refine⟨p,hp1,?_⟩
   rcases hl with ⟨h1,h2⟩ | ⟨h1,h2,h3,h4⟩
   ·exact .inl ⟨h1,h2⟩
   ·have hlt:=hrel.obj_lt hx hp1 h1
    refine .inr ⟨h1,?_,by show G1.w0.heap.size<=_;rw[hw0];exact h3,by rw[hsame _ hlt];exact h4.mono hle⟩
    cases hi:G'.imm p.block with
    | none=>rfl
    | some y =>
     rcases himm _ _ hi with h5 | h5
     ·rw[h2]at h5;cases h5
     ·omega
end Go.Ab
namespace Go.Ab
open Go
variable [B0]
def vbeq:Value->Value->Bool
 | .bool a,.bool b=>a==b
 | .int k a,.int l b=>decide (k=l)&&decide (a=b)
 | .string a,.string b=>decide (a=b)
 | .slice none 0 0,.slice none 0 0=>true
 | _,_=>false
theorem wk0{a b:Value}(h:vbeq a b=true):a=b:=by
 unfold vbeq at h
 split at h
 ·simp at h;rw[h]
 ·rw[Bool.and_eq_true]at h;rw[of_decide_eq_true h.1,of_decide_eq_true h.2]
 ·rw[of_decide_eq_true h]
 ·rfl
 ·cases h
structure Memo where
 f:FuncId
 args:List AV
 c:AV
def F3(P:Program)(m:Memo):Prop:=∀ σ,C1 P m.f m.args σ (fun v σ'=>v=m.c/\σ'=σ)
end Go.Ab
namespace Go.Ab
open Go
variable [B0]
def R5(P:Program):Nat->List Field->Bool
 | _,[]=>true
 | i,f::fs=>(f.name != "_")&&Nat.beq f.offset i&&(match P.underlying f.type with | some (.int _)=>true | _=>false)&&R5 P (i+1) fs
def sq0(P:Program)(t:TypeId)(n:Nat):Option Nat :=
 match P.eqGuardType P.depth t with
 | true=>none
 | false=>match P.underlying t with
  | some (.struct fs)=>if !P.stoodInHeld t&&R5 P 0 fs.toList&&Nat.beq fs.size n then some n else none
  | some (.array len elem)=>match P.underlying elem,P.info? elem with
   | some (.int _),some i=>if Nat.beq i.size 1&&Nat.beq len n then some n else none
   | _,_=>none
  | _=>none
def TT(P:Program)(t:TypeId):Option TI :=
 match P.underlying t,P.info? t with
 | some u,some i=>match i.zero with
  | some z=>match Nat.beq z.cells.size i.size with
   | true=>some { und:=u,size:=i.size,zero:=z,bytes:=i.bytes,flat:=sq0 P t i.size }
   | false=>none
  | none=>none
 | _,_=>none
section
variable {P:Program} (w:World)
theorem S0{t:TypeId}{k:IntKind}(h:P.underlying t=some (.int k))(cs:Array Value)(off:Nat)(v:Value)(hv:cs[off]?=some v):(part t cs off).run P w=.ok v w:=by
 simp[part,isAgg,underlying,h,hv]
theorem eo0(d:Nat)(as bs:List Int):∀ (fs:List Field) (i:Nat),R5 P i fs=true->i+fs.length=as.length->bs.length=as.length ->
  (Op.eqFields (d+1) (as.map (Value.int .i64)).toArray (bs.map (Value.int .i64)).toArray fs).run P w=.ok (as.drop i==bs.drop i) w
 | [],i,_,h1,h2=>by
  simp only[List.length_nil,Nat.add_zero]at h1
  simp[Op.eqFields,h1,<-h2]
 | f::fs,i,hf,h1,h2=>by
  simp only[List.length_cons]at h1
  simp only[R5,Bool.and_eq_true]at hf
  obtain⟨⟨⟨hn,ho⟩,hu⟩,hr⟩:=hf
  have ho':f.offset=i:=Nat.eq_of_beq_eq_true ho
  have hn':f.name≠ "_":=by simpa using hn
  split at hu
  ·rename_i k hk
   have ha:(as.map (Value.int .i64)).toArray[f.offset]?=some (.int .i64 (as[i]'(by omega))):=by rw[ho'];simp
   have hb:(bs.map (Value.int .i64)).toArray[f.offset]?=some (.int .i64 (bs[i]'(by omega))):=by rw[ho'];simp
   have ih:=eo0 d as bs fs (i+1) hr (by omega) h2
   have e1:as.drop i=as[i]'(by omega)::as.drop (i+1):=List.drop_eq_getElem_cons (by omega)
   have e2:bs.drop i=bs[i]'(by omega)::bs.drop (i+1):=List.drop_eq_getElem_cons (by omega)
   simp only[Op.eqFields,if_pos hn',Sem.run_bind,S0 w hk _ _ _ ha,S0 w hk _ _ _ hb,Result.andThen_ok,run_equalIn_int w d f.type .i64 k _ _ hk]
   have key:(as.drop i==bs.drop i)=((as[i]'(by omega)==bs[i]'(by omega))&&(as.drop (i+1)==bs.drop (i+1))):=by rw[e1,e2];exact List.cons_beq_cons
   rw[key]
   by_cases hq:as[i]'(by omega)=bs[i]'(by omega)
   ·have hq':(as[i]'(by omega)==bs[i]'(by omega))=true:=by simpa using hq
    simp only[hq',Bool.not_true,Bool.false_eq_true,if_false,ih,Bool.true_and]
   ·have hq':(as[i]'(by omega)==bs[i]'(by omega))=false:=by simpa using hq
    simp only[hq',Bool.not_false,if_true,Sem.run_pure,Bool.false_and]
  ·cases hu
theorem ce0(b:Bool)(d:Nat)(as:List Int):∀ (fs:List Field) (i:Nat),R5 P i fs=true->i+fs.length=as.length ->
  (forIn fs PUnit.unit (fun (f:Field) (_:PUnit)=>do
    if f.name≠ "_" then Instr.checkKey b (d+1) f.type (<- part f.type (as.map (Value.int .i64)).toArray f.offset)
    pure (ForInStep.yield PUnit.unit)):Sem PUnit).run P w=.ok PUnit.unit w
 | [],i,_,h1=>by simp
 | f::fs,i,hf,h1=>by
  simp only[List.length_cons]at h1
  simp only[R5,Bool.and_eq_true]at hf
  obtain⟨⟨⟨hn,ho⟩,hu⟩,hr⟩:=hf
  have ho':f.offset=i:=Nat.eq_of_beq_eq_true ho
  have hn':f.name≠ "_":=by simpa using hn
  split at hu
  ·rename_i k hk
   have ha:(as.map (Value.int .i64)).toArray[f.offset]?=some (.int .i64 (as[i]'(by omega))):=by rw[ho'];simp
   have ih:=ce0 b d as fs (i+1) hr (by omega)
   have hck:(Instr.checkKey b (d+1) f.type (.int .i64 (as[i]'(by omega)))).run P w=.ok () w:=by
    simp[Instr.checkKey,underlying,hk]
   rw[List.forIn_cons]
   simp only[if_pos hn',Sem.run_bind,S0 w hk _ _ _ ha,Result.andThen_ok,hck,Sem.run_pure]
   exact ih
  ·cases hu
theorem fI0{t:TypeId}{fs:Array Field}(hu:P.underlying t=some (.struct fs))(hf:R5 P 0 fs.toList=true)(b:Bool)(d:Nat)(as:List Int)(h1:as.length=fs.size) :
  (Instr.checkKey b (d+2) t (.agg (as.map (Value.int .i64)).toArray)).run P w=.ok () w:=by
 have:=ce0 w b d as fs.toList 0 hf (by simp[h1])
 rw[Instr.checkKey]
 simp only[Sem.run_bind,run_underlying hu,Result.andThen_ok]
 rw[<- Array.forIn_toList]
 have e:=congrArg (fun r=>r.andThen fun (_:PUnit) w'=>Sem.run P (pure ()) w') this
 simp only[Result.andThen_ok,Sem.run_pure]at e
 exact e
theorem mV0{t:TypeId}{fs:Array Field}(hu:P.underlying t=some (.struct fs))(hs:P.stoodInHeld t=false)(hf:R5 P 0 fs.toList=true)(as bs:List Int)(h1:as.length=fs.size)(h2:bs.length=fs.size) :
  (Op.equalIn 10000 t (.agg (as.map (Value.int .i64)).toArray) (.agg (bs.map (Value.int .i64)).toArray)).run P w=.ok (as==bs) w /\
  ∀ b,(Instr.checkKey b 10000 t (.agg (as.map (Value.int .i64)).toArray)).run P w=.ok () w:=by
 have hfo:P.fieldsOf t=fs:=by simp[Program.fieldsOf,hu]
 constructor
 ·rw[run_equalIn_struct w 9999 t _ _ (by rw[hfo];exact hu) hs,hfo,eo0 w 9998 as bs fs.toList 0 hf (by simp[h1]) (by omega)]
  simp
 ·intro b
  exact fI0 w hu hf b 9998 as h1
theorem fq0{elem:TypeId}{k:IntKind}(hu:P.underlying elem=some (.int k))(d:Nat)(as bs:List Int)(h2:bs.length=as.length):∀ (m i:Nat),i+m=as.length ->
  (forIn (List.range' i m) (none,PUnit.unit) (fun (i:Nat) (_:Option Bool×PUnit)=>do
    if !(<- Op.equalIn (d+1) elem (<- part elem (as.map (Value.int .i64)).toArray (i*1)) (<- part elem (bs.map (Value.int .i64)).toArray (i*1)))then pure (ForInStep.done (some false,PUnit.unit))
    else pure (ForInStep.yield (none,PUnit.unit))):Sem (Option Bool×PUnit)).run P w=.ok (if as.drop i==bs.drop i then none else some false,PUnit.unit) w
 | 0,i,h1=>by
  simp only[Nat.add_zero]at h1
  simp[h1,<-h2]
 | m+1,i,h1=>by
  have ha:(as.map (Value.int .i64)).toArray[i*1]?=some (.int .i64 (as[i]'(by omega))):=by simp
  have hb:(bs.map (Value.int .i64)).toArray[i*1]?=some (.int .i64 (bs[i]'(by omega))):=by simp
  have ih:=fq0 hu d as bs h2 m (i+1) (by omega)
  have e1:as.drop i=as[i]'(by omega)::as.drop (i+1):=List.drop_eq_getElem_cons (by omega)
  have e2:bs.drop i=bs[i]'(by omega)::bs.drop (i+1):=List.drop_eq_getElem_cons (by omega)
  have key:(as.drop i==bs.drop i)=((as[i]'(by omega)==bs[i]'(by omega))&&(as.drop (i+1)==bs.drop (i+1))):=by rw[e1,e2];exact List.cons_beq_cons
  rw[List.range'_succ,List.forIn_cons,key]
  simp only[Sem.run_bind,S0 w hu _ _ _ ha,S0 w hu _ _ _ hb,Result.andThen_ok,run_equalIn_int w d elem .i64 k _ _ hu]
  by_cases hq:as[i]'(by omega)=bs[i]'(by omega)
  ·have hq':(as[i]'(by omega)==bs[i]'(by omega))=true:=by simpa using hq
   simp only[hq',Bool.not_true,Bool.false_eq_true,if_false,Sem.run_pure,Result.andThen_ok,Bool.true_and]
   exact ih
  ·have hq':(as[i]'(by omega)==bs[i]'(by omega))=false:=by simpa using hq
   simp only[hq',Bool.not_false,if_true,Sem.run_pure,Result.andThen_ok,Bool.false_and,Bool.false_eq_true,if_false]
theorem cH0{elem:TypeId}{k:IntKind}(hu:P.underlying elem=some (.int k))(hz:(sizeOf elem).run P w=.ok 1 w)(b:Bool)(d:Nat)(as:List Int):∀ (m i:Nat),i+m=as.length ->
  (forIn (List.range' i m) PUnit.unit (fun (i:Nat) (_:PUnit)=>do
    Instr.checkKey b (d+1) elem (<- part elem (as.map (Value.int .i64)).toArray (i*(<- sizeOf elem)))
    pure (ForInStep.yield PUnit.unit)):Sem PUnit).run P w=.ok PUnit.unit w
 | 0,i,h1=>by simp
 | m+1,i,h1=>by
  have ha:(as.map (Value.int .i64)).toArray[i*1]?=some (.int .i64 (as[i]'(by omega))):=by simp
  have ih:=cH0 hu hz b d as m (i+1) (by omega)
  have hck:(Instr.checkKey b (d+1) elem (.int .i64 (as[i]'(by omega)))).run P w=.ok () w:=by
   simp[Instr.checkKey,underlying,hu]
  rw[List.range'_succ,List.forIn_cons]
  simp only[Sem.run_bind,hz,Result.andThen_ok,S0 w hu _ _ _ ha,hck,Sem.run_pure]
  exact ih
theorem gK0{t elem:TypeId}{n:Nat}{k:IntKind}(ht:P.underlying t=some (.array n elem))(hu:P.underlying elem=some (.int k))(hz:(sizeOf elem).run P w=.ok 1 w)(b:Bool)(d:Nat)(as:List Int)(h1:as.length=n) :
  (Instr.checkKey b (d+2) t (.agg (as.map (Value.int .i64)).toArray)).run P w=.ok () w:=by
 have:=cH0 w hu hz b d as n 0 (by omega)
 rw[Instr.checkKey]
 simp only[Sem.run_bind,run_underlying ht,Result.andThen_ok]
 rw[Std.Legacy.Range.forIn_eq_forIn_range']
 have e:=congrArg (fun r=>r.andThen fun (_:PUnit) w'=>Sem.run P (pure ()) w') this
 simp only[Result.andThen_ok,Sem.run_pure]at e
 simpa using e
theorem lA0{t elem:TypeId}{n:Nat}{k:IntKind}(ht:P.underlying t=some (.array n elem))(hu:P.underlying elem=some (.int k))(hz:(sizeOf elem).run P w=.ok 1 w)(d:Nat)(as bs:List Int)(h1:as.length=n)(h2:bs.length=n) :
  (Op.equalIn (d+2) t (.agg (as.map (Value.int .i64)).toArray) (.agg (bs.map (Value.int .i64)).toArray)).run P w=.ok (as==bs) w:=by
 have:=fq0 w hu d as bs (by omega) n 0 (by omega)
 rw[Op.equalIn]
 simp only[Sem.run_bind,run_underlying ht,Result.andThen_ok,hz]
 rw[Std.Legacy.Range.forIn_eq_forIn_range']
 have hsz:[:n].size=n:=by simp
 rw[hsz]
 erw [this]
 simp only[Result.andThen_ok,List.drop_zero]
 by_cases hq:(as==bs)=true
 ·simp[hq]
 ·have hq':(as==bs)=false:=by simpa using hq
  rw[hq'];simp
theorem TT_ok(P:Program):C2 P (TT P):=by
 have split_:∀ t ti,TT P t=some ti->∃ u i z,P.underlying t=some u/\P.info? t=some i/\i.zero=some z/\z.cells.size=i.size/\ti={ und:=u,size:=i.size,zero:=z,bytes:=i.bytes,flat:=sq0 P t i.size }:=by
  intro t ti h
  unfold TT at h
  split at h
  ·rename_i u i hu hi
   split at h
   ·rename_i z hz
    split at h
    ·rename_i hb
     cases h
     exact⟨u,i,z,hu,hi,hz,Nat.eq_of_beq_eq_true hb,rfl⟩
    ·cases h
   ·cases h
  ·cases h
 refine⟨fun t ti h=>?_,fun t ti h=>?_,fun t ti h=>?_,fun t ti n h hn=>?_⟩
 ·obtain⟨u,i,z,h1,h2,h3,h4,rfl⟩:=split_ t ti h;exact h1
 ·obtain⟨u,i,z,h1,h2,h3,h4,rfl⟩:=split_ t ti h;exact⟨i,h2,rfl,rfl,h3⟩
 ·obtain⟨u,i,z,h1,h2,h3,h4,rfl⟩:=split_ t ti h;exact h4
 ·obtain⟨u,i,z,h1,h2,h3,h4,rfl⟩:=split_ t ti h
  simp only at hn
  unfold sq0 at hn
  split at hn
  ·cases hn
  ·rename_i hg
   refine⟨hg,fun as bs w ha hb=>?_⟩
   split at hn
   ·rename_i fs hfs
    split at hn
    ·rename_i hc
     cases hn
     simp only[Bool.and_eq_true,Bool.not_eq_true']at hc
     have hsz:=Nat.eq_of_beq_eq_true hc.2
     exact mV0 w hfs hc.1.1 hc.1.2 as bs (by omega) (by omega)
    ·cases hn
   ·rename_i len elem hfs
    split at hn
    ·rename_i k i' hk hi'
     split at hn
     ·rename_i hc
      cases hn
      simp only[Bool.and_eq_true]at hc
      have hs1:=Nat.eq_of_beq_eq_true hc.1
      have hs2:=Nat.eq_of_beq_eq_true hc.2
      have hz:(sizeOf elem).run P w=.ok 1 w:=by simp[sizeOf,typeInfo,hi',hs1]
      exact⟨lA0 w hfs hk hz 9998 as bs (by omega) (by omega),fun b=>gK0 w hfs hk hz b 9998 as (by omega)⟩
     ·cases hn
    ·cases hn
   ·cases hn
def tTr(P:Program):Tr TI:=Tr.ofList ((List.range P.types.size).filterMap fun t=>(TT P t).map fun x=>(t,x)) .leaf
theorem tTr_ok(P:Program):C2 P (fun t=>(tTr P).get t):=by
 have key:∀ t ti,(tTr P).get t=some ti->TT P t=some ti:=by
  intro t ti h
  rcases Tr.ofList_get _ _ _ _ h with h | h
  ·obtain⟨x,_,hx⟩:=List.mem_filterMap.1 h
   cases hT:TT P x with
   | none=>simp[hT]at hx
   | some y=>simp[hT]at hx;obtain⟨rfl,rfl⟩:=hx;exact hT
  ·rw[Tr.get_leaf]at h;cases h
 have h0:=TT_ok P
 exact⟨fun t ti h=>h0.und t ti (key t ti h),fun t ti h=>h0.info t ti (key t ti h),fun t ti h=>h0.zlen t ti (key t ti h),fun t ti n h=>h0.flat t ti n (key t ti h)⟩
end
end Go.Ab
namespace Go.Ab
open Go
variable [B0]
theorem rs0{P:Program}{f:FuncId}(hrun:∀ args w,(callFunc f args).run P w=((add64Entry args).run P w).andThen fun v w'=>.ok (.value v) w'){args:List AV}{σ σ':c9}{v:AV}(h:nC0 args σ=some (v,σ')) :
  C1 P f args σ (fun v' σ''=>v'=v/\σ''=σ')/\Z2 σ σ':=by
 unfold nC0 at h
 split at h
 ·rename_i x y c
  split at h
  ·rename_i hc
   cases h
   refine⟨C1.of_extern _ ⟨rfl,rfl⟩ ?_,.refl _⟩
   intro G vs w hargs _
   obtain⟨v1,l1,rfl,r1,hargs⟩:=hargs.cons_inv
   obtain⟨v2,l2,rfl,r2,hargs⟩:=hargs.cons_inv
   obtain⟨v3,l3,rfl,r3,hargs⟩:=hargs.cons_inv
   rw[hargs.nil_inv]
   cases r1;cases r2;cases r3
   refine⟨_,by rw[hrun,run_add64 x y c hc.1 hc.2.1 (by omega) (by omega)];rfl,?_⟩
   exact .tup _ [_,_] rfl (fun i h1 h2=>by
    match i with
    | 0=>exact .sc _
    | 1=>exact .sc _)
  ·cases h
 ·cases h
theorem bp0.weaken{P:Program}{f:FuncId}{args:List AV}{σ:c9}{R R':AV->c9->Prop}(h:bp0 P f args σ R)
  (hr:∀ v σ1,R v σ1->∃ σ2,R' v σ2/\σ1.next<=σ2.next/\∀ k x,σ2.objs k=some x->σ1.objs k=some x):bp0 P f args σ R':=by
 intro G vs w h1 h2
 refine(h G vs w h1 h2).mono ?_
 rintro e w' ⟨v,av,σ1,G',rfl,b1,b2,b3,b4⟩
 obtain⟨σ2,c1,c2,c3⟩:=hr av σ1 b4
 have hr2:Rel G' { σ1 with next:=σ2.next } w':=b3.next c2
 exact⟨v,av,σ2,G',rfl,⟨b1.le,b1.keeps,Nat.le_trans b1.next c2,b1.fr.trans (Fr.less c3)⟩,b2,hr2.less rfl c3,c1⟩
end Go.Ab
namespace Go.Ab
open Go
variable [B0]
structure nH0(o:Oper)(d:Option Tmp)(op:Op):Prop where
 dst:o.dst=d
 op:o.op=op
 guard:o.guard=none
theorem nH0.wanted{o:Oper}{d:Option Tmp}{op:Op}(h:nH0 o d op)(ops:Array Oper)(s:AS):E3 ops s o=some true:=by simp[E3,h.guard]
section
variable {P:Program} {T:Tab} {ops:Array Oper} {n0:Nat} {Q:AS->Prop} {s:AS}
theorem cl0.is(hT:C2 P T){i:Nat}{rest:List Nat}{o:Oper}{d:Tmp}{op:Op}{v:AV}{σ':c9}(ho:ops[i]?=some o)(h:nH0 o (some d) op)(hi:i∉rest)(hd:d<s.n)
  (ha:aop T s.eval s.st (n0+i) op=some (v,σ')) (hk:cl0 P ops n0 Q rest ({ s with st:=σ' }.put (some d) v)):cl0 P ops n0 Q (i::rest) s:=by
 refine cl0.plain hT ho hi (h.wanted ops s) (by rw[h.dst];simpa[S8]using hd) (by rw[h.op];exact ha) (kb0 ha).1 ?_
 rw[h.dst];exact hk
theorem cl0.nilTest(hT:C2 P T){i:Nat}{rest:List Nat}{o:Oper}{d:Tmp}{t elem yt:TypeId}{ti:TI}{x:Operand}(ho:ops[i]?=some o)(h:nH0 o (some d) (.binOp .eql t x (.const (.slice none 0 0)) yt))(hd:d<s.n)
  (ht:T t=some ti) (hu:ti.und=.slice elem) (hx:(∃ es,s.eval x=.rs es)\/∃ id z off len,s.eval x=.ms id z off len)
  (hk:∀ b,cl0 P ops n0 Q rest (s.put (some d) (.sc (.bool b)))):cl0 P ops n0 Q (i::rest) s:=by
 intro G a w hr hf hn
 have hxr:=hr.eval x
 have hval:∃ q l c,a.eval x=.slice q l c:=by
  generalize a.eval x=u at hxr
  rcases hx with ⟨es,e⟩ | ⟨id,z,off,len,e⟩<;>rw[e]at hxr<;>cases hxr<;>exact⟨_,_,_,rfl⟩
 obtain⟨q,l,c,hev⟩:=hval
 simp only[wpOps,ho,S7 hr (h.wanted ops s),if_true]
 left
 have hund:P.underlying t=some (.slice elem):=by rw[hT.und t ti ht,hu]
 have hrun:(execOp a.eval o).run P w=.ok (.value (.bool q.isNone)) w:=by
  have hc:a.eval (.const (.slice none 0 0))=.slice none 0 0:=rfl
  simp only[execOp,h.op,hev,hc,eqGuard,Sem.run_bind,Sem.run_pure,Result.andThen_ok,binOp,Op.equal,Op.maxDepth]
  have e:=aA0 w 9999 t elem q l c hund
  simp only[Nat.reduceAdd]at e
  simp only[Bool.not_true,Bool.false_eq_true,if_false,Sem.run_pure,Result.andThen_ok,e]
 unfold Oper.wp
 rw[hrun]
 simp only[Oper.upon]
 have:=hk q.isNone G (a.put (some d) (.bool q.isNone)) w (hr.put (.refl G) hr.rel (.sc _) (by simpa[S8]using hd)) (fun j hj=>hf j (by simp[hj])) (by simpa using hn)
 rw[h.dst]
 simpa using this
end
@[simp] theorem AS.get_st (s:AS) (σ:c9) (t:Nat):({ s with st:=σ }:AS).get t=s.get t:=rfl
def wq0:Operand:=.const (.slice none 0 0)
structure lZ0(fn:Func)(t:TypeId):Prop where
 ntmps:fn.ntmps=8
 results:fn.results=#[.tmp 2]
 body:∃ i0 i1 i2 i3 o0 o1 o2 o3 o4 o5 o6 o7 yt,fn.body=some (.seq (.region i0 #[o0] false) (.seq (.seq (.region i1 #[o1,o2] false) (.cond (.tmp 4) (.seq (.region i2 #[o3] false) .ret) .skip)) (.seq (.region i3 #[o4,o5,o6,o7] false) .ret))) /\
  nH0 o0 (some 2) (.assign wq0)/\nH0 o1 (some 3) (.move (.tmp 0))/\nH0 o2 (some 4) (.binOp .eql t (.tmp 3) wq0 yt)/\nH0 o3 (some 2) (.assign wq0) /\
  nH0 o4 (some 5) (.buildSlice t 0 #[])/\nH0 o5 (some 6) (.move (.tmp 0))/\nH0 o6 (some 7) (.call { callee:=.builtin .append,args:=#[.tmp 5,.tmp 6],argTypes:=#[t,t] })/\nH0 o7 (some 2) (.assign (.tmp 7))
theorem bp0.withLt{P:Program}{f:FuncId}{args:List AV}{σ:c9}{R:AV->c9->Prop}(h:(∀ k x,σ.objs k=some x->k<σ.next)->bp0 P f args σ R):bp0 P f args σ R :=
 fun G vs w h1 h2=>h (fun k x hx=>h2.objs_lt hx) G vs w h1 h2
structure Step(s:AS)(d:Nat)(v:AV)(σ':c9)(s':AS):Prop where
 n:s'.n=s.n
 get:∀ t,s'.get t=if t=d then v else s.get t
 st:s'.st=σ'
theorem Step.same{s s':AS}{d:Nat}{v:AV}{σ':c9}(h:Step s d v σ' s'):s'.get d=v:=by rw[h.get,if_pos rfl]
theorem Step.other{s s':AS}{d t:Nat}{v:AV}{σ':c9}(h:Step s d v σ' s')(ht:t≠d):s'.get t=s.get t:=by rw[h.get,if_neg ht]
section
variable {P:Program} {T:Tab} {ops:Array Oper} {n0:Nat} {Q:AS->Prop} {s:AS}
theorem cl0.step(hT:C2 P T){i:Nat}{rest:List Nat}{o:Oper}{d:Tmp}{op:Op}{v:AV}{σ':c9}(ho:ops[i]?=some o)(h:nH0 o (some d) op)(hi:i∉rest)(hd:d<s.n)
  (ha:aop T s.eval s.st (n0+i) op=some (v,σ')) (hk:∀ s',Step s d v σ' s'->cl0 P ops n0 Q rest s'):cl0 P ops n0 Q (i::rest) s :=
 cl0.is hT ho h hi hd ha (hk _ ⟨by simp,fun t=>AS.get_put _ _ _ _,by simp⟩)
theorem AWp.region'{Q:Exit->AS->Prop}{id:Nat}{ops:Array Oper}(h:∀ s',s'.n=s.n->(∀ t,s'.get t=s.get t)->s'.st={ s.st with next:=s.st.next+ops.size }->cl0 P ops s.st.next (fun s'=>Q .normal s') (List.range ops.size) s'):AWp P (.region id ops false) Q s :=
 AWp.region (h _ rfl (fun _=>rfl) rfl)
end
theorem iI0{P:Program}{T:Tab}(hT:C2 P T){fn:Func}{t elem:TypeId}{ti ei:TI}(hfn:lZ0 fn t)(ht:T t=some ti)(hu:ti.und=.slice elem)(hei:T elem=some ei){f:FuncId}(hf:P.funcs[f]?=some fn){x:AV}{σ:c9}
  {xs:List (List AV)} (hsrc:P6 σ x=some xs) (hok:(xs.all fun c=>c.length==ei.size&&c.all AV.one)=true) (hby:(2*xs.length+1000)*ei.bytes<=2^48) (hlen:xs.length<=2^62) (hsz:0<ei.size)
  (hlt:∀ k x,σ.objs k=some x->k<σ.next) (R:AV->c9->Prop)
  (hA:x.isNil≠some false->R (.sc (.slice none 0 0)) { σ with next:=σ.next+4 })
  (hB:x.isNil≠some true->∀ σ1:c9,σ1.next=σ.next+7->(∀ k,σ1.objs k=if k=σ.next+5 then some (.row elem ei.size xs)else σ.objs k)->R (.ms (σ.next+5) ei.size 0 xs.length) σ1) :
  bp0 P f [x] σ R:=by
 obtain⟨i0,i1,i2,i3,o0,o1,o2,o3,o4,o5,o6,o7,yt,hb,h0,h1,h2,h3,h4,h5,h6,h7⟩:=hfn.body
 refine bp0.of_body hT hf hb (by rw[hfn.ntmps];simp) ?_
 rw[hfn.ntmps]
 have hg0:(AS.enter 8 [x] σ).get 0=x:=by rw[AS.enter_get];rfl
 have hn0:(AS.enter 8 [x] σ).n=8:=rfl
 have hst0:(AS.enter 8 [x] σ).st=σ:=rfl
 generalize AS.enter 8 [x] σ=s at hg0 hn0 hst0
 have hres:∀ s:AS,D0 T fn s=some (s.get 2):=fun s=>by simp[D0,hfn.results,eI0,kL0]
 have hti:∀ σ id,I0 T σ id t 0 []=some (.ms id ei.size 0 0,σ.set id (.row elem ei.size [])):=fun σ id=>by
  obtain⟨u,z1,z2,z3,z4⟩:=ti
  simp only at hu;subst hu
  simp[I0,ht,hei,hsz,Q7]
 refine AWp.seq (AWp.region' fun s1 n1 g1 t1=>?_)
 show cl0 P #[o0] _ _ [0] _
 refine cl0.step hT rfl h0 (by simp) (by rw[n1,hn0];decide) (v:=.sc (.slice none 0 0)) (σ':=s1.st) rfl fun s2 k2=>cl0.nil ?_
 show AWp P (.seq _ _) _ s2
 have hn2:s2.n=8:=by rw[k2.n,n1,hn0]
 have hx2:s2.get 0=x:=by rw[k2.other (by decide),g1,hg0]
 have hst2:s2.st={ σ with next:=σ.next+1 }:=by rw[k2.st,t1,hst0];rfl
 refine AWp.seq (AWp.seq (AWp.region' fun s3 n3 g3 t3=>?_))
 show cl0 P #[o1,o2] _ _ [0,1] _
 refine cl0.step hT rfl h1 (by simp) (by rw[n3,hn2];decide) (v:=x) (σ':=s3.st) (by simp only[aop,AS.eval];rw[g3,hx2]) fun s4 k4=>?_
 have hn4:s4.n=8:=by rw[k4.n,n3,hn2]
 have hx4:s4.get 0=x:=by rw[k4.other (by decide),g3,hx2]
 have hst4:s4.st={ σ with next:=σ.next+3 }:=by rw[k4.st,t3,hst2];rfl

 have rest:∀ b:Bool,x.isNil≠some (!b)->∀ s5:AS,s5.n=8->s5.get 0=x->s5.get 4=.sc (.bool b)->s5.st={ σ with next:=σ.next+3 } ->
   AWp P (.cond (.tmp 4) (.seq (.region i2 #[o3] false) .ret) .skip) (mL0 (AWp P (.seq (.region i3 #[o4,o5,o6,o7] false) .ret) (fun e s'=>(e=.normal\/e=.ret)/\∃ v,D0 T fn s'=some v/\R v s'.st)) (fun e s'=>(e=.normal\/e=.ret)/\∃ v,D0 T fn s'=some v/\R v s'.st)) s5:=by
  intro b hb s5 n5 x5 c5 t5
  refine AWp.cond (t:=b) c5 ?_
  cases b with
  | true =>
   refine AWp.seq (AWp.region' fun s6 n6 g6 t6=>?_)
   show cl0 P #[o3] _ _ [0] _
   refine cl0.step hT rfl h3 (by simp) (by rw[n6,n5];decide) (v:=.sc (.slice none 0 0)) (σ':=s6.st) rfl fun s7 k7=>cl0.nil ?_
   refine AWp.ret ?_
   refine⟨.inr rfl,_,hres _,?_⟩
   rw[k7.same,k7.st,t6,t5]
   exact hA hb
  | false =>
   refine AWp.skip ?_
   refine AWp.seq (AWp.region' fun s6 n6 g6 t6=>?_)
   show cl0 P #[o4,o5,o6,o7] _ _ [0,1,2,3] _
   have hst6:s6.st={ σ with next:=σ.next+7 }:=by rw[t6,t5];rfl
   have hnx:s5.st.next=σ.next+3:=by rw[t5]
   rw[hnx]
   refine cl0.step hT rfl h4 (by simp) (by rw[n6,n5];decide) (v:=.ms (σ.next+3) ei.size 0 0) (σ':=s6.st.set (σ.next+3) (.row elem ei.size [])) (hti _ _) fun s7 k7=>?_
   refine cl0.step hT rfl h5 (by simp) (by rw[k7.n,n6,n5];decide) (v:=x) (σ':=s7.st) (by simp only[aop,AS.eval];rw[k7.other (by decide),g6,x5]) fun s8 k8=>?_
   have e5:s8.get 5=.ms (σ.next+3) ei.size 0 0:=by rw[k8.other (by decide),k7.same]
   have e6:s8.get 6=x:=k8.same
   have hst8:s8.st=s6.st.set (σ.next+3) (.row elem ei.size []):=by rw[k8.st,k7.st]
   have ho8:∀ k,s8.st.objs k=if k=σ.next+3 then some (.row elem ei.size [])else σ.objs k:=fun k=>by rw[hst8,c9.objs_set,hst6];rfl
   have hsrc8:P6 s8.st x=some xs:=by
    rw[<- hsrc]
    unfold P6
    split
    ·rename_i id z off len
     rw[ho8]
     have:id≠σ.next+3:=fun e=>by
      simp only[P6]at hsrc
      split at hsrc
      ·rename_i ho;have:=hlt _ _ ho;omega
      ·cases hsrc
     rw[if_neg this]
    ·rfl
    ·rfl
    ·rfl
   have happ:E9 T s8.st (σ.next+5) t t (.ms (σ.next+3) ei.size 0 0) x=some (.ms (σ.next+5) ei.size 0 xs.length,(s8.st.del (σ.next+3)).set (σ.next+5) (.row elem ei.size xs)):=by
    obtain⟨u,z1,z2,z3,z4⟩:=ti
    simp only at hu;subst hu
    have htr:w9 s8.st (.ms (σ.next+3) ei.size 0 0)=s8.st:=by simp[w9,ho8]
    simp only[E9,ht,htr]
    have hbase:S3 s8.st elem ei.size (.ms (σ.next+3) ei.size 0 0)=some (some (σ.next+3),[]):=by simp[S3,ho8]
    simp only[N9,ht,hei,hbase,hsrc8]
    rw[if_pos ⟨rfl,hok,by simpa using hby,by simpa using hlen,hsz⟩]
    simp
   refine cl0.step hT rfl h6 (by simp) (by rw[k8.n,k7.n,n6,n5];decide) (v:=.ms (σ.next+5) ei.size 0 xs.length) (σ':=(s8.st.del (σ.next+3)).set (σ.next+5) (.row elem ei.size xs)) (by
    simp only[aop,F6,List.map_cons,List.map_nil,AS.eval,e5,e6]
    exact happ) fun s9 k9=>?_
   refine cl0.step hT rfl h7 (by simp) (by rw[k9.n,k8.n,k7.n,n6,n5];decide) (v:=.ms (σ.next+5) ei.size 0 xs.length) (σ':=s9.st) (by simp only[aop,AS.eval];rw[k9.same]) fun s10 k10=>cl0.nil ?_
   refine AWp.ret ?_
   refine⟨.inr rfl,_,hres _,?_⟩
   rw[k10.same,k10.st,k9.st]
   refine hB hb _ ?_ (fun k=>?_)
   ·rw[c9.set_next]
    show s8.st.next=_
    rw[hst8,c9.set_next,hst6]
   ·rw[c9.objs_set,c9.objs_del,ho8]
    by_cases q:k=σ.next+5
    ·simp[q]
    ·rw[if_neg q,if_neg q]
     by_cases q2:k=σ.next+3
     ·rw[if_pos q2]
      cases hk:σ.objs k with
      | none=>rfl
      | some y=>have:=hlt _ _ hk;omega
     ·rw[if_neg q2,if_neg q2]
 have hev:s4.eval (.tmp 3)=x:=k4.same
 cases hnil:x.isNil with
 | some b =>
  refine cl0.step hT rfl h2 (by simp) (by rw[hn4];decide) (v:=.sc (.bool b)) (σ':=s4.st) (by
   obtain⟨u,z1,z2,z3,z4⟩:=ti
   simp only at hu;subst hu
   simp only[aop,wq0]
   rw[hev]
   simp[im0,AS.eval,AV.ofValue,ht,hnil]) fun s5 k5=>cl0.nil ?_
  exact rest b (by rw[hnil];cases b<;>simp) s5 (by rw[k5.n,hn4]) (by rw[k5.other (by decide),hx4]) k5.same (by rw[k5.st,hst4])
 | none =>
  refine cl0.nilTest hT rfl h2 (by rw[hn4];decide) ht hu (by
   rw[hev]
   unfold P6 at hsrc
   split at hsrc
   ·exact .inr ⟨_,_,_,_,rfl⟩
   ·exact .inl ⟨_,rfl⟩
   ·simp[AV.isNil]at hnil
   ·cases hsrc) fun b=>cl0.nil ?_
  have k5:Step s4 4 (.sc (.bool b)) s4.st (s4.put (some 4) (.sc (.bool b))):=⟨by simp,fun t=>AS.get_put _ _ _ _,by simp⟩
  exact rest b (by rw[hnil];simp) _ (by rw[k5.n,hn4]) (by rw[k5.other (by decide),hx4]) k5.same (by rw[k5.st,hst4])
theorem qR0{σ:c9}{x:AV}{xs:List (List AV)}(hsrc:P6 σ x=some xs)(hn:x.isNil≠some false):xs=[]:=by
 unfold P6 at hsrc
 split at hsrc
 ·rename_i id z off len
  split at hsrc
  ·split at hsrc
   ·cases hsrc
    cases len with
    | zero=>simp
    | succ len=>simp[AV.isNil]at hn
   ·cases hsrc
  ·cases hsrc
 ·cases hsrc
  cases xs with
  | nil=>rfl
  | cons e es=>simp[AV.isNil]at hn
 ·cases hsrc;rfl
 ·cases hsrc
theorem ks0 {P:Program} {T:Tab} (hT:C2 P T) {f:FuncId} {fn:Func} {t:TypeId} (hf:P.funcs[f]?=some fn) (hname:(fn.name== "runtime.NumGoroutine")=false) (hfn:lZ0 fn t) {args:List AV} {σ σ':c9} {v:AV}
  (h:iM0 T t args σ=some (v,σ')):C1 P f args σ (fun v' σ''=>v'=v/\σ''=σ')/\Z2 σ σ':=by
 have hbody:fn.body.isNone=false:=by obtain⟨_,_,_,_,_,_,_,_,_,_,_,_,_,hb,_⟩:=hfn.body;simp[hb]
 unfold iM0 at h
 split at h
 ·rename_i x
  split at h
  ·rename_i elem z1 z2 z3 z4 ht
   split at h
   ·rename_i ei hei
    split at h
    ·rename_i xs hsrc
     split at h
     ·rename_i hc
      obtain⟨hok,hby,hlen,hsz⟩:=hc
      split at h
      ·rename_i hnil
       cases h
       refine⟨C1.of_calls hf hname hbody (bp0.withLt fun hlt=>?_),⟨Nat.le_refl _,fun _ _=>rfl⟩⟩
       refine(iI0 hT hfn ht rfl hei hf hsrc hok hby hlen hsz hlt (fun v σ1=>v=.sc (.slice none 0 0)/\σ1={ σ with next:=σ.next+4 }) (fun _=>⟨rfl,rfl⟩) (fun hn=>absurd hnil hn)).weaken ?_
       rintro v σ1 ⟨rfl,rfl⟩
       exact⟨_,⟨rfl,rfl⟩,by simp,fun _ _ h=>h⟩
      ·rename_i hnil
       cases h
       refine⟨C1.of_calls hf hname hbody (bp0.withLt fun hlt=>?_),?_⟩
       ·have key:=iI0 hT hfn ht rfl hei hf hsrc hok hby hlen hsz hlt (fun v σ1=>(xs=[]/\v=.sc (.slice none 0 0)/\σ1={ σ with next:=σ.next+4 })\/(v=.ms (σ.next+5) ei.size 0 xs.length/\σ1.next=σ.next+7/\∀ k,σ1.objs k=if k=σ.next+5 then some (.row elem ei.size xs)else σ.objs k))
         (fun hn=>.inl ⟨qR0 hsrc hn,rfl,rfl⟩) (fun _ σ1 h1 h2=>.inr ⟨rfl,h1,h2⟩)
        intro G vs w h1 h2
        refine(key G vs w h1 h2).mono ?_
        rintro e w' ⟨v,av,σ1,G',rfl,b1,b2,b3,b4⟩
        rcases b4 with ⟨rfl,rfl,rfl⟩ | ⟨rfl,b4,b5⟩
        ·cases b2
         have hid:G'.pl (σ.next+5)=none:=b3.fresh _ (by simp)
         have hr7:Rel G' { σ with next:=σ.next+7 } w':=b3.next (n:=σ.next+7) (by simp)
         refine⟨_,_,_,G'.place (σ.next+5) { block:=0,size:=0,cap:=0,virt:=true },rfl,⟨b1.le.trans (j4.place_le hid),fun i hi hg=>?_,by simp,b1.fr.trans ?_⟩,.msNil (σ.next+5) ei.size _ (j4.place_same _ _ _) rfl,hr7.virt (σ.next+5) hid (by simp) _ rfl elem ei.size,rfl,rfl⟩
         ·have:=b1.keeps i hi hg
          simp only[j4.place]
          rw[if_neg (by omega)];exact this
         ·exact(Fr.less (σ:={ σ with next:=σ.next+4 }) (σ':={ σ with next:=σ.next+7 }) (fun _ _ h=>h)).trans (Fr.virt _ _ rfl _)
        ·have hle:∀ k y,({ σ with next:=σ.next+7 }.set (σ.next+5) (.row elem ei.size xs):c9).objs k=some y->σ1.objs k=some y:=fun k y hy=>by
          rw[b5]
          rw[c9.objs_set]at hy
          exact hy
         exact⟨_,_,_,G',rfl,⟨b1.le,b1.keeps,by simp,b1.fr.trans (Fr.less hle)⟩,b2,b3.less (by rw[b4];rfl) hle,rfl,rfl⟩
       ·have:=Z2.set { σ with next:=σ.next+7 } (σ.next+5) (.row elem ei.size xs)
        exact this
     ·cases h
    ·cases h
   ·cases h
  ·cases h
 ·cases h
end Go.Ab
namespace Go.Ab
variable [B0]
open Go Go.RowKit
def j4.ofWorld(w:World):j4:={ w0:=w,imm:=fun b=>w.heap[b]?,pl:=fun _=>none }
def mb0(w:World):Prop:=∀ b o v,B0.cell b o=some v->(j4.ofWorld w).cell b o=some v
theorem Rel.ofWorld{w:World}(hg:mb0 w):Rel (j4.ofWorld w) c9.none w :=
 ⟨rfl,rfl,rfl,Nat.le_refl _,fun _ _ h=>h,fun _ _=>rfl,(fun id o h=>by rw[c9.none_objs]at h;cases h),(fun i j oi oj pi pj h=>by rw[c9.none_objs]at h;cases h),hg⟩
theorem aT0{w:World}{a:Addr}{v:Value}(h:w.cell? a=some v):a.spot=none/\(j4.ofWorld w).cell a.block a.off=some v:=by
 unfold World.cell? at h
 split at h
 ·rename_i c t fr hb
  split at h
  ·cases h
  ·rename_i hs
   refine⟨by cases hsp:a.spot with | none=>rfl | some x=>simp[hsp]at hs,?_⟩
   show (match w.heap[a.block]? with | some (.cells cs _ _)=>cs[a.off]? | _=>none)=_
   rw[hb];exact h
 ·cases h
theorem F3.calls {P:Program} {m:Memo} {fn:Func} (hfn:P.funcs[m.f]?=some fn) (hname:(fn.name== "runtime.NumGoroutine")=false) (hbody:fn.body.isNone=false) (h:F3 P m)
  {G:j4} {vs:List Value} {w:World} (hargs:B7 G m.args vs) (hrel:Rel G c9.none w) :
  Calls P m.f vs.toArray w fun e w'=>∃ v G',e=.returned v/\Rep G' m.c v/\G.le G'/\Rel G' c9.none w'/\Below w.heap.size w w':=by
 have key:=h c9.none G vs w hargs hrel ⟨some 0,.move (.const undef),0, "",#[],none⟩ ⟨#[undef],[]⟩
  (fun a w'=>∃ v G',a.tmps[0]?=some v/\Rep G' m.c v/\G.le G'/\Rel G' c9.none w'/\Below w.heap.size w w') (fun _ _ _=>False) (by
   rintro u av σ' G' w' ht hr hrel' ⟨rfl,rfl⟩
   refine⟨u,G',by simp[Act.put],hr,ht.le,hrel',?_⟩
   have hle:=ht.le.w0
   exact⟨hrel'.os.trans ((congrArg World.os hle).trans hrel.os.symm),hrel'.tape.trans ((congrArg World.tape hle).trans hrel.tape.symm),hrel'.output.trans ((congrArg World.output hle).trans hrel.output.symm),
    ht.fr.size,fun k hk=>ht.fr.same k hk (fun id o p hh=>by rw[c9.none_objs]at hh;cases hh)⟩)
 have hrun:(callFunc m.f vs.toArray).run P w=.ok (.enter m.f vs.toArray) w:=by
  simp only[callFunc,Sem.run_bind,run_program,Result.andThen_ok,hfn,hname,hbody,Bool.false_eq_true,if_false,Sem.run_pure]
 rw[hrun]at key
 refine Calls.mono key ?_
 intro e w' he
 cases e with
 | returned v =>
  obtain⟨u,G',h1,h2⟩:=he
  have:u=v:=by simpa[Act.put]using h1.symm
  subst this
  exact⟨u,G',rfl,h2⟩
 | panicked c=>exact he.elim
 | outgrown=>obtain⟨a,w0,hh⟩:=he;exact hh.elim
inductive Sh (P:Program) (N:Nat):TypeId->List AV->Prop
 | bool {t:TypeId} (b:Bool) (h:P.underlying t=some .bool):Sh P N t [.sc (.bool b)]
 | int {t:TypeId} {k:IntKind} {n:Int} (h:P.underlying t=some (.int k)) (hw:(Lit.int k n).wf=true):Sh P N t [.sc (.int k n)]
 | str {t:TypeId} {s:ByteArray} (h:P.underlying t=some .string) (hl:s.size<=N):Sh P N t [.sc (.string s)]
 | slice {t e:TypeId} {es:List (List AV)} (h:P.underlying t=some (.slice e)) (hl:es.length<=N) (hes:∀ c∈es,Sh P N e c):Sh P N t [.rs es]
 | struct {t:TypeId} {fs:Array Field} {avs:List AV} (h:P.underlying t=some (.struct fs)) (hl:avs.length=P.cellsOf t)
   (hf:∀ f∈fs.toList,Sh P N f.type ((avs.drop f.offset).take (P.cellsOf f.type))):Sh P N t avs
def en0(P:Program):List Field->Nat->Nat->Bool
 | [],o,total=>Nat.beq o total
 | f::fs,o,total=>Nat.beq f.offset o&&en0 P fs (o+P.cellsOf f.type) total
def dL0(P:Program):Nat->TypeId->Bool
 | 0,_=>false
 | n+1,t=>match P.underlying t with
  | some .bool=>true
  | some (.int _)=>true
  | some .string=>true
  | some (.slice e)=>dL0 P n e&&(Nat.ble 1 (P.cellsOf e)&&Nat.ble 1 (P.bytesOf e))
  | some (.struct fs)=>en0 P fs.toList 0 (P.cellsOf t)&&fs.toList.all fun f=>dL0 P n f.type
  | _=>false
section
variable {H:Type} {enc:TypeId×Value->H} {P:Program} {N:Nat} {w:World}
theorem B7.sc1(G:j4)(v:Value):B7 G [.sc v] [v]:=.cons (.sc v) (.nil G)
theorem iU0{G:j4}{cs:List Value}(good:Field->Prop)(hgood:∀ f,good f->∃ avs,B7 G avs ((cs.drop f.offset).take (P.cellsOf f.type))/\Sh P N f.type avs/\f.offset+P.cellsOf f.type<=cs.length) :
  ∀ (fs:List Field) (o:Nat),(∀ f∈fs,good f)->en0 P fs o cs.length=true->o<=cs.length ->
   ∃ avs,B7 G avs (cs.drop o)/\∀ f∈fs,o<=f.offset/\Sh P N f.type ((avs.drop (f.offset-o)).take (P.cellsOf f.type))
 | [],o,_,ht,_=>by
  have:o=cs.length:=Nat.eq_of_beq_eq_true ht
  subst this
  exact⟨[],by simpa using B7.nil G,fun f hf=>by cases hf⟩
 | f::fs,o,hg,ht,hle=>by
  simp only[en0,Bool.and_eq_true]at ht
  have ho:f.offset=o:=Nat.eq_of_beq_eq_true ht.1
  obtain⟨avs,h1,h2,h3⟩:=hgood f (hg f (by simp))
  rw[ho]at h1 h3
  obtain⟨bvs,k1,k2⟩:=iU0 good hgood fs (o+P.cellsOf f.type) (fun g hgm=>hg g (by simp[hgm])) ht.2 h3
  have hl:avs.length=P.cellsOf f.type:=by rw[<- h1.1];simp;omega
  refine⟨avs++bvs,?_,?_⟩
  ·have e:cs.drop o=(cs.drop o).take (P.cellsOf f.type)++cs.drop (o+P.cellsOf f.type):=by
    rw[<- List.drop_drop,List.take_append_drop]
   rw[e];exact h1.append k1
  ·intro g hgm
   rcases List.mem_cons.1 hgm with rfl | hgm
   ·refine⟨by omega,?_⟩
    rw[ho,Nat.sub_self,List.drop_zero,List.take_append_of_le_length (by omega),List.take_of_length_le (by omega)]
    exact h2
   ·obtain⟨j1,j2⟩:=k2 g hgm
    refine⟨by omega,?_⟩
    have:(avs++bvs).drop (g.offset-o)=bvs.drop (g.offset-(o+P.cellsOf f.type)):=by
     rw[List.drop_append,List.drop_eq_nil_of_le (by omega),hl]
     simp only[List.nil_append]
     congr 1;omega
    rw[this];exact j2
theorem nj0{G:j4}(Q:Nat->List AV->Prop):∀ (n:Nat),(∀ i,i<n->∃ avs,Q i avs)->∃ es:List (List AV),es.length=n/\∀ i (h:i<es.length),Q i es[i]
 | 0,_=>⟨[],rfl,fun i h=>by simp at h⟩
 | n+1,hq=>by
  obtain⟨es,h1,h2⟩:=nj0 (G:=G) Q n (fun i hi=>hq i (by omega))
  obtain⟨avs,h3⟩:=hq n (by omega)
  refine⟨es++[avs],by simp[h1],fun i hi=>?_⟩
  by_cases e:i<es.length
  ·rw[List.getElem_append_left e];exact h2 i e
  ·have:i=n:=by simp[h1]at hi;omega
   subst this
   rw[List.getElem_append_right (by omega)]
   simpa[h1]using h3
theorem dk0{e:TypeId}{d:DataW H}{n:Nat}(hn:n∈d.weights P e):∀ {l:List (DataW H)},d∈l->n∈DataW.weightsAll P e l
 | [],h=>by cases h
 | x::l,h=>by
  unfold DataW.weightsAll
  rcases List.mem_cons.1 h with rfl | h
  ·exact List.mem_append_left _ hn
  ·exact List.mem_append_right _ (dk0 hn h)
theorem az0{n:Nat}:∀ {ts:List TypeId} {l:List (DataW H)} (i:Nat) {t:TypeId} {d:DataW H},ts[i]?=some t->l[i]?=some d->n∈d.weights P t->n∈DataW.weightsEach P ts l
 | [],_,i,t,d,h,_,_=>by simp at h
 | _::_,[],i,t,d,_,h,_=>by simp at h
 | t'::ts,d'::l,0,t,d,h1,h2,hn=>by
  simp only[List.getElem?_cons_zero,Option.some.injEq]at h1 h2
  subst h1 h2
  unfold DataW.weightsEach
  exact List.mem_append_left _ hn
 | t'::ts,d'::l,i+1,t,d,h1,h2,hn=>by
  simp only[List.getElem?_cons_succ]at h1 h2
  unfold DataW.weightsEach
  exact List.mem_append_right _ (az0 i h1 h2 hn)
theorem jn0:∀ (d:Nat) (t:TypeId),dL0 P d t=true->∀ (fuel:Nat) (cs:List Value) (x:DataW H×List MemPlace),DataW.trod enc P w 0 (fun _=>true) true fuel t cs=some x->(∀ n∈x.1.weights P t,n<=N) ->
  ∃ avs,B7 (j4.ofWorld w) avs cs/\Sh P N t avs
 | 0,t,hp,_,_,_,_,_=>by simp[dL0]at hp
 | d+1,t,hp,fuel,cs,x,h,hN=>by
  unfold dL0 at hp
  split at hp
  ·rename_i ht
   obtain⟨b,rfl,_⟩:=DataW.trod_bool ht h
   exact⟨_,.sc1 _ _,.bool b ht⟩
  ·rename_i k ht
   obtain⟨n,rfl,_,hw⟩:=DataW.trod_int ht h
   exact⟨_,.sc1 _ _,.int ht hw⟩
  ·rename_i ht
   obtain⟨s,rfl,ex,_⟩:=DataW.trod_string ht h
   subst ex
   exact⟨_,.sc1 _ _,.str ht (hN s.size (by
    have:DataW.weights P t (.lit (.string s.data.toList):DataW H)=[s.data.toList.length]:=by rw[DataW.weights]
    rw[this]
    exact List.mem_singleton.2 rfl))⟩
  ·rename_i e ht
   rw[Bool.and_eq_true]at hp
   rw[Bool.and_eq_true]at hp
   have hpos:1<=P.cellsOf e:=Nat.le_of_ble_eq_true hp.2.1
   have hbyt:1<=P.bytesOf e:=Nat.le_of_ble_eq_true hp.2.2
   rcases Go.Deep.open_slice ht h with ⟨rfl,_⟩ | ⟨a,len,cap,m,n,D,Pl,rfl,_,hlc,hcm,hm,ex,hel⟩
   ·exact⟨[.rs []],.cons .rsNil (.nil _),.slice ht (by simp) (fun c hc=>by cases hc)⟩
   ·simp only[if_true]at hm
    subst ex
    have ew:DataW.weights P t (.slice ((List.range len).map D) ((List.range (m-len)).map fun j=>D (len+j)):DataW H)=((List.range len).map D).length.add ((List.range (m-len)).map fun j=>D (len+j)).length*P.bytesOf e::(DataW.weightsAll P e ((List.range len).map D)++DataW.weightsAll P e ((List.range (m-len)).map fun j=>D (len+j))):=by
     rw[DataW.weights,ht];rfl
    rw[ew]at hN
    have hlen:len<=N:=by
     have h1:=hN _ (List.mem_cons_self ..)
     rw[List.length_map,List.length_map,List.length_range,List.length_range]at h1
     have h2:len*1<=(len.add (m-len))*P.bytesOf e:=Nat.mul_le_mul (Nat.le_add_right len _) hbyt
     omega
    have hND:∀ i,i<len->∀ q∈(D i).weights P e,q<=N:=fun i hi q hq =>
     hN q (List.mem_cons_of_mem _ (List.mem_append_left _ (dk0 hq (List.mem_map.2 ⟨i,List.mem_range.2 hi,rfl⟩))))
    rw[hm]at hel
    have ih:∀ i,i<len->∃ avs,∃ cs',w.cells? 0 (a.add (i*P.cellsOf e)) (P.cellsOf e)=some cs'/\B7 (j4.ofWorld w) avs cs'/\Sh P N e avs:=fun i hi=>by
     obtain⟨cs',h1,h2⟩:=hel i (by omega)
     obtain⟨avs,h3,h4⟩:=jn0 d e hp.1 _ _ _ h2 (hND i hi)
     exact⟨avs,cs',h1,h3,h4⟩
    obtain⟨es,hes1,hes2⟩:=nj0 (G:=j4.ofWorld w) (fun i avs=>∃ cs',w.cells? 0 (a.add (i*P.cellsOf e)) (P.cellsOf e)=some cs'/\B7 (j4.ofWorld w) avs cs'/\Sh P N e avs) len ih
    have hspot:cap≠0->a.spot=none:=fun hc=>by
     obtain⟨cs',h1,_⟩:=hel 0 (by omega)
     obtain⟨_,h2,h3⟩:=World.cells?_some h1
     have h4:=h3 0 (by omega)
     rw[List.getElem?_eq_getElem (by omega)]at h4
     simp[Addr.add]at h4
     exact(aT0 h4).1
    refine⟨[.rs es],.cons ?_ (.nil _),.slice ht (by omega) (fun c hc=>?_)⟩
    ·rw[<- hes1]
     refine .rs es a cap (P.cellsOf e) (fun i j=>(w.cell? ⟨a.block,a.off+i*P.cellsOf e+j,none⟩).getD undef) hspot (by omega) (fun i hi=>?_) (fun i j hi hj=>?_) (fun i j hi hj=>?_)
     ·obtain⟨cs',h1,h2,_⟩:=hes2 i hi
      obtain⟨_,h3,_⟩:=World.cells?_some h1
      have:=h2.1;omega
     ·obtain⟨cs',h1,h2,_⟩:=hes2 i hi
      obtain⟨_,h3,h4⟩:=World.cells?_some h1
      have h5:=h4 j hj
      rw[List.getElem?_eq_getElem (by omega)]at h5
      have hs:=hspot (by omega)
      obtain⟨b,o,sp⟩:=a
      simp only at hs;subst hs
      rw[L4,L4]at h5
      rw[h5]
      exact(aT0 h5).2
     ·obtain⟨cs',h1,h2,_⟩:=hes2 i hi
      obtain⟨_,h3,h4⟩:=World.cells?_some h1
      have hl:=h2.1
      have h5:=h4 j (by omega)
      rw[List.getElem?_eq_getElem (by omega)]at h5
      have hs:=hspot (by omega)
      obtain⟨b,o,sp⟩:=a
      simp only at hs;subst hs
      rw[L4,L4]at h5
      rw[h5]
      exact h2.2 j hj (by omega)
    ·obtain⟨i,hi,rfl⟩:=List.getElem_of_mem hc
     obtain⟨_,_,_,h3⟩:=hes2 i hi
     exact h3
  ·rename_i fs ht
   rw[Bool.and_eq_true]at hp
   obtain⟨xs,n,rfl,ex,hlen,hxl,hf⟩:=DataW.trod_struct ht h
   subst ex
   have ew:DataW.weights P t (.agg (xs.map (·.1)):DataW H)=DataW.weightsEach P (fs.toList.map (·.type)) (xs.map (·.1)):=by
    rw[DataW.weights,ht]
   rw[ew]at hN
   have htile:=hp.1
   rw[<- hlen]at htile
   have hgood:∀ f,f∈fs.toList->∃ avs,B7 (j4.ofWorld w) avs ((cs.drop f.offset).take (P.cellsOf f.type))/\Sh P N f.type avs:=fun f hfm=>by
    obtain⟨i,hi,rfl⟩:=List.getElem_of_mem hfm
    have h1:=hf i (fs.toList[i]) (by simp)
    rw[List.getElem?_eq_getElem (by simp at hi;omega)]at h1
    have hi2:i<xs.length:=by simp at hi;omega
    exact jn0 d _ (List.all_eq_true.1 hp.2 _ hfm) _ _ _ h1 (fun q hq=>hN q (az0 i (t:=fs.toList[i].type) (d:=(xs[i]'hi2).1) (by rw[List.getElem?_map,List.getElem?_eq_getElem hi];rfl) (by rw[List.getElem?_map,List.getElem?_eq_getElem hi2];rfl) hq))
   have hends:∀ (l:List Field) (o:Nat),en0 P l o cs.length=true->∀ f∈l,f.offset+P.cellsOf f.type<=cs.length:=by
    have hmono:∀ (l:List Field) (o:Nat),en0 P l o cs.length=true->o<=cs.length:=by
     intro l
     induction l with
     | nil=>intro o ho;exact Nat.le_of_eq (Nat.eq_of_beq_eq_true ho)
     | cons g l ih=>intro o ho;simp only[en0,Bool.and_eq_true]at ho;have:=ih _ ho.2;omega
    intro l
    induction l with
    | nil=>intro o _ f hf;cases hf
    | cons g l ih =>
     intro o ho f hf
     simp only[en0,Bool.and_eq_true]at ho
     rcases List.mem_cons.1 hf with rfl | hf
     ·have:=hmono _ _ ho.2
      rw[Nat.eq_of_beq_eq_true ho.1];exact this
     ·exact ih _ ho.2 f hf
   obtain⟨avs,h1,h2⟩:=iU0 (P:=P) (G:=j4.ofWorld w) (cs:=cs) (fun f=>f∈fs.toList)
    (fun f hfm=>by obtain⟨avs,a1,a2⟩:=hgood f hfm;exact⟨avs,a1,a2,hends _ _ htile f hfm⟩) fs.toList 0 (fun _ h=>h) htile (Nat.zero_le _)
   rw[List.drop_zero]at h1
   refine⟨avs,h1,.struct ht (by rw[<- h1.1];exact hlen) (fun f hfm=>?_)⟩
   have:=(h2 f hfm).2
   simpa using this
  ·cases hp
end
theorem Sh.int_inv{P:Program}{N:Nat}{t:TypeId}{k:IntKind}{avs:List AV}(ht:P.underlying t=some (.int k))(h:Sh P N t avs):∃ n,avs=[.sc (.int k n)]/\(Lit.int k n).wf=true:=by
 cases h with
 | int h hw=>rw[ht]at h;cases h;exact⟨_,rfl,hw⟩
 | bool b h=>rw[ht]at h;cases h
 | str h=>rw[ht]at h;cases h
 | slice h=>rw[ht]at h;cases h
 | struct h=>rw[ht]at h;cases h
theorem Sh.slice_inv{P:Program}{N:Nat}{t e:TypeId}{avs:List AV}(ht:P.underlying t=some (.slice e))(h:Sh P N t avs):∃ es,avs=[.rs es]/\es.length<=N/\∀ c∈es,Sh P N e c:=by
 cases h with
 | int h hw=>rw[ht]at h;cases h
 | bool b h=>rw[ht]at h;cases h
 | str h=>rw[ht]at h;cases h
 | slice h hl hes=>rw[ht]at h;cases h;exact⟨_,rfl,hl,hes⟩
 | struct h=>rw[ht]at h;cases h
theorem Sh.str_inv{P:Program}{N:Nat}{t:TypeId}{avs:List AV}(ht:P.underlying t=some .string)(h:Sh P N t avs):∃ s,avs=[.sc (.string s)]/\s.size<=N:=by
 cases h with
 | int h hw=>rw[ht]at h;cases h
 | bool b h=>rw[ht]at h;cases h
 | str h hl=>exact⟨_,rfl,hl⟩
 | slice h=>rw[ht]at h;cases h
 | struct h=>rw[ht]at h;cases h
theorem Sh.struct_inv{P:Program}{N:Nat}{t:TypeId}{fs:Array Field}{avs:List AV}(ht:P.underlying t=some (.struct fs))(h:Sh P N t avs) :
  avs.length=P.cellsOf t/\∀ f∈fs.toList,Sh P N f.type ((avs.drop f.offset).take (P.cellsOf f.type)):=by
 cases h with
 | int h hw=>rw[ht]at h;cases h
 | bool b h=>rw[ht]at h;cases h
 | str h=>rw[ht]at h;cases h
 | slice h=>rw[ht]at h;cases h
 | struct h hl hf=>rw[ht]at h;cases h;exact⟨hl,hf⟩
end Go.Ab
namespace Go.Ab
open Go
variable [B0]
def rowsOf:AV->List (List AV)
 | .rs es=>es
 | _=>[]
def Y9:AV->Nat
 | .sc (.int _ n)=>n.toNat
 | _=>0
mutual
def AV.sub(θ:Nat->AV):AV->AV
 | .any=>.any
 | .sc v=>.sc v
 | .rs es=>.rs (dp0 θ es)
 | .rp cs=>.rp (Y8 θ cs)
 | .ms id size off len=>.ms id size off len
 | .mp id i j=>.mp id i j
 | .mm id=>.mm id
 | .it id=>.it id
 | .fn f a c=>.fn f (Y8 θ a) (Y8 θ c)
 | .agg cs=>.agg (Y8 θ cs)
 | .tup vs=>.tup (Y8 θ vs)
 | .sy i=>θ i
 | .ss id size i=>.ms id size 0 (rowsOf (θ i)).length
 | .xp id k off=>.mp id (Y9 (θ k)) off
 | .rm c=>.rm (c.sub θ)
def Y8(θ:Nat->AV):List AV->List AV
 | []=>[]
 | c::cs=>c.sub θ::Y8 θ cs
def dp0(θ:Nat->AV):List (List AV)->List (List AV)
 | []=>[]
 | c::cs=>Y8 θ c::dp0 θ cs
end
theorem H6(θ:Nat->AV):∀ l,Y8 θ l=l.map (AV.sub θ)
 | []=>by simp[Y8]
 | c::cs=>by simp[Y8,H6 θ cs]
theorem bc0(θ:Nat->AV):∀ l,dp0 θ l=l.map (List.map (AV.sub θ))
 | []=>by simp[dp0]
 | c::cs=>by simp[dp0,H6,bc0 θ cs]
section
variable (θ:Nat->AV)
@[simp] theorem wh0:AV.sub θ .any=.any:=by simp[AV.sub]
@[simp] theorem J0 (v:Value):AV.sub θ (.sc v)=.sc v:=by simp[AV.sub]
@[simp] theorem do0 (es:List (List AV)):AV.sub θ (.rs es)=.rs (es.map (List.map (AV.sub θ))):=by simp[AV.sub,bc0]
@[simp] theorem oq0 (cs:List AV):AV.sub θ (.rp cs)=.rp (cs.map (AV.sub θ)):=by simp[AV.sub,H6]
@[simp] theorem cC0 (id size off len:Nat):AV.sub θ (.ms id size off len)=.ms id size off len:=by simp[AV.sub]
@[simp] theorem kr0 (id i j:Nat):AV.sub θ (.mp id i j)=.mp id i j:=by simp[AV.sub]
@[simp] theorem dn0 (id:Nat):AV.sub θ (.mm id)=.mm id:=by simp[AV.sub]
@[simp] theorem pU0 (id:Nat):AV.sub θ (.it id)=.it id:=by simp[AV.sub]
@[simp] theorem qV0 (f:Fn) (a c:List AV):AV.sub θ (.fn f a c)=.fn f (a.map (AV.sub θ)) (c.map (AV.sub θ)):=by simp[AV.sub,H6]
@[simp] theorem cn0 (cs:List AV):AV.sub θ (.agg cs)=.agg (cs.map (AV.sub θ)):=by simp[AV.sub,H6]
@[simp] theorem jl0 (cs:List AV):AV.sub θ (.tup cs)=.tup (cs.map (AV.sub θ)):=by simp[AV.sub,H6]
@[simp] theorem u5 (i:Nat):AV.sub θ (.sy i)=θ i:=by simp[AV.sub]
@[simp] theorem R8 (id size i:Nat):AV.sub θ (.ss id size i)=.ms id size 0 (rowsOf (θ i)).length:=by simp[AV.sub]
@[simp] theorem fB0 (θ:Nat->AV) (c:AV):(AV.rm c).sub θ=.rm (c.sub θ):=by simp only[AV.sub]
@[simp] theorem sub_xp (θ:Nat->AV) (id k off:Nat):(AV.xp id k off).sub θ=.mp id (Y9 (θ k)) off:=by simp only[AV.sub]
end
mutual
def AV.pur:AV->Bool
 | .sc _=>true
 | .rs es=>ke0 es
 | .rp cs=>jD0 cs
 | .rm c=>c.pur
 | .fn _ a c=>jD0 a&&jD0 c
 | .agg cs=>jD0 cs
 | .tup cs=>jD0 cs
 | _=>false
def jD0:List AV->Bool
 | []=>true
 | c::cs=>c.pur&&jD0 cs
def ke0:List (List AV)->Bool
 | []=>true
 | c::cs=>jD0 c&&ke0 cs
end
theorem Z0:∀ l,jD0 l=l.all AV.pur
 | []=>by simp[jD0]
 | c::cs=>by simp[jD0,Z0 cs]
theorem eP0:∀ l,ke0 l=l.all (List.all · AV.pur)
 | []=>by simp[ke0]
 | c::cs=>by simp[ke0,eP0 cs,Z0]
theorem V2{es:List (List AV)}(h:(AV.rs es).pur=true):∀ i (h:i<es.length) j (h':j<es[i].length),(es[i][j]).pur=true:=fun i hi j hj=>by
 simp only[AV.pur,eP0]at h
 exact List.all_eq_true.1 (List.all_eq_true.1 h _ (List.getElem_mem hi)) _ (List.getElem_mem hj)
theorem O5{G G':j4}(hG:∀ b o,G.imm b=some o->G'.imm b=some o){v:AV}{u:Value}(hr:Rep G v u):v.pur=true->Rep G' v u:=by
 have hcell:∀ {b o:Nat} {v:Value},G.cell b o=some v->G'.cell b o=some v:=fun {b o v} hc=>by
  unfold j4.cell at *
  cases hb:G.imm b with
  | none=>simp[hb]at hc
  | some x=>rw[hG b x hb];simpa[hb]using hc
 induction hr with
 | any v=>intro h;simp[AV.pur]at h
 | sc v=>intro _;exact .sc v
 | rsNil=>intro _;exact .rsNil
 | rs es a cap size val hs hc hlen himm _ ih =>
  intro h
  exact .rs es a cap size val hs hc hlen (fun i j h1 h2=>hcell (himm i j h1 h2)) (fun i j hi hj=>ih i j hi hj (V2 h i hi j hj))
 | rp cs a val hs himm _ ih =>
  intro h
  simp only[AV.pur,Z0]at h
  exact .rp cs a val hs (fun j hj=>hcell (himm j hj)) (fun j hj=>ih j hj (List.all_eq_true.1 h _ (List.getElem_mem hj)))
 | ms=>intro h;simp[AV.pur]at h
 | msNil=>intro h;simp[AV.pur]at h
 | mp=>intro h;simp[AV.pur]at h
 | mm=>intro h;simp[AV.pur]at h
 | it=>intro h;simp[AV.pur]at h
 | rm rows b ents himm hlen ij0 _ ih =>
  intro h
  simp only[AV.pur]at h
  refine .rm rows b ents (hG _ _ himm) hlen ij0 (fun i hi hi'=>ih i hi hi' ?_)
  have hrow:=V2 (es:=rows) (by simp only[AV.pur];exact h) i hi
  generalize rows[i]=r at hrow
  unfold D5
  split
  ·exact hrow 1 (by simp)
  ·simp[AV.pur]
 | fn f first cap fv cv h1 h2 _ _ ih1 ih2 =>
  intro h
  simp only[AV.pur,Z0,Bool.and_eq_true]at h
  exact .fn f first cap fv cv h1 h2 (fun i hi hi'=>ih1 i hi hi' (List.all_eq_true.1 h.1 _ (List.getElem_mem hi))) (fun i hi hi'=>ih2 i hi hi' (List.all_eq_true.1 h.2 _ (List.getElem_mem hi)))
 | agg cs vs h1 _ ih =>
  intro h
  simp only[AV.pur,Z0]at h
  exact .agg cs vs h1 (fun i hi hi'=>ih i hi hi' (List.all_eq_true.1 h _ (List.getElem_mem hi)))
 | tup cs vs h1 _ ih =>
  intro h
  simp only[AV.pur,Z0]at h
  exact .tup cs vs h1 (fun i hi hi'=>ih i hi hi' (List.all_eq_true.1 h _ (List.getElem_mem hi)))
def aH0:AV->Prop
 | .sc (.int _ _)=>True
 | .sc (.bool _)=>True
 | .sc (.string _)=>True
 | .rs es=>(AV.rs es).pur=true
 | .rp cs=>(AV.rp cs).pur=true
 | .rm c=>(AV.rm c).pur=true
 | _=>False
def Fit(θ:Nat->AV):Prop:=∀ i,aH0 (θ i)
theorem aH0.cases{v:AV}(h:aH0 v):(∃ k n,v=.sc (.int k n))\/(∃ b,v=.sc (.bool b))\/(∃ s,v=.sc (.string s))\/(∃ es,v=.rs es)\/(∃ cs,v=.rp cs)\/∃ c,v=.rm c:=by
 unfold aH0 at h
 split at h
 ·exact .inl ⟨_,_,rfl⟩
 ·exact .inr (.inl ⟨_,rfl⟩)
 ·exact .inr (.inr (.inl ⟨_,rfl⟩))
 ·exact .inr (.inr (.inr (.inl ⟨_,rfl⟩)))
 ·exact .inr (.inr (.inr (.inr (.inl ⟨_,rfl⟩))))
 ·exact .inr (.inr (.inr (.inr (.inr ⟨_,rfl⟩))))
 ·cases h
theorem aH0.pur{v:AV}(h:aH0 v):v.pur=true:=by
 unfold aH0 at h
 split at h
 ·rfl
 ·rfl
 ·rfl
 ·exact h
 ·exact h
 ·exact h
 ·cases h
theorem aH0.cells{v:AV}(h:aH0 v):v.cells=some [v]:=by
 rcases h.cases with ⟨k,n,rfl⟩ | ⟨b,rfl⟩ | ⟨s,rfl⟩ | ⟨es,rfl⟩ | ⟨cs,rfl⟩ | ⟨c,rfl⟩<;>rfl
theorem aH0.one{v:AV}(h:aH0 v):v.one=true:=by
 rcases h.cases with ⟨k,n,rfl⟩ | ⟨b,rfl⟩ | ⟨s,rfl⟩ | ⟨es,rfl⟩ | ⟨cs,rfl⟩ | ⟨c,rfl⟩<;>rfl
theorem aH0.ids0{v:AV}(h:aH0 v):v.ids0=[]:=by
 rcases h.cases with ⟨k,n,rfl⟩ | ⟨b,rfl⟩ | ⟨s,rfl⟩ | ⟨es,rfl⟩ | ⟨cs,rfl⟩ | ⟨c,rfl⟩<;>rfl
section
variable {θ:Nat->AV} (hθ:Fit θ)
include hθ
theorem et0{v:AV}{cs:List AV}(h:v.cells=some cs):(v.sub θ).cells=some (cs.map (AV.sub θ)):=by
 cases v with
 | sy i=>simp only[AV.cells,Option.some.injEq]at h;subst h;simpa using(hθ i).cells
 | ss id size i=>simp only[AV.cells,Option.some.injEq]at h;subst h;simp[AV.cells]
 | sc v=>cases v<;>simp[AV.cells]at h<;>subst h<;>simp[AV.cells]
 | any=>simp[AV.cells]at h
 | tup l=>simp[AV.cells]at h
 | _=>simp only[AV.cells,Option.some.injEq]at h;subst h;simp[AV.cells]
theorem one_sub{v:AV}(h:v.one=true):(v.sub θ).one=true:=by
 cases v with
 | sy i=>simpa using(hθ i).one
 | ss id size i=>simp[AV.one]
 | sc v=>cases v<;>simp[AV.one]at h<;>simp[AV.one]
 | any=>simp[AV.one]at h
 | tup l=>simp[AV.one]at h
 | agg l=>simp[AV.one]at h
 | _=>simp[AV.one]
end
def Tr.map{α β:Type}(f:α->β):Tr α->Tr β
 | .leaf=>.leaf
 | .node v l r=>.node (v.map f) (l.map f) (r.map f)
theorem Tr.map_get{α β:Type}(f:α->β):∀ (t:Tr α) (k:Nat),(t.map f).get k=(t.get k).map f
 | .leaf,k=>by simp[Tr.map,Tr.get_leaf]
 | .node v l r,k=>by
  cases k with
  | zero=>simp[Tr.map,Tr.get]
  | succ k =>
   simp only[Tr.map,Tr.get]
   split
   ·exact Tr.map_get f l _
   ·exact Tr.map_get f r _
theorem Tr.map_setF{α β:Type}(g:α->β)(v:Option α):∀ (f k:Nat) (t:Tr α),(Tr.setF v f k t).map g=Tr.setF (v.map g) f k (t.map g)
 | 0,k,t=>by cases k<;>cases t<;>simp[Tr.setF,Tr.map]
 | f+1,0,t=>by cases t<;>simp[Tr.setF,Tr.map]
 | f+1,k+1,.leaf=>by
  simp only[Tr.setF,Tr.map]
  split<;>simp[Tr.map,Tr.map_setF g v f (k / 2) .leaf]
 | f+1,k+1,.node x l r=>by
  simp only[Tr.setF,Tr.map]
  split<;>simp[Tr.map,Tr.map_setF g v f (k / 2)]
theorem Tr.map_set{α β:Type}(g:α->β)(t:Tr α)(k:Nat)(v:Option α):(t.set k v).map g=(t.map g).set k (v.map g):=Tr.map_setF g v k k t
def P3(c:AV):l7:=.map (aK0 (rowsOf c)) (w8 0 (rowsOf c)) (rowsOf c).length
abbrev P4:Nat:=1048576
def hid(r c:Nat):Nat:=(16*r+c)%P4
abbrev bn0:=List (Nat×TypeId×Nat)
def U9(cols:bn0)(j:Nat):Option (Nat×TypeId×Nat):=cols.find? (fun c=>Nat.beq c.1 j)
def aQ0(cols:bn0)(j:Nat)(v:AV):AV:=match U9 cols j with
 | some _=>.rs []
 | none=>v
def K3(cols:bn0):Nat->List AV->List AV
 | _,[]=>[]
 | j,v::vs=>aQ0 cols j v::K3 cols (j+1) vs
def isNil:AV->Bool
 | .sc (.slice none 0 0)=>true
 | _=>false
def xD0(cols:bn0)(rows:List (List AV)):Bool:=decide (16*rows.length<=P4)&&cols.all (fun c=>Nat.blt c.1 16)&&rows.all fun r=>cols.all fun c=>match r[c.1]? with
 | some v=>isNil v
 | none=>false
def al0(cols:List (Nat×TypeId×Nat))(r j:Nat)(v:AV):AV:=match cols.find? (fun c=>Nat.beq c.1 j)with
 | some c=>.ms (hid r j) c.2.2 0 (rowsOf v).length
 | none=>v
def Z7(cols:List (Nat×TypeId×Nat))(r:Nat):Nat->List AV->List AV
 | _,[]=>[]
 | j,v::vs=>al0 cols r j v::Z7 cols r (j+1) vs
def I5(cols:List (Nat×TypeId×Nat)):Nat->List (List AV)->List (List AV)
 | _,[]=>[]
 | r,x::xs=>Z7 cols r 0 x::I5 cols (r+1) xs
def U3(rows:List (List AV))(i off:Nat):Option AV->List (List AV)
 | none=>rows
 | some v=>match rows[i]? with
  | some cs=>rows.set i (cs.set off v)
  | none=>rows
def strOf:AV->ByteArray
 | .sc (.string s)=>s
 | _=>ByteArray.empty
def l7.sub(θ:Nat->AV):l7->l7
 | .row e s es=>.row e s (es.map (List.map (AV.sub θ)))
 | .map agg es c=>.map agg (es.map fun e=>(e.1,e.2.1.sub θ,e.2.2)) c
 | .siter s p=>.siter s p
 | .miter m a b c=>.miter m a b c
 | .xrow e s i=>.row e s (rowsOf (θ i))
 | .xmap c=>P3 (c.sub θ)
 | .xiter s p=>.siter (strOf (s.sub θ)) (Y9 (p.sub θ))
 | .frow e z c cols k off v=>.row e z (U3 (I5 cols 0 (rowsOf (c.sub θ))) (Y9 (k.sub θ)) off (v.map (AV.sub θ)))
def c9.sub(θ:Nat->AV)(σ:c9):c9:={ next:=σ.next,tr:=σ.tr.map (l7.sub θ),low:=σ.low }
theorem c9.sub_objs(θ:Nat->AV)(σ:c9)(id:Nat):(σ.sub θ).objs id=(σ.objs id).map (l7.sub θ):=Tr.map_get _ _ _
theorem c9.sub_set(θ:Nat->AV)(σ:c9)(id:Nat)(o:l7):(σ.set id o).sub θ=(σ.sub θ).set id (o.sub θ):=by
 simp[c9.sub,c9.set,Tr.map_set]
theorem c9.sub_del(θ:Nat->AV)(σ:c9)(id:Nat):(σ.del id).sub θ=(σ.sub θ).del id:=by
 simp[c9.sub,c9.del,Tr.map_set]
@[simp] theorem c9.sub_next (θ:Nat->AV) (σ:c9):(σ.sub θ).next=σ.next:=rfl
@[simp] theorem c9.sub_low (θ:Nat->AV) (σ:c9):(σ.sub θ).low=σ.low:=rfl
def AS.sub(θ:Nat->AV)(s:AS):AS:={ n:=s.n,tr:=s.tr.map (AV.sub θ),st:=s.st.sub θ }
@[simp] theorem AS.sub_n (θ:Nat->AV) (s:AS):(s.sub θ).n=s.n:=rfl
@[simp] theorem AS.sub_st (θ:Nat->AV) (s:AS):(s.sub θ).st=s.st.sub θ:=rfl
theorem AS.sub_get(θ:Nat->AV)(s:AS)(t:Nat):(s.sub θ).get t=(s.get t).sub θ:=by
 simp only[AS.get,AS.sub,Tr.map_get]
 cases s.tr.get t<;>simp
theorem AS.sub_put(θ:Nat->AV)(s:AS)(σ:c9)(d:Option Tmp)(v:AV):({ s with st:=σ }.put d v).sub θ=({ s.sub θ with st:=σ.sub θ }.put d (v.sub θ)):=by
 cases d<;>simp[AS.put,AS.sub,Tr.map_set]
theorem gD0(θ:Nat->AV)(v:Value):(AV.ofValue v).sub θ=AV.ofValue v:=by
 cases v<;>simp[AV.ofValue]
theorem AS.sub_eval(θ:Nat->AV)(s:AS)(x:Operand):(s.sub θ).eval x=(s.eval x).sub θ:=by
 cases x with
 | tmp t=>exact AS.sub_get θ s t
 | const v=>exact(gD0 θ v).symm
 | global g=>simp[AS.eval]
 | func f=>simp[AS.eval]
theorem AS.sub_evalF(θ:Nat->AV)(s:AS):(s.sub θ).eval=fun x=>(s.eval x).sub θ:=funext (AS.sub_eval θ s)
theorem aF0(θ:Nat->AV){ops:Array Oper}{s:AS}{o:Oper}{b:Bool}(h:E3 ops s o=some b):E3 ops (s.sub θ) o=some b:=by
 unfold E3 at *
 split at h
 ·exact h
 ·split at h
  ·split at h
   ·rename_i hlt
    simp only[AS.sub_n,hlt,if_true,AS.sub_get]
    split at h
    ·rename_i hb;rw[hb];simpa using h
    ·rename_i hb;rw[hb];simpa using h
    ·cases h
   ·cases h
  ·cases h
end Go.Ab
namespace Go.Ab
open Go
variable [B0]
section
variable {θ:Nat->AV}
theorem mI0(l:List Value):(l.map AV.sc).map (AV.sub θ)=l.map AV.sc:=by simp
theorem bV0(ti:TI):ti.zeroCells.map (AV.sub θ)=ti.zeroCells:=mI0 _
theorem cS0(ti:TI):ti.zeroAV.sub θ=ti.zeroAV:=gD0 θ _
theorem oI0{T:Tab}{σ σ':c9}{id:Nat}{t:TypeId}{v:AV}(h:fn0 T σ id t=some (v,σ')):fn0 T (σ.sub θ) id t=some (v.sub θ,σ'.sub θ):=by
 unfold fn0 at *
 split at h
 ·cases h;simp[c9.sub_set,l7.sub,bV0]
 ·cases h
theorem Z9{ti:TI}{cs:List AV}{j:Nat}{v:AV}(h:E4 ti cs j=some v):E4 ti (cs.map (AV.sub θ)) j=some (v.sub θ):=by
 unfold E4 at *
 split at h
 ·rename_i ha
  rw[if_pos ha]
  split at h
  ·rename_i hl
   cases h
   rw[if_pos (by simpa using hl)];simp[List.map_take,List.map_drop]
  ·cases h
 ·rename_i ha
  rw[if_neg ha]
  simp[h]
theorem gW0{T:Tab}{σ:c9}{t:TypeId}{x v:AV}(h:V1 T σ t x=some v):V1 T (σ.sub θ) t (x.sub θ)=some (v.sub θ):=by
 unfold V1 at h
 split at h
 ·split at h
  ·rename_i elem size es ho
   split at h
   ·rename_i cs hcs
    split at h
    ·rename_i ti ht
     simp only[V1,kr0,c9.sub_objs,ho,Option.map_some,l7.sub,List.getElem?_map,hcs,ht]
     exact Z9 h
    ·cases h
   ·cases h
  ·cases h
 ·split at h
  ·rename_i ti ht
   simp only[V1,oq0,ht]
   exact Z9 h
  ·cases h
 ·cases h
theorem pm0{T:Tab}{σ:c9}{t:TypeId}{x v:AV}(h:am0 T σ t x=some v):am0 T (σ.sub θ) t (x.sub θ)=some (v.sub θ):=by
 unfold am0 at h
 split at h
 ·rename_i g hg
  rw[hk0 hg,J0]
  simp only[am0,ch0]
  unfold qn0 at h ⊢
  split at h
  ·split at h
   ·rename_i l hl
    have:=Z9 (θ:=θ) h
    simp only[List.map_map]at this
    have e:l.map (AV.sub θ ∘ AV.sc)=l.map AV.sc:=List.map_congr_left fun a _=>J0 θ a
    rw[e]at this
    exact this
   ·cases h
  ·cases h
 ·rename_i hg
  have h1:=gW0 (θ:=θ) h
  have h2:ch0 (x.sub θ)=none:=by
   unfold V1 at h
   split at h
   ·rfl
   ·rw[oq0];rfl
   ·cases h
  simp only[am0,h2]
  exact h1
theorem di0{T:Tab}{s:TypeId}{x v:AV}{f:Nat}(h:M7 T s x f=some v):M7 T s (x.sub θ) f=some (v.sub θ):=by
 unfold M7 at h
 split at h
 ·rename_i fields _ _ _ _ hs
  split at h
  ·rename_i fd hf
   split at h
   ·rename_i fi hfi
    split at h
    ·cases h
    ·rename_i hz
     split at h
     ·cases h
      simp only[M7,hs,hf,hfi,kr0];rw[if_neg hz]
     ·split at h
      ·rename_i hl
       cases h
       simp only[M7,hs,hf,hfi,oq0]
       rw[if_neg hz]
       simp[hl,List.map_drop]
      ·cases h
     ·cases h
   ·cases h
  ·cases h
 ·cases h
theorem ko0{T:Tab}{t:TypeId}{cs:List AV}{off:Nat}{v:AV}(h:jX0 T t cs off=some v):jX0 T t (cs.map (AV.sub θ)) off=some (v.sub θ):=by
 unfold jX0 at *
 split at h
 ·rename_i ti ht;exact Z9 h
 ·cases h
theorem ou0{T:Tab}{s:TypeId}{x v:AV}{f:Nat}(h:gm0 T s x f=some v):gm0 T s (x.sub θ) f=some (v.sub θ):=by
 unfold gm0 at h
 split at h
 ·rename_i fields _ _ _ _ cs hs
  split at h
  ·rename_i fd hf
   simp only[gm0,hs,cn0,hf]
   exact ko0 h
  ·cases h
 ·cases h
theorem ir0{T:Tab}{t:TypeId}{x ix v:AV}(h:D4 T t x ix=some v):D4 T t (x.sub θ) (ix.sub θ)=some (v.sub θ):=by
 unfold D4 at h
 split at h
 ·rename_i elem _ _ _ _ k n ht
  split at h
  ·rename_i ei he
   split at h
   ·rename_i id size off len
    split at h
    ·rename_i hn
     cases h
     simp[D4,ht,he,hn]
    ·cases h
   ·rename_i es
    split at h
    ·rename_i hn
     split at h
     ·rename_i cs hcs
      split at h
      ·rename_i hl
       cases h
       simp[D4,ht,he,hn,List.getElem?_map,hcs,hl]
      ·cases h
     ·cases h
    ·cases h
   ·cases h
  ·cases h
 ·rename_i len elem _ _ _ _ k n ht
  split at h
  ·rename_i ei he
   split at h
   ·rename_i hn
    split at h
    ·cases h
     simp[D4,ht,he,hn]
    ·split at h
     ·rename_i hl
      cases h
      simp[D4,ht,he,hn,hl,List.map_drop]
     ·cases h
    ·cases h
   ·cases h
  ·cases h
 ·cases h
theorem oS0{T:Tab}{t:TypeId}{x ix v:AV}(h:cb0 T t x ix=some v):cb0 T t (x.sub θ) (ix.sub θ)=some (v.sub θ):=by
 unfold cb0 at h
 split at h
 ·rename_i len elem _ _ _ _ cs k n ht
  split at h
  ·rename_i ei he
   split at h
   ·rename_i hn
    simp only[cb0,ht,he,cn0,J0]
    rw[if_pos hn];exact ko0 h
   ·cases h
  ·cases h
 ·rename_i ht
  split at h
  ·rename_i hn
   split at h
   ·rename_i b hb
    cases h
    simp[cb0,ht,hn,hb]
   ·cases h
  ·cases h
 ·cases h
theorem Y0{len:Nat}{x:Option AV}{d n:Nat}(h:bound len x d=some n):bound len (x.map (AV.sub θ)) d=some n:=by
 unfold bound at h
 split at h
 ·simpa[bound]using h
 ·split at h
  ·rename_i hn;simpa[bound,hn]using h
  ·cases h
 ·cases h
theorem pb0{T:Tab}{t:TypeId}{x v:AV}{lo hi mx:Option AV}(h:bt0 T t x lo hi mx=some v):bt0 T t (x.sub θ) (lo.map (AV.sub θ)) (hi.map (AV.sub θ)) (mx.map (AV.sub θ))=some (v.sub θ):=by
 unfold bt0 at h
 split at h
 ·rename_i elem _ _ _ _ ht
  split at h
  ·rename_i ei id size off len he
   split at h
   ·rename_i hs
    split at h
    ·rename_i hh b1
     split at h
     ·rename_i l b2
      cases h
      simp[bt0,ht,he,hs,Y0 b1,Y0 b2]
     ·cases h
    ·cases h
   ·cases h
  ·rename_i ei es he
   split at h
   ·rename_i hh b1
    split at h
    ·rename_i l b2
     split at h
     ·rename_i hall
      cases h
      have hall':((es.map (List.map (AV.sub θ))).all fun c=>c.length==ei.size)=true:=by
       rw[List.all_map];simpa[Function.comp_def]using hall
      simp only[bt0,Option.map_none,ht,he,do0,List.length_map,Y0 b1,Y0 b2]
      rw[if_pos hall'];simp[List.map_take,List.map_drop]
     ·cases h
    ·cases h
   ·cases h
  ·rename_i he
   split at h
   ·rename_i hh b1
    split at h
    ·rename_i l b2
     cases h
     simp[bt0,ht,he,Y0 b1,Y0 b2]
    ·cases h
   ·cases h
  ·cases h
 ·rename_i ht
  split at h
  ·rename_i s
   split at h
   ·rename_i hh b1
    split at h
    ·rename_i l b2
     cases h
     simp[bt0,ht,Y0 b1,Y0 b2]
    ·cases h
   ·cases h
  ·cases h
 ·cases h
theorem gc0:∀ {cs:List AV} {l:List Int},AV.i64s cs=some l->cs.map (AV.sub θ)=cs
 | [],_,_=>rfl
 | c::cs,l,h=>by
  unfold AV.i64s at h
  split at h
  ·rename_i e;cases e
  ·rename_i n cs' e
   cases e
   split at h
   ·rename_i l' hl
    simp[gc0 hl]
   ·cases h
  ·cases h
theorem sm0{x:AV}{b:Bool}(h:x.isNil=some b):(x.sub θ).isNil=some b:=by
 unfold AV.isNil at h
 split at h
 ·simpa[AV.isNil]using h
 ·simpa[AV.isNil]using h
 ·simpa[AV.isNil]using h
 ·cases h
theorem tE0(T:Tab)(op:BinOp)(t:TypeId)(z:AV):im0 T op t z (.sc (.slice none 0 0))=(match T t,z.isNil with
  | some { und:=.slice _,.. },some b=>match op with
   | .eql=>some (.sc (.bool b))
   | .neq=>some (.sc (.bool !b))
   | _=>none
  | _,_=>none):=by cases z<;>first | rfl | (rename_i v;cases v<;>rfl)
theorem tl0{T:Tab}{op:BinOp}{t:TypeId}{x y v:AV}(h:im0 T op t x y=some v):im0 T op t (x.sub θ) (y.sub θ)=some (v.sub θ):=by
 have h0:=h
 unfold im0 at h
 split at h
 ·split at h
  ·rename_i e _ _ _ _ b ht hb
   have hb':=sm0 (θ:=θ) hb
   rw[J0,tE0,ht,hb']
   simp only
   split at h
   ·cases h;rfl
   ·cases h;rfl
   ·cases h
  ·cases h
 ·rename_i a b _
  rw[J0,J0,h0]
  split at h
  ·split at h
   ·cases h;rfl
   ·cases h;rfl
   ·cases h
  ·cases h
 ·rename_i a b hn1 hn2
  rw[J0,J0,h0]
  split at h
  ·cases h;rfl
  ·cases h
 ·rename_i cs ds
  split at h
  ·rename_i as bs ti h1 h2 h3
   rw[cn0,cn0,gc0 h1,gc0 h2,h0]
   split at h
   ·split at h
    ·cases h;rfl
    ·cases h;rfl
    ·cases h
   ·cases h
  ·cases h
 ·cases h
theorem wy0{op:UnOp}{x v:AV}(h:aUn op x=some v):aUn op (x.sub θ)=some (v.sub θ):=by
 unfold aUn at h
 split at h
 ·cases h;simp[aUn]
 ·cases h;simp[aUn]
 ·cases h
theorem rf0{T:Tab}{s d:TypeId}{x v:AV}(h:jz0 T s d x=some v):jz0 T s d (x.sub θ)=some (v.sub θ):=by
 unfold jz0 at h
 split at h
 ·rename_i h1 h2
  cases h
  simp[jz0,h1,h2]
 ·cases h
theorem lj0{x v:AV}{i:Nat}(h:bN0 x i=some v):bN0 (x.sub θ) i=some (v.sub θ):=by
 unfold bN0 at h
 split at h
 ·simp[bN0,h]
 ·cases h
theorem je0(cs:List AV)(j:Nat)(vs:List AV):(N6 cs j vs).map (AV.sub θ)=N6 (cs.map (AV.sub θ)) j (vs.map (AV.sub θ)):=by
 simp[N6,List.map_take,List.map_drop]
variable (hθ:Fit θ)
include hθ
theorem tW0{σ σ':c9}{id:Nat}{t:TypeId}{x v:AV}(h:tG0 σ id t x=some (v,σ')):tG0 (σ.sub θ) id t (x.sub θ)=some (v.sub θ,σ'.sub θ):=by
 unfold tG0 at h
 split at h
 ·rename_i cs hc
  cases h
  simp[tG0,et0 hθ hc,c9.sub_set,l7.sub]
 ·cases h
theorem hO0{vs:List AV}(h:vs.all AV.one=true):(vs.map (AV.sub θ)).all AV.one=true:=by
 rw[List.all_map,List.all_eq_true]
 intro v hv
 exact one_sub hθ (List.all_eq_true.1 h v hv)
theorem ov0{T:Tab}{σ σ':c9}{t:TypeId}{x v:AV}(h:V4 T σ t x v=some σ'):V4 T (σ.sub θ) t (x.sub θ) (v.sub θ)=some (σ'.sub θ):=by
 unfold V4 at h
 split at h
 ·rename_i id i j vs ti hc ht
  split at h
  ·rename_i elem size es ho
   split at h
   ·rename_i cs hcs
    split at h
    ·rename_i hcond
     cases h
     simp only[V4,kr0,et0 hθ hc,ht,c9.sub_objs,ho,Option.map_some,l7.sub,List.getElem?_map,hcs,List.length_map]
     rw[if_pos ⟨hcond.1,hcond.2.1,hO0 hθ hcond.2.2⟩]
     rw[c9.sub_set]
     simp[l7.sub,je0,List.map_set]
    ·cases h
   ·cases h
  ·cases h
 ·cases h
theorem gz0{place:Nat->Option (Nat×Nat)}:∀ {parts:List (Nat×AV)} {cells cs:List AV},eD0 place cells parts=some cs->eD0 place (cells.map (AV.sub θ)) (parts.map fun p=>(p.1,p.2.sub θ))=some (cs.map (AV.sub θ))
 | [],cells,cs,h=>by simp only[eD0,Option.some.injEq]at h;subst h;simp[eD0]
 | (i,v)::rest,cells,cs,h=>by
  unfold eD0 at h
  split at h
  ·rename_i off size vs hp hv
   split at h
   ·rename_i hc
    simp only[List.map_cons,eD0,hp,et0 hθ hv,List.length_map]
    rw[if_pos hc]
    have:=gz0 h
    rwa [je0]at this
   ·cases h
  ·cases h
theorem fE0{size:Nat}:∀ {parts:List (Nat×AV)} {es rs:List (List AV)},Q7 size es parts=some rs->Q7 size (es.map (List.map (AV.sub θ))) (parts.map fun p=>(p.1,p.2.sub θ))=some (rs.map (List.map (AV.sub θ)))
 | [],es,rs,h=>by simp only[Q7,Option.some.injEq]at h;subst h;simp[Q7]
 | (i,v)::rest,es,rs,h=>by
  unfold Q7 at h
  split at h
  ·rename_i vs hv
   split at h
   ·rename_i hc
    simp only[List.map_cons,Q7,et0 hθ hv,List.length_map]
    rw[if_pos hc]
    have:=fE0 h
    rwa [List.map_set]at this
   ·cases h
  ·cases h
theorem oN0{T:Tab}{t:TypeId}{parts:List (Nat×AV)}{v:AV}(h:fv0 T t parts=some v):fv0 T t (parts.map fun p=>(p.1,p.2.sub θ))=some (v.sub θ):=by
 unfold fv0 at h
 split at h
 ·rename_i fields _ z _ _ ht
  split at h
  ·rename_i l hl
   split at h
   ·rename_i cs hc
    cases h
    have:=gz0 hθ hc
    rw[mI0]at this
    simp only[fv0,ht,hl,this,cn0]
   ·cases h
  ·cases h
 ·rename_i n elem _ z _ _ ht
  split at h
  ·rename_i ei he
   split at h
   ·rename_i cs hc
    cases h
    have:=gz0 hθ hc
    rw[mI0]at this
    simp only[fv0,ht,he,this,cn0]
   ·cases h
  ·cases h
 ·cases h
theorem gJ0{T:Tab}{σ σ':c9}{id:Nat}{t:TypeId}{len:Nat}{parts:List (Nat×AV)}{v:AV}(h:I0 T σ id t len parts=some (v,σ')) :
  I0 T (σ.sub θ) id t len (parts.map fun p=>(p.1,p.2.sub θ))=some (v.sub θ,σ'.sub θ):=by
 unfold I0 at h
 split at h
 ·rename_i elem _ _ _ _ ht
  split at h
  ·rename_i ei he
   split at h
   ·rename_i hc
    split at h
    ·rename_i es hes
     cases h
     have:=fE0 hθ hes
     rw[List.map_replicate,bV0]at this
     simp only[I0,ht,he,hc,and_self,if_true,this,cC0,c9.sub_set,l7.sub]
    ·cases h
   ·cases h
  ·cases h
 ·cases h
omit hθ in
theorem pW0{σ:c9}{x:AV}{es:List (List AV)}(h:P6 σ x=some es):P6 (σ.sub θ) (x.sub θ)=some (es.map (List.map (AV.sub θ))):=by
 unfold P6 at h
 split at h
 ·split at h
  ·rename_i ho
   split at h
   ·rename_i hl
    cases h
    simp[P6,c9.sub_objs,ho,l7.sub,hl,List.map_take,List.map_drop]
   ·cases h
  ·cases h
 ·cases h;simp[P6]
 ·cases h;simp[P6]
 ·cases h
omit hθ in
theorem po0{σ:c9}{elem:TypeId}{size:Nat}{x:AV}{r:Option Nat×List (List AV)}(h:S3 σ elem size x=some r):S3 (σ.sub θ) elem size (x.sub θ)=some (r.1,r.2.map (List.map (AV.sub θ))):=by
 unfold S3 at h
 split at h
 ·split at h
  ·rename_i ho
   split at h
   ·rename_i hc
    cases h
    simp only[cC0,S3,c9.sub_objs,ho,Option.map_some,l7.sub,List.length_map]
    rw[if_pos hc]
   ·cases h
  ·cases h
 ·cases h;simp[S3]
 ·cases h
theorem lO0{T:Tab}{σ σ':c9}{id:Nat}{sT xT:TypeId}{s x v:AV}(h:N9 T σ id sT xT s x=some (v,σ')):N9 T (σ.sub θ) id sT xT (s.sub θ) (x.sub θ)=some (v.sub θ,σ'.sub θ):=by
 unfold N9 at h
 split at h
 ·rename_i elem _ _ _ _ xi ht hx
  split at h
  ·rename_i ei he
   split at h
   ·rename_i old es xs hb hs
    split at h
    ·rename_i hc
     cases h
     have hall:((xs.map (List.map (AV.sub θ))).all fun c=>c.length==ei.size&&c.all AV.one)=true:=by
      rw[List.all_map,List.all_eq_true]
      intro c hcm
      have:=List.all_eq_true.1 hc.2.1 c hcm
      simp only[Function.comp,List.length_map,Bool.and_eq_true]at this ⊢
      exact⟨this.1,hO0 hθ this.2⟩
     simp only[N9,ht,hx,he,po0 hb,pW0 hs,List.length_map]
     rw[if_pos ⟨hc.1,hall,hc.2.2⟩]
     cases old<;>simp[c9.sub_set,c9.sub_del,l7.sub]
    ·cases h
   ·cases h
  ·cases h
 ·cases h
omit hθ in
theorem jk0{σ:c9}{s:AV}{elem:TypeId}{size:Nat}{r:Option Nat×List (List AV)}(hb:S3 (w9 σ s) elem size s=some r):w9 (σ.sub θ) (s.sub θ)=(w9 σ s).sub θ:=by
 unfold S3 at hb
 split at hb
 ·rename_i id z len
  simp only[w9,cC0,c9.sub_objs]
  cases ho:σ.objs id with
  | none=>simp
  | some o =>
   cases o with
   | row e sz es =>
    simp only[Option.map_some,l7.sub,List.length_map]
    split
    ·rw[c9.sub_set];simp[l7.sub,List.map_take]
    ·rfl
   | xrow e sz i =>
    simp only[w9,ho]at hb
    cases hb
   | xmap c =>
    simp only[w9,ho]at hb
    cases hb
   | frow =>
    simp only[w9,ho]at hb
    cases hb
   | _=>simp[l7.sub]
 ·simp[w9]
 ·cases hb
omit hθ in
theorem py0{T:Tab}{σ σ':c9}{id:Nat}{elem:TypeId}{s x v:AV}(h:df0 T σ id elem s x=some (v,σ')):df0 T (σ.sub θ) id elem (s.sub θ) (x.sub θ)=some (v.sub θ,σ'.sub θ):=by
 unfold df0 at h
 split at h
 ·rename_i k n ei he
  split at h
  ·rename_i hc
   cases h
   simp only[df0,J0,he]
   rw[if_pos hc]
   simp[c9.sub_set,l7.sub,bV0]
  ·cases h
 ·cases h
theorem km0{T:Tab}{σ σ':c9}{id:Nat}{sT xT:TypeId}{s x v:AV}(h:E9 T σ id sT xT s x=some (v,σ')):E9 T (σ.sub θ) id sT xT (s.sub θ) (x.sub θ)=some (v.sub θ,σ'.sub θ):=by
 unfold E9 at h ⊢
 split at h
 ·exact py0 h
 ·have hk:=lO0 hθ h
  unfold N9 at h
  split at h
  ·split at h
   ·split at h
    ·rename_i hb _
     rwa [jk0 hb]
    ·cases h
   ·cases h
  ·cases h
omit hθ in
theorem sY0{T:Tab}{σ:c9}{t:TypeId}{x v:AV}(h:fJ0 T σ t x=some v):fJ0 T (σ.sub θ) t (x.sub θ)=some (v.sub θ):=by
 unfold fJ0 at h
 split at h
 ·rename_i ti ht
  split at h
  ·rename_i hu;cases h;simp[fJ0,ht,hu]
  ·rename_i hu;cases h;simp[fJ0,ht,hu]
  ·rename_i hu;cases h;simp[fJ0,ht,hu]
  ·rename_i hu;cases h;simp[fJ0,ht,hu]
  ·rename_i n e _ hu;cases h;simp[fJ0,ht,hu]
  ·rename_i hu
   split at h
   ·rename_i ho;cases h;simp[fJ0,ht,hu,c9.sub_objs,ho,l7.sub]
   ·cases h
  ·cases h
 ·cases h
omit hθ in
theorem iv0(k:IntKind):∀ {l:List AV} {a:Int} {v:Value},dQ0 k a l=some v->l.map (AV.sub θ)=l
 | [],_,_,_=>rfl
 | c::l,a,v,h=>by
  unfold dQ0 at h
  split at h
  ·rename_i e;cases e
  ·rename_i e;cases e;simp[iv0 k h]
  ·cases h
omit hθ in
theorem jh0(k:IntKind):∀ {l:List AV} {a:Int} {v:Value},dY0 k a l=some v->l.map (AV.sub θ)=l
 | [],_,_,_=>rfl
 | c::l,a,v,h=>by
  unfold dY0 at h
  split at h
  ·rename_i e;cases e
  ·rename_i e;cases e;simp[jh0 k h]
  ·cases h
omit hθ in
theorem sL0{l:List AV}{v:Value}(h:uA0 l=some v):l.map (AV.sub θ)=l:=by
 unfold uA0 at h
 split at h
 ·simp[iv0 _ h]
 ·cases h
omit hθ in
theorem tA0{l:List AV}{v:Value}(h:va0 l=some v):l.map (AV.sub θ)=l:=by
 unfold va0 at h
 split at h
 ·simp[jh0 _ h]
 ·cases h
omit hθ in
theorem ud0{T:Tab}{t:TypeId}{x v:AV}(h:xg0 T t x=some v):xg0 T t (x.sub θ)=some (v.sub θ):=by
 unfold xg0 at h
 split at h
 ·rename_i ht;cases h;simp[xg0,ht]
 ·cases h
omit hθ in
theorem eJ0{x:AV}{k:Bool×List Int}(h:x.key=some k):(x.sub θ).key=some k:=by
 unfold AV.key at h
 split at h
 ·simpa[AV.key]using h
 ·split at h
  ·rename_i cs l hl
   rw[cn0,gc0 hl]
   simpa[AV.key,hl]using h
  ·cases h
 ·cases h
omit hθ in
theorem cE0(agg:Bool)(l:List Int):∀ (es:List (List Int×AV×Nat)) (i:Nat),J6 agg l (es.map fun e=>(e.1,e.2.1.sub θ,e.2.2)) i=(J6 agg l es i).map fun p=>(p.1,p.2.sub θ)
 | [],i=>rfl
 | e::es,i=>by
  simp only[List.map_cons,J6]
  split
  ·rfl
  ·exact cE0 agg l es (i+1)
omit hθ in
theorem cQ0(T:Tab)(kt:TypeId)(b:Bool)(l:List Int)(es:List (List Int×AV×Nat)):V5 T kt b l (es.map fun e=>(e.1,e.2.1.sub θ,e.2.2))=V5 T kt b l es:=by
 simp only[V5,List.all_map,Function.comp_def]
omit hθ in
theorem kX0{r:List AV}(h:Q6 r=true):Q6 (r.map (AV.sub θ))=true/\∀ j,D5 j (r.map (AV.sub θ))=((D5 j r).1,(D5 j r).2.1.sub θ,(D5 j r).2.2):=by
 unfold Q6 at h
 split at h
 ·rename_i k v
  cases hk:k.key with
  | none=>simp[hk]at h
  | some x=>simp[Q6,D5,eJ0 hk,hk]
 ·cases h
omit hθ in
theorem er0:∀ {rows:List (List AV)} (j:Nat),rows.all Q6=true->(rows.map (List.map (AV.sub θ))).all Q6=true/\w8 j (rows.map (List.map (AV.sub θ)))=(w8 j rows).map fun e=>(e.1,e.2.1.sub θ,e.2.2)
 | [],_,_=>by simp[w8]
 | r::rs,j,h=>by
  simp only[List.all_cons,Bool.and_eq_true]at h
  obtain⟨h1,h2⟩:=kX0 (θ:=θ) h.1
  obtain⟨h3,h4⟩:=er0 (rows:=rs) (j+1) h.2
  simp only[List.map_cons,List.all_cons,Bool.and_eq_true,w8,h2,h4]
  exact⟨⟨h1,h3⟩,trivial⟩
omit hθ in
theorem sA0{rows:List (List AV)}(h:rows.all Q6=true):aK0 (rows.map (List.map (AV.sub θ)))=aK0 rows:=by
 cases rows with
 | nil=>rfl
 | cons r rs =>
  simp only[List.all_cons,Bool.and_eq_true]at h
  have h1:=h.1
  unfold Q6 at h1
  split at h1
  ·rename_i k v
   cases hk:k.key with
   | none=>simp[hk]at h1
   | some x=>simp[aK0,eJ0 hk,hk]
  ·cases h1
omit hθ in
theorem mO0{T:Tab}{σ:c9}{t:TypeId}{x ix v:AV}{ok:Bool}(h:H9 T σ t x ix ok=some v):H9 T (σ.sub θ) t (x.sub θ) (ix.sub θ) ok=some (v.sub θ):=by
 unfold H9 at h
 split at h
 ·rename_i kt et _ _ _ _ b l ht hk
  split at h
  ·rename_i ei he
   split at h
   ·split at h
    ·rename_i agg es _ ho
     split at h
     ·rename_i hc
      cases h
      simp only[H9,ht,eJ0 hk,he,dn0,c9.sub_objs,ho,Option.map_some,l7.sub,cQ0,List.isEmpty_map,cE0]
      rw[if_pos hc]
      cases J6 b l es 0<;>cases ok<;>simp[cS0]
     ·cases h
    ·cases h
   ·rename_i rows
    split at h
    ·rename_i hc
     cases h
     obtain⟨q1,q2⟩:=er0 (θ:=θ) 0 hc.2.2
     simp only[H9,ht,eJ0 hk,he,fB0,do0,q1,q2,sA0 hc.2.2,cQ0,List.isEmpty_map,cE0]
     rw[if_pos ⟨hc.1,hc.2.1,trivial⟩]
     cases J6 b l (w8 0 rows) 0<;>cases ok<;>simp[cS0]
    ·cases h
   ·cases h
  ·cases h
 ·cases h
omit hθ in
theorem sF0(agg:Bool)(l:List Int)(v:AV)(clock:Nat)(es:List (List Int×AV×Nat)) :
  mput agg l (v.sub θ) clock (es.map fun e=>(e.1,e.2.1.sub θ,e.2.2))=((mput agg l v clock es).1.map (fun e=>(e.1,e.2.1.sub θ,e.2.2)),(mput agg l v clock es).2):=by
 simp only[mput,cE0]
 cases J6 agg l es 0 with
 | none=>simp
 | some p =>
  simp only[Option.map_some,Prod.mk.injEq,and_true]
  apply List.ext_getElem?
  intro j
  simp only[List.getElem?_modify,List.getElem?_map]
  cases es[j]? with
  | none=>simp
  | some e=>simp only[Option.map_some];split<;>simp
omit hθ in
theorem nQ0(n:Int):∀ (es:List (List Int×AV×Nat)) (i:Nat),uY0 n (es.map fun e=>(e.1,e.2.1.sub θ,e.2.2)) i=uY0 n es i
 | [],_=>rfl
 | e::es,i=>by simp only[List.map_cons,uY0];rw[nQ0 n es]
omit hθ in
theorem jW0{T:Tab}{σ σ':c9}{t:TypeId}{x ix v:AV}(h:O2 T σ t x ix=some (v,σ')):O2 T (σ.sub θ) t (x.sub θ) (ix.sub θ)=some (v.sub θ,σ'.sub θ):=by
 unfold O2 at h
 split at h
 ·rename_i kt et _ _ _ _ b l ht hk
  split at h
  ·rename_i ei hei
   split at h
   ·split at h
    ·rename_i agg es clock ho
     simp only[O2,ht,eJ0 hk,hei,dn0,c9.sub_objs,ho,Option.map_some,l7.sub,cQ0,List.isEmpty_map,cE0]
     split at h
     ·rename_i hc
      cases h
      rw[if_pos hc]
      simp[c9.sub_set,l7.sub,cS0]
     ·rename_i hn
      rw[if_neg hn]
      split at h
      ·rename_i hc
       rw[if_pos hc]
       split at h
       ·rename_i i c hm
        cases h
        simp[hm,Option.map_map,Function.comp_def]
       ·rename_i hm
        cases h
        simp[hm,c9.sub_set,l7.sub,cS0]
      ·cases h
    ·cases h
   ·cases h
  ·cases h
 ·cases h
omit hθ in
theorem hm0{σ σ':c9}{x st v:AV}(h:H7 σ x st v=some σ'):H7 (σ.sub θ) (x.sub θ) (st.sub θ) (v.sub θ)=some (σ'.sub θ):=by
 unfold H7 at h
 split at h
 ·split at h
  ·rename_i agg es clock ho
   split at h
   ·rename_i i hi
    cases h
    simp only[H7,dn0,J0,c9.sub_objs,ho,Option.map_some,l7.sub,nQ0,hi,c9.sub_set]
    congr 3
    apply List.ext_getElem?
    intro j
    simp only[List.getElem?_modify,List.getElem?_map]
    cases es[j]? with
    | none=>simp
    | some e=>simp only[Option.map_some];split<;>rfl
   ·cases h
  ·cases h
 ·cases h
omit hθ in
theorem dq0{T:Tab}{σ σ':c9}{t:TypeId}{x ix v:AV}(h:C6 T σ t x ix v=some σ'):C6 T (σ.sub θ) t (x.sub θ) (ix.sub θ) (v.sub θ)=some (σ'.sub θ):=by
 unfold C6 at h
 split at h
 ·rename_i kt et _ _ _ _ b l ht hk
  split at h
  ·split at h
   ·rename_i agg es clock ho
    simp only[C6,ht,eJ0 hk,dn0,c9.sub_objs,ho,Option.map_some,l7.sub,cQ0,List.isEmpty_map]
    split at h
    ·rename_i hc
     cases h
     rw[if_pos hc]
     simp[c9.sub_set,l7.sub]
    ·rename_i hn
     rw[if_neg hn]
     split at h
     ·rename_i hc
      cases h
      rw[if_pos hc]
      simp[c9.sub_set,l7.sub,sF0]
     ·cases h
   ·cases h
  ·cases h
 ·cases h
theorem lH0{T:Tab}{σ σ':c9}{id:Nat}{b:Builtin}{ts:Array TypeId}{args:List AV}{v:AV}(h:F6 T σ id b ts args=some (v,σ')):F6 T (σ.sub θ) id b ts (args.map (AV.sub θ))=some (v.sub θ,σ'.sub θ):=by
 unfold F6 at h
 split at h
 ·rename_i t x hts
  split at h
  ·rename_i u hu;cases h;simp[F6,hts,sY0 hu]
  ·cases h
 ·rename_i s x a c hts
  have:=km0 hθ h
  simp only[F6,hts,List.map_cons,List.map_nil];exact this
 ·rename_i t x hts
  split at h
  ·rename_i u hu;cases h;simp[F6,hts,ud0 hu]
  ·cases h
 ·rename_i l
  split at h
  ·rename_i u hu;cases h;simp[F6,sL0 hu,hu]
  ·cases h
 ·rename_i l
  split at h
  ·rename_i u hu;cases h;simp[F6,tA0 hu,hu]
  ·cases h
 ·cases h
theorem rq0{T:Tab}{ρ:Operand->AV}{σ σ':c9}{id:Nat}{op:Op}{v:AV}(h:aop T ρ σ id op=some (v,σ')):aop T (fun x=>(ρ x).sub θ) (σ.sub θ) id op=some (v.sub θ,σ'.sub θ):=by
 cases op with
 | move x=>cases h;rfl
 | assign x=>cases h;rfl
 | pick c a b =>
  simp only[aop]at h ⊢
  split at h
  ·rename_i t hc;cases h;simp only[hc,J0];cases t<;>rfl
  ·cases h
 | alloc t=>exact oI0 h
 | box t x=>exact tW0 hθ h
 | build t ps =>
  simp only[aop]at h ⊢
  split at h
  ·rename_i u hu
   cases h
   have:=oN0 hθ hu
   simp only[List.map_map,Function.comp_def]at this
   rw[this]
  ·cases h
 | buildSlice t len ps =>
  simp only[aop]at h ⊢
  have:=gJ0 hθ h
  simp only[List.map_map,Function.comp_def]at this
  exact this
 | load t x =>
  simp only[aop]at h ⊢
  split at h
  ·rename_i u hu;cases h;rw[pm0 hu]
  ·cases h
 | store t a x =>
  simp only[aop]at h ⊢
  split at h
  ·rename_i u hu;cases h;rw[ov0 hθ hu];simp
  ·cases h
 | nilCheck x =>
  simp only[aop]at h ⊢
  split at h
  ·rename_i hx;cases h;simp[hx]
  ·rename_i hx;cases h;simp[hx]
  ·rename_i hx;cases h;simp[hx]
  ·cases h
 | binOp o t x y p =>
  simp only[aop]at h ⊢
  split at h
  ·rename_i u hu;cases h;rw[tl0 hu]
  ·cases h
 | unOp o t x =>
  simp only[aop]at h ⊢
  split at h
  ·rename_i u hu;cases h;rw[wy0 hu]
  ·cases h
 | convert s d x =>
  simp only[aop]at h ⊢
  split at h
  ·rename_i u hu;cases h;rw[rf0 hu]
  ·cases h
 | makeFunc f a c=>simp only[aop]at h ⊢;cases h;simp[Function.comp_def]
 | makeMap t n =>
  cases n with
  | none=>simp only[aop]at h ⊢;cases h;simp[c9.sub_set,l7.sub]
  | some n=>simp[aop]at h
 | slice t x lo hi mx =>
  simp only[aop]at h ⊢
  split at h
  ·rename_i u hu
   cases h
   have:=pb0 (θ:=θ) hu
   simp only[Option.map_map,Function.comp_def]at this
   rw[this]
  ·cases h
 | fieldAddr t x f =>
  simp only[aop]at h ⊢
  split at h
  ·rename_i u hu;cases h;rw[di0 hu]
  ·cases h
 | field t x f =>
  simp only[aop]at h ⊢
  split at h
  ·rename_i u hu;cases h;rw[ou0 hu]
  ·cases h
 | indexAddr t x i =>
  simp only[aop]at h ⊢
  split at h
  ·rename_i u hu;cases h;rw[ir0 hu]
  ·cases h
 | index t x i =>
  simp only[aop]at h ⊢
  split at h
  ·rename_i u hu;cases h;rw[oS0 hu]
  ·cases h
 | lookup t x i ok =>
  simp only[aop]at h ⊢
  split at h
  ·rename_i u hu;cases h;rw[mO0 hu]
  ·cases h
 | mapUpdate t m k x =>
  simp only[aop]at h ⊢
  split at h
  ·rename_i u hu;cases h;rw[dq0 hu];simp
  ·cases h
 | insert t m k x =>
  simp only[aop]at h ⊢
  split at h
  ·rename_i u hu;cases h;rw[dq0 hu];simp
  ·cases h
 | mapEntry t m k =>
  simp only[aop]at h ⊢
  exact jW0 h
 | entryStore t m s x =>
  simp only[aop]at h ⊢
  split at h
  ·rename_i u hu;cases h;rw[hm0 hu];simp
  ·cases h
 | extract x i =>
  simp only[aop]at h ⊢
  split at h
  ·rename_i u hu;cases h;rw[lj0 hu]
  ·cases h
 | call c =>
  obtain⟨callee,args,ts⟩:=c
  cases callee with
  | builtin b =>
   simp only[aop]at h ⊢
   have:=lH0 hθ h
   simpa[List.map_map,Function.comp_def]using this
  | value f=>simp[aop]at h
  | invoke r m=>simp[aop]at h
 | _=>simp[aop]at h
end
end Go.Ab
namespace Go.Ab
open Go
variable [B0]
structure S9(n:Nat)(G:j4)(σ:c9)(w:World)(G':j4)(σ':c9)(w':World):Prop where
 w0:G'.w0=G.w0
 imm:∀ b o,G.imm b=some o->G'.imm b=some o
 pl:∀ i,i<n->G'.pl i=G.pl i
 nx:n<=σ'.next
 fr:Fr G σ w G' σ' w'
theorem S9.refl{n:Nat}(G:j4)(σ:c9)(w:World)(hn:n<=σ.next):S9 n G σ w G σ w:=⟨rfl,fun _ _ h=>h,fun _ _=>rfl,hn,.refl G σ w⟩
theorem S9.trans{n m:Nat}{G1 G2 G3:j4}{σ1 σ2 σ3:c9}{w1 w2 w3:World}(h:S9 n G1 σ1 w1 G2 σ2 w2)(k:S9 m G2 σ2 w2 G3 σ3 w3)(hnm:n<=m):S9 n G1 σ1 w1 G3 σ3 w3 :=
 ⟨k.w0.trans h.w0,fun b o x=>k.imm b o (h.imm b o x),fun i hi=>(k.pl i (by omega)).trans (h.pl i hi),Nat.le_trans hnm k.nx,h.fr.trans k.fr⟩
theorem lL0.toB{m n:Nat}{G:j4}{σ:c9}{w:World}{G':j4}{σ':c9}{w':World}(h:lL0 m G σ w G' σ' w')(hn:n<=m)(hx:n<=σ.next):S9 n G σ w G' σ' w' :=
 ⟨h.le.w0,h.le.imm,fun i hi=>by
  cases hp:G.pl i with
  | none=>exact h.keeps i (by omega) hp
  | some p=>exact h.le.pl i p hp,Nat.le_trans hx h.next,h.fr⟩
theorem S9.le{n:Nat}{G:j4}{σ σ0:c9}{w w0:World}{G':j4}{σ':c9}{w':World}(h:S9 n G σ w G' σ' w')(hr:Rel G σ0 w0)(hn:σ0.next<=n):G.le G' :=
 ⟨h.w0,h.imm,fun i p hp=>by rw[h.pl i (by have:=hr.id_lt hp;omega)];exact hp⟩
def BWp(P:Program)(n:Nat)(c:Code)(Q:Exit->AS->Prop)(s:AS):Prop :=
 n<=s.st.next->∀ G a w,aG0 G s a w->c.wp P (fun e a' w'=>∃ s' G',S9 n G s.st w G' s'.st w'/\aG0 G' s' a' w'/\Q e s') a w
section
variable {P:Program} {n:Nat} {Q:Exit->AS->Prop} {s:AS}
theorem BWp.mono{c:Code}{Q':Exit->AS->Prop}(h:BWp P n c Q s)(hq:∀ e s',Q e s'->Q' e s'):BWp P n c Q' s :=
 fun hn G a w hr=>wp_mono (h hn G a w hr) fun _ _ _ ⟨s',G',a1,a2,a3⟩=>⟨s',G',a1,a2,hq _ _ a3⟩
theorem BWp.of_awp{c:Code}(h:AWp P c Q s):BWp P n c Q s :=
 fun hn G a w hr=>wp_mono (h G a w hr) fun _ _ _ ⟨s',G',a1,a2,a3⟩=>⟨s',G',a1.toB hn hn,a2,a3⟩
theorem BWp.seq{x y:Code}(h:BWp P n x (mL0 (BWp P n y Q) Q) s):BWp P n (.seq x y) Q s:=by
 intro hn G a w hr
 refine wp_seq (wp_mono (h hn G a w hr) ?_)
 rintro e a' w' ⟨s',G',a1,a2,a3⟩
 cases e with
 | normal =>
  refine wp_mono (a3 a1.nx G' a' w' a2) ?_
  rintro e2 a2' w2 ⟨s2,G2,b1,b2,b3⟩
  exact⟨s2,G2,a1.trans b1 (Nat.le_refl _),b2,b3⟩
 | _=>exact⟨s',G',a1,a2,a3⟩
theorem BWp.cond{c:Operand}{x y:Code}{t:Bool}(hc:s.eval c=.sc (.bool t))(h:BWp P n (if t then x else y) Q s):BWp P n (.cond c x y) Q s:=by
 intro hn G a w hr
 have:=hr.eval c
 rw[hc]at this
 generalize hev:a.eval c=u at this
 cases this
 exact wp_cond hev (h hn G a w hr)
theorem BWp.block{id:Nat}{c:Code}(h:BWp P n c (fW0 id Q) s):BWp P n (.block id c) Q s:=by
 intro hn G a w hr
 refine wp_block (wp_mono (h hn G a w hr) ?_)
 rintro e a' w' ⟨s',G',a1,a2,a3⟩
 cases e with
 | exit id' =>
  simp only[fW0]at a3
  simp only[Exit.inBlock]
  split
  ·rename_i e;rw[if_pos e]at a3;exact⟨s',G',a1,a2,a3⟩
  ·rename_i e;rw[if_neg e]at a3;exact⟨s',G',a1,a2,a3⟩
 | _=>exact⟨s',G',a1,a2,a3⟩
theorem BWp.scope{c:Code}(h:BWp P n c (fun e s'=>noGo e/\Q e s') s):BWp P n (.scope c) Q s:=by
 intro hn G a w hr
 refine wp_scope_straight (wp_mono (h hn G a w hr) ?_)
 rintro e a' w' ⟨s',G',a1,a2,a3,a4⟩
 cases e with
 | goto l=>exact a3.elim
 | _=>exact⟨s',G',a1,a2,a4⟩
theorem BWp.loop{c:Code}(I:Nat->AS->Prop)(round:∀ k s,I k s->BWp P n c (mL0 (fun s'=>∃ m,m<k/\I m s') Q) s){k:Nat}(h0:I k s):BWp P n (.loop c) Q s:=by
 intro hn G a w hr
 have pick:∀ a1 w1,(∃ k,∃ s' G',S9 n G s.st w G' s'.st w1/\aG0 G' s' a1 w1/\I k s') ->
   ∃ k,(∃ s' G',S9 n G s.st w G' s'.st w1/\aG0 G' s' a1 w1/\I k s')/\∀ m,m<k->¬ ∃ s' G',S9 n G s.st w G' s'.st w1/\aG0 G' s' a1 w1/\I m s':=by
  rintro a1 w1 ⟨k,hk⟩
  induction k using Nat.strongRecOn with
  | _ k ih =>
   by_cases hm:∃ m,m<k/\∃ s' G',S9 n G s.st w G' s'.st w1/\aG0 G' s' a1 w1/\I m s'
   ·obtain⟨m,hm1,hm2⟩:=hm
    exact ih m hm1 hm2
   ·exact⟨k,hk,fun m hm1 hm2=>hm ⟨m,hm1,hm2⟩⟩
 classical
 let μ:Act->World->Nat:=fun a1 w1=>if h:∃ k,∃ s' G',S9 n G s.st w G' s'.st w1/\aG0 G' s' a1 w1/\I k s' then (pick a1 w1 h).choose else 0
 refine wp_loop (fun a1 w1=>∃ k,∃ s' G',S9 n G s.st w G' s'.st w1/\aG0 G' s' a1 w1/\I k s') μ ⟨k,s,G,.refl _ _ _ hn,hr,h0⟩ ?_
 intro a1 w1 hI
 have hμ:μ a1 w1=(pick a1 w1 hI).choose:=by simp only[μ];rw[dif_pos hI]
 obtain⟨⟨s',G',b1,b2,b3⟩,hleast⟩:=(pick a1 w1 hI).choose_spec
 rw[hμ]
 refine wp_mono (round _ s' b3 b1.nx G' a1 w1 b2) ?_
 rintro e a2 w2 ⟨s2,G2,c1,c2,c3⟩
 have ht:=b1.trans c1 (Nat.le_refl _)
 cases e with
 | normal =>
  obtain⟨m,hm,hIm⟩:=c3
  have hI2:∃ k,∃ s' G',S9 n G s.st w G' s'.st w2/\aG0 G' s' a2 w2/\I k s':=⟨m,s2,G2,ht,c2,hIm⟩
  refine⟨hI2,?_⟩
  have hμ2:μ a2 w2=(pick a2 w2 hI2).choose:=by simp only[μ];rw[dif_pos hI2]
  rw[hμ2]
  have h2:=(pick a2 w2 hI2).choose_spec.2
  rcases Nat.lt_or_ge m (pick a2 w2 hI2).choose with hlt | hge
  ·exact absurd ⟨s2,G2,ht,c2,hIm⟩ (h2 m hlt)
  ·omega
 | _=>exact⟨s2,G2,ht,c2,c3⟩
end
def Z6(P:Program)(ops:Array Oper)(n0 n:Nat)(Q:AS->Prop)(l:List Nat)(s:AS):Prop :=
 ∀ G a w,aG0 G s a w->(∀ j∈l,j<ops.size/\G.pl (n0+j)=none)->n0+ops.size<=s.st.next->n<=n0 ->
  wpOps P ops (fun e a' w'=>e=.normal/\∃ s' G',S9 n G s.st w G' s'.st w'/\aG0 G' s' a' w'/\Q s') l a w
section
variable {P:Program} {ops:Array Oper} {n0 n:Nat} {Q:AS->Prop} {s:AS}
theorem Z6.nil(h:Q s):Z6 P ops n0 n Q [] s:=fun G _ _ hr _ h1 h2=>⟨rfl,s,G,.refl _ _ _ (by omega),hr,h⟩
theorem Z6.skip{i:Nat}{rest:List Nat}{o:Oper}(ho:ops[i]?=some o)(hw:E3 ops s o=some false)(hd:S8 s.n o.dst=true)(h:Z6 P ops n0 n Q rest (s.put o.dst (.sc undef))):Z6 P ops n0 n Q (i::rest) s:=by
 intro G a w hr hf hn hn2
 simp only[wpOps,ho,S7 hr hw,Bool.false_eq_true,if_false]
 have:=h G _ w (hr.put (.refl G) hr.rel (.sc undef) hd) (fun j hj=>hf j (by simp[hj])) (by simpa using hn) hn2
 simpa using this
theorem Z6.plain{T:Tab}(hT:C2 P T){i:Nat}{rest:List Nat}{o:Oper}{v:AV}{σ':c9}(ho:ops[i]?=some o)(hi:i∉rest)(hw:E3 ops s o=some true)(hd:S8 s.n o.dst=true)
  (ha:aop T s.eval s.st (n0+i) o.op=some (v,σ')) (h:Z6 P ops n0 n Q rest ({ s with st:=σ' }.put o.dst v)):Z6 P ops n0 n Q (i::rest) s:=by
 intro G a w hr hf hn hn2
 have hlt:i<ops.size:=(Array.getElem?_eq_some_iff.1 ho).1
 have hnx:σ'.next=s.st.next:=(kb0 ha).1
 simp only[wpOps,ho,S7 hr hw,if_true]
 left
 obtain⟨G',u,w',h1,h2,h3,h4,h5,hfr⟩:=rB0 (P:=P) hT hr.rel hr.eval (hf i (by simp)).2 (by omega) ha
 have hne:∀ j∈rest,n0+j≠n0+i:=fun j hj e=>hi (by have e':j=i:=Nat.add_left_cancel e;rw[<- e'];exact hj)
 have key:=h G' (a.put o.dst u) w' (hr.put h1 h5 h4 hd) (fun j hj=>⟨(hf j (by simp[hj])).1,h2 _ (hne j hj) (hf j (by simp[hj])).2⟩) (by simp;omega) hn2
 have ht:S9 n G s.st w G' σ' w':=⟨h1.w0,h1.imm,fun k hk=>by
  cases hp:G.pl k with
  | none=>exact h2 k (by omega) hp
  | some p=>exact h1.pl k p hp,by omega,hfr⟩
 have key':=C9 (P:=P) (ops:=ops) (Q':=fun e a' w'=>e=.normal/\∃ s' G',S9 n G s.st w G' s'.st w'/\aG0 G' s' a' w'/\Q s') (fun e a' w' ⟨e1,s',G2,b1,b2,b3⟩ =>
  ⟨e1,s',G2,ht.trans (by simpa using b1) (Nat.le_refl _),b2,b3⟩) rest _ _ key
 unfold Oper.wp
 rcases h3 with h3 | ⟨h3,h6⟩
 ·rw[h3];exact key'
 ·rw[h3];subst h6;exact key'
def Told(P:Program)(f:FuncId)(args:List AV)(σ:c9)(c:AV):Prop:=C1 P f args σ (fun v σ'=>v=c/\σ'=σ)
theorem bZ0{a:Act}{w:World}{o:Oper}{fo:Operand}{args:Array Operand}{ts:Array TypeId}{f:FuncId}{fv cv:List Value}(hop:o.op=.call { callee:=.value fo,args:=args,argTypes:=ts })
  (hev:a.eval fo=.func (.func f) fv.toArray cv.toArray):(execOp a.eval o).run P w=(callFunc f (fv++args.toList.map a.eval++cv).toArray).run P w:=by
 have e:fv.toArray++args.map a.eval++cv.toArray=(fv++args.toList.map a.eval++cv).toArray:=by apply Array.ext';simp
 simp only[execOp,hop,resolve,hev,Deferred.ofValue,Sem.run_bind,Sem.run_pure,Result.andThen_ok,invoke,e]
theorem Z6.told{i:Nat}{rest:List Nat}{o:Oper}{fo:Operand}{args:Array Operand}{ts:Array TypeId}{f:FuncId}{first cap:List AV}(ho:ops[i]?=some o)(hop:o.op=.call { callee:=.value fo,args:=args,argTypes:=ts })
  (hw:E3 ops s o=some true) (hd:S8 s.n o.dst=true) (hfo:s.eval fo=.fn (.func f) first cap) {c:AV}
  (hc:Told P f (first++args.toList.map s.eval++cap) s.st c) (h:Z6 P ops n0 n Q rest (s.put o.dst c)):Z6 P ops n0 n Q (i::rest) s:=by
 intro G a w hr hf hn hn2
 simp only[wpOps,ho,S7 hr hw,if_true]
 left
 have hfv:=hr.eval fo
 rw[hfo]at hfv
 generalize hev:a.eval fo=u at hfv
 cases hfv with
 | fn _ _ _ fv cv h1 h2 h3 h4 =>
 have hargs:B7 G (first++args.toList.map s.eval++cap) (fv++args.toList.map a.eval++cv) :=
  (B7.append (G:=G) ⟨h1,h3⟩ (B7.map hr.eval args.toList)).append ⟨h2,h4⟩
 unfold Oper.wp
 rw[bZ0 hop hev]
 refine hc G _ w hargs hr.rel o a _ _ ?_
 rintro v av σ' G' w' b1 b3 b4 ⟨rfl,rfl⟩
 have key:=h G' (a.put o.dst v) w' (hr.put b1.le b4 b3 hd) (fun j hj=>⟨(hf j (by simp[hj])).1,b1.keeps _ (by have:=(hf j (by simp[hj])).1;omega) (hf j (by simp[hj])).2⟩) (by simpa using hn) hn2
 have ht:S9 n G s.st w G' s.st w':=b1.toB (by omega) (by omega)
 exact C9 (fun e a' w' ⟨e1,s',G2,c1,c2,c3⟩=>⟨e1,s',G2,ht.trans (by simpa using c1) (Nat.le_refl _),c2,c3⟩) rest _ _ key
theorem Z6.turns{i:Nat}{rest:List Nat}{o:Oper}{fo:Operand}{args:Array Operand}{ts:Array TypeId}{f:FuncId}{first cap:List AV}(ho:ops[i]?=some o)(hop:o.op=.call { callee:=.value fo,args:=args,argTypes:=ts })
  (hw:E3 ops s o=some true) (hd:S8 s.n o.dst=true) (hfo:s.eval fo=.fn (.func f) first cap) {c:AV} {σ1:c9} (hnx:s.st.next<=σ1.next)
  (hc:C1 P f (first++args.toList.map s.eval++cap) s.st (fun v σ'=>v=c/\σ'=σ1)) (h:Z6 P ops n0 n Q rest ({ s with st:=σ1 }.put o.dst c)):Z6 P ops n0 n Q (i::rest) s:=by
 intro G a w hr hf hn hn2
 simp only[wpOps,ho,S7 hr hw,if_true]
 left
 have hfv:=hr.eval fo
 rw[hfo]at hfv
 generalize hev:a.eval fo=u at hfv
 cases hfv with
 | fn _ _ _ fv cv h1 h2 h3 h4 =>
 have hargs:B7 G (first++args.toList.map s.eval++cap) (fv++args.toList.map a.eval++cv) :=
  (B7.append (G:=G) ⟨h1,h3⟩ (B7.map hr.eval args.toList)).append ⟨h2,h4⟩
 unfold Oper.wp
 rw[bZ0 hop hev]
 refine hc G _ w hargs hr.rel o a _ _ ?_
 rintro v av σ' G' w' b1 b3 b4 ⟨rfl,rfl⟩
 have key:=h G' (a.put o.dst v) w' (hr.put b1.le b4 b3 hd) (fun j hj=>⟨(hf j (by simp[hj])).1,b1.keeps _ (by have:=(hf j (by simp[hj])).1;omega) (hf j (by simp[hj])).2⟩) (by simp;omega) hn2
 have ht:S9 n G s.st w G' σ' w':=b1.toB (by omega) (by omega)
 exact C9 (fun e a' w' ⟨e1,s',G2,c1,c2,c3⟩=>⟨e1,s',G2,ht.trans (by simpa using c1) (Nat.le_refl _),c2,c3⟩) rest _ _ key
theorem Z6.inline{T:Tab}(hT:C2 P T){i:Nat}{rest:List Nat}{o:Oper}{fo:Operand}{args:Array Operand}{ts:Array TypeId}{f:FuncId}{first cap:List AV}{fn:Func}{c:Code}(ho:ops[i]?=some o)
  (hop:o.op=.call { callee:=.value fo,args:=args,argTypes:=ts }) (hw:E3 ops s o=some true) (hd:S8 s.n o.dst=true) (hfo:s.eval fo=.fn (.func f) first cap)
  (hfn:P.funcs[f]?=some fn) (hname:(fn.name== "runtime.NumGoroutine")=false) (hb:fn.body=some c) (hl:(first++args.toList.map s.eval++cap).length<=fn.ntmps)
  (h:BWp P s.st.next c (fun e s1=>(e=.normal\/e=.ret)/\∃ v,D0 T fn s1=some v/\Z6 P ops n0 n Q rest ({ s with st:=s1.st }.put o.dst v)) (AS.enter fn.ntmps (first++args.toList.map s.eval++cap) s.st)) :
  Z6 P ops n0 n Q (i::rest) s:=by
 intro G a w hr hf hn hn2
 simp only[wpOps,ho,S7 hr hw,if_true]
 left
 have hfv:=hr.eval fo
 rw[hfo]at hfv
 generalize hev:a.eval fo=u at hfv
 cases hfv with
 | fn _ _ _ fv cv h1 h2 h3 h4 =>
 have hargs:B7 G (first++args.toList.map s.eval++cap) (fv++args.toList.map a.eval++cv) :=
  (B7.append (G:=G) ⟨h1,h3⟩ (B7.map hr.eval args.toList)).append ⟨h2,h4⟩
 unfold Oper.wp
 have hrun:(callFunc f (fv++args.toList.map a.eval++cv).toArray).run P w=.ok (.enter f (fv++args.toList.map a.eval++cv).toArray) w:=by
  simp only[callFunc,Sem.run_bind,run_program,Result.andThen_ok,hfn,hname,hb,Option.isNone_some,Bool.false_eq_true,if_false,Sem.run_pure]
 rw[bZ0 hop hev,hrun]
 simp only[Oper.upon]
 refine calls_of_wp hfn hb (wp_mono (h (Nat.le_refl _) G _ w (aG0.enter hargs hr.rel fn.ntmps hl)) ?_)
 rintro e a' w' ⟨s1,G',b1,b3,hex,v,hv,hR⟩
 obtain⟨y,hy,hry⟩:=dw0 (P:=P) hT b3 hv
 have hle:G.le G':=b1.le hr.rel (Nat.le_refl _)
 have key:=hR G' (a.put o.dst y) w' (hr.put hle b3.rel hry hd) (fun j hj=>⟨(hf j (by simp[hj])).1,by rw[b1.pl _ (by have:=(hf j (by simp[hj])).1;show n0+j<s.st.next;omega)];exact(hf j (by simp[hj])).2⟩) (by
  have:=b1.nx
  simp only[AS.put_st];show n0+ops.size<=s1.st.next;exact Nat.le_trans hn this) hn2
 have ht:S9 n G s.st w G' s1.st w':=⟨b1.w0,b1.imm,fun k hk=>b1.pl k (by show k<s.st.next;omega),by have:=b1.nx;show n<=s1.st.next;exact Nat.le_trans (by omega) this,b1.fr⟩
 have key':=C9 (P:=P) (ops:=ops) (Q':=fun e a' w'=>e=.normal/\∃ s' G',S9 n G s.st w G' s'.st w'/\aG0 G' s' a' w'/\Q s') (fun e a' w' ⟨e1,s',G2,c1,c2,c3⟩ =>
  ⟨e1,s',G2,ht.trans (by simpa using c1) (Nat.le_refl _),c2,c3⟩) rest _ _ key
 rcases hex with rfl | rfl
 ·exact⟨b3.defers,y,hy,key'⟩
 ·exact⟨b3.defers,y,hy,key'⟩
end
theorem BWp.region{P:Program}{n:Nat}{Q:Exit->AS->Prop}{s:AS}{id:Nat}{ops:Array Oper}
  (h:Z6 P ops s.st.next n (fun s'=>Q .normal s') (List.range ops.size) { s with st:={ s.st with next:=s.st.next+ops.size } }):BWp P n (.region id ops false) Q s:=by
 intro hn G a w hr
 refine wp_region ?_
 have hr':aG0 G { s with st:={ s.st with next:=s.st.next+ops.size } } a w:=⟨hr.defers,hr.size,hr.tmps,hr.rel.next (Nat.le_add_right _ _)⟩
 refine C9 ?_ _ _ _ (h G a w hr' (fun j hj=>⟨by simpa using hj,hr.rel.fresh _ (Nat.le_add_right _ _)⟩) (Nat.le_refl _) hn)
 rintro e a' w' ⟨rfl,s',G',b1,b2,b3⟩
 refine⟨s',G',⟨b1.w0,b1.imm,b1.pl,b1.nx,?_⟩,b2,b3⟩
 exact(Fr.less (σ:=s.st) (σ':={ s.st with next:=s.st.next+ops.size }) (fun _ _ h=>h)).trans b1.fr
def j4.ren(ι:Nat->Option (Option Nat))(G:j4):j4 :=
 { w0:=G.w0,imm:=G.imm,pl:=fun i=>match ι i with | some (some k)=>G.pl k | some none=>some ⟨0,0,0,true⟩ | none=>none }
def RV(ι:Nat->Option (Option Nat))(a b:AV):Prop:=∀ G u,Rep G b u->Rep (G.ren ι) a u
def fQ0(ι:Nat->Option (Option Nat)):l7->l7->Prop
 | .row e s es,.row e' s' es'=>e=e'/\s=s'/\es.length=es'.length/\∀ i (h:i<es.length) (h':i<es'.length),es[i].length=es'[i].length/\∀ j (g:j<es[i].length) (g':j<es'[i].length),RV ι es[i][j] es'[i][j]
 | .map agg es c,.map agg' es' c'=>agg=agg'/\c=c'/\es.length=es'.length/\∀ i (h:i<es.length) (h':i<es'.length),es[i].1=es'[i].1/\RV ι es[i].2.1 es'[i].2.1/\es[i].2.2=es'[i].2.2
 | .siter a b,.siter a' b'=>a=a'/\b=b'
 | .miter none a b c,.miter none a' b' c'=>a=a'/\b=b'/\c=c'
 | .miter (some i) a b c,.miter (some k) a' b' c'=>ι i=some (some k)/\a=a'/\b=b'/\c=c'
 | _,_=>False
structure Ren(ι:Nat->Option (Option Nat))(n:Nat)(s' s:AS):Prop where
 nn:s'.n=s.n
 low:∀ i,i<n->ι i=some (some i)
 dom:∀ i k,ι i=some k->i<s'.st.next
 nx:n<=s'.st.next
 inj:∀ i j k oi oj,ι i=some (some k)->ι j=some (some k)->s'.st.objs i=some oi->s'.st.objs j=some oj->i=j
 slots:∀ t,t<s.n->RV ι (s'.get t) (s.get t)
 beyond:∀ t,s.n<=t->s'.get t=.sc undef
 objs:∀ i o,s'.st.objs i=some o->(∃ k o',ι i=some (some k)/\s.st.objs k=some o'/\fQ0 ι o o')\/(ι i=some none/\∃ e z,o=.row e z [])
theorem fQ0.ok{ι:Nat->Option (Option Nat)}{G:j4}{p:Pl}{o o':l7}{ho:Option Obj}(h:fQ0 ι o o')(hk:N2 G p o' ho):N2 (G.ren ι) p o ho:=by
 cases o with
 | row e z es =>
  cases o' with
  | row e' z' es' =>
   obtain⟨rfl,rfl,hl,h1⟩:=h
   obtain⟨cs,k1,k2,k3,k4,k5⟩:=hk
   refine⟨cs,k1,k2,k3,by omega,fun i hi=>?_⟩
   obtain⟨m1,m2⟩:=h1 i hi (by omega)
   obtain⟨l1,l2⟩:=k5 i (by omega)
   exact⟨by omega,fun j hj hj'=>m2 j hj (by omega) G _ (l2 j (by omega) hj')⟩
  | _=>exact h.elim
 | map agg es c =>
  cases o' with
  | map agg' es' c' =>
   obtain⟨rfl,rfl,hl,h1⟩:=h
   obtain⟨ents,k1,k2,k3⟩:=hk
   refine⟨ents,k1,by omega,fun i hi hi'=>?_⟩
   obtain⟨m1,m2,m3⟩:=h1 i hi (by omega)
   obtain⟨l1,l2,l3⟩:=k3 i (by omega) hi'
   exact⟨by rw[m1];exact l1,m2 G _ l2,by rw[m3];exact l3⟩
  | _=>exact h.elim
 | siter a b =>
  cases o' with
  | siter a' b'=>obtain⟨rfl,rfl⟩:=h;exact hk
  | _=>exact h.elim
 | miter m a b c =>
  cases o' with
  | miter m' a' b' c' =>
   cases m with
   | none =>
    cases m' with
    | none=>obtain⟨rfl,rfl,rfl⟩:=h;exact hk
    | some k=>exact h.elim
   | some i =>
    cases m' with
    | none=>exact h.elim
    | some k =>
     obtain⟨hi,rfl,rfl,rfl⟩:=h
     obtain⟨m1,k1,p',k2,k3⟩:=hk
     exact⟨m1,k1,p',by simp only[j4.ren,hi];exact k2,k3⟩
  | _=>exact(by cases m<;>exact h.elim)
 | xrow e z i=>cases o'<;>exact h.elim
 | xmap c=>cases o'<;>exact h.elim
 | frow=>cases o'<;>exact h.elim
 | xiter s p=>cases o'<;>exact h.elim
theorem Ren.rel{ι:Nat->Option (Option Nat)}{n:Nat}{s' s:AS}(h:Ren ι n s' s){G:j4}{a:Act}{w:World}(hr:aG0 G s a w):aG0 (G.ren ι) s' a w/\S9 n G s.st w (G.ren ι) s'.st w:=by
 have hpl:∀ i k,ι i=some (some k)->(G.ren ι).pl i=G.pl k:=fun i k hi=>by simp only[j4.ren,hi]
 have hvirt:∀ i,ι i=some none->(G.ren ι).pl i=some ⟨0,0,0,true⟩:=fun i hi=>by simp only[j4.ren,hi]
 refine⟨⟨hr.defers,by rw[h.nn];exact hr.size,fun t=>?_,?_⟩,?_⟩
 ·rcases Nat.lt_or_ge t s.n with ht | ht
  ·exact h.slots t ht G _ (hr.tmps t)
  ·rw[h.beyond t ht]
   have:a.tmps.getD t undef=undef:=by simp[hr.size,Nat.not_lt.2 ht]
   rw[this];exact .sc _
 ·refine⟨hr.rel.os,hr.rel.tape,hr.rel.output,hr.rel.size,hr.rel.imm,fun i hi=>?_,fun i o ho=>?_,fun i j oi oj pi pj h1 h2 h3 h4 v1 v2 h5=>?_,hr.rel.glob⟩
  ·cases hii:ι i with
   | none=>simp only[j4.ren,hii]
   | some k=>have:=h.dom i k hii;omega
  ·rcases h.objs i o ho with ⟨k,o',hi,hk,hro⟩ | ⟨hi,e,z,rfl⟩
   ·obtain⟨p,hp,hl⟩:=hr.rel.objs k o' hk
    refine⟨p,by rw[hpl i k hi];exact hp,?_⟩
    rcases hl with ⟨hv,e,z,rfl⟩ | ⟨hv,l1,l2,l3⟩
    ·cases o with
     | row e' z' es =>
      obtain⟨rfl,rfl,hlen,_⟩:=hro
      have:es=[]:=List.eq_nil_of_length_eq_zero (by simpa using hlen)
      subst this
      exact .inl ⟨hv,_,_,rfl⟩
     | miter m a b c=>cases m<;>exact hro.elim
     | _=>exact hro.elim
    ·exact .inr ⟨hv,l1,l2,hro.ok l3⟩
   ·exact⟨_,hvirt i hi,.inl ⟨rfl,e,z,rfl⟩⟩
  ·rcases h.objs i oi h1 with ⟨ki,oi',hi,hki,_⟩ | ⟨hi,_⟩
   ·rcases h.objs j oj h2 with ⟨kj,oj',hj,hkj,_⟩ | ⟨hj,_⟩
    ·rw[hpl i ki hi]at h3
     rw[hpl j kj hj]at h4
     have:=hr.rel.sep ki kj oi' oj' pi pj hki hkj h3 h4 v1 v2 h5
     subst this
     exact h.inj i j ki oi oj hi hj h1 h2
    ·rw[hvirt j hj]at h4;cases h4;cases v2
   ·rw[hvirt i hi]at h3;cases h3;cases v1
 ·refine⟨rfl,fun _ _ hh=>hh,fun i hi=>hpl i i (h.low i hi),h.nx,⟨Nat.le_refl _,fun _ _ _=>rfl,fun i o p h1 h2 h3 _=>?_,fun _ _ hh=>.inl hh,Nat.le_refl _⟩⟩
  rcases h.objs i o h1 with ⟨k,o',hi,hk,_⟩ | ⟨hi,_⟩
  ·rw[hpl i k hi]at h2
   exact⟨k,o',p,hk,h2,h3,rfl⟩
  ·rw[hvirt i hi]at h2;cases h2;cases h3
theorem BWp.conv{P:Program}{ι:Nat->Option (Option Nat)}{n:Nat}{c:Code}{Q:Exit->AS->Prop}{s' s:AS}(h:Ren ι n s' s)(hb:BWp P n c Q s'):BWp P n c Q s:=by
 intro hn G a w hr
 obtain⟨h1,h2⟩:=h.rel hr
 refine wp_mono (hb h.nx _ a w h1) ?_
 rintro e a' w' ⟨s2,G2,b1,b2,b3⟩
 exact⟨s2,G2,h2.trans b1 (Nat.le_refl _),b2,b3⟩
theorem BWp.convEnd{P:Program}{n:Nat}{c:Code}{Q:Exit->AS->Prop}{s:AS}(h:BWp P n c (fun e s1=>∃ ι s2,Ren ι n s2 s1/\Q e s2) s):BWp P n c Q s:=by
 intro hn G a w hr
 refine wp_mono (h hn G a w hr) ?_
 rintro e a' w' ⟨s1,G1,b1,b2,ι,s2,b3,b4⟩
 obtain⟨h1,h2⟩:=b3.rel b2
 exact⟨s2,_,b1.trans h2 (Nat.le_refl _),h1,b4⟩
theorem F3.of_body {P:Program} {T:Tab} (hT:C2 P T) {f:FuncId} {fn:Func} {c:Code} {args:List AV} {r:AV} (hfn:P.funcs[f]?=some fn) (hname:(fn.name== "runtime.NumGoroutine")=false) (hb:fn.body=some c) (hn:args.length<=fn.ntmps)
  (hp:args.all AV.pur=true) (h:BWp P 0 c (fun e s'=>(e=.normal\/e=.ret)/\∃ v,D0 T fn s'=some v/\∀ G w u pl,Rel G s'.st w->Rep G v u->Rep (G.frozen s'.st w pl) r u) (AS.enter fn.ntmps args c9.none)):F3 P ⟨f,args,r⟩:=by
 intro σ G vs w hargs hrel o a Kc Q hK
 have hrun:(callFunc f vs.toArray).run P w=.ok (.enter f vs.toArray) w:=by
  simp only[callFunc,Sem.run_bind,run_program,Result.andThen_ok,hfn,hname,hb,Option.isNone_some,Bool.false_eq_true,if_false,Sem.run_pure]
 show o.upon P a Kc Q ((callFunc f vs.toArray).run P w)
 rw[hrun]
 simp only[Oper.upon]
 let G0:j4:={ G with pl:=fun _=>Option.none }
 have hargs0:B7 G0 args vs:=⟨hargs.1,fun i h1 h2=>O5 (G:=G) (G':=G0) (fun _ _ h=>h) (hargs.2 i h1 h2) (List.all_eq_true.1 hp _ (List.getElem_mem h1))⟩
 have hrel0:Rel G0 c9.none w:=⟨hrel.os,hrel.tape,hrel.output,hrel.size,hrel.imm,fun _ _=>rfl,(fun id o h=>by rw[c9.none_objs]at h;cases h),(fun i j oi oj pi pj h=>by rw[c9.none_objs]at h;cases h),hrel.glob⟩
 refine calls_of_wp hfn hb (wp_mono (h (Nat.zero_le _) G0 _ w (aG0.enter hargs0 hrel0 fn.ntmps hn)) ?_)
 rintro e a' w1 ⟨s1,G1,ht,b3,hex,v,hv,hd⟩
 obtain⟨y,hy,hr1⟩:=dw0 (P:=P) hT b3 hv
 have hrel1:=b3.rel
 have hnolive:∀ b,¬ ∃ id0 o0 p0,c9.none.objs id0=some o0/\G0.pl id0=some p0/\p0.virt=false/\p0.block=b:=fun b ⟨id,o0,p0,h,_⟩=>by rw[c9.none_objs]at h;cases h
 have hsame:∀ b,b<w.heap.size->w1.heap[b]?=w.heap[b]?:=fun b hb=>ht.fr.same b hb (fun id o p h=>by rw[show (AS.enter fn.ntmps args c9.none).st=c9.none from rfl,c9.none_objs]at h;cases h)
 let G':j4:=G1.frozen s1.st w1 G.pl
 have himm:∀ b x,G'.imm b=some x->G.imm b=some x\/w.heap.size<=b:=fun b x hx=>by
  simp only[G',j4.frozen]at hx
  split at hx
  ·rename_i hl
   obtain⟨id,o1,p,h1,h2,h3,rfl⟩:=hl
   right
   rcases Nat.lt_or_ge p.block w.heap.size with h4 | h4
   ·exact absurd (ht.fr.live id o1 p h1 h2 h3 h4) (hnolive _)
   ·exact h4
  ·rcases ht.fr.imm b x hx with h1 | h1 | h1
   ·exact .inl h1
   ·exact .inr h1
   ·exact absurd h1 (hnolive _)
 have hle:G.le G':=⟨ht.w0,fun b x hb=>F7 hrel1 (ht.imm b x hb),fun _ _ h=>h⟩
 have hw0:G1.w0=G.w0:=ht.w0
 have fin:Kc (a.put o.dst y) w1:=by
  refine hK y r σ G' w1 ⟨hle,fun _ _ h=>h,Nat.le_refl _,⟨ht.fr.size,fun b hb _=>hsame b hb,fun id x p h1 h2 h3 _=>⟨id,x,p,h1,h2,h3,rfl⟩,fun b x hb=>?_,ht.fr.drawn⟩⟩ (hd G1 w1 y G.pl hrel1 hr1) ?_ ⟨rfl,rfl⟩
  ·rcases himm b x hb with h1 | h1
   ·exact .inl h1
   ·exact .inr (.inl h1)
  ·refine⟨hrel1.os,hrel1.tape,hrel1.output,hrel1.size,fun b x hb=>?_,hrel.fresh,fun id x hx=>?_,hrel.sep,fun b o v hv=>hle.cell (hrel.glob b o v hv)⟩
   ·simp only[G',j4.frozen]at hb
    split at hb
    ·exact hb
    ·exact hrel1.imm b x hb
   ·obtain⟨p,hp1,hl⟩:=hrel.objs id x hx
    refine⟨p,hp1,?_⟩
    rcases hl with ⟨h1,h2⟩ | ⟨h1,h2,h3,h4⟩
    ·exact .inl ⟨h1,h2⟩
    ·have hlt:=hrel.obj_lt hx hp1 h1
     refine .inr ⟨h1,?_,by show G1.w0.heap.size<=_;rw[hw0];exact h3,by rw[hsame _ hlt];exact h4.mono hle⟩
     cases hi:G'.imm p.block with
     | none=>rfl
     | some y =>
      rcases himm _ _ hi with h5 | h5
      ·rw[h2]at h5;cases h5
      ·omega
 rcases hex with rfl | rfl
 ·exact⟨b3.defers,y,hy,fin⟩
 ·exact⟨b3.defers,y,hy,fin⟩
def pr0:AV->Bool
 | .sc _=>true
 | .agg cs=>cs.all fun c=>match c with | .sc _=>true | _=>false
 | .tup cs=>cs.all fun c=>match c with | .sc _=>true | .agg ds=>ds.all (fun d=>match d with | .sc _=>true | _=>false) | _=>false
 | _=>false
theorem Rep.flatAll{G G':j4}{cs:List AV}{vs:List Value}(h1:vs.length=cs.length)(h:∀ i (h:i<cs.length) (h':i<vs.length),Rep G cs[i] vs[i])(hf:cs.all (fun c=>match c with | .sc _=>true | _=>false)=true) :
  ∀ i (h:i<cs.length) (h':i<vs.length),Rep G' cs[i] vs[i]:=fun i hi hi'=>by
 have h2:=List.all_eq_true.1 hf cs[i] (List.getElem_mem hi)
 have h3:=h i hi hi'
 generalize cs[i]=c at *
 split at h2
 ·cases h3;exact .sc _
 ·cases h2
theorem Rep.flat{G G':j4}{c:AV}{v:Value}(h:Rep G c v)(hf:pr0 c=true):Rep G' c v:=by
 unfold pr0 at hf
 split at hf
 ·cases h;exact .sc _
 ·rename_i cs
  cases h with
  | agg _ vs h1 h2=>exact .agg cs vs h1 (Rep.flatAll h1 h2 hf)
 ·rename_i cs
  cases h with
  | tup _ vs h1 h2 =>
   refine .tup cs vs h1 fun i hi hi'=>?_
   have h3:=List.all_eq_true.1 hf cs[i] (List.getElem_mem hi)
   have h4:=h2 i hi hi'
   generalize cs[i]=c at *
   generalize vs[i]=v at *
   split at h3
   ·cases h4;exact .sc _
   ·cases h4 with
    | agg _ us g1 g2=>exact .agg _ us g1 (Rep.flatAll g1 g2 h3)
   ·cases h3
 ·cases hf
theorem kv0{P:Program}{f:FuncId}{args cargs:List AV}{c:AV}{σ:c9}(hm:F3 P ⟨f,cargs,c⟩)(hf:pr0 c=true)
  (hr:∀ G vs w,B7 G args vs->Rel G σ w->B7 (G.frozen σ w (fun _=>none)) cargs vs):Told P f args σ c:=by
 intro G vs w hargs hrel o a Kc Q hK
 let G1:=G.frozen σ w (fun _=>none)
 have hrel1:Rel G1 c9.none w:=⟨hrel.os,hrel.tape,hrel.output,hrel.size,fun b x hb=>by
   simp only[G1,j4.frozen]at hb
   split at hb
   ·exact hb
   ·exact hrel.imm b x hb,fun _ _=>rfl,(fun id o h=>by rw[c9.none_objs]at h;cases h),(fun i j oi oj pi pj h=>by rw[c9.none_objs]at h;cases h),fun b o v hv=>bY0 hrel (hrel.glob b o v hv)⟩
 refine hm c9.none G1 vs w (hr G vs w hargs hrel) hrel1 o a Kc Q ?_
 rintro u av σ' G' w' ht hru hrel' ⟨rfl,rfl⟩
 have hsame:∀ b,b<w.heap.size->w'.heap[b]?=w.heap[b]?:=fun b hb=>ht.fr.same b hb (fun id o p h=>by rw[c9.none_objs]at h;cases h)
 have hw0:G'.w0=G.w0:=ht.le.w0
 refine hK u av σ G w' ⟨.refl G,.refl _ G,Nat.le_refl _,⟨ht.fr.size,fun b hb _=>hsame b hb,fun id x p h1 h2 h3 _=>⟨id,x,p,h1,h2,h3,rfl⟩,fun b x hb=>.inl hb,ht.fr.drawn⟩⟩ (hru.flat hf) ?_ ⟨rfl,rfl⟩
 refine⟨hrel'.os.trans (by rw[hw0]),hrel'.tape.trans (by rw[hw0]),hrel'.output.trans (by rw[hw0]),Nat.le_trans hrel.size ht.fr.size,fun b x hb=>by rw[hsame b (hrel.lt hb)];exact hrel.imm b x hb,hrel.fresh,fun id x hx=>?_,hrel.sep,hrel.glob⟩
 obtain⟨p,hp1,hl⟩:=hrel.objs id x hx
 refine⟨p,hp1,?_⟩
 rcases hl with ⟨h1,h2⟩ | ⟨h1,h2,h3,h4⟩
 ·exact .inl ⟨h1,h2⟩
 ·exact .inr ⟨h1,h2,h3,by rw[hsame _ (hrel.obj_lt hx hp1 h1)];exact h4⟩
end Go.Ab
namespace Go.Ab
open Go
variable [B0]
mutual
def AV.bnd(k:Nat):AV->Bool
 | .sy i=>Nat.blt i k
 | .ss _ _ i=>Nat.blt i k
 | .xp _ i _=>Nat.blt i k
 | .rm c=>c.bnd k
 | .rs es=>bndR k es
 | .rp cs=>iA0 k cs
 | .fn _ a c=>iA0 k a&&iA0 k c
 | .agg cs=>iA0 k cs
 | .tup cs=>iA0 k cs
 | _=>true
def iA0(k:Nat):List AV->Bool
 | []=>true
 | c::cs=>c.bnd k&&iA0 k cs
def bndR(k:Nat):List (List AV)->Bool
 | []=>true
 | c::cs=>iA0 k c&&bndR k cs
end
mutual
theorem sub_agree{θ θ':Nat->AV}{k:Nat}(h:∀ i,i<k->θ' i=θ i):∀ v:AV,v.bnd k=true->v.sub θ'=v.sub θ
 | .any,_=>by simp
 | .sc v,_=>by simp
 | .rs es,hb=>by simp only[AV.sub];rw[eN0 h es (by simpa[AV.bnd]using hb)]
 | .rp cs,hb=>by simp only[AV.sub];rw[K7 h cs (by simpa[AV.bnd]using hb)]
 | .ms ..,_=>by simp
 | .mp ..,_=>by simp
 | .mm _,_=>by simp
 | .it _,_=>by simp
 | .fn f a c,hb=>by
  simp only[AV.bnd,Bool.and_eq_true]at hb
  simp only[AV.sub];rw[K7 h a hb.1,K7 h c hb.2]
 | .agg cs,hb=>by simp only[AV.sub];rw[K7 h cs (by simpa[AV.bnd]using hb)]
 | .tup cs,hb=>by simp only[AV.sub];rw[K7 h cs (by simpa[AV.bnd]using hb)]
 | .sy i,hb=>by simp only[AV.bnd,Nat.blt_eq]at hb;simp[h i hb]
 | .ss id sz i,hb=>by simp only[AV.bnd,Nat.blt_eq]at hb;simp[h i hb]
 | .xp id i off,hb=>by simp only[AV.bnd,Nat.blt_eq]at hb;simp only[AV.sub,h i hb]
 | .rm c,hb=>by simp only[AV.sub];rw[sub_agree h c (by simpa[AV.bnd]using hb)]
theorem K7{θ θ':Nat->AV}{k:Nat}(h:∀ i,i<k->θ' i=θ i):∀ l:List AV,iA0 k l=true->Y8 θ' l=Y8 θ l
 | [],_=>by simp[Y8]
 | c::cs,hb=>by
  simp only[iA0,Bool.and_eq_true]at hb
  simp only[Y8];rw[sub_agree h c hb.1,K7 h cs hb.2]
theorem eN0{θ θ':Nat->AV}{k:Nat}(h:∀ i,i<k->θ' i=θ i):∀ l:List (List AV),bndR k l=true->dp0 θ' l=dp0 θ l
 | [],_=>by simp[dp0]
 | c::cs,hb=>by
  simp only[bndR,Bool.and_eq_true]at hb
  simp only[dp0];rw[K7 h c hb.1,eN0 h cs hb.2]
end
def l7.bnd(k:Nat):l7->Bool
 | .row _ _ es=>bndR k es
 | .map _ es _=>es.all fun e=>e.2.1.bnd k
 | .xrow _ _ i=>Nat.blt i k
 | .xmap c=>c.bnd k
 | .xiter s p=>s.bnd k&&p.bnd k
 | .frow _ _ c _ i _ v=>c.bnd k&&(i.bnd k&&(match v with | some x=>x.bnd k | none=>true))
 | _=>true
theorem l7.sub_agree{θ θ':Nat->AV}{k:Nat}(h:∀ i,i<k->θ' i=θ i)(o:l7)(hb:o.bnd k=true):o.sub θ'=o.sub θ:=by
 cases o with
 | row e z es=>simp only[l7.sub];rw[<- bc0,<-bc0,eN0 h es hb]
 | map agg es c =>
  simp only[l7.sub]
  congr 1
  apply List.map_congr_left
  intro e he
  rw[Go.Ab.sub_agree h _ (List.all_eq_true.1 hb e he)]
 | xrow e z i=>simp only[l7.bnd,Nat.blt_eq]at hb;simp only[l7.sub];rw[h i hb]
 | xmap c=>simp only[l7.bnd]at hb;simp only[l7.sub];rw[Go.Ab.sub_agree h c hb]
 | xiter s p=>simp only[l7.bnd,Bool.and_eq_true]at hb;simp only[l7.sub];rw[Go.Ab.sub_agree h s hb.1,Go.Ab.sub_agree h p hb.2]
 | frow e z c cols i off v =>
  simp only[l7.bnd,Bool.and_eq_true]at hb
  simp only[l7.sub];rw[Go.Ab.sub_agree h c hb.1,Go.Ab.sub_agree h i hb.2.1]
  cases v with
  | none=>rfl
  | some x=>simp only[Option.map_some];rw[Go.Ab.sub_agree h x hb.2.2]
 | _=>rfl
def Tr.all{α:Type}(p:α->Bool):Tr α->Bool
 | .leaf=>true
 | .node v l r=>(match v with | some x=>p x | none=>true)&&l.all p&&r.all p
theorem Tr.map_congr{α β:Type}{f g:α->β}{p:α->Bool}(h:∀ x,p x=true->f x=g x):∀ t:Tr α,t.all p=true->t.map f=t.map g
 | .leaf,_=>rfl
 | .node v l r,hb=>by
  simp only[Tr.all,Bool.and_eq_true]at hb
  simp only[Tr.map]
  rw[Tr.map_congr h l hb.1.2,Tr.map_congr h r hb.2]
  cases v with
  | none=>rfl
  | some x=>simp[h x hb.1.1]
def AS.bnd(k:Nat)(s:AS):Bool:=s.tr.all (AV.bnd k)&&s.st.tr.all (l7.bnd k)
theorem AS.sub_agree{θ θ':Nat->AV}{k:Nat}(h:∀ i,i<k->θ' i=θ i){s:AS}(hb:s.bnd k=true):s.sub θ'=s.sub θ:=by
 simp only[AS.bnd,Bool.and_eq_true]at hb
 simp only[AS.sub,c9.sub]
 rw[Tr.map_congr (Go.Ab.sub_agree h) _ hb.1,Tr.map_congr (l7.sub_agree h) _ hb.2]
theorem c9.sub_agree{θ θ':Nat->AV}{k:Nat}(h:∀ i,i<k->θ' i=θ i){s:AS}(hb:s.bnd k=true):s.st.sub θ'=s.st.sub θ:=by
 have:=AS.sub_agree h hb
 have h2:=congrArg AS.st this
 simpa using h2
mutual
def AV.ssub(η:Nat->AV):AV->AV
 | .rs es=>.rs (pl0 η es)
 | .rp cs=>.rp (is0 η cs)
 | .fn f a c=>.fn f (is0 η a) (is0 η c)
 | .agg cs=>.agg (is0 η cs)
 | .tup vs=>.tup (is0 η vs)
 | .sy i=>η i
 | .ss id sz i=>match η i with
  | .sy j=>.ss id sz j
  | .rs es=>.ms id sz 0 es.length
  | _=>.ms id sz 0 0
 | .xp id k off=>match η k with
  | .sy j=>.xp id j off
  | v=>.mp id (Y9 v) off
 | .rm c=>.rm (c.ssub η)
 | v=>v
def is0(η:Nat->AV):List AV->List AV
 | []=>[]
 | c::cs=>c.ssub η::is0 η cs
def pl0(η:Nat->AV):List (List AV)->List (List AV)
 | []=>[]
 | c::cs=>is0 η c::pl0 η cs
end
mutual
theorem ssub_sub(η θ:Nat->AV):∀ v:AV,(v.ssub η).sub θ=v.sub (fun i=>(η i).sub θ)
 | .any=>by simp[AV.ssub]
 | .sc v=>by simp[AV.ssub]
 | .rs es=>by simp only[AV.ssub,AV.sub];rw[hy0 η θ es]
 | .rp cs=>by simp only[AV.ssub,AV.sub];rw[ay0 η θ cs]
 | .ms ..=>by simp[AV.ssub]
 | .mp ..=>by simp[AV.ssub]
 | .mm _=>by simp[AV.ssub]
 | .it _=>by simp[AV.ssub]
 | .fn f a c=>by simp only[AV.ssub,AV.sub];rw[ay0 η θ a,ay0 η θ c]
 | .agg cs=>by simp only[AV.ssub,AV.sub];rw[ay0 η θ cs]
 | .tup cs=>by simp only[AV.ssub,AV.sub];rw[ay0 η θ cs]
 | .sy i=>by simp[AV.ssub]
 | .ss id sz i=>by
  simp only[AV.ssub,R8]
  cases η i<;>simp[rowsOf]
 | .xp id k off=>by
  simp only[AV.ssub,AV.sub]
  cases η k<;>simp[AV.sub,Y9]
 | .rm c=>by simp only[AV.ssub,AV.sub];rw[ssub_sub η θ c]
theorem ay0(η θ:Nat->AV):∀ l:List AV,Y8 θ (is0 η l)=Y8 (fun i=>(η i).sub θ) l
 | []=>by simp[Y8,is0]
 | c::cs=>by simp only[Y8,is0];rw[ssub_sub η θ c,ay0 η θ cs]
theorem hy0(η θ:Nat->AV):∀ l:List (List AV),dp0 θ (pl0 η l)=dp0 (fun i=>(η i).sub θ) l
 | []=>by simp[dp0,pl0]
 | c::cs=>by simp only[dp0,pl0];rw[ay0 η θ c,hy0 η θ cs]
end
def l7.ssub(η:Nat->AV):l7->l7
 | .row e s es=>.row e s (pl0 η es)
 | .map agg es c=>.map agg (es.map fun e=>(e.1,e.2.1.ssub η,e.2.2)) c
 | .xrow e s i=>match η i with
  | .sy j=>.xrow e s j
  | .rs es=>.row e s es
  | _=>.row e s []
 | .xmap c=>.xmap (c.ssub η)
 | .xiter s p=>.xiter (s.ssub η) (p.ssub η)
 | .frow e z c cols k off v=>.frow e z (c.ssub η) cols (k.ssub η) off (v.map (AV.ssub η))
 | o=>o
theorem l7.ssub_sub(η θ:Nat->AV)(o:l7):(o.ssub η).sub θ=o.sub (fun i=>(η i).sub θ):=by
 cases o with
 | row e z es=>simp only[l7.ssub,l7.sub,<-bc0];rw[hy0]
 | map agg es c =>
  simp only[l7.ssub,l7.sub,List.map_map]
  congr 1
  apply List.map_congr_left
  intro e _
  simp[Go.Ab.ssub_sub]
 | xrow e z i=>simp only[l7.ssub,l7.sub];cases η i<;>simp[l7.sub,rowsOf]
 | xmap c=>simp only[l7.ssub,l7.sub];rw[Go.Ab.ssub_sub]
 | xiter s p=>simp only[l7.ssub,l7.sub];rw[Go.Ab.ssub_sub,Go.Ab.ssub_sub]
 | frow e z c cols k off v =>
  simp only[l7.ssub,l7.sub];rw[Go.Ab.ssub_sub,Go.Ab.ssub_sub]
  cases v with
  | none=>rfl
  | some x=>simp only[Option.map_some];rw[Go.Ab.ssub_sub]
 | _=>rfl
def AS.ssub(η:Nat->AV)(s:AS):AS:={ n:=s.n,tr:=s.tr.map (AV.ssub η),st:={ next:=s.st.next,tr:=s.st.tr.map (l7.ssub η),low:=s.st.low } }
theorem Tr.map_map{α β γ:Type}(f:α->β)(g:β->γ):∀ t:Tr α,(t.map f).map g=t.map (fun x=>g (f x))
 | .leaf=>rfl
 | .node v l r=>by simp only[Tr.map];rw[Tr.map_map f g l,Tr.map_map f g r];cases v<;>rfl
theorem AS.ssub_sub(η θ:Nat->AV)(s:AS):(s.ssub η).sub θ=s.sub (fun i=>(η i).sub θ):=by
 simp only[AS.ssub,AS.sub,c9.sub,Tr.map_map]
 have h1:(fun x=>AV.sub θ (AV.ssub η x))=AV.sub (fun i=>(η i).sub θ):=funext fun x=>Go.Ab.ssub_sub η θ x
 have h2:(fun x=>l7.sub θ (l7.ssub η x))=l7.sub (fun i=>(η i).sub θ):=funext fun x=>l7.ssub_sub η θ x
 rw[h1,h2]
def ap0(j:Nat)(b:Bool)(i:Nat):AV:=bif Nat.beq i j then .sc (.bool b)else .sy i
theorem ez0{θ:Nat->AV}{j:Nat}{b:Bool}(h:θ j=.sc (.bool b))(s:AS):(s.ssub (ap0 j b)).sub θ=s.sub θ:=by
 rw[AS.ssub_sub]
 congr 1
 funext i
 unfold ap0
 cases hij:Nat.beq i j with
 | true=>have:=Nat.eq_of_beq_eq_true hij;subst this;simp[h]
 | false=>simp
abbrev fM0:=Nat->Option (Option Nat)
def X2(ι:fM0)(i k:Nat):Bool:=match ι i with | some (some j)=>Nat.beq j k | _=>false
def fV0(ι:fM0)(i:Nat):Bool:=match ι i with | some none=>true | _=>false
theorem W7{ι:fM0}{i k:Nat}(h:X2 ι i k=true):ι i=some (some k):=by
 unfold X2 at h
 split at h
 ·rename_i j hj;rw[hj,Nat.eq_of_beq_eq_true h]
 ·cases h
theorem mP0{ι:fM0}{i:Nat}(h:fV0 ι i=true):ι i=some none:=by
 unfold fV0 at h
 split at h
 ·rename_i hj;exact hj
 ·cases h
def fnB:Fn->Fn->Bool
 | .func a,.func b=>Nat.beq a b
 | _,_=>false
theorem fnB_eq{a b:Fn}(h:fnB a b=true):a=b:=by
 unfold fnB at h
 split at h
 ·rw[Nat.eq_of_beq_eq_true h]
 ·cases h
def undB:Value->Value->Bool
 | .tuple a,.tuple b=>Nat.beq a.size 0&&Nat.beq b.size 0
 | .pointer none,.pointer none=>true
 | a,b=>vbeq a b
theorem vL0{a b:Value}(h:undB a b=true):a=b:=by
 unfold undB at h
 split at h
 ·rename_i a b
  simp only[Bool.and_eq_true]at h
  have h1:a=#[]:=Array.eq_empty_of_size_eq_zero (Nat.eq_of_beq_eq_true h.1)
  have h2:b=#[]:=Array.eq_empty_of_size_eq_zero (Nat.eq_of_beq_eq_true h.2)
  rw[h1,h2]
 ·rfl
 ·exact wk0 h
def rmB:AV->AV->Bool
 | .sy i,.sy j=>Nat.beq i j
 | _,_=>false
theorem nY0{a b:AV}(h:rmB a b=true):∃ i,a=.sy i/\b=.sy i:=by
 unfold rmB at h
 split at h
 ·exact⟨_,rfl,by rw[Nat.eq_of_beq_eq_true h]⟩
 ·cases h
mutual
def cc0(ι:fM0):AV->AV->Bool
 | .any,_=>true
 | .sc v,.sc v'=>undB v v'
 | .rs es,.rs es'=>vM0 ι es es'
 | .rp cs,.rp cs'=>rX0 ι cs cs'
 | .ms id z o l,.ms id' z' o' l'=>X2 ι id id'&&Nat.beq z z'&&Nat.beq o o'&&Nat.beq l l'
 | .ms id _ o l,.sc (.slice none 0 0)=>fV0 ι id&&Nat.beq o 0&&Nat.beq l 0
 | .mp id i j,.mp id' i' j'=>X2 ι id id'&&Nat.beq i i'&&Nat.beq j j'
 | .mm id,.mm id'=>X2 ι id id'
 | .it id,.it id'=>X2 ι id id'
 | .fn f a c,.fn f' a' c'=>fnB f f'&&rX0 ι a a'&&rX0 ι c c'
 | .agg cs,.agg cs'=>rX0 ι cs cs'
 | .tup cs,.tup cs'=>rX0 ι cs cs'
 | .sy i,.sy i'=>Nat.beq i i'
 | .ss id z i,.ss id' z' i'=>X2 ι id id'&&Nat.beq z z'&&Nat.beq i i'
 | .xp id k o,.xp id' k' o'=>X2 ι id id'&&Nat.beq k k'&&Nat.beq o o'
 | .rm c,.rm c'=>rmB c c'
 | _,_=>false
def rX0(ι:fM0):List AV->List AV->Bool
 | [],[]=>true
 | a::as,b::bs=>cc0 ι a b&&rX0 ι as bs
 | _,_=>false
def vM0(ι:fM0):List (List AV)->List (List AV)->Bool
 | [],[]=>true
 | a::as,b::bs=>rX0 ι a b&&vM0 ι as bs
 | _,_=>false
end
def RVs(ι:fM0)(as bs:List AV):Prop:=as.length=bs.length/\∀ i (h:i<as.length) (h':i<bs.length),RV ι as[i] bs[i]
theorem RVs.cons{ι:fM0}{a b:AV}{as bs:List AV}(h:RV ι a b)(hs:RVs ι as bs):RVs ι (a::as) (b::bs):=by
 refine⟨by simp[hs.1],fun i h1 h2=>?_⟩
 cases i with
 | zero=>exact h
 | succ i=>exact hs.2 i (by simpa using h1) (by simpa using h2)
def RVr(ι:fM0)(as bs:List (List AV)):Prop:=as.length=bs.length/\∀ i (h:i<as.length) (h':i<bs.length),RVs ι as[i] bs[i]
theorem RV.fit{ι:fM0}{v:AV}(h:aH0 v):RV ι v v:=fun G _ hr=>O5 (G:=G) (G':=G.ren ι) (fun _ _ hh=>hh) hr h.pur
theorem RV.rs{ι:fM0}{es es':List (List AV)}(h:RVr ι es es'):RV ι (.rs es) (.rs es'):=by
 intro G u hr
 cases hr with
 | rsNil=>have:es=[]:=List.eq_nil_of_length_eq_zero (by simpa using h.1);subst this;exact .rsNil
 | rs _ a cap size val hs hc hlen himm hrep =>
  rw[<- h.1]
  have hl:=h.1
  refine .rs es a cap size val hs (by omega) (fun i hi=>?_) (fun i j hi hj=>himm i j (by omega) hj) (fun i j hi hj=>?_)
  ·rw[(h.2 i hi (by omega)).1];exact hlen i (by omega)
  ·have h2:=h.2 i hi (by omega)
   exact h2.2 j hj (by rw[<- h2.1];exact hj) G _ (hrep i j (by omega) (by rw[<- h2.1];exact hj))
mutual
theorem me0{θ:Nat->AV}(hθ:Fit θ){ι:fM0}:∀ (a b:AV),cc0 ι a b=true->RV ι (a.sub θ) (b.sub θ)
 | .any,b,_=>fun G u _=>by rw[wh0];exact .any u
 | .sc v,b,h=>by
  cases b with
  | sc v'=>simp only[cc0]at h;rw[vL0 h];intro G u hr;simp only[J0]at *;cases hr;exact .sc _
  | _=>simp[cc0]at h
 | .rs es,b,h=>by
  cases b with
  | rs es'=>simp only[cc0]at h;simp only[AV.sub];exact RV.rs (lR0 hθ es es' h)
  | _=>simp[cc0]at h
 | .rp cs,b,h=>by
  cases b with
  | rp cs' =>
   simp only[cc0]at h
   have hl:=dx0 hθ cs cs' h
   simp only[AV.sub]
   intro G u hr
   cases hr with
   | rp _ a val hs himm hrep=>exact .rp _ a val hs (fun j hj=>himm j (by rw[<- hl.1];exact hj)) (fun j hj=>hl.2 j hj (by rw[<- hl.1];exact hj) G _ (hrep j (by rw[<- hl.1];exact hj)))
  | _=>simp[cc0]at h
 | .ms id z o l,b,h=>by
  cases b with
  | ms id' z' o' l' =>
   simp only[cc0,Bool.and_eq_true]at h
   have h1:=W7 h.1.1.1
   have h2:=Nat.eq_of_beq_eq_true h.1.1.2
   have h3:=Nat.eq_of_beq_eq_true h.1.2
   have h4:=Nat.eq_of_beq_eq_true h.2
   subst h2;subst h3;subst h4
   intro G u hr
   simp only[cC0]at *
   cases hr with
   | ms _ _ _ _ p hp hv hz a c ha ho hl hsp=>exact .ms id z o l p (by simp only[j4.ren,h1];exact hp) hv hz a c ha ho hl hsp
   | msNil _ _ p hp hv=>exact .msNil id z p (by simp only[j4.ren,h1];exact hp) hv
  | sc v =>
   have hv:v=.slice none 0 0/\(fV0 ι id&&Nat.beq o 0&&Nat.beq l 0)=true:=by
    cases v with
    | slice a b c =>
     cases a with
     | none =>
      cases b with
      | zero=>cases c with
       | zero=>exact⟨rfl,by simpa only[cc0]using h⟩
       | succ c=>simp[cc0]at h
      | succ b=>simp[cc0]at h
     | some a=>simp[cc0]at h
    | _=>simp[cc0]at h
   obtain⟨rfl,hh⟩:=hv
   rw[Bool.and_eq_true,Bool.and_eq_true]at hh
   have h1:=mP0 hh.1.1
   have h3:=Nat.eq_of_beq_eq_true hh.1.2
   have h4:=Nat.eq_of_beq_eq_true hh.2
   subst h3;subst h4
   rw[cC0,J0]
   intro G u hr
   cases hr
   exact .msNil id z ⟨0,0,0,true⟩ (by simp only[j4.ren,h1]) rfl
  | _=>simp[cc0]at h
 | .mp id i j,b,h=>by
  cases b with
  | mp id' i' j' =>
   simp only[cc0,Bool.and_eq_true]at h
   have h1:=W7 h.1.1
   have h2:=Nat.eq_of_beq_eq_true h.1.2
   have h3:=Nat.eq_of_beq_eq_true h.2
   subst h2;subst h3
   intro G u hr
   simp only[kr0]at *
   cases hr with
   | mp _ _ _ p hp=>exact .mp id i j p (by simp only[j4.ren,h1];exact hp)
  | _=>simp[cc0]at h
 | .mm id,b,h=>by
  cases b with
  | mm id' =>
   simp only[cc0]at h
   have h1:=W7 h
   intro G u hr
   simp only[dn0]at *
   cases hr with
   | mm _ p hp=>exact .mm id p (by simp only[j4.ren,h1];exact hp)
  | _=>simp[cc0]at h
 | .it id,b,h=>by
  cases b with
  | it id' =>
   simp only[cc0]at h
   have h1:=W7 h
   intro G u hr
   simp only[pU0]at *
   cases hr with
   | it _ p hp=>exact .it id p (by simp only[j4.ren,h1];exact hp)
  | _=>simp[cc0]at h
 | .fn f a c,b,h=>by
  cases b with
  | fn f' a' c' =>
   simp only[cc0,Bool.and_eq_true]at h
   have h1:=fnB_eq h.1.1
   subst h1
   have ha:=dx0 hθ a a' h.1.2
   have hc:=dx0 hθ c c' h.2
   simp only[AV.sub]
   intro G u hr
   cases hr with
   | fn _ _ _ fv cv l1 l2 r1 r2 =>
    exact .fn f _ _ fv cv (by rw[l1,ha.1]) (by rw[l2,hc.1]) (fun i hi hi'=>ha.2 i hi (by rw[<- ha.1];exact hi) G _ (r1 i (by rw[<- ha.1];exact hi) hi')) (fun i hi hi'=>hc.2 i hi (by rw[<- hc.1];exact hi) G _ (r2 i (by rw[<- hc.1];exact hi) hi'))
  | _=>simp[cc0]at h
 | .agg cs,b,h=>by
  cases b with
  | agg cs' =>
   simp only[cc0]at h
   have hl:=dx0 hθ cs cs' h
   simp only[AV.sub]
   intro G u hr
   cases hr with
   | agg _ vs l1 r1=>exact .agg _ vs (by rw[l1,hl.1]) (fun i hi hi'=>hl.2 i hi (by rw[<- hl.1];exact hi) G _ (r1 i (by rw[<- hl.1];exact hi) hi'))
  | _=>simp[cc0]at h
 | .tup cs,b,h=>by
  cases b with
  | tup cs' =>
   simp only[cc0]at h
   have hl:=dx0 hθ cs cs' h
   simp only[AV.sub]
   intro G u hr
   cases hr with
   | tup _ vs l1 r1=>exact .tup _ vs (by rw[l1,hl.1]) (fun i hi hi'=>hl.2 i hi (by rw[<- hl.1];exact hi) G _ (r1 i (by rw[<- hl.1];exact hi) hi'))
  | _=>simp[cc0]at h
 | .sy i,b,h=>by
  cases b with
  | sy i'=>simp only[cc0]at h;rw[<- Nat.eq_of_beq_eq_true h,u5];exact RV.fit (hθ i)
  | _=>simp[cc0]at h
 | .ss id z i,b,h=>by
  cases b with
  | ss id' z' i' =>
   simp only[cc0,Bool.and_eq_true]at h
   have h1:=W7 h.1.1
   have h2:=Nat.eq_of_beq_eq_true h.1.2
   have h3:=Nat.eq_of_beq_eq_true h.2
   subst h2;subst h3
   intro G u hr
   simp only[R8]at *
   generalize (rowsOf (θ i)).length=l at *
   cases hr with
   | ms _ _ _ _ p hp hv hz a c ha ho hl hsp=>exact .ms id z 0 l p (by simp only[j4.ren,h1];exact hp) hv hz a c ha ho hl hsp
   | msNil _ _ p hp hv=>exact .msNil id z p (by simp only[j4.ren,h1];exact hp) hv
  | _=>simp[cc0]at h
 | .xp id k o,b,h=>by
  cases b with
  | xp id' k' o' =>
   simp only[cc0,Bool.and_eq_true]at h
   have h1:=W7 h.1.1
   have h2:=Nat.eq_of_beq_eq_true h.1.2
   have h3:=Nat.eq_of_beq_eq_true h.2
   subst h2;subst h3
   intro G u hr
   simp only[AV.sub]at *
   cases hr with
   | mp _ _ _ p hp=>exact .mp id _ _ p (by simp only[j4.ren,h1];exact hp)
  | _=>simp[cc0]at h
 | .rm c,b,h=>by
  cases b with
  | rm c' =>
   simp only[cc0]at h
   obtain⟨i,rfl,rfl⟩:=nY0 h
   simp only[fB0,u5]
   intro G u hr
   exact O5 (G:=G) (G':=G.ren ι) (fun _ _ hh=>hh) hr (by simp only[AV.pur];exact(hθ _).pur)
  | _=>simp[cc0]at h
theorem dx0{θ:Nat->AV}(hθ:Fit θ){ι:fM0}:∀ (a b:List AV),rX0 ι a b=true->RVs ι (Y8 θ a) (Y8 θ b)
 | [],b,h=>by
  cases b with
  | nil=>exact⟨rfl,fun i hi=>by simp[Y8]at hi⟩
  | cons _ _=>simp[rX0]at h
 | a::as,b,h=>by
  cases b with
  | nil=>simp[rX0]at h
  | cons b bs =>
   simp only[rX0,Bool.and_eq_true]at h
   simp only[Y8]
   exact(me0 hθ a b h.1:RV ι _ _) |> fun h1=>RVs.cons h1 (dx0 hθ as bs h.2)
theorem lR0{θ:Nat->AV}(hθ:Fit θ){ι:fM0}:∀ (a b:List (List AV)),vM0 ι a b=true->RVr ι (dp0 θ a) (dp0 θ b)
 | [],b,h=>by
  cases b with
  | nil=>exact⟨rfl,fun i hi=>by simp[dp0]at hi⟩
  | cons _ _=>simp[vM0]at h
 | a::as,b,h=>by
  cases b with
  | nil=>simp[vM0]at h
  | cons b bs =>
   simp only[vM0,Bool.and_eq_true]at h
   simp only[dp0]
   have h1:=dx0 hθ a b h.1
   have h2:=lR0 hθ as bs h.2
   refine⟨by simp[h2.1],fun i hi hi'=>?_⟩
   cases i with
   | zero=>exact h1
   | succ i=>exact h2.2 i (by simpa using hi) (by simpa using hi')
end
end Go.Ab
namespace Go.Ab
open Go
variable [B0]
theorem qM0{P:Program}{o:Oper}{a:Act}{K K':Act->World->Prop}{Q Q':Exit->Act->World->Prop}(hq:∀ e a w,Q e a w->e=.normal)(hk:∀ a w,K a w->K' a w){r:Result Next}(h:o.upon P a K Q r):o.upon P a K' Q' r:=by
 have hp:∀ c a w,¬ Q (.panic c) a w:=fun c a w hh=>by cases hq _ _ _ hh
 have hl:¬ LetsOut Q:=fun ⟨a,w,hh⟩=>by cases hq _ _ _ hh
 cases r with
 | ok n w' =>
  cases n with
  | value v=>exact hk _ _ h
  | skip=>exact hk _ _ h
  | defer d=>exact hk _ _ h
  | enter f args =>
   simp only[Oper.upon]at h ⊢
   refine h.mono ?_
   intro e w2 hh
   cases e with
   | returned v=>exact hk _ _ hh
   | panicked c=>exact absurd hh (hp _ _ _)
   | outgrown=>exact absurd hh hl
  | row row args =>
   simp only[Oper.upon]at h ⊢
   exact h.mono fun _ _ hh=>hk _ _ hh
  | _=>simp only[Oper.upon]at h
 | halt x w' =>
  cases x with
  | panic v=>simp only[Oper.upon]at h;exact absurd h (hp _ _ _)
  | _=>simp only[Oper.upon]at h
theorem rL0{P:Program}{ops0:Array Oper}{o:Oper}{Q Q':Exit->Act->World->Prop}(hq:∀ e a w,Q e a w->e=.normal){i:Nat}(hi:i<ops0.size)(hg:∀ x j b,ops0[i]?=some x->x.guard=some (j,b)->j<ops0.size){K K':Act->World->Prop}(hk:∀ a w,K a w->K' a w){a:Act}{w:World}
  (h:wpOp P ops0 Q i K a w):wpOp P (ops0.push o) Q' i K' a w:=by
 unfold wpOp at h ⊢
 have e0:∀ j,j<ops0.size->(ops0.push o)[j]?=ops0[j]?:=fun j hj=>by rw[Array.getElem?_push,if_neg (by omega)]
 rw[e0 i hi]
 have hx:ops0[i]?=some ops0[i]:=Array.getElem?_eq_getElem hi
 rw[hx]at h ⊢
 simp only at h ⊢
 have hw:Region.wanted ops0[i] (yielded (ops0.push o) a.tmps)=Region.wanted ops0[i] (yielded ops0 a.tmps):=by
  unfold Region.wanted
  split
  ·rfl
  ·rename_i j b hgd
   unfold yielded
   rw[e0 j (hg _ _ _ hx hgd)]
 rw[hw]
 split at h
 ·rename_i hwt
  rw[if_pos hwt]
  rcases h with h | ⟨_,a2,w2,h2⟩
  ·exact .inl (qM0 hq hk h)
  ·cases hq _ _ _ h2
 ·rename_i hwt
  rw[if_neg hwt]
  exact hk _ _ h
theorem oK0{P:Program}{ops0:Array Oper}{o:Oper}{Q:Exit->Act->World->Prop}(hg:∀ (i:Nat) (x:Oper) (j:Nat) (b:Bool),ops0[i]?=some x->x.guard=some (j,b)->j<ops0.size)(hL:∀ e∈o.after,Region.binds .any e=true->e.on<ops0.size)(he:∀ (i:Nat) (x:Oper) (e:Edge),ops0[i]?=some x->e∈x.after->Region.binds .any e=true->e.on<i)
  (hall:∀ p:Nat->Bool,fy0 ops0 p->(∀ e∈o.after,Region.binds .any e=true->p e.on=true)->∀ i,i<ops0.size->p i=true) :
  ∀ (fuel:Nat) (listed:Array Bool) (a:Act) (w:World),listed.size=ops0.size->fy0 ops0 (fun j=>listed.getD j false)->left ops0.size (fun j=>listed.getD j false)=fuel ->
   wpAny P .any ops0 (fun e a w=>e=.normal/\wpOp P (ops0.push o) Q ops0.size (Q .normal) a w) fuel listed a w->wpAny P .any (ops0.push o) Q (fuel+1) (listed.push false) a w:=by
 have get0:∀ (l:Array Bool) (j:Nat),l.size=ops0.size->j<ops0.size->∀ d,(l.push false).getD j d=l.getD j d:=fun l j hl hj d=>by
  simp[Array.getD_eq_getD_getElem?,Array.getElem?_push,show j≠l.size by omega]
 have getL:∀ (l:Array Bool),l.size=ops0.size->∀ d,(l.push false).getD ops0.size d=false:=fun l hl d=>by
  simp only[Array.getD_eq_getD_getElem?,Array.getElem?_push,hl,if_true,Option.getD_some]
 have e0:∀ j,j<ops0.size->(ops0.push o)[j]?=ops0[j]?:=fun j hj=>by rw[Array.getElem?_push,if_neg (by omega)]
 have eL:(ops0.push o)[ops0.size]?=some o:=by rw[Array.getElem?_push,if_pos rfl]

 have rdy:∀ (l:Array Bool),l.size=ops0.size->∀ i,i<ops0.size->(i∈Region.ready .any (ops0.push o) (l.push false)↔i∈Region.ready .any ops0 l):=fun l hl i hi=>by
  rw[mem_ready,mem_ready,e0 i hi,get0 l i hl hi]
  constructor
  ·rintro ⟨h1,x,h2,h3⟩
   refine⟨h1,x,h2,fun e he' hb=>?_⟩
   have:=h3 e he' hb
   rwa [get0 l e.on hl (by have:=he i x e h2 he' hb;omega)]at this
  ·rintro ⟨h1,x,h2,h3⟩
   refine⟨h1,x,h2,fun e he' hb=>?_⟩
   rw[get0 l e.on hl (by have:=he i x e h2 he' hb;omega)]
   exact h3 e he' hb
 have lst:∀ (l:Array Bool),l.size=ops0.size->fy0 ops0 (fun j=>l.getD j false)->ops0.size∈Region.ready .any (ops0.push o) (l.push false)->∀ i,i<ops0.size->l.getD i false=true:=fun l hl hcl hr=>by
  rw[mem_ready,eL]at hr
  obtain⟨_,x,hx,h3⟩:=hr
  cases hx
  refine hall _ hcl (fun e he' hb=>?_)
  have:=h3 e he' hb
  by_cases hs:e.on<ops0.size
  ·rwa [get0 l e.on hl hs]at this
  ·exfalso
   by_cases hs2:e.on=ops0.size
   ·rw[hs2,getL l hl]at this;cases this
   ·have:(l.push false).getD e.on false=false:=by
     simp[Array.getD_eq_getD_getElem?,Array.getElem?_push,show e.on≠l.size by omega,show ¬ e.on<l.size by omega]
    simp_all
 have bnd:∀ (l:Array Bool) i,i∈Region.ready .any (ops0.push o) l->i<ops0.size\/i=ops0.size:=fun l i hi=>by
  obtain⟨_,x,hx,_⟩:=mem_ready.1 hi
  have:=(Array.getElem?_eq_some_iff.1 hx).1
  simp at this
  omega
 have full:∀ (l:Array Bool),l.size=ops0.size->(∀ i,i<ops0.size->l.getD i false=true)->Region.ready .any ops0 l=[]:=fun l hl hp=>by
  cases hr:Region.ready .any ops0 l with
  | nil=>rfl
  | cons i is =>
   have hi:i∈Region.ready .any ops0 l:=by rw[hr];simp
   obtain⟨h1,x,hx,_⟩:=mem_ready.1 hi
   have hlt:=(Array.getElem?_eq_some_iff.1 hx).1
   have:=hp i hlt
   simp[hl,hlt]at h1 this
   rw[h1]at this;cases this

 have after:∀ (l:Array Bool) (a:Act) (w:World) (fuel:Nat),l.size=ops0.size->(∀ i,i<ops0.size->l.getD i false=true)->Q .normal a w->wpAny P .any (ops0.push o) Q fuel ((l.push false).setIfInBounds ops0.size true) a w:=fun l a w fuel hl hp hQ=>by
  have hnil:Region.ready .any (ops0.push o) ((l.push false).setIfInBounds ops0.size true)=[]:=by
   cases hr:Region.ready .any (ops0.push o) ((l.push false).setIfInBounds ops0.size true)with
   | nil=>rfl
   | cons i is =>
    have hi:i∈Region.ready .any (ops0.push o) ((l.push false).setIfInBounds ops0.size true):=by rw[hr];simp
    obtain⟨h1,_⟩:=mem_ready.1 hi
    rcases bnd _ _ hi with hlt | rfl
    ·rw[getD_set_ne true (by omega),get0 l i hl hlt]at h1
     have:=hp i hlt
     simp[hl,hlt]at h1 this
     rw[h1]at this;cases this
    ·simp[hl]at h1
  cases fuel with
  | zero=>exact⟨hnil,hQ⟩
  | succ f=>exact⟨fun _=>hQ,fun i hi=>by rw[hnil]at hi;cases hi⟩
 have rdyL:∀ (l:Array Bool),l.size=ops0.size->(∀ i,i<ops0.size->l.getD i false=true)->ops0.size∈Region.ready .any (ops0.push o) (l.push false):=fun l hl hp=>by
  rw[mem_ready,eL,getL l hl]
  refine⟨rfl,o,rfl,fun e he' hb=>?_⟩
  rw[get0 l e.on hl (hL e he' hb)]
  exact hp _ (hL e he' hb)
 intro fuel
 induction fuel with
 | zero =>
  intro listed a w hsz hcl hleft h
  have hp:=kE0 hleft
  refine⟨fun hnil=>?_,fun i hi=>?_⟩
  ·have:=rdyL listed hsz hp;rw[hnil]at this;cases this
  ·rcases bnd _ _ hi with hlt | rfl
   ·rw[rdy listed hsz i hlt,full listed hsz hp]at hi;cases hi
   ·refine wpOp_mono ?_ h.2.2
    intro a' w' hq
    exact after listed a' w' 0 hsz hp hq
 | succ fuel ih =>
  intro listed a w hsz hcl hleft h
  refine⟨fun hnil=>?_,fun i hi=>?_⟩
  ·have h1:Region.ready .any ops0 listed=[]:=by
    cases hr:Region.ready .any ops0 listed with
    | nil=>rfl
    | cons i is =>
     have hi:i∈Region.ready .any ops0 listed:=by rw[hr];simp
     obtain⟨_,x,hx,_⟩:=mem_ready.1 hi
     have hlt:=(Array.getElem?_eq_some_iff.1 hx).1
     rw[<- rdy listed hsz i hlt,hnil]at hi;cases hi

   have hp:∀ i,i<ops0.size->listed.getD i false=true:=fun i=>by
    induction i using Nat.strongRecOn with
    | _ i ihi =>
     intro hlt
     cases hl:listed.getD i false with
     | true=>rfl
     | false =>
      have:i∈Region.ready .any ops0 listed:=mem_ready.2 ⟨by simp[hsz,hlt]at hl ⊢;exact hl,_,Array.getElem?_eq_getElem hlt,fun e he' hb=>by
       have:=he i _ e (Array.getElem?_eq_getElem hlt) he' hb
       exact ihi e.on this (by omega)⟩
      rw[h1]at this;cases this
   have:=rdyL listed hsz hp;rw[hnil]at this;cases this
  ·rcases bnd _ _ hi with hlt | rfl
   ·rw[rdy listed hsz i hlt]at hi
    refine rL0 (Q:=fun e a w=>e=.normal/\wpOp P (ops0.push o) Q ops0.size (Q .normal) a w) (fun _ _ _ hh=>hh.1) hlt (fun x j b h1 h2=>hg i x j b h1 h2) (fun a' w' hk=>?_) (h.2 i hi)
    have hset:∀ j,(listed.setIfInBounds i true).getD j false=(j==i||listed.getD j false):=fun j=>by
     by_cases e:j=i
     ·subst e;simp[hsz,hlt]
     ·rw[getD_set_ne false (Ne.symm e)]
      have:(j==i)=false:=by simpa using e
      rw[this];rfl
    have hsetF:(fun j=>(listed.setIfInBounds i true).getD j false)=(fun j=>j==i||listed.getD j false):=funext hset
    obtain⟨r1,x,r2,r3⟩:=mem_ready.1 hi
    have hpi:listed.getD i false=false:=by simp[hsz,hlt]at r1 ⊢;exact r1
    have e1:(listed.push false).setIfInBounds i true=(listed.setIfInBounds i true).push false:=by
     apply Array.ext_getElem?
     intro j
     by_cases ej:j=i
     ·subst ej
      rw[Array.getElem?_setIfInBounds_self_of_lt (by simp;omega),Array.getElem?_push,if_neg (by simp;omega),Array.getElem?_setIfInBounds_self_of_lt (by omega)]
     ·rw[Array.getElem?_setIfInBounds_ne (Ne.symm ej),Array.getElem?_push,Array.getElem?_push]
      simp only[Array.size_setIfInBounds]
      split
      ·rfl
      ·rw[Array.getElem?_setIfInBounds_ne (Ne.symm ej)]
    rw[e1]
    refine ih _ a' w' (by simp[hsz]) ?_ ?_ hk
    ·rw[hsetF]
     intro j oj hoj hpj e he' hb
     by_cases hji:j=i
     ·subst hji
      rw[r2]at hoj;cases hoj
      simp[r3 e he' hb]
     ·have:listed.getD j false=true:=by simpa[hji]using hpj
      simp[hcl j oj hoj this e he' hb]
    ·rw[hsetF]
     have:=nc0 (p:=fun j=>listed.getD j false) hlt hpi
     omega
   ·have hp:=lst listed hsz hcl hi
    have h0:=h.1 (full listed hsz hp)
    refine wpOp_mono ?_ h0.2
    intro a' w' hq
    exact after listed a' w' _ hsz hp hq
theorem rQ0{P:Program}{T:Tab}(hT:C2 P T){cl:FuncId->List AV->c9->Option (AV×c9)}
  (hcl:∀ f args σ v σ',cl f args σ=some (v,σ')->C1 P f args σ (fun v' σ''=>v'=v/\σ''=σ')/\Z2 σ σ')
  {ops:Array Oper} {s s':AS} (h:aW0 T cl ops s=some s') {G:j4} {a:Act} {w:World} (hrel:aG0 G s a w) {Q:Exit->Act->World->Prop}
  (hQ:∀ G' a' w',lL0 s.st.next G s.st w G' s'.st w'->aG0 G' s' a' w'->Q .normal a' w'):wpAny P .any ops Q ops.size (Array.replicate ops.size false) a { w with drawn:=w.drawn+1 }:=by
 unfold aW0 at h
 split at h
 case isFalse=>cases h
 rename_i hst
 split at h
 case h_2=>cases h
 rename_i s1 fs hr
 split at h
 case isFalse=>cases h
 rename_i hdyn
 cases h
 obtain⟨evs,sts,l1,l2,l3,l4,hall,g1,g2,g3⟩:=mK0 hT hcl ops.toList 0 _ _ fs (fun j=>by simp) (by simp) (Nat.le_refl _) hr
 simp only[Array.length_toList]at l1 l2 l3
 have hlex:Lex P ops s.n s.st.next fs evs sts { s with st:={ s.st with next:=s.st.next+ops.size } }:=⟨hst,hdyn,l1,l2,l3,fun j o f ev st h1 h2 h3 h4=>by
  have:=hall j o f ev st (by simpa using h1) h2 h3 h4
  simpa using this⟩
 have hleft:left ops.size (fun j=>(Array.replicate ops.size false).getD j false)=ops.size:=by
  unfold left
  rw[List.filter_eq_self.2 (fun x hx=>by
   have:x<ops.size:=by simpa using hx
   simp[this])]
  simp
 have hp0:∀ j,(Array.replicate ops.size false).getD j false=false:=fun j=>by
  by_cases hj:j<ops.size<;>simp[hj]
 refine Way.any hlex (G0:=G) (σ0:=s.st) (w0:=w) _ ?_ ops.size (Array.replicate ops.size false) G s.get { s.st with next:=s.st.next+ops.size } a { w with drawn:=w.drawn+1 } (by simp) hleft ?_
 ·intro p G' tm σ a' w' hw hp
  have agree:∀ {L V:Type} (us:List (L->Option V)) (f:L->V),us.length=ops.size->fold p us 0 f=fold (fun _=>true) us 0 f:=fun us f hl=>funext fun l=>M9 l us 0 f f rfl (fun j u hu hne=>by
   have hj:j<ops.size:=by have:=(List.getElem?_eq_some_iff.1 hu).1;omega
   rw[Nat.zero_add]at hne
   exact absurd (hp j hj) hne)
  have hnext:σ.next=s'.st.next:=by rw[hw.nx,agree _ _ (by simp[l1]),g3]
  have hobjs:∀ k,σ.objs k=s'.st.objs k:=fun k=>by rw[hw.ob,agree _ _ (by simp[l1]),g2]
  have htm:∀ t,tm t=s'.get t:=fun t=>by rw[hw.tm,agree _ _ (by simp[l1]),g1]
  exact hQ G' a' w' ⟨hw.tran.le,hw.tran.keeps,by rw[<- hnext];exact hw.tran.next,hw.tran.fr.trans (Fr.less fun k x hx=>by rw[hobjs];exact hx)⟩ ⟨hw.rel.defers,by rw[hw.rel.size,l4],fun t=>by rw[<- htm];exact hw.rel.tmps t,hw.rel.rel.less hnext.symm (fun k x hx=>by rw[hobjs];exact hx)⟩
 ·have hnone:∀ {L V:Type} (us:List (L->Option V)) (f:L->V) (l:L),fold (fun j=>(Array.replicate ops.size false).getD j false) us 0 f l=f l:=fun us f l=>aB0 l us 0 f _ (fun j u _ hp=>by rw[hp0]at hp;cases hp) rfl
  refine⟨⟨hrel.defers,hrel.size,hrel.tmps,(hrel.rel.next (Nat.le_add_right _ _)).drawn _⟩,fun t=>(hnone _ _ _).symm,fun k=>(hnone _ _ _).symm,(hnone (evs.map fun e=>fun _:Unit=>e.uN) (fun _=>s.st.next+ops.size) ()).symm,fun j _ _=>hrel.rel.fresh _ (Nat.le_add_right _ _),(fun j o _ hp=>by rw[hp0]at hp;cases hp),Nat.le_refl _,?_⟩
  exact⟨.refl G,.refl _ G,Nat.le_add_right _ _,(Fr.less (σ:=s.st) (σ':={ s.st with next:=s.st.next+ops.size }) (fun _ _ h=>h)).trans (Fr.draws _ _ _ _ (Nat.le_add_right _ _))⟩
def av0(ops0:Array Oper)(o:Oper):Bool :=
 (List.range ops0.size).all (fun i=>(anc1 (da0 ops0.toList []) o).testBit i)&&o.after.all (fun e=>!Region.binds .any e||decide (e.on<ops0.size)) &&
 (List.range ops0.size).all (fun i=>match ops0[i]? with
  | some x=>(match x.guard with | some (j,_)=>decide (j<ops0.size) | none=>true)&&x.after.all (fun e=>!Region.binds .any e||decide (e.on<i))
  | none=>true)
theorem jx0{ops0:Array Oper}{o:Oper}(h:av0 ops0 o=true):∀ p:Nat->Bool,fy0 ops0 p->(∀ e∈o.after,Region.binds .any e=true->p e.on=true)->∀ i,i<ops0.size->p i=true:=by
 intro p hcl hall i hi
 unfold av0 at h
 simp only[Bool.and_eq_true]at h
 have hb:=List.all_eq_true.1 h.1.1 i (by simpa using hi)
 unfold anc1 at hb
 rcases jP0 _ i _ _ hb with hx | ⟨e,he,hbind,hx⟩
 ·simp at hx
 ·have hpe:=hall e (by simpa using he) hbind
  rcases hx with rfl | hx
  ·exact hpe
  ·have hlt:e.on<ops0.size:=by
    have:=Array.all_eq_true_iff_forall_mem.1 h.1.2 e (by simpa using he)
    simpa[hbind]using this
   exact bI0 hcl e.on _ (Array.getElem?_eq_getElem hlt) (hcl e.on _ (Array.getElem?_eq_getElem hlt) hpe) i hx
theorem sW0{P:Program}{ops0:Array Oper}{o:Oper}{Q Q':Exit->Act->World->Prop}(hq:∀ e a w,Q e a w->e=.normal){i:Nat}(hi:i<ops0.size)(hg:∀ x j b,ops0[i]?=some x->x.guard=some (j,b)->j<ops0.size){K K':Act->World->Prop}(hk:∀ a w,K a w->K' a w){a:Act}{w:World}
  (h:wpOp P (ops0.push o) Q i K a w):wpOp P ops0 Q' i K' a w:=by
 unfold wpOp at h ⊢
 have e0:∀ j,j<ops0.size->(ops0.push o)[j]?=ops0[j]?:=fun j hj=>by rw[Array.getElem?_push,if_neg (by omega)]
 rw[e0 i hi]at h
 have hx:ops0[i]?=some ops0[i]:=Array.getElem?_eq_getElem hi
 rw[hx]at h ⊢
 simp only at h ⊢
 have hw:Region.wanted ops0[i] (yielded (ops0.push o) a.tmps)=Region.wanted ops0[i] (yielded ops0 a.tmps):=by
  unfold Region.wanted
  split
  ·rfl
  ·rename_i j b hgd
   unfold yielded
   rw[e0 j (hg _ _ _ hx hgd)]
 rw[hw]at h
 split at h
 ·rename_i hwt
  rw[if_pos hwt]
  rcases h with h | ⟨_,a2,w2,h2⟩
  ·exact .inl (qM0 hq hk h)
  ·cases hq _ _ _ h2
 ·rename_i hwt
  rw[if_neg hwt]
  exact hk _ _ h
theorem kB0{P:Program}{ops0:Array Oper}{o:Oper}{Q:Exit->Act->World->Prop}(hq:∀ e a w,Q e a w->e=.normal)(hg:∀ (i:Nat) (x:Oper) (j:Nat) (b:Bool),ops0[i]?=some x->x.guard=some (j,b)->j<ops0.size) :
  ∀ (l:List Nat) (a:Act) (w:World),(∀ i∈l,i<ops0.size)->wpOps P (ops0.push o) Q (l++[ops0.size]) a w->wpOps P ops0 (fun e a w=>e=.normal/\wpOp P (ops0.push o) Q ops0.size (Q .normal) a w) l a w
 | [],a,w,_,h=>by
  simp only[List.nil_append]at h
  rw[wpOps_cons]at h
  exact⟨rfl,h⟩
 | i::l,a,w,hl,h=>by
  rw[List.cons_append,wpOps_cons]at h
  rw[wpOps_cons]
  exact sW0 hq (hl i (by simp)) (fun x j b h1 h2=>hg i x j b h1 h2) (fun a' w' hk=>kB0 hq hg l a' w' (fun j hj=>hl j (by simp[hj])) hk) h
theorem V7{P:Program}{md:Region.Mode}{ops:Array Oper}{Q Q':Exit->Act->World->Prop}(hq:∀ e a w,Q e a w->e=.normal)(h:∀ a w,Q .normal a w->Q' .normal a w):∀ (fuel:Nat) (listed:Array Bool) (a:Act) (w:World),wpAny P md ops Q fuel listed a w->wpAny P md ops Q' fuel listed a w
 | 0,_,a,w,⟨h1,h2⟩=>⟨h1,h a w h2⟩
 | fuel+1,listed,a,w,⟨h1,h2⟩=>⟨fun hn=>h a w (h1 hn),fun i hi=>by
   have:=h2 i hi
   unfold wpOp at this ⊢
   split at this
   ·exact V7 hq h fuel _ _ _ this
   ·split at this
    ·rename_i hw
     rw[if_pos hw]
     rcases this with this | ⟨_,a2,w2,h3⟩
     ·exact .inl (qM0 hq (fun a' w' hk=>V7 hq h fuel _ _ _ hk) this)
     ·cases hq _ _ _ h3
    ·rename_i hw
     rw[if_neg hw]
     exact V7 hq h fuel _ _ _ this⟩
def T8:List Oper->List Oper->Bool
 | _,[]=>true
 | l0,o::t=>av0 ⟨l0⟩ o&&T8 (l0++[o]) t
theorem push_mk(l:List Oper)(o:Oper):(⟨l⟩:Array Oper).push o=⟨l++[o]⟩:=by apply Array.ext';simp
theorem dg0{ops0:Array Oper}{o:Oper}(hl:av0 ops0 o=true):(∀ (i:Nat) (x:Oper) (j:Nat) (b:Bool),ops0[i]?=some x->x.guard=some (j,b)->j<ops0.size)/\(∀ e∈o.after,Region.binds .any e=true->e.on<ops0.size) /\
  (∀ (i:Nat) (x:Oper) (e:Edge),ops0[i]?=some x->e∈x.after->Region.binds .any e=true->e.on<i):=by
 have hl':=hl
 unfold av0 at hl'
 simp only[Bool.and_eq_true]at hl'
 refine⟨fun i x j b hx hg=>?_,fun e he hb=>?_,fun i x e hx he hb=>?_⟩
 ·have:=List.all_eq_true.1 hl'.2 i (by simpa using(Array.getElem?_eq_some_iff.1 hx).1)
  simp only[hx,hg,Bool.and_eq_true,decide_eq_true_eq]at this
  exact this.1
 ·have:=Array.all_eq_true_iff_forall_mem.1 hl'.1.2 e he
  simpa[hb]using this
 ·have:=List.all_eq_true.1 hl'.2 i (by simpa using(Array.getElem?_eq_some_iff.1 hx).1)
  simp only[hx,Bool.and_eq_true]at this
  have:=Array.all_eq_true_iff_forall_mem.1 this.2 e he
  simpa[hb]using this
theorem de0:∀ (t l0:List Oper) (o:Oper),T8 l0 (t++[o])=true->T8 l0 t=true/\av0 ⟨l0++t⟩ o=true
 | [],l0,o,h=>by simp only[List.nil_append,T8,Bool.and_true]at h;exact⟨rfl,by simpa using h⟩
 | x::t,l0,o,h=>by
  simp only[List.cons_append,T8,Bool.and_eq_true]at h ⊢
  obtain⟨h1,h2⟩:=de0 t (l0++[x]) o h.2
  exact⟨⟨h.1,h1⟩,by simpa using h2⟩
theorem mX0{P:Program}{ops0:Array Oper}{o:Oper}(hl:av0 ops0 o=true){Q:Exit->Act->World->Prop}{a:Act}{w:World}(h:wpAny P .any ops0 (fun e a w=>e=.normal/\wpOp P (ops0.push o) Q ops0.size (Q .normal) a w) ops0.size (Array.replicate ops0.size false) a w) :
  wpAny P .any (ops0.push o) Q (ops0.size+1) (Array.replicate (ops0.size+1) false) a w:=by
 obtain⟨h1,h2,h3⟩:=dg0 hl
 have hp0:∀ j,(Array.replicate ops0.size false).getD j false=false:=fun j=>by
  by_cases hj:j<ops0.size<;>simp[hj]
 have hleft:left ops0.size (fun j=>(Array.replicate ops0.size false).getD j false)=ops0.size:=by
  unfold left
  rw[List.filter_eq_self.2 (fun x hx=>by
   have:x<ops0.size:=by simpa using hx
   simp[this])]
  simp
 have e1:Array.replicate (ops0.size+1) false=(Array.replicate ops0.size false).push false:=by
  apply Array.ext
  ·simp
  ·intro j h1 h2
   simp[Array.getElem_push]
 rw[e1]
 exact oK0 h1 h2 h3 (jx0 hl) ops0.size _ a _ (by simp) (fun j o' _ hp=>by rw[show (fun j=>(Array.replicate ops0.size false).getD j false) j=false from hp0 j]at hp;cases hp) hleft h
theorem iB0{P:Program}{l0:List Oper}:∀ (n:Nat) (t:List Oper),t.length=n->T8 l0 t=true->∀ {Q:Exit->Act->World->Prop},(∀ e a w,Q e a w->e=.normal)->∀ {a:Act} {w:World},
  wpAny P .any ⟨l0⟩ (fun e a w=>e=.normal/\wpOps P ⟨l0++t⟩ Q (List.range' l0.length t.length) a w) l0.length (Array.replicate l0.length false) a w->wpAny P .any ⟨l0++t⟩ Q (l0++t).length (Array.replicate (l0++t).length false) a w
 | 0,t,hn,_,Q,hq,a,w,h=>by
  have:t=[]:=by simpa using hn
  subst this
  rw[List.append_nil]
  refine V7 (Q:=fun e a w=>e=.normal/\wpOps P ⟨l0++[]⟩ Q (List.range' l0.length ([]:List Oper).length) a w) (fun _ _ _ hh=>hh.1) ?_ _ _ _ _ h
  rintro a' w' ⟨_,h2⟩
  simpa[wpOps]using h2
 | n+1,t,hn,ht,Q,hq,a,w,h=>by
  obtain⟨t',o,rfl⟩:∃ t' o,t=t'++[o]:=by
   rcases List.eq_nil_or_concat t with rfl | ⟨t',o,rfl⟩
   ·simp at hn
   ·exact⟨t',o,by simp⟩
  obtain⟨h1,h2⟩:=de0 t' l0 o ht
  have e1:(⟨l0++(t'++[o])⟩:Array Oper)=(⟨l0++t'⟩:Array Oper).push o:=by rw[push_mk];simp
  have e2:(l0++(t'++[o])).length=(⟨l0++t'⟩:Array Oper).size+1:=by simp;omega
  rw[e1,e2]
  refine mX0 h2 ?_
  refine iB0 n t' (by simpa using hn) h1 (fun e a w hh=>hh.1) ?_
  refine V7 (fun _ _ _ hh=>hh.1) ?_ _ _ _ _ h
  rintro a' w' ⟨_,h3⟩
  refine⟨rfl,?_⟩
  rw[e1]at h3
  refine kB0 hq (dg0 h2).1 _ a' w' (fun i hi=>by simp at hi ⊢;omega) ?_
  have e3:List.range' l0.length (t'++[o]).length=List.range' l0.length t'.length++[(⟨l0++t'⟩:Array Oper).size]:=by
   simp[List.range'_concat]
  rw[<- e3];exact h3
theorem BWp.drawnTail{P:Program}{T:Tab}(hT:C2 P T)(hm:P.follows .mixedOrders=true){cl:FuncId->List AV->c9->Option (AV×c9)}
  (hcl:∀ f args σ v σ',cl f args σ=some (v,σ')->C1 P f args σ (fun v' σ''=>v'=v/\σ''=σ')/\Z2 σ σ')
  {id n:Nat} {l0 t:List Oper} (hl:T8 l0 t=true) {s s':AS} (h:aW0 T cl ⟨l0⟩ s=some s') {Q:Exit->AS->Prop}
  (hlast:Z6 P ⟨l0++t⟩ s'.st.next n (fun s2=>Q .normal s2) (List.range' l0.length t.length) { s' with st:={ s'.st with next:=s'.st.next+(l0++t).length } }):BWp P n (.region id ⟨l0++t⟩ true) Q s:=by
 intro hn G a w hrel
 refine wp_region_any hm ?_
 have key:=iB0 (P:=P) (l0:=l0) t.length t rfl hl (Q:=fun e a' w'=>e=.normal/\∃ s2 G2,S9 n G s.st w G2 s2.st w'/\aG0 G2 s2 a' w'/\Q .normal s2) (fun _ _ _ hh=>hh.1) (a:=a) (w:={ w with drawn:=w.drawn+1 }) ?_
 ·refine V7 (fun _ _ _ hh=>hh.1) ?_ _ _ _ _ key
  rintro a' w' ⟨_,s2,G2,b1,b2,b3⟩
  exact⟨s2,G2,b1,b2,b3⟩
 ·refine rQ0 hT hcl h hrel (fun G' a' w' ht hr=>⟨rfl,?_⟩)
  have hr':aG0 G' { s' with st:={ s'.st with next:=s'.st.next+(l0++t).length } } a' w':=⟨hr.defers,hr.size,hr.tmps,hr.rel.next (Nat.le_add_right _ _)⟩
  have:=hlast G' a' w' hr' (fun j hj=>⟨by simp at hj ⊢;omega,hr.rel.fresh _ (Nat.le_add_right _ _)⟩) (Nat.le_refl _) (Nat.le_trans hn ht.next)
  have hTB:=ht.toB (n:=n) hn hn
  refine C9 ?_ _ _ _ this
  rintro e a2 w2 ⟨rfl,s2,G2,b1,b2,b3⟩
  exact⟨rfl,s2,G2,hTB.trans ⟨b1.w0,b1.imm,b1.pl,b1.nx,(Fr.less (σ:=s'.st) (σ':={ s'.st with next:=s'.st.next+(l0++t).length }) (fun _ _ h=>h)).trans b1.fr⟩ (Nat.le_refl _),b2,b3⟩
end Go.Ab
namespace Go.Ab
open Go
variable [B0]
mutual
def AV.nilz:AV->AV
 | .sc (.slice none 0 0)=>.rs []
 | .rs es=>.rs (rc0 es)
 | .agg cs=>.agg (mM0 cs)
 | .tup cs=>.tup (mM0 cs)
 | v=>v
def mM0:List AV->List AV
 | []=>[]
 | c::cs=>c.nilz::mM0 cs
def rc0:List (List AV)->List (List AV)
 | []=>[]
 | c::cs=>mM0 c::rc0 cs
end
theorem fR0:∀ l,mM0 l=l.map AV.nilz
 | []=>by simp[mM0]
 | c::cs=>by simp[mM0,fR0 cs]
theorem nw0:∀ l,rc0 l=l.map (List.map AV.nilz)
 | []=>by simp[rc0]
 | c::cs=>by simp[rc0,fR0,nw0 cs]
mutual
theorem ef0{G:j4}{θ:Nat->AV}:∀ (v:AV) (u:Value),Rep G (v.sub θ) u->Rep G (v.nilz.sub θ) u
 | .sc v,u,h=>by
  by_cases hv:v=.slice none 0 0
  ·subst hv
   simp only[AV.sub]at h
   cases h
   simp only[AV.nilz,AV.sub,dp0]
   exact .rsNil
  ·have:(AV.sc v).nilz=.sc v:=by
    unfold AV.nilz
    split
    ·rename_i e;cases e;exact(hv rfl).elim
    ·rename_i e;cases e
    ·rename_i e;cases e
    ·rename_i e;cases e
    ·rfl
   rw[this];exact h
 | .rs es,u,h=>by
  have hr:=kG0 (G:=G) (θ:=θ) es
  simp only[AV.nilz,AV.sub,bc0,nw0]at h ⊢
  generalize hx:es.map (List.map (AV.sub θ))=xs at h
  cases h with
  | rsNil =>
   have:es=[]:=by simpa using hx
   subst this
   exact .rsNil
  | rs _ a cap size val hs hc hlen himm hrep =>
   subst hx
   have hl:(es.map (List.map (AV.sub θ))).length=((es.map (List.map AV.nilz)).map (List.map (AV.sub θ))).length:=by simp
   rw[hl]
   refine .rs _ a cap size val hs (by rw[<- hl];exact hc) (fun i hi=>?_) (fun i j hi hj=>himm i j (by rw[hl];exact hi) hj) (fun i j hi hj=>?_)
   ·have:=hlen i (by rw[hl];exact hi)
    simpa using this
   ·have hi':i<es.length:=by simpa using hi
    have hj':j<es[i].length:=by simpa using hj
    have:=hrep i j (by simpa using hi') (by simpa using hj')
    simp only[List.getElem_map]at this ⊢
    exact hr _ (List.getElem_mem hi') _ (List.getElem_mem hj') _ this
 | .agg cs,u,h=>by
  have hr:=el0 (G:=G) (θ:=θ) cs
  simp only[AV.nilz,AV.sub,H6,fR0]at h ⊢
  cases h with
  | agg _ vs h1 h2 =>
   refine .agg _ vs (by simpa using h1) (fun i hi hi'=>?_)
   have hi0:i<cs.length:=by simpa using hi
   have:=h2 i (by simpa using hi0) hi'
   simp only[List.getElem_map]at this ⊢
   exact hr _ (List.getElem_mem hi0) _ this
 | .tup cs,u,h=>by
  have hr:=el0 (G:=G) (θ:=θ) cs
  simp only[AV.nilz,AV.sub,H6,fR0]at h ⊢
  cases h with
  | tup _ vs h1 h2 =>
   refine .tup _ vs (by simpa using h1) (fun i hi hi'=>?_)
   have hi0:i<cs.length:=by simpa using hi
   have:=h2 i (by simpa using hi0) hi'
   simp only[List.getElem_map]at this ⊢
   exact hr _ (List.getElem_mem hi0) _ this
 | .any,u,h=>h
 | .rp _,u,h=>h
 | .ms _ _ _ _,u,h=>h
 | .mp _ _ _,u,h=>h
 | .mm _,u,h=>h
 | .it _,u,h=>h
 | .fn _ _ _,u,h=>h
 | .sy _,u,h=>h
 | .ss _ _ _,u,h=>h
 | .xp _ _ _,u,h=>h
 | .rm _,u,h=>h
theorem el0{G:j4}{θ:Nat->AV}:∀ (l:List AV) (v:AV),v∈l->∀ u,Rep G (v.sub θ) u->Rep G (v.nilz.sub θ) u
 | [],_,hv,_,_=>by simp at hv
 | c::cs,v,hv,u,h=>by
  rcases List.mem_cons.1 hv with e | hv
  ·rw[e]at h ⊢;exact ef0 c u h
  ·exact el0 cs v hv u h
theorem kG0{G:j4}{θ:Nat->AV}:∀ (l:List (List AV)) (r:List AV),r∈l->∀ v,v∈r->∀ u,Rep G (v.sub θ) u->Rep G (v.nilz.sub θ) u
 | [],_,hr,_,_,_,_=>by simp at hr
 | c::cs,r,hr,v,hv,u,h=>by
  rcases List.mem_cons.1 hr with e | hr
  ·rw[e]at hv;exact el0 c v hv u h
  ·exact kG0 cs r hr v hv u h
end
inductive RO where
 | bin (o:BinOp) (t:TypeId) (x y:AV)
 | un (o:UnOp) (x:AV)
 | conv (s d:TypeId) (x:AV)
 | pick (c a b:AV)
 | idx (t:TypeId) (x i:AV)
 | index (t:TypeId) (x i:AV)
 | slc (t:TypeId) (x:AV) (lo hi:Option AV)
 | len (t:TypeId) (x:AV)
 | mx (l:List AV)
 | mn (l:List AV)
 | cat (sT xT:TypeId) (x y:AV)
 | call (f:FuncId) (args:List AV) (flat:Bool)
 | rows (l:List Nat)
 | look (t:TypeId) (c ix:AV) (ok:Bool)
 | lookr (t:TypeId) (x ix:AV) (ok:Bool)
 | mput (t:TypeId) (c ix v:AV)
 | mlen (t:TypeId) (c:AV)
 | nop
 | inb (t:TypeId) (c i:AV)
 | xld (t e:TypeId) (z:Nat) (c i:AV) (off:Nat)
 | xst (t e:TypeId) (z:Nat) (c i:AV) (off:Nat) (v:AV)
 | isp (x:AV)
 | opn (n:Nat) (x:AV)
 | zer (sT:TypeId) (x:AV)
 | gl (t:TypeId) (g:Nat)
 | xin (c i:AV) (off:Nat)
 | iss (x:AV)
 | more (s p:AV)
 | sdec (s p:AV)
 | ownr (cols:bn0) (x:AV)
abbrev H8:=FuncId->Option (List AV->Option AV)
abbrev XT:Nat:=1000000
def tb0(P:Program)(f:FuncId)(φ:List AV->Option AV):Prop:=∀ v z rest c,φ (v::.sc (.int .i64 (z:Nat))::rest)=some c->∃ es es',v=.rs es/\c=.rs es'/\es'.length=es.length /\
 ∀ σ id e restv,σ.objs id=some (.row e z es)->(∀ G vs w,B7 G restv vs->Rel G (σ.del id) w->B7 (G.frozen (σ.del id) w (fun _=>none)) rest vs) ->
  C1 P f (.ms id z 0 es.length::restv) σ (fun v σ'=>v=.tup []/\σ'=σ.set id (.row e z es'))
abbrev XR:Nat:=2000000
def vX0(P:Program)(f:FuncId)(φ:List AV->Option AV):Prop:=∀ args c,φ args=some c->∃ es,c=.rs es/\∀ T fn t elem ti ei,C2 P T->P.funcs[f]?=some fn->fn.resultTypes.toList=[t]->T t=some ti->ti.und=.slice elem->T elem=some ei ->
 ∀ σ:c9,C1 P f args σ (fun v σ'=>v=.ms (σ.next+5) ei.size 0 es.length/\σ'={ σ with next:=σ.next+7 }.set (σ.next+5) (.row elem ei.size es))
structure ha0(P:Program)(Φ:H8):Prop where
 memo:∀ f φ,f<XT->Φ f=some φ->∀ args c,φ args=some c->F3 P ⟨f,args,c⟩
 sort:∀ f φ,f<XT->Φ (XT+f)=some φ->tb0 P f φ
 row:∀ f φ,Φ (XR+f)=some φ->vX0 P f φ
def H8.srt(Φ:H8)(f:FuncId):Option (List AV->Option AV):=match Nat.blt f XT with
 | true=>Φ (XT+f)
 | false=>none
def H8.fn(Φ:H8)(f:FuncId):Option (List AV->Option AV):=match Nat.blt f XT with
 | true=>Φ f
 | false=>none
def fnTold(Φ:H8):AV->Bool
 | .fn (.func g) _ _=>(Φ.fn g).isSome
 | .fn _ _ _=>false
 | _=>true
def H8.at(Φ:H8)(f:FuncId)(args:List AV):Option (List AV->Option AV):=match args.all (fnTold Φ)with
 | true=>Φ.fn f
 | false=>none
theorem H8.at_fn{Φ:H8}{f:FuncId}{args:List AV}{φ:List AV->Option AV}(h:Φ.at f args=some φ):Φ.fn f=some φ:=by
 unfold H8.at at h
 split at h
 ·exact h
 ·cases h
theorem H8.fn_eq{Φ:H8}{f:FuncId}{φ:List AV->Option AV}(h:Φ.fn f=some φ):f<XT/\Φ f=some φ:=by
 unfold H8.fn at h
 split at h
 ·rename_i hb;exact⟨by simpa using hb,h⟩
 ·cases h
def sM0(T:Tab)(sT xT:TypeId)(a b:AV):Option AV :=
 match T sT,T xT with
 | some { und:=.slice elem,.. },some xi =>
  match T elem with
  | some ei=>match a,b with
   | .rs es,.rs xs=>if xi.isInt=false/\(xs.all fun c=>c.length==ei.size&&c.all AV.one)=true/\(2*(es.length+xs.length)+1000)*ei.bytes<=2^48/\es.length+xs.length<=2^62/\0<ei.size then
     some (.rs (es++xs))else none
   | _,_=>none
  | none=>none
 | _,_=>none
def dc0(c:AV):c9:=c9.none.set 0 (P3 c)
def nk0(b:Bool)(l:List Int):List AV->Bool
 | r=>ck0 b l (D5 0 r).1
def N4(k v:AV)(b:Bool)(l:List Int):List (List AV)->List (List AV)
 | []=>[[k,v]]
 | r::rs=>match nk0 b l r with
  | true=>[k,v]::rs
  | false=>r::N4 k v b l rs
def gG0:l7->Option AV
 | .xmap c=>some c
 | .map false [] 0=>some (.rs [])
 | _=>none
theorem iZ0(i j:Nat)(r:List AV):(D5 i r).1=(D5 j r).1:=by
 unfold D5
 split<;>rfl
theorem fd0(b:Bool)(l:List Int):∀ (es:List (List Int×AV×Nat)) (k:Nat),J6 b l es (k+1)=(J6 b l es k).map (fun p=>(p.1+1,p.2))
 | [],_=>rfl
 | e::es,k=>by
  simp only[J6]
  split
  ·rfl
  ·exact fd0 b l es (k+1)
theorem nE0{ix v:AV}{b:Bool}{l:List Int}(hk:ix.key=some (b,l)):∀ (rs:List (List AV)) (j:Nat),w8 j (N4 ix v b l rs)=(mput b l v (j+rs.length) (w8 j rs)).1
 | [],j=>by simp[N4,w8,D5,hk,mput,J6]
 | r::rs,j=>by
  have ih:=nE0 (v:=v) hk rs (j+1)
  simp only[N4,nk0,w8]
  have e0:ck0 b l (D5 j r).1=ck0 b l (D5 0 r).1:=by rw[iZ0 j 0]
  split
  ·rename_i hc
   have e2:D5 j [ix,v]=(l,v,j):=by simp[D5,hk]
   have e3:=gp0 j r
   simp only[w8,e2]
   generalize D5 j r=q at e0 e3
   simp[mput,J6,e0,hc,e3]
  ·rename_i hc
   simp only[w8,ih]
   have e1:j+1+rs.length=j+(rs.length+1):=by omega
   simp only[mput,J6,e0,hc,Bool.false_eq_true,if_false,List.length_cons,e1]
   rw[fd0]
   cases J6 b l (w8 (j+1) rs) 0 with
   | none=>simp
   | some p=>simp
theorem pP0{ix v:AV}{b:Bool}{l:List Int}:∀ (rs:List (List AV)) (j:Nat),(N4 ix v b l rs).length=(mput b l v rs.length (w8 j rs)).2
 | [],j=>by simp[N4,mput,J6,w8]
 | r::rs,j=>by
  have ih:=pP0 (ix:=ix) (v:=v) (b:=b) (l:=l) rs (j+1)
  simp only[N4,nk0,w8]
  have e0:ck0 b l (D5 j r).1=ck0 b l (D5 0 r).1:=by rw[iZ0 j 0]
  split
  ·rename_i hc
   simp[mput,J6,e0,hc]
  ·rename_i hc
   simp only[List.length_cons,ih]
   simp only[mput,J6,e0,hc,Bool.false_eq_true,if_false,List.length_cons]
   rw[fd0]
   cases J6 b l (w8 (j+1) rs) 0 with
   | none=>simp
   | some p=>simp
theorem ih0{T:Tab}{σ:c9}{id:Nat}{c ix v:AV}{t:TypeId}{b:Bool}{l:List Int}(ho:σ.objs id=some (P3 c))(hk:ix.key=some (b,l)){σ2:c9}(h:C6 T (dc0 c) t (.mm 0) ix v=some σ2) :
  C6 T σ t (.mm id) ix v=some (σ.set id (P3 (.rs (N4 ix v b l (rowsOf c))))):=by
 have ho2:(dc0 c).objs 0=some (P3 c):=by simp[dc0,c9.objs_set]
 unfold C6 at h ⊢
 split at h
 ·rename_i kt et _ _ _ _ b' l' ht hk'
  rw[hk]at hk'
  cases hk'
  simp only[ho2,P3]at h
  simp only[ht,hk,ho,P3]
  split at h
  ·rename_i hc
   rw[if_pos hc]
   have hr:rowsOf c=[]:=by
    have:=hc.1
    cases hx:rowsOf c with
    | nil=>rfl
    | cons r rs=>rw[hx]at this;simp[w8]at this
   have e9:∀ es:List (List AV),rowsOf (.rs es)=es:=fun _=>rfl
   simp only[e9,hr]
   simp[N4,aK0,hk,w8,D5]
  ·rename_i hc
   rw[if_neg hc]
   split at h
   ·rename_i hc2
    rw[if_pos hc2]
    have e9:∀ es:List (List AV),rowsOf (.rs es)=es:=fun _=>rfl
    have e1:=nE0 (v:=v) hk (rowsOf c) 0
    have e2:=pP0 (ix:=ix) (v:=v) (b:=b) (l:=l) (rowsOf c) 0
    simp only[Nat.zero_add]at e1
    simp only[e9]
    generalize rowsOf c=rs at *
    rw[e1,e2]
    have e3:aK0 rs=aK0 (N4 ix v b l rs):=by
     cases rs with
     | nil =>
      have:aK0 (N4 ix v b l [])=b:=by simp[N4,aK0,hk]
      rw[this];exact hc2.1
     | cons r rs =>
      simp only[N4]
      split
      ·have:aK0 ([ix,v]::rs)=b:=by simp[aK0,hk]
       rw[this];exact hc2.1
      ·unfold aK0
       split
       ·rename_i e;cases e;rfl
       ·rename_i hne
        split
        ·rename_i e;cases e;exact absurd rfl (hne _ _ _)
        ·rfl
    rw[<- e3]
   ·cases h
 ·cases h
def dE0(e:TypeId)(z:Nat)(c:AV):c9:=c9.none.set 0 (.row e z (rowsOf c))
def isRs:AV->Bool
 | .rs _=>true
 | _=>false
def xp0(T:Tab)(sT:TypeId)(x:AV):Option AV :=
 match T sT with
 | some { und:=.slice elem,.. }=>match T elem with
  | some ei=>match x with
   | .sc (.int _ n)=>if IntKind.i64.wrap n=n/\0<n/\(2*n.toNat+1000)*ei.bytes<=2^48/\n.toNat<=2^62/\0<ei.size then
     some (.rs (List.replicate n.toNat ei.zeroCells))else none
   | _=>none
  | none=>none
 | _=>none
def j5(T:Tab)(Φ:H8)(θ:Nat->AV):RO->Option AV
 | .bin o t x y=>im0 T o t (x.sub θ) (y.sub θ)
 | .un o x=>aUn o (x.sub θ)
 | .conv s d x=>jz0 T s d (x.sub θ)
 | .pick c a b=>match c.sub θ with
  | .sc (.bool t)=>some (if t then a.sub θ else b.sub θ)
  | _=>none
 | .idx t x i=>D4 T t (x.sub θ) (i.sub θ)
 | .index t x i=>cb0 T t (x.sub θ) (i.sub θ)
 | .slc t x lo hi=>bt0 T t (x.sub θ) (lo.map (AV.sub θ)) (hi.map (AV.sub θ)) none
 | .len t x=>fJ0 T c9.none t (x.sub θ)
 | .mx l=>(uA0 (l.map (AV.sub θ))).map .sc
 | .mn l=>(va0 (l.map (AV.sub θ))).map .sc
 | .cat sT xT x y=>sM0 T sT xT (x.sub θ) (y.sub θ)
 | .call f args flat=>match Φ f with
  | some φ=>match φ (args.map (AV.sub θ))with
   | some c=>if flat=true->pr0 c=true then some c else none
   | none=>none
  | none=>none
 | .rows l=>match l.all (fun j=>match θ j with | .rs _=>true | _=>false)with
  | true=>some (.sc (.bool true))
  | false=>none
 | .look t c ix ok=>H9 T (dc0 (c.sub θ)) t (.mm 0) (ix.sub θ) ok
 | .lookr t x ix ok=>H9 T c9.none t (x.sub θ) (ix.sub θ) ok
 | .mput t c ix v=>match C6 T (dc0 (c.sub θ)) t (.mm 0) (ix.sub θ) (v.sub θ)with
  | some _=>match (ix.sub θ).key with
   | some (b,l)=>some (.rs (N4 (ix.sub θ) (v.sub θ) b l (rowsOf (c.sub θ))))
   | none=>none
  | none=>none
 | .mlen t c=>fJ0 T (dc0 (c.sub θ)) t (.mm 0)
 | .nop=>some (.sc (.bool true))
 | .isp x=>match x.sub θ with
  | .rp _=>some (.sc (.bool true))
  | _=>none
 | .zer sT x=>xp0 T sT (x.sub θ)
 | .gl t g=>qn0 T t g
 | .iss x=>match x.sub θ with
  | .sc (.string _)=>some (.sc (.bool true))
  | _=>none
 | .more s p=>match s.sub θ with
  | .sc (.string b)=>match p.sub θ with
   | .sc (.int .i64 n)=>some (.sc (.bool (decide (n.toNat<b.size))))
   | _=>none
  | _=>none
 | .ownr cols x=>match x.sub θ with
  | .rs rows=>match xD0 cols rows with
   | true=>some (.rs (rows.map (K3 cols 0)))
   | false=>none
  | _=>none
 | .sdec s p=>match s.sub θ with
  | .sc (.string b)=>match p.sub θ with
   | .sc (.int .i64 n)=>match decide (n.toNat<b.size)with
    | true=>some (.tup [.sc (.int .i64 n.toNat),.sc (.int .i32 (Utf8.decode b n.toNat).1),.sc (.int .i64 (n.toNat+(Utf8.decode b n.toNat).2:Nat))])
    | false=>none
   | _=>none
  | _=>none
 | .xin c i off=>match (rowsOf (c.sub θ))[Y9 (i.sub θ)]? with
  | some r=>match Nat.blt off r.length with
   | true=>some (.sc (.bool true))
   | false=>none
  | none=>none
 | .opn n x=>match x.sub θ with
  | .rp cs=>match Nat.beq cs.length n with
   | true=>some (.rp cs)
   | false=>none
  | _=>none
 | .inb t c i=>match D4 T t (.ms 0 (match T t with | some { und:=.slice el,.. }=>(match T el with | some ei=>ei.size | none=>0) | _=>0) 0 (rowsOf (c.sub θ)).length) (i.sub θ)with
  | some _=>some (.sc (.bool true))
  | none=>none
 | .xld t e z c i off=>V1 T (dE0 e z (c.sub θ)) t (.mp 0 (Y9 (i.sub θ)) off)
 | .xst t e z c i off v=>match V4 T (dE0 e z (c.sub θ)) t (.mp 0 (Y9 (i.sub θ)) off) (v.sub θ)with
  | some σ=>match σ.objs 0 with
   | some (.row _ _ es)=>match Nat.beq es.length (rowsOf (c.sub θ)).length with
    | true=>some (.rs es)
    | false=>none
   | _=>none
  | none=>none
def Z3:Tr l7->List Nat
 | .leaf=>[]
 | .node v l r=>(match v with | some (.xrow _ _ j)=>[j] | some (.xmap (.sy j))=>[j] | _=>[])++(Z3 l++Z3 r)
inductive RT where
 | stuck
 | ret (c:AV) (l:List Nat)
 | op (o:RO) (fr:Nat) (pat:AV) (r:RT)
 | test (i:Nat) (a b:RT)
 | loop (l k:Nat) (inits:List AV) (body:RT)
 | again (l:Nat) (vals:List AV)
def E7(T:Tab)(Φ:H8)(Q:AV->Prop):RT->(Nat->AV)->(Nat->List AV->Prop)->Prop
 | .stuck,_,_=>False
 | .ret c l,θ,_=>(∀ j∈l,∃ es,θ j=.rs es)/\Q (c.sub θ)
 | .op o fr pat r,θ,A=>∃ θ',(∀ i,i<fr->θ' i=θ i)/\Fit θ'/\j5 T Φ θ o=some (pat.sub θ')/\E7 T Φ Q r θ' A
 | .test i a b,θ,A=>(θ i=.sc (.bool true)/\E7 T Φ Q a θ A)\/(θ i=.sc (.bool false)/\E7 T Φ Q b θ A)
 | .loop l k inits body,θ,A=>∃ I:Nat->List AV->Prop,(∃ n,I n (inits.map (AV.sub θ)))/\∀ n vals,I n vals->vals.length=k->(∀ v∈vals,aH0 v) ->
   ∀ θ',(∀ i,i<l->θ' i=θ i)->(∀ j (h:j<vals.length),θ' (l+j)=vals[j])->θ' (l+k)=.sc (.bool false)->Fit θ'->E7 T Φ Q body θ' (fun l'=>if l'=l then (fun vals'=>∃ m,m<n/\I m vals')else A l')
 | .again l vals,θ,A=>A l (vals.map (AV.sub θ))
def aS0(fr:Nat):Nat->List AV
 | 0=>[]
 | n+1=>.sy fr::aS0 (fr+1) n
def uH0(T:Tab)(t:TypeId)(fr:Nat):Option (AV×Nat) :=
 match T t with
 | some ti=>if ti.isAgg then some (.agg (aS0 fr ti.size),fr+ti.size)else some (.sy fr,fr+1)
 | none=>none
def patL(T:Tab):List TypeId->Nat->Option (List AV×Nat)
 | [],fr=>some ([],fr)
 | t::ts,fr=>match uH0 T t fr with
  | some (p,fr1)=>match patL T ts fr1 with
   | some (ps,fr2)=>some (p::ps,fr2)
   | none=>none
  | none=>none
def patOf(T:Tab)(ts:List TypeId)(fr:Nat):Option (AV×Nat) :=
 match ts with
 | [t]=>uH0 T t fr
 | ts=>match patL T ts fr with
  | some (ps,fr')=>some (.tup ps,fr')
  | none=>none
def wU0(σ:c9)(elem:TypeId)(size:Nat):AV->Option (Option Nat×AV)
 | .sc (.slice none 0 0)=>some (none,.rs [])
 | .ms id _ 0 len=>match σ.objs id with
  | some (.row e sz es)=>if len=es.length/\sz=size/\e=elem then some (some id,.rs es)else none
  | _=>none
 | .ss id _ i=>match σ.objs id with
  | some (.xrow e sz j)=>if j=i/\sz=size/\e=elem then some (some id,.sy j)else none
  | _=>none
 | _=>none
def ssrc(σ:c9):AV->Option AV
 | .sc (.slice none 0 0)=>some (.rs [])
 | .sy i=>some (.sy i)
 | .rs es=>some (.rs es)
 | .ms id _ off len=>match σ.objs id with
  | some (.row _ _ es)=>if off+len<=es.length then some (.rs ((es.drop off).take len))else none
  | _=>none
 | .ss id _ i=>match σ.objs id with
  | some (.xrow _ _ j)=>if j=i then some (.sy j)else none
  | _=>none
 | _=>none
def isSyRs:AV->Bool
 | .sy _=>true
 | .rs _=>true
 | _=>false
def sApp(T:Tab)(σ:c9)(id:Nat)(sT xT:TypeId)(a c:AV)(fr:Nat):Option (RO×AV×AV×c9×Nat) :=
 match T sT with
 | some { und:=.slice elem,.. }=>match T elem with
  | some ei=>match wU0 σ elem ei.size a,ssrc σ c with
   | some (old,x),some y=>some (.cat sT xT x y,.sy fr,.ss id ei.size fr,(match old with | some i=>σ.del i | none=>σ).set id (.xrow elem ei.size fr),fr+1)
   | _,_=>none
  | none=>none
 | _=>none
def sZer(T:Tab)(σ:c9)(id:Nat)(sT:TypeId)(a c:AV)(fr:Nat):Option (RO×AV×AV×c9×Nat) :=
 match T sT with
 | some { und:=.slice elem,.. }=>match T elem with
  | some ei=>match a with
   | .sc (.slice none 0 0)=>some (.zer sT c,.sy fr,.ss id ei.size fr,σ.set id (.xrow elem ei.size fr),fr+1)
   | _=>none
  | none=>none
 | _=>none
def src0(σ:c9)(i:Nat)(c:AV):Option AV:=match isSyRs c with
 | true=>some c
 | false=>match c with
  | .ms i2 z o l=>match Nat.beq i2 i with
   | true=>none
   | false=>ssrc σ (.ms i2 z o l)
  | _=>none
def xm0(T:Tab)(σ:c9)(id:Nat)(sT xT:TypeId)(a c:AV)(fr:Nat):Option (RO×AV×AV×c9×Nat) :=
 match T sT with
 | some { und:=.slice elem,.. }=>match T elem with
  | some ei=>match a with
   | .ms i _ 0 0=>match σ.objs i with
    | some (.xrow e sz _)=>match Nat.beq sz ei.size&&Nat.beq e elem,src0 σ i c with
     | true,some y=>some (.cat sT xT (.rs []) y,.sy fr,.ss id ei.size fr,(σ.del i).set id (.xrow elem ei.size fr),fr+1)
     | _,_=>none
    | _=>none
   | _=>none
  | none=>none
 | _=>none
def rH0(T:Tab)(σ:c9)(id:Nat)(b:Builtin)(ts:List TypeId)(args:List AV)(fr:Nat):Option (RO×AV×AV×c9×Nat) :=
 match b,ts,args with
 | .len,[t],[.sy i]=>some (.len t (.sy i),.sy fr,.sy fr,σ,fr+1)
 | .len,[t],[.ss _ _ i]=>match T t with
  | some { und:=.slice _,.. }=>some (.len t (.sy i),.sy fr,.sy fr,σ,fr+1)
  | _=>none
 | .max,_,l=>some (.mx l,.sy fr,.sy fr,σ,fr+1)
 | .min,_,l=>some (.mn l,.sy fr,.sy fr,σ,fr+1)
 | .append,[s,x],[a,c]=>match T x with
  | some { und:=.int _,.. }=>sZer T σ id s a c fr
  | _=>match xm0 T σ id s x a c fr with
   | some q=>some q
   | none=>sApp T σ id s x a c fr
 | .len,[t],[.mm m]=>match (σ.objs m).bind gG0 with
  | some c=>some (.mlen t c,.sy fr,.sy fr,σ,fr+1)
  | none=>none
 | _,_,_=>none
def gi0(σ:c9)(t:TypeId)(m k x:AV)(fr:Nat):Option (RO×AV×AV×c9×Nat) :=
 match m with
 | .mm id=>match (σ.objs id).bind gG0 with
  | some c=>some (.mput t c k x,.sy fr,.sc undef,σ.set id (.xmap (.sy fr)),fr+1)
  | none=>none
 | _=>none
def qC0:AV->Option (Nat×AV×Nat)
 | .xp id k off=>some (id,.sy k,off)
 | .mp id i off=>some (id,.sc (.int .i64 i),off)
 | _=>none
def isGlob(ρ:Operand->AV):Op->Bool
 | .load _ x=>(ch0 (ρ x)).isSome
 | _=>false
def aopX(T:Tab)(ρ:Operand->AV)(σ:c9)(id:Nat)(op:Op):Option (AV×c9):=match isGlob ρ op with
 | true=>none
 | false=>aop T ρ σ id op
theorem sy0{T:Tab}{ρ:Operand->AV}{σ:c9}{id:Nat}{op:Op}{r:AV×c9}(h:aopX T ρ σ id op=some r):aop T ρ σ id op=some r:=by
 unfold aopX at h
 split at h
 ·cases h
 ·exact h
def te0(T:Tab)(ρ:Operand->AV)(σ:c9)(id:Nat)(op:Op)(fr:Nat):Option (RO×AV×AV×c9×Nat) :=
 match op with
 | .binOp o t x y _=>some (.bin o t (ρ x) (ρ y),.sy fr,.sy fr,σ,fr+1)
 | .unOp o _ x=>some (.un o (ρ x),.sy fr,.sy fr,σ,fr+1)
 | .convert s d x=>some (.conv s d (ρ x),.sy fr,.sy fr,σ,fr+1)
 | .pick c a b=>some (.pick (ρ c) (ρ a) (ρ b),.sy fr,.sy fr,σ,fr+1)
 | .nilCheck x=>match ρ x with
  | .xp id k off=>some (.nop,.sc (.bool true),.xp id k off,σ,fr)
  | .sy i=>some (.isp (.sy i),.sc (.bool true),.sy i,σ,fr)
  | _=>none
 | .fieldAddr t x f=>match ρ x,T t with
  | .xp id k off,some { und:=.struct fields,.. }=>match fields[f]? with
   | some fd=>match T fd.type with
    | some fi=>match Nat.beq fi.size 0 with
     | true=>none
     | false=>some (.nop,.sc (.bool true),.xp id k (off+fd.offset),σ,fr)
    | none=>none
   | none=>none
  | .sy i,some ti=>match M7 T t (.rp (aS0 fr ti.size)) f with
   | some v=>some (.opn ti.size (.sy i),.rp (aS0 fr ti.size),v,σ,fr+ti.size)
   | none=>none
  | _,_=>none
 | .load t x=>match ch0 (ρ x)with
  | some g=>(match uH0 T t fr with
   | some (p,fr')=>some (.gl t g,p,p,σ,fr')
   | none=>none)
  | none=>match qC0 (ρ x)with
  | some (id,i,off)=>match σ.objs id,uH0 T t fr with
   | some (.xrow e z j),some (p,fr')=>some (.xld t e z (.sy j) i off,p,p,σ,fr')
   | some (.frow e z c cols k foff v),some (p,fr')=>match T t with
    | some ti=>match ti.isAgg with
     | true=>none
     | false=>match Nat.beq off foff with
      | true=>match v,rmB i k with
       | some v0,true=>some (.xin c i off,.sc (.bool true),v0,σ,fr)
       | _,_=>none
      | false=>match cols.all (fun q=>!Nat.beq q.1 off)with
       | true=>some (.xld t e z c i off,p,p,σ,fr')
       | false=>none
    | none=>none
   | _,_=>none
  | none=>match ρ x,T t with
   | .sy i,some ti=>match V1 T c9.none t (.rp (aS0 fr ti.size))with
    | some v=>some (.opn ti.size (.sy i),.rp (aS0 fr ti.size),v,σ,fr+ti.size)
    | none=>none
   | _,_=>none
 | .store t a x=>match qC0 (ρ a),T t,ρ x with
  | some (id,i,off),some ti,.ss m z' j=>match σ.objs id with
   | some (.frow e z c cols k foff (some _))=>match Nat.beq ti.size 1&&Nat.beq off foff&&rmB i k with
    | true=>some (.xin c i off,.sc (.bool true),.sc undef,σ.set id (.frow e z c cols k foff (some (.ss m z' j))),fr)
    | false=>none
   | _=>none
  | _,_,_=>none
 | .indexAddr t x i=>match T t with
  | some { und:=.slice elem,.. }=>match T elem with
   | some ei=>match ρ x with
    | .ss id z j=>match Nat.beq z ei.size with
     | true=>match ρ i with
      | .sy k=>some (.inb t (.sy j) (.sy k),.sc (.bool true),.xp id k 0,σ,fr)
      | .sc (.int kd n)=>some (.inb t (.sy j) (.sc (.int kd n)),.sc (.bool true),.mp id n.toNat 0,σ,fr)
      | _=>none
     | false=>none
    | _=>some (.idx t (ρ x) (ρ i),.rp (aS0 fr ei.size),.rp (aS0 fr ei.size),σ,fr+ei.size)
   | none=>none
  | _=>none
 | .index t x i=>match T t with
  | some { und:=.array _ e,.. }=>match uH0 T e fr with
   | some (p,fr')=>some (.index t (ρ x) (ρ i),p,p,σ,fr')
   | none=>none
  | _=>some (.index t (ρ x) (ρ i),.sy fr,.sy fr,σ,fr+1)
 | .slice t x lo hi none=>match T t,ρ x,lo.map ρ,hi.map ρ with
  | some { und:=.slice elem,.. },.ss id z _,none,some (.sc (.int _ 0))=>match T elem with
   | some ei=>match Nat.beq z ei.size with
    | true=>some (.nop,.sc (.bool true),.ms id z 0 0,σ,fr)
    | false=>none
   | none=>none
  | _,_,_,_=>some (.slc t (ρ x) (lo.map ρ) (hi.map ρ),.sy fr,.sy fr,σ,fr+1)
 | .call { callee:=.builtin b,args,argTypes }=>rH0 T σ id b argTypes.toList (args.toList.map ρ) fr
 | .lookup t x i ok=>match T t,ρ x with
  | some { und:=.map _ et,.. },.mm m=>match (σ.objs m).bind gG0 with
   | some c=>match uH0 T et fr with
    | some (p,fr')=>match ok with
     | true=>some (.look t c (ρ i) true,.tup [p,.sy fr'],.tup [p,.sy fr'],σ,fr'+1)
     | false=>some (.look t c (ρ i) false,p,p,σ,fr')
    | none=>none
   | none=>none
  | some { und:=.map _ et,.. },.sy m=>match uH0 T et fr with
   | some (p,fr')=>match ok with
    | true=>some (.lookr t (.sy m) (ρ i) true,.tup [p,.sy fr'],.tup [p,.sy fr'],σ,fr'+1)
    | false=>some (.lookr t (.sy m) (ρ i) false,p,p,σ,fr')
   | none=>none
  | some { und:=.map _ et,.. },.rm c=>match uH0 T et fr with
   | some (p,fr')=>match ok with
    | true=>some (.lookr t (.rm c) (ρ i) true,.tup [p,.sy fr'],.tup [p,.sy fr'],σ,fr'+1)
    | false=>some (.lookr t (.rm c) (ρ i) false,p,p,σ,fr')
   | none=>none
  | _,_=>none
 | .mapUpdate t m k x=>gi0 σ t (ρ m) (ρ k) (ρ x) fr
 | .insert t m k x=>gi0 σ t (ρ m) (ρ k) (ρ x) fr
 | _=>none
mutual
def AV.contP:AV->Bool
 | .sc _=>true
 | .sy _=>true
 | .rs es=>rv0 es
 | .rp cs=>dd0 cs
 | .rm c=>c.contP
 | .fn _ a c=>dd0 a&&dd0 c
 | .agg cs=>dd0 cs
 | .tup cs=>dd0 cs
 | _=>false
def dd0:List AV->Bool
 | []=>true
 | c::cs=>c.contP&&dd0 cs
def rv0:List (List AV)->Bool
 | []=>true
 | c::cs=>dd0 c&&rv0 cs
end
def aI0(σ:c9):Nat->AV->Option AV
 | 0,_=>none
 | k+1,v=>match v.contP with
  | true=>some v
  | false=>match v with
   | .agg cs=>match jY0 (aI0 σ k) cs with
    | some l=>some (.agg l)
    | none=>none
   | .tup cs=>match jY0 (aI0 σ k) cs with
    | some l=>some (.tup l)
    | none=>none
   | .ms id _ off len=>match σ.objs id with
    | some (.row _ _ es)=>if off+len<=es.length then
      match tc0 (aI0 σ k) ((es.drop off).take len)with
      | some l=>some (.rs l)
      | none=>none
     else none
    | _=>none
   | .ss id _ i=>match σ.objs id with
    | some (.xrow _ _ j)=>if j=i then some (.sy j)else none
    | _=>none
   | .mp id 0 0=>match σ.objs id with
    | some (.row _ _ [cs])=>match jY0 (aI0 σ k) cs with
     | some l=>some (.rp l)
     | none=>none
    | _=>none
   | .mm id=>match σ.objs id with
    | some (.xmap (.sy j))=>some (.rm (.sy j))
    | some (.map false [] 0)=>some (.rm (.rs []))
    | _=>none
   | .fn f a c=>match jY0 (aI0 σ k) a,jY0 (aI0 σ k) c with
    | some a',some c'=>some (.fn f a' c')
    | _,_=>none
   | _=>none
def mk0(σ:c9)(args:List AV):Option (List AV×Bool) :=
 match dd0 args with
 | true=>some (args,false)
 | false=>match jY0 (aI0 σ 50) args with
  | some l=>some (l,true)
  | none=>none
def I8(σ:c9)(id:Nat)(o:l7):c9:=({ σ with tr:=.leaf }:c9).set id o
mutual
def AV.frz(σ1:c9):AV->AV
 | .agg cs=>.agg (jm0 σ1 cs)
 | .tup cs=>.tup (jm0 σ1 cs)
 | .fn f a c=>.fn f (jm0 σ1 a) (jm0 σ1 c)
 | .ss a z i=>(aI0 σ1 3 (.ss a z i)).getD (.ss a z i)
 | .mp a i j=>(aI0 σ1 3 (.mp a i j)).getD (.mp a i j)
 | v=>v
def jm0(σ1:c9):List AV->List AV
 | []=>[]
 | c::cs=>c.frz σ1::jm0 σ1 cs
end
def l7.frz(σ1:c9):l7->l7
 | .row e z es=>.row e z (es.map (jm0 σ1))
 | o=>o
def AS.frz(σ1:c9)(id:Nat)(s:AS):AS:={ n:=s.n,tr:=s.tr.map (AV.frz σ1),st:={ next:=s.st.next,tr:=(s.st.del id).tr.map (l7.frz σ1),low:=(s.st.del id).low } }
def mx0(s:AS):AV->Option Nat
 | .ss a z i=>match s.st.objs a with
  | some o=>match aI0 (I8 s.st a o) 3 (.ss a z i)with
   | some _=>some a
   | none=>none
  | none=>none
 | .mp a 0 0=>match s.st.objs a with
  | some o=>match aI0 (I8 s.st a o) 3 (.mp a 0 0)with
   | some _=>some a
   | none=>none
  | none=>none
 | _=>none
def nb0(s:AS):List AV->Option Nat
 | []=>none
 | v::l=>match mx0 s v with
  | some a=>some a
  | none=>nb0 s l
def frzOf(s:AS)(op:Op):Option (Nat×l7):=match (match op with
  | .call { callee:=.builtin .append,args:=⟨[_,c]⟩,argTypes:=_ }=>match s.eval c with
   | .ms id _ _ _=>match s.st.objs id with
    | some (.row _ _ es)=>nb0 s es.flatten
    | _=>none
   | _=>none
  | .mapUpdate _ _ _ x=>mx0 s (s.eval x)
  | .insert _ _ _ x=>mx0 s (s.eval x)
  | .slice _ x lo hi none=>match lo,hi.map s.eval with
   | none,some (.sc (.int _ 0))=>none
   | _,_=>match s.eval x with
    | .ss a z i=>mx0 s (.ss a z i)
    | _=>none
  | _=>none)with
 | some a=>match s.st.objs a with
  | some o=>some (a,o)
  | none=>none
 | none=>none
structure Hint where
 k:Nat
 slots:List AV
 objs:List (Nat×l7)
 next:Nat
def Hint.state(h:Hint):AS:=AS.enter h.slots.length h.slots { next:=h.next,tr:=Tr.ofList h.objs .leaf,low:=0 }
def ag0(l:Nat)(vals:List AV)(i:Nat):AV:=match Nat.ble l i with
 | true=>(vals[i-l]?).getD (.sy i)
 | false=>.sy i
def pp0:List (Nat×Option Nat)->Nat->Option (Option Nat)
 | [],_=>none
 | (a,b)::l,i=>match Nat.beq a i with
  | true=>some b
  | false=>pp0 l i
def iG0(n:Nat)(l:List (Nat×Option Nat)):fM0:=fun i=>match Nat.blt i n with
 | true=>some (some i)
 | false=>pp0 l i
structure Acc where
 vals:List (Nat×AV)
 io:List (Nat×Option Nat)
def Acc.addV(a:Acc)(j:Nat)(v:AV):Acc:=match a.vals.any (fun p=>Nat.beq p.1 j)with
 | true=>a
 | false=>{ a with vals:=(j,v)::a.vals }
def Acc.addI(a:Acc)(i:Nat)(k:Option Nat):Acc:=match a.io.any (fun p=>Nat.beq p.1 i)with
 | true=>a
 | false=>{ a with io:=(i,k)::a.io }
mutual
def um(σ:c9)(l:Nat)(acc:Acc):AV->AV->Acc
 | .sy j,b=>match Nat.ble l j with
  | true=>acc.addV j b
  | false=>acc
 | .ss id _ j,.ss id' _ j'=>(acc.addI id (some id')).addV j (.sy j')
 | .ss id _ j,.ms id' _ _ _=>match σ.objs id' with
  | some (.row _ _ es)=>(acc.addI id (some id')).addV j (.rs es)
  | _=>acc
 | .ss id _ j,.sc _=>(acc.addI id none).addV j (.rs [])
 | .mp id _ _,.mp id' _ _=>acc.addI id (some id')
 | .ms id _ _ _,.ms id' _ _ _=>acc.addI id (some id')
 | .mm id,.mm id'=>acc.addI id (some id')
 | .xp id k _,.xp id' k' _=>(acc.addI id (some id')).addV k (.sy k')
 | .it id,.it id'=>acc.addI id (some id')
 | .agg a,.agg b=>umL σ l acc a b
 | .tup a,.tup b=>umL σ l acc a b
 | .rp a,.rp b=>umL σ l acc a b
 | .rm a,.rm b=>um σ l acc a b
 | .fn _ a c,.fn _ a' c'=>umL σ l (umL σ l acc a a') c c'
 | _,_=>acc
def umL(σ:c9)(l:Nat)(acc:Acc):List AV->List AV->Acc
 | a::as,b::bs=>umL σ l (um σ l acc a b) as bs
 | _,_=>acc
end
def umR(σ:c9)(l:Nat)(acc:Acc):List (List AV)->List (List AV)->Acc
 | a::as,b::bs=>umR σ l (umL σ l acc a b) as bs
 | _,_=>acc
def umO(σ:c9)(l:Nat)(acc:Acc):l7->l7->Acc
 | .row _ _ es,.row _ _ es'=>umR σ l acc es es'
 | .xrow _ _ j,.xrow _ _ j'=>acc.addV j (.sy j')
 | .xrow _ _ j,.row _ _ es=>acc.addV j (.rs es)
 | .map _ es _,.map _ es' _=>umL σ l acc (es.map (·.2.1)) (es'.map (·.2.1))
 | .xmap (.sy j),.xmap c=>acc.addV j c
 | .xiter s p,.xiter s' p'=>um σ l (um σ l acc s s') p p'
 | .xmap (.sy j),.map _ [] _=>acc.addV j (.rs [])
 | _,_=>acc
def pO0(s:AS)(l:Nat):List AV->Nat->Acc->Acc
 | [],_,acc=>acc
 | a::as,t,acc=>pO0 s l as (t+1) (um s.st l acc a (s.get t))
def lf0(s:AS)(n l:Nat):List (Nat×l7)->Acc->Acc
 | [],acc=>acc
 | (i,o)::os,acc=>match iG0 n acc.io i with
  | some (some k)=>match s.st.objs k with
   | some o'=>lf0 s n l os (umO s.st l acc o o')
   | none=>lf0 s n l os acc
  | _=>lf0 s n l os acc
def guess(s:AS)(n l:Nat)(h:Hint):Acc:=lf0 s n l h.objs (lf0 s n l h.objs (pO0 s l h.slots 0 ⟨[],[]⟩))
def cp0(a:Acc)(l:Nat):Nat->List AV
 | 0=>[]
 | k+1=>((a.vals.find? (fun p=>Nat.beq p.1 l)).map (·.2)).getD (.sc (.bool false))::cp0 a (l+1) k
def fitB:AV->Bool
 | .sc (.int _ _)=>true
 | .sc (.bool _)=>true
 | .sc (.string _)=>true
 | .sy _=>true
 | .rs es=>rv0 es
 | .rp cs=>dd0 cs
 | .rm c=>c.contP
 | _=>false
def oF0:List (Nat×TypeId×Nat)->List (Nat×TypeId×Nat)->Bool
 | [],[]=>true
 | a::as,b::bs=>Nat.beq a.1 b.1&&Nat.beq a.2.1 b.2.1&&Nat.beq a.2.2 b.2.2&&oF0 as bs
 | _,_=>false
def eqX:AV->AV->Bool
 | .sy i,.sy j=>Nat.beq i j
 | .sc (.int .i64 a),.sc (.int .i64 b)=>decide (a=b)
 | _,_=>false
def bx0(lo:Bool)(ι:fM0):l7->l7->Bool
 | .row e z es,.row e' z' es'=>Nat.beq e e'&&Nat.beq z z'&&vM0 ι es es'
 | .xrow e z i,.xrow e' z' i'=>Nat.beq e e'&&Nat.beq z z'&&Nat.beq i i'
 | .map agg es c,.map agg' es' c'=>(agg==agg')&&Nat.beq c c'&&Nat.beq es.length es'.length&&(es.zip es').all fun p=>decide (p.1.1=p.2.1)&&cc0 ι p.1.2.1 p.2.2.1&&Nat.beq p.1.2.2 p.2.2.2
 | .xmap c,.xmap c'=>match c,c' with
  | .sy i,.sy j=>Nat.beq i j
  | .rs [],.rs []=>true
  | _,_=>false
 | .xmap (.rs []),.map false [] c=>Nat.beq c 0
 | .xiter s p,.xiter s' p'=>eqX s s'&&eqX p p'
 | .frow e z c cols _ _ none,.frow e' z' c' cols' _ _ none=>lo&&Nat.beq e e'&&Nat.beq z z'&&rmB c c'&&oF0 cols cols'
 | _,_=>false
def of0:l7->Bool
 | .row _ _ []=>true
 | _=>false
def uD0(lo:Bool)(ι:fM0)(s:AS)(i:Nat)(o:l7):Bool:=match ι i with
 | some (some k)=>match s.st.objs k with
  | some o'=>bx0 lo ι o o'
  | none=>false
 | some none=>of0 o
 | none=>false
def fU0(ι:fM0)(η:Nat->AV)(s:AS):List AV->Nat->Bool
 | [],_=>true
 | a::as,t=>cc0 ι (a.ssub η) (s.get t)&&fU0 ι η s as (t+1)
def injB(ι:fM0):List (Nat×l7)->Bool
 | []=>true
 | (i,_)::os=>os.all (fun p=>Nat.beq p.1 i||(match ι i with | some (some k)=>!X2 ι p.1 k | _=>true))&&injB ι os
def cO0(n l:Nat)(h:Hint)(s:AS):Option (List AV) :=
 let acc:=guess s n l h
 let vals:=cp0 acc l h.k
 let η:=ag0 l vals
 let io:=acc.io.filter (fun p=>Nat.ble n p.1)
 let ι:=iG0 n io
 match vals.all fitB&&Nat.beq h.slots.length s.n&&Nat.ble n h.next&&io.all (fun p=>Nat.ble n p.1&&Nat.blt p.1 h.next)&&fU0 ι η s h.slots 0&&h.objs.all (fun p=>uD0 (Nat.ble P4 n) ι s p.1 (p.2.ssub η))&&injB ι h.objs with
 | true=>some vals
 | false=>none
mutual
def AV.refr(id j fr:Nat):AV->AV
 | .ss a z i=>match Nat.beq a id&&Nat.beq i j with
  | true=>.ss a z fr
  | false=>.ss a z i
 | .rs es=>.rs (qE0 id j fr es)
 | .rp cs=>.rp (ka0 id j fr cs)
 | .fn f a c=>.fn f (ka0 id j fr a) (ka0 id j fr c)
 | .agg cs=>.agg (ka0 id j fr cs)
 | .tup cs=>.tup (ka0 id j fr cs)
 | v=>v
def ka0(id j fr:Nat):List AV->List AV
 | []=>[]
 | c::cs=>c.refr id j fr::ka0 id j fr cs
def qE0(id j fr:Nat):List (List AV)->List (List AV)
 | []=>[]
 | c::cs=>ka0 id j fr c::qE0 id j fr cs
end
def l7.refr(id j fr:Nat):l7->l7
 | .row e z es=>.row e z (qE0 id j fr es)
 | .map agg es c=>.map agg (es.map fun e=>(e.1,e.2.1.refr id j fr,e.2.2)) c
 | o=>o
def AS.refr(id j fr:Nat)(s:AS):AS:={ n:=s.n,tr:=s.tr.map (AV.refr id j fr),st:={ next:=s.st.next,tr:=s.st.tr.map (l7.refr id j fr),low:=s.st.low } }
def rj0(s:AS)(op:Op)(fr:Nat):Option (RO×AS) :=
 match op with
 | .store t a x=>match qC0 (s.eval a)with
  | some (id,i,off)=>match s.st.objs id with
   | some (.xrow e z j)=>some (.xst t e z (.sy j) i off (s.eval x),{ s.refr id j fr with st:=(s.refr id j fr).st.set id (.xrow e z fr) })
   | _=>none
  | none=>none
 | _=>none
def sSort(Φ:H8)(s:AS)(f:FuncId)(args:List AV)(fr:Nat):Option (List Nat×RO×AS) :=
 match Φ.srt f with
 | none=>none
 | some _=>match args with
  | .ss id z j::rest=>match s.st.objs id with
   | some (.xrow e z' j')=>match Nat.beq z z'&&Nat.beq j j',jY0 (aI0 (s.st.del id) 50) rest with
    | true,some crest=>some (Z3 (s.st.del id).tr,.call (XT+f) (.sy j::.sc (.int .i64 (z:Nat))::crest) false,{ s.refr id j fr with st:=(s.refr id j fr).st.set id (.xrow e z fr) })
    | _,_=>none
   | _=>none
  | _=>none
def ge0(ops:Array Oper)(s:AS)(o:Oper):Option (Nat×Bool) :=
 match o.guard with
 | none=>none
 | some (j,want)=>match (ops[j]?).bind (·.dst)with
  | some d=>match Nat.blt d s.n with
   | true=>match s.get d with
    | .sy i=>some (i,want)
    | _=>none
   | false=>none
  | none=>none
abbrev KS:=AS->Nat->RT
abbrev KE:=EX->AS->Nat->RT
abbrev Exe:=Nat->Code->AS->Nat->KE->RT
section
variable (T:Tab) (Φ:H8) (F:FuncId->Option Func)
def sRow(s:AS)(f:FuncId)(args:List AV)(fr:Nat):Option (RO×AV×AS) :=
 match Φ (XR+f)with
 | none=>none
 | some _=>match args with
  | [.sy j]=>match F f with
   | some fn=>match fn.resultTypes.toList with
    | [t]=>match T t with
     | some { und:=.slice elem,.. }=>match T elem with
      | some ei=>some (.call (XR+f) [.sy j] false,.ss (s.st.next+5) ei.size fr,{ s with st:={ s.st with next:=s.st.next+7 }.set (s.st.next+5) (.xrow elem ei.size fr) })
      | none=>none
     | _=>none
    | _=>none
   | none=>none
  | _=>none
def sCall(ex:Exe)(f:FuncId)(args:List AV)(dst:Option Tmp)(s:AS)(fr:Nat)(kk:KS):RT :=
 match F f with
 | none=>.stuck
 | some fn=>match Φ.at f args with
  | some _=>match patOf T fn.resultTypes.toList fr with
   | some (pat,fr')=>match s.bnd fr&&Nat.ble fr fr' with
    | true=>match mk0 s.st args with
     | some (cargs,true)=>.op (.rows (Z3 s.st.tr)) fr (.sc (.bool true)) (.op (.call f cargs true) fr pat (kk (s.put dst pat) fr'))
     | some (cargs,false)=>.op (.call f cargs false) fr pat (kk (s.put dst pat) fr')
     | none=>.stuck
    | false=>.stuck
   | none=>.stuck
  | none=>match fn.body with
   | some c=>match Nat.ble args.length fn.ntmps&&!(fn.name== "runtime.NumGoroutine")&&s.bnd fr with
    | true=>ex s.st.next c (AS.enter fn.ntmps args s.st) fr fun e s1 fr1=>match e with
     | .exi _=>.stuck
     | _=>match D0 T fn s1 with
      | some v=>kk ({ s with st:=s1.st }.put dst v) fr1
      | none=>.stuck
    | false=>.stuck
   | none=>.stuck
def sOne(ex:Exe)(id:Nat)(o:Oper)(s:AS)(fr:Nat)(kk:KS):RT :=
 match o.op with
 | .call { callee:=.value fo,args:=args,argTypes:=_ } =>
  match s.eval fo with
  | .fn (.func f) first cap=>match sSort Φ s f (first++args.toList.map s.eval++cap) fr with
   | some (xv,ro,s')=>match s.bnd fr with
    | true=>.op (.rows xv) fr (.sc (.bool true)) (.op ro fr (.sy fr) (kk (s'.put o.dst (.tup [])) (fr+1)))
    | false=>.stuck
   | none=>match sRow T Φ F s f (first++args.toList.map s.eval++cap) fr with
    | some (ro,v,s')=>match s.bnd fr with
     | true=>.op ro fr (.sy fr) (kk (s'.put o.dst v) (fr+1))
     | false=>.stuck
    | none=>sCall T Φ F ex f (first++args.toList.map s.eval++cap) o.dst s fr kk
  | _=>.stuck
 | op=>match aopX T s.eval s.st id op with
  | some (v,σ')=>kk ({ s with st:=σ' }.put o.dst v) fr
  | none=>match te0 T s.eval s.st id op fr with
   | some (ro,pat,v,σ',fr')=>match s.bnd fr&&Nat.ble fr fr' with
    | true=>.op ro fr pat (kk ({ s with st:=σ' }.put o.dst v) fr')
    | false=>.stuck
   | none=>match rj0 s op fr with
    | some (ro,s')=>match s.bnd fr with
     | true=>.op ro fr (.sy fr) (kk (s'.put o.dst (.sc undef)) (fr+1))
     | false=>.stuck
    | none=>.stuck
def sFz(ex:Exe)(ops:Array Oper)(id:Nat)(o:Oper)(fr:Nat)(kk:KS):Nat->AS->RT
 | 0,s=>sOne T Φ F ex id o s fr kk
 | m+1,s=>match frzOf s o.op with
  | some (a,x)=>match s.bnd fr with
   | true=>match E3 ops (s.frz (I8 s.st a x) a) o with
    | some true=>.op (.rows (Z3 (I8 s.st a x).tr)) fr (.sc (.bool true)) (sFz ex ops id o fr kk m (s.frz (I8 s.st a x) a))
    | _=>.stuck
   | false=>.stuck
  | none=>sOne T Φ F ex id o s fr kk
def sIt(ex:Exe)(ops:Array Oper)(id:Nat)(o:Oper)(fr:Nat)(kk:KS)(s:AS):RT :=
 match o.op with
 | .range t x=>match T t with
  | some { und:=.string,.. }=>match s.eval x with
   | .sy i=>match s.bnd fr with
    | true=>.op (.iss (.sy i)) fr (.sc (.bool true)) (kk ({ s with st:=s.st.set id (.xiter (.sy i) (.sc (.int .i64 0))) }.put o.dst (.it id)) fr)
    | false=>.stuck
   | _=>.stuck
  | _=>sFz T Φ F ex ops id o fr kk 3 s
 | .next it true=>match s.eval it with
  | .it a=>match s.st.objs a with
   | some (.xiter st p)=>match s.bnd fr with
    | true=>.op (.more st p) fr (.sy fr) (.test fr
      (.op (.sdec st p) (fr+1) (.tup [.sy (fr+1),.sy (fr+2),.sy (fr+3)]) (kk ({ s with st:=s.st.set a (.xiter st (.sy (fr+3))) }.put o.dst (.tup [.sc (.bool true),.sy (fr+1),.sy (fr+2)])) (fr+4)))
      (kk (s.put o.dst (.tup [.sc (.bool false)])) (fr+1)))
    | false=>.stuck
   | _=>.stuck
  | _=>.stuck
 | _=>sFz T Φ F ex ops id o fr kk 3 s
def qL0(ex:Exe)(ops:Array Oper)(n0:Nat):List Oper->Nat->AS->Nat->KS->RT
 | [],_,s,fr,k=>k s fr
 | o::rest,i,s,fr,k =>
  match S8 s.n o.dst with
  | false=>.stuck
  | true=>match E3 ops s o with
   | some true=>sIt T Φ F ex ops (n0+i) o fr (fun s' fr'=>qL0 ex ops n0 rest (i+1) s' fr' k) s
   | some false=>qL0 ex ops n0 rest (i+1) (s.put o.dst (.sc undef)) fr k
   | none=>match ge0 ops s o with
    | some (j,want) =>
     let go:=fun b:Bool=>match b==want with
      | true=>sIt T Φ F ex ops (n0+i) o fr (fun s' fr'=>qL0 ex ops n0 rest (i+1) s' fr' k) (s.ssub (ap0 j b))
      | false=>qL0 ex ops n0 rest (i+1) ((s.ssub (ap0 j b)).put o.dst (.sc undef)) fr k
     .test j (go true) (go false)
    | none=>.stuck
abbrev KD:=AS->Nat->Inf->RT
def hS0(σ:c9)(ids:List Nat):c9:={ aV0 (saved σ ids) { V3 (saved σ ids) σ with low:=σ.next } with low:=min σ.low σ.next }
def ul0(bar:Bool)(ids:List Nat)(f:FuncId)(args:List AV)(dst:Option Tmp)(s:AS)(fr:Nat)(kk:KD):RT :=
 match F f,Φ.fn f with
 | some fn,some _=>match patOf T fn.resultTypes.toList fr with
  | some (pat,fr')=>match s.bnd fr&&Nat.ble fr fr'&&dd0 args with
   | true=>.op (.call f args false) fr pat (match bar with
    | true=>kk (s.put dst pat) fr' ⟨[],[],false,0,true⟩
    | false=>kk ({ s with st:=hS0 s.st ids }.put dst pat) fr' ⟨[],[],true,s.st.next,false⟩)
   | false=>.stuck
  | none=>.stuck
 | _,_=>.stuck
def si0(n0 N mask i:Nat)(bar:Bool)(o:Oper)(s:AS)(fr:Nat)(kk:KD):RT :=
 match o.op with
 | .call { callee:=.value fo,args:=args,argTypes:=_ } =>
  match s.eval fo with
  | .fn (.func f) first cap=>ul0 T Φ F bar (bf0 n0 N mask) f (first++args.toList.map s.eval++cap) o.dst s fr kk
  | _=>.stuck
 | op=>match aopX T s.eval (small s.st (cf0 s.eval op)) (n0+i) op with
  | some (v,σ1)=>kk ({ s with st:=(match σ1.objs (n0+i)with
     | some x=>(if isE op then Y3 σ1 (cf0 s.eval op) s.st else s.st).set (n0+i) x
     | none=>(if isE op then Y3 σ1 (cf0 s.eval op) s.st else s.st)) }.put o.dst v) fr ⟨cf0 s.eval op,if isE op then cf0 s.eval op else [],false,0,false⟩
  | none=>match te0 T s.eval (small s.st (cf0 s.eval op)) (n0+i) op fr with
   | some (ro,pat,v,σ1,fr')=>match s.bnd fr&&({ s with st:=small s.st (cf0 s.eval op) }:AS).bnd fr&&Nat.ble fr fr' with
    | true=>.op ro fr pat (kk ({ s with st:=(match σ1.objs (n0+i)with
      | some x=>(if isE op then Y3 σ1 (cf0 s.eval op) s.st else s.st).set (n0+i) x
      | none=>(if isE op then Y3 σ1 (cf0 s.eval op) s.st else s.st)) }.put o.dst v) fr' ⟨cf0 s.eval op,if isE op then cf0 s.eval op else [],false,0,false⟩)
    | false=>.stuck
   | none=>.stuck
def gN0(ops:Array Oper)(n0 N:Nat)(masks:List Nat):List Oper->Nat->AS->Nat->List Inf->(AS->Nat->List Inf->RT)->RT
 | [],_,s,fr,acc,k=>k s fr acc
 | o::rest,i,s,fr,acc,k =>
  match S8 s.n o.dst with
  | false=>.stuck
  | true=>match E3 ops s o with
   | some true=>si0 T Φ F n0 N (masks.getD i 0) i (fh0 o.op&&oA0 ops masks i) o s fr fun s' fr' f=>gN0 ops n0 N masks rest (i+1) s' fr' (acc++[f]) k
   | some false=>gN0 ops n0 N masks rest (i+1) (s.put o.dst (.sc undef)) fr (acc++[⟨[],[],false,0,false⟩]) k
   | none=>match ge0 ops s o with
    | some (j,want) =>
     let go:=fun b:Bool=>match b==want with
      | true=>si0 T Φ F n0 N (masks.getD i 0) i (fh0 o.op&&oA0 ops masks i) o (s.ssub (ap0 j b)) fr fun s' fr' f=>gN0 ops n0 N masks rest (i+1) s' fr' (acc++[f]) k
      | false=>gN0 ops n0 N masks rest (i+1) ((s.ssub (ap0 j b)).put o.dst (.sc undef)) fr (acc++[⟨[],[],false,0,false⟩]) k
     .test j (go true) (go false)
    | none=>.stuck
def gs0:List Oper->List Oper->Option (List Oper×List Oper)
 | _,[]=>none
 | acc,o::l=>match gs0 (acc++[o]) l with
  | some r=>some r
  | none=>match fh0 o.op&&T8 acc (o::l)with
   | true=>some (acc,o::l)
   | false=>none
def barOf(ops:Array Oper):Option (List Oper×List Oper):=gs0 [] ops.toList
theorem iw0:∀ {l acc a b:List Oper},gs0 acc l=some (a,b)->acc++l=a++b/\T8 a b=true
 | [],_,_,_,h=>by simp[gs0]at h
 | o::l,acc,a,b,h=>by
  unfold gs0 at h
  split at h
  ·rename_i r hr
   cases h
   have:=iw0 hr
   exact⟨by rw[<- this.1];simp,this.2⟩
  ·split at h
   ·rename_i hc
    cases h
    rw[Bool.and_eq_true]at hc
    exact⟨rfl,hc.2⟩
   ·cases h
def cN0:Code->Nat
 | .region id _ _=>id
 | .seq a _=>cN0 a
 | .block _ b=>cN0 b
 | .loop b=>cN0 b
 | .scope b=>cN0 b
 | .cond _ a _=>cN0 a
 | _=>0
def fsum(s:AS):Nat->Nat
 | 0=>0
 | t+1=>(match s.get t with
  | .fn (.func g) _ _=>(g+1)*(t+1)
  | .sc (.int _ n)=>(n.toNat%64+7)*(t+1)
  | .sc (.bool b)=>(bif b then 3 else 5)*(t+1)
  | _=>0)+fsum s t
def ij0(fr:Nat)(b:Code)(s:AS):Nat:=(fr*4096+cN0 b)*65536+fsum s s.n%65536
variable (H:Nat->Option Hint)
def mA0(ex:Exe)(n:Nat)(b:Code)(k:KE):Nat->AS->Nat->RT
 | 0,_,_=>.stuck
 | j+1,s,fr=>ex n b s fr fun e s' fr'=>match e with
  | .nor=>mA0 ex n b k j s' fr'
  | e=>k e s' fr'
def fzAt(s:AS):List AV->Nat->Option (Nat×l7)
 | [],_=>none
 | a::as,t=>match (match a,s.get t with
   | .rp _,.mp i 0 0=>mx0 s (.mp i 0 0)
   | .sy _,.mp i 0 0=>mx0 s (.mp i 0 0)
   | .sy _,.ss i z j=>mx0 s (.ss i z j)
   | _,_=>none)with
  | some i=>match s.st.objs i with
   | some o=>some (i,o)
   | none=>fzAt s as (t+1)
  | none=>fzAt s as (t+1)
def sPre(h:Hint)(fr:Nat)(k:AS->RT):Nat->AS->RT
 | 0,s=>k s
 | m+1,s=>match fzAt s h.slots 0 with
  | some (a,x)=>match s.bnd fr with
   | true=>.op (.rows (Z3 (I8 s.st a x).tr)) fr (.sc (.bool true)) (sPre h fr k m (s.frz (I8 s.st a x) a))
   | false=>.stuck
  | none=>k s
def exec:Nat->Exe
 | 0,_,_,_,_,_=>.stuck
 | m+1,n,c,s,fr,k =>
  match c with
  | .skip=>k .nor s fr
  | .label _=>k .nor s fr
  | .region _ ops false=>qL0 T Φ F (exec m) ops s.st.next ops.toList 0 { s with st:={ s.st with next:=s.st.next+ops.size } } fr fun s' fr'=>k .nor s' fr'
  | .region _ ops true=>match barOf ops with
   | some (l0,t)=>match kt0 ⟨l0⟩ (da0 l0 [])with
    | true=>gN0 T Φ F ⟨l0⟩ s.st.next l0.length (da0 l0 []) l0 0 { s with st:={ s.st with next:=s.st.next+l0.length } } fr [] fun s' fr' fs =>
      match (bX0 ⟨l0⟩ (da0 l0 [])).all (fun p=>fo0 s.st.next p.1 p.2 (fs.getD p.1 ⟨[],[],false,0,false⟩) (fs.getD p.2 ⟨[],[],false,0,false⟩))with
      | true=>qL0 T Φ F (exec m) ops s'.st.next t l0.length { s' with st:={ s'.st with next:=s'.st.next+(l0++t).length } } fr' fun s2 fr2=>k .nor s2 fr2
      | false=>.stuck
    | false=>.stuck
   | none=>match kt0 ops (da0 ops.toList [])with
   | true=>gN0 T Φ F ops s.st.next ops.size (da0 ops.toList []) ops.toList 0 { s with st:={ s.st with next:=s.st.next+ops.size } } fr [] fun s' fr' fs =>
     match (bX0 ops (da0 ops.toList [])).all (fun p=>fo0 s.st.next p.1 p.2 (fs.getD p.1 ⟨[],[],false,0,false⟩) (fs.getD p.2 ⟨[],[],false,0,false⟩))with
     | true=>k .nor s' fr'
     | false=>.stuck
   | false=>.stuck
  | .seq a b=>exec m n a s fr fun e s' fr'=>match e with
   | .nor=>exec m n b s' fr' k
   | e=>k e s' fr'
  | .cond x a b=>match s.eval x with
   | .sc (.bool t)=>exec m n (if t then a else b) s fr k
   | .sy i=>.test i (exec m n a (s.ssub (ap0 i true)) fr k) (exec m n b (s.ssub (ap0 i false)) fr k)
   | _=>.stuck
  | .block id b=>exec m n b s fr fun e s' fr'=>match e with
   | .exi j=>k (if j=id then .nor else .exi j) s' fr'
   | e=>k e s' fr'
  | .loop b=>match H (ij0 fr b s)with
   | some h=>sPre h fr (fun s=>match cO0 n fr h s,h.state.bnd (fr+h.k)with
    | some inits,true=>.loop fr h.k inits (exec m n b h.state (fr+h.k+1) fun e s' fr'=>match e with
     | .nor=>match cO0 n fr h s' with
      | some vals=>.again fr vals
      | none=>.stuck
     | e=>k e s' fr')
    | _,_=>.stuck) 4 s
   | none=>mA0 (exec m) n b k 1000 s fr
  | .exit id=>k (.exi id) s fr
  | .ret=>k .ret s fr
  | .scope b=>exec m n b s fr k
  | _=>.stuck
def kTop(T:Tab)(fn:Func)(e:EX)(s:AS)(_:Nat):RT:=match e with
 | .exi _=>.stuck
 | _=>match D0 T fn s with
  | some v=>match v.contP with
   | true=>.ret v.nilz []
   | false=>match aI0 s.st 50 v with
    | some c=>.ret c.nilz (Z3 s.st.tr)
    | none=>.stuck
  | none=>.stuck
end
end Go.Ab
namespace Go.Ab
open Go
variable [B0]
theorem M6(cols:List (Nat×TypeId×Nat))(r:Nat):∀ (row:List AV) (j0 j:Nat),(Z7 cols r j0 row)[j]?=(row[j]?).map (al0 cols r (j0+j))
 | [],j0,j=>by simp[Z7]
 | v::vs,j0,0=>by simp[Z7]
 | v::vs,j0,j+1=>by
  simp only[Z7,List.getElem?_cons_succ]
  rw[M6 cols r vs (j0+1) j]
  congr 2;omega
theorem I1(cols:List (Nat×TypeId×Nat)):∀ (rows:List (List AV)) (r0 i:Nat),(I5 cols r0 rows)[i]?=(rows[i]?).map (Z7 cols (r0+i) 0)
 | [],r0,i=>by simp[I5]
 | v::vs,r0,0=>by simp[I5]
 | v::vs,r0,i+1=>by
  simp only[I5,List.getElem?_cons_succ]
  rw[I1 cols vs (r0+1) i]
  congr 2;omega
theorem H2(cols:List (Nat×TypeId×Nat))(r:Nat):∀ (row:List AV) (j0:Nat),(Z7 cols r j0 row).length=row.length
 | [],_=>rfl
 | _::vs,j0=>by simp[Z7,H2 cols r vs]
theorem J2(cols:List (Nat×TypeId×Nat)):∀ (rows:List (List AV)) (r0:Nat),(I5 cols r0 rows).length=rows.length
 | [],_=>rfl
 | _::vs,r0=>by simp[I5,J2 cols vs]
theorem lT0{cols:List (Nat×TypeId×Nat)}{r j:Nat}{v:AV}(h:cols.all (fun q=>!Nat.beq q.1 j)=true):al0 cols r j v=v:=by
 unfold al0
 have:cols.find? (fun c=>Nat.beq c.1 j)=none:=by
  rw[List.find?_eq_none]
  intro x hx
  have:=List.all_eq_true.1 h x hx
  rw[Bool.not_eq_true']at this
  rw[this];simp
 rw[this]
theorem an0{rows:List (List AV)}{i off:Nat}{v:Option AV}{i':Nat}:(U3 rows i off v)[i']?=match v with
  | none=>rows[i']?
  | some v=>if i'=i then (rows[i']?).map (fun cs=>cs.set off v)else rows[i']?:=by
 unfold U3
 cases v with
 | none=>rfl
 | some v =>
  simp only
  cases h:rows[i]? with
  | none =>
   by_cases e:i'=i
   ·subst e;simp[h]
   ·simp[e]
  | some cs =>
   by_cases e:i'=i
   ·subst e
    obtain⟨hl,he⟩:=List.getElem?_eq_some_iff.1 h
    simp[hl,he]
   ·simp only[e,if_false]
    rw[List.getElem?_set_ne (by omega)]
theorem pE0{cs:List AV}{j:Nat}{a v:AV}(h:j<cs.length):N6 (cs.set j a) j [v]=cs.set j v:=by
 apply List.ext_getElem?
 intro k
 rw[eG0 _ _ _ (by simp;omega)]
 simp only[List.length_singleton,List.getElem?_set]
 by_cases e:j=k
 ·subst e;simp[h]
 ·rw[if_neg (by omega)];simp[e]
theorem dr0(r c:Nat):hid r c<P4:=Nat.mod_lt _ (by decide)
theorem Tr.set_setF{α:Type}(u v:Option α):∀ (f k:Nat) (t:Tr α),Tr.setF v f k (Tr.setF u f k t)=Tr.setF v f k t
 | 0,0,.leaf=>rfl
 | 0,0,.node _ _ _=>rfl
 | _+1,0,.leaf=>rfl
 | _+1,0,.node _ _ _=>rfl
 | 0,_+1,t=>by simp[Tr.setF]
 | f+1,k+1,.leaf=>by
  rcases Nat.mod_two_eq_zero_or_one k with e | e<;>simp[Tr.setF,e,Tr.set_setF u v f (k / 2)]
 | f+1,k+1,.node x l r=>by
  rcases Nat.mod_two_eq_zero_or_one k with e | e<;>simp[Tr.setF,e,Tr.set_setF u v f (k / 2)]
theorem c9.del_set(σ:c9)(id:Nat)(o:l7):(σ.set id o).del id=σ.del id:=by
 simp only[c9.set,c9.del,Tr.set,Tr.set_setF,c9.mk.injEq,true_and]
 omega
theorem iV0{T:Tab}(σ σ':c9){t:TypeId}{x ix:AV}{ok:Bool}(h:∀ id,x≠.mm id):H9 T σ t x ix ok=H9 T σ' t x ix ok:=by
 cases x with
 | mm id=>exact absurd rfl (h id)
 | rm c=>cases c<;>rfl
 | _=>rfl
section bnds
theorem Tr.all_get{α:Type}{p:α->Bool}:∀ {t:Tr α} {k:Nat} {v:α},t.all p=true->t.get k=some v->p v=true
 | .leaf,k,v,_,h=>by rw[Tr.get_leaf]at h;cases h
 | .node x l r,0,v,hb,h=>by
  simp only[Tr.get]at h;subst h
  simp only[Tr.all,Bool.and_eq_true]at hb
  exact hb.1.1
 | .node x l r,k+1,v,hb,h=>by
  simp only[Tr.all,Bool.and_eq_true]at hb
  simp only[Tr.get]at h
  split at h
  ·exact Tr.all_get hb.1.2 h
  ·exact Tr.all_get hb.2 h
theorem AS.bnd_get{k:Nat}{s:AS}(h:s.bnd k=true)(t:Nat):(s.get t).bnd k=true:=by
 simp only[AS.bnd,Bool.and_eq_true]at h
 simp only[AS.get]
 cases ht:s.tr.get t with
 | none=>rfl
 | some v=>exact Tr.all_get h.1 ht
theorem no0(k:Nat):∀ l:List Value,iA0 k (l.map .sc)=true
 | []=>by simp[iA0]
 | v::l=>by simp[iA0,AV.bnd,no0 k l]
theorem AS.bnd_eval{k:Nat}{s:AS}(h:s.bnd k=true)(x:Operand):(s.eval x).bnd k=true:=by
 cases x with
 | tmp t=>exact s.bnd_get h t
 | const v=>cases v<;>simp[AS.eval,AV.ofValue,AV.bnd,no0]
 | global g=>simp[AS.eval,AV.bnd]
 | func f=>simp[AS.eval,AV.bnd,iA0]
theorem AS.bnd_obj{k:Nat}{s:AS}(h:s.bnd k=true){id:Nat}{o:l7}(ho:s.st.objs id=some o):o.bnd k=true:=by
 simp only[AS.bnd,Bool.and_eq_true]at h
 exact Tr.all_get h.2 ho
end bnds
section
variable {T:Tab} {Φ:H8} {θ θ':Nat->AV} {fr:Nat} (ha:∀ i,i<fr->θ' i=θ i) {s:AS} (hb:s.bnd fr=true)
include ha hb
theorem oD0(x:Operand):(s.eval x).sub θ'=(s.eval x).sub θ:=sub_agree ha _ (s.bnd_eval hb x)
theorem tO0{elem:TypeId}{size:Nat}{a:AV}{old:Option Nat}{x:AV}(hbd:a.bnd fr=true)(h:wU0 s.st elem size a=some (old,x)){es:List (List AV)}(hx:x.sub θ=.rs es) :
  S3 (s.st.sub θ') elem size (a.sub θ')=some (old,es)/\w9 (s.st.sub θ') (a.sub θ')=s.st.sub θ':=by
 unfold wU0 at h
 split at h
 ·cases h
  simp only[do0,List.map_nil,AV.rs.injEq]at hx;subst hx
  exact⟨by simp[S3],by simp[w9]⟩
 ·split at h
  ·rename_i id z len _ e sz rows ho
   split at h
   ·rename_i hc
    cases h
    have hob:=s.bnd_obj hb ho
    have h1:(s.st.sub θ').objs id=some (.row e sz es):=by
     rw[c9.sub_objs,ho,Option.map_some,l7.sub_agree ha _ hob]
     simp only[l7.sub]
     simp only[do0,AV.rs.injEq]at hx;rw[hx]
    have hl:rows.length=es.length:=by simp only[do0,AV.rs.injEq]at hx;rw[<- hx];simp
    refine⟨?_,?_⟩
    ·simp only[cC0,S3,h1]
     rw[if_pos ⟨by omega,hc.2⟩]
    ·simp only[cC0,w9,h1]
     rw[if_neg (by omega)]
   ·cases h
  ·cases h
 ·split at h
  ·rename_i id z i _ e sz j ho
   split at h
   ·rename_i hc
    cases h
    obtain⟨rfl,hsz,he⟩:=hc
    have hj:j<fr:=by have:=s.bnd_obj hb ho;simpa[l7.bnd,Nat.blt_eq]using this
    rw[u5]at hx
    have h1:(s.st.sub θ').objs id=some (.row e sz es):=by
     rw[c9.sub_objs,ho,Option.map_some]
     simp only[l7.sub,ha j hj,hx,rowsOf]
    refine⟨?_,?_⟩
    ·simp only[R8,ha j hj,hx,rowsOf,S3,h1]
     simp[hsz,he]
    ·simp only[R8,ha j hj,hx,rowsOf,w9,h1]
     rw[if_neg (by omega)]
   ·cases h
  ·cases h
 ·cases h
theorem rE0{c y:AV}(hbd:c.bnd fr=true)(h:ssrc s.st c=some y){xs:List (List AV)}(hx:y.sub θ=.rs xs):P6 (s.st.sub θ') (c.sub θ')=some xs:=by
 unfold ssrc at h
 split at h
 ·cases h
  simp only[do0,List.map_nil,AV.rs.injEq]at hx;subst hx
  simp[P6]
 ·cases h
  rw[sub_agree ha _ hbd,hx];simp[P6]
 ·cases h
  rw[sub_agree ha _ hbd,hx];simp[P6]
 ·split at h
  ·rename_i id z off len _ e sz rows ho
   split at h
   ·rename_i hc
    cases h
    have hob:=s.bnd_obj hb ho
    simp only[do0,AV.rs.injEq]at hx
    simp only[cC0,P6,c9.sub_objs,ho,Option.map_some]
    rw[l7.sub_agree ha _ hob]
    simp only[l7.sub,List.length_map]
    rw[if_pos hc,<-hx]
    simp[List.map_take,List.map_drop]
   ·cases h
  ·cases h
 ·split at h
  ·rename_i id z i _ e sz j ho
   split at h
   ·rename_i hc
    cases h
    subst hc
    have hj:j<fr:=by have:=s.bnd_obj hb ho;simpa[l7.bnd,Nat.blt_eq]using this
    rw[u5]at hx
    simp only[R8,ha j hj,hx,rowsOf,P6,c9.sub_objs,ho,Option.map_some,l7.sub]
    simp
   ·cases h
  ·cases h
 ·cases h
theorem xC0{id:Nat}{sT xT:TypeId}{a c pat v:AV}{ro:RO}{σ':c9}{fr':Nat}(h1:a.bnd fr=true)(h2:c.bnd fr=true)(h:sApp T s.st id sT xT a c fr=some (ro,pat,v,σ',fr'))(he:j5 T Φ θ ro=some (pat.sub θ')) :
  E9 T (s.st.sub θ') id sT xT (a.sub θ') (c.sub θ')=some (v.sub θ',σ'.sub θ'):=by
 unfold sApp at h
 split at h
 ·rename_i elem _ _ _ _ ht
  split at h
  ·rename_i ei hei
   split at h
   ·rename_i old x y hx hy
    cases h
    simp only[j5,sM0,ht]at he
    split at he
    ·rename_i el _ _ _ _ xi e1 e2
     cases e1
     rw[hei]at he
     simp only at he
     split at he
     ·rename_i es xs hex hey
      split at he
      ·rename_i hc
       simp only[Option.some.injEq,u5]at he
       obtain⟨k1,k2⟩:=tO0 ha hb h1 hx hex
       have k3:=rE0 ha hb h2 hy hey
       have hcase:E9 T (s.st.sub θ') id sT xT (a.sub θ') (c.sub θ')=N9 T (w9 (s.st.sub θ') (a.sub θ')) id sT xT (a.sub θ') (c.sub θ'):=by
        unfold E9
        split
        ·rename_i e3 e4
         rw[e2]at e4;cases e4
         simp[TI.isInt]at hc
        ·rfl
       rw[hcase,k2]
       simp only[N9,ht,e2,hei,k1,k3]
       rw[if_pos hc]
       simp only[R8,c9.sub_set,l7.sub,<-he,rowsOf,List.length_append]
       cases old<;>simp[c9.sub_del]
      ·cases he
     ·cases he
    ·cases he
   ·cases h
  ·cases h
 ·cases h
include ha hb in
theorem wZ0{id:Nat}{sT xT:TypeId}{a c pat v:AV}{ro:RO}{σ':c9}{fr':Nat}{xi:TI}{k:IntKind}(h2:c.bnd fr=true)(hxT:T xT=some xi)(hxi:xi.und=.int k)(h:sZer T s.st id sT a c fr=some (ro,pat,v,σ',fr'))(he:j5 T Φ θ ro=some (pat.sub θ')) :
  E9 T (s.st.sub θ') id sT xT (a.sub θ') (c.sub θ')=some (v.sub θ',σ'.sub θ'):=by
 unfold sZer at h
 split at h
 ·rename_i elem _ _ _ _ ht
  split at h
  ·rename_i ei hei
   split at h
   ·cases h
    obtain⟨u0,z0,z1,z2,z3⟩:=xi
    cases hxi
    simp only[j5,xp0,ht,hei]at he
    rw[sub_agree ha _ h2]
    split at he
    ·rename_i kd n hn
     split at he
     ·rename_i hc
      simp only[Option.some.injEq,u5]at he
      simp only[E9,ht,hxT,J0,df0,hei,hn]
      rw[if_pos hc]
      simp only[R8,c9.sub_set,l7.sub,<-he,rowsOf,List.length_replicate]
     ·cases he
    ·cases he
   ·cases h
  ·cases h
 ·cases h
include ha hb in
theorem vI0{i:Nat}{c y:AV}(hbd:c.bnd fr=true)(h:src0 s.st i c=some y){xs:List (List AV)}(hx:y.sub θ=.rs xs){σ0:c9}(h0:∀ j,j≠i->σ0.objs j=(s.st.sub θ').objs j):P6 σ0 (c.sub θ')=some xs:=by
 unfold src0 at h
 split at h
 ·cases h
  rename_i hi
  rw[sub_agree ha _ hbd,hx];simp[P6]
 ·split at h
  ·rename_i i2 z o l _
   split at h
   ·cases h
   ·rename_i hne
    have:=rE0 ha hb hbd h hx
    rw[<- this,cC0]
    have hne2:i2≠i:=fun e=>by rw[e,Nat.beq_refl]at hne;cases hne
    simp only[P6,h0 i2 hne2]
  ·cases h
include ha hb in
theorem tp0{id:Nat}{sT xT:TypeId}{a c pat v:AV}{ro:RO}{σ':c9}{fr':Nat}(h2:c.bnd fr=true)(h:xm0 T s.st id sT xT a c fr=some (ro,pat,v,σ',fr'))(he:j5 T Φ θ ro=some (pat.sub θ')) :
  E9 T (s.st.sub θ') id sT xT (a.sub θ') (c.sub θ')=some (v.sub θ',σ'.sub θ'):=by
 unfold xm0 at h
 split at h
 ·rename_i elem _ _ _ _ ht
  split at h
  ·rename_i ei hei
   split at h
   ·rename_i i z0
    split at h
    ·rename_i e sz j ho
     split at h
     ·rename_i y hcc hsy
      simp only[Bool.and_eq_true,Nat.beq_eq]at hcc
      obtain⟨rfl,rfl⟩:=hcc
      cases h
      simp only[j5,sM0,ht]at he
      split at he
      ·rename_i el _ _ _ _ xi e1 e2
       cases e1
       rw[hei]at he
       simp only[do0,List.map_nil]at he
       split at he
       ·rename_i es xs hex hey
        cases hex
        split at he
        ·rename_i hc
         simp only[List.nil_append,Option.some.injEq,u5]at he
         have hsrc:P6 (w9 (s.st.sub θ') (.ms i z0 0 0)) (c.sub θ')=some xs:=vI0 ha hb h2 hsy hey fun j hj=>by
          simp only[w9]
          split
          ·split
           ·rw[c9.objs_set,if_neg hj]
           ·rfl
          ·rfl
         have hobj:(s.st.sub θ').objs i=some (.row e ei.size (rowsOf (θ' j))):=by rw[c9.sub_objs,ho];rfl
         have htr:∃ o0,w9 (s.st.sub θ') (.ms i z0 0 0)=(s.st.sub θ').set i o0/\o0=.row e ei.size []\/w9 (s.st.sub θ') (.ms i z0 0 0)=s.st.sub θ'/\rowsOf (θ' j)=[]:=by
          simp only[w9,hobj]
          by_cases hl:0<(rowsOf (θ' j)).length
          ·rw[if_pos hl];exact⟨_,.inl ⟨rfl,by simp⟩⟩
          ·rw[if_neg hl];exact⟨.row e ei.size [],.inr ⟨rfl,List.eq_nil_of_length_eq_zero (by omega)⟩⟩
         have hcase:E9 T (s.st.sub θ') id sT xT (AV.sub θ' (.ms i z0 0 0)) (c.sub θ')=N9 T (w9 (s.st.sub θ') (.ms i z0 0 0)) id sT xT (.ms i z0 0 0) (c.sub θ'):=by
          rw[cC0]
          unfold E9
          split
          ·rename_i e3 e4
           rw[e2]at e4;cases e4
           simp[TI.isInt]at hc
          ·rfl
         rw[hcase]
         have hbase:S3 (w9 (s.st.sub θ') (.ms i z0 0 0)) e ei.size (.ms i z0 0 0)=some (some i,[]):=by
          obtain⟨o0,⟨q1,rfl⟩ | ⟨q1,q2⟩⟩:=htr
          ·rw[q1];simp[S3,c9.objs_set]
          ·rw[q1];simp[S3,hobj,q2]
         have hdel:(w9 (s.st.sub θ') (.ms i z0 0 0)).del i=(s.st.sub θ').del i:=by
          obtain⟨o0,⟨q1,rfl⟩ | ⟨q1,q2⟩⟩:=htr
          ·rw[q1,c9.del_set]
          ·rw[q1]
         simp only[N9,ht,e2,hei,hbase,hsrc]
         rw[if_pos hc]
         simp only[R8,c9.sub_set,c9.sub_del,l7.sub,<-he,rowsOf,hdel,List.length_nil,Nat.zero_add,List.nil_append]
        ·cases he
       ·cases he
      ·cases he
     ·cases h
    ·cases h
   ·cases h
  ·cases h
 ·cases h
include ha hb in
theorem eV0{m:Nat}{c:AV}(h:(s.st.objs m).bind gG0=some c):(s.st.sub θ').objs m=some (P3 (c.sub θ))/\(s.st.sub θ').objs m=(dc0 (c.sub θ)).objs 0:=by
 have key:(s.st.sub θ').objs m=some (P3 (c.sub θ)):=by
  cases ho:s.st.objs m with
  | none=>rw[ho]at h;cases h
  | some o =>
   rw[ho]at h
   simp only[Option.bind_some]at h
   have hbo:=s.bnd_obj hb ho
   rw[c9.sub_objs,ho,Option.map_some]
   unfold gG0 at h
   split at h
   ·cases h
    simp only[l7.bnd]at hbo
    simp only[l7.sub,sub_agree ha _ hbo]
   ·cases h
    simp[l7.sub,AV.sub,dp0,P3,rowsOf,aK0,w8]
   ·cases h
 refine⟨key,?_⟩
 rw[key]
 simp[dc0,c9.objs_set]
theorem sB0(hθ:Fit θ){id:Nat}{b:Builtin}{ts:Array TypeId}{args:List AV}{pat v:AV}{ro:RO}{σ':c9}{fr':Nat}(h1:∀ a∈args,a.bnd fr=true)(h:rH0 T s.st id b ts.toList args fr=some (ro,pat,v,σ',fr'))
  (he:j5 T Φ θ ro=some (pat.sub θ')):F6 T (s.st.sub θ') id b ts (args.map (AV.sub θ'))=some (v.sub θ',σ'.sub θ'):=by
 have hst:s.st.sub θ'=s.st.sub θ:=c9.sub_agree ha hb
 have hag:args.map (AV.sub θ')=args.map (AV.sub θ):=List.map_congr_left fun a hm=>sub_agree ha a (h1 a hm)
 unfold rH0 at h
 split at h
 ·rename_i t i hts
  cases h
  simp only[j5,u5]at he
  rw[hag]
  simp only[F6,hts,List.map_cons,List.map_nil,u5]
  have h2:fJ0 T (s.st.sub θ') t (θ i)=some (θ' fr):=by
   have hf:=hθ i
   unfold fJ0 at he ⊢
   split at he
   ·rename_i ti ht
    rcases hf.cases with ⟨k,n,e⟩ | ⟨b,e⟩ | ⟨x,e⟩ | ⟨es,e⟩ | ⟨cs,e⟩ | ⟨c,e⟩<;>rw[e]at he ⊢<;>(cases hu:ti.und<;>rw[hu]at he<;>first | exact he | (simp only at he ⊢;exact he))
   ·cases he
  rw[h2]
 ·rename_i t id' z i hts
  split at h
  ·rename_i el _ _ _ _ ht
   cases h
   simp only[j5,u5]at he
   rw[hag]
   simp only[F6,hts,List.map_cons,List.map_nil,R8]
   have h2:fJ0 T (s.st.sub θ') t (.ms id' z 0 (rowsOf (θ i)).length)=some (θ' fr):=by
    have hf:=hθ i
    simp only[fJ0,ht]at he ⊢
    rcases hf.cases with ⟨k,n,e⟩ | ⟨b,e⟩ | ⟨x,e⟩ | ⟨es,e⟩ | ⟨cs,e⟩ | ⟨c,e⟩<;>rw[e]at he ⊢<;>simp[rowsOf]at he ⊢
    exact he
   rw[h2];simp
  ·cases h
 ·cases h
  simp only[j5,u5]at he
  rw[hag]
  generalize List.map (AV.sub θ) _=l at *
  cases hm:uA0 l with
  | none=>rw[hm]at he;cases he
  | some u =>
   rw[hm]at he
   simp only[Option.map_some,Option.some.injEq]at he
   simp[F6,hm,he]
 ·cases h
  simp only[j5,u5]at he
  rw[hag]
  generalize List.map (AV.sub θ) _=l at *
  cases hm:va0 l with
  | none=>rw[hm]at he;cases he
  | some u =>
   rw[hm]at he
   simp only[Option.map_some,Option.some.injEq]at he
   simp[F6,hm,he]
 ·rename_i sT xT a c hts
  simp only[F6,hts,List.map_cons,List.map_nil]
  split at h
  ·rename_i hxT
   exact wZ0 (T:=T) (Φ:=Φ) ha hb (h1 c (by simp)) hxT rfl h he
  ·split at h
   ·rename_i q hq
    cases h
    exact tp0 (T:=T) (Φ:=Φ) ha hb (h1 c (by simp)) hq he
   ·exact xC0 (T:=T) (Φ:=Φ) ha hb (h1 a (by simp)) (h1 c (by simp)) h he
 ·rename_i t m hts
  split at h
  ·rename_i c hc
   cases h
   simp only[j5,u5]at he
   obtain⟨_,k2⟩:=eV0 (θ:=θ) ha hb hc
   have h2:fJ0 T (s.st.sub θ') t (.mm m)=some (θ' fr):=by
    unfold fJ0 at he ⊢
    split at he
    ·rename_i ti ht
     cases hu:ti.und<;>rw[hu]at he<;>simp only[k2]at he ⊢<;>first | exact he | (simp only at he ⊢;exact he) | cases he
    ·cases he
   simp only[F6,hts,List.map_cons,List.map_nil,dn0,h2,u5]
  ·cases h
 ·cases h
include ha hb in
theorem hU0{t:TypeId}{m k x pat v:AV}{ro:RO}{σ':c9}{fr':Nat}(h1:k.bnd fr=true)(h2:x.bnd fr=true)(h:gi0 s.st t m k x fr=some (ro,pat,v,σ',fr'))(he:j5 T Φ θ ro=some (pat.sub θ')) :
  C6 T (s.st.sub θ') t (m.sub θ') (k.sub θ') (x.sub θ')=some (σ'.sub θ')/\v=.sc undef:=by
 unfold gi0 at h
 split at h
 ·rename_i id
  split at h
  ·rename_i c hc
   cases h
   obtain⟨k1,_⟩:=eV0 (θ:=θ) ha hb hc
   simp only[j5,u5]at he
   split at he
   ·rename_i σ2 hu
    split at he
    ·rename_i b l hk
     simp only[Option.some.injEq]at he
     refine⟨?_,rfl⟩
     rw[sub_agree ha k h1,sub_agree ha x h2,dn0,ih0 k1 hk hu,c9.sub_set]
     simp only[l7.sub,u5,<-he]
    ·cases he
   ·cases he
  ·cases h
 ·cases h
omit ha hb in
theorem uE0{T:Tab}{t el:TypeId}{ti ei:TI}{id z len:Nat}{iv:AV}(ht:T t=some ti)(hu:ti.und=.slice el)(hei:T el=some ei)(hz:z=ei.size){q:AV}(h:D4 T t (.ms 0 ei.size 0 len) iv=some q):D4 T t (.ms id z 0 len) iv=some (.mp id (Y9 iv) 0):=by
 obtain⟨und,size,zero,bytes,flat⟩:=ti
 simp only at hu
 subst hu
 subst hz
 unfold D4 at h ⊢
 rw[ht]at h ⊢
 split at h
 ·rename_i kd n e1
  cases e1
  simp only[hei]at h ⊢
  split at h
  ·rename_i hc
   rw[if_pos hc]
   simp[Y9]
  ·cases h
 ·rename_i e1;cases e1
 ·cases h
include ha hb in
theorem mp0{id j:Nat}{e:TypeId}{z:Nat}(ho:s.st.objs id=some (.xrow e z j)):(s.st.sub θ').objs id=some (.row e z (rowsOf (θ j)))/\j<fr:=by
 have hj:j<fr:=by have:=s.bnd_obj hb ho;simpa[l7.bnd,Nat.blt_eq]using this
 exact⟨by rw[c9.sub_objs,ho,Option.map_some];simp only[l7.sub,ha j hj],hj⟩
include ha in
theorem ns0{a:AV}(hba:a.bnd fr=true){id off:Nat}{i:AV}(h:qC0 a=some (id,i,off)):a.sub θ'=.mp id (Y9 (i.sub θ)) off:=by
 unfold qC0 at h
 split at h
 ·rename_i id k off
  cases h
  simp only[AV.bnd,Nat.blt_eq]at hba
  simp only[AV.sub,ha k hba]
 ·cases h
  simp[AV.sub,Y9]
 ·cases h
theorem ol0(hθ:Fit θ){id:Nat}{op:Op}{pat v:AV}{ro:RO}{σ':c9}{fr':Nat}(h:te0 T s.eval s.st id op fr=some (ro,pat,v,σ',fr'))
  (he:j5 T Φ θ ro=some (pat.sub θ')):aop T (s.sub θ').eval (s.st.sub θ') id op=some (v.sub θ',σ'.sub θ'):=by
 have hev:∀ x,(s.sub θ').eval x=(s.eval x).sub θ:=fun x=>by rw[AS.sub_eval,oD0 ha hb x]
 unfold te0 at h
 split at h
 ·cases h
  simp only[j5,u5]at he
  simp only[aop,hev,he,u5]
 ·cases h
  simp only[j5,u5]at he
  simp only[aop,hev,he,u5]
 ·cases h
  simp only[j5,u5]at he
  simp only[aop,hev,he,u5]
 ·cases h
  simp only[j5,u5]at he
  simp only[aop,hev]
  split at he
  ·rename_i t ht
   simp only[Option.some.injEq]at he
   rw[ht];simp[he]
  ·cases he
 ·split at h
  ·rename_i id k off hx
   cases h
   simp only[aop,AS.sub_eval,hx,AV.sub]
  ·rename_i i hx
   cases h
   have e1:=hev
   simp only[j5,u5]at he
   split at he
   ·rename_i cs hcs
    simp only[aop,hev,hx,u5,hcs]
    have hbx:=s.bnd_eval hb ‹Operand›
    rw[hx]at hbx
    simp only[AV.bnd,Nat.blt_eq]at hbx
    rw[ha i hbx,hcs]
   ·cases he
  ·cases h
 ·split at h
  ·rename_i id k off fields _ _ _ _ hx ht
   split at h
   ·rename_i fd hfd
    split at h
    ·rename_i fi hfi
     split at h
     ·cases h
     ·rename_i hz
      cases h
      have hz':¬ fi.size=0:=fun e=>by rw[e]at hz;simp at hz
      simp only[aop,AS.sub_eval,hx,AV.sub,M7,ht,hfd,hfi]
      rw[if_neg hz']
    ·cases h
   ·cases h
  ·rename_i i ti hx ht
   split at h
   ·rename_i v1 hfa
    cases h
    simp only[j5,u5]at he
    split at he
    ·rename_i cs hcs
     split at he
     ·simp only[Option.some.injEq]at he
      simp only[aop,hev,hx,u5,hcs,he,di0 (θ:=θ') hfa]
     ·cases he
    ·cases he
   ·cases h
  ·cases h
 ·rename_i t x
  split at h
  ·rename_i g hg
   split at h
   ·rename_i p fr1 hpat
    cases h
    simp only[j5]at he
    have hx:=hk0 hg
    simp only[aop,hev,hx,J0,am0,ch0,he]
   ·cases h
  split at h
  ·rename_i id i off hp
   split at h
   ·rename_i e z j p fr1 ho hpat
    cases h
    simp only[j5,u5]at he
    obtain⟨k1,_⟩:=mp0 (θ:=θ) ha hb ho
    have k2:=ns0 (θ:=θ) ha hb (s.bnd_eval hb x) hp
    have k3:V1 T (s.st.sub θ') t (.mp id (Y9 (i.sub θ)) off)=some (pat.sub θ'):=by
     rw[<- he]
     simp[V1,k1,dE0,c9.objs_set]
    simp only[aop,AS.sub_eval,k2,am0,ch0,k3]
   ·rename_i e z c cols k foff v0 p fr1 ho hpat
    have k2:=ns0 (θ:=θ) ha hb (s.bnd_eval hb x) hp
    have hob:=s.bnd_obj hb ho
    have k1:(s.st.sub θ').objs id=some (l7.sub θ (.frow e z c cols k foff v0)):=by
     rw[c9.sub_objs,ho,Option.map_some,l7.sub_agree ha _ hob]
    simp only[l7.sub]at k1
    split at h
    ·rename_i ti ht
     split at h
     ·cases h
     rename_i hagg
     split at h
     ·rename_i hoff
      have hoff:=Nat.eq_of_beq_eq_true hoff
      subst hoff
      split at h
      ·rename_i v1 hk
       obtain⟨m,rfl,rfl⟩:=nY0 hk
       cases h
       simp only[j5]at he
       split at he
       ·rename_i row hrow
        split at he
        ·rename_i hlt
         rw[Nat.blt_eq]at hlt
         simp only[l7.bnd,Bool.and_eq_true]at hob
         have hv1:v.sub θ'=v.sub θ:=sub_agree ha _ hob.2.2
         have k3:V1 T (s.st.sub θ') t (.mp id (Y9 ((AV.sy m).sub θ)) off)=some (v.sub θ):=by
          simp only[V1,k1,an0,Option.map_some,if_true,I1,hrow,ht,E4,hagg,Bool.false_eq_true,if_false]
          simp[H2,hlt]
         simp only[aop,AS.sub_eval,k2,am0,ch0,k3,hv1]
        ·cases he
       ·cases he
      ·cases h
     ·rename_i hoff
      have hoff:off≠foff:=fun e=>by rw[e]at hoff;simp at hoff
      split at h
      ·rename_i hcols
       cases h
       simp only[j5]at he
       have k3:V1 T (s.st.sub θ') t (.mp id (Y9 (i.sub θ)) off)=some (pat.sub θ'):=by
        rw[<- he]
        have e9:(dE0 e z (c.sub θ)).objs 0=some (.row e z (rowsOf (c.sub θ))):=by simp[dE0,c9.objs_set]
        simp only[V1,k1,e9,an0,I1,ht,E4,hagg,Bool.false_eq_true,if_false]
        cases hrow:(rowsOf (c.sub θ))[Y9 (i.sub θ)]? with
        | none=>cases v0<;>simp
        | some row =>
         have hcell:(Z7 cols (0+Y9 (i.sub θ)) 0 row)[off]?=row[off]?:=by
          rw[M6]
          cases row[off]? with
          | none=>rfl
          | some x=>simp[lT0 hcols]
         cases v0 with
         | none=>simp only[Option.map_none,Option.map_some];exact hcell
         | some v0 =>
          simp only[Option.map_some]
          by_cases e:Y9 (i.sub θ)=Y9 (k.sub θ)
          ·simp only[e,if_true]at hcell ⊢
           rw[List.getElem?_set_ne (by omega)];exact hcell
          ·simp only[e,if_false];exact hcell
       simp only[aop,AS.sub_eval,k2,am0,ch0,k3]
      ·cases h
    ·cases h
   ·cases h
  ·split at h
   ·rename_i i ti hx ht
    split at h
    ·rename_i v1 hfa
     cases h
     simp only[j5,u5]at he
     split at he
     ·rename_i cs hcs
      split at he
      ·simp only[Option.some.injEq]at he
       have h3:=gW0 (θ:=θ') hfa
       rw[<- he]at h3
       have h4:V1 T (s.st.sub θ') t (.rp cs)=some (v.sub θ'):=by
        simp only[V1]at h3 ⊢;exact h3
       simp only[aop,hev,hx,u5,hcs,am0,ch0,h4]
      ·cases he
     ·cases he
    ·cases h
   ·cases h
 ·rename_i t a x
  split at h
  ·rename_i id' i off ti m z' j hp ht hx
   split at h
   ·rename_i e z c cols k foff v1 ho
    split at h
    ·rename_i hc
     simp only[Bool.and_eq_true,Nat.beq_eq]at hc
     obtain⟨⟨hsz,rfl⟩,hk⟩:=hc
     obtain⟨n1,rfl,rfl⟩:=nY0 hk
     cases h
     have k2:=ns0 (θ:=θ) ha hb (s.bnd_eval hb a) hp
     have hob:=s.bnd_obj hb ho
     have k1:(s.st.sub θ').objs id'=some (l7.sub θ (.frow e z c cols (.sy n1) off (some v1))):=by
      rw[c9.sub_objs,ho,Option.map_some,l7.sub_agree ha _ hob]
     simp only[l7.sub]at k1
     simp only[l7.bnd,Bool.and_eq_true]at hob
     simp only[j5]at he
     split at he
     ·rename_i row hrow
      split at he
      ·rename_i hlt
       rw[Nat.blt_eq]at hlt
       have hn1:Y9 (AV.sub θ' (.sy n1))=Y9 (AV.sub θ (.sy n1)):=by rw[sub_agree ha _ hob.2.1]
       have hxv:(s.eval x).sub θ=AV.sub θ' (.ss m z' j):=by rw[<- hx];exact(sub_agree ha _ (s.bnd_eval hb x)).symm
       have O3:(U3 (I5 cols 0 (rowsOf (c.sub θ))) (Y9 ((AV.sy n1).sub θ)) off (some (v1.sub θ)))[Y9 ((AV.sy n1).sub θ)]?=some ((Z7 cols (Y9 ((AV.sy n1).sub θ)) 0 row).set off (v1.sub θ)):=by
        rw[an0]
        simp only[if_true,I1,hrow,Option.map_some,Nat.zero_add]
       have hst:V4 T (s.st.sub θ') t (.mp id' (Y9 ((AV.sy n1).sub θ)) off) (AV.sub θ' (.ss m z' j))=some ((s.st.sub θ').set id' (l7.sub θ' (.frow e z c cols (.sy n1) off (some (.ss m z' j))))):=by
        simp only[V4,R8,AV.cells,ht,k1,Option.map_some,O3,hsz,List.length_singleton,List.length_set,H2]
        rw[if_pos ⟨trivial,by omega,by simp[AV.one]⟩]
        have hlt2:off<(Z7 cols (Y9 (AV.sub θ (.sy n1))) 0 row).length:=by rw[H2];exact hlt
        rw[pE0 hlt2]
        simp only[l7.sub,Option.map_some,R8,hn1,sub_agree ha _ hob.1]
        simp only[U3,I1,hrow,Option.map_some,Nat.zero_add,List.set_set]
       simp only[aop,AS.sub_eval,k2]
       rw[hx,hst]
       simp only[J0,c9.sub_set]
      ·cases he
     ·cases he
    ·cases h
   ·cases h
  ·cases h
 ·rename_i t x i
  split at h
  ·rename_i el _ _ _ _ ht
   split at h
   ·rename_i ei hei
    split at h
    ·rename_i id z j hx
     have hbx:=s.bnd_eval hb x
     rw[hx]at hbx
     simp only[AV.bnd,Nat.blt_eq]at hbx
     have hbi:=s.bnd_eval hb i
     split at h
     ·rename_i hz
      have hz:=Nat.eq_of_beq_eq_true hz
      split at h
      ·rename_i k hi
       cases h
       rw[hi]at hbi
       simp only[AV.bnd,Nat.blt_eq]at hbi
       simp only[j5,ht,hei,u5]at he
       split at he
       ·rename_i q hq
        have:=uE0 (id:=id) (z:=z) ht rfl hei hz hq
        simp only[aop,AS.sub_eval,hx,hi,R8,u5,AV.sub,ha j hbx,ha k hbi,this]
       ·cases he
      ·rename_i kd n hi
       cases h
       simp only[j5,ht,hei,u5,J0]at he
       split at he
       ·rename_i q hq
        have:=uE0 (id:=id) (z:=z) ht rfl hei hz hq
        simp only[aop,AS.sub_eval,hx,hi,R8,J0,AV.sub,ha j hbx,this,Y9]
       ·cases he
      ·cases h
     ·cases h
    ·cases h
     simp only[j5]at he
     simp only[aop,hev,he]
   ·cases h
  ·cases h
 ·split at h
  ·split at h
   ·cases h
    simp only[j5]at he
    simp only[aop,hev,he]
   ·cases h
  ·cases h
   simp only[j5,u5]at he
   simp only[aop,hev,he,u5]
 ·rename_i t x lo hi
  have e:(s.sub θ').eval=fun x=>(s.eval x).sub θ:=funext hev
  split at h
  ·rename_i elem _ _ _ _ id' z j kd ht hx hlo hhi
   split at h
   ·rename_i ei hei
    split at h
    ·rename_i hz
     cases h
     rw[Nat.beq_eq]at hz
     subst hz
     have hlo':lo=none:=by cases lo with | none=>rfl | some _=>simp at hlo
     subst hlo'
     cases hi with
     | none=>simp at hhi
     | some hh =>
      simp only[Option.map_some,Option.some.injEq]at hhi
      simp only[aop,e,hx,R8,Option.map_none,Option.map_some,hhi,J0,bt0,ht,hei,bound]
      simp
    ·cases h
   ·cases h
  ·cases h
   simp only[j5,u5,Option.map_map]at he
   simp only[aop,e,Option.map_none]
   simp only[Function.comp_def]at he
   rw[he]
   simp
 ·rename_i b args ts
  simp only[aop]
  have hm:args.toList.map (s.sub θ').eval=(args.toList.map s.eval).map (AV.sub θ'):=by
   rw[List.map_map];apply List.map_congr_left;intro x _;exact AS.sub_eval θ' s x
  rw[hm]
  refine sB0 (T:=T) (Φ:=Φ) ha hb hθ (fun a hmem=>?_) h he
  obtain⟨x,_,rfl⟩:=List.mem_map.1 hmem
  exact s.bnd_eval hb x
 ·rename_i t x i ok
  split at h
  ·rename_i kt et _ _ _ _ m ht hx
   split at h
   ·rename_i c hc
    obtain⟨_,k2⟩:=eV0 (θ:=θ) ha hb hc
    have hl:∀ b,H9 T (s.st.sub θ') t (.mm m) ((s.eval i).sub θ) b=H9 T (dc0 (c.sub θ)) t (.mm 0) ((s.eval i).sub θ) b:=fun b=>by simp only[H9,k2]
    split at h
    ·rename_i p fr1 hp
     split at h
     ·cases h
      simp only[j5]at he
      simp only[aop,hev,hx,dn0,hl,he]
     ·cases h
      simp only[j5]at he
      simp only[aop,hev,hx,dn0,hl,he]
    ·cases h
   ·cases h
  ·rename_i kt et _ _ _ _ m ht hx
   have hl:∀ b,H9 T (s.st.sub θ') t (θ m) ((s.eval i).sub θ) b=H9 T c9.none t (θ m) ((s.eval i).sub θ) b:=fun b=>iV0 _ _ (fun id e=>by have:=hθ m;rw[e]at this;exact this)
   have hb2:θ' m=θ m:=by have:=s.bnd_eval hb x;rw[hx]at this;simp only[AV.bnd,Nat.blt_eq]at this;exact ha m this
   split at h
   ·rename_i p fr1 hp
    split at h
    ·cases h
     simp only[j5,u5]at he
     simp only[aop,hev,hx,u5,hl,he]
    ·cases h
     simp only[j5,u5]at he
     simp only[aop,hev,hx,u5,hl,he]
   ·cases h
  ·rename_i kt et _ _ _ _ c ht hx
   have hl:∀ b,H9 T (s.st.sub θ') t (.rm (c.sub θ)) ((s.eval i).sub θ) b=H9 T c9.none t (.rm (c.sub θ)) ((s.eval i).sub θ) b:=fun b=>iV0 _ _ (fun id e=>by cases e)
   split at h
   ·rename_i p fr1 hp
    split at h
    ·cases h
     simp only[j5,fB0]at he
     simp only[aop,hev,hx,fB0,hl,he]
    ·cases h
     simp only[j5,fB0]at he
     simp only[aop,hev,hx,fB0,hl,he]
   ·cases h
  ·cases h
 ·rename_i t m k x
  have:=hU0 (T:=T) (Φ:=Φ) ha hb (s.bnd_eval hb _) (s.bnd_eval hb _) h he
  simp only[aop,AS.sub_eval]
  rw[this.1,this.2]
  simp
 ·rename_i t m k x
  have:=hU0 (T:=T) (Φ:=Φ) ha hb (s.bnd_eval hb _) (s.bnd_eval hb _) h he
  simp only[aop,AS.sub_eval]
  rw[this.1,this.2]
  simp
 ·cases h
end
mutual
theorem bm0{θ:Nat->AV}(hθ:Fit θ):∀ v:AV,v.contP=true->(v.sub θ).pur=true
 | .sc v,_=>by simp[AV.pur]
 | .sy i,_=>by rw[u5];exact(hθ i).pur
 | .rs es,h=>by simp only[AV.contP]at h;simp only[AV.sub,AV.pur];exact gv0 hθ es h
 | .agg cs,h=>by simp only[AV.contP]at h;simp only[AV.sub,AV.pur];exact Q5 hθ cs h
 | .tup cs,h=>by simp only[AV.contP]at h;simp only[AV.sub,AV.pur];exact Q5 hθ cs h
 | .any,h=>by simp[AV.contP]at h
 | .rp cs,h=>by simp only[AV.contP]at h;simp only[AV.sub,AV.pur];exact Q5 hθ cs h
 | .ms ..,h=>by simp[AV.contP]at h
 | .mp ..,h=>by simp[AV.contP]at h
 | .mm _,h=>by simp[AV.contP]at h
 | .it _,h=>by simp[AV.contP]at h
 | .rm c,h=>by simp only[AV.contP]at h;simp only[AV.sub,AV.pur];exact bm0 hθ c h
 | .fn _ a c,h=>by simp only[AV.contP,Bool.and_eq_true]at h;simp only[AV.sub,AV.pur,Bool.and_eq_true];exact⟨Q5 hθ a h.1,Q5 hθ c h.2⟩
 | .ss ..,h=>by simp[AV.contP]at h
theorem Q5{θ:Nat->AV}(hθ:Fit θ):∀ l:List AV,dd0 l=true->jD0 (Y8 θ l)=true
 | [],_=>by simp[Y8,jD0]
 | c::cs,h=>by
  simp only[dd0,Bool.and_eq_true]at h
  simp only[Y8,jD0,Bool.and_eq_true]
  exact⟨bm0 hθ c h.1,Q5 hθ cs h.2⟩
theorem gv0{θ:Nat->AV}(hθ:Fit θ):∀ l:List (List AV),rv0 l=true->ke0 (dp0 θ l)=true
 | [],_=>by simp[dp0,ke0]
 | c::cs,h=>by
  simp only[rv0,Bool.and_eq_true]at h
  simp only[dp0,ke0,Bool.and_eq_true]
  exact⟨Q5 hθ c h.1,gv0 hθ cs h.2⟩
end
theorem ec0{G:j4}{σ:c9}{w:World}(h:Rel G σ w)(pl:Nat->Option Pl){id z off len:Nat}{u:Value}(hr:Rep G (.ms id z off len) u){elem:TypeId}{size:Nat}{es:List (List AV)}(ho:σ.objs id=some (.row elem size es))
  (hle:off+len<=es.length) {l:List (List AV)} (hll:l.length=len)
  (hrows:∀ i (hi:i<l.length) (hi':off+i<es.length),l[i].length=es[off+i].length/\∀ j (hj:j<l[i].length) (hj':j<es[off+i].length) u,Rep G es[off+i][j] u->Rep (G.frozen σ w pl) l[i][j] u) :
  Rep (G.frozen σ w pl) (.rs l) u:=by
 cases hr with
 | msNil _ _ p hp hv =>
  have:l=[]:=List.eq_nil_of_length_eq_zero hll
  subst this;exact .rsNil
 | ms _ _ _ _ p hp hv hz a c hA hoff hlc hsp =>
  obtain⟨him,hw0,cells,hb,hps,hn,hcap,hrow⟩:=h.real ho hp hv
  have hlive:(G.frozen σ w pl).imm p.block=some (.cells cells elem (0,0)):=by
   simp only[j4.frozen]
   rw[if_pos ⟨id,_,p,ho,hp,hv,rfl⟩];exact hb
  rw[<- hll]
  by_cases hc0:c=0
  ·have:l=[]:=List.eq_nil_of_length_eq_zero (by omega)
   subst this
   exact .rs [] a c 0 (fun _ _=>undef) (fun _=>hsp) (by simp) (fun i hi=>by simp at hi) (fun i j hi=>by simp at hi) (fun i j hi=>by simp at hi)
  ·rw[hA hc0]
   refine .rs l _ c size (fun i j=>cells.getD ((off+i)*size+j) undef) (fun _=>rfl) (by omega) (fun i hi=>?_) (fun i j hi hj=>?_) (fun i j hi hj=>?_)
   ·have hi':off+i<es.length:=by omega
    rw[(hrows i hi hi').1];exact(hrow _ hi').1
   ·have hi':off+i<es.length:=by omega
    have hlt:(off+i)*size+j<cells.size:=by
     rw[hn]
     have:(off+i+1)*size<=p.cap*size:=Nat.mul_le_mul_right _ (by omega)
     rw[Nat.add_mul]at this;omega
    simp only[j4.cell,hlive,hps]
    have e3:off*size+i*size+j=(off+i)*size+j:=by rw[Nat.add_mul]
    rw[e3]
    simp[hlt]
   ·have hi':off+i<es.length:=by omega
    obtain⟨g1,g2⟩:=hrows i hi hi'
    have hsz:=(hrow _ hi').1
    have hlt:(off+i)*size+j<cells.size:=by
     rw[hn]
     have:(off+i+1)*size<=p.cap*size:=Nat.mul_le_mul_right _ (by omega)
     rw[Nat.add_mul]at this;omega
    have:=(hrow _ hi').2 j (by omega) hlt
    have hv':cells.getD ((off+i)*size+j) undef=cells[(off+i)*size+j]:=by simp[hlt]
    rw[hv']
    exact g2 j hj (by omega) _ this
theorem cT0{θ:Nat->AV}(hθ:Fit θ){σ:c9}{G:j4}{w:World}(h:Rel G (σ.sub θ) w)(pl:Nat->Option Pl)(hx:∀ id e z j,σ.objs id=some (.xrow e z j)->∃ es,θ j=.rs es)(hy:∀ id j,σ.objs id=some (.xmap (.sy j))->∃ es,θ j=.rs es) :
  ∀ (k:Nat) (v c:AV) (u:Value),aI0 σ k v=some c->Rep G (v.sub θ) u->Rep (G.frozen (σ.sub θ) w pl) (c.sub θ) u
 | 0,v,c,u,hd,_=>by simp[aI0]at hd
 | k+1,v,c,u,hd,hr=>by
  have ih:=cT0 hθ h pl hx hy k
  unfold aI0 at hd
  split at hd
  ·rename_i hp
   cases hd
   exact O5 (fun b o hb=>F7 h hb) hr (bm0 hθ _ hp)
  ·split at hd
   ·rename_i cs _
    split at hd
    ·rename_i l hl
     cases hd
     obtain⟨e1,e2⟩:=L9 hl
     simp only[cn0]at hr ⊢
     cases hr with
     | agg _ vs h1 h2 =>
      refine .agg _ vs (by rw[h1];simp[e1]) (fun i hi hi'=>?_)
      have hil:i<cs.length:=by simp at hi;omega
      have:=ih _ _ vs[i] (e2 i hil (by simpa using hi)) (by have:=h2 i (by simpa using hil) hi';simpa using this)
      simpa using this
    ·cases hd
   ·rename_i cs _
    split at hd
    ·rename_i l hl
     cases hd
     obtain⟨e1,e2⟩:=L9 hl
     simp only[jl0]at hr ⊢
     cases hr with
     | tup _ vs h1 h2 =>
      refine .tup _ vs (by rw[h1];simp[e1]) (fun i hi hi'=>?_)
      have hil:i<cs.length:=by simp at hi;omega
      have:=ih _ _ vs[i] (e2 i hil (by simpa using hi)) (by have:=h2 i (by simpa using hil) hi';simpa using this)
      simpa using this
    ·cases hd
   ·rename_i id z off len _
    split at hd
    ·rename_i elem size es ho
     split at hd
     ·rename_i hle
      split at hd
      ·rename_i l hl
       cases hd
       obtain⟨e1,e2⟩:=gh0 hl
       rw[cC0]at hr
       rw[do0]
       refine ec0 h pl hr (elem:=elem) (size:=size) (es:=es.map (List.map (AV.sub θ))) (by rw[c9.sub_objs,ho];rfl) (by simpa using hle) (by simp[e1];omega) (fun i hi hi'=>?_)
       have hi1:i<l.length:=by simpa using hi
       have hi2:off+i<es.length:=by simpa using hi'
       have hm:=e2 i (by rw[<- e1];exact hi1) hi1
       simp only[List.getElem_take,List.getElem_drop]at hm
       obtain⟨f1,f2⟩:=L9 hm
       refine⟨by simp[f1],fun j hj hj' u hu=>?_⟩
       have hj1:j<l[i].length:=by simpa using hj
       have:=ih _ _ u (f2 j (by omega) hj1) (by simpa using hu)
       simpa using this
      ·cases hd
     ·cases hd
    ·cases hd
   ·rename_i id z i _
    split at hd
    ·rename_i elem size j ho
     split at hd
     ·rename_i hji
      cases hd
      subst hji
      obtain⟨es,hes⟩:=hx id elem size j ho
      rw[R8,hes]at hr
      rw[u5,hes]
      refine ec0 h pl hr (elem:=elem) (size:=size) (es:=es) (by rw[c9.sub_objs,ho];simp[l7.sub,hes,rowsOf]) (by simp[rowsOf]) (by simp[rowsOf]) (fun i hi hi'=>?_)
      have hpur:=(hθ j).pur
      rw[hes]at hpur
      simp only[Nat.zero_add]
      exact⟨trivial,fun a ha ha' u hu=>O5 (fun b o hb=>F7 h hb) hu (V2 hpur i hi a ha)⟩
     ·cases hd
    ·cases hd
   ·rename_i id _
    split at hd
    ·rename_i elem size cs ho
     split at hd
     ·rename_i l hl
      cases hd
      obtain⟨e1,e2⟩:=L9 hl
      rw[kr0]at hr
      rw[oq0]
      cases hr with
      | mp _ _ _ p hp =>
      have ho':(σ.sub θ).objs id=some (.row elem size [cs.map (AV.sub θ)]):=by rw[c9.sub_objs,ho];rfl
      have hv:p.virt=false:=by
       rcases h.lies ho' hp with ⟨_,_,_,e3⟩ | ⟨e3,_⟩
       ·cases e3
       ·exact e3
      obtain⟨him,hw0,cells,hb,hps,hn,hcap,hrow⟩:=h.real ho' hp hv
      have hlive:(G.frozen (σ.sub θ) w pl).imm p.block=some (.cells cells elem (0,0)):=by
       simp only[j4.frozen]
       rw[if_pos ⟨id,_,p,ho',hp,hv,rfl⟩];exact hb
      obtain⟨r1,r2⟩:=hrow 0 (by simp)
      have hlen:cs.length=size:=by simpa using r1
      have hsz:size<=cells.size:=by rw[hn];have:1*size<=p.cap*size:=Nat.mul_le_mul_right _ (by simpa using hcap);omega
      refine .rp _ _ (fun j=>cells.getD j undef) rfl (fun j hj=>?_) (fun j hj=>?_)
      ·have hj1:j<l.length:=by simpa using hj
       have hj2:j<cells.size:=by omega
       simp only[j4.cell,hlive]
       have e3:0*p.size+0+j=j:=by omega
       rw[e3]
       simp[hj2]
      ·have hj1:j<l.length:=by simpa using hj
       have hj2:j<cells.size:=by omega
       have hj3:j<cs.length:=by omega
       have:=r2 j (by simpa using hj3) (by omega)
       have hv':cells.getD j undef=cells[j]:=by simp[hj2]
       rw[hv']
       have h5:Rep G ((cs[j]).sub θ) cells[j]:=by
        have e4:cells[0*size+j]'(by omega)=cells[j]:=by congr 1;omega
        rw[<- e4]
        simpa using this
       have:=ih _ _ _ (e2 j hj3 hj1) h5
       simpa using this
     ·cases hd
    ·cases hd
   ·rename_i id _
    have fin:∀ rows:List (List AV),(σ.sub θ).objs id=some (P3 (.rs rows))->(AV.rs rows).pur=true->Rep (G.frozen (σ.sub θ) w pl) (.rm (.rs rows)) u:=fun rows ho' hpur=>by
     rw[dn0]at hr
     cases hr with
     | mm _ p hp =>
     have hv:p.virt=false:=by
      rcases h.lies ho' hp with ⟨_,_,_,e3⟩ | ⟨e3,_⟩
      ·simp[P3]at e3
      ·exact e3
     obtain⟨him,hw0,ents,hb,hsz,hents⟩:=h.real ho' hp hv
     have hlive:(G.frozen (σ.sub θ) w pl).imm p.block=some (.map ents rows.length):=by
      simp only[j4.frozen]
      rw[if_pos ⟨id,_,p,ho',hp,hv,rfl⟩];exact hb
     have hl:ents.toList.length=rows.length:=by
      have:ents.size=(w8 0 rows).length:=hsz
      rw[F2]at this
      simpa using this
     have hent:∀ i (h1:i<rows.length) (h2:i<ents.toList.length),ents.toList[i].key=B6 (aK0 rows) (D5 i rows[i]).1/\Rep G (D5 i rows[i]).2.1 ents.toList[i].val/\ents.toList[i].born=i:=fun i h1 h2=>by
      have h3:i<(w8 0 rows).length:=by rw[F2];exact h1
      have h4:=hents i h3 (by simpa using h2)
      simp only[rowsOf]at h4
      rw[Y2 _ _ _ h3 h1,Nat.zero_add]at h4
      simpa[gp0]using h4
     refine .rm rows p.block ents.toList hlive hl (fun i h1 h2=>⟨(hent i h1 h2).1,(hent i h1 h2).2.2⟩) (fun i h1 h2=>?_)
     refine O5 (fun b o hb=>F7 h hb) (hent i h1 h2).2.1 ?_
     have hrow:=V2 hpur i h1
     generalize rows[i]=r at hrow
     unfold D5
     split
     ·exact hrow 1 (by simp)
     ·simp[AV.pur]
    split at hd
    ·rename_i j ho
     cases hd
     obtain⟨es,hes⟩:=hy id j ho
     rw[fB0,u5,hes]
     have hpur:=(hθ j).pur
     rw[hes]at hpur
     exact fin es (by rw[c9.sub_objs,ho];simp[l7.sub,hes]) hpur
    ·rename_i ho
     cases hd
     rw[fB0,do0]
     exact fin [] (by rw[c9.sub_objs,ho];simp[l7.sub,P3,rowsOf,w8,aK0]) (by simp[AV.pur,ke0])
    ·cases hd
   ·rename_i f a c0 _
    split at hd
    ·rename_i a' c' ha' hc'
     cases hd
     obtain⟨e1,e2⟩:=L9 ha'
     obtain⟨g1,g2⟩:=L9 hc'
     rw[qV0]at hr ⊢
     cases hr with
     | fn _ _ _ fv cv h1 h2 h3 h4 =>
      refine .fn f _ _ fv cv (by simp at h1 ⊢;omega) (by simp at h2 ⊢;omega) (fun i hi hi'=>?_) (fun i hi hi'=>?_)
      ·have hi1:i<a'.length:=by simpa using hi
       have:=ih _ _ fv[i] (e2 i (by omega) hi1) (by have:=h3 i (by simp;omega) hi';simpa using this)
       simpa using this
      ·have hi1:i<c'.length:=by simpa using hi
       have:=ih _ _ cv[i] (g2 i (by omega) hi1) (by have:=h4 i (by simp;omega) hi';simpa using this)
       simpa using this
    ·cases hd
   ·cases hd
end Go.Ab
