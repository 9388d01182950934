/- A part of the proof; its readable source lies in wip of the prover's repo (squeezed here for the limit of bytes). -/
import Derived.Calls
import Derived.Below
import Derived.Laws.Cells
import Derived.Laws.Rows
import Derived.Laws.StructEq
import Derived.Orders
import Derived.Scope
set_option linter.unusedVariables false
set_option linter.unusedSimpArgs false
set_option linter.unusedSectionVars false
open Array renaming ext'->dm,ext->iB,getElem?_append->fJ,getElem?_eq_getElem->aH,getElem?_eq_none->dg,getElem?_eq_some_iff->aL,getElem?_push->bA,getElem?_setIfInBounds->bY,getElem_setIfInBounds->eD,map->kV,mapM_eq_mapM_toList->hJ,range->bd,replicate->bn
open BEq renaming rfl->kU
open BitVec renaming ofInt->bu
open Bool renaming and_eq_true->ab,false_eq_true->aq,not_eq_true->bL,not_false->aY,or_eq_true->br
open Go.Act renaming put->kg
open Go.Addr renaming add->kp
open Go.Builtin renaming append_->cH,cap_->jQ,clear_->gS,delete_->gH,firstCells->aO,growBy->gR,lenOf->jD,len_->dh,max2->jR,min2->jS,nextslicecap->cW,zeroCells->bB
open Go.Call renaming operands->fB
open Go.Deferred renaming ofValue->gm
open Go.Instr renaming alloc->kC,build->iQ,buildSlice->js,checkKey->bP,entry->kE,entryStore->jv,extract->ke,field->kD,fieldAt->il,fill->kN,findAsking->gG,findKey->f_,findNow->ep,index->iO,indexAt->fm,keyThatStays->eM,loadAt->fI,lookup->iD,mapEntry->fP,mapUpdate->fK,next->fV,range->jH,sameBits->dZ,sameNow->im,slice->fq,sliceAt->dN,sliceBound->gF,sliceBounds->dT,storeAt->kc,sureAddr->dX
open Go.IntKind renaming i64->aa
open Go.Mode renaming plain->jt
open Go.Op renaming equal->fQ,equalIn->fz,intArith->k_,maxDepth->eh,operands->aI,stringOp->lf,unary->kM
open Go.Oper renaming looksAt->kF,upon->eF,wp->fO
open Go.Question renaming appendCap->eE,cut->jE,forced->fA
open Go.Region renaming binds->cz,wanted->de
open Go.Result renaming andThen_ok->ae
open Go.Sem renaming run->ey,run_bind->ao,run_map->kT,run_pure->au
open Go.Value renaming int->bk
open Int renaming toNat_natCast->cS
open List renaming all_cons->bU,all_eq_true->aj,append_assoc->cL,drop->kZ,drop_append->jC,eq_of_mem_replicate->fg,ext_getElem->jF,flatten_append->iZ,flatten_cons->ck,foldlM_cons->jG,foldl_cons->iC,getD->iF,getElem?_append->cE,getElem?_cons_succ->aR,getElem?_cons_zero->cq,getElem?_drop->je,getElem?_eq_getElem->ai,getElem?_eq_none->bD,getElem?_eq_some_iff->ar,getElem?_take->gk,getElem?_toArray->cT,getElem_append_left->dI,getElem_append_right->eT,getElem_map->cn,getElem_mem->aw,getElem_of_mem->bH,getElem_take->ju,length_append->aK,length_cons->ay,length_eq_one_iff->iE,length_nil->bx,length_pos_iff->cR,length_replicate->iH,length_take->ik,mapM_cons->kf,map_congr_left->bo,map_cons->az,mem_append->aQ,mem_cons->aC,mem_cons_of_mem->bO,mem_filterMap->dy,mem_map->aM,modify_succ_cons->iJ,modify_zero_cons->iI,nil_append->aT,range'->dx,range->aJ,replicate->bm,replicate_succ->i_,take->gW,take_length_add_append->gX
open List.cons renaming injEq->cG
open Nat renaming add_assoc->dq,add_comm->gr,add_left_cancel->jh,add_mul->bI,add_zero->cM,beq->aB,div_add_mod->gq,div_eq_of_lt->jP,div_lt_iff_lt_mul->fN,le_add_right->bc,le_refl->ax,le_trans->bC,lt_of_lt_of_le->dK,lt_or_ge->cg,min_le_left->kh,min_le_right->jT,mod_lt->gp,mul_add_div->kb,mul_comm->dY,mul_le_mul_right->bq,mul_one->jf,strongRecOn->gu,sub_zero->iR,testBit_or->kq,zero_add->aG,zero_le->cN,zero_mul->iP
open Option renaming bind_some->jg,getD_none->gT,getD_some->bS,map_some->ak
open Option.some renaming inj->aW,injEq->ah
open Prod.mk renaming injEq->cy
abbrev Aa:=@cond_false
abbrev Ac:=@cond_true
abbrev Ad:=@decide_eq_true_eq
abbrev Ae:=@if_neg
abbrev Af:=@if_pos
abbrev Ag:=@decide_false
abbrev Ah:=@if_false
abbrev Ai:=@decide_true
abbrev Aj:=@of_decide_eq_true
abbrev Ak:=@decide_eq_false
abbrev Al:=@if_true
abbrev Am:=@absurd
abbrev An:=@decide_eq_false_iff_not
abbrev Ao:=@decide_eq_true
abbrev Ap:=@congrArg
abbrev Aq:=@true_and
namespace Go.Ab
inductive AV where
 | any
 | sc (v:Value)
 | rs (es:List (List AV))
 | rp (cs:List AV)
 | ms (id size off len:Nat)
 | mp (id i j:Nat)
 | mm (id:Nat)
 | it (id:Nat)
 | fn (f:Fn) (first cap:List AV)
 | agg (cs:List AV)
 | tup (vs:List AV)
 | sy (i:Nat)
 | ss (id size i:Nat)
 | xp (id k off:Nat)
 | rm (c:AV)
inductive l6 where
 | row (elem:TypeId) (size:Nat) (es:List (List AV))
 | map (agg:Bool) (es:List (List Int×AV×Nat)) (clock:Nat)
 | siter (s:ByteArray) (pos:Nat)
 | miter (m:Option Nat) (since:Nat) (seen:List Nat) (stepped:Nat)
 | xrow (elem:TypeId) (size i:Nat)
 | xmap (c:AV)
 | xiter (s p:AV)
 | frow (elem:TypeId) (size:Nat) (c:AV) (cols:List (Nat×TypeId×Nat)) (k:AV) (off:Nat) (v:Option AV)
structure Pl where
 block:Nat
 size:Nat
 cap:Nat
 virt:Bool:=false
structure j4 where
 w0:World
 imm:Nat->Option Obj
 pl:Nat->Option Pl
def j4.cell(G:j4)(b o:Nat):Option Value :=
 match G.imm b with
 | some (.cells cs _ _)=>cs[o]?
 | _=>none
structure j4.le(G G':j4):Prop where
 w0:G'.w0=G.w0
 imm:∀ b o,G.imm b=some o->G'.imm b=some o
 pl:∀ i p,G.pl i=some p->G'.pl i=some p
theorem j4.le.refl(G:j4):G.le G:=⟨rfl,fun _ _ h=>h,fun _ _ h=>h⟩
theorem j4.le.trans{A B C:j4}(h:A.le B)(k:B.le C):A.le C :=⟨k.w0.trans h.w0,fun b o x=>k.imm b o (h.imm b o x),fun i p x=>k.pl i p (h.pl i p x)⟩
theorem j4.le.cell{G G':j4}(h:G.le G'){b o:Nat}{v:Value}(hc:G.cell b o=some v):G'.cell b o=some v:=by
 unfold j4.cell at *;cases a:G.imm b with
 | none=>simp[a]at hc
 | some x=>rw[h.imm b x a];simpa[a]using hc
def B0(agg:Bool)(l:List Int):Value :=if agg then .agg (l.map (bk .i64)).toArray else .int .i64 (l.headD 0)
def AV.i64s:List AV->Option (List Int)
 | []=>some []
 | .sc (.int .i64 n)::cs=>match AV.i64s cs with
  | some l=>some (n::l)
  | none=>none
 | _::_=>none
def AV.key:AV->Option (Bool×List Int)
 | .sc (.int .i64 n)=>some (false,[n])
 | .agg cs=>match AV.i64s cs with
  | some l=>some (true,l)
  | none=>none
 | _=>none
def D5(j:Nat):List AV->List Int×AV×Nat
 | [k,v]=>(match k.key with | some (_,l)=>l | none=>[0],v,j)
 | _=>([0],.sc (.bool false),j)
def y3:Nat->List (List AV)->List (List Int×AV×Nat)
 | _,[]=>[]
 | j,r::rs=>D5 j r::y3 (j+1) rs
def aW0:List (List AV)->Bool
 | [k,_]::_=>match k.key with
  | some (b,_)=>b
  | none=>false
 | _=>false
inductive Rep (G:j4):AV->Value->Prop
 | any (v:Value):Rep G .any v
 | sc (v:Value):Rep G (.sc v) v
 | rsNil:Rep G (.rs []) (.slice none 0 0)
 | rs (es:List (List AV)) (a:Addr) (cap size:Nat) (val:Nat->Nat->Value) (hs:cap≠0->a.spot=none) (hc:es.length<=cap)
   (hlen:∀ i (h:i<es.length),es[i].length=size)
   (himm:∀ i j,i<es.length->j<size->G.cell a.block (a.off+i*size+j)=some (val i j))
   (hrep:∀ i j (hi:i<es.length) (hj:j<es[i].length),Rep G (es[i][j]) (val i j)):Rep G (.rs es) (.slice (some a) es.length cap)
 | rp (cs:List AV) (a:Addr) (val:Nat->Value) (hs:a.spot=none)
   (himm:∀ j,j<cs.length->G.cell a.block (a.off+j)=some (val j))
   (hrep:∀ j (hj:j<cs.length),Rep G (cs[j]) (val j)):Rep G (.rp cs) (.pointer (some a))
 | ms (id size off len:Nat) (p:Pl) (hp:G.pl id=some p) (hv:p.virt=false) (hz:p.size=size) (a:Addr) (c:Nat) (ha:c≠0->a=⟨p.block,off*p.size,none⟩) (hoff:off+c=p.cap) (hl:len<=c) (hsp:a.spot=none) :
   Rep G (.ms id size off len) (.slice (some a) len c)
 | msNil (id size:Nat) (p:Pl) (hp:G.pl id=some p) (hv:p.virt=true):Rep G (.ms id size 0 0) (.slice none 0 0)
 | mp (id i j:Nat) (p:Pl) (hp:G.pl id=some p):Rep G (.mp id i j) (.pointer (some ⟨p.block,i*p.size+j,none⟩))
 | mm (id:Nat) (p:Pl) (hp:G.pl id=some p):Rep G (.mm id) (.map (some p.block))
 | it (id:Nat) (p:Pl) (hp:G.pl id=some p):Rep G (.it id) (.pointer (some ⟨p.block,0,none⟩))
 | rm (rows:List (List AV)) (b:Nat) (ents:List MapEntry) (himm:G.imm b=some (.map ents.toArray rows.length)) (hlen:ents.length=rows.length)
   (iB0:∀ i (h:i<rows.length) (h':i<ents.length),ents[i].key=B0 (aW0 rows) (D5 i rows[i]).1/\ents[i].born=i)
   (hrep:∀ i (h:i<rows.length) (h':i<ents.length),Rep G (D5 i rows[i]).2.1 ents[i].val):Rep G (.rm (.rs rows)) (.map (some b))
 | fn (f:Fn) (first cap:List AV) (fv cv:List Value) (h1:fv.length=first.length) (h2:cv.length=cap.length)
   (hf:∀ i (h:i<first.length) (h':i<fv.length),Rep G first[i] fv[i]) (hc:∀ i (h:i<cap.length) (h':i<cv.length),Rep G cap[i] cv[i]) :
   Rep G (.fn f first cap) (.func f fv.toArray cv.toArray)
 | agg (cs:List AV) (vs:List Value) (h1:vs.length=cs.length) (h:∀ i (h:i<cs.length) (h':i<vs.length),Rep G cs[i] vs[i]):Rep G (.agg cs) (.agg vs.toArray)
 | tup (cs:List AV) (vs:List Value) (h1:vs.length=cs.length) (h:∀ i (h:i<cs.length) (h':i<vs.length),Rep G cs[i] vs[i]):Rep G (.tup cs) (.tuple vs.toArray)
def B8(G:j4)(cs:List AV)(vs:List Value):Prop:=vs.length=cs.length/\∀ i (h:i<cs.length) (h':i<vs.length),Rep G cs[i] vs[i]
theorem B8.nil(G:j4):B8 G [] []:=⟨rfl,fun i h=>by simp at h⟩
theorem B8.cons{G:j4}{c:AV}{v:Value}{cs:List AV}{vs:List Value}(h:Rep G c v)(hs:B8 G cs vs):B8 G (c::cs) (v::vs):=by
 refine⟨by simp[hs.1],fun i h1 h2=>?_⟩;cases i with
 | zero=>exact h
 | succ i=>exact hs.2 i (by simpa using h1) (by simpa using h2)
theorem B8.nil_inv{G:j4}{vs:List Value}(h:B8 G [] vs):vs=[]:=by have:=h.1;simpa using this
theorem B8.cons_inv{G:j4}{c:AV}{cs:List AV}{vs:List Value}(h:B8 G (c::cs) vs):∃ v a,vs=v::a/\Rep G c v/\B8 G cs a:=by
 cases vs with
 | nil=>have:=h.1;simp at this
 | cons v vs=>refine⟨v,vs,rfl,h.2 0 (by simp) (by simp),by have:=h.1;simpa using this,fun i h1 h2=>?_⟩;have:=h.2 (i+1) (by simpa using h1) (by simpa using h2);simpa using this
theorem B8.append{G:j4}{cs a:List AV}{vs us:List Value}(h:B8 G cs vs)(k:B8 G a us):B8 G (cs++a) (vs++us):=by
 induction cs generalizing vs with
 | nil=>rw[h.nil_inv];simpa using k
 | cons c cs b=>obtain⟨v,d,rfl,h1,h2⟩:=h.cons_inv;exact(b h2).cons h1
theorem B8.get{G:j4}{cs:List AV}{vs:List Value}(h:B8 G cs vs){i:Nat}{c:AV}(hi:cs[i]?=some c):∃ v,vs[i]?=some v/\Rep G c v:=by obtain⟨a,rfl⟩:=ar.1 hi;exact⟨vs[i]'(by rw[h.1];exact a),ai _,h.2 i a (by rw[h.1];exact a)⟩
theorem B8.drop{G:j4}{cs:List AV}{vs:List Value}(h:B8 G cs vs)(n:Nat):B8 G (cs.drop n) (vs.drop n):=by refine⟨by simp[h.1],fun i h1 h2=>?_⟩;have:=h.2 (n+i) (by simp at h1;omega) (by simp at h2;omega);simpa using this
theorem B8.take{G:j4}{cs:List AV}{vs:List Value}(h:B8 G cs vs)(n:Nat):B8 G (cs.take n) (vs.take n):=by refine⟨by simp[h.1],fun i h1 h2=>?_⟩;have:=h.2 i (by simp at h1;omega) (by simp at h2;omega);simpa using this
theorem Rep.mono{G G':j4}(e:G.le G'){c:AV}{v:Value}(h:Rep G c v):Rep G' c v:=by
 induction h with
 | any v=>exact .any v
 | sc v=>exact .sc v
 | rsNil=>exact .rsNil
 | rs es a cap size val hs hc hlen himm _ d=>exact .rs es a cap size val hs hc hlen (fun i j h1 h2=>e.cell (himm i j h1 h2)) d
 | rp cs a val hs himm _ d=>exact .rp cs a val hs (fun j h=>e.cell (himm j h)) d
 | ms id size off len p hp hv hz a c ha l hl hsp=>exact .ms id size off len p (e.pl _ _ hp) hv hz a c ha l hl hsp
 | msNil id size p hp hv=>exact .msNil id size p (e.pl _ _ hp) hv
 | mp id i j p hp=>exact .mp id i j p (e.pl _ _ hp)
 | mm id p hp=>exact .mm id p (e.pl _ _ hp)
 | it id p hp=>exact .it id p (e.pl _ _ hp)
 | rm rows b ents himm hlen iB0 _ d=>exact .rm rows b ents (e.imm _ _ himm) hlen iB0 d
 | fn f first cap fv cv h1 h2 _ _ g k=>exact .fn f first cap fv cv h1 h2 g k
 | agg cs vs h1 _ d=>exact .agg cs vs h1 d
 | tup cs vs h1 _ d=>exact .tup cs vs h1 d
theorem B8.mono{G G':j4}(a:G.le G'){cs:List AV}{vs:List Value}(h:B8 G cs vs):B8 G' cs vs:=⟨h.1,fun i h1 h2=>(h.2 i h1 h2).mono a⟩
inductive Tr (α:Type) where
 | leaf
 | node (v:Option α) (l r:Tr α)
def Tr.get{α:Type}:Tr α->Nat->Option α
 | .leaf,_=>none
 | .node v _ _,0=>v
 | .node _ l r,k+1=>match k%2 with
  | 0=>l.get (k / 2)
  | _=>r.get (k / 2)
def Tr.setF{α:Type}(v:Option α):Nat->Nat->Tr α->Tr α
 | _,0,.leaf=>.node v .leaf .leaf
 | _,0,.node _ l r=>.node v l r
 | 0,_+1,t=>t
 | f+1,k+1,.leaf=>match k%2 with
  | 0=>.node none (setF v f (k / 2) .leaf) .leaf
  | _=>.node none .leaf (setF v f (k / 2) .leaf)
 | f+1,k+1,.node x l r=>match k%2 with
  | 0=>.node x (setF v f (k / 2) l) r
  | _=>.node x l (setF v f (k / 2) r)
def Tr.set{α:Type}(t:Tr α)(k:Nat)(v:Option α):Tr α:=Tr.setF v k k t
theorem Tr.get_leaf{α:Type}(i:Nat):(Tr.leaf:Tr α).get i=none:=by cases i<;>rfl
theorem Tr.get_setF{α:Type}(v:Option α):∀ (f k:Nat) (t:Tr α) (i:Nat),k<=f->(Tr.setF v f k t).get i=if i=k then v else t.get i
 | f,0,.leaf,i,_=>by
  cases i with
  | zero=>cases f<;>rfl
  | succ i=>
   have:(Tr.setF v f 0 (.leaf:Tr α))=.node v .leaf .leaf:=by cases f<;>rfl
   rw[this,Ae (by omega)];simp only[Tr.get];split<;>simp[Tr.get_leaf]
 | f,0,.node x l r,i,_=>by
  have:(Tr.setF v f 0 (.node x l r))=.node v l r:=by cases f<;>rfl
  rw[this];cases i with
  | zero=>rfl
  | succ i=>rw[Ae (by omega)];rfl
 | 0,k+1,t,i,h=>by omega
 | f+1,k+1,.leaf,i,h=>by
  cases i with
  | zero=>rw[Ae (by omega)];simp only[Tr.setF];split<;>rfl
  | succ i=>
   simp only[Tr.setF];have hk:k / 2<=f:=by omega
   split
   ·rename_i e1
    simp only[Tr.get];split
    ·rename_i e2
     rw[Tr.get_setF v f (k / 2) .leaf (i / 2) hk];by_cases e:i=k
     ·subst e;simp
     rw[Ae (by omega),Ae (by omega)];simp[Tr.get_leaf]
    rename_i e2;replace e2:¬ i%2=0:=e2;rw[Ae (by omega)]
   rename_i e1;replace e1:¬ k%2=0:=e1;simp only[Tr.get];split
   ·rename_i e2
    rw[Ae (by omega)]
   rename_i e2;replace e2:¬ i%2=0:=e2;rw[Tr.get_setF v f (k / 2) .leaf (i / 2) hk];by_cases e:i=k
   ·subst e;simp
   rw[Ae (by omega),Ae (by omega)];simp[Tr.get_leaf]
 | f+1,k+1,.node x l r,i,h=>by
  cases i with
  | zero=>rw[Ae (by omega)];simp only[Tr.setF];split<;>rfl
  | succ i=>
   simp only[Tr.setF];have hk:k / 2<=f:=by omega
   split
   ·rename_i e1
    simp only[Tr.get];split
    ·rename_i e2
     rw[Tr.get_setF v f (k / 2) l (i / 2) hk];by_cases e:i=k
     ·subst e;simp
     rw[Ae (by omega),Ae (by omega)]
    rename_i e2;replace e2:¬ i%2=0:=e2;rw[Ae (by omega)]
   rename_i e1;replace e1:¬ k%2=0:=e1;simp only[Tr.get];split
   ·rename_i e2
    rw[Ae (by omega)]
   rename_i e2;replace e2:¬ i%2=0:=e2;rw[Tr.get_setF v f (k / 2) r (i / 2) hk];by_cases e:i=k
   ·subst e;simp
   rw[Ae (by omega),Ae (by omega)]
theorem Tr.get_set{α:Type}(t:Tr α)(k:Nat)(v:Option α)(i:Nat):(t.set k v).get i=if i=k then v else t.get i:=Tr.get_setF v k k t i (ax _)
structure j3 where
 next:Nat
 tr:Tr l6
 low:Nat:=0
def j3.objs(σ:j3)(i:Nat):Option l6:=σ.tr.get i
def N1(G:j4)(p:Pl):l6->Option Obj->Prop
 | .row elem size es,a=>∃ cs:Array Value,a=some (.cells cs elem (0,0))/\p.size=size/\cs.size=p.cap*size/\es.length<=p.cap /\
   ∀ i (h:i<es.length),es[i].length=size/\∀ j (hj:j<es[i].length) (h':i*size+j<cs.size),Rep G es[i][j] cs[i*size+j]
 | .map agg es clock,a=>∃ ents:Array MapEntry,a=some (.map ents clock)/\ents.size=es.length /\
   ∀ i (h:i<es.length) (h':i<ents.size),ents[i].key=B0 agg es[i].1/\Rep G es[i].2.1 ents[i].val/\ents[i].born=es[i].2.2
 | .siter s pos,a=>a=some (.stringIter s pos)
 | .xrow _ _ _,_=>False
 | .xmap _,_=>False
 | .frow ..,_=>False
 | .xiter _ _,_=>False
 | .miter m since seen stepped,a=>∃ b,a=some (.mapIter b since seen.toArray stepped) /\
   (match m with | none=>b=none | some id=>∃ p,G.pl id=some p/\b=some p.block)
theorem N1.mono{G G':j4}(b:G.le G'){p:Pl}{o:l6}{d:Option Obj}(h:N1 G p o d):N1 G' p o d:=by
 cases o with
 | row elem size es=>obtain⟨cs,h1,h2,a,g,f⟩:=h;exact⟨cs,h1,h2,a,g,fun i hi=>⟨(f i hi).1,fun j hj h'=>((f i hi).2 j hj h').mono b⟩⟩
 | map agg es clock=>obtain⟨ents,h1,h2,a⟩:=h;exact⟨ents,h1,h2,fun i hi h'=>⟨(a i hi h').1,(a i hi h').2.1.mono b,(a i hi h').2.2⟩⟩
 | siter s pos=>exact h
 | xrow e s i=>exact h
 | xmap c=>exact h
 | frow=>exact h
 | xiter s p=>exact h
 | miter m since seen stepped=>
  obtain⟨k,h1,h2⟩:=h;refine⟨k,h1,?_⟩;cases m with
  | none=>exact h2
  | some id=>obtain⟨p,hp,e⟩:=h2;exact⟨p,b.pl _ _ hp,e⟩
theorem N1.isSome{G:j4}{p:Pl}{o:l6}{a:Option Obj}(h:N1 G p o a):a.isSome=true:=by
 cases o with
 | row elem size es=>obtain⟨cs,h1,_⟩:=h;simp[h1]
 | map agg es clock=>obtain⟨ents,h1,_⟩:=h;simp[h1]
 | siter s pos=>simp only[N1]at h;simp[h]
 | xrow e s i=>exact h.elim
 | xmap c=>exact h.elim
 | frow=>exact h.elim
 | xiter s p=>exact h.elim
 | miter m since seen stepped=>obtain⟨b,h1,_⟩:=h;simp[h1]
def Lies(G:j4)(w:World)(p:Pl)(o:l6):Prop :=(p.virt=true/\∃ e s,o=.row e s [])\/(p.virt=false/\G.imm p.block=none/\G.w0.heap.size<=p.block/\N1 G p o w.heap[p.block]?)
class B6 where
 cell:Nat->Nat->Option Value
variable [B6]
structure Rel(G:j4)(σ:j3)(w:World):Prop where
 os:w.os=G.w0.os
 tape:w.tape=G.w0.tape
 output:w.output=G.w0.output
 size:G.w0.heap.size<=w.heap.size
 imm:∀ b o,G.imm b=some o->w.heap[b]?=some o
 fresh:∀ id,σ.next<=id->G.pl id=none
 objs:∀ id o,σ.objs id=some o->∃ p,G.pl id=some p/\Lies G w p o
 sep:∀ i j oi oj pi pj,σ.objs i=some oi->σ.objs j=some oj->G.pl i=some pi->G.pl j=some pj->pi.virt=false->pj.virt=false->pi.block=pj.block->i=j
 glob:∀ b o v,B6.cell b o=some v->G.cell b o=some v
theorem Rel.lt{G:j4}{σ:j3}{w:World}(h:Rel G σ w){b:Nat}{o:Obj}(a:G.imm b=some o):b<w.heap.size:=by
 have:=h.imm b o a;rcases cg b w.heap.size with h' | h'
 ·exact h'
 rw[dg h']at this;cases this
theorem Rel.lies{G:j4}{σ:j3}{w:World}(h:Rel G σ w){id:Nat}{o:l6}{p:Pl}(b:σ.objs id=some o)(hp:G.pl id=some p):Lies G w p o:=by obtain⟨c,a,hl⟩:=h.objs id o b;rw[hp]at a;cases a;exact hl
theorem Rel.real{G:j4}{σ:j3}{w:World}(h:Rel G σ w){id:Nat}{o:l6}{p:Pl}(a:σ.objs id=some o)(hp:G.pl id=some p)(hv:p.virt=false) :
  G.imm p.block=none/\G.w0.heap.size<=p.block/\N1 G p o w.heap[p.block]?:=by
 rcases h.lies a hp with ⟨h1,_⟩ | ⟨_,h2⟩
 ·rw[hv]at h1;cases h1
 exact h2
theorem Rel.obj_lt{G:j4}{σ:j3}{w:World}(h:Rel G σ w){id:Nat}{o:l6}{p:Pl}(a:σ.objs id=some o)(hp:G.pl id=some p)(hv:p.virt=false):p.block<w.heap.size:=by
 have:=(h.real a hp hv).2.2.isSome;rcases cg p.block w.heap.size with h' | h'
 ·exact h'
 rw[dg h']at this;cases this
theorem Rel.id_lt{G:j4}{σ:j3}{w:World}(h:Rel G σ w){id:Nat}{p:Pl}(hp:G.pl id=some p):id<σ.next:=by
 rcases cg id σ.next with h' | h'
 ·exact h'
 rw[h.fresh id h']at hp;cases hp
theorem Rel.cell{G:j4}{σ:j3}{w:World}(h:Rel G σ w){b o:Nat}{v:Value}(hc:G.cell b o=some v):w.cell? ⟨b,o,none⟩=some v:=by
 unfold j4.cell at hc;cases a:G.imm b with
 | none=>simp[a]at hc
 | some x=>have:=h.imm b x a;simp only[a]at hc;cases x<;>simp at hc;simp[World.cell?,this,hc]
theorem Rel.drawn{G:j4}{σ:j3}{w:World}(h:Rel G σ w)(n:Nat):Rel G σ { w with drawn:=n } :=⟨h.os,h.tape,h.output,h.size,h.imm,h.fresh,h.objs,h.sep,h.glob⟩
theorem Rel.less{G:j4}{σ σ':j3}{w:World}(h:Rel G σ w)(a:σ'.next=σ.next)(hf:∀ i o,σ'.objs i=some o->σ.objs i=some o):Rel G σ' w :=⟨h.os,h.tape,h.output,h.size,h.imm,by rw[a];exact h.fresh,fun id o b=>h.objs id o (hf _ _ b),fun i j oi oj pi pj h1 h2=>h.sep i j oi oj pi pj (hf _ _ h1) (hf _ _ h2),h.glob⟩
theorem Rel.next{G:j4}{σ:j3}{w:World}(h:Rel G σ w){n:Nat}(a:σ.next<=n):Rel G { σ with next:=n } w :=⟨h.os,h.tape,h.output,h.size,h.imm,fun id hid=>h.fresh id (bC a hid),h.objs,h.sep,h.glob⟩
def j4.place(G:j4)(id:Nat)(p:Pl):j4:={ G with pl:=fun i=>if i=id then some p else G.pl i }
theorem j4.place_le{G:j4}{id:Nat}{p:Pl}(h:G.pl id=none):G.le (G.place id p) :=
 ⟨rfl,fun _ _ h=>h,fun i q a=>by
  simp only[j4.place];split
  ·rename_i e;subst e;rw[h]at a;cases a
  exact a⟩
theorem j4.place_same(G:j4)(id:Nat)(p:Pl):(G.place id p).pl id=some p:=by simp[j4.place]
def j3.set(σ:j3)(id:Nat)(o:l6):j3:={ σ with tr:=σ.tr.set id (some o),low:=min σ.low id }
def j3.del(σ:j3)(id:Nat):j3:={ σ with tr:=σ.tr.set id none,low:=min σ.low id }
theorem j3.objs_set(σ:j3)(id:Nat)(o:l6)(i:Nat):(σ.set id o).objs i=if i=id then some o else σ.objs i:=Tr.get_set _ _ _ _
theorem j3.objs_del(σ:j3)(id:Nat)(i:Nat):(σ.del id).objs i=if i=id then none else σ.objs i:=Tr.get_set _ _ _ _
@[simp] theorem j3.set_next (σ:j3) (id:Nat) (o:l6):(σ.set id o).next=σ.next:=rfl
@[simp] theorem j3.del_next (σ:j3) (id:Nat):(σ.del id).next=σ.next:=rfl
structure Fr(G:j4)(σ:j3)(w:World)(G':j4)(σ':j3)(w':World):Prop where
 size:w.heap.size<=w'.heap.size
 same:∀ b,b<w.heap.size->(∀ id o p,σ.objs id=some o->G.pl id=some p->p.virt=false->p.block≠b)->w'.heap[b]?=w.heap[b]?
 live:∀ id o p,σ'.objs id=some o->G'.pl id=some p->p.virt=false->p.block<w.heap.size->∃ id0 o0 p0,σ.objs id0=some o0/\G.pl id0=some p0/\p0.virt=false/\p0.block=p.block
 imm:∀ b o,G'.imm b=some o->G.imm b=some o\/w.heap.size<=b\/∃ id0 o0 p0,σ.objs id0=some o0/\G.pl id0=some p0/\p0.virt=false/\p0.block=b
 drawn:w.drawn<=w'.drawn
theorem Fr.refl(G:j4)(σ:j3)(w:World):Fr G σ w G σ w :=⟨ax _,fun _ _ _=>rfl,fun id o p h1 h2 a _=>⟨id,o,p,h1,h2,a,rfl⟩,fun _ _ h=>.inl h,ax _⟩
theorem Fr.trans{m n q:j4}{σ1 c d:j3}{i r s:World}(h:Fr m σ1 i n c r)(k:Fr n c r q d s):Fr m σ1 i q d s:=by
 refine⟨bC h.size k.size,fun b j t=>?_,fun id o p h1 h2 v x=>?_,fun b o j=>?_,bC h.drawn k.drawn⟩
 ·have hs:=h.size
  rw[k.same b (by omega) (fun id o p q1 q2 q3 q4=>?_),h.same b j t];obtain⟨id0,o0,p0,e,f,g,u⟩:=h.live id o p q1 q2 q3 (by omega);exact t id0 o0 p0 e f g (by omega)
 ·have hs:=h.size
  obtain⟨id0,o0,p0,e,f,g,u⟩:=k.live id o p h1 h2 v (by omega);obtain⟨a,o1,p1,t1,t2,t3,t4⟩:=h.live id0 o0 p0 e f g (by omega);exact⟨a,o1,p1,t1,t2,t3,by omega⟩
 have hs:=h.size;rcases k.imm b o j with h1 | h1 | ⟨id0,o0,p0,e,f,g,u⟩
 ·exact h.imm b o h1
 ·exact .inr (.inl (by omega))
 rcases cg b i.heap.size with w | l
 ·obtain⟨a,o1,p1,t1,t2,t3,t4⟩:=h.live id0 o0 p0 e f g (by omega)
  exact .inr (.inr ⟨a,o1,p1,t1,t2,t3,by omega⟩)
 exact .inr (.inl l)
theorem Fr.less{G:j4}{σ σ':j3}{w:World}(hf:∀ i o,σ'.objs i=some o->σ.objs i=some o):Fr G σ w G σ' w :=⟨ax _,fun _ _ _=>rfl,fun id o p h1 h2 a _=>⟨id,o,p,hf _ _ h1,h2,a,rfl⟩,fun _ _ h=>.inl h,ax _⟩
theorem Fr.draws(G:j4)(σ:j3)(w:World)(n:Nat)(a:w.drawn<=n):Fr G σ w G σ { w with drawn:=n } :=⟨ax _,fun _ _ _=>rfl,fun id o p h1 h2 b _=>⟨id,o,p,h1,h2,b,rfl⟩,fun _ _ h=>.inl h,a⟩
theorem Fr.push{G:j4}{σ:j3}{w:World}(obj:Obj)(id:Nat)(hid:G.pl id=none)(p:Pl)(hp:p.virt=false->p.block=w.heap.size)(o:l6)(n:Nat)(c:w.drawn<=n:=by first | exact ax _ | exact bc _ _) :
  Fr G σ w (G.place id p) (σ.set id o) { w with drawn:=n,heap:=w.heap.push obj }:=by
 refine⟨by simp,fun b d _=>?_,fun i x q h1 h2 a f=>?_,fun _ _ h=>.inl h,c⟩
 ·show (w.heap.push obj)[b]?=_
  rw[bA,Ae (by omega)]
 by_cases e:i=id
 ·subst e
  rw[j4.place_same]at h2;cases h2;have:=hp a;omega
 exact⟨i,x,q,by simpa[j3.objs_set,e]using h1,by simpa[j4.place,e]using h2,a,rfl⟩
theorem Fr.virt{G:j4}{σ:j3}{w:World}(id:Nat)(p:Pl)(hp:p.virt=true)(o:l6):Fr G σ w (G.place id p) (σ.set id o) w:=by
 refine⟨ax _,fun _ _ _=>rfl,fun i x q h1 h2 a b=>?_,fun _ _ h=>.inl h,ax _⟩;by_cases e:i=id
 ·subst e
  rw[j4.place_same]at h2;cases h2;rw[hp]at a;cases a
 exact⟨i,x,q,by simpa[j3.objs_set,e]using h1,by simpa[j4.place,e]using h2,a,rfl⟩
theorem Fr.write{G:j4}{σ:j3}{w:World}{id:Nat}{o o':l6}{p:Pl}(d:σ.objs id=some o)(hp:G.pl id=some p)(hv:p.virt=false)(w':World)(c:w'.heap.size=w.heap.size)
  (a:∀ k,k≠p.block->w'.heap[k]?=w.heap[k]?) (g:w.drawn<=w'.drawn:=by exact ax _):Fr G σ w G (σ.set id o') w':=by
 refine⟨by omega,fun b l j=>a b (fun e=>j id o p d hp hv e.symm),fun i x q h1 h2 f m=>?_,fun _ _ h=>.inl h,g⟩;by_cases e:i=id
 ·subst e
  exact⟨i,o,q,d,h2,f,rfl⟩
 exact⟨i,x,q,by simpa[j3.objs_set,e]using h1,h2,f,rfl⟩
theorem Fr.move{G:j4}{σ:j3}{w:World}{id id':Nat}{o o':l6}{p:Pl}(b:σ.objs id=some o)(hp:G.pl id=some p):Fr G σ w (G.place id' p) ((σ.del id).set id' o') w:=by
 refine⟨ax _,fun _ _ _=>rfl,fun i x q h1 h2 a c=>?_,fun _ _ h=>.inl h,ax _⟩;by_cases e:i=id'
 ·subst e
  rw[j4.place_same]at h2;cases h2;exact⟨id,o,p,b,hp,a,rfl⟩
 rw[j3.objs_set,Ae e,j3.objs_del]at h1;split at h1
 ·cases h1
 exact⟨i,x,q,h1,by simpa[j4.place,e]using h2,a,rfl⟩
theorem Rel.push{G:j4}{σ:j3}{w:World}(h:Rel G σ w)(obj:Obj)(id:Nat)(hid:G.pl id=none)(z:id<σ.next)(p:Pl)(hp:p.block=w.heap.size)(hv:p.virt=false)(o:l6)
  (n:N1 (G.place id p) p o (some obj)):Rel (G.place id p) (σ.set id o) { w with heap:=w.heap.push obj }:=by
 have hle:G.le (G.place id p):=j4.place_le hid;have d:∀ k,k<w.heap.size->(w.heap.push obj)[k]?=w.heap[k]?:=fun k hk=>by rw[bA,Ae (by omega)]
 have r:∀ i q,i≠id->(G.place id p).pl i=some q->G.pl i=some q:=fun i q hi c=>by simpa[j4.place,hi]using c
 refine⟨h.os,h.tape,h.output,bC h.size (by simp),fun b x g=>?_,fun i hi=>?_,fun i x a=>?_,fun i j oi oj pi pj h1 h2 l m v1 v2 B=>?_,h.glob⟩
 ·show (w.heap.push obj)[b]?=_
  rw[d b (h.lt g)];exact h.imm b x g
 ·have:i≠id:=by simp at hi;omega
  simp only[j4.place,this,Ah];exact h.fresh i hi
 ·by_cases e:i=id
  ·subst e
   simp[j3.objs_set]at a;subst a;refine⟨p,j4.place_same _ _ _,.inr ⟨hv,?_,by rw[hp];exact h.size,?_⟩⟩
   ·show G.imm p.block=none
    cases g:G.imm p.block with
    | none=>rfl
    | some y=>have:=h.lt g;omega
   show N1 _ p o (w.heap.push obj)[p.block]?;rw[hp,bA,Af rfl];exact n
  simp[j3.objs_set,e]at a;obtain⟨q,c,hl⟩:=h.objs i x a;refine⟨q,hle.pl _ _ c,?_⟩;rcases hl with hl | ⟨f,s,t,u⟩
  ·exact .inl hl
  refine .inr ⟨f,s,t,?_⟩;show N1 _ q x (w.heap.push obj)[q.block]?;rw[d _ (h.obj_lt a c f)];exact u.mono hle
 have aux:∀ i x q,i≠id->(σ.set id o).objs i=some x->(G.place id p).pl i=some q->q.virt=false->σ.objs i=some x/\G.pl i=some q/\q.block<w.heap.size:=fun i x q hi a c hv=>by
  have h1:σ.objs i=some x:=by simpa[j3.objs_set,hi]using a
  have h2:=r i q hi c;exact⟨h1,h2,h.obj_lt h1 h2 hv⟩
 by_cases e1:i=id<;>by_cases e2:j=id
 ·rw[e1,e2]
 ·subst e1
  rw[j4.place_same]at l;cases l;have:=(aux j oj pj e2 h2 m v2).2.2;omega
 ·subst e2
  rw[j4.place_same]at m;cases m;have:=(aux i oi pi e1 h1 l v1).2.2;omega
 have v:=aux i oi pi e1 h1 l v1;have a2:=aux j oj pj e2 h2 m v2;exact h.sep i j oi oj pi pj v.1 a2.1 v.2.1 a2.2.1 v1 v2 B
theorem Rel.virt{G:j4}{σ:j3}{w:World}(h:Rel G σ w)(id:Nat)(hid:G.pl id=none)(t:id<σ.next)(p:Pl)(hv:p.virt=true)(e:TypeId)(s:Nat) :
  Rel (G.place id p) (σ.set id (.row e s [])) w:=by
 have hle:G.le (G.place id p):=j4.place_le hid;have a:∀ i q,i≠id->(G.place id p).pl i=some q->G.pl i=some q:=fun i q hi c=>by simpa[j4.place,hi]using c
 refine⟨h.os,h.tape,h.output,h.size,h.imm,fun i hi=>?_,fun i x b=>?_,fun i j oi oj pi pj h1 h2 d f v1 v2 u=>?_,h.glob⟩
 ·have:i≠id:=by simp at hi;omega
  simp only[j4.place,this,Ah];exact h.fresh i hi
 ·by_cases n:i=id
  ·subst n
   simp[j3.objs_set]at b;subst b;exact⟨p,j4.place_same _ _ _,.inl ⟨hv,e,s,rfl⟩⟩
  simp[j3.objs_set,n]at b;obtain⟨q,c,hl⟩:=h.objs i x b;refine⟨q,hle.pl _ _ c,?_⟩;rcases hl with hl | ⟨g,k,l,m⟩
  ·exact .inl hl
  exact .inr ⟨g,k,l,m.mono hle⟩
 have o:i≠id:=fun e=>by subst e;rw[j4.place_same]at d;cases d;rw[hv]at v1;cases v1
 have r:j≠id:=fun e=>by subst e;rw[j4.place_same]at f;cases f;rw[hv]at v2;cases v2
 exact h.sep i j oi oj pi pj (by simpa[j3.objs_set,o]using h1) (by simpa[j3.objs_set,r]using h2) (a _ _ o d) (a _ _ r f) v1 v2 u
theorem Rel.write{G:j4}{σ:j3}{w:World}(h:Rel G σ w){id:Nat}{o o':l6}{p:Pl}(r:σ.objs id=some o)(hp:G.pl id=some p)(hv:p.virt=false)(obj:Obj)(w':World)
  (s:w'.os=w.os) (c:w'.tape=w.tape) (g:w'.output=w.output) (d:w'.heap.size=w.heap.size)
  (a:∀ k,k≠p.block->w'.heap[k]?=w.heap[k]?) (l:w'.heap[p.block]?=some obj) (t:N1 G p o' (some obj)):Rel G (σ.set id o') w':=by
 obtain⟨m,u,_⟩:=h.real r hp hv;refine⟨s.trans h.os,c.trans h.tape,g.trans h.output,by rw[d];exact h.size,fun b x v=>?_,h.fresh,fun i x f=>?_,fun i j oi oj pi pj h1 h2 E H v1 v2 I=>?_,h.glob⟩
 ·rw[a b (fun e=>by rw[e,m]at v;cases v)];exact h.imm b x v
 ·by_cases e:i=id
  ·subst e
   simp[j3.objs_set]at f;subst f;exact⟨p,hp,.inr ⟨hv,m,u,by rw[l];exact t⟩⟩
  simp[j3.objs_set,e]at f;obtain⟨q,D,hl⟩:=h.objs i x f;refine⟨q,D,?_⟩;rcases hl with hl | ⟨n,z,B,C⟩
  ·exact .inl hl
  refine .inr ⟨n,z,B,?_⟩;rw[a q.block (fun J=>e (h.sep i id x o q p f r D hp n hv J))];exact C
 have aux:∀ i x,(σ.set id o').objs i=some x->∃ y,σ.objs i=some y:=fun i x f=>by
  by_cases e:i=id
  ·exact⟨o,by rw[e];exact r⟩
  exact⟨x,by simpa[j3.objs_set,e]using f⟩
 obtain⟨K,M⟩:=aux i oi h1;obtain⟨N,a2⟩:=aux j oj h2;exact h.sep i j K N pi pj M a2 E H v1 v2 I
theorem Rel.move{G:j4}{σ:j3}{w:World}(h:Rel G σ w){id id':Nat}{o:l6}{p:Pl}(k:σ.objs id=some o)(hp:G.pl id=some p)(hid:G.pl id'=none)(v:id'<σ.next) :
  Rel (G.place id' p) ((σ.del id).set id' o) w:=by
 have hle:G.le (G.place id' p):=j4.place_le hid;have z:id≠id':=fun e=>by rw[e,hid]at hp;cases hp
 have back:∀ i x,i≠id'->((σ.del id).set id' o).objs i=some x->i≠id/\σ.objs i=some x:=fun i x hi b=>by
  simp only[j3.objs_set,hi,Ah,j3.objs_del]at b;split at b
  ·cases b
  rename_i e;exact⟨e,b⟩
 have a:∀ i q,i≠id'->(G.place id' p).pl i=some q->G.pl i=some q:=fun i q hi l=>by simpa[j4.place,hi]using l
 have lift:∀ q x,Lies G w q x->Lies (G.place id' p) w q x:=fun q x hl=>by
  rcases hl with hl | ⟨m,n,r,s⟩
  ·exact .inl hl
  exact .inr ⟨m,n,r,s.mono hle⟩
 refine⟨h.os,h.tape,h.output,h.size,h.imm,fun i hi=>?_,fun i x b=>?_,fun i j oi oj pi pj h1 h2 f g v1 v2 t=>?_,h.glob⟩
 ·have:i≠id':=by simp at hi;omega
  simp only[j4.place,this,Ah];exact h.fresh i hi
 ·by_cases e:i=id'
  ·subst e
   simp[j3.objs_set]at b;subst b;exact⟨p,j4.place_same _ _ _,lift _ _ (h.lies k hp)⟩
  obtain⟨_,u⟩:=back i x e b;obtain⟨q,l,hl⟩:=h.objs i x u;exact⟨q,hle.pl _ _ l,lift _ _ hl⟩
 by_cases e1:i=id'<;>by_cases e2:j=id'
 ·rw[e1,e2]
 ·obtain⟨c,d⟩:=back j oj e2 h2
  subst e1;rw[j4.place_same]at f;cases f;exact Am (h.sep j id oj o pj p d k (a j pj e2 g) hp v2 v1 t.symm) c
 ·obtain⟨c,d⟩:=back i oi e1 h1
  subst e2;rw[j4.place_same]at g;cases g;exact Am (h.sep i id oi o pi p d k (a i pi e1 f) hp v1 v2 t) c
 obtain⟨_,c⟩:=back i oi e1 h1;obtain⟨_,d⟩:=back j oj e2 h2;exact h.sep i j oi oj pi pj c d (a i pi e1 f) (a j pj e2 g) v1 v2 t
open Go
structure TI where
 und:TypeDesc
 size:Nat
 zero:Value
 bytes:Nat
 flat:Option Nat:=none
abbrev Tab:=TypeId->Option TI
def TI.isAgg(ti:TI):Bool:=match ti.und with | .struct _ | .array _ _=>true | _=>false
def AV.one:AV->Bool
 | .sc (.agg _) | .sc (.tuple _) | .any | .agg _ | .tup _=>false
 | _=>true
def AV.cells:AV->Option (List AV)
 | .agg cs=>some cs
 | .tup _ | .any | .sc (.agg _) | .sc (.tuple _)=>none
 | x=>some [x]
def AV.ofValue:Value->AV
 | .agg cs=>.agg (cs.toList.map .sc)
 | v=>.sc v
def TI.zeroCells(ti:TI):List AV:=ti.zero.cells.toList.map .sc
structure C0(P:Program)(T:Tab):Prop where
 und:∀ t ti,T t=some ti->P.underlying t=some ti.und
 info:∀ t ti,T t=some ti->∃ i,P.info? t=some i/\i.size=ti.size/\i.bytes=ti.bytes/\i.zero=some ti.zero
 zlen:∀ t ti,T t=some ti->ti.zero.cells.size=ti.size
 flat:∀ t ti n,T t=some ti->ti.flat=some n->P.eqGuardType P.depth t=false/\∀ (as bs:List Int) (w:World),as.length=n->bs.length=n ->
  (fz 10000 t (.agg (as.map (bk .i64)).toArray) (.agg (bs.map (bk .i64)).toArray)).run P w=.ok (as==bs) w /\
  ∀ b,(bP b 10000 t (.agg (as.map (bk .i64)).toArray)).run P w=.ok () w
section
variable {P:Program} {T:Tab} (hT:C0 P T) {t:TypeId} {ti:TI} (h:T t=some ti) (w:World)
include hT h
theorem A8:(underlying t).run P w=.ok ti.und w:=by simp[underlying,hT.und t ti h]
theorem F4:(sizeOf t).run P w=.ok ti.size w:=by obtain⟨i,h1,h2,_⟩:=hT.info t ti h;simp[sizeOf,typeInfo,h1,h2]
theorem W8:(zeroValue t).run P w=.ok ti.zero w:=by obtain⟨i,h1,_,_,a⟩:=hT.info t ti h;simp[zeroValue,typeInfo,h1,a]
theorem cS0:(isAgg t).run P w=.ok ti.isAgg w:=by simp only[isAgg,ao,A8 hT h,ae,TI.isAgg];cases ti.und<;>rfl
theorem lc0:∃ i,(typeInfo t).run P w=.ok i w/\i.bytes=ti.bytes:=by obtain⟨i,h1,_,a,_⟩:=hT.info t ti h;exact⟨i,by simp[typeInfo,h1],a⟩
end
theorem Rep.ofValue(G:j4)(v:Value):Rep G (.ofValue v) v:=by
 cases v with
 | agg cs=>have:=Rep.agg (G:=G) (cs.toList.map .sc) cs.toList (by simp) (fun i h h'=>by simp;exact .sc _);simpa[AV.ofValue]using this
 | _=>exact .sc _
theorem B8.sc(G:j4)(vs:List Value):B8 G (vs.map .sc) vs:=⟨by simp,fun i h h'=>by simp;exact .sc _⟩
theorem Rep.cells{G:j4}{c:AV}{cs:List AV}{v:Value}(hc:c.cells=some cs)(h:Rep G c v):B8 G cs v.cells.toList:=by
 cases h with
 | agg d vs h1 h2=>simp[AV.cells]at hc;subst hc;simp[Value.cells];exact⟨h1,h2⟩
 | any=>simp[AV.cells]at hc
 | tup=>simp[AV.cells]at hc
 | sc v=>cases v<;>simp[AV.cells]at hc<;>subst hc<;>exact B8.cons (.sc _) (.nil _)
 | rsNil=>simp[AV.cells]at hc;subst hc;exact B8.cons .rsNil (.nil _)
 | rs es a cap size val hs e hlen himm hrep=>simp[AV.cells]at hc;subst hc;exact B8.cons (.rs es a cap size val hs e hlen himm hrep) (.nil _)
 | rp d a val hs himm hrep=>simp[AV.cells]at hc;subst hc;exact B8.cons (.rp d a val hs himm hrep) (.nil _)
 | ms id size off len p hp hv hz a c ha g hl hsp=>simp[AV.cells]at hc;subst hc;exact B8.cons (.ms id size off len p hp hv hz a c ha g hl hsp) (.nil _)
 | msNil id size p hp hv=>simp[AV.cells]at hc;subst hc;exact B8.cons (.msNil id size p hp hv) (.nil _)
 | mp id i j p hp=>simp[AV.cells]at hc;subst hc;exact B8.cons (.mp id i j p hp) (.nil _)
 | mm id p hp=>simp[AV.cells]at hc;subst hc;exact B8.cons (.mm id p hp) (.nil _)
 | it id p hp=>simp[AV.cells]at hc;subst hc;exact B8.cons (.it id p hp) (.nil _)
 | rm rows b ents himm hlen iB0 hrep=>simp[AV.cells]at hc;subst hc;exact B8.cons (.rm rows b ents himm hlen iB0 hrep) (.nil _)
 | fn f first cap fv cv h1 h2 k l=>simp[AV.cells]at hc;subst hc;exact B8.cons (.fn f first cap fv cv h1 h2 k l) (.nil _)
theorem Rep.one{G:j4}{c:AV}{v:Value}(hc:c.one=true)(h:Rep G c v):v.oneCell'=true:=by
 cases h with
 | sc v=>cases v<;>simp[AV.one]at hc<;>rfl
 | _=>first | rfl | simp[AV.one]at hc
def H3(G:j4)(σ:j3)(w:World)(σ':j3)(id:Nat)(v:AV)(r:Result Value):Prop :=∃ G' u w',G.le G'/\(∀ i,i≠id->G.pl i=none->G'.pl i=none)/\r=.ok u w'/\Rep G' v u/\Rel G' σ' w'/\Fr G σ w G' σ' w'
theorem H3.same{G:j4}{σ:j3}{id:Nat}{v:AV}{u:Value}{w:World}(a:Rep G v u)(h:Rel G σ w):H3 G σ w σ id v (.ok u w) :=⟨G,u,w,.refl G,fun _ _ h=>h,rfl,a,h,.refl _ _ _⟩
theorem H3.place{G:j4}{σ σ':j3}{id:Nat}{v:AV}{u:Value}{w w':World}{p:Pl}(hid:G.pl id=none)(a:Rep (G.place id p) v u)(h:Rel (G.place id p) σ' w')(hf:Fr G σ w (G.place id p) σ' w'):H3 G σ w σ' id v (.ok u w') :=⟨G.place id p,u,w',j4.place_le hid,fun i hi b=>by simpa[j4.place,hi]using b,rfl,a,h,hf⟩
theorem H3.less{G:j4}{σ σ1 σ':j3}{id:Nat}{v:AV}{r:Result Value}{w:World}(hf:∀ i o,σ1.objs i=some o->σ.objs i=some o)(h:H3 G σ1 w σ' id v r):H3 G σ w σ' id v r:=by obtain⟨G',u,w',h1,h2,a,b,c,d⟩:=h;exact⟨G',u,w',h1,h2,a,b,c,(Fr.less hf).trans d⟩
theorem sC0{G:j4}{cs:List AV}{vs:Array Value}(h:B8 G cs vs.toList):∀ i (h:i<[cs].length),([cs][i]).length=cs.length/\∀ j (hj:j<([cs][i]).length) (h':i*cs.length+j<vs.size),Rep G ([cs][i][j]) vs[i*cs.length+j]:=by
 intro i hi;have:i=0:=by simpa using hi
 subst this;refine⟨rfl,fun j hj h'=>?_⟩;have:=h.2 j (by simpa using hj) (by simpa using h');simpa using this
theorem lf0{P:Program}{G:j4}{σ:j3}{w:World}(h:Rel G σ w)(t:TypeId)(v:Value)(cs:List AV)(hc:B8 G cs v.cells.toList)(id:Nat)(hid:G.pl id=none)(a:id<σ.next) :
  H3 G σ w (σ.set id (.row t cs.length [cs])) id (.mp id 0 0) ((do pure (.pointer (some (<- newVar t v))):Sem Value).run P w):=by
 let p:Pl:={ block:=w.heap.size,size:=cs.length,cap:=1 }
 have b:=h.push (.cells v.cells t) id hid a p rfl rfl (.row t cs.length [cs]) ⟨v.cells,rfl,rfl,by simpa[p]using hc.1,by simp[p],sC0 (hc.mono (j4.place_le hid))⟩;refine H3.place (p:=p) (w':={ w with heap:=w.heap.push (.cells v.cells t) }) hid ?_ b (Fr.push _ id hid p (fun _=>rfl) _ w.drawn);have:=Rep.mp (G:=G.place id p) id 0 0 p (j4.place_same _ _ _);simpa[p]using this
def fD0(T:Tab)(σ:j3)(id:Nat)(t:TypeId):Option (AV×j3) :=
 match T t with
 | some ti=>some (.mp id 0 0,σ.set id (.row t ti.zeroCells.length [ti.zeroCells]))
 | none=>none
theorem rG0{P:Program}{T:Tab}(hT:C0 P T){G:j4}{σ σ':j3}{w:World}(h:Rel G σ w){t:TypeId}{id:Nat}{v:AV}(hid:G.pl id=none)(a:id<σ.next)
  (ha:fD0 T σ id t=some (v,σ')):H3 G σ w σ' id v ((kC t true (.tuple #[])).run P w):=by
 unfold fD0 at ha;cases b:T t with
 | none=>simp[b]at ha
 | some ti=>simp only[b,ah,cy]at ha;obtain⟨rfl,rfl⟩:=ha;have:=lf0 (P:=P) h t ti.zero ti.zeroCells (B8.sc G _) id hid a;simpa[kC,W8 hT b]using this
def tk0(σ:j3)(id:Nat)(t:TypeId)(x:AV):Option (AV×j3) :=
 match x.cells with
 | some cs=>some (.mp id 0 0,σ.set id (.row t cs.length [cs]))
 | none=>none
theorem vH0{P:Program}{G:j4}{σ σ':j3}{w:World}(h:Rel G σ w){t:TypeId}{id:Nat}{x v:AV}{u:Value}(b:Rep G x u)(hid:G.pl id=none)(a:id<σ.next)
  (ha:tk0 σ id t x=some (v,σ')):H3 G σ w σ' id v ((Instr.box t u).run P w):=by
 unfold tk0 at ha;cases hc:x.cells with
 | none=>simp[hc]at ha
 | some cs=>simp only[hc,ah,cy]at ha;obtain⟨rfl,rfl⟩:=ha;exact lf0 (P:=P) h t u cs (b.cells hc) id hid a
def E2(ti:TI)(cs:List AV)(j:Nat):Option AV :=if ti.isAgg then (if j+ti.size<=cs.length then some (.agg ((cs.drop j).take ti.size))else none)else cs[j]?
def U3(T:Tab)(σ:j3)(t:TypeId)(x:AV):Option AV :=
 match x with
 | .mp id i j=>
  match σ.objs id with
  | some (.row _ _ es)=>match es[i]? with
   | some cs=>match T t with
    | some ti=>E2 ti cs j
    | none=>none
   | none=>none
  | _=>none
 | .rp cs=>match T t with
  | some ti=>E2 ti cs 0
  | none=>none
 | _=>none
theorem K6(b o n:Nat):(kp ⟨b,o,none⟩ n)=⟨b,o+n,none⟩:=by
 unfold kp;split
 ·rename_i h;subst h;rfl
 rfl
theorem Y4{P:Program}{T:Tab}(hT:C0 P T){G:j4}{w:World}{t:TypeId}{ti:TI}(d:T t=some ti)(b o:Nat)(cs:List AV)(val:Nat->Value)(j:Nat)
  (a:∀ k,k<cs.length->w.cell? ⟨b,o+k,none⟩=some (val k)) (hrep:∀ k (hk:k<cs.length),Rep G cs[k] (val k)) {v:AV} (hl:E2 ti cs j=some v) :
  ∃ u,(loadVar t ⟨b,o+j,none⟩).run P w=.ok u w/\Rep G v u:=by
 unfold E2 at hl;by_cases ha:ti.isAgg=true
 ·rw[Af ha]at hl
  split at hl
  ·rename_i hlen
   cases hl;have c:=run_loadCells (P:=P) w ⟨b,o+j,none⟩ ti.size (fun k=>val (j+k)) (fun k hk=>by rw[K6,dq];exact a _ (by omega));refine⟨_,by simp only[loadVar,ao,cS0 hT d,ha,Al,F4 hT d,c,ae,au];rfl,?_⟩;have:=Rep.agg (G:=G) ((cs.drop j).take ti.size) ((aJ ti.size).map fun k=>val (j+k)) (by simp;omega) (fun i h h'=>by
    simp at h h';have:=hrep (j+i) (by omega);simpa using this)
   simpa using this
  cases hl
 rw[Ae ha]at hl;obtain⟨hj,rfl⟩:=ar.1 hl;refine⟨val j,?_,hrep j hj⟩;simp only[loadVar,ao,cS0 hT d,bL _▸ha,ae];simp[run_load,a j hj]
theorem sy0{P:Program}{T:Tab}(hT:C0 P T){G:j4}{σ:j3}{w:World}(h:Rel G σ w){t:TypeId}{id:Nat}{x v:AV}{u:Value}(r:Rep G x u)
  (ha:U3 T σ t x=some v):H3 G σ w σ id v ((fI t u).run P w):=by
 cases r with
 | mp id' i j p hp=>
  simp only[U3]at ha;cases g:σ.objs id' with
  | none=>simp[g]at ha
  | some o=>
   cases o with
   | row elem size es=>
    simp only[g]at ha;cases he:es[i]? with
    | none=>simp[he]at ha
    | some cs=>
     simp only[he]at ha;cases c:T t with
     | none=>simp[c]at ha
     | some ti=>
      simp only[c]at ha;obtain⟨hi,d⟩:=ar.1 he;have hv:p.virt=false:=by
       rcases h.lies g hp with ⟨_,e,s,h2⟩ | ⟨h2,_⟩
       ·cases h2;simp at hi
       exact h2
      obtain⟨_,_,cells,z,hs,B,hle,l⟩:=h.real g hp hv;obtain⟨hlen,f⟩:=l i hi;rw[d]at hlen;have hbound:∀ k,k<cs.length->i*size+k<cells.size:=fun k hk=>by rw[B];have:(i+1)*size<=p.cap*size:=bq _ (by omega);rw[bI]at this;omega
      have:=Y4 hT c (P:=P) (G:=G) (w:=w) p.block (i*p.size) cs (fun k=>cells.getD (i*size+k) default) j
       (fun k hk=>by
        rw[cell_of_row w _ _ cells elem _ z,hs];have:=hbound k hk;simp[this]) (fun k hk=>by
        have n:=f k (by rw[d];exact hk) (hbound k hk);have:=hbound k hk;simp only[d]at n;simpa[this]using n) ha
      obtain⟨u,hu,m⟩:=this;have q:=H3.same (id:=id) (u:=u) m h;simp only[fI,dX,ao,au,ae,hu];exact q
   | _=>simp[g]at ha
 | rp cs a val hs himm hrep=>
  simp only[U3]at ha;cases c:T t with
  | none=>simp[c]at ha
  | some ti=>simp only[c]at ha;obtain⟨b,o,s⟩:=a;simp at hs;subst hs;obtain⟨u,hu,m⟩:=Y4 hT c (P:=P) (G:=G) (w:=w) b o cs val 0 (fun k hk=>h.cell (himm k hk)) hrep ha;have q:=H3.same (id:=id) (u:=u) m h;simp only[fI,dX,ao,au,ae];rw[cM]at hu;rw[hu];exact q
 | _=>simp[U3]at ha
def oq0(g:Nat):Nat->Option (List Value)
 | 0=>some []
 | n+1=>match oq0 g n,B6.cell g n with
  | some l,some v=>some (l++[v])
  | _,_=>none
theorem iZ0{g:Nat}:∀ {n:Nat} {l:List Value},oq0 g n=some l->l.length=n/\∀ i (h:i<l.length),B6.cell g i=some l[i]
 | 0,l,h=>by cases h;exact⟨rfl,fun i h=>by simp at h⟩
 | n+1,l,h=>by
  unfold oq0 at h;split at h
  ·rename_i l0 v h1 h2
   cases h;obtain⟨e1,e2⟩:=iZ0 h1;refine⟨by simp[e1],fun i hi=>?_⟩;by_cases hl:i<l0.length
   ·rw[dI hl];exact e2 i hl
   have:i=n:=by simp at hi;omega
   subst this;rw[eT (by omega)];simpa[e1]using h2
  cases h
def rZ0(T:Tab)(t:TypeId)(g:Nat):Option AV :=
 match T t with
 | some ti=>match oq0 g ti.size with
  | some l=>E2 ti (l.map .sc) 0
  | none=>none
 | none=>none
def cl0:AV->Option Nat
 | .sc (.pointer (some ⟨g,0,none⟩))=>some g
 | _=>none
def aD0(T:Tab)(σ:j3)(t:TypeId)(x:AV):Option AV :=
 match cl0 x with
 | some g=>rZ0 T t g
 | none=>U3 T σ t x
theorem gE0{x:AV}{g:Nat}(h:cl0 x=some g):x=.sc (.pointer (some ⟨g,0,none⟩)):=by
 unfold cl0 at h;split at h
 ·cases h;rfl
 cases h
theorem su0{P:Program}{T:Tab}(hT:C0 P T){G:j4}{σ:j3}{w:World}(h:Rel G σ w){t:TypeId}{id:Nat}{x v:AV}{u:Value}(b:Rep G x u)
  (ha:aD0 T σ t x=some v):H3 G σ w σ id v ((fI t u).run P w):=by
 unfold aD0 at ha;split at ha
 ·rename_i g c
  rw[gE0 c]at b;cases b;unfold rZ0 at ha;split at ha
  ·rename_i ti d
   split at ha
   ·rename_i l hl
    obtain⟨e1,e2⟩:=iZ0 hl;obtain⟨u,hu,e⟩:=Y4 hT d (P:=P) (G:=G) (w:=w) g 0 (l.map .sc) (fun k=>l.getD k undef) 0 (fun k hk=>by
     have a:k<l.length:=by simpa using hk
     rw[aG];refine h.cell (h.glob _ _ _ ?_);rw[e2 k a];simp[a]) (fun k hk=>by
     have a:k<l.length:=by simpa using hk
     simp only[cn];have:l.getD k undef=l[k]:=by simp[a]
     rw[this];exact .sc _) ha
    have q:=H3.same (id:=id) (u:=u) e h;simp only[fI,dX,ao,au,ae];rw[cM]at hu;rw[hu];exact q
   cases ha
  cases ha
 exact sy0 hT h b ha
def C5(w:World)(b:Nat)(o:Obj):World:={ w with heap:=w.heap.setIfInBounds b o }
theorem B5(w:World)(b:Nat)(o:Obj):(C5 w b o).heap.size=w.heap.size:=by simp[C5]
theorem A6(w:World)(b:Nat)(o:Obj)(k:Nat)(h:k≠b):(C5 w b o).heap[k]?=w.heap[k]?:=by simp[C5,bY];intro h';exact Am h'.symm h
theorem I6(w:World)(b:Nat)(o x:Obj)(h:w.heap[b]?=some x):(C5 w b o).heap[b]?=some o:=by
 have:b<w.heap.size:=by
  rcases cg b w.heap.size with h' | h'
  ·exact h'
  rw[dg h']at h;cases h
 simp[C5,bY,this]
theorem iA0(w:World)(b o:Nat)(v:Value)(cs:Array Value)(t:TypeId)(h:w.heap[b]?=some (.cells cs t (0,0))) :
  w.setCell ⟨b,o,none⟩ v=C5 w b (.cells (cs.setIfInBounds o v) t (0,0)):=by
 have a:b<w.heap.size:=by
  rcases cg b w.heap.size with h' | h'
  ·exact h'
  rw[dg h']at h;cases h
 unfold World.setCell C5;congr 1;apply iB
 ·simp
 intro i h1 h2;have hi:i<w.heap.size:=by simpa using h2
 rw[Array.getElem_modify,eD hi];by_cases e:b=i
 ·subst e
  have:w.heap[b]=.cells cs t (0,0):=by simpa[aH a]using h
  simp[this]
 simp[e]
theorem jG0(w:World)(b:Nat)(x y:Obj):C5 (C5 w b x) b y=C5 w b y:=by simp[C5]
theorem M9{P:Program}(b:Nat)(off:Nat)(t:TypeId):∀ (vs:List Value) (i:Nat) (cs:Array Value) (w:World),w.heap[b]?=some (.cells cs t (0,0))->off+i+vs.length<=cs.size ->
  (∀ v∈vs,v.oneCell'=true)->∃ a:Array Value,(storeCells ⟨b,off,none⟩ vs i).run P w=.ok () (C5 w b (.cells a t (0,0)))/\a.size=cs.size /\
   ∀ k,a[k]?=if off+i<=k/\k<off+i+vs.length then vs[k-(off+i)]? else cs[k]?
 | [],i,cs,w,c,_,_=>by
  refine⟨cs,?_,rfl,fun k=>by simp;intro h1 h2;omega⟩;have:C5 w b (.cells cs t (0,0))=w:=by
   have f:b<w.heap.size:=by
    rcases cg b w.heap.size with h' | h'
    ·exact h'
    rw[dg h']at c;cases c
   have h:w.heap[b]=.cells cs t (0,0):=by simpa[aH f]using c
   unfold C5;congr 1;apply iB
   ·simp
   intro j h1 h2;rw[eD h2];by_cases e:b=j
   ·subst e;simp[h]
   simp[e]
  rw[this];simp[storeCells]
 | v::vs,i,cs,w,c,hlen,d=>by
  simp only[ay]at hlen;have hc:w.cell? ⟨b,off+i,none⟩=some (cs[off+i]'(by omega)):=by rw[cell_of_row w _ _ cs t _ c];exact aH _
  have g:w.frozen? ⟨b,off+i,none⟩=false:=frozen_of_row w b _ cs t c;have hst:(store (kp ⟨b,off,none⟩ i) v).run P w=.ok () (w.setCell ⟨b,off+i,none⟩ v):=by rw[K6,run_store P w _ v .plain (d v (by simp)),hc];simp[g]
  rw[iA0 w b _ v cs t c]at hst;obtain⟨a,h1,h2,l⟩:=M9 (P:=P) b off t vs (i+1) (cs.setIfInBounds (off+i) v) (C5 w b (.cells (cs.setIfInBounds (off+i) v) t (0,0)))
   (I6 w b _ _ c) (by simp;omega) (fun u hu=>d u (by simp[hu]))
  refine⟨a,?_,by rw[h2];simp,fun k=>?_⟩
  ·simp only[storeCells,ao,hst,ae,h1,jG0]
  rw[l k];by_cases e:k=off+i
  ·subst e
   rw[Ae (by omega),Af (by simp),bY,Af rfl,Af (by omega)];simp
  by_cases e2:off+(i+1)<=k/\k<off+(i+1)+vs.length
  ·rw[Af e2,Af (by simp;omega)]
   obtain⟨n,m⟩:∃ n,k-(off+i)=n+1:=⟨k-(off+i)-1,by omega⟩;rw[m];simp;congr 1;omega
  rw[Ae e2,Ae (by simp;omega),bY,Ae (by omega)]
def N5(cs:List AV)(j:Nat)(vs:List AV):List AV:=cs.take j++vs++cs.drop (j+vs.length)
theorem eY0(cs:List AV)(j:Nat)(vs:List AV)(h:j+vs.length<=cs.length)(k:Nat):(N5 cs j vs)[k]?=if j<=k/\k<j+vs.length then vs[k-j]? else cs[k]?:=by
 unfold N5;rw[cL,cE];simp only[ik];by_cases h1:k<min j cs.length
 ·rw[Af h1,Ae (by omega),gk,Af (by omega)]
 rw[Ae h1,cE];by_cases h2:k-min j cs.length<vs.length
 ·rw[Af h2,Af (by omega)];congr 1;omega
 rw[Ae h2,Ae (by omega),je];congr 1;omega
theorem jK0(cs:List AV)(j:Nat)(vs:List AV)(h:j+vs.length<=cs.length):(N5 cs j vs).length=cs.length:=by simp[N5];omega
def U7(T:Tab)(σ:j3)(t:TypeId)(x v:AV):Option j3 :=
 match x,v.cells,T t with
 | .mp id i j,some vs,some ti=>
  match σ.objs id with
  | some (.row elem size es)=>match es[i]? with
   | some cs=>if vs.length=ti.size/\j+vs.length<=cs.length/\vs.all AV.one=true then some (σ.set id (.row elem size (es.set i (N5 cs j vs))))else none
   | none=>none
  | _=>none
 | _,_,_=>none
theorem lR0{G:j4}{size:Nat}{es:List (List AV)}{cells:Array Value}(a:∀ i (h:i<es.length),es[i].length=size/\∀ j (hj:j<es[i].length) (h':i*size+j<cells.size),Rep G es[i][j] cells[i*size+j])
  {i j:Nat} {c:AV} {cs:List AV} (he:es[i]?=some cs) (hc:cs[j]?=some c) {v:Value} (hv:cells[i*size+j]?=some v):Rep G c v:=by
 obtain⟨hi,rfl⟩:=ar.1 he;obtain⟨hj,rfl⟩:=ar.1 hc;obtain⟨hk,rfl⟩:=aL.1 hv;exact(a i hi).2 j hj hk
theorem tj0{i a size j b:Nat}(h:i*size+j=a*size+b)(hj:j<size)(c:b<size):i=a/\j=b:=by
 have h1:(i*size+j) / size=i:=by rw[dY,kb (by omega),jP hj];simp
 have h2:(a*size+b) / size=a:=by rw[dY,kb (by omega),jP c];simp
 have:i=a:=by rw[<- h1,<-h2,h]
 subst this;exact⟨rfl,by omega⟩
theorem se0{P:Program}{T:Tab}(hT:C0 P T){G:j4}{σ σ':j3}{w:World}(h:Rel G σ w){t:TypeId}{x v:AV}{u y:Value}(U:Rep G x u)(V:Rep G v y)
  (ha:U7 T σ t x v=some σ'):∃ w',(kc t u y).run P w=.ok () w'/\Rel G σ' w'/\Fr G σ w G σ' w':=by
 unfold U7 at ha;split at ha
 ·rename_i id i j vs ti l Y
  split at ha
  ·rename_i elem size es H
   split at ha
   ·rename_i cs he
    split at ha
    ·rename_i m
     obtain⟨h1,h2,Q⟩:=m;cases ha;cases U with
     | mp id i j p hp=>
     have a:=V.cells l;obtain⟨hi,I⟩:=ar.1 he;have hv:p.virt=false:=by
      rcases h.lies H hp with ⟨_,e,s,h2⟩ | ⟨h2,_⟩
      ·cases h2;simp at hi
      exact h2
     obtain⟨_,_,cells,R,hs,S,hle,c⟩:=h.real H hp hv;have hlen:cs.length=size:=by rw[<- I];exact(c i hi).1
     have q:(i+1)*size<=cells.size:=by rw[S];exact bq _ (by omega)
     rw[bI]at q;obtain⟨n,r,J,L2⟩:=M9 (P:=P) p.block (i*p.size+j) elem y.cells.toList 0 cells w R (by rw[a.1,hs];omega)
      (fun z hz=>by
       obtain⟨k,hk,rfl⟩:=bH hz;have B:k<vs.length:=by rw[<- a.1];exact hk
       exact(a.2 k B hk).one (by rw[aj]at Q;exact Q _ (aw B)))
     refine⟨C5 w p.block (.cells n elem (0,0)),?_,h.write H hp hv (.cells n elem (0,0)) _ rfl rfl rfl (B5 _ _ _) (fun k hk=>A6 _ _ _ _ hk) (I6 _ _ _ _ R) ⟨n,rfl,hs,by rw[J,S],by simp;exact hle,fun d K=>?_⟩,Fr.write H hp hv _ (B5 _ _ _) (fun k hk=>A6 _ _ _ _ hk)⟩
     ·simp only[kc,dX,ao,au,ae,storeVar,F4 hT Y]
      rw[Ae (by have:=a.1;simp at this ⊢;omega)];simpa using r
     have o:d<es.length:=by simpa using K
     have C:((es.set i (N5 cs j vs))[d]).length=size:=by
      rw[List.getElem_set];split
      ·rw[jK0 _ _ _ h2,hlen]
      exact(c d o).1
     refine⟨C,fun f M hk=>?_⟩;have D:f<size:=by rw[<- C];exact M
     have g:=L2 (d*size+f);rw[aH hk]at g;have Z:y.cells.toList.length=vs.length:=a.1;simp only[cM,Z,hs]at g;by_cases e:d=i
     ·subst e
      have E:=eY0 cs j vs h2 f;have b:((es.set d (N5 cs j vs))[d])[f]?=some ((es.set d (N5 cs j vs))[d][f]):=ai _;simp only[List.getElem_set_self]at b;rw[E]at b;by_cases e2:j<=f/\f<j+vs.length
      ·rw[Af e2]at b
       rw[Af (by omega)]at g;have:d*size+f-(d*size+j)=f-j:=by omega
       rw[this]at g;obtain⟨z,N,O⟩:=a.get b;rw[N]at g;cases g;simpa using O
      rw[Ae e2]at b;rw[Ae (by omega)]at g;have:=lR0 c he b g.symm;simpa using this
     rw[Ae (fun hh=>by
      have:d*size+f=i*size+(d*size+f-i*size):=by omega
      exact e (tj0 this D (by omega)).1)]at g
     have b:(es[d])[f]?=some (es[d][f]'(by rw[(c d o).1];exact D)):=ai _;have:=lR0 c (ai o) b g.symm;simp only[List.getElem_set_ne (Ne.symm e)];exact this
    cases ha
   cases ha
  cases ha
 cases ha
def M7(T:Tab)(s:TypeId)(x:AV)(field:Nat):Option AV :=
 match T s with
 | some { und:=.struct fields,.. }=>
  match fields[field]? with
  | some f=>match T f.type with
   | some a=>if a.size=0 then none else
    match x with
    | .mp id i j=>some (.mp id i (j+f.offset))
    | .rp cs=>if f.offset<=cs.length then some (.rp (cs.drop f.offset))else none
    | _=>none
   | none=>none
  | none=>none
 | _=>none
theorem Rep.rp_drop{G:j4}{cs:List AV}{b o:Nat}(h:Rep G (.rp cs) (.pointer (some ⟨b,o,none⟩)))(n:Nat)(c:n<=cs.length):Rep G (.rp (cs.drop n)) (.pointer (some ⟨b,o+n,none⟩)):=by
 cases h with
 | rp cs a val hs himm hrep=>
  refine .rp _ _ (fun j=>val (n+j)) rfl (fun j hj=>?_) (fun j hj=>?_)
  ·simp at hj
   have:=himm (n+j) (by omega);simpa[dq]using this
  simp at hj;have:=hrep (n+j) (by omega);simpa using this
theorem ke0{P:Program}{T:Tab}(hT:C0 P T){G:j4}{σ:j3}{w:World}(h:Rel G σ w){s:TypeId}{id field:Nat}{x v:AV}{u:Value}(d:Rep G x u)
  (ha:M7 T s x field=some v):H3 G σ w σ id v ((il s u field).run P w):=by
 unfold M7 at ha;split at ha
 ·rename_i fields size zero bytes _ hs
  split at ha
  ·rename_i f hf
   split at ha
   ·rename_i l e
    split at ha
    ·cases ha
    rename_i g;have key:∀ b o,u=.pointer (some ⟨b,o,none⟩)->(il s u field).run P w=.ok (.pointer (some ⟨b,o+f.offset,none⟩)) w:=fun b o hu=>by subst hu;simp only[il,ao,A8 hT hs,ae,hf,dX,au,fieldPlace,F4 hT e];rw[Ae g];simp[K6]
    split at ha
    ·rename_i id' i j
     cases ha;cases d with
     | mp _ _ _ p hp=>rw[key _ _ rfl];refine H3.same ?_ h;have:=Rep.mp (G:=G) id' i (j+f.offset) p hp;rwa [<- dq]at this
    ·split at ha
     ·rename_i cs hle
      cases ha;have k:=d;cases d with
      | rp cs a val c himm hrep=>obtain⟨b,o,sp⟩:=a;simp at c;subst c;rw[key _ _ rfl];exact H3.same (k.rp_drop _ hle) h
     cases ha
    cases ha
   cases ha
  cases ha
 cases ha
def jV0(T:Tab)(t:TypeId)(cs:List AV)(off:Nat):Option AV :=
 match T t with
 | some ti=>E2 ti cs off
 | none=>none
theorem ou0{P:Program}{T:Tab}(hT:C0 P T){G:j4}{w:World}{t:TypeId}{cs:List AV}{vs:List Value}(b:B8 G cs vs){off:Nat}{v:AV}(ha:jV0 T t cs off=some v) :
  ∃ u,(part t vs.toArray off).run P w=.ok u w/\Rep G v u:=by
 unfold jV0 at ha;split at ha
 ·rename_i ti d
  unfold E2 at ha;by_cases a:ti.isAgg=true
  ·rw[Af a]at ha
   split at ha
   ·rename_i hlen
    cases ha;refine⟨_,by simp only[part,ao,cS0 hT d,a,Al,F4 hT d,ae,au];rfl,?_⟩;have c:=(b.drop off).take ti.size;have:=Rep.agg (G:=G) _ _ c.1 c.2;have e:vs.toArray.extract off (off+ti.size)=(gW ti.size (kZ off vs)).toArray:=by simp[List.extract_toArray,List.extract_eq_take_drop]
    rw[e];exact this
   cases ha
  rw[Ae a]at ha;obtain⟨u,hu,c⟩:=b.get ha;refine⟨u,?_,c⟩;simp only[part,ao,cS0 hT d,bL _▸a,ae];simp[hu]
 cases ha
def if0(T:Tab)(s:TypeId)(x:AV)(field:Nat):Option AV :=
 match T s,x with
 | some { und:=.struct fields,.. },.agg cs=>match fields[field]? with
  | some f=>jV0 T f.type cs f.offset
  | none=>none
 | _,_=>none
theorem qm0{P:Program}{T:Tab}(hT:C0 P T){G:j4}{σ:j3}{w:World}(h:Rel G σ w){s:TypeId}{id field:Nat}{x v:AV}{u:Value}(a:Rep G x u)
  (ha:if0 T s x field=some v):H3 G σ w σ id v ((kD s u field).run P w):=by
 unfold if0 at ha;split at ha
 ·rename_i fields _ _ _ _ cs hs
  split at ha
  ·rename_i f hf
   cases a with
   | agg cs vs h1 h2=>obtain⟨y,b,c⟩:=ou0 hT (P:=P) (w:=w) ⟨h1,h2⟩ ha;simp only[kD,ao,A8 hT hs,ae,hf,asAgg,au,b];exact H3.same c h
  cases ha
 cases ha
def AV.int?:AV->Option Int
 | .sc (.int _ n)=>some n
 | _=>none
def D4(T:Tab)(t:TypeId)(x ix:AV):Option AV :=
 match T t,ix with
 | some { und:=.slice elem,.. },.sc (.int _ n)=>
  match T elem with
  | some a=>
   match x with
   | .ms id size off len=>if 0<=n/\n<len/\size=a.size then some (.mp id (off+n.toNat) 0)else none
   | .rs es=>if 0<=n then match es[n.toNat]? with
     | some cs=>if cs.length=a.size then some (.rp cs)else none
     | none=>none else none
   | _=>none
  | none=>none
 | some { und:=.array len elem,.. },.sc (.int _ n)=>
  match T elem with
  | some a=>if 0<=n/\n<len then
    match x with
    | .mp id i j=>some (.mp id i (j+n.toNat*a.size))
    | .rp cs=>if n.toNat*a.size<=cs.length then some (.rp (cs.drop (n.toNat*a.size)))else none
    | _=>none else none
  | none=>none
 | _,_=>none
theorem kc0{P:Program}{T:Tab}(hT:C0 P T){G:j4}{σ:j3}{w:World}(h:Rel G σ w){t:TypeId}{id:Nat}{x ix v:AV}{u y:Value}(e:Rep G x u)(B:Rep G ix y)
  (ha:D4 T t x ix=some v):H3 G σ w σ id v ((fm t u y).run P w):=by
 unfold D4 at ha;split at ha
 ·rename_i elem _ _ _ _ k n g
  split at ha
  ·rename_i l he
   cases B;split at ha
   ·rename_i id' size off len
    split at ha
    ·rename_i m
     obtain⟨C,D,q⟩:=m;cases ha;cases e with
     | msNil=>omega
     | ms _ _ _ _ p hp hv hs a c E hoff hl hsp=>rw[E (by omega)];simp only[fm,asIntOf,ao,au,ae,A8 hT g];rw[Af (by omega)];simp only[ao,F4 hT he,ae,au,K6];refine H3.same ?_ h;have:=Rep.mp (G:=G) id' (off+n.toNat) 0 p hp;rw[hs,<-q];rw[hs,bI,cM]at this;exact this
    cases ha
   ·rename_i es
    split at ha
    ·rename_i m
     split at ha
     ·rename_i cs r
      split at ha
      ·rename_i hlen
       cases ha;obtain⟨hi,d⟩:=ar.1 r;cases e with
       | rsNil=>simp at hi
       | rs es a cap size val hs hc hl himm hrep=>
        have hs:=hs (by omega);obtain⟨b,o,sp⟩:=a;simp at hs;subst hs;have s:l.size=size:=by rw[<- hlen,<-d];exact hl _ hi
        simp only[fm,asIntOf,ao,au,ae,A8 hT g];rw[Af (by omega)];simp only[ao,F4 hT he,ae,au,K6];refine H3.same ?_ h;refine .rp _ _ (fun j=>val n.toNat j) rfl (fun j hj=>?_) (fun j hj=>?_)
        ·have:=himm n.toNat j hi (by omega)
         simpa[s]using this
        have:=hrep n.toNat j hi (by rw[d];exact hj);simpa[d]using this
      cases ha
     cases ha
    cases ha
   cases ha
  cases ha
 ·rename_i len elem _ _ _ _ k n g
  split at ha
  ·rename_i l he
   cases B;split at ha
   ·rename_i m
    have key:∀ b o,u=.pointer (some ⟨b,o,none⟩)->(fm t u (.int k n)).run P w=.ok (.pointer (some ⟨b,o+n.toNat*l.size,none⟩)) w:=fun b o hu=>by subst hu;simp only[fm,asIntOf,ao,au,ae,A8 hT g,dX];rw[Af m];simp[F4 hT he,K6]
    split at ha
    ·rename_i id' i j
     cases ha;cases e with
     | mp _ _ _ p hp=>rw[key _ _ rfl];refine H3.same ?_ h;have:=Rep.mp (G:=G) id' i (j+n.toNat*l.size) p hp;rwa [<- dq]at this
    ·split at ha
     ·rename_i cs hle
      cases ha;have z:=e;cases e with
      | rp cs a val f himm hrep=>obtain⟨b,o,sp⟩:=a;simp at f;subst f;rw[key _ _ rfl];exact H3.same (z.rp_drop _ hle) h
     cases ha
    cases ha
   cases ha
  cases ha
 cases ha
def cm0(T:Tab)(t:TypeId)(x ix:AV):Option AV :=
 match T t,x,ix with
 | some { und:=.array len elem,.. },.agg cs,.sc (.int _ n)=>
  match T elem with
  | some a=>if 0<=n/\n<len then jV0 T elem cs (n.toNat*a.size)else none
  | none=>none
 | some { und:=.string,.. },.sc (.string s),.sc (.int _ n)=>
  if 0<=n then match s[n.toNat]? with
   | some b=>some (.sc (.int .u8 b.toNat))
   | none=>none else none
 | _,_,_=>none
theorem rf0{P:Program}{T:Tab}(hT:C0 P T){G:j4}{σ:j3}{w:World}(h:Rel G σ w){t:TypeId}{id:Nat}{x ix v:AV}{u y:Value}(d:Rep G x u)(e:Rep G ix y)
  (ha:cm0 T t x ix=some v):H3 G σ w σ id v ((iO t u y).run P w):=by
 unfold cm0 at ha;split at ha
 ·rename_i len elem _ _ _ _ cs k n a
  split at ha
  ·rename_i i he
   split at ha
   ·rename_i c
    cases e;cases d with
    | agg cs vs h1 h2=>obtain⟨z,hz,f⟩:=ou0 hT (P:=P) (w:=w) ⟨h1,h2⟩ ha;simp only[iO,asIntOf,ao,au,ae,A8 hT a];rw[Af c];simp only[ao,F4 hT he,ae,hz];exact H3.same f h
   cases ha
  cases ha
 ·rename_i _ _ _ _ s k n a
  split at ha
  ·rename_i c
   split at ha
   ·rename_i b g
    cases ha;cases e;cases d;simp only[iO,asIntOf,ao,au,ae,A8 hT a,c,Al,g];exact H3.same (.sc _) h
   cases ha
  cases ha
 cases ha
def bound(len:Nat)(x:Option AV)(a:Nat):Option Nat :=
 match x with
 | none=>some a
 | some (.sc (.int _ n))=>if 0<=n/\n<=len then some n.toNat else none
 | _=>none
def bx0(T:Tab)(t:TypeId)(x:AV)(lo hi mx:Option AV):Option AV :=
 match mx,T t with
 | none,some { und:=.slice elem,.. }=>
  match T elem,x with
  | some a,.ms id size off len=>if size=a.size then
    match bound len hi len with
    | some h=>match bound h lo 0 with
     | some l=>some (.ms id size (off+l) (h-l))
     | none=>none
    | none=>none else none
  | some a,.rs es=>match bound es.length hi es.length with
   | some h=>match bound h lo 0 with
    | some l=>if es.all (fun c=>c.length==a.size)then some (.rs ((es.take h).drop l))else none
    | none=>none
   | none=>none
  | some _,.sc (.slice none 0 0)=>match bound 0 hi 0 with
   | some h=>match bound h lo 0 with
    | some _=>some (.sc (.slice none 0 0))
    | none=>none
   | none=>none
  | _,_=>none
 | none,some { und:=.string,.. }=>
  match x with
  | .sc (.string s)=>match bound s.size hi s.size with
   | some h=>match bound h lo 0 with
    | some l=>some (.sc (.string (s.extract l h)))
    | none=>none
   | none=>none
  | _=>none
 | _,_=>none
def pW0(G:j4)(x:Option AV)(v:Option Value):Prop :=
 match x,v with
 | none,none=>True
 | some a,some b=>Rep G a b
 | _,_=>False
theorem gH0{G:j4}{len d n:Nat}{x:Option AV}{v:Option Value}(f:pW0 G x v)(c:bound len x d=some n) :
  (v=none/\n=d)\/∃ k m,v=some (.int k m)/\0<=m/\m<=len/\n=m.toNat:=by
 cases x with
 | none=>
  cases v with
  | none=>simp[bound]at c;exact .inl ⟨rfl,c.symm⟩
  | some _=>exact f.elim
 | some a=>
  cases v with
  | none=>exact f.elim
  | some b=>
   simp only[pW0]at f;unfold bound at c;split at c
   ·cases ‹some a=none›
   ·rename_i k m e
    cases e;split at c
    ·rename_i hm
     cases c;cases f;exact .inr ⟨k,m,rfl,hm.1,hm.2,rfl⟩
    cases c
   cases c
theorem J7{P:Program}{G:j4}{w:World}(isSlice:Bool){len cap h l:Nat}{hi lo:Option AV}{hv c:Option Value}(g:pW0 G hi hv)(hl:pW0 G lo c)(i:len<=cap)
  (j:bound len hi len=some h) (d:bound h lo 0=some l):(dT isSlice len cap c hv none).run P w=.ok (l,h,cap) w/\h<=len/\l<=h:=by
 rcases gH0 g j with ⟨rfl,rfl⟩ | ⟨k,m,rfl,h1,h2,rfl⟩
 ·rcases gH0 hl d with ⟨rfl,rfl⟩ | ⟨n,e,rfl,b,f,rfl⟩
  ·exact⟨by simp[dT],by omega,by omega⟩
  refine⟨?_,by omega,by omega⟩;simp[dT,gF,asIntOf,b,f]
 have a:m<=(cap:Int):=by omega
 rcases gH0 hl d with ⟨rfl,rfl⟩ | ⟨n,e,rfl,b,f,rfl⟩
 ·exact⟨by simp[dT,gF,asIntOf,h1,a],by omega,by omega⟩
 refine⟨?_,by omega,by omega⟩;have o:e<=max m 0:=by omega
 simp[dT,gF,asIntOf,h1,a,b,o]
theorem qx0{P:Program}{T:Tab}(hT:C0 P T){G:j4}{σ:j3}{w:World}(h:Rel G σ w){t:TypeId}{id:Nat}{x v:AV}{lo hi mx:Option AV}{u:Value}{M hv D:Option Value}(E:Rep G x u)
  (hl:pW0 G lo M) (z:pW0 G hi hv) (hm:pW0 G mx D)
  (ha:bx0 T t x lo hi mx=some v):H3 G σ w σ id v ((dN t u M hv D).run P w):=by
 unfold bx0 at ha;split at ha
 ·rename_i elem _ _ _ _ n
  cases D with
  | some _=>exact hm.elim
  | none=>
  split at ha
  ·rename_i H i size off len he
   split at ha
   case isFalse=>cases ha
   rename_i q;split at ha
   ·rename_i h' g
    split at ha
    ·rename_i l k
     cases ha;cases E with
     | msNil _ _ p hp m=>
      obtain⟨d,r,B⟩:=J7 (P:=P) (w:=w) (cap:=0) true z hl (cN _) g k;obtain rfl:h'=0:=by omega
      obtain rfl:l=0:=by omega
      simp only[dN,fq,ao,A8 hT n,ae,d,F4 hT he,au];exact H3.same (.msNil _ _ p hp m) h
     | ms _ _ _ _ p hp m hz a c N hoff I hsp=>
      obtain⟨d,r,B⟩:=J7 (P:=P) (w:=w) (cap:=c) true z hl I g k;have J:p.size=H.size:=by rw[hz];exact q
      simp only[dN,fq,ao,A8 hT n,ae,d,F4 hT he,au];refine H3.same ?_ h;by_cases e:c=l
      ·rw[Af e]
       exact .ms _ _ _ _ p hp m hz a (c-l) (fun O=>by omega) (by omega) (by omega) hsp
      rw[Ae e,N (by omega)];simp only[ak,K6];exact .ms _ _ _ _ p hp m hz _ (c-l) (fun _=>by rw[<- J,bI]) (by omega) (by omega) rfl
    cases ha
   cases ha
  ·rename_i H es he
   split at ha
   ·rename_i h' g
    split at ha
    ·rename_i l k
     split at ha
     ·rename_i C
      cases ha;cases E with
      | rsNil=>
       obtain⟨d,r,B⟩:=J7 (P:=P) (w:=w) (cap:=0) true z hl (cN _) g k;simp at r;subst r;obtain rfl:l=0:=by omega
       simp only[dN,fq,ao,A8 hT n,ae,d,F4 hT he,au];exact H3.same .rsNil h
      | rs es a cap size val hs hc hlen himm hrep=>
       obtain⟨d,r,B⟩:=J7 (P:=P) (w:=w) (cap:=cap) true z hl hc g k;obtain⟨b,o,sp⟩:=a;simp only[dN,fq,ao,A8 hT n,ae,d,F4 hT he,au];refine H3.same ?_ h;have f:((es.take h').drop l).length=h'-l:=by simp;omega
       have L2:∀ i (hi:i<((es.take h').drop l).length),((es.take h').drop l)[i]=es[l+i]'(by rw[f]at hi;omega):=fun i hi=>by simp
       by_cases e:cap=l
       ·rw[Af e,<-f]
        have Q:h'-l=0:=by omega
        exact .rs _ _ _ size val (fun h=>Am (by omega) h) (by rw[f];omega) (fun i hi=>by rw[f]at hi;omega) (fun i j hi=>by rw[f]at hi;omega) (fun i j hi=>by rw[f]at hi;omega)
       rw[Ae e];have hs:=hs (by omega);simp at hs;subst hs;simp only[ak,K6];rw[<- f];refine .rs _ _ _ size (fun i j=>val (l+i) j) (fun _=>rfl) (by rw[f];omega) (fun i hi=>by rw[L2 i hi];exact hlen _ _) (fun i j hi hj=>?_) (fun i j hi hj=>?_)
       ·rw[f]at hi
        have q:size=H.size:=by have:=aj.1 C (es[l+i]'(by omega)) (aw _);rw[hlen]at this;simpa using this
        have:=himm (l+i) j (by omega) hj;rw[<- q];rw[bI]at this;simpa[dq]using this
       have K:=hi;rw[f]at K;have:=hrep (l+i) j (by omega) (by rw[L2 i hi]at hj;exact hj);simpa using this
     cases ha
    cases ha
   cases ha
  ·rename_i H he
   split at ha
   ·rename_i h' g
    split at ha
    ·rename_i l k
     cases ha;cases E;obtain⟨d,r,B⟩:=J7 (P:=P) (w:=w) (cap:=0) true z hl (cN _) g k;obtain rfl:h'=0:=by omega
     obtain rfl:l=0:=by omega
     simp only[dN,fq,ao,A8 hT n,ae,d,F4 hT he,au];exact H3.same (.sc _) h
    cases ha
   cases ha
  cases ha
 ·rename_i _ _ _ _ n
  cases D with
  | some _=>exact hm.elim
  | none=>
  split at ha
  ·rename_i s
   split at ha
   ·rename_i h' g
    split at ha
    ·rename_i l k
     cases ha;cases E;obtain⟨d,r,B⟩:=J7 (P:=P) (w:=w) (cap:=s.size) false z hl (ax _) g k;simp only[dN,fq,ao,A8 hT n,ae,Option.isSome_none,aq,Ah,d,au];exact H3.same (.sc _) h
    cases ha
   cases ha
  cases ha
 cases ha
def sK0(op:BinOp)(x y:Value):Option Value :=
 match x,y with
 | .int k a,.int c b=>
  match op with
  | .shl=>if b<0 then none else some (.int k (k.wrap (a*2^(min b.toNat k.bits))))
  | .shr=>if b<0 then none else some (.int k (a.fdiv (2^(min b.toNat k.bits))))
  | _=>if k≠c then none else
   match op with
   | .add=>some (.int k (k.wrap (a+b)))
   | .sub=>some (.int k (k.wrap (a-b)))
   | .mul=>some (.int k (k.wrap (a*b)))
   | .quo=>if b=0 then none else some (.int k (k.wrap (a.tdiv b)))
   | .rem=>if b=0 then none else some (.int k (a.tmod b))
   | .and=>some (.int k (k.wrap (bu k.bits a &&& bu k.bits b).toNat))
   | .or=>some (.int k (k.wrap (bu k.bits a ||| bu k.bits b).toNat))
   | .xor=>some (.int k (k.wrap (bu k.bits a ^^^ bu k.bits b).toNat))
   | .andNot=>some (.int k (k.wrap (bu k.bits a &&& ~~~(bu k.bits b)).toNat))
   | .eql=>some (.bool (a==b))
   | .neq=>some (.bool (a != b))
   | .lss=>some (.bool (a<b))
   | .leq=>some (.bool (a<=b))
   | .gtr=>some (.bool (a > b))
   | .geq=>some (.bool (a>=b))
   | _=>none
 | .string a,.string b=>
  match op with
  | .add=>if ((a.size+b.size:Nat):Int) > aa.max then none else some (.string (a++b))
  | .eql=>some (.bool (a.toList==b.toList))
  | .neq=>some (.bool !(a.toList==b.toList))
  | _=>none
 | _,_=>none
theorem wy0{P:Program}{w:World}{op:BinOp}{t:TypeId}{x y v:Value}{d e:Operand}(h:sK0 op x y=some v) :
  (do eqGuard op t d e x y;binOp op t x y:Sem Value).run P w=.ok v w:=by
 unfold sK0 at h;split at h
 ·rename_i k a i b
  have f:(eqGuard op t d e (.int k a) (.int i b)).run P w=.ok () w:=by unfold eqGuard;simp
  simp only[ao,f,ae];cases op
  case shl=>
   simp only[]at h;split at h
   ·cases h
   rename_i c;cases h;simp[binOp,Op.shift,c]
  case shr=>
   simp only[]at h;split at h
   ·cases h
   rename_i c;cases h;simp[binOp,Op.shift,c]
  all_goals
   simp only[]at h;split at h
   ·cases h
   rename_i c;obtain rfl:k=i:=Classical.not_not.1 c
  case h_1.quo.isFalse=>
   split at h
   ·cases h
   rename_i g;cases h;simp[binOp,Op.intDiv,g]
  case h_1.rem.isFalse=>
   split at h
   ·cases h
   rename_i g;cases h;simp[binOp,Op.intDiv,g]
  all_goals
   cases h;simp[binOp,k_,Op.intBits,Op.intCmp]
 ·rename_i a b
  have f:(eqGuard op t d e (.string a) (.string b)).run P w=.ok () w:=by unfold eqGuard;simp
  simp only[ao,f,ae];cases op<;>simp only[]at h<;>first
   | (cases h;done)
   | (cases h;simp[binOp,lf];done)
   | (split at h<;>first | (cases h;done) | (rename_i c;cases h;simp only[binOp,lf];rw[Ae c];rfl))
 cases h
theorem AV.i64s_ok{G:j4}:∀ {cs:List AV} {l:List Int} {vs:List Value},AV.i64s cs=some l->B8 G cs vs->vs=l.map (bk .i64)
 | [],l,vs,h,a=>by simp[AV.i64s]at h;subst h;rw[a.nil_inv];rfl
 | c::cs,l,vs,h,a=>by
  obtain⟨v,b,rfl,h1,h2⟩:=a.cons_inv;unfold AV.i64s at h;split at h
  ·rename_i e;cases e
  ·rename_i n d e
   cases e;split at h
   ·rename_i f hl
    cases h;cases h1;rw[AV.i64s_ok hl h2];rfl
   cases h
  cases h
def AV.isNil:AV->Option Bool
 | .sc (.slice none 0 0)=>some true
 | .rs (_::_)=>some false
 | .ms _ _ _ (_+1)=>some false
 | _=>none
theorem AV.isNil_ok{G:j4}{x:AV}{u:Value}{b:Bool}(h:x.isNil=some b)(d:Rep G x u):∃ a l c,u=.slice a l c/\a.isNone=b:=by
 unfold AV.isNil at h;split at h
 ·cases h;cases d;exact⟨_,_,_,rfl,rfl⟩
 ·cases h
  cases d;exact⟨_,_,_,rfl,rfl⟩
 ·cases h
  cases d;exact⟨_,_,_,rfl,rfl⟩
 cases h
theorem au0{P:Program}(w:World)(d:Nat)(t elem:TypeId)(a:Option Addr)(l c:Nat)(hu:P.underlying t=some (.slice elem)) :
  (fz (d+1) t (.slice a l c) (.slice none 0 0)).run P w=.ok a.isNone w:=by
 cases a with
 | none=>simp[fz,underlying,hu]
 | some a=>simp[fz,underlying,hu]
def is0(T:Tab)(op:BinOp)(t:TypeId)(x y:AV):Option AV :=
 match x,y with
 | x,.sc (.slice none 0 0)=>
  match T t,x.isNil with
  | some { und:=.slice _,.. },some b=>match op with
   | .eql=>some (.sc (.bool b))
   | .neq=>some (.sc (.bool !b))
   | _=>none
  | _,_=>none
 | .sc (.bool a),.sc (.bool b)=>
  match T t with
  | some { und:=.bool,.. }=>match op with
   | .eql=>some (.sc (.bool (a==b)))
   | .neq=>some (.sc (.bool !(a==b)))
   | _=>none
  | _=>none
 | .sc a,.sc b=>match sK0 op a b with
  | some v=>some (.sc v)
  | none=>none
 | .agg cs,.agg c=>
  match AV.i64s cs,AV.i64s c,T t with
  | some as,some bs,some ti=>if ti.flat=some as.length/\bs.length=as.length then
    match op with
    | .eql=>some (.sc (.bool (as==bs)))
    | .neq=>some (.sc (.bool !(as==bs)))
    | _=>none else none
  | _,_,_=>none
 | _,_=>none
theorem we0{P:Program}{T:Tab}(hT:C0 P T){G:j4}{σ:j3}{w:World}(h:Rel G σ w){op:BinOp}{t:TypeId}{id:Nat}{x y v:AV}{u z:Value}{g i:Operand}(j:Rep G x u)(k:Rep G y z)
  (ha:is0 T op t x y=some v):H3 G σ w σ id v ((do eqGuard op t g i u z;binOp op t u z:Sem Value).run P w):=by
 unfold is0 at ha;split at ha
 ·cases k
  split at ha
  ·rename_i e s
   obtain⟨a,l,c,rfl,r⟩:=AV.isNil_ok s j;have f:(eqGuard op t g i (.slice a l c) (.slice none 0 0)).run P w=.ok () w:=by unfold eqGuard;simp
   simp only[ao,f,ae];have hu:=hT.und t _ e;split at ha
   ·cases ha
    simp only[binOp,fQ,eh,ao,au0 w 9999 t _ a l c hu,ae,au,r];exact H3.same (.sc _) h
   ·cases ha
    simp only[binOp,fQ,eh,ao,au0 w 9999 t _ a l c hu,ae,au,r];exact H3.same (.sc _) h
   cases ha
  cases ha
 ·rename_i a b
  cases j;cases k;have f:(eqGuard op t g i (.bool a) (.bool b)).run P w=.ok () w:=by unfold eqGuard;simp
  simp only[ao,f,ae];split at ha
  ·rename_i e
   have hu:=hT.und t _ e;split at ha
   ·cases ha
    simp only[binOp,fQ,eh,ao,run_equalIn_bool' w 9999 t a b hu,ae,au];exact H3.same (.sc _) h
   ·cases ha
    simp only[binOp,fQ,eh,ao,run_equalIn_bool' w 9999 t a b hu,ae,au];exact H3.same (.sc _) h
   cases ha
  cases ha
 ·rename_i a b _
  cases j;cases k;split at ha
  ·rename_i B hv
   cases ha;rw[wy0 hv];exact H3.same (.sc _) h
  cases ha
 ·rename_i cs C
  split at ha
  ·rename_i as bs ti h1 h2 e
   split at ha
   ·rename_i hc
    obtain⟨hf,hlen⟩:=hc;obtain⟨m,heq⟩:=hT.flat t ti _ e hf;cases j with
    | agg _ xs n o=>
    cases k with
    | agg _ D p q=>
    have e1:=AV.i64s_ok h1 ⟨n,o⟩;have e2:=AV.i64s_ok h2 ⟨p,q⟩;subst e1 e2;have d:=(heq as bs w rfl hlen).1;have f:(eqGuard op t g i (.agg (as.map (bk .i64)).toArray) (.agg (bs.map (bk .i64)).toArray)).run P w=.ok () w:=by unfold eqGuard;simp[m]
    simp only[ao,f,ae];split at ha
    ·cases ha
     simp only[binOp,fQ,eh,ao,d,ae,au];exact H3.same (.sc _) h
    ·cases ha
     simp only[binOp,fQ,eh,ao,d,ae,au];exact H3.same (.sc _) h
    cases ha
   cases ha
  cases ha
 cases ha
def aUn(op:UnOp)(x:AV):Option AV :=
 match op,x with
 | .neg,.sc (.int k n)=>some (.sc (.int k (k.wrap (0-n))))
 | .not,.sc (.bool b)=>some (.sc (.bool !b))
 | _,_=>none
theorem aUn_ok{P:Program}{G:j4}{σ:j3}{w:World}(h:Rel G σ w){op:UnOp}{id:Nat}{x v:AV}{u:Value}(a:Rep G x u)(ha:aUn op x=some v) :
  H3 G σ w σ id v ((kM op u).run P w):=by
 unfold aUn at ha;split at ha
 ·cases ha;cases a
  simp only[kM,k_,au];exact H3.same (.sc _) h
 ·cases ha;cases a
  simp only[kM,au];exact H3.same (.sc _) h
 cases ha
def kx0(T:Tab)(src dst:TypeId)(x:AV):Option AV :=
 match T src,T dst,x with
 | some _,some { und:=.int k,.. },.sc (.int _ n)=>some (.sc (.int k (k.wrap n)))
 | _,_,_=>none
theorem tN0{P:Program}{T:Tab}(hT:C0 P T){G:j4}{σ:j3}{w:World}(h:Rel G σ w){src dst:TypeId}{id:Nat}{x v:AV}{u:Value}(a:Rep G x u)(ha:kx0 T src dst x=some v) :
  H3 G σ w σ id v ((convert src dst u).run P w):=by
 unfold kx0 at ha;split at ha
 ·rename_i c k _ _ _ _ d n hs b
  cases ha;cases a;simp only[convert,ao,A8 hT hs,A8 hT b,ae,Conv.intToInt,au];exact H3.same (.sc _) h
 cases ha
def ca0(x:AV)(i:Nat):Option AV :=
 match x with
 | .tup vs=>vs[i]?
 | _=>none
theorem mx0{P:Program}{G:j4}{σ:j3}{w:World}(h:Rel G σ w){i id:Nat}{x v:AV}{u:Value}(a:Rep G x u)(ha:ca0 x i=some v) :
  H3 G σ w σ id v ((ke u i).run P w):=by
 unfold ca0 at ha;split at ha
 ·cases a with
  | tup cs vs h1 h2=>obtain⟨z,hz,b⟩:=B8.get (G:=G) ⟨h1,h2⟩ ha;simp only[ke,cT,hz,au];exact H3.same b h
 cases ha
def eD0(place:Nat->Option (Nat×Nat))(cells:List AV):List (Nat×AV)->Option (List AV)
 | []=>some cells
 | (i,v)::rest=>
  match place i,v.cells with
  | some (off,size),some vs=>if vs.length=size/\off+vs.length<=cells.length then eD0 place (N5 cells off vs) rest else none
  | _,_=>none
theorem kE0(off:Nat):∀ (vs:List Value) (j:Nat) (cs:Array Value),off+j+vs.length<=cs.size ->
  ((vs.zipIdx j).foldl (fun cs (x:Value×Nat)=>cs.setIfInBounds (off+x.2) x.1) cs).toList=cs.toList.take (off+j)++vs++cs.toList.drop (off+j+vs.length)
 | [],j,cs,_=>by simp
 | v::vs,j,cs,h=>by
  simp only[ay]at h;rw[List.zipIdx_cons,iC,kE0 off vs (j+1) _ (by simp;omega)];have a:off+j<cs.toList.length:=by simp;omega
  simp only[Array.toList_setIfInBounds];rw[List.take_set,List.drop_set,Af (by omega)];have e1:List.set (gW (off+(j+1)) cs.toList) (off+j) v=gW (off+j) cs.toList++[v]:=by
   have hm:min (off+j) cs.toList.length=off+j:=by omega
   rw[<- dq,List.take_succ_eq_append_getElem a,List.set_append];simp only[ik,hm,Nat.lt_irrefl,Ah,Nat.sub_self];rfl
  rw[e1];simp;omega
theorem mG0{G:j4}{cs vs:List AV}{us a:List Value}(h:B8 G cs us)(hv:B8 G vs a)(off:Nat):B8 G (N5 cs off vs) (us.take off++a++us.drop (off+a.length)):=by unfold N5;rw[hv.1];exact((h.take off).append hv).append (h.drop _)
theorem gn0{G:j4}{place:Nat->Option (Nat×Nat)}:∀ {parts:List (Nat×AV)} {a:List (Nat×Value)} {cs out:List AV} {us:Array Value},B8 G cs us.toList ->
  (parts.map (·.1)=a.map (·.1))->B8 G (parts.map (·.2)) (a.map (·.2))->eD0 place cs parts=some out->∃ d:Array Value,kN place us a=some d/\B8 G out d.toList
 | [],a,cs,out,us,h,he,f,ha=>by
  cases a with
  | nil=>simp[eD0]at ha;subst ha;exact⟨us,rfl,h⟩
  | cons _ _=>simp at he
 | (i,v)::rest,a,cs,out,us,h,he,f,ha=>by
  cases a with
  | nil=>simp at he
  | cons p g=>
   obtain⟨n,z⟩:=p;simp only[az,cG]at he f;obtain⟨rfl,he⟩:=he;obtain⟨o,m,e,h1,h2⟩:=f.cons_inv;simp only[cG]at e;obtain⟨rfl,rfl⟩:=e;unfold eD0 at ha;split at ha
   ·rename_i off size vs hp hc
    split at ha
    ·rename_i j
     have b:=h1.cells hc;have q:z.cells.size=vs.length:=by have:=b.1;simpa using this
     have r:us.size=cs.length:=by have:=h.1;simpa using this
     have c:((z.cells.zipIdx).foldl (fun cs (x:Value×Nat)=>cs.setIfInBounds (off+x.2) x.1) us).toList=us.toList.take off++z.cells.toList++us.toList.drop (off+z.cells.toList.length):=by have:=kE0 off z.cells.toList 0 us (by simp;omega);simp only[cM]at this;rw[<- this,<-Array.foldl_toList];simp
     obtain⟨d,k,l⟩:=gn0 (us:=(z.cells.zipIdx).foldl (fun cs (x:Value×Nat)=>cs.setIfInBounds (off+x.2) x.1) us) (by rw[c];exact mG0 h b off) he h2 ha;refine⟨d,?_,l⟩;simp only[kN,hp];rw[Ae (by simp;omega)];exact k
    cases ha
   cases ha
theorem B1{α:Type}{size:Nat}:∀ {es:List (List α)},(∀ c∈es,c.length=size)->es.flatten.length=es.length*size
 | [],_=>by simp
 | c::es,h=>by rw[ck,aK,B1 (fun c hc=>h c (by simp[hc])),h c (by simp),ay,bI];omega
theorem aS0{α:Type}{size:Nat}:∀ {es:List (List α)},(∀ c∈es,c.length=size)->∀ (i j:Nat) (c:List α),es[i]?=some c->j<size->es.flatten[i*size+j]?=c[j]?
 | [],_,i,j,c,h,_=>by simp at h
 | d::es,hl,0,j,c,h,hj=>by simp at h;subst h;rw[ck,iP,aG,cE,Af (by rw[hl d (by simp)];exact hj)]
 | d::es,hl,i+1,j,c,h,hj=>by have a:d.length=size:=hl d (by simp);have b:=aS0 (es:=es) (fun c hc=>hl c (bO _ hc)) i j c (by simpa using h) hj;rw[ck,cE,Ae (by rw[a,bI];omega),<-b,a,bI];congr 1;omega
theorem gU0{G:j4}{es:List (List AV)}{size:Nat}{cells:Array Value}(hl:∀ c∈es,c.length=size){vs:List Value}(h:B8 G es.flatten vs)(hv:∀ (k:Nat) (v:Value),vs[k]?=some v->cells[k]?=some v) :
  ∀ i (hi:i<es.length),es[i].length=size/\∀ j (hj:j<es[i].length) (h':i*size+j<cells.size),Rep G es[i][j] cells[i*size+j]:=by
 intro i hi;refine⟨hl _ (aw hi),fun j hj h'=>?_⟩;have a:j<size:=by rw[<- hl _ (aw hi)];exact hj
 have b:=aS0 hl i j es[i] (ai hi) a;rw[ai hj]at b;obtain⟨v,h1,h2⟩:=h.get b;have:=hv _ _ h1;rw[aH h']at this;cases this;exact h2
theorem dS0{G:j4}{es:List (List AV)}{size:Nat}{cells:Array Value}(a:∀ i (h:i<es.length),es[i].length=size/\∀ j (hj:j<es[i].length) (h':i*size+j<cells.size),Rep G es[i][j] cells[i*size+j])
  (g:es.length*size<=cells.size):B8 G es.flatten (cells.toList.take (es.length*size)):=by
 have hl:∀ c∈es,c.length=size:=fun c hc=>by obtain⟨i,hi,rfl⟩:=bH hc;exact(a i hi).1
 refine⟨by rw[B1 hl];simp;omega,fun k hk f=>?_⟩;rw[B1 hl]at hk;by_cases hs:size=0
 ·subst hs;simp at hk
 have hi:k / size<es.length:=(fN (by omega)).2 hk;have hj:k%size<size:=gp _ (by omega);have b:k / size*size+k%size=k:=by rw[dY];exact gq k size
 have d:=aS0 hl (k / size) (k%size) es[k / size] (ai hi) hj;have hlen:=(a _ hi).1;rw[b,ai (show k<es.flatten.length by rw[B1 hl];exact hk),ai (show k%size<es[k / size].length by rw[hlen];exact hj)]at d;have e:=(a _ hi).2 (k%size) (by rw[hlen];exact hj) (by rw[b];omega);simp only[ah]at d;rw[d];simp only[b]at e;simpa using e
theorem dM0{size:Nat}:∀ {es:List (List AV)},(∀ c∈es,c.length=size)->∀ (i:Nat) (vs:List AV),i<es.length->vs.length=size->N5 es.flatten (i*size) vs=(es.set i vs).flatten
 | [],_,i,vs,h,_=>by simp at h
 | d::es,hl,0,vs,_,hv=>by have a:d.length=size:=hl d (by simp);simp only[N5,ck,iP,List.take_zero,aT,aG,List.set_cons_zero,List.append_cancel_left_eq];rw[hv,<-a,List.drop_left]
 | d::es,hl,i+1,vs,h,hv=>by
  have a:d.length=size:=hl d (by simp);have b:=dM0 (es:=es) (fun c hc=>hl c (bO _ hc)) i vs (by simpa using h) hv;simp only[List.set_cons_succ,ck,<-b,N5,hv];have e1:(i+1)*size=d.length+i*size:=by rw[a,bI];omega
  have e2:(i+1)*size+size=d.length+(i*size+size):=by rw[a,bI];omega
  rw[e1,gX,<-e1,e2,jC];simp[cL]
def Q4(size:Nat)(es:List (List AV)):List (Nat×AV)->Option (List (List AV))
 | []=>some es
 | (i,v)::rest=>match v.cells with
  | some vs=>if vs.length=size/\i<es.length then Q4 size (es.set i vs) rest else none
  | none=>none
theorem eQ0{size:Nat}:∀ {parts:List (Nat×AV)} {es out:List (List AV)},(∀ c∈es,c.length=size)->Q4 size es parts=some out ->
  eD0 (fun i=>some (i*size,size)) es.flatten parts=some out.flatten/\out.length=es.length/\∀ c∈out,c.length=size
 | [],es,out,hl,h=>by simp[Q4]at h;subst h;exact⟨rfl,rfl,hl⟩
 | (i,v)::rest,es,out,hl,h=>by
  unfold Q4 at h;split at h
  ·rename_i vs hc
   split at h
   ·rename_i a
    have b:∀ c∈es.set i vs,c.length=size:=fun c hc=>by
     rcases List.mem_or_eq_of_mem_set hc with h1 | h1
     ·exact hl c h1
     rw[h1];exact a.1
    obtain⟨h1,h2,d⟩:=eQ0 b h;refine⟨?_,by rw[h2];simp,d⟩;have hle:i*size+vs.length<=es.flatten.length:=by rw[B1 hl,a.1];have:(i+1)*size<=es.length*size:=bq _ a.2;rw[bI]at this;omega
    simp only[eD0,hc];rw[Af ⟨a.1,hle⟩,dM0 hl i vs a.2 a.1];exact h1
   cases h
  cases h
theorem re0(zero:Array Value)(n:Nat)(hz:0<zero.size):(((bd (n*zero.size)).map (zero[·%zero.size]!)).toList).map AV.sc=(bm n (zero.toList.map AV.sc)).flatten:=by
 apply List.ext_getElem?;intro k;have hl:∀ c∈bm n (zero.toList.map AV.sc),c.length=zero.size:=fun c hc=>by rw[fg hc];simp
 by_cases hk:k<n*zero.size
 ·have hi:k / zero.size<n:=(fN hz).2 hk
  have hj:k%zero.size<zero.size:=gp _ hz;have a:k / zero.size*zero.size+k%zero.size=k:=by rw[dY];exact gq k zero.size
  have:=aS0 hl (k / zero.size) (k%zero.size) (zero.toList.map AV.sc) (by simp[hi]) hj;rw[a]at this;rw[this];simp[hk,hj]
 rw[bD (by simp;omega),bD (by rw[B1 hl];simp;omega)]
def Li0(T:Tab):List Field->Option (List (Nat×Nat))
 | []=>some []
 | f::fs=>match T f.type,Li0 T fs with
  | some a,some l=>some ((f.offset,a.size)::l)
  | _,_=>none
theorem run_places{P:Program}{T:Tab}(hT:C0 P T)(w:World):∀ {fs:List Field} {l:List (Nat×Nat)},Li0 T fs=some l ->
  (fs.mapM (fun f:Field=>do pure (f.offset,<-sizeOf f.type)):Sem (List (Nat×Nat))).run P w=.ok l w
 | [],l,h=>by simp[Li0]at h;subst h;simp
 | f::fs,l,h=>by
  unfold Li0 at h;split at h
  ·rename_i b c hf hl
   cases h;have a:=run_places hT w hl;simp only[kf,ao,F4 hT hf,ae,au,a]
  cases h
def fX0(T:Tab)(t:TypeId)(parts:List (Nat×AV)):Option AV :=
 match T t with
 | some { und:=.struct fields,zero:=z,.. }=>
  match Li0 T fields.toList with
  | some l=>match eD0 (l[·]?) (z.cells.toList.map .sc) parts with
   | some cs=>some (.agg cs)
   | none=>none
  | none=>none
 | some { und:=.array _ elem,zero:=z,.. }=>
  match T elem with
  | some a=>match eD0 (fun i=>some (i*a.size,a.size)) (z.cells.toList.map .sc) parts with
   | some cs=>some (.agg cs)
   | none=>none
  | none=>none
 | _=>none
theorem rb0{P:Program}{T:Tab}(hT:C0 P T){G:j4}{σ:j3}{w:World}(h:Rel G σ w){t:TypeId}{id:Nat}{parts:List (Nat×AV)}{a:List (Nat×Value)}{v:AV}
  (he:parts.map (·.1)=a.map (·.1)) (i:B8 G (parts.map (·.2)) (a.map (·.2))) (ha:fX0 T t parts=some v) :
  H3 G σ w σ id v ((iQ t a.toArray).run P w):=by
 unfold fX0 at ha;split at ha
 ·rename_i fields _ z _ _ d
  split at ha
  ·rename_i l hl
   split at ha
   ·rename_i cs hf
    cases ha;obtain⟨e,c,b⟩:=gn0 (us:=z.cells) (B8.sc G _) he i hf;have hp:(fields.mapM (fun f:Field=>do pure (f.offset,<-sizeOf f.type)):Sem (Array (Nat×Nat))).run P w=.ok l.toArray w:=by rw[hJ];have:=run_places hT w hl;simp only[kT,this,ae]
    simp only[iQ,ao,W8 hT d,A8 hT d,ae,hp,cT,c,au];refine H3.same ?_ h;have:=Rep.agg (G:=G) cs e.toList b.1 b.2;simpa using this
   cases ha
  cases ha
 ·rename_i n elem _ z _ _ d
  split at ha
  ·rename_i j g
   split at ha
   ·rename_i cs hf
    cases ha;obtain⟨e,c,b⟩:=gn0 (us:=z.cells) (B8.sc G _) he i hf;simp only[iQ,ao,W8 hT d,A8 hT d,F4 hT g,ae,c,au];refine H3.same ?_ h;have:=Rep.agg (G:=G) cs e.toList b.1 b.2;simpa using this
   cases ha
  cases ha
 cases ha
theorem kK0{P:Program}{G:j4}{σ:j3}{w:World}(h:Rel G σ w)(t:TypeId)(cells:Array Value)(es:List (List AV))(size cap:Nat)(hl:∀ c∈es,c.length=size){vs:List Value}(d:B8 G es.flatten vs)
  (hv:∀ (k:Nat) (v:Value),vs[k]?=some v->cells[k]?=some v) (e:cells.size=cap*size) (a:es.length<=cap) (id:Nat) (hid:G.pl id=none) (b:id<σ.next) :
  ∃ p:Pl,p.block=w.heap.size/\p.size=size/\p.cap=cap/\p.virt=false/\Rel (G.place id p) (σ.set id (.row t size es)) { w with heap:=w.heap.push (.cells cells t) }:=by
 refine⟨{ block:=w.heap.size,size:=size,cap:=cap },rfl,rfl,rfl,rfl,?_⟩;exact h.push (.cells cells t) id hid b _ rfl rfl (.row t size es) ⟨cells,rfl,rfl,e,a,gU0 hl (d.mono (j4.place_le hid)) hv⟩
def F9(T:Tab)(σ:j3)(id:Nat)(t:TypeId)(len:Nat)(parts:List (Nat×AV)):Option (AV×j3) :=
 match T t with
 | some { und:=.slice elem,.. }=>
  match T elem with
  | some a=>if len*a.size<=2^24/\0<a.size then
    match Q4 a.size (bm len a.zeroCells) parts with
    | some es=>some (.ms id a.size 0 len,σ.set id (.row elem a.size es))
    | none=>none else none
  | none=>none
 | _=>none
theorem iu0{P:Program}{T:Tab}(hT:C0 P T){G:j4}{σ σ':j3}{w:World}(h:Rel G σ w){t:TypeId}{id len:Nat}{parts:List (Nat×AV)}{a:List (Nat×Value)}{v:AV}
  (he:parts.map (·.1)=a.map (·.1)) (E:B8 G (parts.map (·.2)) (a.map (·.2))) (hid:G.pl id=none) (r:id<σ.next) (ha:F9 T σ id t len parts=some (v,σ')) :
  H3 G σ w σ' id v ((js t len a.toArray).run P w):=by
 unfold F9 at ha;split at ha
 ·rename_i elem _ _ _ _ H
  split at ha
  ·rename_i b g
   split at ha
   ·rename_i I
    split at ha
    ·rename_i es hes
     cases ha;have i:=hT.zlen elem b g;have s:∀ c∈bm len b.zeroCells,c.length=b.size:=fun c hc=>by rw[fg hc];simp[TI.zeroCells,i]
     obtain⟨j,hlen,hl⟩:=eQ0 s hes;have u:=re0 b.zero.cells len (by omega);have l:es.length=len:=by rw[hlen];simp
     obtain⟨x,m,n⟩:=gn0 (us:=(bd (len*b.zero.cells.size)).map (b.zero.cells[·%b.zero.cells.size]!)) (by
      have:=B8.sc G ((bd (len*b.zero.cells.size)).map (b.zero.cells[·%b.zero.cells.size]!)).toList;rw[u]at this;exact this) he E j
     have z:x.size=len*b.size:=by have:=n.1;rw[B1 hl,l]at this;simpa using this
     obtain⟨p,o,B,C,D,q⟩:=kK0 (P:=P) h elem x es b.size len hl n (fun k v hv=>by simpa using hv) z (by omega) id hid r;have f:H3 G σ w (σ.set id (.row elem b.size es)) id (.ms id b.size 0 len) (.ok (.slice (some ⟨w.heap.size,0,none⟩) len len) { w with heap:=w.heap.push (.cells x elem) }):=by refine H3.place (p:=p) hid ?_ q (Fr.push _ id hid p (fun _=>o) _ w.drawn);exact .ms id _ 0 len p (j4.place_same _ _ _) D B _ len (fun _=>by rw[o];simp) (by rw[C];simp) (ax _) rfl
     simp only[js,ao,A8 hT H,F4 hT g,ae];rw[Ae (by omega)];rw[i]at m;by_cases e:len*b.size=0
     ·simp only[e,Al,ao,au,ae]
      have d:(bd 0).map ((#[]:Array Value)[·%(#[]:Array Value).size]!)=(bd (len*b.size)).map (b.zero.cells[·%b.size]!):=by simp[e]
      rw[d,m];simpa[newRow]using f
     simp only[e,Ah,ao,au,ae,W8 hT g,i,m,newRow,run_newObj];exact f
    cases ha
   cases ha
  cases ha
 cases ha
def P6(σ:j3):AV->Option (List (List AV))
 | .ms id _ off len=>match σ.objs id with
  | some (.row _ _ es)=>if off+len<=es.length then some ((es.drop off).take len)else none
  | _=>none
 | .rs es=>some es
 | .sc (.slice none 0 0)=>some []
 | _=>none
theorem fP0{α:Type}{size:Nat}:∀ {es:List (List α)},(∀ c∈es,c.length=size)->∀ n,es.flatten.take (n*size)=(es.take n).flatten
 | [],_,n=>by simp
 | d::es,hl,0=>by simp
 | d::es,hl,n+1=>by
  have a:d.length=size:=hl d (by simp);have e1:(n+1)*size=d.length+n*size:=by rw[a,bI];omega
  rw[ck,e1,gX,fP0 (fun c hc=>hl c (bO _ hc)) n];simp
theorem fJ0{α:Type}{size:Nat}:∀ {es:List (List α)},(∀ c∈es,c.length=size)->∀ n,es.flatten.drop (n*size)=(es.drop n).flatten
 | [],_,n=>by simp
 | d::es,hl,0=>by simp
 | d::es,hl,n+1=>by
  have a:d.length=size:=hl d (by simp);have e1:(n+1)*size=d.length+n*size:=by rw[a,bI];omega
  rw[ck,e1,jC,Nat.add_sub_cancel_left,fJ0 (fun c hc=>hl c (bO _ hc)) n];simp
theorem rn0{P:Program}{G:j4}{σ:j3}{w:World}(h:Rel G σ w){x:AV}{u:Value}(D:Rep G x u){es:List (List AV)}(hs:P6 σ x=some es)(size:Nat)(hl:∀ c∈es,c.length=size) :
  (∃ a c,u=.slice a es.length c)/\∃ vs:List Value,(aO size es.length u).run P w=.ok vs.toArray w/\B8 G es.flatten vs:=by
 unfold P6 at hs;split at hs
 ·rename_i id _ off len
  split at hs
  ·rename_i elem d all J
   split at hs
   ·rename_i hle
    cases hs;have hlen:((all.drop off).take len).length=len:=by simp;omega
    rw[hlen];cases D with
    | msNil _ _ p hp hv=>refine⟨⟨_,_,rfl⟩,[],by simp[aO],?_⟩;simp;exact .nil _
    | ms _ _ _ _ p hp hv hz a c K hoff M hsp=>
     refine⟨⟨_,_,rfl⟩,?_⟩;obtain⟨_,_,cells,N,E,O,t,m⟩:=h.real J hp hv;have f:∀ c∈all,c.length=d:=fun c hc=>by obtain⟨i,hi,rfl⟩:=bH hc;exact(m i hi).1
     by_cases z:len=0
     ·subst z
      refine⟨[],by simp[aO,loadCells,loadCellsFrom],?_⟩;simp;exact .nil _
     have r:d=size:=by
      have hm:all[off]'(by omega)∈(all.drop off).take len:=by have:=aw (l:=(all.drop off).take len) (n:=0) (by rw[hlen];omega);simpa using this
      rw[<- hl _ hm];exact(f _ (aw _)).symm
     subst r;have B:all.length*d<=cells.size:=by rw[O];exact bq _ t
     have s:=dS0 m B;have q:=(s.drop (off*d)).take (len*d);rw[fJ0 f,fP0 (fun c hc=>f c (List.mem_of_mem_drop hc))]at q;have hmul:off*d+len*d<=all.length*d:=by rw[<- bI];exact bq _ hle
     refine⟨_,?_,q⟩;have Q:(gW (len*d) (kZ (off*d) (gW (all.length*d) cells.toList))).length=len*d:=by simp;omega
     simp only[aO];rw[K (by omega),E]
     conv=>lhs;rw[<- Q]
     refine run_loadCells_list (P:=P) w _ _ (fun j v hv=>?_);rw[K6,cell_of_row w _ _ cells elem _ N];simp only[gk,je]at hv;split at hv
     ·split at hv
      ·simpa using hv
      cases hv
     cases hv
   cases hs
  cases hs
 ·cases hs
  cases D with
  | rsNil=>exact⟨⟨_,_,rfl⟩,[],by simp[aO],.nil _⟩
  | rs es a cap d val hsp hc hlen himm hrep=>
   refine⟨⟨_,_,rfl⟩,?_⟩;obtain⟨b,o,sp⟩:=a;by_cases z:es=[]
   ·subst z
    exact⟨[],by simp[aO,loadCells,loadCellsFrom],.nil _⟩
   have hsp:=hsp (by have h1:0<es.length:=cR.2 z;omega);simp at hsp;subst hsp;have r:d=size:=by have h1:0<es.length:=cR.2 z;rw[<- hlen 0 h1];exact hl _ (aw _)
   subst r;have g:∀ k,k<es.length*d->k / d<es.length/\k%d<d/\k / d*d+k%d=k:=fun k hk=>by
    have hp:0<d:=by
     rcases Nat.eq_zero_or_pos d with e | e
     ·subst e;simp at hk
     exact e
    exact⟨(fN hp).2 hk,gp _ hp,by rw[dY];exact gq k d⟩
   refine⟨(aJ (es.length*d)).map (fun k=>val (k / d) (k%d)),?_,?_⟩
   ·simp only[aO]
    refine run_loadCells (P:=P) w _ _ _ (fun k hk=>?_);obtain⟨h1,h2,H⟩:=g k hk;rw[K6];have:=h.cell (himm (k / d) (k%d) h1 h2);rwa [dq,H]at this
   refine⟨by rw[B1 hl];simp,fun k hk R=>?_⟩;rw[B1 hl]at hk;obtain⟨h1,h2,H⟩:=g k hk;have I:=aS0 hl (k / d) (k%d) es[k / d] (ai h1) h2;have C:=hlen _ h1;rw[H,ai (show k<es.flatten.length by rw[B1 hl];exact hk),ai (show k%d<es[k / d].length by rw[C];exact h2)]at I;simp only[ah]at I;rw[I];have:=hrep (k / d) (k%d) h1 (by rw[C];exact h2);simpa using this
 ·cases hs
  cases D;exact⟨⟨_,_,rfl⟩,[],by simp[aO],.nil _⟩
 cases hs
def TI.isInt(ti:TI):Bool:=match ti.und with | .int _=>true | _=>false
def R8(σ:j3)(elem:TypeId)(size:Nat):AV->Option (Option Nat×List (List AV))
 | .ms id _ 0 len=>match σ.objs id with
  | some (.row e a es)=>if len=es.length/\a=size/\e=elem then some (some id,es)else none
  | _=>none
 | .sc (.slice none 0 0)=>some (none,[])
 | _=>none
def N8(T:Tab)(σ:j3)(id:Nat)(sT xT:TypeId)(s x:AV):Option (AV×j3) :=
 match T sT,T xT with
 | some { und:=.slice elem,.. },some d=>
  match T elem with
  | some a=>
   match R8 σ elem a.size s,P6 σ x with
   | some (b,es),some xs=>
    if d.isInt=false/\(xs.all fun c=>c.length==a.size&&c.all AV.one)=true/\(2*(es.length+xs.length)+1000)*a.bytes<=2^48/\es.length+xs.length<=2^62/\0<a.size then
     some (.ms id a.size 0 (es.length+xs.length),(match b with | some i=>σ.del i | none=>σ).set id (.row elem a.size (es++xs)))else none
   | _,_=>none
  | none=>none
 | _,_=>none
theorem kJ0(n:Nat):∀ (r c:Nat),c<=2*n+192->gR n r c<=2*n+192
 | 0,c,h=>by simpa[gR]using h
 | r+1,c,h=>by
  unfold gR;split
  ·exact h
  exact kJ0 n r _ (by omega)
theorem jl0{n c:Nat}(h:c<n):cW n c<=2*n+192:=by
 unfold cW;split
 ·omega
 split
 ·omega
 exact kJ0 n 4 c (by omega)
theorem run_append_room{P:Program}{T:Tab}(hT:C0 P T){w:World}{sT xT elem:TypeId}{st g h:TI}(hs:T sT=some st)(hu:st.und=.slice elem)(l:T xT=some g)(hi:g.isInt=false)(he:T elem=some h)
  (base:Option Addr) (b c n:Nat) (j:Option Addr) (k:Nat) (vs:Array Value) (d:(aO h.size n (.slice j n k)).run P w=.ok vs w) (e:b+n<=c) (ty:TypeId) :
  (cH #[sT,xT] ty #[.slice base b c,.slice j n k]).run P w =
   (((match base with | some a=>storeCells (a.add (b*h.size)) vs.toList | none=>pure ()):Sem Unit).run P w).andThen (fun _ w'=>.ok (.slice base (b+n) c) w'):=by
 have hz:((match g.und with | .int _=>true | _=>false):Bool)=false:=hi;have f:(underlying sT).run P w=.ok (.slice elem) w:=by rw[A8 hT hs,hu]
 unfold cH;simp only[cT,cq,aR,ao,f,ae,F4 hT he,A8 hT l,au];cases i:g.und<;>simp only[TI.isInt,i]at hi<;>first
  | (cases hi;done)
  | (simp only[aq,Ah,jD,ao,au,ae,e,Al,aY,d];cases base<;>simp)
theorem run_append_grow{P:Program}{T:Tab}(hT:C0 P T){w:World}{sT xT elem:TypeId}{st o e:TI}(hs:T sT=some st)(hu:st.und=.slice elem)(x:T xT=some o)(hi:o.isInt=false)(he:T elem=some e)
  (base:Option Addr) (a b n:Nat) (t:Option Addr) (u:Nat) (us vs:Array Value)
  (hold:∀ k,(aO e.size a (.slice base a b)).run P { w with drawn:=k }=.ok us { w with drawn:=k })
  (f:∀ k,(aO e.size n (.slice t n u)).run P { w with drawn:=k }=.ok vs { w with drawn:=k })
  (c:b<a+n) (B:(2*(a+n)+1000)*e.bytes<=2^48) (C:a+n<=2^62) (ty:TypeId) :
  ∃ newCap,a+n<=newCap/\(cH #[sT,xT] ty #[.slice base a b,.slice t n u]).run P w =
   .ok (.slice (some ⟨w.heap.size,0,none⟩) (a+n) newCap) { w with drawn:=w.drawn+1,heap:=w.heap.push (.cells (us++vs++bB e.zero.cells (newCap-(a+n))) elem) }:=by
 have g:∀ k,(underlying sT).run P { w with drawn:=k }=.ok (.slice elem) { w with drawn:=k }:=fun k=>by rw[A8 hT hs,hu]
 obtain⟨i,h,p⟩:=lc0 hT he w;have l:∀ w',(typeInfo elem).run P w'=.ok i w':=fun w'=>by
  obtain⟨j,hj,_⟩:=hT.info elem e he;have:(typeInfo elem).run P w=.ok j w:=by simp[typeInfo,hj]
  rw[this]at h;cases h;simp[typeInfo,hj]
 have v:=jl0 c;have d:¬ (cW (a+n) b*i.bytes > 2^48):=by rw[p];have:cW (a+n) b*e.bytes<=(2*(a+n)+1000)*e.bytes:=bq _ (by omega);omega
 refine⟨(eE (a+n) b elem).cut (w.tape w.drawn (.appendCap (a+n) b elem)),by simp only[jE];omega,?_⟩;have z:=g w.drawn;have q:=hold (w.drawn+1);have r:=f (w.drawn+1);have m:¬ (((a+n:Nat):Int) > aa.max/\(False\/i.bytes=0)):=by
  have:aa.max=9223372036854775807:=by decide
  rw[this];omega
 unfold cH;simp only[cT,cq,aR,ao,z,ae,F4 hT he,A8 hT x,au];cases s:o.und<;>simp only[TI.isInt,s]at hi<;>first
  | (cases hi;done)
  | (simp only[aq,Ah,jD,ao,au,ae,Ae (Nat.not_le.2 c),aY,Al,l,Ae m,Ae d,run_choose,fA,run_askRoom,q,r,W8 hT he,newRow,run_newObj])
theorem R0{P:Program}(w:World)(k:Nat)(a:Addr):∀ (n i:Nat) (acc vs:Array Value),(loadCellsFrom a i n acc).run P w=.ok vs w->(loadCellsFrom a i n acc).run P { w with drawn:=k }=.ok vs { w with drawn:=k }
 | 0,i,acc,vs,h=>by simp[loadCellsFrom]at h ⊢;exact h
 | n+1,i,acc,vs,h=>by
  simp only[loadCellsFrom,ao,run_load]at h ⊢;have hc:({ w with drawn:=k }:World).cell? (a.add i)=w.cell? (a.add i):=rfl;rw[hc];cases hw:w.cell? (a.add i)with
  | some v=>simp only[hw,ae]at h ⊢;exact R0 w k a n (i+1) _ vs h
  | none=>
   simp only[hw]at h ⊢;have hf:({ w with drawn:=k }:World).farLoad P (a.add i) (jt==.atomic)=w.farLoad P (a.add i) (jt==.atomic):=rfl;rw[hf];cases b:w.farLoad P (a.add i) (jt==.atomic)with
   | ok r=>obtain⟨v,l⟩:=r;simp only[b,ae]at h ⊢;exact R0 w k a n (i+1) _ vs h
   | error e=>simp[b]at h
theorem cE0{P:Program}(w:World)(k:Nat)(a:Addr)(n:Nat)(vs:Array Value)(h:(loadCells a n).run P w=.ok vs w):(loadCells a n).run P { w with drawn:=k }=.ok vs { w with drawn:=k } :=R0 w k a n 0 #[] vs h
theorem eM0{σ:j3}{i k:Nat}{o:l6}(h:(σ.del i).objs k=some o):σ.objs k=some o:=by
 rw[j3.objs_del]at h;split at h
 ·cases h
 exact h
theorem iv0(zero:Array Value)(n:Nat):(bB zero n).size=n*zero.size:=by simp[bB]
theorem W2{P:Program}{T:Tab}(hT:C0 P T){G:j4}{σ:j3}{w:World}(h:Rel G σ w){elem:TypeId}{a:TI}(he:T elem=some a){id:Nat}(hid:G.pl id=none)(g:id<σ.next)
  {es xs:List (List AV)} (hes:∀ c∈es,c.length=a.size) (b:∀ c∈xs,c.length=a.size) {us vs:List Value} (hu:B8 G es.flatten us) (hv:B8 G xs.flatten vs) {newCap:Nat} (hc:es.length+xs.length<=newCap) :
  H3 G σ w (σ.set id (.row elem a.size (es++xs))) id (.ms id a.size 0 (es.length+xs.length)) (.ok (.slice (some ⟨w.heap.size,0,none⟩) (es.length+xs.length) newCap)
   { w with drawn:=w.drawn+1,heap:=w.heap.push (.cells (us.toArray++vs.toArray++bB a.zero.cells (newCap-(es.length+xs.length))) elem) }):=by
 have d:∀ c∈es++xs,c.length=a.size:=fun c hc=>by
  rcases aQ.1 hc with h1 | h1
  ·exact hes c h1
  exact b c h1
 have i:us.length=es.length*a.size:=by rw[hu.1,B1 hes]
 have j:vs.length=xs.length*a.size:=by rw[hv.1,B1 b]
 have hz:=hT.zlen elem a he;obtain⟨p,e,l,m,n,f⟩:=kK0 (P:=P) (h.drawn (w.drawn+1)) elem (us.toArray++vs.toArray++bB a.zero.cells (newCap-(es.length+xs.length))) (es++xs) a.size newCap d
  (vs:=us++vs) (by rw[iZ];exact hu.append hv) (fun k v hk=>by
   obtain⟨o,_⟩:=ar.1 hk;rw[fJ,Af (by simpa using o)];simpa using hk) (by
   simp[iv0,hz,i,j];rw[<- bI,<-bI];congr 1;omega) (by simp;omega) id hid g
 refine H3.place (p:=p) hid ?_ f (Fr.push (w:=w) _ id hid p (fun _=>e) _ (w.drawn+1));exact .ms id _ 0 _ p (j4.place_same _ _ _) n l _ newCap (fun _=>by rw[e];simp) (by rw[m];simp) hc rfl
theorem oV0{P:Program}{T:Tab}(hT:C0 P T){G:j4}{σ σ':j3}{w:World}(h:Rel G σ w){sT xT ty:TypeId}{id:Nat}{s x v:AV}{u y:Value}(hs:Rep G s u)(hx:Rep G x y)
  (hid:G.pl id=none) (D:id<σ.next) (ha:N8 T σ id sT xT s x=some (v,σ')):H3 G σ w σ' id v ((cH #[sT,xT] ty #[u,y]).run P w):=by
 unfold N8 at ha;split at ha
 ·rename_i elem z1 z2 z3 z4 xi I J
  split at ha
  ·rename_i f l
   split at ha
   ·rename_i old es xs b V
    split at ha
    ·rename_i Z
     obtain⟨hint,hallB,m,hN,hpos⟩:=Z;have hxs:∀ c∈xs,c.length=f.size/\c.all AV.one=true:=fun c hc=>by have:=aj.1 hallB c hc;simpa using this
     have E:∀ c∈xs,c.length=f.size:=fun c hc=>(hxs c hc).1;obtain⟨⟨S,Y,rfl⟩,vs,d,t⟩:=rn0 (P:=P) h hx V f.size E;have n:∀ k,(aO f.size xs.length (.slice S xs.length Y)).run P { w with drawn:=k }=.ok vs.toArray { w with drawn:=k }:=fun k=>by
      obtain⟨_,vs',K,hv'⟩:=rn0 (P:=P) (h.drawn k) hx V f.size E;rw[K];have:=d;have e:vs'=vs:=by
       have hd:(aO f.size xs.length (.slice S xs.length Y)).run P { w with drawn:=w.drawn }=.ok vs.toArray w:=d;cases S with
       | none=>
        simp[aO]at K d;have e1:vs'=[]:=by simpa using K.symm
        have e2:vs=[]:=by simpa using d.symm
        rw[e1,e2]
       | some a=>simp only[aO]at K d;have key:=cE0 (P:=P) w k a (xs.length*f.size) vs.toArray d;rw[key]at K;simpa using K.symm
      rw[e]
     simp only[ah,cy]at ha;obtain⟨rfl,rfl⟩:=ha;unfold R8 at b;split at b
     ·rename_i i _ len
      split at b
      ·rename_i r sz es1 U
       split at b
       ·rename_i hc
        obtain⟨hlen,rfl,hel⟩:=hc;subst hel;cases b;cases hs with
        | msNil _ _ p hp hv=>
         have hes0:es=[]:=by
          rcases h.lies U hp with ⟨_,_,_,e2⟩ | ⟨e2,_⟩
          ·cases e2;rfl
          rw[hv]at e2;cases e2
         subst hes0;simp only[bx,aG,aT];by_cases B:xs=[]
         ·subst B
          have g:=run_append_room hT (w:=w) I rfl J hint l none 0 0 0 S Y vs.toArray (by simpa using d) (by omega) ty;simp only[bx];rw[g];simp only[au,ae];exact H3.place (p:=p) hid (.msNil id _ p (j4.place_same _ _ _) hv) (h.move U hp hid D) (Fr.move U hp)
         have M:0<xs.length:=cR.2 B;obtain⟨newCap,C,j⟩:=run_append_grow hT (w:=w) I rfl J hint l none 0 0 xs.length S Y #[] vs.toArray (fun k=>by simp[aO]) n (by omega) (by simpa using m) (by simpa using hN) ty;rw[j];have hr2:Rel G (σ.del i) w:=h.less rfl (fun k o hk=>eM0 hk);have:=W2 hT hr2 l hid D (es:=[]) (by simp) E (.nil G) t (newCap:=newCap) (by simpa using C);refine H3.less (σ1:=σ.del i) (fun k o hk=>eM0 hk) ?_;simpa using this
        | ms _ _ _ _ p hp hv hz a c hA hoff hlc hsp=>
         subst hlen;obtain⟨him,hw0,cells,hb,N,hn,C,O⟩:=h.real U hp hv;have hes:∀ c∈es,c.length=f.size:=fun c hc=>by obtain⟨k,hk,rfl⟩:=bH hc;exact(O k hk).1
         by_cases g:es.length+xs.length<=c
         ·rw[run_append_room hT (w:=w) I rfl J hint l (some a) es.length c xs.length S Y vs.toArray d g ty]
          by_cases B:xs=[]
          ·subst B
           have hv0:vs=[]:=by have:=t.1;simpa using this
           subst hv0;simp only[storeCells,au,ae,bx,cM,List.append_nil];exact H3.place (p:=p) hid (.ms id _ 0 _ p (j4.place_same _ _ _) hv N a c hA hoff hlc hsp) (h.move U hp hid D) (Fr.move U hp)
          have M:0<xs.length:=cR.2 B;have hvl:vs.length=xs.length*f.size:=by rw[t.1,B1 E]
          rw[hA (by omega),N];have hbig:es.length*f.size+xs.length*f.size<=cells.size:=by rw[hn,<-bI];exact bq _ (by omega)
          obtain⟨H,j,hsz,L2⟩:=M9 (P:=P) p.block (es.length*f.size) r vs 0 cells w hb (by rw[hvl];omega) (fun z hz=>by
           obtain⟨k,hk,rfl⟩:=bH hz;have hk':k<xs.flatten.length:=by rw[<- t.1];exact hk
           refine(t.2 k hk' hk).one ?_;obtain⟨c,hc1,hc2⟩:=List.mem_flatten.1 (aw hk');exact aj.1 (hxs c hc1).2 _ hc2)
          simp only[iP,K6,aG,j,ae];have hall:∀ c∈es++xs,c.length=f.size:=fun c hc=>by
           rcases aQ.1 hc with h1 | h1
           ·exact hes c h1
           exact E c h1
          have Q:=dS0 O (by omega);have hreps:B8 G (es++xs).flatten (cells.toList.take (es.length*f.size)++vs):=by rw[iZ];exact Q.append t
          have hw':=h.write (o':=.row r f.size (es++xs)) U hp hv (.cells H r (0,0)) (C5 w p.block (.cells H r (0,0))) rfl rfl rfl (B5 _ _ _) (fun k hk=>A6 _ _ _ _ hk)
           (I6 _ _ _ _ hb) ⟨H,rfl,N,by rw[hsz,hn],by simp;omega,gU0 hall hreps (fun k z hk=>by
            have hg:=L2 k;simp only[cM]at hg;rw[hg];have hmin:(cells.toList.take (es.length*f.size)).length=es.length*f.size:=by simp;omega
            rw[cE,hmin]at hk;split at hk
            ·rename_i hk1
             rw[Ae (by omega)];rw[gk,Af hk1]at hk;simpa using hk
            rename_i hk1;obtain⟨hk2,_⟩:=ar.1 hk;rw[Af (by omega)];exact hk)⟩
          have hm:=hw'.move (id:=i) (id':=id) (o:=.row r f.size (es++xs)) (p:=p) (by simp[j3.objs_set]) hp hid D;have R:∀ k o,((σ.del i).set id (.row r f.size (es++xs))).objs k=some o->(((σ.set i (.row r f.size (es++xs))).del i).set id (.row r f.size (es++xs))).objs k=some o:=(fun k o hk=>by
           rw[j3.objs_set,j3.objs_del]at hk ⊢;by_cases q:k=id
           ·simpa[q]using hk
           by_cases q2:k=i
           ·subst q2;simp[q]at hk
           simpa[q,q2,j3.objs_set]using hk)
          have hm2:Rel (G.place id p) ((σ.del i).set id (.row r f.size (es++xs))) (C5 w p.block (.cells H r (0,0))):=hm.less rfl R;have hfw:Fr G σ w G (σ.set i (.row r f.size (es++xs))) (C5 w p.block (.cells H r (0,0))):=Fr.write U hp hv _ (B5 _ _ _) (fun k hk=>A6 _ _ _ _ hk);have hfm:Fr G (σ.set i (.row r f.size (es++xs))) (C5 w p.block (.cells H r (0,0))) (G.place id p) (((σ.set i (.row r f.size (es++xs))).del i).set id (.row r f.size (es++xs))) (C5 w p.block (.cells H r (0,0))):=Fr.move (id:=i) (o:=.row r f.size (es++xs)) (by simp[j3.objs_set]) hp;exact H3.place (p:=p) hid (.ms id _ 0 _ p (j4.place_same _ _ _) hv N _ c (fun _=>by simp) (by omega) g rfl) hm2 (hfw.trans (hfm.trans (Fr.less R)))
         have hnr:c<es.length+xs.length:=by omega
         have Q:=dS0 O (by rw[hn];exact bq _ C);have hsrc2:P6 σ (.ms i f.size 0 es.length)=some es:=by simp[P6,U]
         have hrs:Rep G (.ms i f.size 0 es.length) (.slice (some a) es.length c):=.ms _ _ _ _ p hp hv N a c hA hoff hlc hsp;obtain⟨_,us,hold,hus⟩:=rn0 (P:=P) h hrs hsrc2 f.size hes;have hold':∀ k,(aO f.size es.length (.slice (some a) es.length c)).run P { w with drawn:=k }=.ok us.toArray { w with drawn:=k }:=fun k=>by simp only[aO]at hold ⊢;exact cE0 (P:=P) w k a _ _ hold
         obtain⟨newCap,hcap2,j⟩:=run_append_grow hT (w:=w) I rfl J hint l (some a) es.length c xs.length S Y us.toArray vs.toArray hold' n hnr m hN ty;rw[j];have hr2:Rel G (σ.del i) w:=h.less rfl (fun k o hk=>eM0 hk);exact H3.less (σ1:=σ.del i) (fun k o hk=>eM0 hk) (W2 hT hr2 l hid D hes E hus t hcap2)
       cases b
      cases b
     ·cases b
      cases hs;simp only[bx,aG,aT];by_cases B:xs=[]
      ·subst B
       have g:=run_append_room hT (w:=w) I rfl J hint l none 0 0 0 S Y vs.toArray (by simpa using d) (by omega) ty;simp only[bx];rw[g];simp only[au,ae];exact H3.place (p:={ block:=0,size:=0,cap:=0,virt:=true }) hid (.msNil id _ _ (j4.place_same _ _ _) rfl) (h.virt id hid D _ rfl elem f.size) (Fr.virt id _ rfl _)
      have M:0<xs.length:=cR.2 B;obtain⟨newCap,C,j⟩:=run_append_grow hT (w:=w) I rfl J hint l none 0 0 xs.length S Y #[] vs.toArray (fun k=>by simp[aO]) n (by omega) (by simpa using m) (by simpa using hN) ty;rw[j];have:=W2 hT h l hid D (es:=[]) (by simp) E (.nil G) t (newCap:=newCap) (by simpa using C);simpa using this
     cases b
    cases ha
   cases ha
  cases ha
 cases ha
def y5(σ:j3):AV->j3
 | .ms id _ 0 len=>match σ.objs id with
  | some (.row e a es)=>if len<es.length then σ.set id (.row e a (es.take len))else σ
  | _=>σ
 | _=>σ
theorem Rel.trunc{G:j4}{σ:j3}{w:World}(h:Rel G σ w){id:Nat}{e:TypeId}{c:Nat}{es:List (List AV)}(b:σ.objs id=some (.row e c es))(n:Nat)(g:n<es.length) :
  Rel G (σ.set id (.row e c (es.take n))) w/\Fr G σ w G (σ.set id (.row e c (es.take n))) w:=by
 obtain⟨p,hp,hl⟩:=h.objs id _ b;have hv:p.virt=false:=by
  rcases hl with ⟨_,e2,s2,h2⟩ | ⟨h2,_⟩
  ·cases h2;simp at g
  exact h2
 obtain⟨_,_,cells,j,hs,d,hle,a⟩:=h.real b hp hv;refine⟨h.write b hp hv (.cells cells e (0,0)) w rfl rfl rfl rfl (fun _ _=>rfl) j ⟨cells,rfl,hs,d,by simp;omega,fun i hi=>?_⟩,Fr.write b hp hv w rfl (fun _ _=>rfl)⟩;have f:i<es.length:=by simp at hi;omega
 have:=a i f;rw[ju];exact this
theorem lW0{G:j4}{σ:j3}{w:World}(h:Rel G σ w)(s:AV):Rel G (y5 σ s) w/\Fr G σ w G (y5 σ s) w/\(y5 σ s).next=σ.next:=by
 unfold y5;split
 ·split
  ·rename_i a
   split
   ·rename_i hl
    exact⟨(h.trunc a _ hl).1,(h.trunc a _ hl).2,rfl⟩
   exact⟨h,.refl _ _ _,rfl⟩
  exact⟨h,.refl _ _ _,rfl⟩
 exact⟨h,.refl _ _ _,rfl⟩
def dJ0(T:Tab)(σ:j3)(id:Nat)(elem:TypeId)(s x:AV):Option (AV×j3) :=
 match s,x,T elem with
 | .sc (.slice none 0 0),.sc (.int _ n),some a=>
  if aa.wrap n=n/\0<n/\(2*n.toNat+1000)*a.bytes<=2^48/\n.toNat<=2^62/\0<a.size then
   some (.ms id a.size 0 n.toNat,σ.set id (.row elem a.size (bm n.toNat a.zeroCells)))else none
 | _,_,_=>none
theorem iJ0(zero:Array Value)(n:Nat):(bB zero n).toList=(bm n zero.toList).flatten:=by
 have b:(aJ zero.size).map (fun i=>zero[i%zero.size]!)=zero.toList:=by
  apply jF
  ·simp
  intro i h1 h2;have a:i<zero.size:=by simpa using h1
  simp[Nat.mod_eq_of_lt a,a]
 have key:∀ n,(aJ (n*zero.size)).map (fun i=>zero[i%zero.size]!)=(bm n zero.toList).flatten:=by
  intro n
  induction n with
  | zero=>simp
  | succ n c=>rw[Nat.succ_mul,gr,List.range_add,List.map_append,b,i_,ck,<-c,List.map_map];congr 1;apply bo;intro i _;simp
 simp only[bB,Array.toList_map,Array.toList_range];exact key n
theorem B8.zeros{G:j4}(a:List Value):∀ n,B8 G (bm n (a.map AV.sc)).flatten (bm n a).flatten
 | 0=>.nil G
 | n+1=>by simp only[i_,ck];refine B8.append ⟨by simp,fun i h1 h2=>?_⟩ (B8.zeros a n);simp only[cn];exact .sc _
theorem qS0{P:Program}{T:Tab}(hT:C0 P T){G:j4}{σ σ':j3}{w:World}(h:Rel G σ w){sT xT ty elem:TypeId}{st K:TI}{k:IntKind}(B:T sT=some st)(hu:st.und=.slice elem)(C:T xT=some K)(D:K.und=.int k){id:Nat}{s x v:AV}{u y:Value}(hs:Rep G s u)(Q:Rep G x y)
  (hid:G.pl id=none) (E:id<σ.next) (ha:dJ0 T σ id elem s x=some (v,σ')):H3 G σ w σ' id v ((cH #[sT,xT] ty #[u,y]).run P w):=by
 unfold dJ0 at ha;split at ha
 ·rename_i R n b a
  split at ha
  ·rename_i hc
   obtain⟨h1,h2,S,Y,U⟩:=hc;cases ha;cases hs;cases Q;obtain⟨N,rfl⟩:∃ N:Nat,n=N:=⟨n.toNat,by omega⟩;simp only[cS]at *;obtain⟨i,p,H⟩:=lc0 hT a w;have g:∀ w',(typeInfo elem).run P w'=.ok i w':=fun w'=>by
    obtain⟨j,hj,_⟩:=hT.info elem b a;have:(typeInfo elem).run P w=.ok j w:=by simp[typeInfo,hj]
    rw[this]at p;cases p;simp[typeInfo,hj]
   have M:0<N:=by omega
   have O:=jl0 M;have hmul:∀ m,m<=2*N+1000->m*i.bytes<=2^48:=fun m hm=>by rw[H];exact bC (bq _ hm) S
   have f:¬ (cW N 0*i.bytes > 2^48):=by have:=hmul (cW N 0) (by omega);omega
   have d:¬ ((N:Int)*(i.bytes:Int) > 2^48):=by
    have V:=hmul N (by omega);have:((N*i.bytes:Nat):Int)<=((2^48:Nat):Int):=Int.ofNat_le.2 V;rw[Int.natCast_mul]at this;have e:((2^48:Nat):Int)=2^48:=by rfl
    omega
   have q:¬ ((N:Int)<0):=by omega
   have r:¬ (((N:Nat):Int) > aa.max/\(True\/i.bytes=0)):=by
    have:aa.max=9223372036854775807:=by decide
    rw[this];omega
   have I:¬ (N*b.size=0):=by have:0<N*b.size:=Nat.mul_pos M U;omega
   have hz:=hT.zlen elem b a;have t:(cH #[sT,xT] ty #[.slice none 0 0,.int R N]).run P w =
     .ok (.slice (some ⟨w.heap.size,0,none⟩) N ((eE N 0 elem).cut (w.tape w.drawn (.appendCap N 0 elem)))) { w with drawn:=w.drawn+1,heap:=w.heap.push (.cells (#[]++bB b.zero.cells N++bB b.zero.cells ((eE N 0 elem).cut (w.tape w.drawn (.appendCap N 0 elem))-N)) elem) }:=by
    have z:(underlying sT).run P w=.ok (.slice elem) w:=by rw[A8 hT B,hu]
    have l:(underlying xT).run P w=.ok (.int k) w:=by rw[A8 hT C,D]
    have o:¬ (0+N<=0):=by omega
    unfold cH;simp only[cT,cq,aR,ao,z,l,ae,F4 hT a,au,Al,asInt,asIntOf,h1,Ae q,g,Ae d,cS,Ae o];simp only[aG,Ae r,Ae f,run_choose,fA,ae,run_askRoom,aO,au,Bool.not_true,aq,Ah,Ae I,ao,W8 hT a,newRow,run_newObj,g]
   rw[t];have J:∀ c∈bm N b.zeroCells,c.length=b.size:=fun c hc=>by rw[(List.mem_replicate.1 hc).2];simp[TI.zeroCells,hz]
   have:=W2 hT h a hid E (es:=[]) (xs:=bm N b.zeroCells) (us:=[]) (vs:=(bm N b.zero.cells.toList).flatten) (by simp) J (.nil G) (B8.zeros _ N) (newCap:=(eE N 0 elem).cut (w.tape w.drawn (.appendCap N 0 elem))) (by simp only[jE];simp);have e:(bm N b.zero.cells.toList).flatten.toArray=bB b.zero.cells N:=by apply dm;rw[iJ0]
   simp only[e,bx,iH,aG,aT]at this;exact this
  cases ha
 cases ha
def E4(T:Tab)(σ:j3)(id:Nat)(sT xT:TypeId)(s x:AV):Option (AV×j3) :=
 match T sT,T xT with
 | some { und:=.slice elem,.. },some { und:=.int _,.. }=>dJ0 T σ id elem s x
 | _,_=>N8 T (y5 σ s) id sT xT s x
theorem ng0{P:Program}{T:Tab}(hT:C0 P T){G:j4}{σ σ':j3}{w:World}(h:Rel G σ w){sT xT ty:TypeId}{id:Nat}{s x v:AV}{u y:Value}(hs:Rep G s u)(b:Rep G x y)
  (hid:G.pl id=none) (a:id<σ.next) (ha:E4 T σ id sT xT s x=some (v,σ')):H3 G σ w σ' id v ((cH #[sT,xT] ty #[u,y]).run P w):=by
 unfold E4 at ha;split at ha
 ·rename_i h1 h2
  exact qS0 hT h h1 rfl h2 rfl hs b hid a ha
 obtain⟨h1,h2,c⟩:=lW0 h s;obtain⟨G',d,w',e,a2,a3,a4,a5,f⟩:=oV0 (P:=P) hT h1 (ty:=ty) hs b hid (by rw[c];exact a) ha;exact⟨G',d,w',e,a2,a3,a4,a5,h2.trans f⟩
def vK0(T:Tab)(t:TypeId)(x:AV):Option AV :=
 match T t,x with
 | some { und:=.slice _,.. },.sc (.slice none 0 0)=>some (.sc (goInt 0))
 | _,_=>none
theorem wj0{P:Program}{T:Tab}(hT:C0 P T){G:j4}{σ:j3}{w:World}(h:Rel G σ w){t ty:TypeId}{id:Nat}{x v:AV}{u:Value}(b:Rep G x u)(ha:vK0 T t x=some v) :
  H3 G σ w σ id v ((jQ #[t] ty #[u]).run P w):=by
 unfold vK0 at ha;split at ha
 ·rename_i c
  cases ha;cases b;have a:=A8 hT c w;simp only[jQ,cT,cq,ao,a,ae,au];exact H3.same (.sc _) h
 cases ha
theorem AV.key_ok{G:j4}{x:AV}{u:Value}{b:Bool}{l:List Int}(h:x.key=some (b,l))(a:Rep G x u):u=B0 b l:=by
 unfold AV.key at h;split at h
 ·cases h;cases a;rfl
 ·split at h
  ·rename_i cs c hl
   cases h;cases a with
   | agg _ vs h1 h2=>rw[AV.i64s_ok hl ⟨h1,h2⟩];simp[B0]
  cases h
 cases h
def cu0(agg:Bool)(l a:List Int):Bool:=if agg then l==a else l.headD 0==a.headD 0
def I7(agg:Bool)(l:List Int):List (List Int×AV×Nat)->Nat->Option (Nat×AV)
 | [],_=>none
 | e::es,i=>if cu0 agg l e.1 then some (i,e.2.1)else I7 agg l es (i+1)
def U8(T:Tab)(a:TypeId)(b:Bool)(l:List Int)(es:List (List Int×AV×Nat)):Bool :=
 match T a with
 | some ti=>if b then ti.flat==some l.length&&es.all (fun e=>e.1.length==l.length)else (match ti.und with | .int _=>true | _=>false)
 | none=>false
def U5(G:j4)(agg:Bool):List (List Int×AV×Nat)->List MapEntry->Prop
 | [],[]=>True
 | e::es,x::xs=>(x.key=B0 agg e.1/\Rep G e.2.1 x.val/\x.born=e.2.2)/\U5 G agg es xs
 | _,_=>False
theorem U5.length{G:j4}{agg:Bool}:∀ {es:List (List Int×AV×Nat)} {xs:List MapEntry},U5 G agg es xs->xs.length=es.length
 | [],[],_=>rfl
 | [],_::_,h=>h.elim
 | _::_,[],h=>h.elim
 | _::es,_::xs,h=>by simp[U5.length h.2]
theorem U5.of{G:j4}{agg:Bool}:∀ {es:List (List Int×AV×Nat)} {xs:List MapEntry},xs.length=es.length->(∀ i (h:i<es.length) (h':i<xs.length),xs[i].key=B0 agg es[i].1/\Rep G es[i].2.1 xs[i].val/\xs[i].born=es[i].2.2)->U5 G agg es xs
 | [],[],_,_=>trivial
 | [],_::_,h,_=>by simp at h
 | _::_,[],h,_=>by simp at h
 | e::es,x::xs,h,a=>⟨a 0 (by simp) (by simp),U5.of (by simpa using h) (fun i h1 h2=>a (i+1) (by simpa using h1) (by simpa using h2))⟩
theorem U5.at{G:j4}{agg:Bool}:∀ {es:List (List Int×AV×Nat)} {xs:List MapEntry},U5 G agg es xs->∀ i (h:i<es.length) (h':i<xs.length),xs[i].key=B0 agg es[i].1/\Rep G es[i].2.1 xs[i].val/\xs[i].born=es[i].2.2
 | [],[],_,i,h,_=>by simp at h
 | [],_::_,h,_,_,_=>h.elim
 | _::_,[],h,_,_,_=>h.elim
 | e::es,x::xs,h,0,_,_=>h.1
 | e::es,x::xs,h,i+1,h1,h2=>U5.at h.2 i (by simpa using h1) (by simpa using h2)
theorem bX0{G:j4}{p:Pl}{agg:Bool}{es:List (List Int×AV×Nat)}{clock:Nat}{a:Option Obj}(h:N1 G p (.map agg es clock) a):∃ xs:List MapEntry,a=some (.map xs.toArray clock)/\U5 G agg es xs:=by obtain⟨ents,h1,h2,b⟩:=h;exact⟨ents.toList,by simpa using h1,.of (by simpa using h2) (fun i h h'=>by simpa using b i h (by simpa using h'))⟩
theorem bS0{G:j4}(p:Pl){agg:Bool}{es:List (List Int×AV×Nat)}(clock:Nat){xs:List MapEntry}(h:U5 G agg es xs):N1 G p (.map agg es clock) (some (.map xs.toArray clock)) :=⟨xs.toArray,rfl,by simpa using h.length,fun i h1 h2=>by simpa using h.at i h1 (by simpa using h2)⟩
def Found(G:j4)(k:Nat):Option (Nat×AV)->Option (Nat×Value)->Prop
 | none,none=>True
 | some (i,c),some (j,v)=>i=j/\k<=i/\Rep G c v
 | _,_=>False
theorem jt0{G:j4}(d:IntKind)(l:List Int):∀ (es:List (List Int×AV×Nat)) (xs:List MapEntry) (i:Nat),U5 G false es xs ->
  ∃ r,ep (.int d) (B0 false l) xs i=some r/\Found G i (I7 false l es i) r
 | [],[],i,_=>⟨none,rfl,trivial⟩
 | [],_::_,_,h=>h.elim
 | _::_,[],_,h=>h.elim
 | e::es,x::xs,i,h=>by
  obtain⟨⟨h1,h2,_⟩,f⟩:=h;by_cases e0:l.headD 0=e.1.headD 0
  ·refine⟨some (i,x.val),?_,?_⟩
   ·simp only[ep,h1,B0,aq,Ah,im,Al,e0,kU]
   simp only[I7,cu0,aq,Ah,e0,kU,Al];exact⟨rfl,ax _,h2⟩
  obtain⟨r,b,a⟩:=jt0 d l es xs (i+1) f;refine⟨r,?_,?_⟩
  ·simp only[ep,h1,B0,aq,Ah,im,Al]
   have:(l.headD 0==e.1.headD 0)=false:=by simpa using e0
   rw[this];simpa[B0]using b
  have:cu0 false l e.1=false:=by simpa[cu0]using e0
  simp only[I7,this,aq,Ah];cases hm:I7 false l es (i+1)with
  | none=>rw[hm]at a;cases r with
   | none=>trivial
   | some _=>exact a
  | some c=>
   obtain⟨ci,cc⟩:=c;rw[hm]at a;cases r with
   | none=>exact a
   | some q=>obtain⟨g,a2,a3⟩:=a;exact⟨g,by omega,a3⟩
theorem ei0{P:Program}{G:j4}{w:World}(b:TypeId)(l:List Int)(f:∀ bs:List Int,bs.length=l.length->(fz 10000 b (B0 true l) (B0 true bs)).run P w=.ok (l==bs) w) :
  ∀ (es:List (List Int×AV×Nat)) (xs:List MapEntry) (i:Nat),U5 G true es xs->(∀ e∈es,e.1.length=l.length) ->
  ∃ r,(gG b (B0 true l) xs i).run P w=.ok r w/\Found G i (I7 true l es i) r
 | [],[],i,_,_=>⟨none,rfl,trivial⟩
 | [],_::_,_,h,_=>h.elim
 | _::_,[],_,h,_=>h.elim
 | e::es,x::xs,i,h,hl=>by
  obtain⟨⟨h1,h2,_⟩,g⟩:=h;have he:=f e.1 (hl e (by simp));by_cases e0:(l==e.1)=true
  ·refine⟨some (i,x.val),?_,?_⟩
   ·simp only[gG,h1,fQ,eh,ao,he,e0,ae,Al,au]
   simp only[I7,cu0,Al,e0];exact⟨rfl,ax _,h2⟩
  have e1:(l==e.1)=false:=by simpa using e0
  obtain⟨r,d,a⟩:=ei0 b l f es xs (i+1) g (fun e he=>hl e (by simp[he]));refine⟨r,?_,?_⟩
  ·simp only[gG,h1,fQ,eh,ao,he,e1,ae,aq,Ah,d]
  simp only[I7,cu0,Al,e1,aq,Ah];cases hm:I7 true l es (i+1)with
  | none=>rw[hm]at a;cases r with
   | none=>trivial
   | some _=>exact a
  | some c=>
   obtain⟨ci,cc⟩:=c;rw[hm]at a;cases r with
   | none=>exact a
   | some q=>obtain⟨j,a2,a3⟩:=a;exact⟨j,by omega,a3⟩
theorem lB0{P:Program}{w:World}(e:Bool)(n:Nat)(a:TypeId)(k b:IntKind)(m:Int)(h:(underlying a).run P w=.ok (.int b) w):(bP e (n+1) a (.int k m)).run P w=.ok () w:=by simp only[bP,ao,h,ae,au]
theorem am0{P:Program}{T:Tab}(hT:C0 P T){G:j4}{w:World}{c:TypeId}{b:Bool}{l:List Int}{es:List (List Int×AV×Nat)}{xs:List MapEntry}(d:U5 G b es xs)(hf:U8 T c b l es=true) :
  (∀ e,(bP e 10000 c (B0 b l)).run P w=.ok () w)/\∃ r,(f_ c (B0 b l) xs).run P w=.ok r w/\Found G 0 (I7 b l es 0) r:=by
 unfold U8 at hf;split at hf
 ·rename_i ti g
  cases b with
  | false=>
   simp only[aq,Ah]at hf;split at hf
   ·rename_i j hu
    have a:=A8 hT g w;rw[hu]at a;refine⟨fun e=>?_,?_⟩
    ·exact lB0 e 9999 c .i64 j _ a
    obtain⟨r,h1,h2⟩:=jt0 j l es xs 0 d;exact⟨r,by simp only[f_,ao,a,ae,h1,au],h2⟩
   cases hf
  | true=>
   simp only[Al,ab,beq_iff_eq]at hf;obtain⟨h,f⟩:=hf;obtain⟨_,heq⟩:=hT.flat c ti l.length g h;have hlen:∀ e∈es,e.1.length=l.length:=fun e he=>by simpa using aj.1 f e he
   refine⟨fun e=>by simpa[B0]using(heq l l w rfl rfl).2 e,?_⟩;obtain⟨r,h1,h2⟩:=ei0 (P:=P) (w:=w) c l (fun bs k=>by simpa[B0]using(heq l bs w rfl k).1) es xs 0 d hlen;have a:=A8 hT g w;cases es with
   | nil=>
    cases xs with
    | nil=>exact⟨none,by simp[f_,a,ep],trivial⟩
    | cons _ _=>exact d.elim
   | cons e es=>
    cases xs with
    | nil=>exact d.elim
    | cons x xs=>
     refine⟨r,?_,h2⟩;have i:ep ti.und (B0 true l) (x::xs) 0=none:=by
      unfold ep;have:im ti.und (B0 true l) x.key=none:=by rw[d.1.1];simp only[B0,Al];cases ti.und<;>rfl
      rw[this]
     simp only[f_,ao,a,ae,i,h1]
 cases hf
def TI.zeroAV(ti:TI):AV:=.ofValue ti.zero
def Q2:List AV->Bool
 | [k,_]=>k.key.isSome
 | _=>false
theorem E7:∀ (rs:List (List AV)) (j:Nat),(y3 j rs).length=rs.length
 | [],_=>rfl
 | _::rs,j=>by simp[y3,E7 rs]
theorem X8:∀ (rs:List (List AV)) (j i:Nat) (h:i<(y3 j rs).length) (h':i<rs.length),(y3 j rs)[i]=D5 (j+i) rs[i]
 | r::rs,j,0,_,_=>by simp[y3]
 | r::rs,j,i+1,h,h'=>by simp only[y3,List.getElem_cons_succ];rw[X8 rs (j+1) i (by simpa[y3]using h) (by simpa using h')];congr 1;omega
theorem hU0(j:Nat)(r:List AV):(D5 j r).2.2=j:=by unfold D5;split<;>rfl
def G7(T:Tab)(σ:j3)(t:TypeId)(x ix:AV)(a:Bool):Option AV :=
 match T t,ix.key with
 | some { und:=.map d f,.. },some (b,l)=>
  match T f with
  | some e=>
   match x with
   | .mm id=>match σ.objs id with
    | some (.map agg es _)=>if (agg=b\/es.isEmpty=true)/\U8 T d b l es=true then
      let r:=match I7 b l es 0 with
       | some (_,c)=>(c,true)
       | none=>(e.zeroAV,false)
      some (if a then .tup [r.1,.sc (.bool r.2)]else r.1)else none
    | _=>none
   | .rm (.rs rows)=>if (aW0 rows=b\/rows.isEmpty=true)/\U8 T d b l (y3 0 rows)=true/\rows.all Q2=true then
      let r:=match I7 b l (y3 0 rows) 0 with
       | some (_,c)=>(c,true)
       | none=>(e.zeroAV,false)
      some (if a then .tup [r.1,.sc (.bool r.2)]else r.1)else none
   | _=>none
  | none=>none
 | _,_=>none
theorem ih0{P:Program}{T:Tab}(hT:C0 P T){G:j4}{σ:j3}{w:World}(h:Rel G σ w){t v x:TypeId}{ti:TI}(C:T t=some ti)(hu:ti.und=.map v x){m:TI}(n:T x=some m){id:Nat}{ix:AV}{y:Value}{ok:Bool}(D:Rep G ix y)
  {b:Bool} {l:List Int} (hk:ix.key=some (b,l)) {agg:Bool} {es:List (List Int×AV×Nat)} {clock o:Nat} {xs:List MapEntry} (E:w.heap[o]?=some (.map xs.toArray clock)) (d:U5 G agg es xs) (p:agg=b\/es.isEmpty=true) (hf:U8 T v b l es=true) :
  H3 G σ w σ id (if ok then .tup [(match I7 b l es 0 with | some (_,c)=>(c,true) | none=>(m.zeroAV,false)).1,.sc (.bool (match I7 b l es 0 with | some (_,c)=>(c,true) | none=>(m.zeroAV,false)).2)]else (match I7 b l es 0 with | some (_,c)=>(c,true) | none=>(m.zeroAV,false)).1) ((iD t (.map (some o)) y ok).run P w):=by
 obtain rfl:=AV.key_ok hk D;have g:U5 G b es xs:=by
  rcases p with rfl | he
  ·exact d
  have s:es=[]:=by simpa using he
  subst s;have:xs=[]:=by have:=d.length;simpa using this
  subst this;trivial
 obtain⟨u,r,j,a⟩:=am0 hT (P:=P) (w:=w) g hf;have L2:(getObj o).run P w=.ok (.map xs.toArray clock) w:=by simp[getObj,ey,E]
 have e:∀ (c:AV) (z:Value) (k:Bool),Rep G c z->H3 G σ w σ id (if ok then .tup [c,.sc (.bool k)]else c) (.ok (if ok then .tuple #[z,.bool k]else z) w):=fun c z k B=>by
  refine H3.same ?_ h;cases ok
  ·exact B
  have:=Rep.tup (G:=G) [c,.sc (.bool k)] [z,.bool k] rfl (fun i h1 h2=>by
   cases i with
   | zero=>exact B
   | succ i=>cases i with
    | zero=>exact .sc _
    | succ i=>simp at h1;omega)
  exact this
 have f:=A8 hT C w;rw[hu]at f;simp only[iD,ao,f,ae,L2,au,u,j];cases hm:I7 b l es 0 with
 | none=>
  rw[hm]at a;cases r with
  | some _=>exact a.elim
  | none=>simp only[ao,W8 hT n,ae,au];exact e _ _ false (Rep.ofValue G _)
 | some c=>
  obtain⟨ci,cc⟩:=c;rw[hm]at a;cases r with
  | none=>exact a.elim
  | some q=>obtain⟨H,I⟩:=q;simp only[ao,ae,au];exact e _ _ true a.2.2
theorem pe0{P:Program}{T:Tab}(hT:C0 P T){G:j4}{σ:j3}{w:World}(h:Rel G σ w){t:TypeId}{id:Nat}{x ix v:AV}{u y:Value}{ok:Bool}(m:Rep G x u)(n:Rep G ix y)
  (ha:G7 T σ t x ix ok=some v):H3 G σ w σ id v ((iD t u y ok).run P w):=by
 unfold G7 at ha;split at ha
 ·rename_i r s _ _ _ _ b l o hk
  split at ha
  ·rename_i z f
   split at ha
   ·rename_i id'
    split at ha
    ·rename_i agg es clock q
     split at ha
     ·rename_i hc
      cases ha;cases m with
      | mm _ p hp=>
      have hv:p.virt=false:=by
       rcases h.lies q hp with ⟨_,_,_,e2⟩ | ⟨e2,_⟩
       ·cases e2
       exact e2
      obtain⟨_,_,g⟩:=h.real q hp hv;obtain⟨xs,k,c⟩:=bX0 g;exact ih0 hT h o rfl f n hk k c hc.1 hc.2
     cases ha
    cases ha
   ·rename_i rows
    split at ha
    ·rename_i hc
     cases ha;cases m with
     | rm _ B ents himm hlen iB0 hrep=>
     have k:=h.imm _ _ himm;have d:U5 G (aW0 rows) (y3 0 rows) ents:=U5.of (by rw[hlen,E7]) (fun i h1 h2=>by
      have j:i<rows.length:=by rw[E7]at h1;exact h1
      rw[X8 _ _ _ h1 j];have e1:∀ a b:Nat,(D5 a rows[i]).1=(D5 b rows[i]).1:=fun a b=>by unfold D5;split<;>rfl
      have e2:∀ a b:Nat,(D5 a rows[i]).2.1=(D5 b rows[i]).2.1:=fun a b=>by unfold D5;split<;>rfl
      refine⟨by rw[e1 _ i];exact(iB0 i j h2).1,by rw[e2 _ i];exact hrep i j h2,by rw[(iB0 i j h2).2,hU0];omega⟩)
     refine ih0 hT h o rfl f n hk k d ?_ hc.2.1;rcases hc.1 with e | e
     ·exact .inl e
     refine .inr ?_;have:rows=[]:=by simpa using e
     subst this;rfl
    cases ha
   cases ha
  cases ha
 cases ha
def mput(agg:Bool)(l:List Int)(v:AV)(clock:Nat)(es:List (List Int×AV×Nat)):List (List Int×AV×Nat)×Nat :=
 match I7 agg l es 0 with
 | some (i,_)=>(es.modify i (fun e=>(l,v,e.2.2)),clock)
 | none=>(es++[(l,v,clock)],clock+1)
def C1(T:Tab)(σ:j3)(t:TypeId)(x ix v:AV):Option j3 :=
 match T t,ix.key with
 | some { und:=.map a _,.. },some (b,l)=>
  match x with
  | .mm id=>match σ.objs id with
   | some (.map agg es clock)=>if es.isEmpty/\U8 T a b l []=true then some (σ.set id (.map b [(l,v,clock)] (clock+1)))else if agg=b/\U8 T a b l es=true then some (σ.set id (.map agg (mput b l v clock es).1 (mput b l v clock es).2))else none
   | _=>none
  | _=>none
 | _,_=>none
theorem kH0{agg:Bool}{l a:List Int}(h:cu0 agg l a=true):B0 agg l=B0 agg a:=by
 cases agg
 ·simp[cu0]at h;simp[B0,h]
 simp[cu0]at h;rw[h]
theorem ki0{agg:Bool}{l:List Int}:∀ {es:List (List Int×AV×Nat)} {k i:Nat} {c:AV},I7 agg l es k=some (i,c)->∃ e,es[i-k]?=some e/\k<=i/\cu0 agg l e.1=true/\e.2.1=c
 | [],k,i,c,h=>by simp[I7]at h
 | e::es,k,i,c,h=>by
  unfold I7 at h;split at h
  ·rename_i he;cases h;exact⟨e,by simp,ax _,he,rfl⟩
  obtain⟨a,h1,h2,b,d⟩:=ki0 h;refine⟨a,?_,by omega,b,d⟩;have:i-k=(i-(k+1))+1:=by omega
  rw[this];simpa using h1
theorem fE0(agg:Bool)(l:List Int):dZ 10000 (B0 agg l) (B0 agg l)=true:=by
 cases agg
 ·simp[B0,dZ]
 simp only[B0,Al];show (dZ (9999+1) _ _)=true;simp only[dZ,kU,Bool.true_and];have:∀ l:List Int,(((l.map (bk .i64)).zip (l.map (bk .i64))).all fun (x,y)=>dZ 9999 x y)=true:=by
  intro l
  induction l with
  | nil=>rfl
  | cons a l b=>simp only[az,List.zip_cons_cons,bU,ab];exact⟨by simp[dZ],b⟩
 simpa using this l
theorem U5.modify{G:j4}{agg:Bool}{l:List Int}{v:AV}{z:Value}(hv:Rep G v z):∀ {es:List (List Int×AV×Nat)} {xs:List MapEntry} (i:Nat),U5 G agg es xs ->
  U5 G agg (es.modify i (fun e=>(l,v,e.2.2))) (xs.modify i (fun x=>{ x with key:=B0 agg l,val:=z }))
 | [],[],i,_=>by simp[U5]
 | [],_::_,_,h=>h.elim
 | _::_,[],_,h=>h.elim
 | e::es,x::xs,0,h=>by simp only[iI];exact⟨⟨rfl,hv,h.1.2.2⟩,h.2⟩
 | e::es,x::xs,i+1,h=>by simp only[iJ];exact⟨h.1,U5.modify hv i h.2⟩
theorem U5.snoc{G:j4}{agg:Bool}{l:List Int}{v:AV}{z:Value}{c:Nat}(hv:Rep G v z):∀ {es:List (List Int×AV×Nat)} {xs:List MapEntry},U5 G agg es xs ->
  U5 G agg (es++[(l,v,c)]) (xs++[{ key:=B0 agg l,val:=z,born:=c }])
 | [],[],_=>⟨⟨rfl,hv,rfl⟩,trivial⟩
 | [],_::_,h=>h.elim
 | _::_,[],h=>h.elim
 | e::es,x::xs,h=>⟨h.1,U5.snoc hv h.2⟩
theorem ao0{P:Program}{w:World}{b:Nat}{o x:Obj}(h:w.heap[b]?=some x)(a:∀ c e f,x≠.cells c e f):(setObj b o).run P w=.ok () (C5 w b o):=by
 cases x with
 | cells c e f=>exact Am rfl (a c e f)
 | _=>simp[setObj,ey,h,C5]
theorem eH0{P:Program}{T:Tab}(hT:C0 P T){G:j4}{σ σ':j3}{w:World}(h:Rel G σ w){t:TypeId}{x ix v:AV}{u y z:Value}(O:Rep G x u)(Q:Rep G ix y)(hz:Rep G v z)
  (ha:C1 T σ t x ix v=some σ'):∃ w',(fK t u y z).run P w=.ok () w'/\Rel G σ' w'/\Fr G σ w G σ' w':=by
 unfold C1 at ha;split at ha
 ·rename_i R S _ _ _ _ b l K hk
  split at ha
  ·rename_i id'
   split at ha
   ·rename_i agg es clock I
    obtain rfl:=AV.key_ok hk Q;cases O with
    | mm _ p hp=>
    have hv:p.virt=false:=by
     rcases h.lies I hp with ⟨_,_,_,e2⟩ | ⟨e2,_⟩
     ·cases e2
     exact e2
    obtain⟨_,_,C⟩:=h.real I hp hv;obtain⟨xs,M,d⟩:=bX0 C;have L2:(getObj p.block).run P w=.ok (.map xs.toArray clock) w:=by simp[getObj,ey,M]
    have g:∀ o,(setObj p.block o).run P w=.ok () (C5 w p.block o):=fun o=>ao0 M (by intro _ _ _ h;cases h);have i:∀ (J:Bool) (j:List (List Int×AV×Nat)) (m:List MapEntry) (c:Nat),U5 G J j m->Rel G (σ.set id' (.map J j c)) (C5 w p.block (.map m.toArray c))/\Fr G σ w G (σ.set id' (.map J j c)) (C5 w p.block (.map m.toArray c)):=fun J j m c he=>⟨h.write I hp hv _ _ rfl rfl rfl (B5 _ _ _) (fun k hk=>A6 _ _ _ _ hk) (I6 _ _ _ _ M) (bS0 p c he),Fr.write I hp hv _ (B5 _ _ _) (fun k hk=>A6 _ _ _ _ hk)⟩;split at ha
    ·rename_i hc
     obtain⟨D,hf⟩:=hc;cases ha;have:es=[]:=by simpa using D
     subst this;have:xs=[]:=by have:=d.length;simpa using this
     subst this;obtain⟨n,r,f,a⟩:=am0 hT (P:=P) (w:=w) (G:=G) (b:=b) (es:=[]) (xs:=[]) trivial hf;have:r=none:=by cases r with
      | none=>rfl
      | some _=>exact a.elim
     subst this;refine⟨C5 w p.block (.map ([({ key:=B0 b l,val:=z,born:=clock }:MapEntry)]).toArray (clock+1)),?_,i b _ _ _ ⟨⟨rfl,hz,rfl⟩,trivial⟩⟩;simp only[fK,ao,A8 hT K,ae,L2,n,f];simp[g]
    split at ha
    ·rename_i hc
     obtain⟨rfl,hf⟩:=hc;cases ha;obtain⟨n,r,f,a⟩:=am0 hT (P:=P) (w:=w) d hf;cases hm:I7 agg l es 0 with
     | none=>
      rw[hm]at a;have:r=none:=by cases r with
       | none=>rfl
       | some _=>exact a.elim
      subst this;simp only[mput,hm];refine⟨C5 w p.block (.map (xs++[({ key:=B0 agg l,val:=z,born:=clock }:MapEntry)]).toArray (clock+1)),?_,i agg _ _ _ (d.snoc hz)⟩;simp only[fK,ao,A8 hT K,ae,L2,n,f];simp[g]
     | some c=>
      obtain⟨ci,cc⟩:=c;rw[hm]at a;cases r with
      | none=>exact a.elim
      | some q=>
       obtain⟨U,V⟩:=q;obtain⟨rfl,_,_⟩:=a;obtain⟨e,E,_,N,_⟩:=ki0 hm;simp only[iR]at E;obtain⟨H,rfl⟩:=ar.1 E;have s:ci<xs.length:=by rw[d.length];exact H
       have iB0:xs[ci].key=B0 agg l:=by rw[(d.at ci H s).1];exact(kH0 N).symm
       simp only[mput,hm];refine⟨C5 w p.block (.map (xs.modify ci (fun x=>{ x with key:=B0 agg l,val:=z })).toArray clock),?_,i agg _ _ _ (d.modify hz ci)⟩;simp only[fK,ao,A8 hT K,ae,L2,n,f];have B:(eM (((xs.toArray[ci]?).map (·.key)).getD (B0 agg l)) (B0 agg l)).run P w=.ok (B0 agg l) w:=by
        have:((xs.toArray[ci]?).map (·.key)).getD (B0 agg l)=B0 agg l:=by simp[s,iB0]
        rw[this];simp[eM,fE0]
       simp only[ao,B,ae,g];congr 3;simp
    cases ha
   cases ha
  cases ha
 cases ha
theorem dg0{G:j4}{σ:j3}{w:World}(h:Rel G σ w){id:Nat}{agg:Bool}{es:List (List Int×AV×Nat)}{clock:Nat}(c:σ.objs id=some (.map agg es clock)){p:Pl}(hp:G.pl id=some p) :
  p.virt=false/\∃ xs:List MapEntry,w.heap[p.block]?=some (.map xs.toArray clock)/\U5 G agg es xs:=by
 have hv:p.virt=false:=by
  rcases h.lies c hp with ⟨_,_,_,e2⟩ | ⟨e2,_⟩
  ·cases e2
  exact e2
 obtain⟨_,_,b⟩:=h.real c hp hv;obtain⟨xs,d,a⟩:=bX0 b;exact⟨hv,xs,d,a⟩
def N4(T:Tab)(σ:j3)(t:TypeId)(x ix:AV):Option (AV×j3) :=
 match T t,ix.key with
 | some { und:=.map d e,.. },some (b,l)=>
  match T e with
  | some a=>match x with
   | .mm id=>match σ.objs id with
    | some (.map agg es clock)=>
     if es.isEmpty/\U8 T d b l []=true then some (.tup [a.zeroAV,.sc (goInt clock)],σ.set id (.map b [(l,a.zeroAV,clock)] (clock+1)))else if agg=b/\U8 T d b l es=true then
      match I7 b l es 0 with
      | some (i,c)=>some (.tup [c,.sc (goInt (((es[i]?).map (·.2.2)).getD 0))],σ)
      | none=>some (.tup [a.zeroAV,.sc (goInt clock)],σ.set id (.map agg (es++[(l,a.zeroAV,clock)]) (clock+1)))else none
    | _=>none
   | _=>none
  | none=>none
 | _,_=>none
theorem Rep.tup2{G:j4}{a b:AV}{x y:Value}(h1:Rep G a x)(h2:Rep G b y):Rep G (.tup [a,b]) (.tuple #[x,y]) :=
 Rep.tup (G:=G) [a,b] [x,y] rfl (fun i hi c=>by
  match i,hi with
  | 0,_=>exact h1
  | 1,_=>exact h2)
theorem lY0{w:World}{b:Nat}{o:Obj}(h:w.heap[b]?=some o):C5 w b o=w:=by
 unfold C5;have:w.heap.setIfInBounds b o=w.heap:=by
  obtain⟨a,e⟩:=aL.1 h;subst e;apply iB
  ·simp
  intro i h1 h2;rw[eD];split
  ·rename_i hi;subst hi;rfl
  rfl
 rw[this]
theorem lL0{P:Program}{T:Tab}(hT:C0 P T){G:j4}{σ σ':j3}{w:World}(h:Rel G σ w){t:TypeId}{id:Nat}{x ix v:AV}{u y:Value}(Z:Rep G x u)(hy:Rep G ix y)
  (ha:N4 T σ t x ix=some (v,σ')):H3 G σ w σ' id v ((fP t u y).run P w):=by
 unfold N4 at ha;split at ha
 ·rename_i kt et _ _ _ _ b l Q hk
  split at ha
  ·rename_i J K
   split at ha
   ·rename_i id'
    split at ha
    ·rename_i agg es clock R
     obtain rfl:=AV.key_ok hk hy;cases Z with
     | mm _ p hp=>
     obtain⟨hv,xs,N,d⟩:=dg0 h R hp;have L2:(getObj p.block).run P w=.ok (.map xs.toArray clock) w:=by simp[getObj,ey,N]
     have i:∀ o,(setObj p.block o).run P w=.ok () (C5 w p.block o):=fun o=>ao0 N (by intro _ _ _ h;cases h);have B:∀ (O:Bool) (m:List (List Int×AV×Nat)) (n:List MapEntry) (c:Nat),U5 G O m n->Rel G (σ.set id' (.map O m c)) (C5 w p.block (.map n.toArray c))/\Fr G σ w G (σ.set id' (.map O m c)) (C5 w p.block (.map n.toArray c)):=fun O m n c he=>⟨h.write R hp hv _ _ rfl rfl rfl (B5 _ _ _) (fun k hk=>A6 _ _ _ _ hk) (I6 _ _ _ _ N) (bS0 p c he),Fr.write R hp hv _ (B5 _ _ _) (fun k hk=>A6 _ _ _ _ hk)⟩;have hz:Rep G J.zeroAV J.zero:=Rep.ofValue G _;split at ha
     ·rename_i hc
      obtain⟨M,hf⟩:=hc;cases ha;have:es=[]:=by simpa using M
      subst this;have:xs=[]:=by have:=d.length;simpa using this
      subst this;obtain⟨s,r,f,a⟩:=am0 hT (P:=P) (w:=w) (G:=G) (b:=b) (es:=[]) (xs:=[]) trivial hf;have:r=none:=by cases r with
       | none=>rfl
       | some _=>exact a.elim
      subst this;obtain⟨S,U⟩:=B b [(l,J.zeroAV,clock)] [({ key:=B0 b l,val:=J.zero,born:=clock }:MapEntry)] (clock+1) ⟨⟨rfl,hz,rfl⟩,trivial⟩;refine⟨G,.tuple #[J.zero,goInt clock],_,.refl G,fun _ _ h=>h,?_,Rep.tup2 hz (.sc _),S,U⟩;simp only[fP,ao,A8 hT Q,ae,L2,s,f,W8 hT K];simp[i]
     split at ha
     ·rename_i hc
      obtain⟨rfl,hf⟩:=hc;obtain⟨s,r,f,a⟩:=am0 hT (P:=P) (w:=w) d hf;split at ha
      ·rename_i ci cc hm
       cases ha;rw[hm]at a;cases r with
       | none=>exact a.elim
       | some q=>
        obtain⟨qi,qv⟩:=q;obtain⟨rfl,_,V⟩:=a;obtain⟨e,C,_,Y,_⟩:=ki0 hm;simp only[iR]at C;obtain⟨D,rfl⟩:=ar.1 C;have g:ci<xs.length:=by rw[d.length];exact D
        have iB0:xs[ci].key=B0 agg l:=by rw[(d.at ci D g).1];exact(kH0 Y).symm
        have E:xs[ci].born=es[ci].2.2:=(d.at ci D g).2.2;have H:xs.toArray.modify ci (fun e=>{ e with key:=B0 agg l })=xs.toArray:=by
         apply iB
         ·simp
         intro j h1 h2;by_cases hj:ci=j
         ·subst hj
          rw[Array.getElem_modify_self];simp only[List.getElem_toArray];generalize xs[ci]=z at iB0;cases z;simp only at iB0;rw[iB0]
         rw[Array.getElem_modify_of_ne hj]
        refine⟨G,.tuple #[qv,goInt (es[ci].2.2)],w,.refl G,fun _ _ h=>h,?_,Rep.tup2 V (by simpa[C]using Rep.sc _),h,.refl _ _ _⟩;simp only[fP,ao,A8 hT Q,ae,L2,s,f];have I:(eM (((xs.toArray[ci]?).map (·.key)).getD (B0 agg l)) (B0 agg l)).run P w=.ok (B0 agg l) w:=by
         have:((xs.toArray[ci]?).map (·.key)).getD (B0 agg l)=B0 agg l:=by simp[g,iB0]
         rw[this];simp[eM,fE0]
        simp only[ao,I,ae,i,H,lY0 N,au];simp[g,E]
      rename_i hm;cases ha;rw[hm]at a;have:r=none:=by cases r with
       | none=>rfl
       | some _=>exact a.elim
      subst this;obtain⟨S,U⟩:=B agg _ _ (clock+1) (d.snoc (l:=l) (c:=clock) hz);refine⟨G,.tuple #[J.zero,goInt clock],_,.refl G,fun _ _ h=>h,?_,Rep.tup2 hz (.sc _),S,U⟩;simp only[fP,ao,A8 hT Q,ae,L2,s,f,W8 hT K];simp[i]
     cases ha
    cases ha
   cases ha
  cases ha
 cases ha
def uI0(n:Int):List (List Int×AV×Nat)->Nat->Option Nat
 | [],_=>none
 | e::es,i=>if ((e.2.2:Int)==n)=true then some i else uI0 n es (i+1)
theorem ri0{G:j4}{agg:Bool}(n:Int):∀ {es:List (List Int×AV×Nat)} {xs:List MapEntry} (k:Nat),U5 G agg es xs->uI0 n es k=(xs.findIdx? fun x=>(x.born:Int)==n).map (·+k)
 | [],[],k,_=>by simp[uI0]
 | [],_::_,_,h=>h.elim
 | _::_,[],_,h=>h.elim
 | e::es,x::xs,k,⟨⟨h1,h2,a⟩,b⟩=>by
  unfold uI0;rw[List.findIdx?_cons,a];split
  ·simp
  rw[ri0 n (k+1) b];cases (xs.findIdx? fun x=>(x.born:Int)==n)with
  | none=>rfl
  | some j=>simp;omega
def G9(σ:j3)(x st v:AV):Option j3 :=
 match x,st with
 | .mm id,.sc (.int .i64 n)=>match σ.objs id with
  | some (.map agg es clock)=>match uI0 n es 0 with
   | some i=>some (σ.set id (.map agg (es.modify i (fun e=>(e.1,v,e.2.2))) clock))
   | none=>none
  | _=>none
 | _,_=>none
theorem U5.setVal{G:j4}{agg:Bool}{v:AV}{z:Value}(hv:Rep G v z):∀ {es:List (List Int×AV×Nat)} {xs:List MapEntry} (i:Nat),U5 G agg es xs ->
  U5 G agg (es.modify i (fun e=>(e.1,v,e.2.2))) (xs.modify i (fun x=>{ x with val:=z }))
 | [],[],i,_=>by simp[U5]
 | [],_::_,_,h=>h.elim
 | _::_,[],_,h=>h.elim
 | e::es,x::xs,0,h=>by simp only[iI];exact⟨⟨h.1.1,hv,h.1.2.2⟩,h.2⟩
 | e::es,x::xs,i+1,h=>by simp only[iJ];exact⟨h.1,U5.setVal hv i h.2⟩
theorem iC0{P:Program}{G:j4}{σ σ':j3}{w:World}(h:Rel G σ w){t:TypeId}{x st v:AV}{u y z:Value}(l:Rep G x u)(m:Rep G st y)(hz:Rep G v z)
  (ha:G9 σ x st v=some σ'):∃ w',(jv t u y z).run P w=.ok () w'/\Rel G σ' w'/\Fr G σ w G σ' w':=by
 unfold G9 at ha;split at ha
 ·rename_i id' n
  split at ha
  ·rename_i agg es clock d
   split at ha
   ·rename_i i hi
    cases ha;cases l with
    | mm _ p hp=>
    cases m;obtain⟨hv,xs,f,a⟩:=dg0 h d hp;have L2:(getObj p.block).run P w=.ok (.map xs.toArray clock) w:=by simp[getObj,ey,f]
    have c:∀ o,(setObj p.block o).run P w=.ok () (C5 w p.block o):=fun o=>ao0 f (by intro _ _ _ h;cases h);have b:(xs.findIdx? fun x=>(x.born:Int)==n)=some i:=by
     have:=ri0 n 0 a;rw[hi]at this;cases hf:(xs.findIdx? fun x=>(x.born:Int)==n)with
     | none=>rw[hf]at this;cases this
     | some j=>rw[hf]at this;simp at this;rw[this]
    refine⟨C5 w p.block (.map (xs.modify i (fun x=>{ x with val:=z })).toArray clock),?_,h.write d hp hv _ _ rfl rfl rfl (B5 _ _ _) (fun k hk=>A6 _ _ _ _ hk) (I6 _ _ _ _ f) (bS0 p clock (a.setVal hz i)),Fr.write d hp hv _ (B5 _ _ _) (fun k hk=>A6 _ _ _ _ hk)⟩;have g:xs.toArray.findIdx? (fun e=>(e.born:Int)==n)=some i:=by rw[List.findIdx?_toArray];exact b
    simp[jv,ao,ae,L2,asInt,asIntOf,b,c]
   cases ha
  cases ha
 cases ha
def aa0(G:j4)(σ:j3)(w:World)(σ':j3)(id:Nat)(v:AV)(r:Result Next):Prop :=∃ G' u w',G.le G'/\(∀ i,i≠id->G.pl i=none->G'.pl i=none)/\(r=.ok (.value u) w'\/(r=.ok .skip w'/\u=undef))/\Rep G' v u/\Rel G' σ' w'/\Fr G σ w G' σ' w'
theorem aa0.of{P:Program}{G:j4}{σ σ':j3}{id:Nat}{v:AV}{s:Sem Value}{w:World}(h:H3 G σ w σ' id v (s.run P w)):aa0 G σ w σ' id v ((do pure (Next.value (<- s)):Sem Next).run P w):=by obtain⟨G',u,w',h1,h2,a,b,c⟩:=h;exact⟨G',u,w',h1,h2,.inl (by simp[a]),b,c⟩
theorem aa0.unit{P:Program}{G:j4}{σ σ':j3}{id:Nat}{s:Sem Unit}{w w':World}(hs:s.run P w=.ok () w')(h:Rel G σ' w'/\Fr G σ w G σ' w'):aa0 G σ w σ' id (.sc undef) ((do s;pure Next.skip:Sem Next).run P w) :=⟨G,undef,w',.refl G,fun _ _ h=>h,.inr ⟨by simp[hs],rfl⟩,.sc _,h⟩
theorem aa0.same{G:j4}{σ:j3}{id:Nat}{v:AV}{u:Value}{w:World}(a:Rep G v u)(h:Rel G σ w):aa0 G σ w σ id v (.ok (.value u) w) :=⟨G,u,w,.refl G,fun _ _ h=>h,.inl rfl,a,h,.refl _ _ _⟩
def fZ0(T:Tab)(σ:j3)(t:TypeId)(x:AV):Option AV :=
 match T t with
 | some ti=>match ti.und,x with
  | .slice _,.ms _ _ _ len=>some (.sc (goInt len))
  | .slice _,.rs es=>some (.sc (goInt es.length))
  | .slice _,.sc (.slice none 0 0)=>some (.sc (goInt 0))
  | .string,.sc (.string s)=>some (.sc (goInt s.size))
  | .array n _,_=>some (.sc (goInt n))
  | .map _ _,.mm id=>match σ.objs id with
   | some (.map _ es _)=>some (.sc (goInt es.length))
   | _=>none
  | _,_=>none
 | none=>none
theorem vU0{P:Program}{T:Tab}(hT:C0 P T){G:j4}{σ:j3}{w:World}(h:Rel G σ w){t ty:TypeId}{id:Nat}{x v:AV}{u:Value}(c:Rep G x u)(ha:fZ0 T σ t x=some v) :
  H3 G σ w σ id v ((dh #[t] ty #[u]).run P w):=by
 unfold fZ0 at ha;split at ha
 ·rename_i ti g
  have a:=A8 hT g w;have go:∀ n:Int,(dh #[t] ty #[u]).run P w=.ok (goInt n) w->H3 G σ w σ id (.sc (goInt n)) ((dh #[t] ty #[u]).run P w):=fun n j=>by rw[j];exact H3.same (.sc _) h
  split at ha
  ·rename_i e i m o len hu
   cases ha;rw[hu]at a;apply go;cases c<;>simp[dh,a]
  ·rename_i e es hu
   cases ha;rw[hu]at a;apply go;cases c<;>simp[dh,a]
  ·rename_i e hu
   cases ha;rw[hu]at a;apply go;cases c;simp[dh,a]
  ·rename_i s hu
   cases ha;rw[hu]at a;apply go;cases c;simp[dh,a]
  ·rename_i n e _ hu
   cases ha;rw[hu]at a;apply go;simp[dh,a]
  ·rename_i k e id' hu
   split at ha
   ·rename_i agg es clock f
    cases ha;rw[hu]at a;apply go;cases c with
    | mm _ p hp=>
    have hv:p.virt=false:=by
     rcases h.lies f hp with ⟨_,_,_,e2⟩ | ⟨e2,_⟩
     ·cases e2
     exact e2
    obtain⟨_,_,d⟩:=h.real f hp hv;obtain⟨xs,l,b⟩:=bX0 d;have L2:(getObj p.block).run P w=.ok (.map xs.toArray clock) w:=by simp[getObj,ey,l]
    simp[dh,a,L2,b.length]
   cases ha
  cases ha
 cases ha
def eg0(k:IntKind):Int->List AV->Option Value
 | a,[]=>some (.int k a)
 | a,.sc (.int _ b)::rest=>eg0 k (if b > a then b else a) rest
 | _,_=>none
def eS0(k:IntKind):Int->List AV->Option Value
 | a,[]=>some (.int k a)
 | a,.sc (.int _ b)::rest=>eS0 k (if b<a then b else a) rest
 | _,_=>none
def uy0:List AV->Option Value
 | .sc (.int k a)::rest=>eg0 k a rest
 | _=>none
def uk0:List AV->Option Value
 | .sc (.int k a)::rest=>eS0 k a rest
 | _=>none
theorem lt0{P:Program}{G:j4}{w:World}(k:IntKind):∀ (l:List AV) (vs:List Value) (a:Int) (v:Value),B8 G l vs->eg0 k a l=some v->(vs.foldlM jR (.int k a):Sem Value).run P w=.ok v w
 | [],vs,a,v,h,ha=>by rw[h.nil_inv];simp[eg0]at ha;subst ha;simp
 | c::l,vs,a,v,h,ha=>by
  obtain⟨x,d,rfl,h1,h2⟩:=h.cons_inv;unfold eg0 at ha;split at ha
  ·rename_i e;cases e
  ·rename_i f b rest e
   cases e;cases h1;have:=lt0 (P:=P) (w:=w) k l d _ v h2 ha;simp only[jG,ao,jR,au,ae];exact this
  cases ha
theorem lp0{P:Program}{G:j4}{w:World}(k:IntKind):∀ (l:List AV) (vs:List Value) (a:Int) (v:Value),B8 G l vs->eS0 k a l=some v->(vs.foldlM jS (.int k a):Sem Value).run P w=.ok v w
 | [],vs,a,v,h,ha=>by rw[h.nil_inv];simp[eS0]at ha;subst ha;simp
 | c::l,vs,a,v,h,ha=>by
  obtain⟨x,d,rfl,h1,h2⟩:=h.cons_inv;unfold eS0 at ha;split at ha
  ·rename_i e;cases e
  ·rename_i f b rest e
   cases e;cases h1;have:=lp0 (P:=P) (w:=w) k l d _ v h2 ha;simp only[jG,ao,jS,au,ae];exact this
  cases ha
theorem vh0{P:Program}{G:j4}{w:World}{l:List AV}{vs:List Value}{v:Value}{at_:Array TypeId}{ty:TypeId}(h:B8 G l vs)(ha:uy0 l=some v):(Builtin.max_ at_ ty vs.toArray).run P w=.ok v w:=by
 unfold uy0 at ha;split at ha
 ·obtain⟨x,a,rfl,h1,h2⟩:=h.cons_inv
  cases h1;exact lt0 _ _ _ _ _ h2 ha
 cases ha
theorem wT0{P:Program}{G:j4}{w:World}{l:List AV}{vs:List Value}{v:Value}{at_:Array TypeId}{ty:TypeId}(h:B8 G l vs)(ha:uk0 l=some v):(Builtin.min_ at_ ty vs.toArray).run P w=.ok v w:=by
 unfold uk0 at ha;split at ha
 ·obtain⟨x,a,rfl,h1,h2⟩:=h.cons_inv
  cases h1;exact lp0 _ _ _ _ _ h2 ha
 cases ha
def F2(T:Tab)(σ:j3)(id:Nat)(b:Builtin)(ts:Array TypeId)(args:List AV):Option (AV×j3) :=
 match b,ts.toList,args with
 | .len,[t],[x]=>match fZ0 T σ t x with
  | some v=>some (v,σ)
  | none=>none
 | .append,[s,x],[a,c]=>E4 T σ id s x a c
 | .cap,[t],[x]=>match vK0 T t x with
  | some v=>some (v,σ)
  | none=>none
 | .max,_,l=>match uy0 l with
  | some v=>some (.sc v,σ)
  | none=>none
 | .min,_,l=>match uk0 l with
  | some v=>some (.sc v,σ)
  | none=>none
 | _,_,_=>none
def aop(T:Tab)(e:Operand->AV)(σ:j3)(id:Nat)(op:Op):Option (AV×j3) :=
 match op with
 | .move x | .assign x=>some (e x,σ)
 | .pick c a b=>match e c with
  | .sc (.bool t)=>some (if t then e a else e b,σ)
  | _=>none
 | .alloc t=>fD0 T σ id t
 | .box t x=>tk0 σ id t (e x)
 | .build t ps=>match fX0 T t (ps.toList.map fun (i,x)=>(i,e x))with
  | some v=>some (v,σ)
  | none=>none
 | .buildSlice t len ps=>F9 T σ id t len (ps.toList.map fun (i,x)=>(i,e x))
 | .load t x=>match aD0 T σ t (e x)with
  | some v=>some (v,σ)
  | none=>none
 | .store t a x=>match U7 T σ t (e a) (e x)with
  | some σ'=>some (.sc undef,σ')
  | none=>none
 | .nilCheck x=>match e x with
  | .mp i j k=>some (.mp i j k,σ)
  | .rp cs=>some (.rp cs,σ)
  | .fn (.func f) a b=>some (.fn (.func f) a b,σ)
  | _=>none
 | .binOp o t x y _=>match is0 T o t (e x) (e y)with
  | some v=>some (v,σ)
  | none=>none
 | .unOp o _ x=>match aUn o (e x)with
  | some v=>some (v,σ)
  | none=>none
 | .convert s d x=>match kx0 T s d (e x)with
  | some v=>some (v,σ)
  | none=>none
 | .makeFunc f a c=>some (.fn f (a.toList.map e) (c.toList.map e),σ)
 | .makeMap _ none=>some (.mm id,σ.set id (.map false [] 0))
 | .slice t x lo hi mx=>match bx0 T t (e x) (lo.map e) (hi.map e) (mx.map e)with
  | some v=>some (v,σ)
  | none=>none
 | .fieldAddr t x f=>match M7 T t (e x) f with
  | some v=>some (v,σ)
  | none=>none
 | .field t x f=>match if0 T t (e x) f with
  | some v=>some (v,σ)
  | none=>none
 | .indexAddr t x i=>match D4 T t (e x) (e i)with
  | some v=>some (v,σ)
  | none=>none
 | .index t x i=>match cm0 T t (e x) (e i)with
  | some v=>some (v,σ)
  | none=>none
 | .lookup t x i ok=>match G7 T σ t (e x) (e i) ok with
  | some v=>some (v,σ)
  | none=>none
 | .mapUpdate t m k x | .insert t m k x=>match C1 T σ t (e m) (e k) (e x)with
  | some σ'=>some (.sc undef,σ')
  | none=>none
 | .mapEntry t m k=>N4 T σ t (e m) (e k)
 | .entryStore _ m s x=>match G9 σ (e m) (e s) (e x)with
  | some σ'=>some (.sc undef,σ')
  | none=>none
 | .extract x i=>match ca0 (e x) i with
  | some v=>some (v,σ)
  | none=>none
 | .call { callee:=.builtin b,args,argTypes }=>F2 T σ id b argTypes (args.toList.map e)
 | _=>none
theorem B8.map{G:j4}{b:Operand->AV}{ev:Operand->Value}(a:∀ x,Rep G (b x) (ev x)):∀ l:List Operand,B8 G (l.map b) (l.map ev)
 | []=>.nil G
 | x::l=>.cons (a x) (B8.map a l)
theorem B8.map2{G:j4}{b:Operand->AV}{ev:Operand->Value}(c:∀ x,Rep G (b x) (ev x))(l:List (Nat×Operand)) :
  (l.map fun (i,x)=>(i,b x)).map (·.1)=(l.map fun (i,x)=>(i,ev x)).map (·.1)/\B8 G ((l.map fun (i,x)=>(i,b x)).map (·.2)) ((l.map fun (i,x)=>(i,ev x)).map (·.2)):=by
 refine⟨by simp,?_⟩
 induction l with
 | nil=>exact .nil G
 | cons a l d=>exact .cons (c a.2) d
theorem pW0.map{G:j4}{b:Operand->AV}{ev:Operand->Value}(a:∀ x,Rep G (b x) (ev x))(o:Option Operand):pW0 G (o.map b) (o.map ev):=by
 cases o with
 | none=>trivial
 | some x=>exact a x
theorem ol0{P:Program}{T:Tab}(hT:C0 P T){G:j4}{σ σ':j3}{w:World}(h:Rel G σ w){K:Operand->AV}{ev:Operand->Value}(n:∀ x,Rep G (K x) (ev x)){id:Nat}(hid:G.pl id=none)(E:id<σ.next)
  {o:Oper} {v:AV} (ha:aop T K σ id o.op=some (v,σ')):aa0 G σ w σ' id v ((execOp ev o).run P w):=by
 cases g:o.op with
 | move x=>rw[g]at ha;cases ha;simp only[execOp,g,au];exact aa0.same (n x) h
 | assign x=>rw[g]at ha;cases ha;simp only[execOp,g,au];exact aa0.same (n x) h
 | pick c a b=>
  rw[g]at ha;simp only[aop]at ha;split at ha
  ·rename_i t hc
   cases ha;have:=n c;rw[hc]at this;generalize J:ev c=u at this;cases this;simp only[execOp,g,J,ao,asBool,au,ae];refine aa0.same ?_ h;cases t<;>simp<;>exact n _
  cases ha
 | alloc t=>rw[g]at ha;simp only[aop]at ha;simp only[execOp,g];exact aa0.of (rG0 hT h hid E ha)
 | box t x=>rw[g]at ha;simp only[aop]at ha;simp only[execOp,g];exact aa0.of (vH0 h (n x) hid E ha)
 | build t ps=>
  rw[g]at ha;simp only[aop]at ha;split at ha
  ·rename_i C hv
   cases ha;simp only[execOp,g];obtain⟨h1,h2⟩:=B8.map2 n ps.toList;have:=rb0 (P:=P) (id:=id) hT h h1 h2 hv;refine aa0.of ?_;have e:(ps.toList.map fun (x:Nat×Operand)=>(x.1,ev x.2)).toArray=ps.map fun x=>(x.1,ev x.2):=by apply dm;simp
   rw[e]at this;exact this
  cases ha
 | buildSlice t len ps=>
  rw[g]at ha;simp only[aop]at ha;simp only[execOp,g];obtain⟨h1,h2⟩:=B8.map2 n ps.toList;have:=iu0 (P:=P) hT h h1 h2 hid E ha;refine aa0.of ?_;have e:(ps.toList.map fun (x:Nat×Operand)=>(x.1,ev x.2)).toArray=ps.map fun x=>(x.1,ev x.2):=by apply dm;simp
  rw[e]at this;exact this
 | load t x=>
  rw[g]at ha;simp only[aop]at ha;split at ha
  ·rename_i C hv
   cases ha;simp only[execOp,g];exact aa0.of (su0 hT h (n x) hv)
  cases ha
 | store t a x=>
  rw[g]at ha;simp only[aop]at ha;split at ha
  ·rename_i σ1 hv
   cases ha;simp only[execOp,g];obtain⟨w',h1,h2⟩:=se0 (P:=P) hT h (n a) (n x) hv;exact aa0.unit h1 h2
  cases ha
 | nilCheck x=>
  rw[g]at ha;simp only[aop]at ha;have D:=n x;simp only[execOp,g];split at ha
  ·rename_i i j k e
   cases ha;rw[e]at D;generalize ev x=u at D;have H:=D;cases D;exact aa0.same H h
  ·rename_i cs e
   cases ha;rw[e]at D;generalize ev x=u at D;have H:=D;cases D;exact aa0.same H h
  ·rename_i f a b e
   cases ha;rw[e]at D;generalize ev x=u at D;have H:=D;cases D;exact aa0.same H h
  cases ha
 | binOp b t x y yt=>
  rw[g]at ha;simp only[aop]at ha;split at ha
  ·rename_i C hv
   cases ha;simp only[execOp,g];exact aa0.of (we0 hT h (n x) (n y) hv)
  cases ha
 | unOp b t x=>
  rw[g]at ha;simp only[aop]at ha;split at ha
  ·rename_i C hv
   cases ha;simp only[execOp,g];exact aa0.of (aUn_ok h (n x) hv)
  cases ha
 | convert s d x=>
  rw[g]at ha;simp only[aop]at ha;split at ha
  ·rename_i C hv
   cases ha;simp only[execOp,g];exact aa0.of (tN0 hT h (n x) hv)
  cases ha
 | makeFunc f a c=>
  rw[g]at ha;cases ha;simp only[execOp,g];refine aa0.of ?_;simp only[Instr.makeFunc,au];refine H3.same ?_ h;have h1:=B8.map n a.toList;have h2:=B8.map n c.toList;have:=Rep.fn (G:=G) f _ _ _ _ h1.1 h2.1 h1.2 h2.2;have e:∀ l:Array Operand,(l.toList.map ev).toArray=l.map ev:=fun l=>by apply dm;simp
  rw[e,e]at this;exact this
 | makeMap t r=>
  rw[g]at ha;cases r with
  | some r=>simp[aop]at ha
  | none=>cases ha;simp only[execOp,g];refine aa0.of ?_;simp only[Instr.makeMap,ao,run_newObj,ae,au,Option.map_none];let p:Pl:={ block:=w.heap.size,size:=1,cap:=1 };have M:=h.push (.map #[] 0) id hid E p rfl rfl (.map false [] 0) ⟨#[],rfl,rfl,fun i hi=>by simp at hi⟩;exact H3.place (p:=p) hid (.mm id p (j4.place_same _ _ _)) M (Fr.push _ id hid p (fun _=>rfl) _ w.drawn)
 | slice t x lo hi mx=>
  rw[g]at ha;simp only[aop]at ha;split at ha
  ·rename_i C hv
   cases ha;simp only[execOp,g];exact aa0.of (qx0 hT h (n x) (pW0.map n lo) (pW0.map n hi) (pW0.map n mx) hv)
  cases ha
 | fieldAddr t x f=>
  rw[g]at ha;simp only[aop]at ha;split at ha
  ·rename_i C hv
   cases ha;simp only[execOp,g];exact aa0.of (ke0 hT h (n x) hv)
  cases ha
 | field t x f=>
  rw[g]at ha;simp only[aop]at ha;split at ha
  ·rename_i C hv
   cases ha;simp only[execOp,g];exact aa0.of (qm0 hT h (n x) hv)
  cases ha
 | indexAddr t x i=>
  rw[g]at ha;simp only[aop]at ha;split at ha
  ·rename_i C hv
   cases ha;simp only[execOp,g];exact aa0.of (kc0 hT h (n x) (n i) hv)
  cases ha
 | index t x i=>
  rw[g]at ha;simp only[aop]at ha;split at ha
  ·rename_i C hv
   cases ha;simp only[execOp,g];exact aa0.of (rf0 hT h (n x) (n i) hv)
  cases ha
 | lookup t x i ok=>
  rw[g]at ha;simp only[aop]at ha;split at ha
  ·rename_i C hv
   cases ha;simp only[execOp,g];exact aa0.of (pe0 hT h (n x) (n i) hv)
  cases ha
 | mapUpdate t m k x=>
  rw[g]at ha;simp only[aop]at ha;split at ha
  ·rename_i σ1 hv
   cases ha;simp only[execOp,g];obtain⟨w',h1,h2⟩:=eH0 (P:=P) hT h (n m) (n k) (n x) hv;exact aa0.unit h1 h2
  cases ha
 | insert t m k x=>
  rw[g]at ha;simp only[aop]at ha;split at ha
  ·rename_i σ1 hv
   cases ha;simp only[execOp,g];obtain⟨w',h1,h2⟩:=eH0 (P:=P) hT h (n m) (n k) (n x) hv;exact aa0.unit h1 h2
  cases ha
 | mapEntry t m k=>rw[g]at ha;simp only[aop]at ha;simp only[execOp,g];exact aa0.of (lL0 hT h (n m) (n k) ha)
 | entryStore t m s x=>
  rw[g]at ha;simp only[aop]at ha;split at ha
  ·rename_i σ1 he
   cases ha;simp only[execOp,g];obtain⟨w',h1,h2⟩:=iC0 (P:=P) (t:=t) h (n m) (n s) (n x) he;exact aa0.unit h1 h2
  cases ha
 | extract x i=>
  rw[g]at ha;simp only[aop]at ha;split at ha
  ·rename_i C hv
   cases ha;simp only[execOp,g];exact aa0.of (mx0 h (n x) hv)
  cases ha
 | call c=>
  rw[g]at ha;obtain⟨callee,args,ts⟩:=c;cases callee with
  | value f=>simp[aop]at ha
  | invoke r m=>simp[aop]at ha
  | builtin b=>
   simp only[aop]at ha;have q:=B8.map n args.toList;have z:(args.toList.map ev).toArray=args.map ev:=by apply dm;simp
   simp only[execOp,g,resolve,ao,au,ae,invoke];unfold F2 at ha;split at ha
   ·rename_i t x I hl
    split at ha
    ·rename_i C hv
     cases ha;have B:ts=#[t]:=by apply dm;simpa using I
     rw[hl]at q;obtain⟨u,us,e1,h1,h2⟩:=q.cons_inv;rw[h2.nil_inv]at e1;rw[<- z,e1,B];exact aa0.of (vU0 hT h h1 hv)
    cases ha
   ·rename_i s x a c I hl
    have B:ts=#[s,x]:=by apply dm;simpa using I
    rw[hl]at q;obtain⟨u,us,e1,h1,h2⟩:=q.cons_inv;obtain⟨y,Q,e2,N,O⟩:=h2.cons_inv;rw[O.nil_inv]at e2;rw[<- z,e1,e2,B];exact aa0.of (ng0 hT h h1 N hid E ha)
   ·rename_i t x I hl
    split at ha
    ·rename_i C hv
     cases ha;have B:ts=#[t]:=by apply dm;simpa using I
     rw[hl]at q;obtain⟨u,us,e1,h1,h2⟩:=q.cons_inv;rw[h2.nil_inv]at e1;rw[<- z,e1,B];exact aa0.of (wj0 hT h h1 hv)
    cases ha
   ·split at ha
    ·rename_i C hv
     cases ha;rw[<- z];refine aa0.of ?_;rw[vh0 q hv];exact H3.same (.sc _) h
    cases ha
   ·split at ha
    ·rename_i C hv
     cases ha;rw[<- z];refine aa0.of ?_;rw[wT0 q hv];exact H3.same (.sc _) h
    cases ha
   cases ha
 | _=>rw[g]at ha;simp[aop]at ha
def to0(agg:Bool)(l:List Int):AV:=if agg then .agg (l.map fun n=>.sc (.int .i64 n))else .sc (.int .i64 (l.headD 0))
theorem kP0(G:j4)(agg:Bool)(l:List Int):Rep G (to0 agg l) (B0 agg l):=by
 unfold to0 B0;cases agg with
 | false=>exact .sc _
 | true=>simp only[Al];refine .agg _ _ (by simp) (fun i hi a=>?_);simp only[cn];exact .sc _
def nu0(T:Tab)(σ:j3)(id:Nat)(t:TypeId)(x:AV):Option (AV×j3) :=
 match T t,x with
 | some { und:=.map _ _,.. },.mm m=>match σ.objs m with
  | some (.map _ _ clock)=>some (.it id,σ.set id (.miter (some m) clock [] clock))
  | _=>none
 | _,_=>none
def sN0(σ:j3)(x:AV):Option (AV×j3) :=
 match x with
 | .it id=>match σ.objs id with
  | some (.miter (some m) since seen last)=>match σ.objs m with
   | some (.map agg es clock)=>
    match (!seen.isEmpty&&!es.isEmpty&&es.all (fun e=>decide (last<=e.2.2)))with
    | true=>none
    | false=>match es.filter (fun e=>!seen.contains e.2.2)with
     | []=>some (.tup [.sc (.bool false)],σ)
     | [e]=>match decide (e.2.2<since)with
      | true=>some (.tup [.sc (.bool true),to0 agg e.1,e.2.1],σ.set id (.miter (some m) since (seen++[e.2.2]) clock))
      | false=>none
     | _=>none
   | _=>none
  | _=>none
 | _=>none
theorem U5.filter{G:j4}{agg:Bool}(p:Nat->Bool):∀ {es:List (List Int×AV×Nat)} {xs:List MapEntry},U5 G agg es xs->U5 G agg (es.filter fun e=>p e.2.2) (xs.filter fun x=>p x.born)
 | [],[],_=>trivial
 | [],_::_,h=>h.elim
 | _::_,[],h=>h.elim
 | e::es,x::xs,⟨⟨h1,h2,a⟩,c⟩=>by
  have b:=U5.filter p c;simp only[List.filter_cons,a];split
  ·exact⟨⟨h1,h2,a⟩,b⟩
  exact b
theorem U5.all{G:j4}{agg:Bool}(p:Nat->Bool):∀ {es:List (List Int×AV×Nat)} {xs:List MapEntry},U5 G agg es xs->(xs.all fun x=>p x.born)=es.all fun e=>p e.2.2
 | [],[],_=>rfl
 | [],_::_,h=>h.elim
 | _::_,[],h=>h.elim
 | e::es,x::xs,⟨⟨h1,h2,a⟩,b⟩=>by simp only[bU,a,U5.all p b]
theorem rX0{P:Program}{T:Tab}(hT:C0 P T){G:j4}{σ σ':j3}{w:World}(h:Rel G σ w){t:TypeId}{id:Nat}(hid:G.pl id=none)(a:id<σ.next){x v:AV}{u:Value}(d:Rep G x u)
  (ha:nu0 T σ id t x=some (v,σ')):H3 G σ w σ' id v ((jH t u).run P w):=by
 unfold nu0 at ha;split at ha
 ·rename_i k l _ _ _ _ m f
  split at ha
  ·rename_i agg es clock g
   cases ha;cases d with
   | mm _ p hp=>
   obtain⟨hv,xs,i,b⟩:=dg0 h g hp;have L2:(getObj p.block).run P w=.ok (.map xs.toArray clock) w:=by simp[getObj,ey,i]
   simp only[jH,ao,A8 hT f,ae,L2,au,run_newObj];let q:Pl:={ block:=w.heap.size,size:=1,cap:=1 };have c:m≠id:=fun e=>by rw[e,hid]at hp;cases hp
   have j:=h.push (.mapIter (some p.block) clock #[] clock) id hid a q rfl rfl (.miter (some m) clock [] clock) ⟨some p.block,rfl,p,by simpa[j4.place,c]using hp,rfl⟩;exact H3.place (p:=q) hid (.it id q (j4.place_same _ _ _)) j (Fr.push _ id hid q (fun _=>rfl) _ w.drawn)
  cases ha
 cases ha
theorem ty0{P:Program}{G:j4}{σ σ':j3}{w:World}(h:Rel G σ w){id:Nat}{ty:TypeId}{x v:AV}{u:Value}(H:Rep G x u)
  (ha:sN0 σ x=some (v,σ')):H3 G σ w σ' id v ((fV u false ty).run P w):=by
 unfold sN0 at ha;split at ha
 ·rename_i it
  split at ha
  ·rename_i m since seen last hit
   split at ha
   ·rename_i agg es clock I
    split at ha
    ·cases ha
    rename_i hc;cases H with
    | it _ p hp=>
    have hv:p.virt=false:=by
     rcases h.lies hit hp with ⟨_,_,_,e2⟩ | ⟨e2,_⟩
     ·cases e2
     exact e2
    obtain⟨_,_,j⟩:=h.real hit hp hv;obtain⟨O,s,q,D,rfl⟩:=j;obtain⟨J,xs,t,b⟩:=dg0 h I D;have d:(getObj p.block).run P w=.ok (.mapIter (some q.block) since seen.toArray last) w:=by simp[getObj,ey,s]
    have f:(getObj q.block).run P w=.ok (.map xs.toArray clock) w:=by simp[getObj,ey,t]
    have g:(!seen.toArray.isEmpty&&!xs.toArray.isEmpty&&xs.toArray.all (fun e=>decide (e.born>=last)))=false:=by
     have e1:xs.toArray.isEmpty=es.isEmpty:=by have:=b.length;cases xs<;>cases es<;>simp_all
     have e2:(xs.all fun e=>decide (e.born>=last))=es.all fun e=>decide (last<=e.2.2):=U5.all (fun n=>decide (last<=n)) b;have e3:seen.toArray.isEmpty=seen.isEmpty:=by cases seen<;>simp
     rw[e1,e3,List.all_toArray,e2];exact hc
    have a:=U5.filter (G:=G) (fun n=>!seen.contains n) b;have c:(xs.toArray.filter fun e=>!seen.toArray.contains e.born)=(xs.filter fun e=>!seen.contains e.born).toArray:=by
     rw[List.filter_toArray']
     ·congr 1
      apply List.filter_congr;intro e _;simp
     simp
    split at ha
    ·rename_i hl
     cases ha;rw[hl]at a;have z:(xs.filter fun e=>!seen.contains e.born)=[]:=by have:=a.length;simpa using this
     rw[z]at c;refine⟨G,.tuple #[.bool false],w,.refl G,fun _ _ h=>h,?_,.tup _ _ rfl (fun i hi B=>?_),h,.refl _ _ _⟩
     ·simp only[fV,ao,d,ae,f,g,c]
      simp[choose,ey,fA]
     have:i=0:=by simp at hi;omega
     subst this;exact .sc _
    ·rename_i e hl
     split at ha
     ·rename_i C
      cases ha;rw[hl]at a;obtain⟨y,K⟩:∃ y,(xs.filter fun e=>!seen.contains e.born)=[y]:=by have:=a.length;exact iE.1 (by simpa using this)
      rw[K]at a c;obtain⟨⟨M,N,E⟩,_⟩:=a;have l:y.born<since:=by rw[E];exact Aj C
      refine⟨G,.tuple #[.bool true,y.key,y.val],C5 w p.block (.mapIter (some q.block) since (seen++[e.2.2]).toArray clock),.refl G,fun _ _ h=>h,?_,?_,?_,?_⟩
      ·simp only[fV,ao,d,ae,f,g,c]
       have r:∀ o,(setObj p.block o).run P w=.ok () (C5 w p.block o):=fun o=>ao0 s (by intro _ _ _ h;cases h);have z:¬ since<=y.born:=by omega
       simp[choose,ey,fA,l,z];simp[r,E]
      ·rw[M]
       exact .tup _ _ rfl (fun i hi B=>by
        match i,hi with
        | 0,_=>exact .sc _
        | 1,_=>exact kP0 G agg e.1
        | 2,_=>exact N)
      ·exact h.write hit hp hv _ _ rfl rfl rfl (B5 _ _ _) (fun k hk=>A6 _ _ _ _ hk) (I6 _ _ _ _ s) ⟨some q.block,rfl,q,D,rfl⟩
      exact Fr.write hit hp hv _ (B5 _ _ _) (fun k hk=>A6 _ _ _ _ hk)
     cases ha
    cases ha
   cases ha
  cases ha
 cases ha
def qX0(σ:j3)(x:AV):Option AV :=
 match x with
 | .it id=>match σ.objs id with
  | some (.miter (some m) _ seen stepped)=>match seen.getLast?,σ.objs m with
   | some a,some (.map agg es clock)=>match aB clock stepped with
    | true=>match es.find? (fun e=>aB e.2.2 a)with
     | some e=>some (.tup [to0 agg e.1,e.2.1])
     | none=>none
    | false=>none
   | _,_=>none
  | _=>none
 | _=>none
theorem U5.find{G:j4}{agg:Bool}(p:Nat->Bool):∀ {es:List (List Int×AV×Nat)} {xs:List MapEntry} {e:List Int×AV×Nat},U5 G agg es xs->es.find? (fun e=>p e.2.2)=some e->∃ x,xs.find? (fun x=>p x.born)=some x/\x.key=B0 agg e.1/\Rep G e.2.1 x.val
 | [],_,e,_,hf=>by simp at hf
 | _::_,[],_,h,_=>h.elim
 | e0::es,x::xs,e,⟨⟨h1,h2,a⟩,b⟩,hf=>by
  simp only[List.find?_cons]at hf ⊢;rw[a];cases hp:p e0.2.2 with
  | true=>rw[hp]at hf;cases hf;exact⟨x,rfl,h1,h2⟩
  | false=>rw[hp]at hf;exact U5.find p b hf
theorem qD0{P:Program}{G:j4}{σ:j3}{w:World}(h:Rel G σ w){id:Nat}{x v:AV}{u:Value}(l:Rep G x u)(ha:qX0 σ x=some v):H3 G σ w σ id v ((kE u).run P w):=by
 unfold qX0 at ha;split at ha
 ·rename_i it
  split at ha
  ·rename_i m since seen stepped hit
   split at ha
   ·rename_i a agg es clock b o
    split at ha
    ·rename_i hc
     have hc:=Nat.eq_of_beq_eq_true hc;split at ha
     ·rename_i e hf
      cases ha;cases l with
      | it _ p hp=>
      have hv:p.virt=false:=by
       rcases h.lies hit hp with ⟨_,_,_,e2⟩ | ⟨e2,_⟩
       ·cases e2
       exact e2
      obtain⟨_,_,j⟩:=h.real hit hp hv;obtain⟨D,r,q,s,rfl⟩:=j;obtain⟨t,xs,k,c⟩:=dg0 h o s;have d:(getObj p.block).run P w=.ok (.mapIter (some q.block) since seen.toArray stepped) w:=by simp[getObj,ey,r]
      have f:(getObj q.block).run P w=.ok (.map xs.toArray clock) w:=by simp[getObj,ey,k]
      obtain⟨y,z,B,C⟩:=U5.find (fun n=>aB n a) c hf;have g:seen.toArray.back?=some a:=by simpa using b
      have i:xs.toArray.find? (fun x=>x.born==a)=some y:=by rw[List.find?_toArray];rw[<- z];congr 1;funext x;rw[Bool.eq_iff_iff];simp
      refine⟨G,.tuple #[y.key,y.val],w,.refl G,fun _ _ h=>h,?_,?_,h,.refl _ _ _⟩
      ·simp only[kE,ao,d,ae,g,f]
       simp[hc,i]
      rw[B];exact Rep.tup2 (kP0 G agg e.1) C
     cases ha
    cases ha
   cases ha
  cases ha
 cases ha
def jN0(T:Tab)(σ:j3)(t:TypeId)(x ix:AV):Option j3 :=
 match T t,ix.key with
 | some { und:=.map a _,.. },some (b,l)=>match x with
  | .mm id=>match σ.objs id with
   | some (.map agg es clock)=>if (agg=b\/es.isEmpty=true)/\U8 T a b l es=true then
     some (match I7 b l es 0 with
      | some (i,_)=>σ.set id (.map agg (es.eraseIdx i) clock)
      | none=>σ)else none
   | _=>none
  | _=>none
 | _,_=>none
theorem U5.eraseIdx{G:j4}{agg:Bool}:∀ {es:List (List Int×AV×Nat)} {xs:List MapEntry} (i:Nat),U5 G agg es xs->U5 G agg (es.eraseIdx i) (xs.eraseIdx i)
 | [],[],i,_=>by simp[U5]
 | [],_::_,_,h=>h.elim
 | _::_,[],_,h=>h.elim
 | e::es,x::xs,0,h=>by simpa using h.2
 | e::es,x::xs,i+1,h=>by simp only[List.eraseIdx_cons_succ];exact⟨h.1,U5.eraseIdx i h.2⟩
theorem po0{P:Program}{T:Tab}(hT:C0 P T){G:j4}{σ σ':j3}{w:World}(h:Rel G σ w){t z ty:TypeId}{id:Nat}{x ix:AV}{u y:Value}(B:Rep G x u)(C:Rep G ix y)
  (ha:jN0 T σ t x ix=some σ'):H3 G σ w σ' id (.sc (.tuple #[])) ((gH #[t,z] ty #[u,y]).run P w):=by
 unfold jN0 at ha;split at ha
 ·rename_i D E _ _ _ _ b l v hk
  split at ha
  ·rename_i id'
   split at ha
   ·rename_i agg es clock m
    split at ha
    ·rename_i hc
     obtain⟨n,hf⟩:=hc;obtain rfl:=AV.key_ok hk C;cases B with
     | mm _ p hp=>
     obtain⟨hv,xs,j,d⟩:=dg0 h m hp;have g:U5 G b es xs:=by
      rcases n with rfl | he
      ·exact d
      have s:es=[]:=by simpa using he
      subst s;have:xs=[]:=by have:=d.length;simpa using this
      subst this;trivial
     have L2:(getObj p.block).run P w=.ok (.map xs.toArray clock) w:=by simp[getObj,ey,j]
     have f:∀ o,(setObj p.block o).run P w=.ok () (C5 w p.block o):=fun o=>ao0 j (by intro _ _ _ h;cases h);obtain⟨i,r,e,a⟩:=am0 hT (P:=P) (w:=w) g hf;cases hm:I7 b l es 0 with
     | none=>
      rw[hm]at a ha;cases ha;have:r=none:=by cases r with
       | none=>rfl
       | some _=>exact a.elim
      subst this;refine⟨G,.tuple #[],w,.refl G,fun _ _ h=>h,?_,.sc _,h,.refl _ _ _⟩;simp[gH,ao,A8 hT v,ae,L2,i,e,f,lY0 j]
     | some c=>
      obtain⟨ci,cc⟩:=c;rw[hm]at a ha;cases ha;cases r with
      | none=>exact a.elim
      | some q=>
       obtain⟨H,I⟩:=q;obtain⟨rfl,_,_⟩:=a;refine⟨G,.tuple #[],C5 w p.block (.map (xs.eraseIdx ci).toArray clock),.refl G,fun _ _ h=>h,?_,.sc _,?_,?_⟩
       ·simp[gH,ao,A8 hT v,ae,L2,i,e,f]
       ·exact h.write m hp hv _ _ rfl rfl rfl (B5 _ _ _) (fun k hk=>A6 _ _ _ _ hk) (I6 _ _ _ _ j) (bS0 p clock (d.eraseIdx ci))
       exact Fr.write m hp hv _ (B5 _ _ _) (fun k hk=>A6 _ _ _ _ hk)
    cases ha
   cases ha
  cases ha
 cases ha
def nQ0(T:Tab)(σ:j3)(t:TypeId)(x:AV):Option j3 :=
 match T t,x with
 | some { und:=.slice elem,.. },.ms id size off (len+1)=>match T elem,σ.objs id with
  | some b,some (.row e a es)=>match b.zero with
   | .int .i64 n=>if n=0/\a=1/\size=1/\off+(len+1)<=es.length then some (σ.set id (.row e a (es.take off++bm (len+1) [.sc (.int .i64 0)]++es.drop (off+(len+1)))))else none
   | _=>none
  | _,_=>none
 | _,_=>none
theorem ko0(n:Nat):(bB (bk .i64 0).cells n).toList=bm n (.int .i64 0):=by
 have e:(bk .i64 0).cells=#[.int .i64 0]:=rfl;rw[e];unfold bB;apply jF
 ·simp
 intro j h1 h2;simp[Nat.mod_one]
theorem qQ0{P:Program}{T:Tab}(hT:C0 P T){G:j4}{σ σ':j3}{w:World}(h:Rel G σ w){t ty:TypeId}{id:Nat}{x:AV}{u:Value}(J:Rep G x u)
  (ha:nQ0 T σ t x=some σ'):H3 G σ w σ' id (.sc (.tuple #[])) ((gS #[t] ty #[u]).run P w):=by
 unfold nQ0 at ha;split at ha
 ·rename_i elem _ _ _ _ id' size off len K
  split at ha
  ·rename_i N e O es s v
   split at ha
   ·rename_i n hzero
    split at ha
    ·rename_i hc
     obtain⟨rfl,rfl,rfl,hle⟩:=hc;cases ha;cases J with
     | ms _ _ _ _ p hp hv hz a c q hoff hl hsp=>
      obtain⟨_,_,cells,E,hs,H,I,b⟩:=h.real v hp hv;have B:a=⟨p.block,off*p.size,none⟩:=q (by omega);subst B;rw[hs];have M:cells.size=p.cap:=by rw[H];omega
      obtain⟨d,r,C,L2⟩:=M9 (P:=P) p.block (off*1) e (bm (len+1) (.int .i64 0)) 0 cells w E (by simp;omega)
       (fun z hz=>by rw[fg hz];rfl)
      refine⟨G,.tuple #[],C5 w p.block (.cells d e (0,0)),.refl G,fun _ _ h=>h,?_,.sc _,?_,?_⟩
      ·have hu:(underlying t).run P w=.ok (.slice elem) w:=A8 hT K w
       have e0:∀ (a:Addr),(gS #[t] ty #[.slice (some a) (len+1) c]).run P w=((do storeCells a (bB (<- zeroValue elem).cells (len+1)).toList;pure (.tuple #[]):Sem Value)).run P w:=fun a=>by simp[gS,ao,hu]
       have D:(zeroValue elem).run P w=.ok (.int .i64 0) w:=by rw[W8 hT s,hzero]
       have g:=r;simp only[jf]at g;rw[e0];simp only[ao,D,ae,ko0,jf,g,au]
      ·refine h.write v hp hv (.cells d e (0,0)) _ rfl rfl rfl (B5 _ _ _) (fun k hk=>A6 _ _ _ _ hk) (I6 _ _ _ _ E) ⟨d,rfl,hs,by rw[C,H],by simp;omega,fun i hi=>?_⟩
       have f:i<es.length:=by simp at hi;omega
       have o:=L2 (i*1+0);simp only[iH,jf,cM]at o;by_cases h1:i<off
       ·have e1:(es.take off++bm (len+1) [AV.sc (.int .i64 0)]++es.drop (off+(len+1)))[i]=es[i]:=by rw[dI (by simp;omega),dI (by simp;omega),ju]
        rw[e1];refine⟨(b i f).1,fun j hj hk=>?_⟩;have l:j=0:=by have:=(b i f).1;omega
        subst l;rw[Ae (by omega)]at o;have m:i*1+0<cells.size:=by omega
        have:=(b i f).2 0 hj m;have e2:d[i*1+0]=cells[i*1+0]:=by
         have:d[i*1+0]?=cells[i*1+0]?:=by simpa using o
         rw[aH hk,aH m]at this;exact aW this
        rw[e2];exact this
       by_cases h2:i<off+(len+1)
       ·have e1:(es.take off++bm (len+1) [AV.sc (.int .i64 0)]++es.drop (off+(len+1)))[i]=[AV.sc (.int .i64 0)]:=by rw[dI (by simp;omega),eT (by simp;omega)];simp
        rw[e1];refine⟨rfl,fun j hj hk=>?_⟩;have l:j=0:=by simp at hj;omega
        subst l;rw[Af (by omega)]at o;have e2:d[i*1+0]=.int .i64 0:=by
         have e3:d[i*1+0]?=some (.int .i64 0):=by
          have e4:(bm (len+1) (bk .i64 0))[i-off]?=some (.int .i64 0):=by rw[List.getElem?_replicate,Af (by omega)]
          rw[e4]at o;simpa using o
         rw[aH hk]at e3;exact aW e3
        rw[e2];exact .sc _
       have e1:(es.take off++bm (len+1) [AV.sc (.int .i64 0)]++es.drop (off+(len+1)))[i]=es[i]:=by rw[eT (by simp;omega),List.getElem_drop];congr 1;simp;omega
       rw[e1];refine⟨(b i f).1,fun j hj hk=>?_⟩;have l:j=0:=by have:=(b i f).1;omega
       subst l;rw[Ae (by omega)]at o;have m:i*1+0<cells.size:=by omega
       have:=(b i f).2 0 hj m;have e2:d[i*1+0]=cells[i*1+0]:=by
        have:d[i*1+0]?=cells[i*1+0]?:=by simpa using o
        rw[aH hk,aH m]at this;exact aW this
       rw[e2];exact this
      exact Fr.write v hp hv _ (B5 _ _ _) (fun k hk=>A6 _ _ _ _ hk)
    cases ha
   cases ha
  cases ha
 cases ha
def aop2(T:Tab)(a:Operand->AV)(σ:j3)(id:Nat)(op:Op):Option (AV×j3) :=
 match op with
 | .range t x=>nu0 T σ id t (a x)
 | .next it false=>sN0 σ (a it)
 | .entry it=>match qX0 σ (a it)with
  | some v=>some (v,σ)
  | none=>none
 | .call { callee:=.builtin .delete,args:=⟨[m,k]⟩,argTypes:=⟨[t,_]⟩ }=>match jN0 T σ t (a m) (a k)with
  | some σ'=>some (.sc (.tuple #[]),σ')
  | none=>none
 | .call { callee:=.builtin .clear,args:=⟨[x]⟩,argTypes:=⟨[t]⟩ }=>match nQ0 T σ t (a x)with
  | some σ'=>some (.sc (.tuple #[]),σ')
  | none=>none
 | op=>aop T a σ id op
theorem uZ0{P:Program}{T:Tab}(hT:C0 P T){G:j4}{σ σ':j3}{w:World}(h:Rel G σ w){d:Operand->AV}{ev:Operand->Value}(b:∀ x,Rep G (d x) (ev x)){id:Nat}(hid:G.pl id=none)(c:id<σ.next)
  {o:Oper} {v:AV} (ha:aop2 T d σ id o.op=some (v,σ')):aa0 G σ w σ' id v ((execOp ev o).run P w):=by
 unfold aop2 at ha;split at ha
 ·rename_i t x a
  simp only[execOp,a];exact aa0.of (rX0 hT h hid c (b x) ha)
 ·rename_i it a
  simp only[execOp,a];exact aa0.of (ty0 h (b it) ha)
 ·rename_i it a
  split at ha
  ·rename_i e he
   cases ha;simp only[execOp,a];exact aa0.of (qD0 h (b it) he)
  cases ha
 ·rename_i m k t t2 a
  split at ha
  ·rename_i σ1 he
   cases ha;simp only[execOp,a,resolve,ao,au,ae,invoke];have e2:kV ev { toList:=[m,k] }=#[ev m,ev k]:=by simp
   rw[e2];exact aa0.of (po0 hT h (b m) (b k) he)
  cases ha
 ·rename_i x t a
  split at ha
  ·rename_i σ1 he
   cases ha;simp only[execOp,a,resolve,ao,au,ae,invoke];have e2:kV ev { toList:=[x] }=#[ev x]:=by simp
   rw[e2];exact aa0.of (qQ0 hT h (b x) he)
  cases ha
 exact ol0 hT h b hid c ha
structure AS where
 n:Nat
 tr:Tr AV
 st:j3
def AS.get(s:AS)(t:Nat):AV:=(s.tr.get t).getD (.sc undef)
def AS.put(s:AS)(d:Option Tmp)(v:AV):AS :=
 match d with
 | some d=>{ s with tr:=s.tr.set d (some v) }
 | none=>s
def AS.eval(s:AS):Operand->AV
 | .tmp t=>s.get t
 | .const v=>.ofValue v
 | .global g=>.sc (.pointer (some ⟨g,0,none⟩))
 | .func f=>.fn (.func f) [] []
theorem AS.get_put(s:AS)(d:Nat)(v:AV)(t:Nat):(s.put (some d) v).get t=if t=d then v else s.get t:=by simp only[AS.get,AS.put,Tr.get_set];split<;>rfl
@[simp] theorem AS.put_n (s:AS) (d:Option Tmp) (v:AV):(s.put d v).n=s.n:=by cases d<;>rfl
@[simp] theorem AS.put_st (s:AS) (d:Option Tmp) (v:AV):(s.put d v).st=s.st:=by cases d<;>rfl
structure W6(G:j4)(s:AS)(a:Act)(w:World):Prop where
 defers:a.defers=[]
 size:a.tmps.size=s.n
 tmps:∀ t,Rep G (s.get t) (a.tmps.getD t undef)
 rel:Rel G s.st w
theorem W6.eval{G:j4}{s:AS}{a:Act}{w:World}(h:W6 G s a w)(x:Operand):Rep G (s.eval x) (a.eval x):=by
 cases x with
 | tmp t=>exact h.tmps t
 | const v=>exact Rep.ofValue G v
 | global g=>exact .sc _
 | func f=>exact .fn _ [] [] [] [] rfl rfl (fun i h=>by simp at h) (fun i h=>by simp at h)
def P1(n:Nat):Option Tmp->Bool
 | some d=>d<n
 | none=>true
theorem W6.put{G G':j4}{s:AS}{a:Act}{w w':World}{σ':j3}(h:W6 G s a w)(b:G.le G')(c:Rel G' σ' w'){v:AV}{u:Value}(hv:Rep G' v u){d:Option Tmp}(f:P1 s.n d=true) :
  W6 G' ({ s with st:=σ' }.put d v) (a.put d u) w':=by
 cases d with
 | none=>exact⟨h.defers,h.size,fun t=>(h.tmps t).mono b,c⟩
 | some d=>
  refine⟨h.defers,by simp[kg,AS.put,h.size],fun t=>?_,c⟩;rw[AS.get_put];simp only[P1,Ad]at f;simp only[kg];by_cases e:t=d
  ·subst e
   rw[Af rfl];simp[h.size,f];exact hv
  rw[Ae e];have:(a.tmps.setIfInBounds d u).getD t undef=a.tmps.getD t undef:=by simp[bY,Ne.symm e]
  rw[this];exact(h.tmps t).mono b
def me0(n:Nat)(G G':j4):Prop:=∀ i,i<n->G.pl i=none->G'.pl i=none
theorem me0.refl(n:Nat)(G:j4):me0 n G G:=fun _ _ h=>h
theorem me0.trans{n m:Nat}{A B C:j4}(h:me0 n A B)(k:me0 m B C)(a:n<=m):me0 n A C:=fun i hi ha=>k i (by omega) (h i hi ha)
structure fA0(n:Nat)(G:j4)(σ:j3)(w:World)(G':j4)(σ':j3)(w':World):Prop where
 le:G.le G'
 keeps:me0 n G G'
 next:σ.next<=σ'.next
 fr:Fr G σ w G' σ' w'
theorem fA0.refl(n:Nat)(G:j4)(σ:j3)(w:World):fA0 n G σ w G σ w:=⟨.refl G,.refl n G,ax _,.refl G σ w⟩
theorem fA0.trans{n m:Nat}{d e f:j4}{σ1 a b:j3}{g i j:World}(h:fA0 n d σ1 g e a i)(k:fA0 m e a i f b j)(c:n<=m):fA0 n d σ1 g f b j :=⟨h.le.trans k.le,h.keeps.trans k.keeps c,bC h.next k.next,h.fr.trans k.fr⟩
def aJ0(P:Program)(f:FuncId)(args:List AV)(σ:j3)(R:AV->j3->Prop):Prop :=∀ G vs w,B8 G args vs->Rel G σ w->Calls P f vs.toArray w fun e w'=>∃ v a σ' G',e=.returned v/\fA0 σ.next G σ w G' σ' w'/\Rep G' a v/\Rel G' σ' w'/\R a σ'
def B4(P:Program)(f:FuncId)(args:List AV)(σ:j3)(R:AV->j3->Prop):Prop :=
 ∀ G vs w,B8 G args vs->Rel G σ w->∀ (o:Oper) (a:Act) (K:Act->World->Prop) (Q:Exit->Act->World->Prop),
  (∀ u b σ' G' w',fA0 σ.next G σ w G' σ' w'->Rep G' b u->Rel G' σ' w'->R b σ'->K (a.put o.dst u) w')->o.upon P a K Q ((callFunc f vs.toArray).run P w)
theorem B4.of_calls {P:Program} {f:FuncId} {args:List AV} {σ:j3} {R:AV->j3->Prop} {fn:Func} (g:P.funcs[f]?=some fn) (b:(fn.name== "runtime.NumGoroutine")=false) (c:fn.body.isNone=false)
  (h:aJ0 P f args σ R):B4 P f args σ R:=by
 intro G vs w h1 h2 o a K Q i;have d:(callFunc f vs.toArray).run P w=.ok (.enter f vs.toArray) w:=by simp only[callFunc,ao,run_program,ae,g,b,c,aq,Ah,au]
 rw[d];simp only[eF];refine(h G _ w h1 h2).mono ?_;rintro e w' ⟨v,j,σ',G',rfl,k,l,m,n⟩;exact i v j σ' G' w' k l m n
theorem B4.of_extern{P:Program}{f:FuncId}{args:List AV}{σ:j3}{R:AV->j3->Prop}(b:AV)(c:R b σ)
  (h:∀ G vs w,B8 G args vs->Rel G σ w->∃ u,(callFunc f vs.toArray).run P w=.ok (.value u) w/\Rep G b u):B4 P f args σ R:=by
 intro G vs w h1 h2 o a K Q d;obtain⟨u,hu,e⟩:=h G vs w h1 h2;rw[hu];exact d u b σ G w (.refl _ _ _ _) e h2 c
def AWp(P:Program)(c:Code)(Q:Exit->AS->Prop)(s:AS):Prop :=∀ G a w,W6 G s a w->c.wp P (fun e a' w'=>∃ s' G',fA0 s.st.next G s.st w G' s'.st w'/\W6 G' s' a' w'/\Q e s') a w
section
variable {P:Program} {Q:Exit->AS->Prop} {s:AS}
theorem AWp.mono{c:Code}{Q':Exit->AS->Prop}(h:AWp P c Q s)(b:∀ e s',Q e s'->Q' e s'):AWp P c Q' s :=fun G a w d=>wp_mono (h G a w d) fun _ _ _ ⟨s',G',f,a2,a3⟩=>⟨s',G',f,a2,b _ _ a3⟩
theorem AWp.skip(h:Q .normal s):AWp P .skip Q s:=fun G _ _ a=>wp_skip ⟨s,G,.refl _ _ _ _,a,h⟩
theorem AWp.label{l:Nat}(h:Q .normal s):AWp P (.label l) Q s:=fun G _ _ a=>wp_label ⟨s,G,.refl _ _ _ _,a,h⟩
theorem AWp.exit{id:Nat}(h:Q (.exit id) s):AWp P (.exit id) Q s:=fun G _ _ a=>wp_exit ⟨s,G,.refl _ _ _ _,a,h⟩
theorem AWp.ret(h:Q .ret s):AWp P .ret Q s:=fun G _ _ a=>wp_ret ⟨s,G,.refl _ _ _ _,a,h⟩
def kp0(K:AS->Prop)(Q:Exit->AS->Prop):Exit->AS->Prop
 | .normal,s=>K s
 | e,s=>Q e s
theorem AWp.seq{x y:Code}(h:AWp P x (kp0 (AWp P y Q) Q) s):AWp P (.seq x y) Q s:=by
 intro G a w c;refine wp_seq (wp_mono (h G a w c) ?_);rintro e a' w' ⟨s',G',b,a2,a3⟩;cases e with
 | normal=>refine wp_mono (a3 G' a' w' a2) ?_;rintro e2 d k ⟨s2,f,g,i,j⟩;exact⟨s2,f,b.trans g b.next,i,j⟩
 | _=>exact⟨s',G',b,a2,a3⟩
theorem AWp.cond{c:Operand}{x y:Code}{t:Bool}(hc:s.eval c=.sc (.bool t))(h:AWp P (if t then x else y) Q s):AWp P (.cond c x y) Q s:=by intro G a w d;have:=d.eval c;rw[hc]at this;generalize b:a.eval c=u at this;cases this;exact wp_cond b (h G a w d)
def cg0(id:Nat)(Q:Exit->AS->Prop):Exit->AS->Prop
 | .exit id',s=>if id'=id then Q .normal s else Q (.exit id') s
 | e,s=>Q e s
theorem AWp.block{id:Nat}{c:Code}(h:AWp P c (cg0 id Q) s):AWp P (.block id c) Q s:=by
 intro G a w d;refine wp_block (wp_mono (h G a w d) ?_);rintro e a' w' ⟨s',G',b,a2,a3⟩;cases e with
 | exit id' =>
  simp only[cg0]at a3;simp only[Exit.inBlock];split
  ·rename_i e;rw[Af e]at a3;exact⟨s',G',b,a2,a3⟩
  rename_i e;rw[Ae e]at a3;exact⟨s',G',b,a2,a3⟩
 | _=>exact⟨s',G',b,a2,a3⟩
def noGo:Exit->Prop
 | .goto _=>False
 | _=>True
theorem AWp.scope{c:Code}(h:AWp P c (fun e s'=>noGo e/\Q e s') s):AWp P (.scope c) Q s:=by
 intro G a w b;refine wp_scope_straight (wp_mono (h G a w b) ?_);rintro e a' w' ⟨s',G',d,a2,a3,a4⟩;cases e with
 | goto l=>exact a3.elim
 | _=>exact⟨s',G',d,a2,a4⟩
theorem AWp.loop{c:Code}(I:Nat->AS->Prop)(round:∀ n s,I n s->AWp P c (kp0 (fun s'=>∃ m,m<n/\I m s') Q) s){n:Nat}(B:I n s):AWp P (.loop c) Q s:=by
 intro G a w C;have pick:∀ d b,(∃ n,∃ s' G',fA0 s.st.next G s.st w G' s'.st b/\W6 G' s' d b/\I n s') ->
   ∃ n,(∃ s' G',fA0 s.st.next G s.st w G' s'.st b/\W6 G' s' d b/\I n s')/\∀ m,m<n->¬ ∃ s' G',fA0 s.st.next G s.st w G' s'.st b/\W6 G' s' d b/\I m s':=by
  rintro d b ⟨n,D⟩
  induction n using gu with
  | _ n E=>
   by_cases hm:∃ m,m<n/\∃ s' G',fA0 s.st.next G s.st w G' s'.st b/\W6 G' s' d b/\I m s'
   ·obtain⟨m,g,i⟩:=hm
    exact E m g i
   exact⟨n,D,fun m g i=>hm ⟨m,g,i⟩⟩
 classical
 let k:Act->World->Nat:=fun d b=>if h:∃ n,∃ s' G',fA0 s.st.next G s.st w G' s'.st b/\W6 G' s' d b/\I n s' then (pick d b h).choose else 0
 refine wp_loop (fun d b=>∃ n,∃ s' G',fA0 s.st.next G s.st w G' s'.st b/\W6 G' s' d b/\I n s') k ⟨n,s,G,.refl _ _ _ _,C,B⟩ ?_;intro d b q;have r:k d b=(pick d b q).choose:=by simp only[k];rw[dif_pos q]
 obtain⟨⟨s',G',x,H,J⟩,p⟩:=(pick d b q).choose_spec;rw[r];refine wp_mono (round _ s' J G' d b H) ?_;rintro e a2 j ⟨s2,t,c1,c2,z⟩;have u:=x.trans c1 x.next;cases e with
 | normal=>
  obtain⟨m,hm,l⟩:=z;have f:∃ n,∃ s' G',fA0 s.st.next G s.st w G' s'.st j/\W6 G' s' a2 j/\I n s':=⟨m,s2,t,u,c2,l⟩;refine⟨f,?_⟩;have o:k a2 j=(pick a2 j f).choose:=by simp only[k];rw[dif_pos f]
  rw[o];have h2:=(pick a2 j f).choose_spec.2;rcases cg m (pick a2 j f).choose with v | K
  ·exact Am ⟨s2,t,u,c2,l⟩ (h2 m v)
  omega
 | _=>exact⟨s2,t,u,c2,z⟩
end
def D0(ops:Array Oper)(s:AS)(o:Oper):Option Bool :=
 match o.guard with
 | none=>some true
 | some (j,want)=>match (ops[j]?).bind (·.dst)with
  | some d=>if d<s.n then
    match s.get d with
    | .sc (.bool b)=>some (b==want)
    | .sc (.tuple _)=>some false
    | _=>none else none
  | none=>none
theorem K3{ops:Array Oper}{s:AS}{o:Oper}{b:Bool}{G:j4}{a:Act}{w:World}(h:W6 G s a w)(ha:D0 ops s o=some b):de o (yielded ops a.tmps)=b:=by
 unfold D0 at ha;unfold de;split at ha
 ·rename_i e;cases ha;simp[e]
 rename_i j want e;simp only[e];split at ha
 ·rename_i d i
  split at ha
  ·rename_i f
   have c:=h.tmps d;have L2:a.tmps[d]?=some (a.tmps.getD d undef):=by simp[h.size,f]
   simp only[yielded,i,jg,L2];split at ha
   ·rename_i b' g
    cases ha;rw[g]at c;generalize a.tmps.getD d undef=u at c;cases c;cases b'<;>cases want<;>rfl
   ·rename_i g
    cases ha;rw[g]at c;generalize a.tmps.getD d undef=u at c;cases c;cases want<;>rfl
   cases ha
  cases ha
 cases ha
def Z6(P:Program)(ops:Array Oper)(n0:Nat)(Q:AS->Prop)(l:List Nat)(s:AS):Prop :=
 ∀ G a w,W6 G s a w->(∀ j∈l,j<ops.size/\G.pl (n0+j)=none)->n0+ops.size<=s.st.next ->
  wpOps P ops (fun e a' w'=>e=.normal/\∃ s' G',fA0 n0 G s.st w G' s'.st w'/\W6 G' s' a' w'/\Q s') l a w
section
variable {P:Program} {ops:Array Oper} {n0:Nat} {Q:AS->Prop} {s:AS}
theorem B3{Q Q':Exit->Act->World->Prop}(h:∀ e a w,Q e a w->Q' e a w):∀ (l:List Nat) (a:Act) (w:World),wpOps P ops Q l a w->wpOps P ops Q' l a w
 | [],a,w,b=>h _ _ _ b
 | i::rest,a,w,b=>by
  simp only[wpOps]at b ⊢;split
  ·rename_i d;simp only[d]at b;exact B3 h rest a w b
  rename_i o d;simp only[d]at b;split
  ·rename_i hw
   simp only[hw,Al]at b;rcases b with b | ⟨h1,a0,w0,h2⟩
   ·left
    unfold fO at *;generalize (execOp a.eval o).run P w=r at *;cases r with
    | ok n w' =>
     cases n<;>simp only[eF]at b ⊢ <;>
      first
       | exact B3 h rest _ _ b
       | exact Calls.mono b (fun e f he=>by
         cases e with
         | returned v=>exact B3 h rest _ _ he
         | panicked c=>exact h _ _ _ he
         | outgrown=>obtain⟨a0,w0,g⟩:=he;exact⟨a0,w0,h _ _ _ g⟩)
       | exact Rows.mono b (fun _ _ he=>B3 h rest _ _ he)
    | halt x w'=>cases x<;>simp only[eF]at b ⊢<;>first | exact h _ _ _ b | exact b
   exact .inr ⟨h1,a0,w0,h _ _ _ h2⟩
  rename_i hw;simp only[hw]at b;exact B3 h rest _ _ b
theorem Z6.nil(h:Q s):Z6 P ops n0 Q [] s:=fun G _ _ a _ _=>⟨rfl,s,G,.refl _ _ _ _,a,h⟩
theorem Z6.skip{i:Nat}{rest:List Nat}{o:Oper}(c:ops[i]?=some o)(hw:D0 ops s o=some false)(d:P1 s.n o.dst=true)(h:Z6 P ops n0 Q rest (s.put o.dst (.sc undef))):Z6 P ops n0 Q (i::rest) s:=by intro G a w b hf e;simp only[wpOps,c,K3 b hw,aq,Ah];have:=h G _ w (b.put (.refl G) b.rel (.sc undef) d) (fun j hj=>hf j (by simp[hj])) (by simpa using e);simpa using this
theorem Z6.plain{T:Tab}(hT:C0 P T){i:Nat}{rest:List Nat}{o:Oper}{v:AV}{σ':j3}(k:ops[i]?=some o)(hi:i∉rest)(hw:D0 ops s o=some true)(l:P1 s.n o.dst=true)
  (ha:aop T s.eval s.st (n0+i) o.op=some (v,σ')) (m:σ'.next=s.st.next) (h:Z6 P ops n0 Q rest ({ s with st:=σ' }.put o.dst v)):Z6 P ops n0 Q (i::rest) s:=by
 intro G a w d hf K;have p:i<ops.size:=(aL.1 k).1;simp only[wpOps,k,K3 d hw,Al];left;obtain⟨G',u,w',h1,h2,c,q,r,f⟩:=ol0 (P:=P) hT d.rel d.eval (hf i (by simp)).2 (by omega) ha;have g:∀ j∈rest,n0+j≠n0+i:=fun j hj e=>hi (by have t:j=i:=jh e;rw[<- t];exact hj);have key:=h G' (a.put o.dst u) w' (d.put h1 r q l) (fun j hj=>⟨(hf j (by simp[hj])).1,h2 _ (g j hj) (hf j (by simp[hj])).2⟩) (by simp;omega);have x:fA0 n0 G s.st w G' σ' w':=⟨h1,fun z B C=>h2 z (by omega) C,by omega,f⟩;have b:=B3 (P:=P) (ops:=ops) (Q':=fun e a' w'=>e=.normal/\∃ s' G',fA0 n0 G s.st w G' s'.st w'/\W6 G' s' a' w'/\Q s') (fun e a' w' ⟨e1,s',D,E,H,I⟩ =>
  ⟨e1,s',D,x.trans (by simpa using E) (ax _),H,I⟩) rest _ _ key
 unfold fO;rcases c with c | ⟨c,J⟩
 ·rw[c];exact b
 rw[c];subst J;exact b
theorem Z6.call{i:Nat}{rest:List Nat}{o:Oper}{l:Operand}{args:Array Operand}{ts:Array TypeId}{f:FuncId}{first cap:List AV}(r:ops[i]?=some o)(m:o.op=.call { callee:=.value l,args:=args,argTypes:=ts })
  (hw:D0 ops s o=some true) (t:P1 s.n o.dst=true) (p:s.eval l=.fn (.func f) first cap)
  {R:AV->j3->Prop} (hc:B4 P f (first++args.toList.map s.eval++cap) s.st R) (h:∀ v σ',R v σ'->Z6 P ops n0 Q rest ({ s with st:=σ' }.put o.dst v)):Z6 P ops n0 Q (i::rest) s:=by
 intro G a w g hf S;simp only[wpOps,r,K3 g hw,Al];left;have b:=g.eval l;rw[p]at b;generalize q:a.eval l=u at b;cases b with
 | fn _ _ _ fv cv h1 h2 x z=>
 have c:B8 G (first++args.toList.map s.eval++cap) (fv++args.toList.map a.eval++cv) :=(B8.append (G:=G) ⟨h1,x⟩ (B8.map g.eval args.toList)).append ⟨h2,z⟩;have k:(execOp a.eval o).run P w=(callFunc f (fv++args.toList.map a.eval++cv).toArray).run P w:=by
  have e:fv.toArray++args.map a.eval++cv.toArray=(fv++args.toList.map a.eval++cv).toArray:=by apply dm;simp
  simp only[execOp,m,resolve,q,gm,ao,au,ae,invoke,e]
 unfold fO;rw[k];refine hc G _ w c g.rel o a _ _ ?_;intro v B σ' G' w' d C D E;have H:=d.next;have key:=h B σ' E G' (a.put o.dst v) w' (g.put d.le D C t) (fun j hj=>⟨(hf j (by simp[hj])).1,d.keeps _ (by have:=(hf j (by simp[hj])).1;omega) (hf j (by simp[hj])).2⟩) (by simp;omega);have I:fA0 n0 G s.st w G' σ' w':=⟨d.le,fun J K M=>d.keeps J (by omega) M,d.next,d.fr⟩;exact B3 (fun e a' w' ⟨e1,s',N,c1,c2,O⟩=>⟨e1,s',N,I.trans (by simpa using c1) (ax _),c2,O⟩) rest _ _ key
end
theorem AWp.region{P:Program}{Q:Exit->AS->Prop}{s:AS}{id:Nat}{ops:Array Oper}
  (h:Z6 P ops s.st.next (fun s'=>Q .normal s') (aJ ops.size) { s with st:={ s.st with next:=s.st.next+ops.size } }):AWp P (.region id ops false) Q s:=by
 intro G a w b;refine wp_region ?_;have d:W6 G { s with st:={ s.st with next:=s.st.next+ops.size } } a w:=⟨b.defers,b.size,b.tmps,b.rel.next (bc _ _)⟩;refine B3 ?_ _ _ _ (h G a w d (fun j hj=>⟨by simpa using hj,b.rel.fresh _ (bc _ _)⟩) (ax _));rintro e a' w' ⟨rfl,s',G',c,f,g⟩;refine⟨s',G',⟨c.le,c.keeps,bC (bc _ _) c.next,?_⟩,f,g⟩;exact(Fr.less (σ:=s.st) (σ':={ s.st with next:=s.st.next+ops.size }) (fun _ _ h=>h)).trans c.fr
def uw0:List AV->Nat->Tr AV->Tr AV
 | [],_,t=>t
 | v::vs,i,t=>uw0 vs (i+1) (t.set i (some v))
theorem nz0:∀ (vs:List AV) (i:Nat) (t:Tr AV) (k:Nat),(uw0 vs i t).get k=if i<=k/\k<i+vs.length then vs[k-i]? else t.get k
 | [],i,t,k=>by simp[uw0];intro h1 h2;omega
 | v::vs,i,t,k=>by
  rw[uw0,nz0 vs (i+1) _ k,Tr.get_set];simp only[ay];by_cases e:k=i
  ·subst e
   rw[Ae (by omega),Af rfl,Af (by omega)];simp
  by_cases e2:i+1<=k/\k<i+1+vs.length
  ·rw[Af e2,Af (by omega)]
   obtain⟨m,hm⟩:∃ m,k-i=m+1:=⟨k-i-1,by omega⟩;rw[hm];simp;congr 1;omega
  rw[Ae e2,Ae e,Ae (by omega)]
def AS.enter(n:Nat)(args:List AV)(σ:j3):AS:={ n:=n,tr:=uw0 args 0 .leaf,st:=σ }
theorem AS.enter_get(n:Nat)(args:List AV)(σ:j3)(t:Nat):(AS.enter n args σ).get t=(args[t]?).getD (.sc undef):=by
 simp only[AS.get,AS.enter,nz0,Tr.get_leaf,cN,Aq,aG,iR];split
 ·rfl
 rw[bD (by omega)]
theorem W6.enter{G:j4}{args:List AV}{vs:List Value}{σ:j3}{w:World}(ha:B8 G args vs)(b:Rel G σ w)(n:Nat)(c:args.length<=n) :
  W6 G (AS.enter n args σ) { tmps:=vs.toArray++bn (n-vs.toArray.size) undef,defers:=[] } w:=by
 refine⟨rfl,by simp[AS.enter,ha.1];omega,fun t=>?_,b⟩;rw[AS.enter_get];by_cases a:t<args.length
 ·have h1:t<vs.length:=by rw[ha.1];exact a
  have:=ha.2 t a h1;simpa[a,h1,fJ]using this
 have h1:¬ t<vs.length:=by rw[ha.1];exact a
 have e:(vs.toArray++bn (n-vs.toArray.size) undef).getD t undef=undef:=by
  simp only[Array.getD_eq_getD_getElem?,fJ,List.size_toArray,Ae h1];by_cases h2:t-vs.length<n-vs.length
  ·simp[h2]
  simp[h2]
 rw[e,bD (by omega)];exact .sc _
theorem rr0{P:Program}{T:Tab}(hT:C0 P T){G:j4}{σ:j3}{w:World}(h:Rel G σ w){t:TypeId}{x v:AV}{u:Value}(q:Rep G x u)(ha:U3 T σ t x=some v) :
  ∃ y,(do loadVar t (<- asAddr u):Sem Value).run P w=.ok y w/\Rep G v y:=by
 cases q with
 | mp id' i j p hp=>
  simp only[U3]at ha;cases g:σ.objs id' with
  | none=>simp[g]at ha
  | some o=>
   cases o with
   | row elem size es=>
    simp only[g]at ha;cases he:es[i]? with
    | none=>simp[he]at ha
    | some cs=>
     simp only[he]at ha;cases c:T t with
     | none=>simp[c]at ha
     | some ti=>
      simp only[c]at ha;obtain⟨hi,d⟩:=ar.1 he;have hv:p.virt=false:=by
       rcases h.lies g hp with ⟨_,e,s,h2⟩ | ⟨h2,_⟩
       ·cases h2;simp at hi
       exact h2
      obtain⟨_,_,cells,r,hs,z,hle,l⟩:=h.real g hp hv;obtain⟨hlen,f⟩:=l i hi;rw[d]at hlen;have hbound:∀ k,k<cs.length->i*size+k<cells.size:=fun k hk=>by rw[z];have:(i+1)*size<=p.cap*size:=bq _ (by omega);rw[bI]at this;omega
      have:=Y4 hT c (P:=P) (G:=G) (w:=w) p.block (i*p.size) cs (fun k=>cells.getD (i*size+k) default) j
       (fun k hk=>by
        rw[cell_of_row w _ _ cells elem _ r,hs];have:=hbound k hk;simp[this]) (fun k hk=>by
        have n:=f k (by rw[d];exact hk) (hbound k hk);have:=hbound k hk;simp only[d]at n;simpa[this]using n) ha
      obtain⟨u,hu,m⟩:=this;exact⟨u,by simp only[asAddr,ao,au,ae,hu],m⟩
   | _=>simp[g]at ha
 | rp cs a val hs himm hrep=>
  simp only[U3]at ha;cases c:T t with
  | none=>simp[c]at ha
  | some ti=>simp only[c]at ha;obtain⟨b,o,s⟩:=a;simp at hs;subst hs;obtain⟨u,hu,m⟩:=Y4 hT c (P:=P) (G:=G) (w:=w) b o cs val 0 (fun k hk=>h.cell (himm k hk)) hrep ha;rw[cM]at hu;exact⟨u,by simp only[asAddr,ao,au,ae,hu],m⟩
 | _=>simp[U3]at ha
def lP0(T:Tab)(s:AS):ResultVar->Option AV
 | .tmp t=>some (s.get t)
 | .cell a t=>U3 T s.st t (s.get a)
def fd0(T:Tab)(s:AS):List ResultVar->Option (List AV)
 | []=>some []
 | r::rs=>match lP0 T s r,fd0 T s rs with
  | some v,some l=>some (v::l)
  | _,_=>none
def C8(T:Tab)(fn:Func)(s:AS):Option AV :=
 match fd0 T s fn.results.toList with
 | some [v]=>some v
 | some l=>some (.tup l)
 | none=>none
def qk0(tmps:Array Value):ResultVar->Sem Value
 | .tmp t=>pure (tmps.getD t undef)
 | .cell a t=>do loadVar t (<- asAddr (tmps.getD a undef))
theorem pw0(fn:Func)(tmps:Array Value):results fn tmps=(do
  let vs<-fn.results.mapM (qk0 tmps)
  pure (if h:vs.size=1 then vs[0]else .tuple vs)):=rfl
theorem oH0{P:Program}{T:Tab}(hT:C0 P T){G:j4}{s:AS}{a:Act}{w:World}(h:W6 G s a w):∀ {rs:List ResultVar} {l:List AV},fd0 T s rs=some l ->
  ∃ vs:List Value,(rs.mapM (qk0 a.tmps):Sem (List Value)).run P w=.ok vs w/\B8 G l vs
 | [],l,ha=>by simp[fd0]at ha;subst ha;exact⟨[],by simp,.nil G⟩
 | r::rs,l,ha=>by
  unfold fd0 at ha;split at ha
  ·rename_i v f h1 h2
   cases ha;obtain⟨vs,b,d⟩:=oH0 hT h h2;have:∃ y,(qk0 a.tmps r).run P w=.ok y w/\Rep G v y:=by
    cases r with
    | tmp t=>simp only[lP0,ah]at h1;subst h1;exact⟨_,rfl,h.tmps t⟩
    | cell x t=>exact rr0 hT h.rel (h.tmps x) h1
   obtain⟨y,e,c⟩:=this;refine⟨y::vs,?_,.cons c d⟩;simp only[kf,ao,e,ae,b,au]
  cases ha
theorem dY0{P:Program}{T:Tab}(hT:C0 P T){G:j4}{s:AS}{a:Act}{w:World}(h:W6 G s a w){fn:Func}{v:AV}(ha:C8 T fn s=some v) :
  ∃ y,(results fn a.tmps).run P w=.ok y w/\Rep G v y:=by
 unfold C8 at ha;have key:∀ l,fd0 T s fn.results.toList=some l->∃ vs:List Value,(results fn a.tmps).run P w=.ok (if h:vs.length=1 then vs[0]else .tuple vs.toArray) w/\B8 G l vs:=fun l hl=>by obtain⟨vs,b,d⟩:=oH0 (P:=P) hT h hl;refine⟨vs,?_,d⟩;rw[pw0,hJ];simp only[ao,kT,b,ae,au];congr 1
 split at ha
 ·rename_i i hl
  cases ha;obtain⟨vs,h1,h2⟩:=key _ hl;obtain⟨y,j,rfl,f,g⟩:=h2.cons_inv;rw[g.nil_inv]at h1;exact⟨y,by simpa using h1,f⟩
 ·rename_i l c hl
  cases ha;obtain⟨vs,h1,h2⟩:=key _ hl;have:vs.length≠1:=fun e=>by rw[h2.1]at e;obtain⟨x,rfl⟩:=iE.1 e;exact c x rfl
  rw[dif_neg this]at h1;exact⟨_,h1,.tup _ _ h2.1 h2.2⟩
 cases ha
theorem aJ0.of_body{P:Program}{T:Tab}(hT:C0 P T){f:FuncId}{fn:Func}{c:Code}{args:List AV}{σ:j3}{R:AV->j3->Prop}(hf:P.funcs[f]?=some fn)(j:fn.body=some c)(k:args.length<=fn.ntmps)
  (h:AWp P c (fun e s'=>(e=.normal\/e=.ret)/\∃ v,C8 T fn s'=some v/\R v s'.st) (AS.enter fn.ntmps args σ)):aJ0 P f args σ R:=by
 intro G vs w ha l;refine calls_of_wp hf j (wp_mono (h G _ w (W6.enter ha l fn.ntmps k)) ?_);rintro e a' w' ⟨s',G',d,a,hex,v,hv,g⟩;obtain⟨y,i,b⟩:=dY0 (P:=P) hT a hv;rcases hex with rfl | rfl
 ·exact⟨a.defers,y,i,y,v,s'.st,G',rfl,d,b,a.rel,g⟩
 exact⟨a.defers,y,i,y,v,s'.st,G',rfl,d,b,a.rel,g⟩
section
variable {P:Program} {ops:Array Oper} {n0:Nat} {Q:AS->Prop} {s:AS}
theorem Z6.plain2{T:Tab}(hT:C0 P T){i:Nat}{rest:List Nat}{o:Oper}{v:AV}{σ':j3}(k:ops[i]?=some o)(hi:i∉rest)(hw:D0 ops s o=some true)(l:P1 s.n o.dst=true)
  (ha:aop2 T s.eval s.st (n0+i) o.op=some (v,σ')) (m:σ'.next=s.st.next) (h:Z6 P ops n0 Q rest ({ s with st:=σ' }.put o.dst v)):Z6 P ops n0 Q (i::rest) s:=by
 intro G a w d hf K;have p:i<ops.size:=(aL.1 k).1;simp only[wpOps,k,K3 d hw,Al];left;obtain⟨G',u,w',h1,h2,c,q,r,f⟩:=uZ0 (P:=P) hT d.rel d.eval (hf i (by simp)).2 (by omega) ha;have g:∀ j∈rest,n0+j≠n0+i:=fun j hj e=>hi (by have t:j=i:=jh e;rw[<- t];exact hj);have key:=h G' (a.put o.dst u) w' (d.put h1 r q l) (fun j hj=>⟨(hf j (by simp[hj])).1,h2 _ (g j hj) (hf j (by simp[hj])).2⟩) (by simp;omega);have x:fA0 n0 G s.st w G' σ' w':=⟨h1,fun z B C=>h2 z (by omega) C,by omega,f⟩;have b:=B3 (P:=P) (ops:=ops) (Q':=fun e a' w'=>e=.normal/\∃ s' G',fA0 n0 G s.st w G' s'.st w'/\W6 G' s' a' w'/\Q s') (fun e a' w' ⟨e1,s',D,E,H,I⟩ =>
  ⟨e1,s',D,x.trans (by simpa using E) (ax _),H,I⟩) rest _ _ key
 unfold fO;rcases c with c | ⟨c,J⟩
 ·rw[c];exact b
 rw[c];subst J;exact b
end
inductive EX where
 | nor
 | exi (id:Nat)
 | ret
def EX.toExit:EX->Exit
 | .nor=>.normal
 | .exi id=>.exit id
 | .ret=>.ret
def dw0(T:Tab)(cl:FuncId->List AV->j3->Option (AV×j3))(ops:Array Oper)(n0:Nat):List Oper->Nat->AS->Option AS
 | [],_,s=>some s
 | o::rest,i,s=>
  match D0 ops s o,P1 s.n o.dst with
  | some false,true=>dw0 T cl ops n0 rest (i+1) (s.put o.dst (.sc undef))
  | some true,true=>
   match o.op with
   | .call { callee:=.value a,args:=args,argTypes:=_ }=>
    match s.eval a with
    | .fn (.func f) first cap=>match cl f (first++args.toList.map s.eval++cap) s.st with
     | some (v,σ')=>dw0 T cl ops n0 rest (i+1) ({ s with st:=σ' }.put o.dst v)
     | none=>none
    | _=>none
   | op=>match aop2 T s.eval s.st (n0+i) op with
    | some (v,σ')=>if σ'.next=s.st.next then dw0 T cl ops n0 rest (i+1) ({ s with st:=σ' }.put o.dst v)else none
    | none=>none
  | _,_=>none
abbrev ma0:=FuncId->Option (List AV->j3->Option (AV×j3))
def ab0(T:Tab)(F:FuncId->Option Func)(K:ma0)(ex:Code->AS->Option (EX×AS))(f:FuncId)(args:List AV)(σ:j3):Option (AV×j3) :=
 match (match K f with | some g=>g args σ | none=>none)with
 | some r=>some r
 | none=>
 match F f with
 | some fn=>match fn.body with
  | some c=>if args.length<=fn.ntmps/\(fn.name== "runtime.NumGoroutine")=false then
    match ex c (AS.enter fn.ntmps args σ)with
    | some (.nor,s') | some (.ret,s')=>match C8 T fn s' with
     | some v=>some (v,s'.st)
     | none=>none
    | _=>none else none
  | none=>none
 | none=>none
section
variable {P:Program} {T:Tab}
theorem eK0{cl:FuncId->List AV->j3->Option (AV×j3)}{ops:Array Oper}{n0:Nat}
  (b:∀ f args σ v σ',cl f args σ=some (v,σ')->B4 P f args σ (fun q c=>q=v/\c=σ')) (hT:C0 P T) :
  ∀ (l:List Oper) (i:Nat) (s s':AS),(∀ j:Nat,l[j]?=ops[i+j]?)->i+l.length=ops.size->dw0 T cl ops n0 l i s=some s'->Z6 P ops n0 (fun x=>x=s') (dx i l.length) s
 | [],i,s,s',_,_,h=>by simp only[dw0,ah]at h;exact Z6.nil h
 | o::rest,i,s,s',hl,hlen,h=>by
  have k:ops[i]?=some o:=by have:=hl 0;simpa using this.symm
  have d:∀ j:Nat,rest[j]?=ops[i+1+j]?:=fun j=>by have:=hl (j+1);simpa[dq,gr 1 j]using this
  have a:i+1+rest.length=ops.size:=by simp at hlen;omega
  have e:i∉dx (i+1) rest.length:=by simp[List.mem_range'_1];omega
  simp only[ay,List.range'_succ];unfold dw0 at h;split at h
  ·rename_i hw g
   exact Z6.skip k hw g (eK0 b hT rest (i+1) _ s' d a h)
  ·rename_i hw g
   split at h
   ·rename_i r args ts m
    split at h
    ·rename_i f first cap n
     split at h
     ·rename_i v σ' hc
      refine Z6.call k m hw g n (b _ _ _ _ _ hc) ?_;rintro q c ⟨rfl,rfl⟩;exact eK0 b hT rest (i+1) _ s' d a h
     cases h
    cases h
   split at h
   ·rename_i v σ' ha
    split at h
    ·rename_i p
     exact Z6.plain2 hT k e hw g ha p (eK0 b hT rest (i+1) _ s' d a h)
    cases h
   cases h
  cases h
end
def J1(σ σ':j3):Prop:=σ'.low<=σ.low/\∀ i,i<σ'.low->σ'.objs i=σ.objs i
theorem J1.refl(σ:j3):J1 σ σ:=⟨ax _,fun _ _=>rfl⟩
theorem J1.trans{a b c:j3}(h:J1 a b)(k:J1 b c):J1 a c:=⟨bC k.1 h.1,fun i hi=>(k.2 i hi).trans (h.2 i (dK hi k.1))⟩
theorem J1.set(σ:j3)(id:Nat)(o:l6):J1 σ (σ.set id o):=by refine⟨kh _ _,fun i hi=>?_⟩;have:i<id:=dK hi (jT _ _);rw[j3.objs_set,Ae (by omega)]
theorem J1.del(σ:j3)(id:Nat):J1 σ (σ.del id):=by refine⟨kh _ _,fun i hi=>?_⟩;have:i<id:=dK hi (jT _ _);rw[j3.objs_del,Ae (by omega)]
theorem jD0(σ:j3)(s:AV):(y5 σ s).next=σ.next/\J1 σ (y5 σ s):=by
 unfold y5;split
 ·split
  ·split
   ·exact⟨rfl,.set _ _ _⟩
   exact⟨rfl,.refl _⟩
  exact⟨rfl,.refl _⟩
 exact⟨rfl,.refl _⟩
theorem lM0{T:Tab}{σ σ':j3}{id:Nat}{sT xT:TypeId}{s x v:AV}(h:E4 T σ id sT xT s x=some (v,σ')):σ'.next=σ.next/\J1 σ σ':=by
 unfold E4 at h;split at h
 ·unfold dJ0 at h
  split at h
  ·split at h
   ·cases h;exact⟨rfl,.set _ _ _⟩
   cases h
  cases h
 obtain⟨e1,e2⟩:=jD0 σ s;unfold N8 at h;split at h
 ·split at h
  ·split at h
   ·split at h
    ·simp only[ah,cy]at h
     obtain⟨_,rfl⟩:=h;refine⟨?_,?_⟩
     ·split<;>exact e1
     split
     ·exact e2.trans (J1.trans (.del _ _) (.set _ _ _))
     exact e2.trans (.set _ _ _)
    cases h
   cases h
  cases h
 cases h
def isE:Op->Bool
 | .store .. | .mapUpdate .. | .insert .. | .mapEntry .. | .entryStore ..=>true
 | .call { callee:=.builtin .append,.. }=>true
 | _=>false
theorem gY0{T:Tab}{g:Operand->AV}{σ σ':j3}{id:Nat}{op:Op}{v:AV}(h:aop T g σ id op=some (v,σ')) :
  σ'.next=σ.next/\J1 σ σ'/\(isE op=false->σ'=σ\/∃ o,σ'=σ.set id o):=by
 have same:σ'=σ->σ'.next=σ.next/\J1 σ σ'/\(isE op=false->σ'=σ\/∃ o,σ'=σ.set id o):=fun e=>by subst e;exact⟨rfl,.refl _,fun _=>.inl rfl⟩
 have new:(∃ o,σ'=σ.set id o)->σ'.next=σ.next/\J1 σ σ'/\(isE op=false->σ'=σ\/∃ o,σ'=σ.set id o):=fun ⟨o,e⟩=>by subst e;exact⟨rfl,.set _ _ _,fun _=>.inr ⟨o,rfl⟩⟩
 cases op with
 | move x=>cases h;exact same rfl
 | assign x=>cases h;exact same rfl
 | pick c a b=>
  simp only[aop]at h;split at h
  ·cases h;exact same rfl
  cases h
 | build t ps=>
  simp only[aop]at h;split at h
  ·cases h;exact same rfl
  cases h
 | load t x=>
  simp only[aop]at h;split at h
  ·cases h;exact same rfl
  cases h
 | binOp b t x y yt=>
  simp only[aop]at h;split at h
  ·cases h;exact same rfl
  cases h
 | unOp b t x=>
  simp only[aop]at h;split at h
  ·cases h;exact same rfl
  cases h
 | convert s d x=>
  simp only[aop]at h;split at h
  ·cases h;exact same rfl
  cases h
 | slice t x lo hi mx=>
  simp only[aop]at h;split at h
  ·cases h;exact same rfl
  cases h
 | fieldAddr t x f=>
  simp only[aop]at h;split at h
  ·cases h;exact same rfl
  cases h
 | field t x f=>
  simp only[aop]at h;split at h
  ·cases h;exact same rfl
  cases h
 | indexAddr t x i=>
  simp only[aop]at h;split at h
  ·cases h;exact same rfl
  cases h
 | index t x i=>
  simp only[aop]at h;split at h
  ·cases h;exact same rfl
  cases h
 | lookup t x i ok=>
  simp only[aop]at h;split at h
  ·cases h;exact same rfl
  cases h
 | extract x i=>
  simp only[aop]at h;split at h
  ·cases h;exact same rfl
  cases h
 | alloc t=>
  simp only[aop,fD0]at h;split at h
  ·cases h;exact new ⟨_,rfl⟩
  cases h
 | box t x=>
  simp only[aop,tk0]at h;split at h
  ·cases h;exact new ⟨_,rfl⟩
  cases h
 | buildSlice t len ps=>
  simp only[aop,F9]at h;split at h
  ·split at h
   ·split at h
    ·split at h
     ·cases h;exact new ⟨_,rfl⟩
     cases h
    cases h
   cases h
  cases h
 | nilCheck x=>
  simp only[aop]at h;split at h
  ·cases h;exact same rfl
  ·cases h;exact same rfl
  ·cases h;exact same rfl
  cases h
 | makeFunc f a c=>cases h;exact same rfl
 | makeMap t r=>
  cases r with
  | some r=>simp[aop]at h
  | none=>cases h;exact new ⟨_,rfl⟩
 | store t a x=>
  simp only[aop]at h;split at h
  ·rename_i σ1 hs
   cases h;refine⟨?_,?_,fun e=>by simp[isE]at e⟩
   all_goals
    unfold U7 at hs;split at hs
    ·split at hs
     ·split at hs
      ·split at hs
       ·cases hs;first | rfl | exact .set _ _ _
       cases hs
      cases hs
     cases hs
    cases hs
  cases h
 | mapEntry t m k=>
  simp only[aop]at h;refine⟨?_,?_,fun e=>by simp[isE]at e⟩
  all_goals
   unfold N4 at h;split at h
   ·split at h
    ·split at h
     ·split at h
      ·split at h
       ·cases h;first | rfl | exact .set _ _ _
       split at h
       ·split at h
        ·cases h;first | rfl | exact .refl _
        cases h;first | rfl | exact .set _ _ _
       cases h
      cases h
     cases h
    cases h
   cases h
 | entryStore t m s x=>
  simp only[aop]at h;split at h
  ·rename_i σ1 hs
   cases h;refine⟨?_,?_,fun e=>by simp[isE]at e⟩
   all_goals
    unfold G9 at hs;split at hs
    ·split at hs
     ·split at hs
      ·cases hs;first | rfl | exact .set _ _ _
      cases hs
     cases hs
    cases hs
  cases h
 | mapUpdate t m k x=>
  simp only[aop]at h;split at h
  ·rename_i σ1 hs
   cases h;refine⟨?_,?_,fun e=>by simp[isE]at e⟩
   all_goals
    unfold C1 at hs;split at hs
    ·split at hs
     ·split at hs
      ·split at hs
       ·cases hs;first | rfl | exact .set _ _ _
       split at hs
       ·cases hs;first | rfl | exact .set _ _ _
       cases hs
      cases hs
     cases hs
    cases hs
  cases h
 | insert t m k x=>
  simp only[aop]at h;split at h
  ·rename_i σ1 hs
   cases h;refine⟨?_,?_,fun e=>by simp[isE]at e⟩
   all_goals
    unfold C1 at hs;split at hs
    ·split at hs
     ·split at hs
      ·split at hs
       ·cases hs;first | rfl | exact .set _ _ _
       split at hs
       ·cases hs;first | rfl | exact .set _ _ _
       cases hs
      cases hs
     cases hs
    cases hs
  cases h
 | call c=>
  obtain⟨callee,args,ts⟩:=c;cases callee with
  | value f=>simp[aop]at h
  | invoke r m=>simp[aop]at h
  | builtin b=>
   simp only[aop]at h;unfold F2 at h;split at h
   ·split at h
    ·cases h;exact same rfl
    cases h
   ·have:=lM0 h
    exact⟨this.1,this.2,fun e=>by simp[isE]at e⟩
   ·split at h
    ·cases h;exact same rfl
    cases h
   ·split at h
    ·cases h;exact same rfl
    cases h
   ·split at h
    ·cases h;exact same rfl
    cases h
   cases h
 | _=>simp[aop]at h
section
variable {T:Tab} {F:FuncId->Option Func}
theorem tl0{T:Tab}{a:Operand->AV}{σ σ':j3}{id:Nat}{op:Op}{v:AV}(h:aop2 T a σ id op=some (v,σ')):J1 σ σ':=by
 unfold aop2 at h;split at h
 ·unfold nu0 at h
  split at h
  ·split at h
   ·cases h;exact .set _ _ _
   cases h
  cases h
 ·unfold sN0 at h
  split at h
  ·split at h
   ·split at h
    ·split at h
     ·cases h
     split at h
     ·cases h;exact .refl _
     ·split at h
      ·cases h;exact .set _ _ _
      cases h
     cases h
    cases h
   cases h
  cases h
 ·split at h
  ·cases h;exact .refl _
  cases h
 ·split at h
  ·rename_i hs
   cases h;unfold jN0 at hs;split at hs
   ·split at hs
    ·split at hs
     ·split at hs
      ·cases hs
       split
       ·exact .set _ _ _
       exact .refl _
      cases hs
     cases hs
    cases hs
   cases hs
  cases h
 ·split at h
  ·rename_i hs
   cases h;unfold nQ0 at hs;split at hs
   ·split at hs
    ·split at hs
     ·split at hs
      ·cases hs;exact .set _ _ _
      cases hs
     cases hs
    cases hs
   cases hs
  cases h
 exact(gY0 h).2.1
theorem de0{cl:FuncId->List AV->j3->Option (AV×j3)}(a:∀ f args σ v σ',cl f args σ=some (v,σ')->J1 σ σ'){ops:Array Oper}{n0:Nat} :
  ∀ (l:List Oper) (i:Nat) (s s':AS),dw0 T cl ops n0 l i s=some s'->J1 s.st s'.st
 | [],i,s,s',h=>by simp only[dw0,ah]at h;rw[h];exact .refl _
 | o::rest,i,s,s',h=>by
  unfold dw0 at h;split at h
  ·have:=de0 a rest _ _ _ h;simpa using this
  ·split at h
   ·split at h
    ·split at h
     ·rename_i v σ' hc
      have:=de0 a rest _ _ _ h;exact(a _ _ _ _ _ hc).trans (by simpa using this)
     cases h
    cases h
   split at h
   ·rename_i v σ' ha
    split at h
    ·have:=de0 a rest _ _ _ h
     exact(tl0 ha).trans (by simpa using this)
    cases h
   cases h
  cases h
end
def fold{L V:Type}(p:Nat->Bool):List (L->Option V)->Nat->(L->V)->(L->V)
 | [],_,f=>f
 | u::us,i,f=>fold p us (i+1) (fun l=>cond (p i) ((u l).getD (f l)) (f l))
theorem M1{L V:Type}{p q:Nat->Bool}(l:L):∀ (us:List (L->Option V)) (i:Nat) (f g:L->V),f l=g l->(∀ (j:Nat) u,us[j]?=some u->p (i+j)≠q (i+j)->u l=none) ->
  fold p us i f l=fold q us i g l
 | [],_,f,g,h,_=>h
 | u::us,i,f,g,h,hu=>by
  simp only[fold];refine M1 l us (i+1) _ _ ?_ (fun j a h1 h2=>hu (j+1) a (by simpa using h1) (by rw[show i+(j+1)=i+1+j from by omega];exact h2));by_cases e:p i=q i
  ·rw[e,h]
  have:=hu 0 u rfl (by simpa using e);rw[this,h];cases p i<;>cases q i<;>rfl
theorem fold_congr{L V:Type}{p q:Nat->Bool}:∀ (us:List (L->Option V)) (i:Nat) (f:L->V),(∀ j,i<=j->p j=q j)->fold p us i f=fold q us i f
 | [],_,_,_=>rfl
 | u::us,i,f,h=>by simp only[fold,h i (ax _)];exact fold_congr us (i+1) _ (fun j hj=>h j (by omega))
theorem ay0{L V:Type}{p:Nat->Bool}(l:L):∀ (us:List (L->Option V)) (i:Nat) (f:L->V) (v:V),(∀ (j:Nat) u,us[j]?=some u->p (i+j)=true->u l=none)->f l=v->fold p us i f l=v
 | [],_,f,v,_,h=>h
 | u::us,i,f,v,hu,h=>by
  simp only[fold];refine ay0 l us (i+1) _ v (fun j a h1 h2=>hu (j+1) a (by simpa using h1) (by rw[show i+(j+1)=i+1+j from by omega];exact h2)) ?_;cases e:p i with
  | true=>rw[hu 0 u rfl (by simpa using e),h];rfl
  | false=>exact h
theorem gt0{L V:Type}{p:Nat->Bool}(l:L){u0:L->Option V}:∀ (us:List (L->Option V)) (i k:Nat) (f:L->V),us[k]?=some u0->p (i+k)=false ->
  (∀ (j:Nat) u,us[j]?=some u->k<j->p (i+j)=true->u0 l≠none->u l=none) ->
  fold (fun j=>j==i+k||p j) us i f l=(u0 l).getD (fold p us i f l)
 | [],i,k,f,h,_,_=>by simp at h
 | u::us,i,0,f,h,hp,hu=>by
  simp only[cq,ah]at h;subst h;simp only[cM]at hp;have c:∀ j,i+1<=j->(j==i+0||p j)=p j:=fun j hj=>by
   have:(j==i+0)=false:=by simp;omega
   rw[this];rfl
  have hi:(i==i+0||p i)=true:=by simp
  simp only[fold];rw[fold_congr us (i+1) _ c,hi,hp];simp only[Ac,Aa];cases a:u l with
  | none=>simp only[gT];exact M1 l us (i+1) _ _ (by simp[a]) (fun j b _ h2=>Am rfl h2)
  | some v=>simp only[bS];exact ay0 l us (i+1) _ v (fun j b h1 h2=>hu (j+1) b (by simpa using h1) (by omega) (by rw[show i+(j+1)=i+1+j from by omega];exact h2) (by simp[a])) (by simp[a])
 | u::us,i,k+1,f,h,hp,hu=>by
  have e:(i==i+(k+1)||p i)=p i:=by
   have:(i==i+(k+1))=false:=by simp
   rw[this];rfl
  simp only[fold];rw[e];have:=gt0 (p:=p) l us (i+1) k (fun l=>cond (p i) ((u l).getD (f l)) (f l)) (by simpa using h) (by rw[show i+1+k=i+(k+1)from by omega];exact hp)
   (fun j b h1 h2 d g=>hu (j+1) b (by simpa using h1) (by omega) (by rw[show i+(j+1)=i+1+j from by omega];exact d) g)
  rw[show i+1+k=i+(k+1)from by omega]at this;exact this
theorem fI0(ob:Nat->Option l6):∀ nx,(∀ i,nx<=i->ob i=none)->∃ σ:j3,σ.next=nx/\∀ i,σ.objs i=ob i:=by
 have key:∀ n (m:Nat),∃ σ:j3,σ.next=m/\∀ i,σ.objs i=if i<n then ob i else none:=by
  intro n m
  induction n with
  | zero=>exact⟨{ next:=m,tr:=.leaf },rfl,fun i=>by simp[j3.objs,Tr.get_leaf]⟩
  | succ n b=>
   obtain⟨σ,h1,h2⟩:=b;cases a:ob n with
   | some o=>
    refine⟨σ.set n o,h1,fun i=>?_⟩;rw[j3.objs_set,h2];by_cases e:i=n
    ·subst e;simp[a]
    rw[Ae e];by_cases e2:i<n
    ·rw[Af e2,Af (by omega)]
    rw[Ae e2,Ae (by omega)]
   | none=>
    refine⟨σ,h1,fun i=>?_⟩;rw[h2];by_cases e:i=n
    ·subst e;simp[a]
    by_cases e2:i<n
    ·rw[Af e2,Af (by omega)]
    rw[Ae e2,Ae (by omega)]
 intro nx h;obtain⟨σ,h1,h2⟩:=key nx nx;refine⟨σ,h1,fun i=>?_⟩;rw[h2];split
 ·rfl
 rw[h i (by omega)]
theorem Rel.objs_lt{G:j4}{σ:j3}{w:World}(h:Rel G σ w){i:Nat}{o:l6}(a:σ.objs i=some o):i<σ.next:=by obtain⟨p,hp,_⟩:=h.objs i o a;exact h.id_lt hp
theorem Rel.frame{G G':j4}{σ σv σv' σ':j3}{w w':World}(c:Rel G σ w)(h:∀ id o,σv.objs id=some o->σ.objs id=some o)(d:Rel G' σv' w')(f:Fr G σv w G' σv' w')(hle:G.le G')
  (l:∀ id,σ'.next<=id->G'.pl id=none) (m:∀ id o,σ'.objs id=some o->σv'.objs id=some o\/(σ.objs id=some o/\σv.objs id=none)):Rel G' σ' w':=by
 have hs:=f.size;have e:∀ id o p,σ.objs id=some o->σv.objs id=none->G.pl id=some p->p.virt=false->∀ id0 o0 p0,σv.objs id0=some o0->G.pl id0=some p0->p0.virt=false->p0.block≠p.block :=fun id o p h1 h2 r s id0 o0 p0 g1 g2 g3 g4=>by have:=c.sep id0 id o0 o p0 p (h _ _ g1) h1 g2 r g3 s g4;rw[this,h2]at g1;cases g1
 refine⟨d.os,d.tape,d.output,d.size,d.imm,l,fun id o E=>?_,fun i j oi oj pi pj h1 h2 r s v1 v2 u=>?_,d.glob⟩
 ·rcases m id o E with h1 | ⟨h1,h2⟩
  ·exact d.objs id o h1
  obtain⟨p,hp,hl⟩:=c.objs id o h1;refine⟨p,hle.pl _ _ hp,?_⟩;rcases hl with hl | ⟨hv,v,z,B⟩
  ·exact .inl hl
  refine .inr ⟨hv,?_,by rw[hle.w0];exact z,?_⟩
  ·cases H:G'.imm p.block with
   | none=>rfl
   | some x=>
    rcases f.imm _ _ H with g | g | ⟨id0,o0,p0,g1,g2,g3,g4⟩
    ·rw[v]at g;cases g
    ·have:=c.obj_lt h1 hp hv;omega
    exact Am g4 (e id o p h1 h2 hp hv id0 o0 p0 g1 g2 g3)
  rw[f.same p.block (c.obj_lt h1 hp hv) (fun id0 o0 p0 g1 g2 g3=>e id o p h1 h2 hp hv id0 o0 p0 g1 g2 g3)];exact B.mono hle
 have n:∀ k x,σ.objs k=some x->∀ q,G'.pl k=some q->G.pl k=some q:=fun k x I q J=>by obtain⟨O,t,_⟩:=c.objs k x I;have:=hle.pl _ _ t;rw[J]at this;cases this;exact t
 have cross:∀ i j oi oj pi pj,σv'.objs i=some oi->σ.objs j=some oj->σv.objs j=none->G'.pl i=some pi->G'.pl j=some pj->pi.virt=false->pj.virt=false->pi.block≠pj.block:=by intro i j oi oj pi pj K a2 a3 a4 a5 M C P;have D:=n j oj a2 pj a5;have N:=c.obj_lt a2 D C;obtain⟨id0,o0,p0,g1,g2,g3,g4⟩:=f.live i oi pi K a4 M (by omega);exact e j oj pj a2 a3 D C id0 o0 p0 g1 g2 g3 (by omega)
 rcases m i oi h1 with a | ⟨a,a'⟩<;>rcases m j oj h2 with b | ⟨b,b'⟩
 ·exact d.sep i j oi oj pi pj a b r s v1 v2 u
 ·exact Am u (cross i j oi oj pi pj a b b' r s v1 v2)
 ·exact Am u.symm (cross j i oj oi pj pi b a a' s r v2 v1)
 exact c.sep i j oi oj pi pj a b (n i oi a pi r) (n j oj b pj s) v1 v2 u
theorem Fr.frame{G G':j4}{σ σv σv' σ':j3}{w w':World}(e:Rel G σ w)(c:∀ id o,σv.objs id=some o->σ.objs id=some o)(d:Fr G σv w G' σv' w')(hle:G.le G')
  (h:∀ id o,σ'.objs id=some o->σv'.objs id=some o\/(σ.objs id=some o/\σv.objs id=none)):Fr G σ w G' σ' w':=by
 refine⟨d.size,fun b i k=>d.same b i (fun id o p h1 h2 f=>k id o p (c _ _ h1) h2 f),fun id o p h1 h2 f l=>?_,fun b o i=>?_,d.drawn⟩
 ·rcases h id o h1 with a | ⟨a,_⟩
  ·obtain⟨id0,o0,p0,g1,g2,g3,g4⟩:=d.live id o p a h2 f l
   exact⟨id0,o0,p0,c _ _ g1,g2,g3,g4⟩
  obtain⟨q,j,_⟩:=e.objs id o a;have:=hle.pl _ _ j;rw[h2]at this;cases this;exact⟨id,o,p,a,j,f,rfl⟩
 rcases d.imm b o i with g | g | ⟨id0,o0,p0,g1,g2,g3,g4⟩
 ·exact .inl g
 ·exact .inr (.inl g)
 exact .inr (.inr ⟨id0,o0,p0,c _ _ g1,g2,g3,g4⟩)
def Q7(tm:Nat->AV):Operand->AV
 | .tmp t=>tm t
 | .const v=>.ofValue v
 | .global g=>.sc (.pointer (some ⟨g,0,none⟩))
 | .func f=>.fn (.func f) [] []
theorem AS.eval_eq(s:AS)(x:Operand):s.eval x=Q7 s.get x:=by cases x<;>rfl
structure tt0(G:j4)(n:Nat)(tm:Nat->AV)(σ:j3)(a:Act)(w:World):Prop where
 defers:a.defers=[]
 size:a.tmps.size=n
 tmps:∀ t,Rep G (tm t) (a.tmps.getD t undef)
 rel:Rel G σ w
theorem tt0.eval{G:j4}{n:Nat}{tm:Nat->AV}{σ:j3}{a:Act}{w:World}(h:tt0 G n tm σ a w)(x:Operand):Rep G (Q7 tm x) (a.eval x):=by
 cases x with
 | tmp t=>exact h.tmps t
 | const v=>exact Rep.ofValue G v
 | global g=>exact .sc _
 | func f=>exact .fn _ [] [] [] [] rfl rfl (fun i h=>by simp at h) (fun i h=>by simp at h)
def my0(d:Option Tmp)(v:AV):Nat->Option AV:=fun t=>if d=some t then some v else none
theorem tt0.put{G G':j4}{n:Nat}{tm:Nat->AV}{σ σ':j3}{a:Act}{w w':World}(h:tt0 G n tm σ a w)(b:G.le G')(c:Rel G' σ' w'){v:AV}{u:Value}(hv:Rep G' v u){d:Option Tmp}(f:P1 n d=true) :
  tt0 G' n (fun t=>(my0 d v t).getD (tm t)) σ' (a.put d u) w':=by
 cases d with
 | none=>exact⟨h.defers,h.size,fun t=>(h.tmps t).mono b,c⟩
 | some d=>
  refine⟨h.defers,by simp[kg,h.size],fun t=>?_,c⟩;simp only[P1,Ad]at f;simp only[kg,my0];by_cases e:d=t
  ·subst e
   simp[h.size,f];exact hv
  have:(a.tmps.setIfInBounds d u).getD t undef=a.tmps.getD t undef:=by simp[bY,e]
  rw[this];simp[e];simpa using(h.tmps t).mono b
def ai0(ops:Array Oper)(n:Nat)(tm:Nat->AV)(o:Oper):Option Bool :=
 match o.guard with
 | none=>some true
 | some (j,want)=>match (ops[j]?).bind (·.dst)with
  | some d=>if d<n then
    match tm d with
    | .sc (.bool b)=>some (b==want)
    | .sc (.tuple _)=>some false
    | _=>none else none
  | none=>none
theorem W9{ops:Array Oper}{n:Nat}{tm a:Nat->AV}{o:Oper}(h:∀ t∈o.looksAt ops,tm t=a t):ai0 ops n tm o=ai0 ops n a o:=by
 unfold ai0;cases b:o.guard with
 | none=>rfl
 | some q=>
  obtain⟨j,want⟩:=q;simp only[];cases c:(ops[j]?).bind (·.dst)with
  | none=>rfl
  | some d=>have:=h d (by unfold kF;rw[b];simp[c]);simp only[this]
theorem bV0{ops:Array Oper}{n:Nat}{tm:Nat->AV}{o:Oper}{b:Bool}{G:j4}{σ:j3}{a:Act}{w:World}(h:tt0 G n tm σ a w)(ha:ai0 ops n tm o=some b):de o (yielded ops a.tmps)=b:=by
 unfold ai0 at ha;unfold de;split at ha
 ·rename_i e;cases ha;simp[e]
 rename_i j want e;simp only[e];split at ha
 ·rename_i d i
  split at ha
  ·rename_i f
   have c:=h.tmps d;have L2:a.tmps[d]?=some (a.tmps.getD d undef):=by simp[h.size,f]
   simp only[yielded,i,jg,L2];split at ha
   ·rename_i b' g
    cases ha;rw[g]at c;generalize a.tmps.getD d undef=u at c;cases c;cases b'<;>cases want<;>rfl
   ·rename_i g
    cases ha;rw[g]at c;generalize a.tmps.getD d undef=u at c;cases c;cases want<;>rfl
   cases ha
  cases ha
 cases ha
theorem dP0{ops:Array Oper}{tm a:Nat->AV}{o:Oper}(h:∀ t∈o.looksAt ops,tm t=a t):∀ x∈o.op.operands,Q7 tm x=Q7 a x:=by
 intro x b;cases x with
 | tmp t=>exact h t (by unfold kF;exact List.mem_append_left _ (dy.2 ⟨.tmp t,by simpa using b,rfl⟩))
 | _=>rfl
theorem bG0{b a:Operand->AV}{l:Array Operand}(h:∀ x∈l,b x=a x):l.toList.map b=l.toList.map a:=bo fun x c=>h x (by simpa using c)
theorem rS0{T:Tab}{q g:Operand->AV}{σ:j3}{id:Nat}{op:Op}(h:∀ x∈op.operands,q x=g x):aop T q σ id op=aop T g σ id op:=by
 have j:∀ ps:Array (Nat×Operand),(∀ x∈(ps.toList.map (·.2)),q x=g x)->(ps.toList.map fun (p:Nat×Operand)=>(p.1,q p.2))=(ps.toList.map fun (p:Nat×Operand)=>(p.1,g p.2)):=fun ps hp=>bo fun p hm=>by rw[hp p.2 (aM.2 ⟨p,hm,rfl⟩)]
 cases op with
 | move x=>simp only[aop];rw[h x (by simp[aI])]
 | assign x=>simp only[aop];rw[h x (by simp[aI])]
 | pick c a b=>simp only[aop];rw[h c (by simp[aI]),h a (by simp[aI]),h b (by simp[aI])]
 | alloc t=>rfl
 | box t x=>simp only[aop];rw[h x (by simp[aI])]
 | build t ps=>simp only[aop];rw[j ps (fun x n=>h x (by simpa[aI]using n))]
 | buildSlice t len ps=>simp only[aop];rw[j ps (fun x n=>h x (by simpa[aI]using n))]
 | load t x=>simp only[aop];rw[h x (by simp[aI])]
 | store t a x=>simp only[aop];rw[h a (by simp[aI]),h x (by simp[aI])]
 | nilCheck x=>simp only[aop];rw[h x (by simp[aI])]
 | binOp b t x y yt=>simp only[aop];rw[h x (by simp[aI]),h y (by simp[aI])]
 | unOp b t x=>simp only[aop];rw[h x (by simp[aI])]
 | convert s d x=>simp only[aop];rw[h x (by simp[aI])]
 | makeFunc f a c=>simp only[aop];rw[bG0 (l:=a) (fun x n=>h x (by simp[aI,n])),bG0 (l:=c) (fun x n=>h x (by simp[aI,n]))]
 | makeMap t r=>cases r<;>rfl
 | slice t x lo hi mx=>
  simp only[aop];rw[h x (by simp[aI])];have e:∀ o:Option Operand,(∀ y,o=some y->q y=g y)->o.map q=o.map g:=fun o v=>by cases o with
   | none=>rfl
   | some y=>simp[v y rfl]
  rw[e lo (fun y u=>h y (by simp[aI,u])),e hi (fun y u=>h y (by simp[aI,u])),e mx (fun y u=>h y (by simp[aI,u]))]
 | fieldAddr t x f=>simp only[aop];rw[h x (by simp[aI])]
 | field t x f=>simp only[aop];rw[h x (by simp[aI])]
 | indexAddr t x i=>simp only[aop];rw[h x (by simp[aI]),h i (by simp[aI])]
 | index t x i=>simp only[aop];rw[h x (by simp[aI]),h i (by simp[aI])]
 | lookup t x i ok=>simp only[aop];rw[h x (by simp[aI]),h i (by simp[aI])]
 | mapUpdate t m k x=>simp only[aop];rw[h m (by simp[aI]),h k (by simp[aI]),h x (by simp[aI])]
 | insert t m k x=>simp only[aop];rw[h m (by simp[aI]),h k (by simp[aI]),h x (by simp[aI])]
 | mapEntry t m k=>simp only[aop];rw[h m (by simp[aI]),h k (by simp[aI])]
 | entryStore t m s x=>simp only[aop];rw[h m (by simp[aI]),h s (by simp[aI]),h x (by simp[aI])]
 | extract x i=>simp only[aop];rw[h x (by simp[aI])]
 | call c=>
  obtain⟨callee,args,ts⟩:=c;cases callee with
  | builtin b=>simp only[aop];rw[bG0 (l:=args) (fun x n=>h x (by simp[aI,fB,n]))]
  | value f=>rfl
  | invoke r m=>rfl
 | _=>rfl
def AV.ids0:AV->List Nat
 | .ms id _ _ _=>[id]
 | .mp id _ _=>[id]
 | .mm id=>[id]
 | .ss id _ _=>[id]
 | .xp id _ _=>[id]
 | _=>[]
def bQ0(b:Operand->AV):Op->List Nat
 | .load _ x=>(b x).ids0
 | .store _ a _=>(b a).ids0
 | .lookup _ x _ _=>(b x).ids0
 | .mapUpdate _ m _ _=>(b m).ids0
 | .insert _ m _ _=>(b m).ids0
 | .mapEntry _ m _=>(b m).ids0
 | .entryStore _ m _ _=>(b m).ids0
 | .call { callee:=.builtin _,args:=args,.. }=>(args.toList.map fun x=>(b x).ids0).flatten
 | _=>[]
def cL0(σ:j3):List Nat->j3->j3
 | [],t=>t
 | i::is,t=>cL0 σ is (match σ.objs i with | some o=>t.set i o | none=>t)
def small(σ:j3)(ids:List Nat):j3:=cL0 σ ids { next:=σ.next,tr:=.leaf }
theorem fG0(σ:j3):∀ (is:List Nat) (t:j3) (k:Nat),(∀ o,t.objs k=some o->σ.objs k=some o)->(cL0 σ is t).objs k=if k∈is then σ.objs k else t.objs k
 | [],t,k,_=>by simp[cL0]
 | i::is,t,k,h=>by
  simp only[cL0];have h':∀ o,(match σ.objs i with | some o=>t.set i o | none=>t).objs k=some o->σ.objs k=some o:=fun o a=>by
   cases hi:σ.objs i with
   | none=>rw[hi]at a;exact h o a
   | some x=>
    rw[hi]at a;simp only[j3.objs_set]at a;split at a
    ·rename_i e;subst e;rw[hi];exact a
    exact h o a
  rw[fG0 σ is _ k h'];by_cases e:k∈is
  ·simp[e]
  rw[Ae e];by_cases e2:k=i
  ·subst e2
   rw[Af (by simp)];cases hi:σ.objs k with
   | none=>
    simp only;cases b:t.objs k with
    | none=>rfl
    | some o=>have:=h o b;rw[hi]at this;cases this
   | some x=>simp[j3.objs_set]
  rw[Ae (by simp[e,e2])];cases hi:σ.objs i with
  | none=>rfl
  | some x=>simp[j3.objs_set,e2]
theorem dd0(σ:j3)(ids:List Nat)(k:Nat):(small σ ids).objs k=if k∈ids then σ.objs k else none:=by unfold small;rw[fG0 σ ids _ k (fun o a=>by simp[j3.objs,Tr.get_leaf]at a)];simp[j3.objs,Tr.get_leaf]
theorem gl0{T:Tab}{σ σ':j3}{m:Nat}{t:TypeId}{x k v:AV}(hs:N4 T σ t x k=some (v,σ')):N4 T { σ with next:=m } t x k=some (v,{ σ' with next:=m }):=by
 unfold N4 at hs ⊢;have e:∀ k,({ σ with next:=m }:j3).objs k=σ.objs k:=fun _=>rfl;split at hs
 ·rename_i h1 h2
  try simp only[h1,h2]
  split at hs
  ·rename_i c
   try simp only[c]
   split at hs
   ·simp only[e]
    split at hs
    ·rename_i d
     try simp only[d]
     split at hs
     ·rename_i a;cases hs;rw[Af a];rfl
     rename_i a;rw[Ae a];split at hs
     ·rename_i f
      rw[Af f];split at hs
      ·rename_i b;cases hs;(try simp only[b])
      rename_i b;cases hs;(try simp only[b]);rfl
     cases hs
    cases hs
   cases hs
  cases hs
 cases hs
theorem eC0{σ σ':j3}{m:Nat}{x k v:AV}(hs:G9 σ x k v=some σ'):G9 { σ with next:=m } x k v=some { σ' with next:=m }:=by
 unfold G9 at hs ⊢;have e:∀ k,({ σ with next:=m }:j3).objs k=σ.objs k:=fun _=>rfl;split at hs
 ·simp only[e]
  split at hs
  ·rename_i a
   try simp only[a]
   split at hs
   ·rename_i b;cases hs;(try simp only[b]);rfl
   cases hs
  cases hs
 cases hs
theorem bI0{T:Tab}{σ σ':j3}{m:Nat}{t:TypeId}{x k y:AV}(hs:C1 T σ t x k y=some σ'):C1 T { σ with next:=m } t x k y=some { σ' with next:=m }:=by
 unfold C1 at hs ⊢;split at hs
 ·rename_i h1 h2
  try simp only[h1,h2]
  split at hs
  ·have e:∀ k,({ σ with next:=m }:j3).objs k=σ.objs k:=fun _=>rfl
   simp only[e];split at hs
   ·rename_i b
    try simp only[b]
    split at hs
    ·rename_i a;cases hs;rw[Af a];rfl
    rename_i a;rw[Ae a];split at hs
    ·rename_i c;cases hs;rw[Af c];rfl
    cases hs
   cases hs
  cases hs
 cases hs
theorem iw0{T:Tab}{σ σ':j3}{id m:Nat}{sT xT:TypeId}{s x v:AV}(h:N8 T σ id sT xT s x=some (v,σ')):N8 T { σ with next:=m } id sT xT s x=some (v,{ σ' with next:=m }):=by
 unfold N8 at h ⊢;split at h
 ·rename_i h1 h2
  try simp only[h1,h2]
  split at h
  ·rename_i a
   try simp only[a]
   have e1:∀ e z y,R8 { σ with next:=m } e z y=R8 σ e z y:=fun _ _ _=>rfl;have e2:∀ y,P6 { σ with next:=m } y=P6 σ y:=fun _=>rfl;simp only[e1,e2];split at h
   ·rename_i b c
    try simp only[b,c]
    split at h
    ·rename_i d
     simp only[ah,cy]at h;obtain⟨rfl,rfl⟩:=h;rw[Af d];simp only[ah,cy,Aq];split<;>rfl
    cases h
   cases h
  cases h
 cases h
theorem gg0(σ:j3)(m:Nat)(s:AV):y5 { σ with next:=m } s={ y5 σ s with next:=m }:=by
 unfold y5;split
 ·rename_i id z len
  have e:({ σ with next:=m }:j3).objs id=σ.objs id:=rfl;rw[e];split
  ·split<;>rfl
  rfl
 rfl
theorem gX0{T:Tab}{σ σ':j3}{id m:Nat}{sT xT:TypeId}{s x v:AV}(h:E4 T σ id sT xT s x=some (v,σ')):E4 T { σ with next:=m } id sT xT s x=some (v,{ σ' with next:=m }):=by
 unfold E4 at h ⊢;split at h
 ·unfold dJ0 at h ⊢
  split at h
  ·split at h
   ·rename_i a
    rw[Af a];cases h;rfl
   cases h
  cases h
 rename_i b;rw[gg0];exact iw0 (m:=m) h
theorem oP0{T:Tab}{g:Operand->AV}{σ σ':j3}{id m:Nat}{op:Op}{v:AV}(h:aop T g σ id op=some (v,σ')):aop T g { σ with next:=m } id op=some (v,{ σ' with next:=m }):=by
 cases op with
 | move x=>cases h;rfl
 | assign x=>cases h;rfl
 | pick c a b=>
  simp only[aop]at h ⊢;split at h
  ·rename_i hv;cases h;first | rfl | simp only[hv]
  cases h
 | build t ps=>
  simp only[aop]at h ⊢;split at h
  ·rename_i hv;cases h;first | rfl | simp only[hv]
  cases h
 | binOp b t x y yt=>
  simp only[aop]at h ⊢;split at h
  ·rename_i hv;cases h;first | rfl | simp only[hv]
  cases h
 | unOp b t x=>
  simp only[aop]at h ⊢;split at h
  ·rename_i hv;cases h;first | rfl | simp only[hv]
  cases h
 | convert s d x=>
  simp only[aop]at h ⊢;split at h
  ·rename_i hv;cases h;first | rfl | simp only[hv]
  cases h
 | slice t x lo hi mx=>
  simp only[aop]at h ⊢;split at h
  ·rename_i hv;cases h;first | rfl | simp only[hv]
  cases h
 | fieldAddr t x f=>
  simp only[aop]at h ⊢;split at h
  ·rename_i hv;cases h;first | rfl | simp only[hv]
  cases h
 | field t x f=>
  simp only[aop]at h ⊢;split at h
  ·rename_i hv;cases h;first | rfl | simp only[hv]
  cases h
 | indexAddr t x i=>
  simp only[aop]at h ⊢;split at h
  ·rename_i hv;cases h;first | rfl | simp only[hv]
  cases h
 | index t x i=>
  simp only[aop]at h ⊢;split at h
  ·rename_i hv;cases h;first | rfl | simp only[hv]
  cases h
 | extract x i=>
  simp only[aop]at h ⊢;split at h
  ·rename_i hv;cases h;first | rfl | simp only[hv]
  cases h
 | load t x=>
  simp only[aop]at h ⊢;have e:aD0 T { σ with next:=m } t (g x)=aD0 T σ t (g x):=rfl;rw[e];split at h
  ·rename_i hv;cases h;first | rfl | simp only[hv]
  cases h
 | lookup t x i ok=>
  simp only[aop]at h ⊢;have e:G7 T { σ with next:=m } t (g x) (g i) ok=G7 T σ t (g x) (g i) ok:=rfl;rw[e];split at h
  ·rename_i hv;cases h;first | rfl | simp only[hv]
  cases h
 | alloc t=>
  simp only[aop,fD0]at h ⊢;split at h
  ·rename_i hv;cases h;(try simp only[hv]);rfl
  cases h
 | box t x=>
  simp only[aop,tk0]at h ⊢;split at h
  ·rename_i hv;cases h;(try simp only[hv]);rfl
  cases h
 | buildSlice t len ps=>
  simp only[aop,F9]at h ⊢;split at h
  ·rename_i h1
   split at h
   ·rename_i h2
    split at h
    ·rename_i j
     split at h
     ·rename_i l;cases h;(try simp only[h1,h2,j,l]);rfl
     cases h
    cases h
   cases h
  cases h
 | nilCheck x=>
  simp only[aop]at h ⊢;split at h
  ·rename_i hv;cases h;first | rfl | simp only[hv]
  ·rename_i hv;cases h;first | rfl | simp only[hv]
  ·rename_i hv;cases h;first | rfl | simp only[hv]
  cases h
 | makeFunc f a c=>cases h;rfl
 | makeMap t r=>
  cases r with
  | some r=>simp[aop]at h
  | none=>cases h;rfl
 | store t a x=>
  simp only[aop]at h ⊢;split at h
  ·rename_i σ1 hs
   cases h;have e:U7 T { σ with next:=m } t (g a) (g x)=some { σ' with next:=m }:=by
    unfold U7 at hs ⊢;split at hs
    ·rename_i h1 h2 j
     try simp only[h1,h2,j]
     have e:∀ k,({ σ with next:=m }:j3).objs k=σ.objs k:=fun _=>rfl;simp only[e];split at hs
     ·rename_i l
      try simp only[l]
      split at hs
      ·rename_i n
       try simp only[n]
       split at hs
       ·rename_i o;cases hs;rw[Af o];rfl
       cases hs
      cases hs
     cases hs
    cases hs
   simp only[e]
  cases h
 | mapUpdate t x k y=>
  simp only[aop]at h ⊢;split at h
  ·rename_i σ1 hs
   cases h;simp only[bI0 hs]
  cases h
 | insert t x k y=>
  simp only[aop]at h ⊢;split at h
  ·rename_i σ1 hs
   cases h;simp only[bI0 hs]
  cases h
 | mapEntry t x k=>simp only[aop]at h ⊢;exact gl0 h
 | entryStore t x s y=>
  simp only[aop]at h ⊢;split at h
  ·rename_i σ1 hs
   cases h;simp only[eC0 hs]
  cases h
 | call c=>
  obtain⟨callee,args,ts⟩:=c;cases callee with
  | value f=>simp[aop]at h
  | invoke r m=>simp[aop]at h
  | builtin b=>
   simp only[aop]at h ⊢;unfold F2 at h ⊢;split at h
   ·rename_i h1 h2
    try simp only[h1,h2]
    have e:∀ t x,fZ0 T { σ with next:=m } t x=fZ0 T σ t x:=fun _ _=>rfl;simp only[e];split at h
    ·rename_i hv;cases h;first | rfl | simp only[hv]
    cases h
   ·rename_i h1 h2
    try simp only[h1,h2]
    exact gX0 h
   ·rename_i h1 h2
    try simp only[h1,h2]
    split at h
    ·rename_i hv;cases h;first | rfl | simp only[hv]
    cases h
   ·rename_i h1
    split at h
    ·rename_i hv;cases h;first | rfl | simp only[hv]
    cases h
   ·rename_i h1
    split at h
    ·rename_i hv;cases h;first | rfl | simp only[hv]
    cases h
   cases h
 | _=>simp[aop]at h
structure Ev where
 uT:Nat->Option AV
 uO:Nat->Option (Option l6)
 uN:Option Nat
def bl0(P:Program)(ops:Array Oper)(n n0 N i:Nat)(cond:(Nat->AV)->j3->Prop)(ev:Ev):Prop :=
 ∀ G a w tm σ,tt0 G n tm σ a w->cond tm σ->G.pl (n0+i)=none->n0+N<=σ.next->∀ (K:Act->World->Prop) (Q:Exit->Act->World->Prop),
  (∀ G' a' w' σ',G.le G'->(∀ j,j<n0+N->j≠n0+i->G.pl j=none->G'.pl j=none)->σ.next<=σ'.next->Fr G σ w G' σ' w'->tt0 G' n (fun t=>(ev.uT t).getD (tm t)) σ' a' w' ->
   (∀ id,σ'.objs id=(ev.uO id).getD (σ.objs id))->σ'.next=ev.uN.getD σ.next->K a' w')->wpOp P ops Q i K a w
section
variable {P:Program} {T:Tab} {ops:Array Oper} {n n0 N i:Nat} {o:Oper} {tm0:Nat->AV}
theorem lZ0(c:ops[i]?=some o)(hw:ai0 ops n tm0 o=some false)(d:P1 n o.dst=true) :
  bl0 P ops n n0 N i (fun tm _=>∀ t∈o.looksAt ops,tm t=tm0 t) ⟨my0 o.dst (.sc undef),fun _=>none,none⟩:=by
 intro G a w tm σ b hc _ _ K Q e;unfold wpOp;simp only[c,bV0 b ((W9 hc).trans hw),aq,Ah];exact e G _ w σ (.refl G) (fun _ _ _ h=>h) (ax _) (.refl _ _ _) (b.put (.refl G) b.rel (.sc _) d) (fun _=>rfl) rfl
theorem jW0(hT:C0 P T)(S:ops[i]?=some o)(hi:i<N)(hw:ai0 ops n tm0 o=some true)(U:P1 n o.dst=true)(st:j3)(v:AV)(σ1:j3)
  (ha:aop T (Q7 tm0) (small st (bQ0 (Q7 tm0) o.op)) (n0+i) o.op=some (v,σ1)) :
  bl0 P ops n n0 N i (fun tm σ=>(∀ t∈o.looksAt ops,tm t=tm0 t)/\∀ id∈bQ0 (Q7 tm0) o.op,σ.objs id=st.objs id)
   ⟨my0 o.dst v,fun id=>if isE o.op=true/\id∈bQ0 (Q7 tm0) o.op then some (σ1.objs id)else if id=n0+i then (match σ1.objs id with | some x=>some (some x) | none=>none)else none,none⟩:=by
 intro G a w tm σ d ⟨g,h⟩ b hN K Q V;let σv:j3:={ small st (bQ0 (Q7 tm0) o.op)with next:=σ.next };have hv:∀ id x,σv.objs id=some x->σ.objs id=some x:=fun id x c=>by
  have:(small st (bQ0 (Q7 tm0) o.op)).objs id=some x:=c;rw[dd0]at this;split at this
  ·rename_i hm;rw[h id hm];exact this
  cases this
 have D:Rel G σv w:=d.rel.less rfl hv;have k:aop T (Q7 tm0) σv (n0+i) o.op=some (v,{ σ1 with next:=σ.next }):=oP0 ha;rw[<- rS0 (dP0 g)]at k;obtain⟨G',u,w',h1,h2,l,Y,E,R⟩:=ol0 (P:=P) hT D d.eval b (by show n0+i<σ.next;omega) k;have m:=gY0 ha;obtain⟨σ',H,q⟩:=fI0 (fun id=>((if isE o.op=true/\id∈bQ0 (Q7 tm0) o.op then some (σ1.objs id)else if id=n0+i then (match σ1.objs id with | some x=>some (some x) | none=>none)else none:Option (Option l6))).getD (σ.objs id)) σ.next (fun id hid=>by
  have I:({ σ1 with next:=σ.next }:j3).objs id=none:=by
   cases J:({ σ1 with next:=σ.next }:j3).objs id with
   | none=>rfl
   | some x=>have:=E.objs_lt J;exact Am this (by show ¬ id<σ.next;omega)
  have r:σ1.objs id=none:=I;have M:σ.objs id=none:=by
   cases J:σ.objs id with
   | none=>rfl
   | some x=>have:=d.rel.objs_lt J;omega
  simp only[r,M];split
  ·rfl
  split<;>rfl)
 have s:∀ id x,σ'.objs id=some x->({ σ1 with next:=σ.next }:j3).objs id=some x\/(σ.objs id=some x/\σv.objs id=none):=fun id x c=>by
  rw[q]at c;show σ1.objs id=some x\/_;split at c
  ·exact .inl (by simpa using c)
  rename_i O;have z:σ.objs id=some x->σ1.objs id=some x\/(σ.objs id=some x/\σv.objs id=none):=fun hs=>by
   by_cases hm:id∈bQ0 (Q7 tm0) o.op
   ·have Z:isE o.op=false:=by
     cases he:isE o.op with
     | false=>rfl
     | true=>exact Am ⟨he,hm⟩ O
    have B:(small st (bQ0 (Q7 tm0) o.op)).objs id=some x:=by rw[dd0,Af hm,<-h id hm];exact hs
    rcases m.2.2 Z with e | ⟨y,e⟩
    ·rw[e];exact .inl B
    by_cases e2:id=n0+i
    ·subst e2
     obtain⟨p,hp,_⟩:=d.rel.objs _ _ hs;rw[b]at hp;cases hp
    rw[e,j3.objs_set,Ae e2];exact .inl B
   refine .inr ⟨hs,?_⟩;show (small st (bQ0 (Q7 tm0) o.op)).objs id=none;rw[dd0,Ae hm]
  split at c
  ·split at c
   ·rename_i y hy
    simp only[bS,ah]at c;subst c;exact .inl hy
   exact z (by simpa using c)
  exact z (by simpa using c)
 have f:Rel G' σ' w':=d.rel.frame hv E R h1 (fun id hid=>E.fresh id (by show σ.next<=id;omega)) s;have C:Fr G σ w G' σ' w':=Fr.frame d.rel hv R h1 s;unfold wpOp;simp only[S,bV0 d ((W9 g).trans hw),Al];left;have fin:=V G' (a.put o.dst u) w' σ' h1 (fun j _ hj hg=>h2 j hj hg) (by omega) C (d.put h1 f Y U) q (by simp[H]);unfold fO;rcases l with l | ⟨l,h7⟩
 ·rw[l];exact fin
 rw[l];subst h7;exact fin
end
section
variable {P:Program} {ops:Array Oper} {n n0 N i:Nat} {o:Oper} {tm0:Nat->AV}
theorem kO0{B:Operand}{args:Array Operand}{ts:Array TypeId}{f:FuncId}{first cap:List AV}(ho:ops[i]?=some o)(l:o.op=.call { callee:=.value B,args:=args,argTypes:=ts })
  (hw:ai0 ops n tm0 o=some true) (hd:P1 n o.dst=true) (R:Q7 tm0 B=.fn (.func f) first cap)
  (st view:j3) (v:AV) (σ1:j3) (ex:Nat->Bool) (m:view.next=st.next) (p:∀ id,view.objs id=if ex id then none else st.objs id) (C:∀ id,id<st.next->σ1.objs id=view.objs id)
  (hc:B4 P f (first++args.toList.map (Q7 tm0)++cap) view (fun S b=>S=v/\b=σ1)) :
  bl0 P ops n n0 N i (fun tm σ=>(∀ t∈o.looksAt ops,tm t=tm0 t)/\σ.next=st.next/\∀ id,ex id=false->σ.objs id=st.objs id)
   ⟨my0 o.dst v,fun id=>if id<st.next then none else some (σ1.objs id),some σ1.next⟩:=by
 intro G a w tm σ q ⟨D,E,U⟩ V hN K Q hK;have g:∀ id x,view.objs id=some x->σ.objs id=some x:=fun id x c=>by
  rw[p]at c;split at c
  ·cases c
  rename_i he;rw[U id (by simpa using he)];exact c
 have Y:Rel G view w:=q.rel.less (by rw[m,E]) g;have d:=dP0 (ops:=ops) D;have H:Q7 tm B=.fn (.func f) first cap:=by rw[d B (by rw[l];simp[aI,fB])];exact R
 have h:args.toList.map (Q7 tm)=args.toList.map (Q7 tm0):=bG0 (fun x c=>d x (by rw[l];simp[aI,fB,c]));have r:=q.eval B;rw[H]at r;generalize Z:a.eval B=u at r;cases r with
 | fn _ _ _ fv cv h1 h2 h3 h4=>
 have s:B8 G (first++args.toList.map (Q7 tm0)++cap) (fv++args.toList.map a.eval++cv):=by rw[<- h];exact(B8.append (G:=G) ⟨h1,h3⟩ (B8.map q.eval args.toList)).append ⟨h2,h4⟩
 have I:(execOp a.eval o).run P w=(callFunc f (fv++args.toList.map a.eval++cv).toArray).run P w:=by
  have e:fv.toArray++args.map a.eval++cv.toArray=(fv++args.toList.map a.eval++cv).toArray:=by apply dm;simp
  simp only[execOp,l,resolve,Z,gm,ao,au,ae,invoke,e]
 unfold wpOp;simp only[ho,bV0 q ((W9 D).trans hw),Al];left;unfold fO;rw[I];refine hc G _ w s Y o a _ _ ?_;rintro S av b G' w' k b2 b3 ⟨rfl,rfl⟩;have hnx:st.next<=b.next:=by rw[<- m];exact k.next
 obtain⟨σ',hn',J⟩:=fI0 (fun id=>((if id<st.next then none else some (b.objs id):Option (Option l6))).getD (σ.objs id)) b.next (fun id hid=>by
  rw[Ae (by omega)];simp only[bS];cases hh:b.objs id with
  | none=>rfl
  | some x=>have:=b3.objs_lt hh;omega)
 have M:∀ id x,σ'.objs id=some x->b.objs id=some x\/(σ.objs id=some x/\view.objs id=none):=fun id x c=>by
  rw[J]at c;split at c
  ·rename_i hlt
   simp only[gT]at c;cases hv:view.objs id with
   | none=>exact .inr ⟨c,rfl⟩
   | some y=>have:=g id y hv;rw[c]at this;cases this;exact .inl (by rw[C id hlt];exact hv)
  exact .inl (by simpa using c)
 have z:Rel G' σ' w':=q.rel.frame g b3 k.fr k.le (fun id hid=>b3.fresh id (by omega)) M;have O:Fr G σ w G' σ' w':=Fr.frame q.rel g k.fr k.le M;exact hK G' (a.put o.dst S) w' σ' k.le (fun j hj _ hg=>k.keeps j (by rw[m,<-E];omega) hg) (by omega) O (q.put k.le z b2 hd) J (by simp[hn'])
theorem mT0{l:Operand}{args:Array Operand}{ts:Array TypeId}{f:FuncId}{first cap:List AV}(R:ops[i]?=some o)(g:o.op=.call { callee:=.value l,args:=args,argTypes:=ts })
  (hw:ai0 ops n tm0 o=some true) (S:P1 n o.dst=true) (C:Q7 tm0 l=.fn (.func f) first cap)
  (st:j3) (v:AV) (σ1:j3) (hc:B4 P f (first++args.toList.map (Q7 tm0)++cap) st (fun D b=>D=v/\b=σ1)) :
  bl0 P ops n n0 N i (fun tm σ=>(∀ t∈o.looksAt ops,tm t=tm0 t)/\σ.next=st.next/\∀ id,σ.objs id=st.objs id)
   ⟨my0 o.dst v,fun id=>some (σ1.objs id),some σ1.next⟩:=by
 intro G a w tm σ m ⟨p,E,H⟩ I hN K Q U;have q:∀ id x,st.objs id=some x->σ.objs id=some x:=fun id x J=>by rw[H];exact J
 have M:Rel G st w:=m.rel.less E.symm q;have c:=dP0 (ops:=ops) p;have r:Q7 tm l=.fn (.func f) first cap:=by rw[c l (by rw[g];simp[aI,fB])];exact C
 have d:args.toList.map (Q7 tm)=args.toList.map (Q7 tm0):=bG0 (fun x J=>c x (by rw[g];simp[aI,fB,J]));have h:=m.eval l;rw[r]at h;generalize O:a.eval l=u at h;cases h with
 | fn _ _ _ fv cv h1 h2 V Y=>
 have k:B8 G (first++args.toList.map (Q7 tm0)++cap) (fv++args.toList.map a.eval++cv):=by rw[<- d];exact(B8.append (G:=G) ⟨h1,V⟩ (B8.map m.eval args.toList)).append ⟨h2,Y⟩
 have s:(execOp a.eval o).run P w=(callFunc f (fv++args.toList.map a.eval++cv).toArray).run P w:=by
  have e:fv.toArray++args.map a.eval++cv.toArray=(fv++args.toList.map a.eval++cv).toArray:=by apply dm;simp
  simp only[execOp,g,resolve,O,gm,ao,au,ae,invoke,e]
 unfold wpOp;simp only[R,bV0 m ((W9 p).trans hw),Al];left;unfold fO;rw[s];refine hc G _ w k M o a _ _ ?_;rintro D av b G' w' z Z b3 ⟨rfl,rfl⟩;have hnx:=z.next;have B:Fr G σ w G' b w':=(Fr.less (σ:=σ) (σ':=st) q).trans z.fr;exact U G' (a.put o.dst D) w' b z.le (fun j hj _ hg=>z.keeps j (by omega) hg) (by omega) B (m.put z.le b3 Z S) (fun _=>rfl) rfl
end
def anc1(acc:List Nat)(o:Oper):Nat:=o.after.toList.foldl (fun m e=>if cz .any e then m ||| 2^e.on ||| acc.getD e.on 0 else m) 0
def dq0:List Oper->List Nat->List Nat
 | [],acc=>acc
 | o::os,acc=>dq0 os (acc++[anc1 acc o])
theorem ka0(acc:List Nat)(i:Nat):∀ (es:List Edge) (m:Nat),(es.foldl (fun m e=>if cz .any e then m ||| 2^e.on ||| acc.getD e.on 0 else m) m).testBit i=true ->
  m.testBit i=true\/∃ e∈es,cz .any e=true/\(i=e.on\/(acc.getD e.on 0).testBit i=true)
 | [],m,h=>.inl h
 | e::es,m,h=>by
  simp only[iC]at h;rcases ka0 acc i es _ h with h1 | ⟨c,a,h1⟩
  ·split at h1
   ·rename_i b
    rw[kq,kq,br,br]at h1;rcases h1 with (h1 | h1) | h1
    ·exact .inl h1
    ·refine .inr ⟨e,by simp,b,.inl ?_⟩
     rw[Nat.testBit_two_pow]at h1;have:e.on=i:=by simpa using h1
     exact this.symm
    exact .inr ⟨e,by simp,b,.inr h1⟩
   exact .inl h1
  exact .inr ⟨c,by simp[a],h1⟩
theorem ks0:∀ (os:List Oper) (acc:List Nat) (j:Nat),j<acc.length->(dq0 os acc).getD j 0=acc.getD j 0
 | [],acc,j,h=>rfl
 | o::os,acc,j,h=>by rw[dq0,ks0 os _ j (by simp;omega)];simp[iF,cE,h]
theorem sg0:∀ (os:List Oper) (acc:List Nat) (k:Nat) (o:Oper),os[k]?=some o->∃ a:List Nat,(dq0 os acc).getD (acc.length+k) 0=anc1 a o/\a.length=acc.length+k/\∀ j,j<a.length->a.getD j 0=(dq0 os acc).getD j 0
 | [],acc,k,o,h=>by simp at h
 | o'::os,acc,0,o,h=>by simp at h;subst h;refine⟨acc,?_,by simp,fun j hj=>by rw[dq0,ks0 os _ j (by simp;omega)];simp[iF,cE,hj]⟩;rw[dq0,cM,ks0 os _ _ (by simp)];simp[iF]
 | o'::os,acc,k+1,o,h=>by obtain⟨a,h1,h2,b⟩:=sg0 os (acc++[anc1 acc o']) k o (by simpa using h);refine⟨a,?_,by simp at h2;omega,b⟩;rw[dq0];simp only[aK,ay,bx]at h1;rw[show acc.length+(k+1)=acc.length+(0+1)+k from by omega];exact h1
def fF0(ops:Array Oper)(p:Nat->Bool):Prop:=∀ (j:Nat) (o:Oper),ops[j]?=some o->p j=true->∀ e∈o.after,cz .any e=true->p e.on=true
theorem by0{ops:Array Oper}{p:Nat->Bool}(g:fF0 ops p):∀ (j:Nat) (o:Oper),ops[j]?=some o->(∀ e∈o.after,cz .any e=true->p e.on=true)->∀ i,((dq0 ops.toList []).getD j 0).testBit i=true->p i=true:=by
 intro j
 induction j using gu with
 | _ j m=>
  intro o k b i l;obtain⟨acc,h1,h2,n⟩:=sg0 ops.toList [] j o (by simpa using k);simp only[bx,aG]at h1 h2;rw[h1]at l;rcases ka0 acc i _ _ l with h | ⟨e,he,a,h⟩
  ·simp at h
  have c:=b e (by simpa using he) a;rcases h with rfl | h
  ·exact c
  by_cases d:e.on<acc.length
  ·rw[n _ d]at h
   have q:j<ops.size:=(aL.1 k).1;have f:ops[e.on]?=some (ops[e.on]'(by omega)):=aH _;exact m e.on (by omega) _ f (g e.on _ f c) i h
  rw[show acc.getD e.on 0=0 from by simp[iF,bD (Nat.le_of_not_lt d)]]at h;simp at h
structure Inf where
 rd:List Nat
 wr:List Nat
 call:Bool
 nx:Nat
 bar:Bool
def idle:Op->Bool
 | .move _ | .assign _ | .pick .. | .build .. | .nilCheck _ | .binOp .. | .unOp .. | .convert .. | .makeFunc .. | .slice .. | .fieldAddr .. | .field .. | .indexAddr .. | .index .. | .extract ..=>true
 | _=>false
theorem tB0{T:Tab}{b:Operand->AV}{σ σ':j3}{id:Nat}{op:Op}{v:AV}(h:aop T b σ id op=some (v,σ'))(hi:idle op=true):σ'=σ/\bQ0 b op=[]/\isE op=false:=by
 cases op with
 | move x=>cases h;exact⟨rfl,rfl,rfl⟩
 | assign x=>cases h;exact⟨rfl,rfl,rfl⟩
 | makeFunc f a c=>cases h;exact⟨rfl,rfl,rfl⟩
 | nilCheck x=>
  simp only[aop]at h;split at h
  ·cases h;exact⟨rfl,rfl,rfl⟩
  ·cases h;exact⟨rfl,rfl,rfl⟩
  ·cases h;exact⟨rfl,rfl,rfl⟩
  cases h
 | pick _ _ _=>simp only[aop]at h;split at h<;>first | (cases h;exact⟨rfl,rfl,rfl⟩) | cases h
 | build _ _=>simp only[aop]at h;split at h<;>first | (cases h;exact⟨rfl,rfl,rfl⟩) | cases h
 | binOp _ _ _ _ _=>simp only[aop]at h;split at h<;>first | (cases h;exact⟨rfl,rfl,rfl⟩) | cases h
 | unOp _ _ _=>simp only[aop]at h;split at h<;>first | (cases h;exact⟨rfl,rfl,rfl⟩) | cases h
 | convert _ _ _=>simp only[aop]at h;split at h<;>first | (cases h;exact⟨rfl,rfl,rfl⟩) | cases h
 | slice _ _ _ _ _=>simp only[aop]at h;split at h<;>first | (cases h;exact⟨rfl,rfl,rfl⟩) | cases h
 | fieldAddr _ _ _=>simp only[aop]at h;split at h<;>first | (cases h;exact⟨rfl,rfl,rfl⟩) | cases h
 | field _ _ _=>simp only[aop]at h;split at h<;>first | (cases h;exact⟨rfl,rfl,rfl⟩) | cases h
 | indexAddr _ _ _=>simp only[aop]at h;split at h<;>first | (cases h;exact⟨rfl,rfl,rfl⟩) | cases h
 | index _ _ _=>simp only[aop]at h;split at h<;>first | (cases h;exact⟨rfl,rfl,rfl⟩) | cases h
 | extract _ _=>simp only[aop]at h;split at h<;>first | (cases h;exact⟨rfl,rfl,rfl⟩) | cases h
 | _=>simp[idle]at hi
def S7(σ1:j3):List Nat->j3->j3
 | [],σ=>σ
 | i::is,σ=>S7 σ1 is (match σ1.objs i with | some o=>σ.set i o | none=>σ.del i)
theorem aH0(σ1:j3):∀ (is:List Nat) (σ:j3) (k:Nat),(S7 σ1 is σ).objs k=if k∈is then σ1.objs k else σ.objs k
 | [],σ,k=>by simp[S7]
 | i::is,σ,k=>by
  rw[S7,aH0 σ1 is];by_cases e:k∈is
  ·simp[e]
  rw[Ae e];by_cases e2:k=i
  ·subst e2
   rw[Af (by simp)];cases h:σ1.objs k with
   | none=>simp[j3.objs_del]
   | some o=>simp[j3.objs_set]
  rw[Ae (by simp[e,e2])];cases h:σ1.objs i with
  | none=>simp[j3.objs_del,e2]
  | some o=>simp[j3.objs_set,e2]
theorem aG0(σ1:j3):∀ (is:List Nat) (σ:j3),(S7 σ1 is σ).next=σ.next
 | [],σ=>rfl
 | i::is,σ=>by rw[S7,aG0 σ1 is];cases σ1.objs i<;>rfl
theorem iW0(σ1:j3):∀ (is:List Nat) (σ:j3),J1 σ (S7 σ1 is σ)
 | [],σ=>.refl _
 | i::is,σ=>by
  rw[S7];refine J1.trans ?_ (iW0 σ1 is _);cases σ1.objs i
  ·exact .del _ _
  exact .set _ _ _
def Y3(n0 N mask:Nat):List Nat:=(aJ N).filterMap fun j=>if mask.testBit j then none else some (n0+j)
def saved(σ:j3)(ids:List Nat):List (Nat×l6):=ids.filterMap fun id=>(σ.objs id).map fun o=>(id,o)
def S0:List (Nat×l6)->j3->j3
 | [],σ=>σ
 | p::ps,σ=>S0 ps (σ.del p.1)
def Z8:List (Nat×l6)->j3->j3
 | [],σ=>σ
 | p::ps,σ=>Z8 ps (σ.set p.1 p.2)
theorem eb0:∀ (l:List (Nat×l6)) (σ:j3) (k:Nat),(S0 l σ).objs k=if k∈l.map (·.1)then none else σ.objs k
 | [],σ,k=>by simp[S0]
 | p::ps,σ,k=>by
  rw[S0,eb0 ps,j3.objs_del];by_cases e:k∈ps.map (·.1)
  ·simp[e]
  by_cases e2:k=p.1
  ·simp[e2]
  rw[Ae e,Ae e2,Ae (by simp only[az,aC,not_or];exact⟨e2,e⟩)]
theorem dZ0:∀ (l:List (Nat×l6)) (σ:j3),(S0 l σ).next=σ.next
 | [],σ=>rfl
 | p::ps,σ=>by rw[S0,dZ0 ps];rfl
theorem ea0:∀ (l:List (Nat×l6)) (σ:j3),(Z8 l σ).next=σ.next
 | [],σ=>rfl
 | p::ps,σ=>by rw[Z8,ea0 ps];rfl
theorem dO0(g:Nat->Option l6):∀ (l:List (Nat×l6)) (σ:j3) (k:Nat),(∀ p∈l,g p.1=some p.2)->(Z8 l σ).objs k=if k∈l.map (·.1)then g k else σ.objs k
 | [],σ,k,_=>by simp[Z8]
 | p::ps,σ,k,h=>by
  rw[Z8,dO0 g ps _ k (fun q a=>h q (by simp[a])),j3.objs_set];by_cases e:k∈ps.map (·.1)
  ·simp[e]
  by_cases e2:k=p.1
  ·subst e2
   rw[Ae e,Af rfl,Af (by simp),h p (by simp)]
  rw[Ae e,Ae e2,Ae (by simp only[az,aC,not_or];exact⟨e2,e⟩)]
theorem jh0(σ:j3)(ids:List Nat):(∀ p∈saved σ ids,σ.objs p.1=some p.2)/\∀ k,k∈(saved σ ids).map (·.1)↔k∈ids/\(σ.objs k).isSome=true:=by
 refine⟨fun p hp=>?_,fun k=>?_⟩
 ·obtain⟨id,_,h⟩:=dy.1 hp
  cases a:σ.objs id with
  | none=>simp[a]at h
  | some o=>simp[a]at h;subst h;exact a
 constructor
 ·intro h
  obtain⟨p,hp,rfl⟩:=aM.1 h;obtain⟨id,hid,h⟩:=dy.1 hp;cases a:σ.objs id with
  | none=>simp[a]at h
  | some o=>simp[a]at h;subst h;exact⟨hid,by simp[a]⟩
 rintro ⟨h1,h2⟩;cases a:σ.objs k with
 | none=>simp[a]at h2
 | some o=>exact aM.2 ⟨(k,o),dy.2 ⟨k,h1,by simp[a]⟩,rfl⟩
def eJ0(T:Tab)(cl:FuncId->List AV->j3->Option (AV×j3))(ops:Array Oper)(n0 N mask i:Nat)(bar:Bool)(s:AS)(o:Oper):Option (AS×Inf) :=
 match D0 ops s o,P1 s.n o.dst with
 | some false,true=>some (s.put o.dst (.sc undef),⟨[],[],false,0,false⟩)
 | some true,true=>
  match o.op with
  | .call { callee:=.value a,args:=args,argTypes:=_ }=>
   match s.eval a with
   | .fn (.func f) first cap=>
    if bar then
     match cl f (first++args.toList.map s.eval++cap) s.st with
     | some (v,σ1)=>if s.st.next<=σ1.next then some ({ s with st:=σ1 }.put o.dst v,⟨[],[],false,0,true⟩)else none
     | none=>none else
    match cl f (first++args.toList.map s.eval++cap) { S0 (saved s.st (Y3 n0 N mask)) s.st with low:=s.st.next } with
    | some (v,σ1)=>if s.st.next<=σ1.low/\s.st.next<=σ1.next then
      some ({ s with st:={ Z8 (saved s.st (Y3 n0 N mask)) σ1 with low:=min s.st.low s.st.next } }.put o.dst v,⟨[],[],true,s.st.next,false⟩)else none
    | none=>none
   | _=>none
  | op=>
   match aop T s.eval (small s.st (bQ0 s.eval op)) (n0+i) op with
   | some (v,σ1)=>
    some ({ s with st:=(match σ1.objs (n0+i)with
     | some x=>(if isE op then S7 σ1 (bQ0 s.eval op) s.st else s.st).set (n0+i) x
     | none=>(if isE op then S7 σ1 (bQ0 s.eval op) s.st else s.st)) }.put o.dst v,⟨bQ0 s.eval op,if isE op then bQ0 s.eval op else [],false,0,false⟩)
   | none=>none
 | _,_=>none
def oX0(ops:Array Oper)(a:List Nat)(i:Nat):Bool :=(aJ ops.size).all fun j=>j==i||(match ops[j]? with | some o=>idle o.op | none=>true)||(a.getD i 0).testBit j||(a.getD j 0).testBit i
def fQ0:Op->Bool
 | .call { callee:=.value _,.. }=>true
 | _=>false
def pX0(T:Tab)(cl:FuncId->List AV->j3->Option (AV×j3))(ops:Array Oper)(n0 N:Nat)(a:List Nat):List Oper->Nat->AS->Option (AS×List Inf)
 | [],_,s=>some (s,[])
 | o::rest,i,s=>match eJ0 T cl ops n0 N (a.getD i 0) i (fQ0 o.op&&oX0 ops a i) s o with
  | some (s1,f)=>match pX0 T cl ops n0 N a rest (i+1) s1 with
   | some (s2,fs)=>some (s2,f::fs)
   | none=>none
  | none=>none
def fV0(n0 i j:Nat)(a b:Inf):Bool :=
 (a.wr.all fun x=>!(b.rd++b.wr).contains x)&&(b.wr.all fun x=>!a.rd.contains x)&&!(b.rd++b.wr).contains (n0+i)&&!(a.rd++a.wr).contains (n0+j)&&!(a.call&&b.call)&&!a.bar&&!b.bar &&
 (!a.call||(b.wr.isEmpty&&b.rd.all fun x=>decide (x<a.nx)))&&(!b.call||(a.wr.isEmpty&&a.rd.all fun x=>decide (x<b.nx)))
def cb0(ops:Array Oper)(c:List Nat):List (Nat×Nat) :=
 (aJ ops.size).flatMap fun j=>(aJ j).filterMap fun i=>
  if (c.getD j 0).testBit i then none else
  match ops[i]?,ops[j]? with
  | some a,some b=>if idle a.op||idle b.op then none else some (i,j)
  | _,_=>none
def kY0(ops:Array Oper)(c:List Nat):Bool :=
 (aJ ops.size).all fun j=>(match ops[j]? with | some o=>o.after.all (fun e=>!Region.binds .any e||decide (e.on<j)) | none=>true) &&
  (aJ j).all fun i=>(c.getD j 0).testBit i||(match ops[i]?,ops[j]? with | some a,some b=>a.apart ops b | _,_=>true)
def W4(T:Tab)(cl:FuncId->List AV->j3->Option (AV×j3))(ops:Array Oper)(s:AS):Option AS :=
 if kY0 ops (dq0 ops.toList [])then
  match pX0 T cl ops s.st.next ops.size (dq0 ops.toList []) ops.toList 0 { s with st:={ s.st with next:=s.st.next+ops.size } } with
  | some (s',fs)=>if (cb0 ops (dq0 ops.toList [])).all (fun p=>fV0 s.st.next p.1 p.2 (fs.getD p.1 ⟨[],[],false,0,false⟩) (fs.getD p.2 ⟨[],[],false,0,false⟩))then some s' else none
  | none=>none else none
end Go.Ab
