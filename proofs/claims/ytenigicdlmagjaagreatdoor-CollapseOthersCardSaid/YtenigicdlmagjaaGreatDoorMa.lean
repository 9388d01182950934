/- A part of the proof; its readable source lies in wip of the prover's repo (squeezed here for the limit of bytes). -/
import Derived.Calls
import Derived.Below
import Derived.Laws.Cells
import Derived.Laws.Rows
import Derived.Laws.StructEq
import Derived.Orders
import Derived.Scope
set_option linter.unusedVariables false
set_option linter.unusedSimpArgs false
set_option linter.unusedSectionVars false
open Array renaming ext'->cK,ext->gg,getElem?_append->ez,getElem?_eq_getElem->aS,getElem?_eq_none->cO,getElem?_eq_some_iff->aN,getElem?_push->bu,getElem?_setIfInBounds->bQ,getElem_setIfInBounds->dD,mapM_eq_mapM_toList->fL,range->aW,replicate->bf
open BEq renaming rfl->jl
open BitVec renaming ofInt->cB
open Bool renaming and_eq_true->ab,false_eq_true->au,not_eq_true->hM,not_false->aP,or_eq_true->eo
open Go.Act renaming put->iE
open Go.Addr renaming add->iI
open Go.Builtin renaming append_->cq,cap_->im,clear_->cU,copy_->dR,firstCells->aR,growBy->fG,lenOf->eM,len_->cR,max2->iq,min2->ir,nextslicecap->cC,zeroCells->aL
open Go.Call renaming operands->ed
open Go.Deferred renaming ofValue->gw
open Go.Instr renaming alloc->iS,build->gu,buildSlice->gV,checkKey->bp,entryStore->gX,extract->iC,field->iT,fieldAt->fY,fill->jd,findAsking->fu,findKey->eO,findNow->dA,index->gr,indexAt->dY,keyThatStays->dN,loadAt->ey,lookup->gh,makeSlice->ib,mapEntry->eH,mapUpdate->eA,sameBits->dm,sameNow->fZ,slice->dZ,sliceAt->de,sliceBound->fq,sliceBounds->dg,storeAt->iB,sureAddr->di
open Go.IntKind renaming i64->aa
open Go.Mode renaming plain->gW
open Go.Op renaming equal->eK,equalIn->dK,intArith->jq,maxDepth->dw,operands->aF,stringOp->jr,unary->jb
open Go.Oper renaming looksAt->iU,upon->dF,wp->fw
open Go.Question renaming appendCap->dE,cut->ia,forced->gF
open Go.Region renaming binds->cg,wanted->cM
open Go.Result renaming andThen_ok->ah
open Go.Sem renaming run->f_,run_bind->al,run_map->jk,run_pure->ao
open Go.Value renaming int->bn
open Int renaming toNat_natCast->da
open List renaming all_eq_true->ak,append_assoc->df,drop_append->h_,eq_nil_of_length_eq_zero->bJ,eq_of_mem_replicate->dX,flatten_append->ft,flatten_cons->bN,foldlM_cons->ic,foldl_cons->fB,getD->gi,getElem?_append->cm,getElem?_cons_succ->aI,getElem?_cons_zero->bX,getElem?_drop->gM,getElem?_eq_getElem->ae,getElem?_eq_none->bz,getElem?_eq_some_iff->an,getElem?_take->eV,getElem?_toArray->cz,getElem_map->cd,getElem_mem->aq,getElem_of_mem->aJ,length_append->aH,length_cons->ax,length_nil->aU,length_pos_iff->cx,length_take->hY,mapM_cons->iD,map_congr_left->bq,map_cons->ay,mem_append->aK,mem_cons->aC,mem_cons_of_mem->bC,mem_filterMap->cT,mem_flatten->bD,mem_map->aY,modify_succ_cons->gn,modify_zero_cons->gm,nil_append->bG,range->bE,replicate->ba,replicate_succ->gG,take->gk,take_length_add_append->fI
open List.cons renaming injEq->b_
open Nat renaming add_assoc->dy,add_comm->d_,add_mul->bK,add_zero->cS,div_add_mod->eW,div_eq_of_lt->il,div_lt_iff_lt_mul->eF,le_add_right->aO,le_refl->ar,le_trans->bo,lt_of_lt_of_le->db,lt_or_ge->cE,min_le_left->iF,min_le_right->iu,mod_lt->gN,mul_add_div->iA,mul_comm->dj,mul_le_mul_right->aZ,sub_zero->gv,succ_mul->je,testBit_or->iJ,zero_add->aG,zero_le->cP,zero_mul->fC
open Option renaming bind_some->dB,getD_none->ea,getD_some->bR,map_some->aj
open Option.some renaming inj->bd,injEq->ai
open Prod.mk renaming injEq->bV
abbrev Aa:=@cond_false
abbrev Ac:=@cond_true
abbrev Ad:=@decide_eq_true_eq
abbrev Ae:=@if_neg
abbrev Af:=@if_pos
abbrev Ag:=@decide_false
abbrev Ah:=@if_false
abbrev Ai:=@decide_true
abbrev Aj:=@of_decide_eq_true
abbrev Ak:=@decide_eq_false
abbrev Al:=@if_true
abbrev Am:=@absurd
abbrev An:=@decide_eq_false_iff_not
abbrev Ao:=@decide_eq_true
abbrev Ap:=@congrArg
abbrev Aq:=@true_and
namespace Go.Ab
inductive AV where
 | any
 | sc (v:Value)
 | rs (es:List (List AV))
 | rp (cs:List AV)
 | ms (id size off len:Nat)
 | mp (id i j:Nat)
 | mm (id:Nat)
 | it (id:Nat)
 | fn (f:Fn) (first cap:List AV)
 | agg (cs:List AV)
 | tup (vs:List AV)
 | sy (i:Nat)
 | ss (id size i:Nat)
 | xp (id k off:Nat)
 | xs (id size:Nat) (o l:AV)
 | rm (c:AV)
inductive j5 where
 | row (elem:TypeId) (size:Nat) (es:List (List AV))
 | map (agg:Bool) (es:List (List Int×AV×Nat)) (clock:Nat)
 | siter (s:ByteArray) (pos:Nat)
 | miter (m:Option Nat) (since:Nat) (seen:List Nat) (stepped:Nat)
 | xrow (elem:TypeId) (size i:Nat)
 | xmap (c:AV)
 | xiter (s p:AV)
 | frow (elem:TypeId) (size:Nat) (c:AV) (cols:List (Nat×TypeId×Nat)) (k:AV) (off:Nat) (v:Option AV)
structure Pl where
 block:Nat
 size:Nat
 cap:Nat
 virt:Bool:=false
structure c9 where
 w0:World
 imm:Nat->Option Obj
 pl:Nat->Option Pl
def c9.cell(G:c9)(b o:Nat):Option Value :=
 match G.imm b with
 | some (.cells cs _ _)=>cs[o]?
 | _=>none
structure c9.le(G G':c9):Prop where
 w0:G'.w0=G.w0
 imm:∀ b o,G.imm b=some o->G'.imm b=some o
 pl:∀ i p,G.pl i=some p->G'.pl i=some p
theorem c9.le.refl(G:c9):G.le G:=⟨rfl,fun _ _ h=>h,fun _ _ h=>h⟩
theorem c9.le.trans{A B C:c9}(h:A.le B)(k:B.le C):A.le C :=⟨k.w0.trans h.w0,fun b o x=>k.imm b o (h.imm b o x),fun i p x=>k.pl i p (h.pl i p x)⟩
theorem c9.le.cell{G G':c9}(h:G.le G'){b o:Nat}{v:Value}(hc:G.cell b o=some v):G'.cell b o=some v:=by
 unfold c9.cell at *;cases a:G.imm b with
 | none=>simp[a]at hc
 | some x=>rw[h.imm b x a];simpa[a]using hc
def B4(agg:Bool)(l:List Int):Value :=if agg then .agg (l.map (bn .i64)).toArray else .int .i64 (l.headD 0)
def AV.i64s:List AV->Option (List Int)
 | []=>some []
 | .sc (.int .i64 n)::cs=>match AV.i64s cs with
  | some l=>some (n::l)
  | none=>none
 | _::_=>none
def AV.key:AV->Option (Bool×List Int)
 | .sc (.int .i64 n)=>some (false,[n])
 | .agg cs=>match AV.i64s cs with
  | some l=>some (true,l)
  | none=>none
 | _=>none
def D4(j:Nat):List AV->List Int×AV×Nat
 | [k,v]=>(match k.key with | some (_,l)=>l | none=>[0],v,j)
 | _=>([0],.sc (.bool false),j)
def u7:Nat->List (List AV)->List (List Int×AV×Nat)
 | _,[]=>[]
 | j,r::rs=>D4 j r::u7 (j+1) rs
def bp0:List (List AV)->Bool
 | [k,_]::_=>match k.key with
  | some (b,_)=>b
  | none=>false
 | _=>false
inductive Rep (G:c9):AV->Value->Prop
 | any (v:Value):Rep G .any v
 | sc (v:Value):Rep G (.sc v) v
 | rsNil:Rep G (.rs []) (.slice none 0 0)
 | rs (es:List (List AV)) (a:Addr) (cap size:Nat) (val:Nat->Nat->Value) (hs:cap≠0->a.spot=none) (hc:es.length<=cap)
   (hlen:∀ i (h:i<es.length),es[i].length=size)
   (himm:∀ i j,i<es.length->j<size->G.cell a.block (a.off+i*size+j)=some (val i j))
   (hrep:∀ i j (hi:i<es.length) (hj:j<es[i].length),Rep G (es[i][j]) (val i j)):Rep G (.rs es) (.slice (some a) es.length cap)
 | rp (cs:List AV) (a:Addr) (val:Nat->Value) (hs:a.spot=none)
   (himm:∀ j,j<cs.length->G.cell a.block (a.off+j)=some (val j))
   (hrep:∀ j (hj:j<cs.length),Rep G (cs[j]) (val j)):Rep G (.rp cs) (.pointer (some a))
 | ms (id size off len:Nat) (p:Pl) (hp:G.pl id=some p) (hv:p.virt=false) (hz:p.size=size) (a:Addr) (c:Nat) (ha:c≠0->a=⟨p.block,off*p.size,none⟩) (hoff:off+c=p.cap) (hl:len<=c) (hsp:a.spot=none) :
   Rep G (.ms id size off len) (.slice (some a) len c)
 | msNil (id size:Nat) (p:Pl) (hp:G.pl id=some p) (hv:p.virt=true):Rep G (.ms id size 0 0) (.slice none 0 0)
 | mp (id i j:Nat) (p:Pl) (hp:G.pl id=some p):Rep G (.mp id i j) (.pointer (some ⟨p.block,i*p.size+j,none⟩))
 | mm (id:Nat) (p:Pl) (hp:G.pl id=some p):Rep G (.mm id) (.map (some p.block))
 | it (id:Nat) (p:Pl) (hp:G.pl id=some p):Rep G (.it id) (.pointer (some ⟨p.block,0,none⟩))
 | rm (rows:List (List AV)) (b:Nat) (ents:List MapEntry) (himm:G.imm b=some (.map ents.toArray rows.length)) (hlen:ents.length=rows.length)
   (iJ0:∀ i (h:i<rows.length) (h':i<ents.length),ents[i].key=B4 (bp0 rows) (D4 i rows[i]).1/\ents[i].born=i)
   (hrep:∀ i (h:i<rows.length) (h':i<ents.length),Rep G (D4 i rows[i]).2.1 ents[i].val):Rep G (.rm (.rs rows)) (.map (some b))
 | fn (f:Fn) (first cap:List AV) (fv cv:List Value) (h1:fv.length=first.length) (h2:cv.length=cap.length)
   (hf:∀ i (h:i<first.length) (h':i<fv.length),Rep G first[i] fv[i]) (hc:∀ i (h:i<cap.length) (h':i<cv.length),Rep G cap[i] cv[i]) :
   Rep G (.fn f first cap) (.func f fv.toArray cv.toArray)
 | agg (cs:List AV) (vs:List Value) (h1:vs.length=cs.length) (h:∀ i (h:i<cs.length) (h':i<vs.length),Rep G cs[i] vs[i]):Rep G (.agg cs) (.agg vs.toArray)
 | tup (cs:List AV) (vs:List Value) (h1:vs.length=cs.length) (h:∀ i (h:i<cs.length) (h':i<vs.length),Rep G cs[i] vs[i]):Rep G (.tup cs) (.tuple vs.toArray)
def B6(G:c9)(cs:List AV)(vs:List Value):Prop:=vs.length=cs.length/\∀ i (h:i<cs.length) (h':i<vs.length),Rep G cs[i] vs[i]
theorem B6.nil(G:c9):B6 G [] []:=⟨rfl,fun i h=>by simp at h⟩
theorem B6.cons{G:c9}{c:AV}{v:Value}{cs:List AV}{vs:List Value}(h:Rep G c v)(hs:B6 G cs vs):B6 G (c::cs) (v::vs):=by
 refine⟨by simp[hs.1],fun i h1 h2=>?_⟩;cases i with
 | zero=>exact h
 | succ i=>exact hs.2 i (by simpa using h1) (by simpa using h2)
theorem B6.nil_inv{G:c9}{vs:List Value}(h:B6 G [] vs):vs=[]:=by have:=h.1;simpa using this
theorem B6.cons_inv{G:c9}{c:AV}{cs:List AV}{vs:List Value}(h:B6 G (c::cs) vs):∃ v a,vs=v::a/\Rep G c v/\B6 G cs a:=by
 cases vs with
 | nil=>have:=h.1;simp at this
 | cons v vs=>refine⟨v,vs,rfl,h.2 0 (by simp) (by simp),by have:=h.1;simpa using this,fun i h1 h2=>?_⟩;have:=h.2 (i+1) (by simpa using h1) (by simpa using h2);simpa using this
theorem B6.append{G:c9}{cs a:List AV}{vs us:List Value}(h:B6 G cs vs)(k:B6 G a us):B6 G (cs++a) (vs++us):=by
 induction cs generalizing vs with
 | nil=>rw[h.nil_inv];simpa using k
 | cons c cs b=>obtain⟨v,d,rfl,h1,h2⟩:=h.cons_inv;exact(b h2).cons h1
theorem B6.get{G:c9}{cs:List AV}{vs:List Value}(h:B6 G cs vs){i:Nat}{c:AV}(hi:cs[i]?=some c):∃ v,vs[i]?=some v/\Rep G c v:=by obtain⟨a,rfl⟩:=an.1 hi;exact⟨vs[i]'(by rw[h.1];exact a),ae _,h.2 i a (by rw[h.1];exact a)⟩
theorem B6.drop{G:c9}{cs:List AV}{vs:List Value}(h:B6 G cs vs)(n:Nat):B6 G (cs.drop n) (vs.drop n):=by refine⟨by simp[h.1],fun i h1 h2=>?_⟩;have:=h.2 (n+i) (by simp at h1;omega) (by simp at h2;omega);simpa using this
theorem B6.take{G:c9}{cs:List AV}{vs:List Value}(h:B6 G cs vs)(n:Nat):B6 G (cs.take n) (vs.take n):=by refine⟨by simp[h.1],fun i h1 h2=>?_⟩;have:=h.2 i (by simp at h1;omega) (by simp at h2;omega);simpa using this
theorem Rep.mono{G G':c9}(e:G.le G'){c:AV}{v:Value}(h:Rep G c v):Rep G' c v:=by
 induction h with
 | any v=>exact .any v
 | sc v=>exact .sc v
 | rsNil=>exact .rsNil
 | rs es a cap size val hs hc hlen himm _ d=>exact .rs es a cap size val hs hc hlen (fun i j h1 h2=>e.cell (himm i j h1 h2)) d
 | rp cs a val hs himm _ d=>exact .rp cs a val hs (fun j h=>e.cell (himm j h)) d
 | ms id size off len p hp hv hz a c ha l hl hsp=>exact .ms id size off len p (e.pl _ _ hp) hv hz a c ha l hl hsp
 | msNil id size p hp hv=>exact .msNil id size p (e.pl _ _ hp) hv
 | mp id i j p hp=>exact .mp id i j p (e.pl _ _ hp)
 | mm id p hp=>exact .mm id p (e.pl _ _ hp)
 | it id p hp=>exact .it id p (e.pl _ _ hp)
 | rm rows b ents himm hlen iJ0 _ d=>exact .rm rows b ents (e.imm _ _ himm) hlen iJ0 d
 | fn f first cap fv cv h1 h2 _ _ g k=>exact .fn f first cap fv cv h1 h2 g k
 | agg cs vs h1 _ d=>exact .agg cs vs h1 d
 | tup cs vs h1 _ d=>exact .tup cs vs h1 d
theorem B6.mono{G G':c9}(a:G.le G'){cs:List AV}{vs:List Value}(h:B6 G cs vs):B6 G' cs vs:=⟨h.1,fun i h1 h2=>(h.2 i h1 h2).mono a⟩
inductive Tr (α:Type) where
 | leaf
 | node (v:Option α) (l r:Tr α)
def Tr.get{α:Type}:Tr α->Nat->Option α
 | .leaf,_=>none
 | .node v _ _,0=>v
 | .node _ l r,k+1=>match k%2 with
  | 0=>l.get (k / 2)
  | _=>r.get (k / 2)
def Tr.setF{α:Type}(v:Option α):Nat->Nat->Tr α->Tr α
 | _,0,.leaf=>.node v .leaf .leaf
 | _,0,.node _ l r=>.node v l r
 | 0,_+1,t=>t
 | f+1,k+1,.leaf=>match k%2 with
  | 0=>.node none (setF v f (k / 2) .leaf) .leaf
  | _=>.node none .leaf (setF v f (k / 2) .leaf)
 | f+1,k+1,.node x l r=>match k%2 with
  | 0=>.node x (setF v f (k / 2) l) r
  | _=>.node x l (setF v f (k / 2) r)
def Tr.set{α:Type}(t:Tr α)(k:Nat)(v:Option α):Tr α:=Tr.setF v k k t
theorem Tr.get_leaf{α:Type}(i:Nat):(Tr.leaf:Tr α).get i=none:=by cases i<;>rfl
theorem Tr.get_setF{α:Type}(v:Option α):∀ (f k:Nat) (t:Tr α) (i:Nat),k<=f->(Tr.setF v f k t).get i=if i=k then v else t.get i
 | f,0,.leaf,i,_=>by
  cases i with
  | zero=>cases f<;>rfl
  | succ i=>
   have:(Tr.setF v f 0 (.leaf:Tr α))=.node v .leaf .leaf:=by cases f<;>rfl
   rw[this,Ae (by omega)];simp only[Tr.get];split<;>simp[Tr.get_leaf]
 | f,0,.node x l r,i,_=>by
  have:(Tr.setF v f 0 (.node x l r))=.node v l r:=by cases f<;>rfl
  rw[this];cases i with
  | zero=>rfl
  | succ i=>rw[Ae (by omega)];rfl
 | 0,k+1,t,i,h=>by omega
 | f+1,k+1,.leaf,i,h=>by
  cases i with
  | zero=>rw[Ae (by omega)];simp only[Tr.setF];split<;>rfl
  | succ i=>
   simp only[Tr.setF];have hk:k / 2<=f:=by omega
   split
   ·rename_i e1
    simp only[Tr.get];split
    ·rename_i e2
     rw[Tr.get_setF v f (k / 2) .leaf (i / 2) hk];by_cases e:i=k
     ·subst e;simp
     rw[Ae (by omega),Ae (by omega)];simp[Tr.get_leaf]
    rename_i e2;replace e2:¬ i%2=0:=e2;rw[Ae (by omega)]
   rename_i e1;replace e1:¬ k%2=0:=e1;simp only[Tr.get];split
   ·rename_i e2
    rw[Ae (by omega)]
   rename_i e2;replace e2:¬ i%2=0:=e2;rw[Tr.get_setF v f (k / 2) .leaf (i / 2) hk];by_cases e:i=k
   ·subst e;simp
   rw[Ae (by omega),Ae (by omega)];simp[Tr.get_leaf]
 | f+1,k+1,.node x l r,i,h=>by
  cases i with
  | zero=>rw[Ae (by omega)];simp only[Tr.setF];split<;>rfl
  | succ i=>
   simp only[Tr.setF];have hk:k / 2<=f:=by omega
   split
   ·rename_i e1
    simp only[Tr.get];split
    ·rename_i e2
     rw[Tr.get_setF v f (k / 2) l (i / 2) hk];by_cases e:i=k
     ·subst e;simp
     rw[Ae (by omega),Ae (by omega)]
    rename_i e2;replace e2:¬ i%2=0:=e2;rw[Ae (by omega)]
   rename_i e1;replace e1:¬ k%2=0:=e1;simp only[Tr.get];split
   ·rename_i e2
    rw[Ae (by omega)]
   rename_i e2;replace e2:¬ i%2=0:=e2;rw[Tr.get_setF v f (k / 2) r (i / 2) hk];by_cases e:i=k
   ·subst e;simp
   rw[Ae (by omega),Ae (by omega)]
theorem Tr.get_set{α:Type}(t:Tr α)(k:Nat)(v:Option α)(i:Nat):(t.set k v).get i=if i=k then v else t.get i:=Tr.get_setF v k k t i (ar _)
structure c8 where
 next:Nat
 tr:Tr j5
 low:Nat:=0
def c8.objs(σ:c8)(i:Nat):Option j5:=σ.tr.get i
def P1(G:c9)(p:Pl):j5->Option Obj->Prop
 | .row elem size es,a=>∃ cs:Array Value,a=some (.cells cs elem (0,0))/\p.size=size/\cs.size=p.cap*size/\es.length<=p.cap /\
   ∀ i (h:i<es.length),es[i].length=size/\∀ j (hj:j<es[i].length) (h':i*size+j<cs.size),Rep G es[i][j] cs[i*size+j]
 | .map agg es clock,a=>∃ ents:Array MapEntry,a=some (.map ents clock)/\ents.size=es.length /\
   ∀ i (h:i<es.length) (h':i<ents.size),ents[i].key=B4 agg es[i].1/\Rep G es[i].2.1 ents[i].val/\ents[i].born=es[i].2.2
 | .siter s pos,a=>a=some (.stringIter s pos)
 | .xrow _ _ _,_=>False
 | .xmap _,_=>False
 | .frow ..,_=>False
 | .xiter _ _,_=>False
 | .miter m since seen stepped,a=>∃ b,a=some (.mapIter b since seen.toArray stepped) /\
   (match m with | none=>b=none | some id=>∃ p,G.pl id=some p/\b=some p.block)
theorem P1.mono{G G':c9}(b:G.le G'){p:Pl}{o:j5}{d:Option Obj}(h:P1 G p o d):P1 G' p o d:=by
 cases o with
 | row elem size es=>obtain⟨cs,h1,h2,a,g,f⟩:=h;exact⟨cs,h1,h2,a,g,fun i hi=>⟨(f i hi).1,fun j hj h'=>((f i hi).2 j hj h').mono b⟩⟩
 | map agg es clock=>obtain⟨ents,h1,h2,a⟩:=h;exact⟨ents,h1,h2,fun i hi h'=>⟨(a i hi h').1,(a i hi h').2.1.mono b,(a i hi h').2.2⟩⟩
 | siter s pos=>exact h
 | xrow e s i=>exact h
 | xmap c=>exact h
 | frow=>exact h
 | xiter s p=>exact h
 | miter m since seen stepped=>
  obtain⟨k,h1,h2⟩:=h;refine⟨k,h1,?_⟩;cases m with
  | none=>exact h2
  | some id=>obtain⟨p,hp,e⟩:=h2;exact⟨p,b.pl _ _ hp,e⟩
theorem P1.isSome{G:c9}{p:Pl}{o:j5}{a:Option Obj}(h:P1 G p o a):a.isSome=true:=by
 cases o with
 | row elem size es=>obtain⟨cs,h1,_⟩:=h;simp[h1]
 | map agg es clock=>obtain⟨ents,h1,_⟩:=h;simp[h1]
 | siter s pos=>simp only[P1]at h;simp[h]
 | xrow e s i=>exact h.elim
 | xmap c=>exact h.elim
 | frow=>exact h.elim
 | xiter s p=>exact h.elim
 | miter m since seen stepped=>obtain⟨b,h1,_⟩:=h;simp[h1]
def Lies(G:c9)(w:World)(p:Pl)(o:j5):Prop :=(p.virt=true/\∃ e s,o=.row e s [])\/(p.virt=false/\G.imm p.block=none/\G.w0.heap.size<=p.block/\P1 G p o w.heap[p.block]?)
class B5 where
 cell:Nat->Nat->Option Value
variable [B5]
structure Rel(G:c9)(σ:c8)(w:World):Prop where
 os:w.os=G.w0.os
 tape:w.tape=G.w0.tape
 output:w.output=G.w0.output
 size:G.w0.heap.size<=w.heap.size
 imm:∀ b o,G.imm b=some o->w.heap[b]?=some o
 fresh:∀ id,σ.next<=id->G.pl id=none
 objs:∀ id o,σ.objs id=some o->∃ p,G.pl id=some p/\Lies G w p o
 sep:∀ i j oi oj pi pj,σ.objs i=some oi->σ.objs j=some oj->G.pl i=some pi->G.pl j=some pj->pi.virt=false->pj.virt=false->pi.block=pj.block->i=j
 glob:∀ b o v,B5.cell b o=some v->G.cell b o=some v
theorem Rel.lt{G:c9}{σ:c8}{w:World}(h:Rel G σ w){b:Nat}{o:Obj}(a:G.imm b=some o):b<w.heap.size:=by
 have:=h.imm b o a;rcases cE b w.heap.size with h' | h'
 ·exact h'
 rw[cO h']at this;cases this
theorem Rel.lies{G:c9}{σ:c8}{w:World}(h:Rel G σ w){id:Nat}{o:j5}{p:Pl}(b:σ.objs id=some o)(hp:G.pl id=some p):Lies G w p o:=by obtain⟨c,a,hl⟩:=h.objs id o b;rw[hp]at a;cases a;exact hl
theorem Rel.real{G:c9}{σ:c8}{w:World}(h:Rel G σ w){id:Nat}{o:j5}{p:Pl}(a:σ.objs id=some o)(hp:G.pl id=some p)(hv:p.virt=false) :
  G.imm p.block=none/\G.w0.heap.size<=p.block/\P1 G p o w.heap[p.block]?:=by
 rcases h.lies a hp with ⟨h1,_⟩ | ⟨_,h2⟩
 ·rw[hv]at h1;cases h1
 exact h2
theorem Rel.obj_lt{G:c9}{σ:c8}{w:World}(h:Rel G σ w){id:Nat}{o:j5}{p:Pl}(a:σ.objs id=some o)(hp:G.pl id=some p)(hv:p.virt=false):p.block<w.heap.size:=by
 have:=(h.real a hp hv).2.2.isSome;rcases cE p.block w.heap.size with h' | h'
 ·exact h'
 rw[cO h']at this;cases this
theorem Rel.id_lt{G:c9}{σ:c8}{w:World}(h:Rel G σ w){id:Nat}{p:Pl}(hp:G.pl id=some p):id<σ.next:=by
 rcases cE id σ.next with h' | h'
 ·exact h'
 rw[h.fresh id h']at hp;cases hp
theorem Rel.cell{G:c9}{σ:c8}{w:World}(h:Rel G σ w){b o:Nat}{v:Value}(hc:G.cell b o=some v):w.cell? ⟨b,o,none⟩=some v:=by
 unfold c9.cell at hc;cases a:G.imm b with
 | none=>simp[a]at hc
 | some x=>have:=h.imm b x a;simp only[a]at hc;cases x<;>simp at hc;simp[World.cell?,this,hc]
theorem Rel.drawn{G:c9}{σ:c8}{w:World}(h:Rel G σ w)(n:Nat):Rel G σ { w with drawn:=n } :=⟨h.os,h.tape,h.output,h.size,h.imm,h.fresh,h.objs,h.sep,h.glob⟩
theorem Rel.less{G:c9}{σ σ':c8}{w:World}(h:Rel G σ w)(a:σ'.next=σ.next)(hf:∀ i o,σ'.objs i=some o->σ.objs i=some o):Rel G σ' w :=⟨h.os,h.tape,h.output,h.size,h.imm,by rw[a];exact h.fresh,fun id o b=>h.objs id o (hf _ _ b),fun i j oi oj pi pj h1 h2=>h.sep i j oi oj pi pj (hf _ _ h1) (hf _ _ h2),h.glob⟩
theorem Rel.next{G:c9}{σ:c8}{w:World}(h:Rel G σ w){n:Nat}(a:σ.next<=n):Rel G { σ with next:=n } w :=⟨h.os,h.tape,h.output,h.size,h.imm,fun id hid=>h.fresh id (bo a hid),h.objs,h.sep,h.glob⟩
def c9.place(G:c9)(id:Nat)(p:Pl):c9:={ G with pl:=fun i=>if i=id then some p else G.pl i }
theorem c9.place_le{G:c9}{id:Nat}{p:Pl}(h:G.pl id=none):G.le (G.place id p) :=
 ⟨rfl,fun _ _ h=>h,fun i q a=>by
  simp only[c9.place];split
  ·rename_i e;subst e;rw[h]at a;cases a
  exact a⟩
theorem c9.place_same(G:c9)(id:Nat)(p:Pl):(G.place id p).pl id=some p:=by simp[c9.place]
def c8.set(σ:c8)(id:Nat)(o:j5):c8:={ σ with tr:=σ.tr.set id (some o),low:=min σ.low id }
def c8.del(σ:c8)(id:Nat):c8:={ σ with tr:=σ.tr.set id none,low:=min σ.low id }
theorem c8.objs_set(σ:c8)(id:Nat)(o:j5)(i:Nat):(σ.set id o).objs i=if i=id then some o else σ.objs i:=Tr.get_set _ _ _ _
theorem c8.objs_del(σ:c8)(id:Nat)(i:Nat):(σ.del id).objs i=if i=id then none else σ.objs i:=Tr.get_set _ _ _ _
@[simp] theorem c8.set_next (σ:c8) (id:Nat) (o:j5):(σ.set id o).next=σ.next:=rfl
@[simp] theorem c8.del_next (σ:c8) (id:Nat):(σ.del id).next=σ.next:=rfl
structure Fr(G:c9)(σ:c8)(w:World)(G':c9)(σ':c8)(w':World):Prop where
 size:w.heap.size<=w'.heap.size
 same:∀ b,b<w.heap.size->(∀ id o p,σ.objs id=some o->G.pl id=some p->p.virt=false->p.block≠b)->w'.heap[b]?=w.heap[b]?
 live:∀ id o p,σ'.objs id=some o->G'.pl id=some p->p.virt=false->p.block<w.heap.size->∃ id0 o0 p0,σ.objs id0=some o0/\G.pl id0=some p0/\p0.virt=false/\p0.block=p.block
 imm:∀ b o,G'.imm b=some o->G.imm b=some o\/w.heap.size<=b\/∃ id0 o0 p0,σ.objs id0=some o0/\G.pl id0=some p0/\p0.virt=false/\p0.block=b
 drawn:w.drawn<=w'.drawn
theorem Fr.refl(G:c9)(σ:c8)(w:World):Fr G σ w G σ w :=⟨ar _,fun _ _ _=>rfl,fun id o p h1 h2 a _=>⟨id,o,p,h1,h2,a,rfl⟩,fun _ _ h=>.inl h,ar _⟩
theorem Fr.trans{m n q:c9}{σ1 c d:c8}{i r s:World}(h:Fr m σ1 i n c r)(k:Fr n c r q d s):Fr m σ1 i q d s:=by
 refine⟨bo h.size k.size,fun b j t=>?_,fun id o p h1 h2 v x=>?_,fun b o j=>?_,bo h.drawn k.drawn⟩
 ·have hs:=h.size
  rw[k.same b (by omega) (fun id o p q1 q2 q3 q4=>?_),h.same b j t];obtain⟨id0,o0,p0,e,f,g,u⟩:=h.live id o p q1 q2 q3 (by omega);exact t id0 o0 p0 e f g (by omega)
 ·have hs:=h.size
  obtain⟨id0,o0,p0,e,f,g,u⟩:=k.live id o p h1 h2 v (by omega);obtain⟨a,o1,p1,t1,t2,t3,t4⟩:=h.live id0 o0 p0 e f g (by omega);exact⟨a,o1,p1,t1,t2,t3,by omega⟩
 have hs:=h.size;rcases k.imm b o j with h1 | h1 | ⟨id0,o0,p0,e,f,g,u⟩
 ·exact h.imm b o h1
 ·exact .inr (.inl (by omega))
 rcases cE b i.heap.size with w | l
 ·obtain⟨a,o1,p1,t1,t2,t3,t4⟩:=h.live id0 o0 p0 e f g (by omega)
  exact .inr (.inr ⟨a,o1,p1,t1,t2,t3,by omega⟩)
 exact .inr (.inl l)
theorem Fr.less{G:c9}{σ σ':c8}{w:World}(hf:∀ i o,σ'.objs i=some o->σ.objs i=some o):Fr G σ w G σ' w :=⟨ar _,fun _ _ _=>rfl,fun id o p h1 h2 a _=>⟨id,o,p,hf _ _ h1,h2,a,rfl⟩,fun _ _ h=>.inl h,ar _⟩
theorem Fr.draws(G:c9)(σ:c8)(w:World)(n:Nat)(a:w.drawn<=n):Fr G σ w G σ { w with drawn:=n } :=⟨ar _,fun _ _ _=>rfl,fun id o p h1 h2 b _=>⟨id,o,p,h1,h2,b,rfl⟩,fun _ _ h=>.inl h,a⟩
theorem Fr.push{G:c9}{σ:c8}{w:World}(obj:Obj)(id:Nat)(hid:G.pl id=none)(p:Pl)(hp:p.virt=false->p.block=w.heap.size)(o:j5)(n:Nat)(c:w.drawn<=n:=by first | exact ar _ | exact aO _ _) :
  Fr G σ w (G.place id p) (σ.set id o) { w with drawn:=n,heap:=w.heap.push obj }:=by
 refine⟨by simp,fun b d _=>?_,fun i x q h1 h2 a f=>?_,fun _ _ h=>.inl h,c⟩
 ·show (w.heap.push obj)[b]?=_
  rw[bu,Ae (by omega)]
 by_cases e:i=id
 ·subst e
  rw[c9.place_same]at h2;cases h2;have:=hp a;omega
 exact⟨i,x,q,by simpa[c8.objs_set,e]using h1,by simpa[c9.place,e]using h2,a,rfl⟩
theorem Fr.virt{G:c9}{σ:c8}{w:World}(id:Nat)(p:Pl)(hp:p.virt=true)(o:j5):Fr G σ w (G.place id p) (σ.set id o) w:=by
 refine⟨ar _,fun _ _ _=>rfl,fun i x q h1 h2 a b=>?_,fun _ _ h=>.inl h,ar _⟩;by_cases e:i=id
 ·subst e
  rw[c9.place_same]at h2;cases h2;rw[hp]at a;cases a
 exact⟨i,x,q,by simpa[c8.objs_set,e]using h1,by simpa[c9.place,e]using h2,a,rfl⟩
theorem Fr.write{G:c9}{σ:c8}{w:World}{id:Nat}{o o':j5}{p:Pl}(d:σ.objs id=some o)(hp:G.pl id=some p)(hv:p.virt=false)(w':World)(c:w'.heap.size=w.heap.size)
  (a:∀ k,k≠p.block->w'.heap[k]?=w.heap[k]?) (g:w.drawn<=w'.drawn:=by exact ar _):Fr G σ w G (σ.set id o') w':=by
 refine⟨by omega,fun b l j=>a b (fun e=>j id o p d hp hv e.symm),fun i x q h1 h2 f m=>?_,fun _ _ h=>.inl h,g⟩;by_cases e:i=id
 ·subst e
  exact⟨i,o,q,d,h2,f,rfl⟩
 exact⟨i,x,q,by simpa[c8.objs_set,e]using h1,h2,f,rfl⟩
theorem Fr.move{G:c9}{σ:c8}{w:World}{id id':Nat}{o o':j5}{p:Pl}(b:σ.objs id=some o)(hp:G.pl id=some p):Fr G σ w (G.place id' p) ((σ.del id).set id' o') w:=by
 refine⟨ar _,fun _ _ _=>rfl,fun i x q h1 h2 a c=>?_,fun _ _ h=>.inl h,ar _⟩;by_cases e:i=id'
 ·subst e
  rw[c9.place_same]at h2;cases h2;exact⟨id,o,p,b,hp,a,rfl⟩
 rw[c8.objs_set,Ae e,c8.objs_del]at h1;split at h1
 ·cases h1
 exact⟨i,x,q,h1,by simpa[c9.place,e]using h2,a,rfl⟩
theorem Rel.push{G:c9}{σ:c8}{w:World}(h:Rel G σ w)(obj:Obj)(id:Nat)(hid:G.pl id=none)(z:id<σ.next)(p:Pl)(hp:p.block=w.heap.size)(hv:p.virt=false)(o:j5)
  (n:P1 (G.place id p) p o (some obj)):Rel (G.place id p) (σ.set id o) { w with heap:=w.heap.push obj }:=by
 have hle:G.le (G.place id p):=c9.place_le hid;have d:∀ k,k<w.heap.size->(w.heap.push obj)[k]?=w.heap[k]?:=fun k hk=>by rw[bu,Ae (by omega)]
 have r:∀ i q,i≠id->(G.place id p).pl i=some q->G.pl i=some q:=fun i q hi c=>by simpa[c9.place,hi]using c
 refine⟨h.os,h.tape,h.output,bo h.size (by simp),fun b x g=>?_,fun i hi=>?_,fun i x a=>?_,fun i j oi oj pi pj h1 h2 l m v1 v2 B=>?_,h.glob⟩
 ·show (w.heap.push obj)[b]?=_
  rw[d b (h.lt g)];exact h.imm b x g
 ·have:i≠id:=by simp at hi;omega
  simp only[c9.place,this,Ah];exact h.fresh i hi
 ·by_cases e:i=id
  ·subst e
   simp[c8.objs_set]at a;subst a;refine⟨p,c9.place_same _ _ _,.inr ⟨hv,?_,by rw[hp];exact h.size,?_⟩⟩
   ·show G.imm p.block=none
    cases g:G.imm p.block with
    | none=>rfl
    | some y=>have:=h.lt g;omega
   show P1 _ p o (w.heap.push obj)[p.block]?;rw[hp,bu,Af rfl];exact n
  simp[c8.objs_set,e]at a;obtain⟨q,c,hl⟩:=h.objs i x a;refine⟨q,hle.pl _ _ c,?_⟩;rcases hl with hl | ⟨f,s,t,u⟩
  ·exact .inl hl
  refine .inr ⟨f,s,t,?_⟩;show P1 _ q x (w.heap.push obj)[q.block]?;rw[d _ (h.obj_lt a c f)];exact u.mono hle
 have aux:∀ i x q,i≠id->(σ.set id o).objs i=some x->(G.place id p).pl i=some q->q.virt=false->σ.objs i=some x/\G.pl i=some q/\q.block<w.heap.size:=fun i x q hi a c hv=>by
  have h1:σ.objs i=some x:=by simpa[c8.objs_set,hi]using a
  have h2:=r i q hi c;exact⟨h1,h2,h.obj_lt h1 h2 hv⟩
 by_cases e1:i=id<;>by_cases e2:j=id
 ·rw[e1,e2]
 ·subst e1
  rw[c9.place_same]at l;cases l;have:=(aux j oj pj e2 h2 m v2).2.2;omega
 ·subst e2
  rw[c9.place_same]at m;cases m;have:=(aux i oi pi e1 h1 l v1).2.2;omega
 have v:=aux i oi pi e1 h1 l v1;have a2:=aux j oj pj e2 h2 m v2;exact h.sep i j oi oj pi pj v.1 a2.1 v.2.1 a2.2.1 v1 v2 B
theorem Rel.virt{G:c9}{σ:c8}{w:World}(h:Rel G σ w)(id:Nat)(hid:G.pl id=none)(t:id<σ.next)(p:Pl)(hv:p.virt=true)(e:TypeId)(s:Nat) :
  Rel (G.place id p) (σ.set id (.row e s [])) w:=by
 have hle:G.le (G.place id p):=c9.place_le hid;have a:∀ i q,i≠id->(G.place id p).pl i=some q->G.pl i=some q:=fun i q hi c=>by simpa[c9.place,hi]using c
 refine⟨h.os,h.tape,h.output,h.size,h.imm,fun i hi=>?_,fun i x b=>?_,fun i j oi oj pi pj h1 h2 d f v1 v2 u=>?_,h.glob⟩
 ·have:i≠id:=by simp at hi;omega
  simp only[c9.place,this,Ah];exact h.fresh i hi
 ·by_cases n:i=id
  ·subst n
   simp[c8.objs_set]at b;subst b;exact⟨p,c9.place_same _ _ _,.inl ⟨hv,e,s,rfl⟩⟩
  simp[c8.objs_set,n]at b;obtain⟨q,c,hl⟩:=h.objs i x b;refine⟨q,hle.pl _ _ c,?_⟩;rcases hl with hl | ⟨g,k,l,m⟩
  ·exact .inl hl
  exact .inr ⟨g,k,l,m.mono hle⟩
 have o:i≠id:=fun e=>by subst e;rw[c9.place_same]at d;cases d;rw[hv]at v1;cases v1
 have r:j≠id:=fun e=>by subst e;rw[c9.place_same]at f;cases f;rw[hv]at v2;cases v2
 exact h.sep i j oi oj pi pj (by simpa[c8.objs_set,o]using h1) (by simpa[c8.objs_set,r]using h2) (a _ _ o d) (a _ _ r f) v1 v2 u
theorem Rel.write{G:c9}{σ:c8}{w:World}(h:Rel G σ w){id:Nat}{o o':j5}{p:Pl}(r:σ.objs id=some o)(hp:G.pl id=some p)(hv:p.virt=false)(obj:Obj)(w':World)
  (s:w'.os=w.os) (c:w'.tape=w.tape) (g:w'.output=w.output) (d:w'.heap.size=w.heap.size)
  (a:∀ k,k≠p.block->w'.heap[k]?=w.heap[k]?) (l:w'.heap[p.block]?=some obj) (t:P1 G p o' (some obj)):Rel G (σ.set id o') w':=by
 obtain⟨m,u,_⟩:=h.real r hp hv;refine⟨s.trans h.os,c.trans h.tape,g.trans h.output,by rw[d];exact h.size,fun b x v=>?_,h.fresh,fun i x f=>?_,fun i j oi oj pi pj h1 h2 E H v1 v2 I=>?_,h.glob⟩
 ·rw[a b (fun e=>by rw[e,m]at v;cases v)];exact h.imm b x v
 ·by_cases e:i=id
  ·subst e
   simp[c8.objs_set]at f;subst f;exact⟨p,hp,.inr ⟨hv,m,u,by rw[l];exact t⟩⟩
  simp[c8.objs_set,e]at f;obtain⟨q,D,hl⟩:=h.objs i x f;refine⟨q,D,?_⟩;rcases hl with hl | ⟨n,z,B,C⟩
  ·exact .inl hl
  refine .inr ⟨n,z,B,?_⟩;rw[a q.block (fun J=>e (h.sep i id x o q p f r D hp n hv J))];exact C
 have aux:∀ i x,(σ.set id o').objs i=some x->∃ y,σ.objs i=some y:=fun i x f=>by
  by_cases e:i=id
  ·exact⟨o,by rw[e];exact r⟩
  exact⟨x,by simpa[c8.objs_set,e]using f⟩
 obtain⟨K,L⟩:=aux i oi h1;obtain⟨M,a2⟩:=aux j oj h2;exact h.sep i j K M pi pj L a2 E H v1 v2 I
theorem Rel.move{G:c9}{σ:c8}{w:World}(h:Rel G σ w){id id':Nat}{o:j5}{p:Pl}(k:σ.objs id=some o)(hp:G.pl id=some p)(hid:G.pl id'=none)(v:id'<σ.next) :
  Rel (G.place id' p) ((σ.del id).set id' o) w:=by
 have hle:G.le (G.place id' p):=c9.place_le hid;have z:id≠id':=fun e=>by rw[e,hid]at hp;cases hp
 have back:∀ i x,i≠id'->((σ.del id).set id' o).objs i=some x->i≠id/\σ.objs i=some x:=fun i x hi b=>by
  simp only[c8.objs_set,hi,Ah,c8.objs_del]at b;split at b
  ·cases b
  rename_i e;exact⟨e,b⟩
 have a:∀ i q,i≠id'->(G.place id' p).pl i=some q->G.pl i=some q:=fun i q hi l=>by simpa[c9.place,hi]using l
 have lift:∀ q x,Lies G w q x->Lies (G.place id' p) w q x:=fun q x hl=>by
  rcases hl with hl | ⟨m,n,r,s⟩
  ·exact .inl hl
  exact .inr ⟨m,n,r,s.mono hle⟩
 refine⟨h.os,h.tape,h.output,h.size,h.imm,fun i hi=>?_,fun i x b=>?_,fun i j oi oj pi pj h1 h2 f g v1 v2 t=>?_,h.glob⟩
 ·have:i≠id':=by simp at hi;omega
  simp only[c9.place,this,Ah];exact h.fresh i hi
 ·by_cases e:i=id'
  ·subst e
   simp[c8.objs_set]at b;subst b;exact⟨p,c9.place_same _ _ _,lift _ _ (h.lies k hp)⟩
  obtain⟨_,u⟩:=back i x e b;obtain⟨q,l,hl⟩:=h.objs i x u;exact⟨q,hle.pl _ _ l,lift _ _ hl⟩
 by_cases e1:i=id'<;>by_cases e2:j=id'
 ·rw[e1,e2]
 ·obtain⟨c,d⟩:=back j oj e2 h2
  subst e1;rw[c9.place_same]at f;cases f;exact Am (h.sep j id oj o pj p d k (a j pj e2 g) hp v2 v1 t.symm) c
 ·obtain⟨c,d⟩:=back i oi e1 h1
  subst e2;rw[c9.place_same]at g;cases g;exact Am (h.sep i id oi o pi p d k (a i pi e1 f) hp v1 v2 t) c
 obtain⟨_,c⟩:=back i oi e1 h1;obtain⟨_,d⟩:=back j oj e2 h2;exact h.sep i j oi oj pi pj c d (a i pi e1 f) (a j pj e2 g) v1 v2 t
open Go
structure TI where
 und:TypeDesc
 size:Nat
 zero:Value
 bytes:Nat
 flat:Option Nat:=none
abbrev Tab:=TypeId->Option TI
def TI.isAgg(ti:TI):Bool:=match ti.und with | .struct _ | .array _ _=>true | _=>false
def AV.one:AV->Bool
 | .sc (.agg _) | .sc (.tuple _) | .any | .agg _ | .tup _=>false
 | _=>true
def AV.cells:AV->Option (List AV)
 | .agg cs=>some cs
 | .tup _ | .any | .sc (.agg _) | .sc (.tuple _)=>none
 | x=>some [x]
def AV.ofValue:Value->AV
 | .agg cs=>.agg (cs.toList.map .sc)
 | v=>.sc v
def TI.zeroCells(ti:TI):List AV:=ti.zero.cells.toList.map .sc
structure B7(P:Program)(T:Tab):Prop where
 und:∀ t ti,T t=some ti->P.underlying t=some ti.und
 info:∀ t ti,T t=some ti->∃ i,P.info? t=some i/\i.size=ti.size/\i.bytes=ti.bytes/\i.zero=some ti.zero
 zlen:∀ t ti,T t=some ti->ti.zero.cells.size=ti.size
 flat:∀ t ti n,T t=some ti->ti.flat=some n->P.eqGuardType P.depth t=false/\∀ (az bs:List Int) (w:World),az.length=n->bs.length=n ->
  (dK 10000 t (.agg (az.map (bn .i64)).toArray) (.agg (bs.map (bn .i64)).toArray)).run P w=.ok (az==bs) w /\
  ∀ b,(bp b 10000 t (.agg (az.map (bn .i64)).toArray)).run P w=.ok () w
section
variable {P:Program} {T:Tab} (hT:B7 P T) {t:TypeId} {ti:TI} (h:T t=some ti) (w:World)
include hT h
theorem A5:(underlying t).run P w=.ok ti.und w:=by simp[underlying,hT.und t ti h]
theorem D6:(sizeOf t).run P w=.ok ti.size w:=by obtain⟨i,h1,h2,_⟩:=hT.info t ti h;simp[sizeOf,typeInfo,h1,h2]
theorem V4:(zeroValue t).run P w=.ok ti.zero w:=by obtain⟨i,h1,_,_,a⟩:=hT.info t ti h;simp[zeroValue,typeInfo,h1,a]
theorem cX0:(isAgg t).run P w=.ok ti.isAgg w:=by simp only[isAgg,al,A5 hT h,ah,TI.isAgg];cases ti.und<;>rfl
theorem gM0:∃ i,(typeInfo t).run P w=.ok i w/\i.bytes=ti.bytes:=by obtain⟨i,h1,_,a,_⟩:=hT.info t ti h;exact⟨i,by simp[typeInfo,h1],a⟩
end
theorem Rep.ofValue(G:c9)(v:Value):Rep G (.ofValue v) v:=by
 cases v with
 | agg cs=>have:=Rep.agg (G:=G) (cs.toList.map .sc) cs.toList (by simp) (fun i h h'=>by simp;exact .sc _);simpa[AV.ofValue]using this
 | _=>exact .sc _
theorem B6.sc(G:c9)(vs:List Value):B6 G (vs.map .sc) vs:=⟨by simp,fun i h h'=>by simp;exact .sc _⟩
theorem Rep.cells{G:c9}{c:AV}{cs:List AV}{v:Value}(hc:c.cells=some cs)(h:Rep G c v):B6 G cs v.cells.toList:=by
 cases h with
 | agg d vs h1 h2=>simp[AV.cells]at hc;subst hc;simp[Value.cells];exact⟨h1,h2⟩
 | any=>simp[AV.cells]at hc
 | tup=>simp[AV.cells]at hc
 | sc v=>cases v<;>simp[AV.cells]at hc<;>subst hc<;>exact B6.cons (.sc _) (.nil _)
 | rsNil=>simp[AV.cells]at hc;subst hc;exact B6.cons .rsNil (.nil _)
 | rs es a cap size val hs e hlen himm hrep=>simp[AV.cells]at hc;subst hc;exact B6.cons (.rs es a cap size val hs e hlen himm hrep) (.nil _)
 | rp d a val hs himm hrep=>simp[AV.cells]at hc;subst hc;exact B6.cons (.rp d a val hs himm hrep) (.nil _)
 | ms id size off len p hp hv hz a c ha g hl hsp=>simp[AV.cells]at hc;subst hc;exact B6.cons (.ms id size off len p hp hv hz a c ha g hl hsp) (.nil _)
 | msNil id size p hp hv=>simp[AV.cells]at hc;subst hc;exact B6.cons (.msNil id size p hp hv) (.nil _)
 | mp id i j p hp=>simp[AV.cells]at hc;subst hc;exact B6.cons (.mp id i j p hp) (.nil _)
 | mm id p hp=>simp[AV.cells]at hc;subst hc;exact B6.cons (.mm id p hp) (.nil _)
 | it id p hp=>simp[AV.cells]at hc;subst hc;exact B6.cons (.it id p hp) (.nil _)
 | rm rows b ents himm hlen iJ0 hrep=>simp[AV.cells]at hc;subst hc;exact B6.cons (.rm rows b ents himm hlen iJ0 hrep) (.nil _)
 | fn f first cap fv cv h1 h2 k l=>simp[AV.cells]at hc;subst hc;exact B6.cons (.fn f first cap fv cv h1 h2 k l) (.nil _)
theorem Rep.one{G:c9}{c:AV}{v:Value}(hc:c.one=true)(h:Rep G c v):v.oneCell'=true:=by
 cases h with
 | sc v=>cases v<;>simp[AV.one]at hc<;>rfl
 | _=>first | rfl | simp[AV.one]at hc
def I7(G:c9)(σ:c8)(w:World)(σ':c8)(id:Nat)(v:AV)(r:Result Value):Prop :=∃ G' u w',G.le G'/\(∀ i,i≠id->G.pl i=none->G'.pl i=none)/\r=.ok u w'/\Rep G' v u/\Rel G' σ' w'/\Fr G σ w G' σ' w'
theorem I7.same{G:c9}{σ:c8}{id:Nat}{v:AV}{u:Value}{w:World}(a:Rep G v u)(h:Rel G σ w):I7 G σ w σ id v (.ok u w) :=⟨G,u,w,.refl G,fun _ _ h=>h,rfl,a,h,.refl _ _ _⟩
theorem I7.place{G:c9}{σ σ':c8}{id:Nat}{v:AV}{u:Value}{w w':World}{p:Pl}(hid:G.pl id=none)(a:Rep (G.place id p) v u)(h:Rel (G.place id p) σ' w')(hf:Fr G σ w (G.place id p) σ' w'):I7 G σ w σ' id v (.ok u w') :=⟨G.place id p,u,w',c9.place_le hid,fun i hi b=>by simpa[c9.place,hi]using b,rfl,a,h,hf⟩
theorem I7.less{G:c9}{σ σ1 σ':c8}{id:Nat}{v:AV}{r:Result Value}{w:World}(hf:∀ i o,σ1.objs i=some o->σ.objs i=some o)(h:I7 G σ1 w σ' id v r):I7 G σ w σ' id v r:=by obtain⟨G',u,w',h1,h2,a,b,c,d⟩:=h;exact⟨G',u,w',h1,h2,a,b,c,(Fr.less hf).trans d⟩
theorem uy0{G:c9}{cs:List AV}{vs:Array Value}(h:B6 G cs vs.toList):∀ i (h:i<[cs].length),([cs][i]).length=cs.length/\∀ j (hj:j<([cs][i]).length) (h':i*cs.length+j<vs.size),Rep G ([cs][i][j]) vs[i*cs.length+j]:=by
 intro i hi;have:i=0:=by simpa using hi
 subst this;refine⟨rfl,fun j hj h'=>?_⟩;have:=h.2 j (by simpa using hj) (by simpa using h');simpa using this
theorem lT0{P:Program}{G:c9}{σ:c8}{w:World}(h:Rel G σ w)(t:TypeId)(v:Value)(cs:List AV)(hc:B6 G cs v.cells.toList)(id:Nat)(hid:G.pl id=none)(a:id<σ.next) :
  I7 G σ w (σ.set id (.row t cs.length [cs])) id (.mp id 0 0) ((do pure (.pointer (some (<- newVar t v))):Sem Value).run P w):=by
 let p:Pl:={ block:=w.heap.size,size:=cs.length,cap:=1 }
 have b:=h.push (.cells v.cells t) id hid a p rfl rfl (.row t cs.length [cs]) ⟨v.cells,rfl,rfl,by simpa[p]using hc.1,by simp[p],uy0 (hc.mono (c9.place_le hid))⟩;refine I7.place (p:=p) (w':={ w with heap:=w.heap.push (.cells v.cells t) }) hid ?_ b (Fr.push _ id hid p (fun _=>rfl) _ w.drawn);have:=Rep.mp (G:=G.place id p) id 0 0 p (c9.place_same _ _ _);simpa[p]using this
def fW0(T:Tab)(σ:c8)(id:Nat)(t:TypeId):Option (AV×c8) :=
 match T t with
 | some ti=>some (.mp id 0 0,σ.set id (.row t ti.zeroCells.length [ti.zeroCells]))
 | none=>none
theorem sg0{P:Program}{T:Tab}(hT:B7 P T){G:c9}{σ σ':c8}{w:World}(h:Rel G σ w){t:TypeId}{id:Nat}{v:AV}(hid:G.pl id=none)(a:id<σ.next)
  (ha:fW0 T σ id t=some (v,σ')):I7 G σ w σ' id v ((iS t true (.tuple #[])).run P w):=by
 unfold fW0 at ha;cases b:T t with
 | none=>simp[b]at ha
 | some ti=>simp only[b,ai,bV]at ha;obtain⟨rfl,rfl⟩:=ha;have:=lT0 (P:=P) h t ti.zero ti.zeroCells (B6.sc G _) id hid a;simpa[iS,V4 hT b]using this
def th0(σ:c8)(id:Nat)(t:TypeId)(x:AV):Option (AV×c8) :=
 match x.cells with
 | some cs=>some (.mp id 0 0,σ.set id (.row t cs.length [cs]))
 | none=>none
theorem wx0{P:Program}{G:c9}{σ σ':c8}{w:World}(h:Rel G σ w){t:TypeId}{id:Nat}{x v:AV}{u:Value}(b:Rep G x u)(hid:G.pl id=none)(a:id<σ.next)
  (ha:th0 σ id t x=some (v,σ')):I7 G σ w σ' id v ((Instr.box t u).run P w):=by
 unfold th0 at ha;cases hc:x.cells with
 | none=>simp[hc]at ha
 | some cs=>simp only[hc,ai,bV]at ha;obtain⟨rfl,rfl⟩:=ha;exact lT0 (P:=P) h t u cs (b.cells hc) id hid a
def E6(ti:TI)(cs:List AV)(j:Nat):Option AV :=if ti.isAgg then (if j+ti.size<=cs.length then some (.agg ((cs.drop j).take ti.size))else none)else cs[j]?
def W8(T:Tab)(σ:c8)(t:TypeId)(x:AV):Option AV :=
 match x with
 | .mp id i j=>
  match σ.objs id with
  | some (.row _ _ es)=>match es[i]? with
   | some cs=>match T t with
    | some ti=>E6 ti cs j
    | none=>none
   | none=>none
  | _=>none
 | .rp cs=>match T t with
  | some ti=>E6 ti cs 0
  | none=>none
 | _=>none
theorem L8(b o n:Nat):(iI ⟨b,o,none⟩ n)=⟨b,o+n,none⟩:=by
 unfold iI;split
 ·rename_i h;subst h;rfl
 rfl
theorem Z6{P:Program}{T:Tab}(hT:B7 P T){G:c9}{w:World}{t:TypeId}{ti:TI}(d:T t=some ti)(b o:Nat)(cs:List AV)(val:Nat->Value)(j:Nat)
  (a:∀ k,k<cs.length->w.cell? ⟨b,o+k,none⟩=some (val k)) (hrep:∀ k (hk:k<cs.length),Rep G cs[k] (val k)) {v:AV} (hl:E6 ti cs j=some v) :
  ∃ u,(loadVar t ⟨b,o+j,none⟩).run P w=.ok u w/\Rep G v u:=by
 unfold E6 at hl;by_cases ha:ti.isAgg=true
 ·rw[Af ha]at hl
  split at hl
  ·rename_i hlen
   cases hl;have c:=run_loadCells (P:=P) w ⟨b,o+j,none⟩ ti.size (fun k=>val (j+k)) (fun k hk=>by rw[L8,dy];exact a _ (by omega));refine⟨_,by simp only[loadVar,al,cX0 hT d,ha,Al,D6 hT d,c,ah,ao];rfl,?_⟩;have:=Rep.agg (G:=G) ((cs.drop j).take ti.size) ((bE ti.size).map fun k=>val (j+k)) (by simp;omega) (fun i h h'=>by
    simp at h h';have:=hrep (j+i) (by omega);simpa using this)
   simpa using this
  cases hl
 rw[Ae ha]at hl;obtain⟨hj,rfl⟩:=an.1 hl;refine⟨val j,?_,hrep j hj⟩;simp only[loadVar,al,cX0 hT d,hM _▸ha,ah];simp[run_load,a j hj]
theorem tF0{P:Program}{T:Tab}(hT:B7 P T){G:c9}{σ:c8}{w:World}(h:Rel G σ w){t:TypeId}{id:Nat}{x v:AV}{u:Value}(r:Rep G x u)
  (ha:W8 T σ t x=some v):I7 G σ w σ id v ((ey t u).run P w):=by
 cases r with
 | mp id' i j p hp=>
  simp only[W8]at ha;cases g:σ.objs id' with
  | none=>simp[g]at ha
  | some o=>
   cases o with
   | row elem size es=>
    simp only[g]at ha;cases he:es[i]? with
    | none=>simp[he]at ha
    | some cs=>
     simp only[he]at ha;cases c:T t with
     | none=>simp[c]at ha
     | some ti=>
      simp only[c]at ha;obtain⟨hi,d⟩:=an.1 he;have hv:p.virt=false:=by
       rcases h.lies g hp with ⟨_,e,s,h2⟩ | ⟨h2,_⟩
       ·cases h2;simp at hi
       exact h2
      obtain⟨_,_,cells,z,hs,B,hle,l⟩:=h.real g hp hv;obtain⟨hlen,f⟩:=l i hi;rw[d]at hlen;have hbound:∀ k,k<cs.length->i*size+k<cells.size:=fun k hk=>by rw[B];have:(i+1)*size<=p.cap*size:=aZ _ (by omega);rw[bK]at this;omega
      have:=Z6 hT c (P:=P) (G:=G) (w:=w) p.block (i*p.size) cs (fun k=>cells.getD (i*size+k) default) j
       (fun k hk=>by
        rw[cell_of_row w _ _ cells elem _ z,hs];have:=hbound k hk;simp[this]) (fun k hk=>by
        have n:=f k (by rw[d];exact hk) (hbound k hk);have:=hbound k hk;simp only[d]at n;simpa[this]using n) ha
      obtain⟨u,hu,m⟩:=this;have q:=I7.same (id:=id) (u:=u) m h;simp only[ey,di,al,ao,ah,hu];exact q
   | _=>simp[g]at ha
 | rp cs a val hs himm hrep=>
  simp only[W8]at ha;cases c:T t with
  | none=>simp[c]at ha
  | some ti=>simp only[c]at ha;obtain⟨b,o,s⟩:=a;simp at hs;subst hs;obtain⟨u,hu,m⟩:=Z6 hT c (P:=P) (G:=G) (w:=w) b o cs val 0 (fun k hk=>h.cell (himm k hk)) hrep ha;have q:=I7.same (id:=id) (u:=u) m h;simp only[ey,di,al,ao,ah];rw[cS]at hu;rw[hu];exact q
 | _=>simp[W8]at ha
def nL0(g:Nat):Nat->Option (List Value)
 | 0=>some []
 | n+1=>match nL0 g n,B5.cell g n with
  | some l,some v=>some (l++[v])
  | _,_=>none
theorem jl0{g:Nat}:∀ {n:Nat} {l:List Value},nL0 g n=some l->l.length=n/\∀ i (h:i<l.length),B5.cell g i=some l[i]
 | 0,l,h=>by cases h;exact⟨rfl,fun i h=>by simp at h⟩
 | n+1,l,h=>by
  unfold nL0 at h;split at h
  ·rename_i l0 v h1 h2
   cases h;obtain⟨e1,e2⟩:=jl0 h1;refine⟨by simp[e1],fun i hi=>?_⟩;by_cases hl:i<l0.length
   ·rw[List.getElem_append_left hl];exact e2 i hl
   have:i=n:=by simp at hi;omega
   subst this;rw[List.getElem_append_right (by omega)];simpa[e1]using h2
  cases h
def qb0(T:Tab)(t:TypeId)(g:Nat):Option AV :=
 match T t with
 | some ti=>match nL0 g ti.size with
  | some l=>E6 ti (l.map .sc) 0
  | none=>none
 | none=>none
def cF0:AV->Option Nat
 | .sc (.pointer (some ⟨g,0,none⟩))=>some g
 | _=>none
def aY0(T:Tab)(σ:c8)(t:TypeId)(x:AV):Option AV :=
 match cF0 x with
 | some g=>qb0 T t g
 | none=>W8 T σ t x
theorem iy0{x:AV}{g:Nat}(h:cF0 x=some g):x=.sc (.pointer (some ⟨g,0,none⟩)):=by
 unfold cF0 at h;split at h
 ·cases h;rfl
 cases h
theorem ry0{P:Program}{T:Tab}(hT:B7 P T){G:c9}{σ:c8}{w:World}(h:Rel G σ w){t:TypeId}{id:Nat}{x v:AV}{u:Value}(b:Rep G x u)
  (ha:aY0 T σ t x=some v):I7 G σ w σ id v ((ey t u).run P w):=by
 unfold aY0 at ha;split at ha
 ·rename_i g c
  rw[iy0 c]at b;cases b;unfold qb0 at ha;split at ha
  ·rename_i ti d
   split at ha
   ·rename_i l hl
    obtain⟨e1,e2⟩:=jl0 hl;obtain⟨u,hu,e⟩:=Z6 hT d (P:=P) (G:=G) (w:=w) g 0 (l.map .sc) (fun k=>l.getD k undef) 0 (fun k hk=>by
     have a:k<l.length:=by simpa using hk
     rw[aG];refine h.cell (h.glob _ _ _ ?_);rw[e2 k a];simp[a]) (fun k hk=>by
     have a:k<l.length:=by simpa using hk
     simp only[cd];have:l.getD k undef=l[k]:=by simp[a]
     rw[this];exact .sc _) ha
    have q:=I7.same (id:=id) (u:=u) e h;simp only[ey,di,al,ao,ah];rw[cS]at hu;rw[hu];exact q
   cases ha
  cases ha
 exact tF0 hT h b ha
def D0(w:World)(b:Nat)(o:Obj):World:={ w with heap:=w.heap.setIfInBounds b o }
theorem C2(w:World)(b:Nat)(o:Obj):(D0 w b o).heap.size=w.heap.size:=by simp[D0]
theorem A9(w:World)(b:Nat)(o:Obj)(k:Nat)(h:k≠b):(D0 w b o).heap[k]?=w.heap[k]?:=by simp[D0,bQ];intro h';exact Am h'.symm h
theorem L7(w:World)(b:Nat)(o x:Obj)(h:w.heap[b]?=some x):(D0 w b o).heap[b]?=some o:=by
 have:b<w.heap.size:=by
  rcases cE b w.heap.size with h' | h'
  ·exact h'
  rw[cO h']at h;cases h
 simp[D0,bQ,this]
theorem iQ0(w:World)(b o:Nat)(v:Value)(cs:Array Value)(t:TypeId)(h:w.heap[b]?=some (.cells cs t (0,0))) :
  w.setCell ⟨b,o,none⟩ v=D0 w b (.cells (cs.setIfInBounds o v) t (0,0)):=by
 have a:b<w.heap.size:=by
  rcases cE b w.heap.size with h' | h'
  ·exact h'
  rw[cO h']at h;cases h
 unfold World.setCell D0;congr 1;apply gg
 ·simp
 intro i h1 h2;have hi:i<w.heap.size:=by simpa using h2
 rw[Array.getElem_modify,dD hi];by_cases e:b=i
 ·subst e
  have:w.heap[b]=.cells cs t (0,0):=by simpa[aS a]using h
  simp[this]
 simp[e]
theorem kk0(w:World)(b:Nat)(x y:Obj):D0 (D0 w b x) b y=D0 w b y:=by simp[D0]
theorem J5{P:Program}(b:Nat)(off:Nat)(t:TypeId):∀ (vs:List Value) (i:Nat) (cs:Array Value) (w:World),w.heap[b]?=some (.cells cs t (0,0))->off+i+vs.length<=cs.size ->
  (∀ v∈vs,v.oneCell'=true)->∃ a:Array Value,(storeCells ⟨b,off,none⟩ vs i).run P w=.ok () (D0 w b (.cells a t (0,0)))/\a.size=cs.size /\
   ∀ k,a[k]?=if off+i<=k/\k<off+i+vs.length then vs[k-(off+i)]? else cs[k]?
 | [],i,cs,w,c,_,_=>by
  refine⟨cs,?_,rfl,fun k=>by simp;intro h1 h2;omega⟩;have:D0 w b (.cells cs t (0,0))=w:=by
   have f:b<w.heap.size:=by
    rcases cE b w.heap.size with h' | h'
    ·exact h'
    rw[cO h']at c;cases c
   have h:w.heap[b]=.cells cs t (0,0):=by simpa[aS f]using c
   unfold D0;congr 1;apply gg
   ·simp
   intro j h1 h2;rw[dD h2];by_cases e:b=j
   ·subst e;simp[h]
   simp[e]
  rw[this];simp[storeCells]
 | v::vs,i,cs,w,c,hlen,d=>by
  simp only[ax]at hlen;have hc:w.cell? ⟨b,off+i,none⟩=some (cs[off+i]'(by omega)):=by rw[cell_of_row w _ _ cs t _ c];exact aS _
  have g:w.frozen? ⟨b,off+i,none⟩=false:=frozen_of_row w b _ cs t c;have hst:(store (iI ⟨b,off,none⟩ i) v).run P w=.ok () (w.setCell ⟨b,off+i,none⟩ v):=by rw[L8,run_store P w _ v .plain (d v (by simp)),hc];simp[g]
  rw[iQ0 w b _ v cs t c]at hst;obtain⟨a,h1,h2,l⟩:=J5 (P:=P) b off t vs (i+1) (cs.setIfInBounds (off+i) v) (D0 w b (.cells (cs.setIfInBounds (off+i) v) t (0,0)))
   (L7 w b _ _ c) (by simp;omega) (fun u hu=>d u (by simp[hu]))
  refine⟨a,?_,by rw[h2];simp,fun k=>?_⟩
  ·simp only[storeCells,al,hst,ah,h1,kk0]
  rw[l k];by_cases e:k=off+i
  ·subst e
   rw[Ae (by omega),Af (by simp),bQ,Af rfl,Af (by omega)];simp
  by_cases e2:off+(i+1)<=k/\k<off+(i+1)+vs.length
  ·rw[Af e2,Af (by simp;omega)]
   obtain⟨n,m⟩:∃ n,k-(off+i)=n+1:=⟨k-(off+i)-1,by omega⟩;rw[m];simp;congr 1;omega
  rw[Ae e2,Ae (by simp;omega),bQ,Ae (by omega)]
def P7(cs:List AV)(j:Nat)(vs:List AV):List AV:=cs.take j++vs++cs.drop (j+vs.length)
theorem fj0(cs:List AV)(j:Nat)(vs:List AV)(h:j+vs.length<=cs.length)(k:Nat):(P7 cs j vs)[k]?=if j<=k/\k<j+vs.length then vs[k-j]? else cs[k]?:=by
 unfold P7;rw[df,cm];simp only[hY];by_cases h1:k<min j cs.length
 ·rw[Af h1,Ae (by omega),eV,Af (by omega)]
 rw[Ae h1,cm];by_cases h2:k-min j cs.length<vs.length
 ·rw[Af h2,Af (by omega)];congr 1;omega
 rw[Ae h2,Ae (by omega),gM];congr 1;omega
theorem kc0(cs:List AV)(j:Nat)(vs:List AV)(h:j+vs.length<=cs.length):(P7 cs j vs).length=cs.length:=by simp[P7];omega
def X2(T:Tab)(σ:c8)(t:TypeId)(x v:AV):Option c8 :=
 match x,v.cells,T t with
 | .mp id i j,some vs,some ti=>
  match σ.objs id with
  | some (.row elem size es)=>match es[i]? with
   | some cs=>if vs.length=ti.size/\j+vs.length<=cs.length/\vs.all AV.one=true then some (σ.set id (.row elem size (es.set i (P7 cs j vs))))else none
   | none=>none
  | _=>none
 | _,_,_=>none
theorem lC0{G:c9}{size:Nat}{es:List (List AV)}{cells:Array Value}(a:∀ i (h:i<es.length),es[i].length=size/\∀ j (hj:j<es[i].length) (h':i*size+j<cells.size),Rep G es[i][j] cells[i*size+j])
  {i j:Nat} {c:AV} {cs:List AV} (he:es[i]?=some cs) (hc:cs[j]?=some c) {v:Value} (hv:cells[i*size+j]?=some v):Rep G c v:=by
 obtain⟨hi,rfl⟩:=an.1 he;obtain⟨hj,rfl⟩:=an.1 hc;obtain⟨hk,rfl⟩:=aN.1 hv;exact(a i hi).2 j hj hk
theorem tK0{i a size j b:Nat}(h:i*size+j=a*size+b)(hj:j<size)(c:b<size):i=a/\j=b:=by
 have h1:(i*size+j) / size=i:=by rw[dj,iA (by omega),il hj];simp
 have h2:(a*size+b) / size=a:=by rw[dj,iA (by omega),il c];simp
 have:i=a:=by rw[<- h1,<-h2,h]
 subst this;exact⟨rfl,by omega⟩
theorem re0{P:Program}{T:Tab}(hT:B7 P T){G:c9}{σ σ':c8}{w:World}(h:Rel G σ w){t:TypeId}{x v:AV}{u y:Value}(S:Rep G x u)(U:Rep G v y)
  (ha:X2 T σ t x v=some σ'):∃ w',(iB t u y).run P w=.ok () w'/\Rel G σ' w'/\Fr G σ w G σ' w':=by
 unfold X2 at ha;split at ha
 ·rename_i id i j vs ti l V
  split at ha
  ·rename_i elem size es H
   split at ha
   ·rename_i cs he
    split at ha
    ·rename_i m
     obtain⟨h1,h2,O⟩:=m;cases ha;cases S with
     | mp id i j p hp=>
     have a:=U.cells l;obtain⟨hi,I⟩:=an.1 he;have hv:p.virt=false:=by
      rcases h.lies H hp with ⟨_,e,s,h2⟩ | ⟨h2,_⟩
      ·cases h2;simp at hi
      exact h2
     obtain⟨_,_,cells,Q,hs,R,hle,c⟩:=h.real H hp hv;have hlen:cs.length=size:=by rw[<- I];exact(c i hi).1
     have q:(i+1)*size<=cells.size:=by rw[R];exact aZ _ (by omega)
     rw[bK]at q;obtain⟨n,r,J,N6⟩:=J5 (P:=P) p.block (i*p.size+j) elem y.cells.toList 0 cells w Q (by rw[a.1,hs];omega)
      (fun z hz=>by
       obtain⟨k,hk,rfl⟩:=aJ hz;have B:k<vs.length:=by rw[<- a.1];exact hk
       exact(a.2 k B hk).one (by rw[ak]at O;exact O _ (aq B)))
     refine⟨D0 w p.block (.cells n elem (0,0)),?_,h.write H hp hv (.cells n elem (0,0)) _ rfl rfl rfl (C2 _ _ _) (fun k hk=>A9 _ _ _ _ hk) (L7 _ _ _ _ Q) ⟨n,rfl,hs,by rw[J,R],by simp;exact hle,fun d K=>?_⟩,Fr.write H hp hv _ (C2 _ _ _) (fun k hk=>A9 _ _ _ _ hk)⟩
     ·simp only[iB,di,al,ao,ah,storeVar,D6 hT V]
      rw[Ae (by have:=a.1;simp at this ⊢;omega)];simpa using r
     have o:d<es.length:=by simpa using K
     have C:((es.set i (P7 cs j vs))[d]).length=size:=by
      rw[List.getElem_set];split
      ·rw[kc0 _ _ _ h2,hlen]
      exact(c d o).1
     refine⟨C,fun f L hk=>?_⟩;have D:f<size:=by rw[<- C];exact L
     have g:=N6 (d*size+f);rw[aS hk]at g;have W:y.cells.toList.length=vs.length:=a.1;simp only[cS,W,hs]at g;by_cases e:d=i
     ·subst e
      have E:=fj0 cs j vs h2 f;have b:((es.set d (P7 cs j vs))[d])[f]?=some ((es.set d (P7 cs j vs))[d][f]):=ae _;simp only[List.getElem_set_self]at b;rw[E]at b;by_cases e2:j<=f/\f<j+vs.length
      ·rw[Af e2]at b
       rw[Af (by omega)]at g;have:d*size+f-(d*size+j)=f-j:=by omega
       rw[this]at g;obtain⟨z,M,N⟩:=a.get b;rw[M]at g;cases g;simpa using N
      rw[Ae e2]at b;rw[Ae (by omega)]at g;have:=lC0 c he b g.symm;simpa using this
     rw[Ae (fun X=>by
      have:d*size+f=i*size+(d*size+f-i*size):=by omega
      exact e (tK0 this D (by omega)).1)]at g
     have b:(es[d])[f]?=some (es[d][f]'(by rw[(c d o).1];exact D)):=ae _;have:=lC0 c (ae o) b g.symm;simp only[List.getElem_set_ne (Ne.symm e)];exact this
    cases ha
   cases ha
  cases ha
 cases ha
def N5(T:Tab)(s:TypeId)(x:AV)(field:Nat):Option AV :=
 match T s with
 | some { und:=.struct fields,.. }=>
  match fields[field]? with
  | some f=>match T f.type with
   | some a=>if a.size=0 then none else
    match x with
    | .mp id i j=>some (.mp id i (j+f.offset))
    | .rp cs=>if f.offset<=cs.length then some (.rp (cs.drop f.offset))else none
    | _=>none
   | none=>none
  | none=>none
 | _=>none
theorem Rep.rp_drop{G:c9}{cs:List AV}{b o:Nat}(h:Rep G (.rp cs) (.pointer (some ⟨b,o,none⟩)))(n:Nat)(c:n<=cs.length):Rep G (.rp (cs.drop n)) (.pointer (some ⟨b,o+n,none⟩)):=by
 cases h with
 | rp cs a val hs himm hrep=>
  refine .rp _ _ (fun j=>val (n+j)) rfl (fun j hj=>?_) (fun j hj=>?_)
  ·grind
  grind
theorem kz0{P:Program}{T:Tab}(hT:B7 P T){G:c9}{σ:c8}{w:World}(h:Rel G σ w){s:TypeId}{id field:Nat}{x v:AV}{u:Value}(d:Rep G x u)
  (ha:N5 T s x field=some v):I7 G σ w σ id v ((fY s u field).run P w):=by
 unfold N5 at ha;split at ha
 ·rename_i fields size zero bytes _ hs
  split at ha
  ·rename_i f hf
   split at ha
   ·rename_i l e
    split at ha
    ·cases ha
    rename_i g;have key:∀ b o,u=.pointer (some ⟨b,o,none⟩)->(fY s u field).run P w=.ok (.pointer (some ⟨b,o+f.offset,none⟩)) w:=fun b o hu=>by subst hu;simp only[fY,al,A5 hT hs,ah,hf,di,ao,fieldPlace,D6 hT e];rw[Ae g];simp[L8]
    split at ha
    ·rename_i id' i j
     cases ha;cases d with
     | mp _ _ _ p hp=>grind [I7.same,Rep.mp,dy]
    ·split at ha
     ·rename_i cs hle
      cases ha;have k:=d;cases d with
      | rp cs a val c himm hrep=>obtain⟨b,o,sp⟩:=a;simp at c;subst c;rw[key _ _ rfl];exact I7.same (k.rp_drop _ hle) h
     cases ha
    cases ha
   cases ha
  cases ha
 cases ha
def ky0(T:Tab)(t:TypeId)(cs:List AV)(off:Nat):Option AV :=
 match T t with
 | some ti=>E6 ti cs off
 | none=>none
theorem on0{P:Program}{T:Tab}(hT:B7 P T){G:c9}{w:World}{t:TypeId}{cs:List AV}{vs:List Value}(b:B6 G cs vs){off:Nat}{v:AV}(ha:ky0 T t cs off=some v) :
  ∃ u,(part t vs.toArray off).run P w=.ok u w/\Rep G v u:=by
 unfold ky0 at ha;split at ha
 ·rename_i ti d
  unfold E6 at ha;by_cases a:ti.isAgg=true
  ·rw[Af a]at ha
   split at ha
   ·rename_i hlen
    cases ha;refine⟨_,by simp only[part,al,cX0 hT d,a,Al,D6 hT d,ah,ao];rfl,?_⟩;have c:=(b.drop off).take ti.size;have:=Rep.agg (G:=G) _ _ c.1 c.2
    grind
   cases ha
  rw[Ae a]at ha;obtain⟨u,hu,c⟩:=b.get ha;refine⟨u,?_,c⟩;simp only[part,al,cX0 hT d,hM _▸a,ah];simp[hu]
 cases ha
def hS0(T:Tab)(s:TypeId)(x:AV)(field:Nat):Option AV :=
 match T s,x with
 | some { und:=.struct fields,.. },.agg cs=>match fields[field]? with
  | some f=>ky0 T f.type cs f.offset
  | none=>none
 | _,_=>none
theorem rE0{P:Program}{T:Tab}(hT:B7 P T){G:c9}{σ:c8}{w:World}(h:Rel G σ w){s:TypeId}{id field:Nat}{x v:AV}{u:Value}(a:Rep G x u)
  (ha:hS0 T s x field=some v):I7 G σ w σ id v ((iT s u field).run P w):=by
 unfold hS0 at ha;split at ha
 ·rename_i fields _ _ _ _ cs hs
  split at ha
  ·rename_i f hf
   cases a with
   | agg cs vs h1 h2=>obtain⟨y,b,c⟩:=on0 hT (P:=P) (w:=w) ⟨h1,h2⟩ ha;simp only[iT,al,A5 hT hs,ah,hf,asAgg,ao,b];exact I7.same c h
  cases ha
 cases ha
def A6(T:Tab)(t:TypeId)(x ix:AV):Option AV :=
 match T t,ix with
 | some { und:=.slice elem,.. },.sc (.int _ n)=>
  match T elem with
  | some a=>
   match x with
   | .ms id size off len=>if 0<=n/\n<len/\size=a.size then some (.mp id (off+n.toNat) 0)else none
   | .rs es=>if 0<=n then match es[n.toNat]? with
     | some cs=>if cs.length=a.size then some (.rp cs)else none
     | none=>none else none
   | _=>none
  | none=>none
 | some { und:=.array len elem,.. },.sc (.int _ n)=>
  match T elem with
  | some a=>if 0<=n/\n<len then
    match x with
    | .mp id i j=>some (.mp id i (j+n.toNat*a.size))
    | .rp cs=>if n.toNat*a.size<=cs.length then some (.rp (cs.drop (n.toNat*a.size)))else none
    | _=>none else none
  | none=>none
 | _,_=>none
theorem jX0{P:Program}{T:Tab}(hT:B7 P T){G:c9}{σ:c8}{w:World}(h:Rel G σ w){t:TypeId}{id:Nat}{x ix v:AV}{u y:Value}(d:Rep G x u)(r:Rep G ix y)
  (ha:A6 T t x ix=some v):I7 G σ w σ id v ((dY t u y).run P w):=by
 unfold A6 at ha;split at ha
 ·rename_i elem _ _ _ _ k n f
  split at ha
  ·rename_i g he
   cases r;split at ha
   ·rename_i id' size off len
    split at ha
    ·rename_i l
     obtain⟨s,z,B⟩:=l;cases ha;cases d with
     | msNil=>omega
     | ms _ _ _ _ p hp hv hs a c C hoff hl hsp=>
      rw[C (by omega)];simp only[dY,asIntOf,al,ao,ah,A5 hT f];rw[Af (by omega)];simp only[al,D6 hT he,ah,ao,L8];refine I7.same ?_ h;have:=Rep.mp (G:=G) id' (off+n.toNat) 0 p hp
      grind
    cases ha
   ·rename_i es
    split at ha
    ·rename_i l
     split at ha
     ·rename_i cs m
      split at ha
      ·rename_i hlen
       cases ha;obtain⟨hi,D⟩:=an.1 m;cases d with
       | rsNil=>simp at hi
       | rs es a cap size val hs hc hl himm hrep=>
        have hs:=hs (by omega);obtain⟨b,o,sp⟩:=a;simp at hs;subst hs;have E:g.size=size:=by grind
        simp only[dY,asIntOf,al,ao,ah,A5 hT f];rw[Af (by omega)];simp only[al,D6 hT he,ah,ao,L8];refine I7.same ?_ h;refine .rp _ _ (fun j=>val n.toNat j) rfl (fun j hj=>?_) (fun j hj=>?_)
        ·grind
        grind
      cases ha
     cases ha
    cases ha
   cases ha
  cases ha
 ·rename_i len elem _ _ _ _ k n f
  split at ha
  ·rename_i g he
   cases r;split at ha
   ·rename_i l
    have key:∀ b o,u=.pointer (some ⟨b,o,none⟩)->(dY t u (.int k n)).run P w=.ok (.pointer (some ⟨b,o+n.toNat*g.size,none⟩)) w:=fun b o hu=>by subst hu;simp only[dY,asIntOf,al,ao,ah,A5 hT f,di];rw[Af l];simp[D6 hT he,L8]
    split at ha
    ·rename_i id' i j
     cases ha;cases d with
     | mp _ _ _ p hp=>rw[key _ _ rfl];refine I7.same ?_ h;have:=Rep.mp (G:=G) id' i (j+n.toNat*g.size) p hp;rwa [<- dy]at this
    ·split at ha
     ·rename_i cs hle
      cases ha;have q:=d;cases d with
      | rp cs a val e himm hrep=>obtain⟨b,o,sp⟩:=a;simp at e;subst e;rw[key _ _ rfl];exact I7.same (q.rp_drop _ hle) h
     cases ha
    cases ha
   cases ha
  cases ha
 cases ha
def cE0(T:Tab)(t:TypeId)(x ix:AV):Option AV :=
 match T t,x,ix with
 | some { und:=.array len elem,.. },.agg cs,.sc (.int _ n)=>
  match T elem with
  | some a=>if 0<=n/\n<len then ky0 T elem cs (n.toNat*a.size)else none
  | none=>none
 | some { und:=.string,.. },.sc (.string s),.sc (.int _ n)=>
  if 0<=n then match s[n.toNat]? with
   | some b=>some (.sc (.int .u8 b.toNat))
   | none=>none else none
 | _,_,_=>none
theorem rT0{P:Program}{T:Tab}(hT:B7 P T){G:c9}{σ:c8}{w:World}(h:Rel G σ w){t:TypeId}{id:Nat}{x ix v:AV}{u y:Value}(c:Rep G x u)(d:Rep G ix y)
  (ha:cE0 T t x ix=some v):I7 G σ w σ id v ((gr t u y).run P w):=by
 unfold cE0 at ha;split at ha
 ·rename_i len elem _ _ _ _ cs k n a
  split at ha
  ·rename_i g he
   split at ha
   ·rename_i e
    cases d;cases c with
    | agg cs vs h1 h2=>
     obtain⟨z,hz,i⟩:=on0 hT (P:=P) (w:=w) ⟨h1,h2⟩ ha;simp only[gr,asIntOf,al,ao,ah,A5 hT a]
     grind [al,D6,ah,I7.same]
   cases ha
  cases ha
 ·rename_i _ _ _ _ s k n a
  split at ha
  ·rename_i e
   split at ha
   ·rename_i b f
    cases ha;cases d;cases c;simp only[gr,asIntOf,al,ao,ah,A5 hT a,e,Al,f];exact I7.same (.sc _) h
   cases ha
  cases ha
 cases ha
def bound(len:Nat)(x:Option AV)(a:Nat):Option Nat :=
 match x with
 | none=>some a
 | some (.sc (.int _ n))=>if 0<=n/\n<=len then some n.toNat else none
 | _=>none
def R6(T:Tab)(t:TypeId)(x:AV)(lo hi mx:Option AV):Option AV :=
 match mx,T t with
 | none,some { und:=.slice elem,.. }=>
  match T elem,x with
  | some a,.ms id size off len=>if size=a.size then
    match bound len hi len with
    | some h=>match bound h lo 0 with
     | some l=>some (.ms id size (off+l) (h-l))
     | none=>none
    | none=>none else none
  | some a,.rs es=>match bound es.length hi es.length with
   | some h=>match bound h lo 0 with
    | some l=>if es.all (fun c=>c.length==a.size)then some (.rs ((es.take h).drop l))else none
    | none=>none
   | none=>none
  | some _,.sc (.slice none 0 0)=>match bound 0 hi 0 with
   | some h=>match bound h lo 0 with
    | some _=>some (.sc (.slice none 0 0))
    | none=>none
   | none=>none
  | _,_=>none
 | none,some { und:=.string,.. }=>
  match x with
  | .sc (.string s)=>match bound s.size hi s.size with
   | some h=>match bound h lo 0 with
    | some l=>some (.sc (.string (s.extract l h)))
    | none=>none
   | none=>none
  | _=>none
 | _,_=>none
def pU0(G:c9)(x:Option AV)(v:Option Value):Prop :=
 match x,v with
 | none,none=>True
 | some a,some b=>Rep G a b
 | _,_=>False
theorem ib0{G:c9}{len d n:Nat}{x:Option AV}{v:Option Value}(f:pU0 G x v)(c:bound len x d=some n) :
  (v=none/\n=d)\/∃ k m,v=some (.int k m)/\0<=m/\m<=len/\n=m.toNat:=by
 cases x with
 | none=>
  cases v with
  | none=>simp[bound]at c;exact .inl ⟨rfl,c.symm⟩
  | some _=>exact f.elim
 | some a=>
  cases v with
  | none=>exact f.elim
  | some b=>
   simp only[pU0]at f;unfold bound at c;split at c
   ·cases ‹some a=none›
   ·rename_i k m e
    cases e;split at c
    ·rename_i hm
     cases c;cases f
     grind
    cases c
   cases c
theorem K1{P:Program}{G:c9}{w:World}(isSlice:Bool){len cap h l:Nat}{hi lo:Option AV}{hv c:Option Value}(g:pU0 G hi hv)(hl:pU0 G lo c)(i:len<=cap)
  (j:bound len hi len=some h) (d:bound h lo 0=some l):(dg isSlice len cap c hv none).run P w=.ok (l,h,cap) w/\h<=len/\l<=h:=by
 rcases ib0 g j with ⟨rfl,rfl⟩ | ⟨k,m,rfl,h1,h2,rfl⟩
 ·rcases ib0 hl d with ⟨rfl,rfl⟩ | ⟨n,e,rfl,b,f,rfl⟩
  ·exact⟨by simp[dg],by omega,by omega⟩
  refine⟨?_,by omega,by omega⟩;simp[dg,fq,asIntOf,b,f]
 have a:m<=(cap:Int):=by omega
 rcases ib0 hl d with ⟨rfl,rfl⟩ | ⟨n,e,rfl,b,f,rfl⟩
 ·exact⟨by simp[dg,fq,asIntOf,h1,a],by omega,by omega⟩
 refine⟨?_,by omega,by omega⟩;have o:e<=max m 0:=by omega
 simp[dg,fq,asIntOf,h1,a,b,o]
theorem qs0{P:Program}{T:Tab}(hT:B7 P T){G:c9}{σ:c8}{w:World}(h:Rel G σ w){t:TypeId}{id:Nat}{x v:AV}{lo hi mx:Option AV}{u:Value}{J hv B:Option Value}(C:Rep G x u)
  (hl:pU0 G lo J) (r:pU0 G hi hv) (hm:pU0 G mx B)
  (ha:R6 T t x lo hi mx=some v):I7 G σ w σ id v ((de t u J hv B).run P w):=by
 unfold R6 at ha;split at ha
 ·rename_i elem _ _ _ _ n
  cases B with
  | some _=>exact hm.elim
  | none=>
  split at ha
  ·rename_i D i size off len he
   split at ha
   case isFalse=>cases ha
   rename_i E;split at ha
   ·rename_i h' f
    split at ha
    ·rename_i l g
     cases ha;cases C with
     | msNil _ _ p hp k=>
      obtain⟨d,q,z⟩:=K1 (P:=P) (w:=w) (cap:=0) true r hl (cP _) f g;obtain rfl:h'=0:=by omega
      obtain rfl:l=0:=by omega
      simp only[de,dZ,al,A5 hT n,ah,d,D6 hT he,ao];exact I7.same (.msNil _ _ p hp k) h
     | ms _ _ _ _ p hp k hz a c L hoff H hsp=>
      obtain⟨d,q,z⟩:=K1 (P:=P) (w:=w) (cap:=c) true r hl H f g;have I:p.size=D.size:=by rw[hz];exact E
      simp only[de,dZ,al,A5 hT n,ah,d,D6 hT he,ao];refine I7.same ?_ h;by_cases e:c=l
      ·rw[Af e]
       exact .ms _ _ _ _ p hp k hz a (c-l) (fun M=>by omega) (by omega) (by omega) hsp
      rw[Ae e,L (by omega)];simp only[aj,L8];exact .ms _ _ _ _ p hp k hz _ (c-l) (fun _=>by rw[<- I,bK]) (by omega) (by omega) rfl
    cases ha
   cases ha
  ·rename_i D es he
   split at ha
   ·rename_i h' f
    split at ha
    ·rename_i l g
     split at ha
     ·rename_i K
      cases ha;cases C with
      | rsNil=>
       obtain⟨d,q,z⟩:=K1 (P:=P) (w:=w) (cap:=0) true r hl (cP _) f g;simp at q;subst q;obtain rfl:l=0:=by omega
       simp only[de,dZ,al,A5 hT n,ah,d,D6 hT he,ao];exact I7.same .rsNil h
      | rs es a cap size val hs hc hlen himm hrep=>
       obtain⟨d,q,z⟩:=K1 (P:=P) (w:=w) (cap:=cap) true r hl hc f g;obtain⟨b,o,sp⟩:=a;simp only[de,dZ,al,A5 hT n,ah,d,D6 hT he,ao];refine I7.same ?_ h;have m:((es.take h').drop l).length=h'-l:=by simp;omega
       have N6:∀ i (hi:i<((es.take h').drop l).length),((es.take h').drop l)[i]=es[l+i]'(by rw[m]at hi;omega):=fun i hi=>by simp
       by_cases e:cap=l
       ·rw[Af e,<-m]
        have N:h'-l=0:=by omega
        exact .rs _ _ _ size val (fun h=>Am (by omega) h) (by rw[m];omega) (fun i hi=>by rw[m]at hi;omega) (fun i j hi=>by rw[m]at hi;omega) (fun i j hi=>by rw[m]at hi;omega)
       rw[Ae e];have hs:=hs (by omega);simp at hs;subst hs;simp only[aj,L8];rw[<- m];refine .rs _ _ _ size (fun i j=>val (l+i) j) (fun _=>rfl) (by rw[m];omega) (fun i hi=>by rw[N6 i hi];exact hlen _ _) (fun i j hi hj=>?_) (fun i j hi hj=>?_)
       ·grind
       grind
     cases ha
    cases ha
   cases ha
  ·rename_i D he
   split at ha
   ·rename_i h' f
    split at ha
    ·rename_i l g
     cases ha;cases C;obtain⟨d,q,z⟩:=K1 (P:=P) (w:=w) (cap:=0) true r hl (cP _) f g;obtain rfl:h'=0:=by omega
     obtain rfl:l=0:=by omega
     simp only[de,dZ,al,A5 hT n,ah,d,D6 hT he,ao];exact I7.same (.sc _) h
    cases ha
   cases ha
  cases ha
 ·rename_i _ _ _ _ n
  cases B with
  | some _=>exact hm.elim
  | none=>
  split at ha
  ·rename_i s
   split at ha
   ·rename_i h' f
    split at ha
    ·rename_i l g
     cases ha;cases C;obtain⟨d,q,z⟩:=K1 (P:=P) (w:=w) (cap:=s.size) false r hl (ar _) f g;simp only[de,dZ,al,A5 hT n,ah,Option.isSome_none,au,Ah,d,ao];exact I7.same (.sc _) h
    cases ha
   cases ha
  cases ha
 cases ha
def uu0(op:BinOp)(x y:Value):Option Value :=
 match x,y with
 | .int k a,.int c b=>
  match op with
  | .shl=>if b<0 then none else some (.int k (k.wrap (a*2^(min b.toNat k.bits))))
  | .shr=>if b<0 then none else some (.int k (a.fdiv (2^(min b.toNat k.bits))))
  | _=>if k≠c then none else
   match op with
   | .add=>some (.int k (k.wrap (a+b)))
   | .sub=>some (.int k (k.wrap (a-b)))
   | .mul=>some (.int k (k.wrap (a*b)))
   | .quo=>if b=0 then none else some (.int k (k.wrap (a.tdiv b)))
   | .rem=>if b=0 then none else some (.int k (a.tmod b))
   | .and=>some (.int k (k.wrap (cB k.bits a &&& cB k.bits b).toNat))
   | .or=>some (.int k (k.wrap (cB k.bits a ||| cB k.bits b).toNat))
   | .xor=>some (.int k (k.wrap (cB k.bits a ^^^ cB k.bits b).toNat))
   | .andNot=>some (.int k (k.wrap (cB k.bits a &&& ~~~(cB k.bits b)).toNat))
   | .eql=>some (.bool (a==b))
   | .neq=>some (.bool (a != b))
   | .lss=>some (.bool (a<b))
   | .leq=>some (.bool (a<=b))
   | .gtr=>some (.bool (a > b))
   | .geq=>some (.bool (a>=b))
   | _=>none
 | .string a,.string b=>
  match op with
  | .add=>if ((a.size+b.size:Nat):Int) > aa.max then none else some (.string (a++b))
  | .eql=>some (.bool (a.toList==b.toList))
  | .neq=>some (.bool !(a.toList==b.toList))
  | _=>none
 | _,_=>none
theorem wZ0{P:Program}{w:World}{op:BinOp}{t:TypeId}{x y v:Value}{d e:Operand}(h:uu0 op x y=some v) :
  (do eqGuard op t d e x y;binOp op t x y:Sem Value).run P w=.ok v w:=by
 unfold uu0 at h;split at h
 ·rename_i k a i b
  have f:(eqGuard op t d e (.int k a) (.int i b)).run P w=.ok () w:=by unfold eqGuard;simp
  simp only[al,f,ah];cases op
  case shl=>
   simp only[]at h;split at h
   ·cases h
   rename_i c;cases h;simp[binOp,Op.shift,c]
  case shr=>
   simp only[]at h;split at h
   ·cases h
   rename_i c;cases h;simp[binOp,Op.shift,c]
  all_goals
   simp only[]at h;split at h
   ·cases h
   rename_i c;obtain rfl:k=i:=Classical.not_not.1 c
  case h_1.quo.isFalse=>
   split at h
   ·cases h
   rename_i g;cases h;simp[binOp,Op.intDiv,g]
  case h_1.rem.isFalse=>
   split at h
   ·cases h
   rename_i g;cases h;simp[binOp,Op.intDiv,g]
  all_goals
   cases h;simp[binOp,jq,Op.intBits,Op.intCmp]
 ·rename_i a b
  have f:(eqGuard op t d e (.string a) (.string b)).run P w=.ok () w:=by unfold eqGuard;simp
  simp only[al,f,ah];cases op<;>simp only[]at h<;>first
   | (cases h;done)
   | (cases h;simp[binOp,jr];done)
   | (split at h<;>first | (cases h;done) | (rename_i c;cases h;simp only[binOp,jr];rw[Ae c];rfl))
 cases h
theorem AV.i64s_ok{G:c9}:∀ {cs:List AV} {l:List Int} {vs:List Value},AV.i64s cs=some l->B6 G cs vs->vs=l.map (bn .i64)
 | [],l,vs,h,a=>by simp[AV.i64s]at h;subst h;rw[a.nil_inv];rfl
 | c::cs,l,vs,h,a=>by
  obtain⟨v,b,rfl,h1,h2⟩:=a.cons_inv;unfold AV.i64s at h;split at h
  ·rename_i e;cases e
  ·rename_i n d e
   cases e;split at h
   ·rename_i f hl
    cases h;cases h1;rw[AV.i64s_ok hl h2];rfl
   cases h
  cases h
def AV.isNil:AV->Option Bool
 | .sc (.slice none 0 0)=>some true
 | .rs (_::_)=>some false
 | .ms _ _ _ (_+1)=>some false
 | _=>none
theorem AV.isNil_ok{G:c9}{x:AV}{u:Value}{b:Bool}(h:x.isNil=some b)(d:Rep G x u):∃ a l c,u=.slice a l c/\a.isNone=b:=by
 unfold AV.isNil at h;split at h
 ·cases h;cases d;exact⟨_,_,_,rfl,rfl⟩
 ·cases h
  cases d;exact⟨_,_,_,rfl,rfl⟩
 ·cases h
  cases d;exact⟨_,_,_,rfl,rfl⟩
 cases h
theorem aQ0{P:Program}(w:World)(d:Nat)(t elem:TypeId)(a:Option Addr)(l c:Nat)(hu:P.underlying t=some (.slice elem)) :
  (dK (d+1) t (.slice a l c) (.slice none 0 0)).run P w=.ok a.isNone w:=by
 cases a with
 | none=>simp[dK,underlying,hu]
 | some a=>simp[dK,underlying,hu]
def iR0(T:Tab)(op:BinOp)(t:TypeId)(x y:AV):Option AV :=
 match x,y with
 | x,.sc (.slice none 0 0)=>
  match T t,x.isNil with
  | some { und:=.slice _,.. },some b=>match op with
   | .eql=>some (.sc (.bool b))
   | .neq=>some (.sc (.bool !b))
   | _=>none
  | _,_=>none
 | .sc (.bool a),.sc (.bool b)=>
  match T t with
  | some { und:=.bool,.. }=>match op with
   | .eql=>some (.sc (.bool (a==b)))
   | .neq=>some (.sc (.bool !(a==b)))
   | _=>none
  | _=>none
 | .sc a,.sc b=>match uu0 op a b with
  | some v=>some (.sc v)
  | none=>none
 | .agg cs,.agg c=>
  match AV.i64s cs,AV.i64s c,T t with
  | some az,some bs,some ti=>if ti.flat=some az.length/\bs.length=az.length then
    match op with
    | .eql=>some (.sc (.bool (az==bs)))
    | .neq=>some (.sc (.bool !(az==bs)))
    | _=>none else none
  | _,_,_=>none
 | _,_=>none
theorem xs0{P:Program}{T:Tab}(hT:B7 P T){G:c9}{σ:c8}{w:World}(h:Rel G σ w){op:BinOp}{t:TypeId}{id:Nat}{x y v:AV}{u z:Value}{g i:Operand}(j:Rep G x u)(k:Rep G y z)
  (ha:iR0 T op t x y=some v):I7 G σ w σ id v ((do eqGuard op t g i u z;binOp op t u z:Sem Value).run P w):=by
 unfold iR0 at ha;split at ha
 ·cases k
  split at ha
  ·rename_i e s
   obtain⟨a,l,c,rfl,r⟩:=AV.isNil_ok s j;have f:(eqGuard op t g i (.slice a l c) (.slice none 0 0)).run P w=.ok () w:=by unfold eqGuard;simp
   simp only[al,f,ah];have hu:=hT.und t _ e;split at ha
   ·cases ha
    simp only[binOp,eK,dw,al,aQ0 w 9999 t _ a l c hu,ah,ao,r];exact I7.same (.sc _) h
   ·cases ha
    simp only[binOp,eK,dw,al,aQ0 w 9999 t _ a l c hu,ah,ao,r];exact I7.same (.sc _) h
   cases ha
  cases ha
 ·rename_i a b
  cases j;cases k;have f:(eqGuard op t g i (.bool a) (.bool b)).run P w=.ok () w:=by unfold eqGuard;simp
  simp only[al,f,ah];split at ha
  ·rename_i e
   have hu:=hT.und t _ e;split at ha
   ·cases ha
    simp only[binOp,eK,dw,al,run_equalIn_bool' w 9999 t a b hu,ah,ao];exact I7.same (.sc _) h
   ·cases ha
    simp only[binOp,eK,dw,al,run_equalIn_bool' w 9999 t a b hu,ah,ao];exact I7.same (.sc _) h
   cases ha
  cases ha
 ·rename_i a b _
  cases j;cases k;split at ha
  ·rename_i B hv
   cases ha;rw[wZ0 hv];exact I7.same (.sc _) h
  cases ha
 ·rename_i cs C
  split at ha
  ·rename_i az bs ti h1 h2 e
   split at ha
   ·rename_i hc
    obtain⟨hf,hlen⟩:=hc;obtain⟨m,heq⟩:=hT.flat t ti _ e hf;cases j with
    | agg _ xs n o=>
    cases k with
    | agg _ ys p q=>
    have e1:=AV.i64s_ok h1 ⟨n,o⟩;have e2:=AV.i64s_ok h2 ⟨p,q⟩;subst e1 e2;have d:=(heq az bs w rfl hlen).1;have f:(eqGuard op t g i (.agg (az.map (bn .i64)).toArray) (.agg (bs.map (bn .i64)).toArray)).run P w=.ok () w:=by unfold eqGuard;simp[m]
    simp only[al,f,ah];split at ha
    ·cases ha
     simp only[binOp,eK,dw,al,d,ah,ao];exact I7.same (.sc _) h
    ·cases ha
     simp only[binOp,eK,dw,al,d,ah,ao];exact I7.same (.sc _) h
    cases ha
   cases ha
  cases ha
 cases ha
def aUn(op:UnOp)(x:AV):Option AV :=
 match op,x with
 | .neg,.sc (.int k n)=>some (.sc (.int k (k.wrap (0-n))))
 | .not,.sc (.bool b)=>some (.sc (.bool !b))
 | _,_=>none
theorem aUn_ok{P:Program}{G:c9}{σ:c8}{w:World}(h:Rel G σ w){op:UnOp}{id:Nat}{x v:AV}{u:Value}(a:Rep G x u)(ha:aUn op x=some v) :
  I7 G σ w σ id v ((jb op u).run P w):=by
 unfold aUn at ha;split at ha
 ·cases ha;cases a
  simp only[jb,jq,ao];exact I7.same (.sc _) h
 ·cases ha;cases a
  simp only[jb,ao];exact I7.same (.sc _) h
 cases ha
def jE0(T:Tab)(src dst:TypeId)(x:AV):Option AV :=
 match T src,T dst,x with
 | some _,some { und:=.int k,.. },.sc (.int _ n)=>some (.sc (.int k (k.wrap n)))
 | _,_,_=>none
theorem ty0{P:Program}{T:Tab}(hT:B7 P T){G:c9}{σ:c8}{w:World}(h:Rel G σ w){src dst:TypeId}{id:Nat}{x v:AV}{u:Value}(a:Rep G x u)(ha:jE0 T src dst x=some v) :
  I7 G σ w σ id v ((convert src dst u).run P w):=by
 unfold jE0 at ha;split at ha
 ·rename_i c k _ _ _ _ d n hs b
  cases ha;cases a;simp only[convert,al,A5 hT hs,A5 hT b,ah,Conv.intToInt,ao];exact I7.same (.sc _) h
 cases ha
def cr0(x:AV)(i:Nat):Option AV :=
 match x with
 | .tup vs=>vs[i]?
 | _=>none
theorem mn0{P:Program}{G:c9}{σ:c8}{w:World}(h:Rel G σ w){i id:Nat}{x v:AV}{u:Value}(a:Rep G x u)(ha:cr0 x i=some v) :
  I7 G σ w σ id v ((iC u i).run P w):=by
 unfold cr0 at ha;split at ha
 ·cases a with
  | tup cs vs h1 h2=>obtain⟨z,hz,b⟩:=B6.get (G:=G) ⟨h1,h2⟩ ha;simp only[iC,cz,hz,ao];exact I7.same b h
 cases ha
def ez0(place:Nat->Option (Nat×Nat))(cells:List AV):List (Nat×AV)->Option (List AV)
 | []=>some cells
 | (i,v)::rest=>
  match place i,v.cells with
  | some (off,size),some vs=>if vs.length=size/\off+vs.length<=cells.length then ez0 place (P7 cells off vs) rest else none
  | _,_=>none
theorem lb0(off:Nat):∀ (vs:List Value) (j:Nat) (cs:Array Value),off+j+vs.length<=cs.size ->
  ((vs.zipIdx j).foldl (fun cs (x:Value×Nat)=>cs.setIfInBounds (off+x.2) x.1) cs).toList=cs.toList.take (off+j)++vs++cs.toList.drop (off+j+vs.length)
 | [],j,cs,_=>by simp
 | v::vs,j,cs,h=>by
  simp only[ax]at h;rw[List.zipIdx_cons,fB,lb0 off vs (j+1) _ (by simp;omega)];have a:off+j<cs.toList.length:=by simp;omega
  simp only[Array.toList_setIfInBounds];rw[List.take_set,List.drop_set,Af (by omega)];have e1:List.set (gk (off+(j+1)) cs.toList) (off+j) v=gk (off+j) cs.toList++[v]:=by
   have hm:min (off+j) cs.toList.length=off+j:=by omega
   rw[<- dy,List.take_succ_eq_append_getElem a,List.set_append];simp only[hY,hm,Nat.lt_irrefl,Ah,Nat.sub_self];rfl
  rw[e1];simp;omega
theorem nc0{G:c9}{cs vs:List AV}{us ys:List Value}(h:B6 G cs us)(hv:B6 G vs ys)(off:Nat):B6 G (P7 cs off vs) (us.take off++ys++us.drop (off+ys.length)):=by unfold P7;rw[hv.1];exact((h.take off).append hv).append (h.drop _)
theorem gx0{G:c9}{place:Nat->Option (Nat×Nat)}:∀ {parts:List (Nat×AV)} {a:List (Nat×Value)} {cs out:List AV} {us:Array Value},B6 G cs us.toList ->
  (parts.map (·.1)=a.map (·.1))->B6 G (parts.map (·.2)) (a.map (·.2))->ez0 place cs parts=some out->∃ ys:Array Value,jd place us a=some ys/\B6 G out ys.toList
 | [],a,cs,out,us,h,he,d,ha=>by
  cases a with
  | nil=>simp[ez0]at ha;subst ha;exact⟨us,rfl,h⟩
  | cons _ _=>simp at he
 | (i,v)::rest,a,cs,out,us,h,he,d,ha=>by
  cases a with
  | nil=>simp at he
  | cons p f=>
   obtain⟨m,z⟩:=p;simp only[ay,b_]at he d;obtain⟨rfl,he⟩:=he;obtain⟨n,l,e,h1,h2⟩:=d.cons_inv;simp only[b_]at e;obtain⟨rfl,rfl⟩:=e;unfold ez0 at ha;split at ha
   ·rename_i off size vs hp hc
    split at ha
    ·rename_i g
     have b:=h1.cells hc;have o:z.cells.size=vs.length:=by have:=b.1;simpa using this
     have q:us.size=cs.length:=by have:=h.1;simpa using this
     have c:((z.cells.zipIdx).foldl (fun cs (x:Value×Nat)=>cs.setIfInBounds (off+x.2) x.1) us).toList=us.toList.take off++z.cells.toList++us.toList.drop (off+z.cells.toList.length):=by have:=lb0 off z.cells.toList 0 us (by simp;omega);simp only[cS]at this;rw[<- this,<-Array.foldl_toList];simp
     obtain⟨ys,j,k⟩:=gx0 (us:=(z.cells.zipIdx).foldl (fun cs (x:Value×Nat)=>cs.setIfInBounds (off+x.2) x.1) us) (by rw[c];exact nc0 h b off) he h2 ha;refine⟨ys,?_,k⟩;simp only[jd,hp];rw[Ae (by simp;omega)];exact j
    cases ha
   cases ha
theorem y9{α:Type}{size:Nat}:∀ {es:List (List α)},(∀ c∈es,c.length=size)->es.flatten.length=es.length*size
 | [],_=>by simp
 | c::es,h=>by rw[bN,aH,y9 (fun c hc=>h c (by simp[hc])),h c (by simp),ax,bK];omega
theorem aW0{α:Type}{size:Nat}:∀ {es:List (List α)},(∀ c∈es,c.length=size)->∀ (i j:Nat) (c:List α),es[i]?=some c->j<size->es.flatten[i*size+j]?=c[j]?
 | [],_,i,j,c,h,_=>by simp at h
 | d::es,hl,0,j,c,h,hj=>by simp at h;subst h;rw[bN,fC,aG,cm,Af (by rw[hl d (by simp)];exact hj)]
 | d::es,hl,i+1,j,c,h,hj=>by have a:d.length=size:=hl d (by simp);have b:=aW0 (es:=es) (fun c hc=>hl c (bC _ hc)) i j c (by simpa using h) hj;rw[bN,cm,Ae (by rw[a,bK];omega),<-b,a,bK];congr 1;omega
theorem ek0{G:c9}{es:List (List AV)}{size:Nat}{cells:Array Value}(hl:∀ c∈es,c.length=size){vs:List Value}(h:B6 G es.flatten vs)(hv:∀ (k:Nat) (v:Value),vs[k]?=some v->cells[k]?=some v) :
  ∀ i (hi:i<es.length),es[i].length=size/\∀ j (hj:j<es[i].length) (h':i*size+j<cells.size),Rep G es[i][j] cells[i*size+j]:=by
 intro i hi;refine⟨hl _ (aq hi),fun j hj h'=>?_⟩;have a:j<size:=by grind
 have b:=aW0 hl i j es[i] (ae hi) a;rw[ae hj]at b;obtain⟨v,h1,h2⟩:=h.get b
 grind
theorem dW0{G:c9}{es:List (List AV)}{size:Nat}{cells:Array Value}(a:∀ i (h:i<es.length),es[i].length=size/\∀ j (hj:j<es[i].length) (h':i*size+j<cells.size),Rep G es[i][j] cells[i*size+j])
  (g:es.length*size<=cells.size):B6 G es.flatten (cells.toList.take (es.length*size)):=by
 have hl:∀ c∈es,c.length=size:=fun c hc=>by obtain⟨i,hi,rfl⟩:=aJ hc;exact(a i hi).1
 refine⟨by rw[y9 hl];simp;omega,fun k hk f=>?_⟩;rw[y9 hl]at hk;by_cases hs:size=0
 ·subst hs;simp at hk
 have hi:k / size<es.length:=(eF (by omega)).2 hk;have hj:k%size<size:=gN _ (by omega);have b:k / size*size+k%size=k:=by rw[dj];exact eW k size
 have d:=aW0 hl (k / size) (k%size) es[k / size] (ae hi) hj;have hlen:=(a _ hi).1;rw[b,ae (show k<es.flatten.length by rw[y9 hl];exact hk),ae (show k%size<es[k / size].length by rw[hlen];exact hj)]at d;have e:=(a _ hi).2 (k%size) (by rw[hlen];exact hj) (by rw[b];omega);simp only[ai]at d;rw[d];simp only[b]at e;simpa using e
theorem dL0{size:Nat}:∀ {es:List (List AV)},(∀ c∈es,c.length=size)->∀ (i:Nat) (vs:List AV),i<es.length->vs.length=size->P7 es.flatten (i*size) vs=(es.set i vs).flatten
 | [],_,i,vs,h,_=>by simp at h
 | d::es,hl,0,vs,_,hv=>by have a:d.length=size:=hl d (by simp);simp only[P7,bN,fC,List.take_zero,bG,aG,List.set_cons_zero,List.append_cancel_left_eq];rw[hv,<-a,List.drop_left]
 | d::es,hl,i+1,vs,h,hv=>by
  have a:d.length=size:=hl d (by simp);have b:=dL0 (es:=es) (fun c hc=>hl c (bC _ hc)) i vs (by simpa using h) hv;simp only[List.set_cons_succ,bN,<-b,P7,hv];have e1:(i+1)*size=d.length+i*size:=by rw[a,bK];omega
  have e2:(i+1)*size+size=d.length+(i*size+size):=by rw[a,bK];omega
  rw[e1,fI,<-e1,e2,h_];simp[df]
def T0(size:Nat)(es:List (List AV)):List (Nat×AV)->Option (List (List AV))
 | []=>some es
 | (i,v)::rest=>match v.cells with
  | some vs=>if vs.length=size/\i<es.length then T0 size (es.set i vs) rest else none
  | none=>none
theorem eG0{size:Nat}:∀ {parts:List (Nat×AV)} {es out:List (List AV)},(∀ c∈es,c.length=size)->T0 size es parts=some out ->
  ez0 (fun i=>some (i*size,size)) es.flatten parts=some out.flatten/\out.length=es.length/\∀ c∈out,c.length=size
 | [],es,out,hl,h=>by simp[T0]at h;subst h;exact⟨rfl,rfl,hl⟩
 | (i,v)::rest,es,out,hl,h=>by
  unfold T0 at h;split at h
  ·rename_i vs hc
   split at h
   ·rename_i a
    have b:∀ c∈es.set i vs,c.length=size:=fun c hc=>by
     rcases List.mem_or_eq_of_mem_set hc with h1 | h1
     ·exact hl c h1
     rw[h1];exact a.1
    obtain⟨h1,h2,d⟩:=eG0 b h;refine⟨?_,by rw[h2];simp,d⟩;have hle:i*size+vs.length<=es.flatten.length:=by rw[y9 hl,a.1];have:(i+1)*size<=es.length*size:=aZ _ a.2;rw[bK]at this;omega
    simp only[ez0,hc];rw[Af ⟨a.1,hle⟩,dL0 hl i vs a.2 a.1];exact h1
   cases h
  cases h
theorem qd0(zero:Array Value)(n:Nat)(hz:0<zero.size):(((aW (n*zero.size)).map (zero[·%zero.size]!)).toList).map AV.sc=(ba n (zero.toList.map AV.sc)).flatten:=by
 apply List.ext_getElem?;intro k;have hl:∀ c∈ba n (zero.toList.map AV.sc),c.length=zero.size:=fun c hc=>by grind
 by_cases hk:k<n*zero.size
 ·have hi:k / zero.size<n:=(eF hz).2 hk
  have hj:k%zero.size<zero.size:=gN _ hz;have a:k / zero.size*zero.size+k%zero.size=k:=by grind [dj,eW]
  have:=aW0 hl (k / zero.size) (k%zero.size) (zero.toList.map AV.sc) (by simp[hi]) hj
  grind
 rw[bz (by simp;omega),bz (by rw[y9 hl];simp;omega)]
def places(T:Tab):List Field->Option (List (Nat×Nat))
 | []=>some []
 | f::fs=>match T f.type,places T fs with
  | some a,some l=>some ((f.offset,a.size)::l)
  | _,_=>none
theorem run_places{P:Program}{T:Tab}(hT:B7 P T)(w:World):∀ {fs:List Field} {l:List (Nat×Nat)},places T fs=some l ->
  (fs.mapM (fun f:Field=>do pure (f.offset,<-sizeOf f.type)):Sem (List (Nat×Nat))).run P w=.ok l w
 | [],l,h=>by simp[places]at h;subst h;simp
 | f::fs,l,h=>by
  unfold places at h;split at h
  ·rename_i b c hf hl
   cases h;have a:=run_places hT w hl;simp only[iD,al,D6 hT hf,ah,ao,a]
  cases h
def fH0(T:Tab)(t:TypeId)(parts:List (Nat×AV)):Option AV :=
 match T t with
 | some { und:=.struct fields,zero:=z,.. }=>
  match places T fields.toList with
  | some l=>match ez0 (l[·]?) (z.cells.toList.map .sc) parts with
   | some cs=>some (.agg cs)
   | none=>none
  | none=>none
 | some { und:=.array _ elem,zero:=z,.. }=>
  match T elem with
  | some a=>match ez0 (fun i=>some (i*a.size,a.size)) (z.cells.toList.map .sc) parts with
   | some cs=>some (.agg cs)
   | none=>none
  | none=>none
 | _=>none
theorem qN0{P:Program}{T:Tab}(hT:B7 P T){G:c9}{σ:c8}{w:World}(h:Rel G σ w){t:TypeId}{id:Nat}{parts:List (Nat×AV)}{a:List (Nat×Value)}{v:AV}
  (he:parts.map (·.1)=a.map (·.1)) (g:B6 G (parts.map (·.2)) (a.map (·.2))) (ha:fH0 T t parts=some v) :
  I7 G σ w σ id v ((gu t a.toArray).run P w):=by
 unfold fH0 at ha;split at ha
 ·rename_i fields _ z _ _ d
  split at ha
  ·rename_i l hl
   split at ha
   ·rename_i cs hf
    cases ha;obtain⟨ys,c,b⟩:=gx0 (us:=z.cells) (B6.sc G _) he g hf;have hp:(fields.mapM (fun f:Field=>do pure (f.offset,<-sizeOf f.type)):Sem (Array (Nat×Nat))).run P w=.ok l.toArray w:=by rw[fL];have:=run_places hT w hl;simp only[jk,this,ah]
    simp only[gu,al,V4 hT d,A5 hT d,ah,hp,cz,c,ao];refine I7.same ?_ h;have:=Rep.agg (G:=G) cs ys.toList b.1 b.2;simpa using this
   cases ha
  cases ha
 ·rename_i n elem _ z _ _ d
  split at ha
  ·rename_i i e
   split at ha
   ·rename_i cs hf
    cases ha;obtain⟨ys,c,b⟩:=gx0 (us:=z.cells) (B6.sc G _) he g hf;simp only[gu,al,V4 hT d,A5 hT d,D6 hT e,ah,c,ao];refine I7.same ?_ h;have:=Rep.agg (G:=G) cs ys.toList b.1 b.2;simpa using this
   cases ha
  cases ha
 cases ha
theorem io0{P:Program}{G:c9}{σ:c8}{w:World}(h:Rel G σ w)(t:TypeId)(cells:Array Value)(es:List (List AV))(size cap:Nat)(hl:∀ c∈es,c.length=size){vs:List Value}(d:B6 G es.flatten vs)
  (hv:∀ (k:Nat) (v:Value),vs[k]?=some v->cells[k]?=some v) (e:cells.size=cap*size) (a:es.length<=cap) (id:Nat) (hid:G.pl id=none) (b:id<σ.next) :
  ∃ p:Pl,p.block=w.heap.size/\p.size=size/\p.cap=cap/\p.virt=false/\Rel (G.place id p) (σ.set id (.row t size es)) { w with heap:=w.heap.push (.cells cells t) }:=by
 refine⟨{ block:=w.heap.size,size:=size,cap:=cap },rfl,rfl,rfl,rfl,?_⟩;exact h.push (.cells cells t) id hid b _ rfl rfl (.row t size es) ⟨cells,rfl,rfl,e,a,ek0 hl (d.mono (c9.place_le hid)) hv⟩
def I2(T:Tab)(σ:c8)(id:Nat)(t:TypeId)(len:Nat)(parts:List (Nat×AV)):Option (AV×c8) :=
 match T t with
 | some { und:=.slice elem,.. }=>
  match T elem with
  | some a=>if len*a.size<=2^24/\0<a.size then
    match T0 a.size (ba len a.zeroCells) parts with
    | some es=>some (.ms id a.size 0 len,σ.set id (.row elem a.size es))
    | none=>none else none
  | none=>none
 | _=>none
theorem iN0{P:Program}{T:Tab}(hT:B7 P T){G:c9}{σ σ':c8}{w:World}(h:Rel G σ w){t:TypeId}{id len:Nat}{parts:List (Nat×AV)}{a:List (Nat×Value)}{v:AV}
  (he:parts.map (·.1)=a.map (·.1)) (D:B6 G (parts.map (·.2)) (a.map (·.2))) (hid:G.pl id=none) (r:id<σ.next) (ha:I2 T σ id t len parts=some (v,σ')) :
  I7 G σ w σ' id v ((gV t len a.toArray).run P w):=by
 unfold I2 at ha;split at ha
 ·rename_i elem _ _ _ _ E
  split at ha
  ·rename_i b g
   split at ha
   ·rename_i H
    split at ha
    ·rename_i es hes
     cases ha;have i:=hT.zlen elem b g;have s:∀ c∈ba len b.zeroCells,c.length=b.size:=fun c hc=>by rw[dX hc];simp[TI.zeroCells,i]
     obtain⟨j,hlen,hl⟩:=eG0 s hes;have u:=qd0 b.zero.cells len (by omega);have l:es.length=len:=by rw[hlen];simp
     obtain⟨ys,m,n⟩:=gx0 (us:=(aW (len*b.zero.cells.size)).map (b.zero.cells[·%b.zero.cells.size]!)) (by
      have:=B6.sc G ((aW (len*b.zero.cells.size)).map (b.zero.cells[·%b.zero.cells.size]!)).toList;rw[u]at this;exact this) he D j
     have x:ys.size=len*b.size:=by have:=n.1;rw[y9 hl,l]at this;simpa using this
     obtain⟨p,o,z,B,C,q⟩:=io0 (P:=P) h elem ys es b.size len hl n (fun k v hv=>by simpa using hv) x (by omega) id hid r;have f:I7 G σ w (σ.set id (.row elem b.size es)) id (.ms id b.size 0 len) (.ok (.slice (some ⟨w.heap.size,0,none⟩) len len) { w with heap:=w.heap.push (.cells ys elem) }):=by refine I7.place (p:=p) hid ?_ q (Fr.push _ id hid p (fun _=>o) _ w.drawn);exact .ms id _ 0 len p (c9.place_same _ _ _) C z _ len (fun _=>by rw[o];simp) (by rw[B];simp) (ar _) rfl
     simp only[gV,al,A5 hT E,D6 hT g,ah];rw[Ae (by omega)];rw[i]at m;by_cases e:len*b.size=0
     ·simp only[e,Al,al,ao,ah]
      have d:(aW 0).map ((#[]:Array Value)[·%(#[]:Array Value).size]!)=(aW (len*b.size)).map (b.zero.cells[·%b.size]!):=by simp[e]
      rw[d,m];simpa[newRow]using f
     simp only[e,Ah,al,ao,ah,V4 hT g,i,m,newRow,run_newObj];exact f
    cases ha
   cases ha
  cases ha
 cases ha
def N9(σ:c8):AV->Option (List (List AV))
 | .ms id _ off len=>match σ.objs id with
  | some (.row _ _ es)=>if off+len<=es.length then some ((es.drop off).take len)else none
  | _=>none
 | .rs es=>some es
 | .sc (.slice none 0 0)=>some []
 | _=>none
theorem fR0{α:Type}{size:Nat}:∀ {es:List (List α)},(∀ c∈es,c.length=size)->∀ n,es.flatten.take (n*size)=(es.take n).flatten
 | [],_,n=>by simp
 | d::es,hl,0=>by simp
 | d::es,hl,n+1=>by
  have a:d.length=size:=hl d (by simp);have e1:(n+1)*size=d.length+n*size:=by rw[a,bK];omega
  rw[bN,e1,fI,fR0 (fun c hc=>hl c (bC _ hc)) n];simp
theorem gg0{α:Type}{size:Nat}:∀ {es:List (List α)},(∀ c∈es,c.length=size)->∀ n,es.flatten.drop (n*size)=(es.drop n).flatten
 | [],_,n=>by simp
 | d::es,hl,0=>by simp
 | d::es,hl,n+1=>by
  have a:d.length=size:=hl d (by simp);have e1:(n+1)*size=d.length+n*size:=by rw[a,bK];omega
  rw[bN,e1,h_,Nat.add_sub_cancel_left,gg0 (fun c hc=>hl c (bC _ hc)) n];simp
theorem nE0{P:Program}{G:c9}{σ:c8}{w:World}(h:Rel G σ w){x:AV}{u:Value}(D:Rep G x u){es:List (List AV)}(hs:N9 σ x=some es)(size:Nat)(hl:∀ c∈es,c.length=size) :
  (∃ a c,u=.slice a es.length c)/\∃ vs:List Value,(aR size es.length u).run P w=.ok vs.toArray w/\B6 G es.flatten vs:=by
 unfold N9 at hs;split at hs
 ·rename_i id _ off len
  split at hs
  ·rename_i elem d all J
   split at hs
   ·rename_i hle
    cases hs;have hlen:((all.drop off).take len).length=len:=by simp;omega
    rw[hlen];cases D with
    | msNil _ _ p hp hv=>refine⟨⟨_,_,rfl⟩,[],by simp[aR],?_⟩;simp;exact .nil _
    | ms _ _ _ _ p hp hv hz a c K hoff L hsp=>
     refine⟨⟨_,_,rfl⟩,?_⟩;obtain⟨_,_,cells,M,E,N,t,m⟩:=h.real J hp hv;have f:∀ c∈all,c.length=d:=fun c hc=>by obtain⟨i,hi,rfl⟩:=aJ hc;exact(m i hi).1
     by_cases z:len=0
     ·subst z
      refine⟨[],by simp[aR,loadCells,loadCellsFrom],?_⟩;simp;exact .nil _
     have r:d=size:=by
      have hm:all[off]'(by omega)∈(all.drop off).take len:=by have:=aq (l:=(all.drop off).take len) (n:=0) (by rw[hlen];omega);simpa using this
      rw[<- hl _ hm];exact(f _ (aq _)).symm
     subst r;have B:all.length*d<=cells.size:=by rw[N];exact aZ _ t
     have s:=dW0 m B;have q:=(s.drop (off*d)).take (len*d);rw[gg0 f,fR0 (fun c hc=>f c (List.mem_of_mem_drop hc))]at q;have hmul:off*d+len*d<=all.length*d:=by rw[<- bK];exact aZ _ hle
     refine⟨_,?_,q⟩;have O:(gk (len*d) (List.drop (off*d) (gk (all.length*d) cells.toList))).length=len*d:=by simp;omega
     simp only[aR];rw[K (by omega),E]
     conv=>lhs;rw[<- O]
     refine run_loadCells_list (P:=P) w _ _ (fun j v hv=>?_);rw[L8,cell_of_row w _ _ cells elem _ M];simp only[eV,gM]at hv;split at hv
     ·split at hv
      ·simpa using hv
      cases hv
     cases hv
   cases hs
  cases hs
 ·cases hs
  cases D with
  | rsNil=>exact⟨⟨_,_,rfl⟩,[],by simp[aR],.nil _⟩
  | rs es a cap d val hsp hc hlen himm hrep=>
   refine⟨⟨_,_,rfl⟩,?_⟩;obtain⟨b,o,sp⟩:=a;by_cases z:es=[]
   ·subst z
    exact⟨[],by simp[aR,loadCells,loadCellsFrom],.nil _⟩
   have hsp:=hsp (by have h1:0<es.length:=cx.2 z;omega);simp at hsp;subst hsp;have r:d=size:=by have h1:0<es.length:=cx.2 z;rw[<- hlen 0 h1];exact hl _ (aq _)
   subst r;have g:∀ k,k<es.length*d->k / d<es.length/\k%d<d/\k / d*d+k%d=k:=fun k hk=>by
    have hp:0<d:=by
     rcases Nat.eq_zero_or_pos d with e | e
     ·subst e;simp at hk
     exact e
    exact⟨(eF hp).2 hk,gN _ hp,by rw[dj];exact eW k d⟩
   refine⟨(bE (es.length*d)).map (fun k=>val (k / d) (k%d)),?_,?_⟩
   ·simp only[aR]
    refine run_loadCells (P:=P) w _ _ _ (fun k hk=>?_);obtain⟨h1,h2,H⟩:=g k hk;rw[L8];have:=h.cell (himm (k / d) (k%d) h1 h2);rwa [dy,H]at this
   refine⟨by rw[y9 hl];simp,fun k hk Q=>?_⟩;rw[y9 hl]at hk;obtain⟨h1,h2,H⟩:=g k hk;have I:=aW0 hl (k / d) (k%d) es[k / d] (ae h1) h2;have C:=hlen _ h1;rw[H,ae (show k<es.flatten.length by rw[y9 hl];exact hk),ae (show k%d<es[k / d].length by rw[C];exact h2)]at I;simp only[ai]at I;rw[I];have:=hrep (k / d) (k%d) h1 (by rw[C];exact h2);simpa using this
 ·cases hs
  cases D;exact⟨⟨_,_,rfl⟩,[],by simp[aR],.nil _⟩
 cases hs
def TI.isInt(ti:TI):Bool:=match ti.und with | .int _=>true | _=>false
def T9(σ:c8)(elem:TypeId)(size:Nat):AV->Option (Option Nat×List (List AV))
 | .ms id _ 0 len=>match σ.objs id with
  | some (.row e a es)=>if len=es.length/\a=size/\e=elem then some (some id,es)else none
  | _=>none
 | .sc (.slice none 0 0)=>some (none,[])
 | _=>none
def P9(T:Tab)(σ:c8)(id:Nat)(sT xT:TypeId)(s x:AV):Option (AV×c8) :=
 match T sT,T xT with
 | some { und:=.slice elem,.. },some d=>
  match T elem with
  | some a=>
   match T9 σ elem a.size s,N9 σ x with
   | some (b,es),some xs=>
    if d.isInt=false/\(xs.all fun c=>c.length==a.size&&c.all AV.one)=true/\(2*(es.length+xs.length)+1000)*a.bytes<=2^48/\es.length+xs.length<=2^62/\0<a.size then
     some (.ms id a.size 0 (es.length+xs.length),(match b with | some i=>σ.del i | none=>σ).set id (.row elem a.size (es++xs)))else none
   | _,_=>none
  | none=>none
 | _,_=>none
theorem lH0(n:Nat):∀ (r c:Nat),c<=2*n+192->fG n r c<=2*n+192
 | 0,c,h=>by simpa[fG]using h
 | r+1,c,h=>by
  unfold fG;split
  ·exact h
  exact lH0 n r _ (by omega)
theorem jA0{n c:Nat}(h:c<n):cC n c<=2*n+192:=by
 unfold cC;split
 ·omega
 split
 ·omega
 exact lH0 n 4 c (by omega)
theorem run_append_room{P:Program}{T:Tab}(hT:B7 P T){w:World}{sT xT elem:TypeId}{st g h:TI}(hs:T sT=some st)(hu:st.und=.slice elem)(l:T xT=some g)(hi:g.isInt=false)(he:T elem=some h)
  (base:Option Addr) (b c n:Nat) (j:Option Addr) (k:Nat) (vs:Array Value) (d:(aR h.size n (.slice j n k)).run P w=.ok vs w) (e:b+n<=c) (ty:TypeId) :
  (cq #[sT,xT] ty #[.slice base b c,.slice j n k]).run P w =
   (((match base with | some a=>storeCells (a.add (b*h.size)) vs.toList | none=>pure ()):Sem Unit).run P w).andThen (fun _ w'=>.ok (.slice base (b+n) c) w'):=by
 have hz:((match g.und with | .int _=>true | _=>false):Bool)=false:=hi;have f:(underlying sT).run P w=.ok (.slice elem) w:=by rw[A5 hT hs,hu]
 unfold cq;simp only[cz,bX,aI,al,f,ah,D6 hT he,A5 hT l,ao];cases i:g.und<;>simp only[TI.isInt,i]at hi<;>first
  | (cases hi;done)
  | (simp only[au,Ah,eM,al,ao,ah,e,Al,aP,d];cases base<;>simp)
theorem run_append_grow{P:Program}{T:Tab}(hT:B7 P T){w:World}{sT xT elem:TypeId}{st o e:TI}(hs:T sT=some st)(hu:st.und=.slice elem)(x:T xT=some o)(hi:o.isInt=false)(he:T elem=some e)
  (base:Option Addr) (a b n:Nat) (t:Option Addr) (u:Nat) (us vs:Array Value)
  (hold:∀ k,(aR e.size a (.slice base a b)).run P { w with drawn:=k }=.ok us { w with drawn:=k })
  (f:∀ k,(aR e.size n (.slice t n u)).run P { w with drawn:=k }=.ok vs { w with drawn:=k })
  (c:b<a+n) (B:(2*(a+n)+1000)*e.bytes<=2^48) (C:a+n<=2^62) (ty:TypeId) :
  ∃ newCap,a+n<=newCap/\(cq #[sT,xT] ty #[.slice base a b,.slice t n u]).run P w =
   .ok (.slice (some ⟨w.heap.size,0,none⟩) (a+n) newCap) { w with drawn:=w.drawn+1,heap:=w.heap.push (.cells (us++vs++aL e.zero.cells (newCap-(a+n))) elem) }:=by
 have g:∀ k,(underlying sT).run P { w with drawn:=k }=.ok (.slice elem) { w with drawn:=k }:=fun k=>by rw[A5 hT hs,hu]
 obtain⟨i,h,p⟩:=gM0 hT he w;have l:∀ w',(typeInfo elem).run P w'=.ok i w':=fun w'=>by
  obtain⟨j,hj,_⟩:=hT.info elem e he;have:(typeInfo elem).run P w=.ok j w:=by simp[typeInfo,hj]
  rw[this]at h;cases h;simp[typeInfo,hj]
 have v:=jA0 c;have d:¬ (cC (a+n) b*i.bytes > 2^48):=by rw[p];have:cC (a+n) b*e.bytes<=(2*(a+n)+1000)*e.bytes:=aZ _ (by omega);omega
 refine⟨(dE (a+n) b elem).cut (w.tape w.drawn (.appendCap (a+n) b elem)),by simp only[ia];omega,?_⟩;have z:=g w.drawn;have q:=hold (w.drawn+1);have r:=f (w.drawn+1);have m:¬ (((a+n:Nat):Int) > aa.max/\(False\/i.bytes=0)):=by
  have:aa.max=9223372036854775807:=by decide
  rw[this];omega
 unfold cq;simp only[cz,bX,aI,al,z,ah,D6 hT he,A5 hT x,ao];cases s:o.und<;>simp only[TI.isInt,s]at hi<;>first
  | (cases hi;done)
  | (simp only[au,Ah,eM,al,ao,ah,Ae (Nat.not_le.2 c),aP,Al,l,Ae m,Ae d,run_choose,gF,run_askRoom,q,r,V4 hT he,newRow,run_newObj])
theorem T1{P:Program}(w:World)(k:Nat)(a:Addr):∀ (n i:Nat) (acc vs:Array Value),(loadCellsFrom a i n acc).run P w=.ok vs w->(loadCellsFrom a i n acc).run P { w with drawn:=k }=.ok vs { w with drawn:=k }
 | 0,i,acc,vs,h=>by simp[loadCellsFrom]at h ⊢;exact h
 | n+1,i,acc,vs,h=>by
  simp only[loadCellsFrom,al,run_load]at h ⊢;have hc:({ w with drawn:=k }:World).cell? (a.add i)=w.cell? (a.add i):=rfl;rw[hc];cases hw:w.cell? (a.add i)with
  | some v=>simp only[hw,ah]at h ⊢;exact T1 w k a n (i+1) _ vs h
  | none=>
   simp only[hw]at h ⊢;have hf:({ w with drawn:=k }:World).farLoad P (a.add i) (gW==.atomic)=w.farLoad P (a.add i) (gW==.atomic):=rfl;rw[hf];cases b:w.farLoad P (a.add i) (gW==.atomic)with
   | ok r=>obtain⟨v,l⟩:=r;simp only[b,ah]at h ⊢;exact T1 w k a n (i+1) _ vs h
   | error e=>simp[b]at h
theorem cP0{P:Program}(w:World)(k:Nat)(a:Addr)(n:Nat)(vs:Array Value)(h:(loadCells a n).run P w=.ok vs w):(loadCells a n).run P { w with drawn:=k }=.ok vs { w with drawn:=k } :=T1 w k a n 0 #[] vs h
theorem fc0{σ:c8}{i k:Nat}{o:j5}(h:(σ.del i).objs k=some o):σ.objs k=some o:=by
 rw[c8.objs_del]at h;split at h
 ·cases h
 exact h
theorem iE0(zero:Array Value)(n:Nat):(aL zero n).size=n*zero.size:=by simp[aL]
theorem Z2{P:Program}{T:Tab}(hT:B7 P T){G:c9}{σ:c8}{w:World}(h:Rel G σ w){elem:TypeId}{a:TI}(he:T elem=some a){id:Nat}(hid:G.pl id=none)(g:id<σ.next)
  {es xs:List (List AV)} (hes:∀ c∈es,c.length=a.size) (b:∀ c∈xs,c.length=a.size) {us vs:List Value} (hu:B6 G es.flatten us) (hv:B6 G xs.flatten vs) {newCap:Nat} (hc:es.length+xs.length<=newCap) :
  I7 G σ w (σ.set id (.row elem a.size (es++xs))) id (.ms id a.size 0 (es.length+xs.length)) (.ok (.slice (some ⟨w.heap.size,0,none⟩) (es.length+xs.length) newCap)
   { w with drawn:=w.drawn+1,heap:=w.heap.push (.cells (us.toArray++vs.toArray++aL a.zero.cells (newCap-(es.length+xs.length))) elem) }):=by
 have d:∀ c∈es++xs,c.length=a.size:=fun c hc=>by
  rcases aK.1 hc with h1 | h1
  ·exact hes c h1
  exact b c h1
 have i:us.length=es.length*a.size:=by rw[hu.1,y9 hes]
 have j:vs.length=xs.length*a.size:=by rw[hv.1,y9 b]
 have hz:=hT.zlen elem a he;obtain⟨p,e,l,m,n,f⟩:=io0 (P:=P) (h.drawn (w.drawn+1)) elem (us.toArray++vs.toArray++aL a.zero.cells (newCap-(es.length+xs.length))) (es++xs) a.size newCap d
  (vs:=us++vs) (by rw[ft];exact hu.append hv) (fun k v hk=>by
   obtain⟨o,_⟩:=an.1 hk;rw[ez,Af (by simpa using o)];simpa using hk) (by
   simp[iE0,hz,i,j];rw[<- bK,<-bK];congr 1;omega) (by simp;omega) id hid g
 refine I7.place (p:=p) hid ?_ f (Fr.push (w:=w) _ id hid p (fun _=>e) _ (w.drawn+1));exact .ms id _ 0 _ p (c9.place_same _ _ _) n l _ newCap (fun _=>by rw[e];simp) (by rw[m];simp) hc rfl
theorem oP0{P:Program}{T:Tab}(hT:B7 P T){G:c9}{σ σ':c8}{w:World}(h:Rel G σ w){sT xT ty:TypeId}{id:Nat}{s x v:AV}{u y:Value}(hs:Rep G s u)(hx:Rep G x y)
  (hid:G.pl id=none) (D:id<σ.next) (ha:P9 T σ id sT xT s x=some (v,σ')):I7 G σ w σ' id v ((cq #[sT,xT] ty #[u,y]).run P w):=by
 unfold P9 at ha;split at ha
 ·rename_i elem z1 z2 z3 z4 xi I J
  split at ha
  ·rename_i f l
   split at ha
   ·rename_i old es xs b U
    split at ha
    ·rename_i W
     obtain⟨hint,X,m,hN,hpos⟩:=W;have hxs:∀ c∈xs,c.length=f.size/\c.all AV.one=true:=fun c hc=>by have:=ak.1 X c hc;simpa using this
     have E:∀ c∈xs,c.length=f.size:=fun c hc=>(hxs c hc).1;obtain⟨⟨R,V,rfl⟩,vs,d,t⟩:=nE0 (P:=P) h hx U f.size E;have n:∀ k,(aR f.size xs.length (.slice R xs.length V)).run P { w with drawn:=k }=.ok vs.toArray { w with drawn:=k }:=fun k=>by
      obtain⟨_,vs',K,hv'⟩:=nE0 (P:=P) (h.drawn k) hx U f.size E;rw[K];have:=d;have e:vs'=vs:=by
       have hd:(aR f.size xs.length (.slice R xs.length V)).run P { w with drawn:=w.drawn }=.ok vs.toArray w:=d;cases R with
       | none=>
        simp[aR]at K d;have e1:vs'=[]:=by simpa using K.symm
        have e2:vs=[]:=by simpa using d.symm
        rw[e1,e2]
       | some a=>simp only[aR]at K d;have key:=cP0 (P:=P) w k a (xs.length*f.size) vs.toArray d;rw[key]at K;simpa using K.symm
      rw[e]
     simp only[ai,bV]at ha;obtain⟨rfl,rfl⟩:=ha;unfold T9 at b;split at b
     ·rename_i i _ len
      split at b
      ·rename_i r sz es1 S
       split at b
       ·rename_i hc
        obtain⟨hlen,rfl,hel⟩:=hc;subst hel;cases b;cases hs with
        | msNil _ _ p hp hv=>
         have hes0:es=[]:=by
          rcases h.lies S hp with ⟨_,_,_,e2⟩ | ⟨e2,_⟩
          ·cases e2;rfl
          rw[hv]at e2;cases e2
         subst hes0;simp only[aU,aG,bG];by_cases B:xs=[]
         ·subst B
          have g:=run_append_room hT (w:=w) I rfl J hint l none 0 0 0 R V vs.toArray (by simpa using d) (by omega) ty;simp only[aU];rw[g];simp only[ao,ah];exact I7.place (p:=p) hid (.msNil id _ p (c9.place_same _ _ _) hv) (h.move S hp hid D) (Fr.move S hp)
         have L:0<xs.length:=cx.2 B;obtain⟨newCap,C,j⟩:=run_append_grow hT (w:=w) I rfl J hint l none 0 0 xs.length R V #[] vs.toArray (fun k=>by simp[aR]) n (by omega) (by simpa using m) (by simpa using hN) ty;rw[j];have Y:Rel G (σ.del i) w:=h.less rfl (fun k o hk=>fc0 hk);have:=Z2 hT Y l hid D (es:=[]) (by simp) E (.nil G) t (newCap:=newCap) (by simpa using C);refine I7.less (σ1:=σ.del i) (fun k o hk=>fc0 hk) ?_;simpa using this
        | ms _ _ _ _ p hp hv hz a c hA hoff hlc hsp=>
         subst hlen;obtain⟨him,hw0,cells,hb,M,hn,C,N⟩:=h.real S hp hv;have hes:∀ c∈es,c.length=f.size:=fun c hc=>by obtain⟨k,hk,rfl⟩:=aJ hc;exact(N k hk).1
         by_cases g:es.length+xs.length<=c
         ·rw[run_append_room hT (w:=w) I rfl J hint l (some a) es.length c xs.length R V vs.toArray d g ty]
          by_cases B:xs=[]
          ·subst B
           have hv0:vs=[]:=by have:=t.1;simpa using this
           subst hv0;simp only[storeCells,ao,ah,aU,cS,List.append_nil];exact I7.place (p:=p) hid (.ms id _ 0 _ p (c9.place_same _ _ _) hv M a c hA hoff hlc hsp) (h.move S hp hid D) (Fr.move S hp)
          have L:0<xs.length:=cx.2 B;have hvl:vs.length=xs.length*f.size:=by rw[t.1,y9 E]
          rw[hA (by omega),M];have hbig:es.length*f.size+xs.length*f.size<=cells.size:=by rw[hn,<-bK];exact aZ _ (by omega)
          obtain⟨H,j,hsz,N6⟩:=J5 (P:=P) p.block (es.length*f.size) r vs 0 cells w hb (by rw[hvl];omega) (fun z hz=>by
           obtain⟨k,hk,rfl⟩:=aJ hz;have hk':k<xs.flatten.length:=by rw[<- t.1];exact hk
           refine(t.2 k hk' hk).one ?_;obtain⟨c,hc1,hc2⟩:=bD.1 (aq hk');exact ak.1 (hxs c hc1).2 _ hc2)
          simp only[fC,L8,aG,j,ah];have hall:∀ c∈es++xs,c.length=f.size:=fun c hc=>by
           rcases aK.1 hc with h1 | h1
           ·exact hes c h1
           exact E c h1
          have O:=dW0 N (by omega);have Z:B6 G (es++xs).flatten (cells.toList.take (es.length*f.size)++vs):=by rw[ft];exact O.append t
          have hw':=h.write (o':=.row r f.size (es++xs)) S hp hv (.cells H r (0,0)) (D0 w p.block (.cells H r (0,0))) rfl rfl rfl (C2 _ _ _) (fun k hk=>A9 _ _ _ _ hk)
           (L7 _ _ _ _ hb) ⟨H,rfl,M,by rw[hsz,hn],by simp;omega,ek0 hall Z (fun k z hk=>by
            have hg:=N6 k;simp only[cS]at hg;rw[hg];have hmin:(cells.toList.take (es.length*f.size)).length=es.length*f.size:=by simp;omega
            rw[cm,hmin]at hk;split at hk
            ·rename_i hk1
             rw[Ae (by omega)];rw[eV,Af hk1]at hk;simpa using hk
            rename_i hk1;obtain⟨hk2,_⟩:=an.1 hk;rw[Af (by omega)];exact hk)⟩
          have hm:=hw'.move (id:=i) (id':=id) (o:=.row r f.size (es++xs)) (p:=p) (by simp[c8.objs_set]) hp hid D;have Q:∀ k o,((σ.del i).set id (.row r f.size (es++xs))).objs k=some o->(((σ.set i (.row r f.size (es++xs))).del i).set id (.row r f.size (es++xs))).objs k=some o:=(fun k o hk=>by
           rw[c8.objs_set,c8.objs_del]at hk ⊢;by_cases q:k=id
           ·simpa[q]using hk
           by_cases q2:k=i
           ·subst q2;simp[q]at hk
           simpa[q,q2,c8.objs_set]using hk)
          have hm2:Rel (G.place id p) ((σ.del i).set id (.row r f.size (es++xs))) (D0 w p.block (.cells H r (0,0))):=hm.less rfl Q;have hfw:Fr G σ w G (σ.set i (.row r f.size (es++xs))) (D0 w p.block (.cells H r (0,0))):=Fr.write S hp hv _ (C2 _ _ _) (fun k hk=>A9 _ _ _ _ hk);have hfm:Fr G (σ.set i (.row r f.size (es++xs))) (D0 w p.block (.cells H r (0,0))) (G.place id p) (((σ.set i (.row r f.size (es++xs))).del i).set id (.row r f.size (es++xs))) (D0 w p.block (.cells H r (0,0))):=Fr.move (id:=i) (o:=.row r f.size (es++xs)) (by simp[c8.objs_set]) hp;exact I7.place (p:=p) hid (.ms id _ 0 _ p (c9.place_same _ _ _) hv M _ c (fun _=>by simp) (by omega) g rfl) hm2 (hfw.trans (hfm.trans (Fr.less Q)))
         have hnr:c<es.length+xs.length:=by omega
         have O:=dW0 N (by rw[hn];exact aZ _ C);have hsrc2:N9 σ (.ms i f.size 0 es.length)=some es:=by simp[N9,S]
         have hrs:Rep G (.ms i f.size 0 es.length) (.slice (some a) es.length c):=.ms _ _ _ _ p hp hv M a c hA hoff hlc hsp;obtain⟨_,us,hold,hus⟩:=nE0 (P:=P) h hrs hsrc2 f.size hes;have hold':∀ k,(aR f.size es.length (.slice (some a) es.length c)).run P { w with drawn:=k }=.ok us.toArray { w with drawn:=k }:=fun k=>by simp only[aR]at hold ⊢;exact cP0 (P:=P) w k a _ _ hold
         obtain⟨newCap,hcap2,j⟩:=run_append_grow hT (w:=w) I rfl J hint l (some a) es.length c xs.length R V us.toArray vs.toArray hold' n hnr m hN ty;rw[j];have Y:Rel G (σ.del i) w:=h.less rfl (fun k o hk=>fc0 hk);exact I7.less (σ1:=σ.del i) (fun k o hk=>fc0 hk) (Z2 hT Y l hid D hes E hus t hcap2)
       cases b
      cases b
     ·cases b
      cases hs;simp only[aU,aG,bG];by_cases B:xs=[]
      ·subst B
       have g:=run_append_room hT (w:=w) I rfl J hint l none 0 0 0 R V vs.toArray (by simpa using d) (by omega) ty;simp only[aU];rw[g];simp only[ao,ah];exact I7.place (p:={ block:=0,size:=0,cap:=0,virt:=true }) hid (.msNil id _ _ (c9.place_same _ _ _) rfl) (h.virt id hid D _ rfl elem f.size) (Fr.virt id _ rfl _)
      have L:0<xs.length:=cx.2 B;obtain⟨newCap,C,j⟩:=run_append_grow hT (w:=w) I rfl J hint l none 0 0 xs.length R V #[] vs.toArray (fun k=>by simp[aR]) n (by omega) (by simpa using m) (by simpa using hN) ty;rw[j];have:=Z2 hT h l hid D (es:=[]) (by simp) E (.nil G) t (newCap:=newCap) (by simpa using C);simpa using this
     cases b
    cases ha
   cases ha
  cases ha
 cases ha
def w8(σ:c8):AV->c8
 | .ms id _ 0 len=>match σ.objs id with
  | some (.row e a es)=>if len<es.length then σ.set id (.row e a (es.take len))else σ
  | _=>σ
 | _=>σ
theorem Rel.trunc{G:c9}{σ:c8}{w:World}(h:Rel G σ w){id:Nat}{e:TypeId}{b:Nat}{es:List (List AV)}(a:σ.objs id=some (.row e b es))(n:Nat)(f:n<es.length) :
  Rel G (σ.set id (.row e b (es.take n))) w/\Fr G σ w G (σ.set id (.row e b (es.take n))) w:=by
 obtain⟨p,hp,hl⟩:=h.objs id _ a;have hv:p.virt=false:=by
  rcases hl with ⟨_,e2,s2,h2⟩ | ⟨h2,_⟩
  ·cases h2;simp at f
  exact h2
 obtain⟨_,_,cells,g,hs,c,hle,d⟩:=h.real a hp hv;refine⟨h.write a hp hv (.cells cells e (0,0)) w rfl rfl rfl rfl (fun _ _=>rfl) g ⟨cells,rfl,hs,c,by simp;omega,fun i hi=>?_⟩,Fr.write a hp hv w rfl (fun _ _=>rfl)⟩
 grind
theorem mf0{G:c9}{σ:c8}{w:World}(h:Rel G σ w)(s:AV):Rel G (w8 σ s) w/\Fr G σ w G (w8 σ s) w/\(w8 σ s).next=σ.next:=by
 unfold w8;split
 ·split
  ·rename_i a
   split
   ·rename_i hl
    exact⟨(h.trunc a _ hl).1,(h.trunc a _ hl).2,rfl⟩
   exact⟨h,.refl _ _ _,rfl⟩
  exact⟨h,.refl _ _ _,rfl⟩
 exact⟨h,.refl _ _ _,rfl⟩
def dI0(T:Tab)(σ:c8)(id:Nat)(elem:TypeId)(s x:AV):Option (AV×c8) :=
 match s,x,T elem with
 | .sc (.slice none 0 0),.sc (.int _ n),some a=>
  if aa.wrap n=n/\0<n/\(2*n.toNat+1000)*a.bytes<=2^48/\n.toNat<=2^62/\0<a.size then
   some (.ms id a.size 0 n.toNat,σ.set id (.row elem a.size (ba n.toNat a.zeroCells)))else none
 | _,_,_=>none
theorem bC0(zero:Array Value)(n:Nat):(aL zero n).toList=(ba n zero.toList).flatten:=by
 have a:(bE zero.size).map (fun i=>zero[i%zero.size]!)=zero.toList:=by
  apply List.ext_getElem
  ·simp
  grind [Nat.mod_eq_of_lt]
 have key:∀ n,(bE (n*zero.size)).map (fun i=>zero[i%zero.size]!)=(ba n zero.toList).flatten:=by
  intro n
  induction n with
  | zero=>simp
  | succ n b=>rw[je,d_,List.range_add,List.map_append,a,gG,bN,<-b,List.map_map];congr 1;apply bq;intro i _;simp
 grind [aL,Array.toList_map,Array.toList_range]
theorem B6.zeros{G:c9}(a:List Value):∀ n,B6 G (ba n (a.map AV.sc)).flatten (ba n a).flatten
 | 0=>.nil G
 | n+1=>by simp only[gG,bN];refine B6.append ⟨by simp,fun i h1 h2=>?_⟩ (B6.zeros a n);simp only[cd];exact .sc _
theorem rS0{P:Program}{T:Tab}(hT:B7 P T){G:c9}{σ σ':c8}{w:World}(h:Rel G σ w){sT xT ty elem:TypeId}{st K:TI}{k:IntKind}(B:T sT=some st)(hu:st.und=.slice elem)(C:T xT=some K)(D:K.und=.int k){id:Nat}{s x v:AV}{u y:Value}(hs:Rep G s u)(O:Rep G x y)
  (hid:G.pl id=none) (E:id<σ.next) (ha:dI0 T σ id elem s x=some (v,σ')):I7 G σ w σ' id v ((cq #[sT,xT] ty #[u,y]).run P w):=by
 unfold dI0 at ha;split at ha
 ·rename_i Q n b a
  split at ha
  ·rename_i hc
   obtain⟨h1,h2,R,U,S⟩:=hc;cases ha;cases hs;cases O;obtain⟨N,rfl⟩:∃ N:Nat,n=N:=⟨n.toNat,by omega⟩;simp only[da]at *;obtain⟨i,p,H⟩:=gM0 hT a w;have g:∀ w',(typeInfo elem).run P w'=.ok i w':=fun w'=>by
    obtain⟨j,hj,_⟩:=hT.info elem b a;have:(typeInfo elem).run P w=.ok j w:=by simp[typeInfo,hj]
    rw[this]at p;cases p;simp[typeInfo,hj]
   have L:0<N:=by omega
   have M:=jA0 L;have hmul:∀ m,m<=2*N+1000->m*i.bytes<=2^48:=fun m hm=>by rw[H];exact bo (aZ _ hm) R
   have f:¬ (cC N 0*i.bytes > 2^48):=by grind [cC]
   have d:¬ ((N:Int)*(i.bytes:Int) > 2^48):=by grind
   have q:¬ ((N:Int)<0):=by omega
   have r:¬ (((N:Nat):Int) > aa.max/\(True\/i.bytes=0)):=by
    have:aa.max=9223372036854775807:=by decide
    rw[this];omega
   have I:¬ (N*b.size=0):=by have:0<N*b.size:=Nat.mul_pos L S;omega
   have hz:=hT.zlen elem b a;have t:(cq #[sT,xT] ty #[.slice none 0 0,.int Q N]).run P w =
     .ok (.slice (some ⟨w.heap.size,0,none⟩) N ((dE N 0 elem).cut (w.tape w.drawn (.appendCap N 0 elem)))) { w with drawn:=w.drawn+1,heap:=w.heap.push (.cells (#[]++aL b.zero.cells N++aL b.zero.cells ((dE N 0 elem).cut (w.tape w.drawn (.appendCap N 0 elem))-N)) elem) }:=by
    have z:(underlying sT).run P w=.ok (.slice elem) w:=by rw[A5 hT B,hu]
    have l:(underlying xT).run P w=.ok (.int k) w:=by rw[A5 hT C,D]
    have o:¬ (0+N<=0):=by omega
    unfold cq;simp only[cz,bX,aI,al,z,l,ah,D6 hT a,ao,Al,asInt,asIntOf,h1,Ae q,g,Ae d,da,Ae o];simp only[aG,Ae r,Ae f,run_choose,gF,ah,run_askRoom,aR,ao,Bool.not_true,au,Ah,Ae I,al,V4 hT a,newRow,run_newObj,g]
   rw[t];have J:∀ c∈ba N b.zeroCells,c.length=b.size:=fun c hc=>by grind [TI.zeroCells]
   have:=Z2 hT h a hid E (es:=[]) (xs:=ba N b.zeroCells) (us:=[]) (vs:=(ba N b.zero.cells.toList).flatten) (by simp) J (.nil G) (B6.zeros _ N) (newCap:=(dE N 0 elem).cut (w.tape w.drawn (.appendCap N 0 elem))) (by simp only[ia];simp);have e:(ba N b.zero.cells.toList).flatten.toArray=aL b.zero.cells N:=by apply cK;rw[bC0]
   grind
  cases ha
 cases ha
def E9(T:Tab)(σ:c8)(id:Nat)(sT xT:TypeId)(s x:AV):Option (AV×c8) :=
 match T sT,T xT with
 | some { und:=.slice elem,.. },some { und:=.int _,.. }=>dI0 T σ id elem s x
 | _,_=>P9 T (w8 σ s) id sT xT s x
theorem no0{P:Program}{T:Tab}(hT:B7 P T){G:c9}{σ σ':c8}{w:World}(h:Rel G σ w){sT xT ty:TypeId}{id:Nat}{s x v:AV}{u y:Value}(hs:Rep G s u)(b:Rep G x y)
  (hid:G.pl id=none) (a:id<σ.next) (ha:E9 T σ id sT xT s x=some (v,σ')):I7 G σ w σ' id v ((cq #[sT,xT] ty #[u,y]).run P w):=by
 unfold E9 at ha;split at ha
 ·grind [rS0]
 obtain⟨h1,h2,c⟩:=mf0 h s;obtain⟨G',d,w',e,a2,a3,a4,a5,f⟩:=oP0 (P:=P) hT h1 (ty:=ty) hs b hid (by rw[c];exact a) ha;exact⟨G',d,w',e,a2,a3,a4,a5,h2.trans f⟩
def xw0(T:Tab)(t:TypeId)(x:AV):Option AV :=
 match T t,x with
 | some { und:=.slice _,.. },.sc (.slice none 0 0)=>some (.sc (goInt 0))
 | _,_=>none
theorem xE0{P:Program}{T:Tab}(hT:B7 P T){G:c9}{σ:c8}{w:World}(h:Rel G σ w){t ty:TypeId}{id:Nat}{x v:AV}{u:Value}(b:Rep G x u)(ha:xw0 T t x=some v) :
  I7 G σ w σ id v ((im #[t] ty #[u]).run P w):=by
 unfold xw0 at ha;split at ha
 ·rename_i c
  cases ha;cases b;have a:=A5 hT c w;simp only[im,cz,bX,al,a,ah,ao];exact I7.same (.sc _) h
 cases ha
theorem AV.key_ok{G:c9}{x:AV}{u:Value}{b:Bool}{l:List Int}(h:x.key=some (b,l))(a:Rep G x u):u=B4 b l:=by
 unfold AV.key at h;split at h
 ·cases h;cases a;rfl
 ·split at h
  ·rename_i cs c hl
   cases h;cases a with
   | agg _ vs h1 h2=>rw[AV.i64s_ok hl ⟨h1,h2⟩];simp[B4]
  cases h
 cases h
def cI0(agg:Bool)(l a:List Int):Bool:=if agg then l==a else l.headD 0==a.headD 0
def I5(agg:Bool)(l:List Int):List (List Int×AV×Nat)->Nat->Option (Nat×AV)
 | [],_=>none
 | e::es,i=>if cI0 agg l e.1 then some (i,e.2.1)else I5 agg l es (i+1)
def X3(T:Tab)(a:TypeId)(b:Bool)(l:List Int)(es:List (List Int×AV×Nat)):Bool :=
 match T a with
 | some ti=>if b then ti.flat==some l.length&&es.all (fun e=>e.1.length==l.length)else (match ti.und with | .int _=>true | _=>false)
 | none=>false
def cJ0(G:c9)(agg:Bool):List (List Int×AV×Nat)->List MapEntry->Prop
 | [],[]=>True
 | e::es,x::xs=>(x.key=B4 agg e.1/\Rep G e.2.1 x.val/\x.born=e.2.2)/\cJ0 G agg es xs
 | _,_=>False
theorem cJ0.length{G:c9}{agg:Bool}:∀ {es:List (List Int×AV×Nat)} {xs:List MapEntry},cJ0 G agg es xs->xs.length=es.length
 | [],[],_=>rfl
 | [],_::_,h=>h.elim
 | _::_,[],h=>h.elim
 | _::es,_::xs,h=>by simp[cJ0.length h.2]
theorem cJ0.of{G:c9}{agg:Bool}:∀ {es:List (List Int×AV×Nat)} {xs:List MapEntry},xs.length=es.length->(∀ i (h:i<es.length) (h':i<xs.length),xs[i].key=B4 agg es[i].1/\Rep G es[i].2.1 xs[i].val/\xs[i].born=es[i].2.2)->cJ0 G agg es xs
 | [],[],_,_=>trivial
 | [],_::_,h,_=>by simp at h
 | _::_,[],h,_=>by simp at h
 | e::es,x::xs,h,a=>⟨a 0 (by simp) (by simp),cJ0.of (by simpa using h) (fun i h1 h2=>a (i+1) (by simpa using h1) (by simpa using h2))⟩
theorem cJ0.at{G:c9}{agg:Bool}:∀ {es:List (List Int×AV×Nat)} {xs:List MapEntry},cJ0 G agg es xs->∀ i (h:i<es.length) (h':i<xs.length),xs[i].key=B4 agg es[i].1/\Rep G es[i].2.1 xs[i].val/\xs[i].born=es[i].2.2
 | [],[],_,i,h,_=>by simp at h
 | [],_::_,h,_,_,_=>h.elim
 | _::_,[],h,_,_,_=>h.elim
 | e::es,x::xs,h,0,_,_=>h.1
 | e::es,x::xs,h,i+1,h1,h2=>cJ0.at h.2 i (by simpa using h1) (by simpa using h2)
theorem ch0{G:c9}{p:Pl}{agg:Bool}{es:List (List Int×AV×Nat)}{clock:Nat}{a:Option Obj}(h:P1 G p (.map agg es clock) a):∃ xs:List MapEntry,a=some (.map xs.toArray clock)/\cJ0 G agg es xs:=by obtain⟨ents,h1,h2,b⟩:=h;exact⟨ents.toList,by simpa using h1,.of (by simpa using h2) (fun i h h'=>by simpa using b i h (by simpa using h'))⟩
theorem dQ0{G:c9}(p:Pl){agg:Bool}{es:List (List Int×AV×Nat)}(clock:Nat){xs:List MapEntry}(h:cJ0 G agg es xs):P1 G p (.map agg es clock) (some (.map xs.toArray clock)) :=⟨xs.toArray,rfl,by simpa using h.length,fun i h1 h2=>by simpa using h.at i h1 (by simpa using h2)⟩
def Found(G:c9)(k:Nat):Option (Nat×AV)->Option (Nat×Value)->Prop
 | none,none=>True
 | some (i,c),some (j,v)=>i=j/\k<=i/\Rep G c v
 | _,_=>False
theorem jp0{G:c9}(d:IntKind)(l:List Int):∀ (es:List (List Int×AV×Nat)) (xs:List MapEntry) (i:Nat),cJ0 G false es xs ->
  ∃ r,dA (.int d) (B4 false l) xs i=some r/\Found G i (I5 false l es i) r
 | [],[],i,_=>⟨none,rfl,trivial⟩
 | [],_::_,_,h=>h.elim
 | _::_,[],_,h=>h.elim
 | e::es,x::xs,i,h=>by
  obtain⟨⟨h1,h2,_⟩,f⟩:=h;by_cases e0:l.headD 0=e.1.headD 0
  ·refine⟨some (i,x.val),?_,?_⟩
   ·simp only[dA,h1,B4,au,Ah,fZ,Al,e0,jl]
   simp only[I5,cI0,au,Ah,e0,jl,Al];exact⟨rfl,ar _,h2⟩
  obtain⟨r,b,a⟩:=jp0 d l es xs (i+1) f;refine⟨r,?_,?_⟩
  ·simp only[dA,h1,B4,au,Ah,fZ,Al]
   have:(l.headD 0==e.1.headD 0)=false:=by simpa using e0
   rw[this];simpa[B4]using b
  have:cI0 false l e.1=false:=by simpa[cI0]using e0
  simp only[I5,this,au,Ah];cases hm:I5 false l es (i+1)with
  | none=>rw[hm]at a;cases r with
   | none=>trivial
   | some _=>exact a
  | some c=>
   obtain⟨ci,cc⟩:=c;rw[hm]at a;cases r with
   | none=>exact a
   | some q=>obtain⟨g,a2,a3⟩:=a;exact⟨g,by omega,a3⟩
theorem eE0{P:Program}{G:c9}{w:World}(b:TypeId)(l:List Int)(f:∀ bs:List Int,bs.length=l.length->(dK 10000 b (B4 true l) (B4 true bs)).run P w=.ok (l==bs) w) :
  ∀ (es:List (List Int×AV×Nat)) (xs:List MapEntry) (i:Nat),cJ0 G true es xs->(∀ e∈es,e.1.length=l.length) ->
  ∃ r,(fu b (B4 true l) xs i).run P w=.ok r w/\Found G i (I5 true l es i) r
 | [],[],i,_,_=>⟨none,rfl,trivial⟩
 | [],_::_,_,h,_=>h.elim
 | _::_,[],_,h,_=>h.elim
 | e::es,x::xs,i,h,hl=>by
  obtain⟨⟨h1,h2,_⟩,g⟩:=h;have he:=f e.1 (hl e (by simp));by_cases e0:(l==e.1)=true
  ·refine⟨some (i,x.val),?_,?_⟩
   ·simp only[fu,h1,eK,dw,al,he,e0,ah,Al,ao]
   simp only[I5,cI0,Al,e0];exact⟨rfl,ar _,h2⟩
  have e1:(l==e.1)=false:=by simpa using e0
  obtain⟨r,d,a⟩:=eE0 b l f es xs (i+1) g (fun e he=>hl e (by simp[he]));refine⟨r,?_,?_⟩
  ·simp only[fu,h1,eK,dw,al,he,e1,ah,au,Ah,d]
  simp only[I5,cI0,Al,e1,au,Ah];cases hm:I5 true l es (i+1)with
  | none=>rw[hm]at a;cases r with
   | none=>trivial
   | some _=>exact a
  | some c=>
   obtain⟨ci,cc⟩:=c;rw[hm]at a;cases r with
   | none=>exact a
   | some q=>obtain⟨j,a2,a3⟩:=a;exact⟨j,by omega,a3⟩
theorem kY0{P:Program}{w:World}(e:Bool)(n:Nat)(a:TypeId)(k b:IntKind)(m:Int)(h:(underlying a).run P w=.ok (.int b) w):(bp e (n+1) a (.int k m)).run P w=.ok () w:=by simp only[bp,al,h,ah,ao]
theorem bI0{P:Program}{T:Tab}(hT:B7 P T){G:c9}{w:World}{c:TypeId}{b:Bool}{l:List Int}{es:List (List Int×AV×Nat)}{xs:List MapEntry}(d:cJ0 G b es xs)(hf:X3 T c b l es=true) :
  (∀ e,(bp e 10000 c (B4 b l)).run P w=.ok () w)/\∃ r,(eO c (B4 b l) xs).run P w=.ok r w/\Found G 0 (I5 b l es 0) r:=by
 unfold X3 at hf;split at hf
 ·rename_i ti g
  cases b with
  | false=>
   simp only[au,Ah]at hf;split at hf
   ·rename_i j hu
    have a:=A5 hT g w;rw[hu]at a;refine⟨fun e=>?_,?_⟩
    ·exact kY0 e 9999 c .i64 j _ a
    obtain⟨r,h1,h2⟩:=jp0 j l es xs 0 d;exact⟨r,by simp only[eO,al,a,ah,h1,ao],h2⟩
   cases hf
  | true=>
   simp only[Al,ab,beq_iff_eq]at hf;obtain⟨h,f⟩:=hf;obtain⟨_,heq⟩:=hT.flat c ti l.length g h;have hlen:∀ e∈es,e.1.length=l.length:=fun e he=>by simpa using ak.1 f e he
   refine⟨fun e=>by simpa[B4]using(heq l l w rfl rfl).2 e,?_⟩;obtain⟨r,h1,h2⟩:=eE0 (P:=P) (w:=w) c l (fun bs k=>by simpa[B4]using(heq l bs w rfl k).1) es xs 0 d hlen;have a:=A5 hT g w;cases es with
   | nil=>
    cases xs with
    | nil=>exact⟨none,by simp[eO,a,dA],trivial⟩
    | cons _ _=>exact d.elim
   | cons e es=>
    cases xs with
    | nil=>exact d.elim
    | cons x xs=>
     refine⟨r,?_,h2⟩;have i:dA ti.und (B4 true l) (x::xs) 0=none:=by
      unfold dA;have:fZ ti.und (B4 true l) x.key=none:=by rw[d.1.1];simp only[B4,Al];cases ti.und<;>rfl
      rw[this]
     simp only[eO,al,a,ah,i,h1]
 cases hf
def TI.zeroAV(ti:TI):AV:=.ofValue ti.zero
def Q4:List AV->Bool
 | [k,_]=>k.key.isSome
 | _=>false
theorem F8:∀ (rs:List (List AV)) (j:Nat),(u7 j rs).length=rs.length
 | [],_=>rfl
 | _::rs,j=>by simp[u7,F8 rs]
theorem aa0:∀ (rs:List (List AV)) (j i:Nat) (h:i<(u7 j rs).length) (h':i<rs.length),(u7 j rs)[i]=D4 (j+i) rs[i]
 | r::rs,j,0,_,_=>by simp[u7]
 | r::rs,j,i+1,h,h'=>by simp only[u7,List.getElem_cons_succ];rw[aa0 rs (j+1) i (by simpa[u7]using h) (by simpa using h')];congr 1;omega
theorem hq0(j:Nat)(r:List AV):(D4 j r).2.2=j:=by unfold D4;split<;>rfl
def E5(T:Tab)(σ:c8)(t:TypeId)(x ix:AV)(a:Bool):Option AV :=
 match T t,ix.key with
 | some { und:=.map d f,.. },some (b,l)=>
  match T f with
  | some e=>
   match x with
   | .mm id=>match σ.objs id with
    | some (.map agg es _)=>if (agg=b\/es.isEmpty=true)/\X3 T d b l es=true then
      let r:=match I5 b l es 0 with
       | some (_,c)=>(c,true)
       | none=>(e.zeroAV,false)
      some (if a then .tup [r.1,.sc (.bool r.2)]else r.1)else none
    | _=>none
   | .rm (.rs rows)=>if (bp0 rows=b\/rows.isEmpty=true)/\X3 T d b l (u7 0 rows)=true/\rows.all Q4=true then
      let r:=match I5 b l (u7 0 rows) 0 with
       | some (_,c)=>(c,true)
       | none=>(e.zeroAV,false)
      some (if a then .tup [r.1,.sc (.bool r.2)]else r.1)else none
   | _=>none
  | none=>none
 | _,_=>none
theorem ip0{P:Program}{T:Tab}(hT:B7 P T){G:c9}{σ:c8}{w:World}(h:Rel G σ w){t v x:TypeId}{ti:TI}(C:T t=some ti)(hu:ti.und=.map v x){m:TI}(n:T x=some m){id:Nat}{ix:AV}{y:Value}{ok:Bool}(D:Rep G ix y)
  {b:Bool} {l:List Int} (hk:ix.key=some (b,l)) {agg:Bool} {es:List (List Int×AV×Nat)} {clock o:Nat} {xs:List MapEntry} (E:w.heap[o]?=some (.map xs.toArray clock)) (d:cJ0 G agg es xs) (p:agg=b\/es.isEmpty=true) (hf:X3 T v b l es=true) :
  I7 G σ w σ id (if ok then .tup [(match I5 b l es 0 with | some (_,c)=>(c,true) | none=>(m.zeroAV,false)).1,.sc (.bool (match I5 b l es 0 with | some (_,c)=>(c,true) | none=>(m.zeroAV,false)).2)]else (match I5 b l es 0 with | some (_,c)=>(c,true) | none=>(m.zeroAV,false)).1) ((gh t (.map (some o)) y ok).run P w):=by
 obtain rfl:=AV.key_ok hk D;have g:cJ0 G b es xs:=by
  rcases p with rfl | he
  ·exact d
  have s:es=[]:=by simpa using he
  subst s;have:xs=[]:=by have:=d.length;simpa using this
  subst this;trivial
 obtain⟨u,r,j,a⟩:=bI0 hT (P:=P) (w:=w) g hf;have N6:(getObj o).run P w=.ok (.map xs.toArray clock) w:=by simp[getObj,f_,E]
 have e:∀ (c:AV) (z:Value) (k:Bool),Rep G c z->I7 G σ w σ id (if ok then .tup [c,.sc (.bool k)]else c) (.ok (if ok then .tuple #[z,.bool k]else z) w):=fun c z k B=>by
  refine I7.same ?_ h;cases ok
  ·exact B
  have:=Rep.tup (G:=G) [c,.sc (.bool k)] [z,.bool k] rfl (fun i h1 h2=>by
   cases i with
   | zero=>exact B
   | succ i=>cases i with
    | zero=>exact .sc _
    | succ i=>simp at h1;omega)
  exact this
 have f:=A5 hT C w;rw[hu]at f;simp only[gh,al,f,ah,N6,ao,u,j];cases hm:I5 b l es 0 with
 | none=>
  rw[hm]at a;cases r with
  | some _=>exact a.elim
  | none=>simp only[al,V4 hT n,ah,ao];exact e _ _ false (Rep.ofValue G _)
 | some c=>
  obtain⟨ci,cc⟩:=c;rw[hm]at a;cases r with
  | none=>exact a.elim
  | some q=>obtain⟨H,I⟩:=q;simp only[al,ah,ao];exact e _ _ true a.2.2
theorem pG0{P:Program}{T:Tab}(hT:B7 P T){G:c9}{σ:c8}{w:World}(h:Rel G σ w){t:TypeId}{id:Nat}{x ix v:AV}{u y:Value}{ok:Bool}(m:Rep G x u)(n:Rep G ix y)
  (ha:E5 T σ t x ix ok=some v):I7 G σ w σ id v ((gh t u y ok).run P w):=by
 unfold E5 at ha;split at ha
 ·rename_i r s _ _ _ _ b l o hk
  split at ha
  ·rename_i z f
   split at ha
   ·rename_i id'
    split at ha
    ·rename_i agg es clock q
     split at ha
     ·rename_i hc
      cases ha;cases m with
      | mm _ p hp=>
      have hv:p.virt=false:=by
       rcases h.lies q hp with ⟨_,_,_,e2⟩ | ⟨e2,_⟩
       ·cases e2
       exact e2
      obtain⟨_,_,g⟩:=h.real q hp hv;obtain⟨xs,k,c⟩:=ch0 g;exact ip0 hT h o rfl f n hk k c hc.1 hc.2
     cases ha
    cases ha
   ·rename_i rows
    split at ha
    ·rename_i hc
     cases ha;cases m with
     | rm _ B ents himm hlen iJ0 hrep=>
     have k:=h.imm _ _ himm;have d:cJ0 G (bp0 rows) (u7 0 rows) ents:=cJ0.of (by rw[hlen,F8]) (fun i h1 h2=>by
      have j:i<rows.length:=by rw[F8]at h1;exact h1
      rw[aa0 _ _ _ h1 j];have e1:∀ a b:Nat,(D4 a rows[i]).1=(D4 b rows[i]).1:=fun a b=>by unfold D4;split<;>rfl
      have e2:∀ a b:Nat,(D4 a rows[i]).2.1=(D4 b rows[i]).2.1:=fun a b=>by unfold D4;split<;>rfl
      refine⟨by rw[e1 _ i];exact(iJ0 i j h2).1,by rw[e2 _ i];exact hrep i j h2,by rw[(iJ0 i j h2).2,hq0];omega⟩)
     refine ip0 hT h o rfl f n hk k d ?_ hc.2.1;rcases hc.1 with e | e
     ·exact .inl e
     refine .inr ?_;have:rows=[]:=by simpa using e
     subst this;rfl
    cases ha
   cases ha
  cases ha
 cases ha
def mput(agg:Bool)(l:List Int)(v:AV)(clock:Nat)(es:List (List Int×AV×Nat)):List (List Int×AV×Nat)×Nat :=
 match I5 agg l es 0 with
 | some (i,_)=>(es.modify i (fun e=>(l,v,e.2.2)),clock)
 | none=>(es++[(l,v,clock)],clock+1)
def B9(T:Tab)(σ:c8)(t:TypeId)(x ix v:AV):Option c8 :=
 match T t,ix.key with
 | some { und:=.map a _,.. },some (b,l)=>
  match x with
  | .mm id=>match σ.objs id with
   | some (.map agg es clock)=>if es.isEmpty/\X3 T a b l []=true then some (σ.set id (.map b [(l,v,clock)] (clock+1)))else if agg=b/\X3 T a b l es=true then some (σ.set id (.map agg (mput b l v clock es).1 (mput b l v clock es).2))else none
   | _=>none
  | _=>none
 | _,_=>none
theorem lR0{agg:Bool}{l a:List Int}(h:cI0 agg l a=true):B4 agg l=B4 agg a:=by
 cases agg
 ·simp[cI0]at h;simp[B4,h]
 simp[cI0]at h;rw[h]
theorem jU0{agg:Bool}{l:List Int}:∀ {es:List (List Int×AV×Nat)} {k i:Nat} {c:AV},I5 agg l es k=some (i,c)->∃ e,es[i-k]?=some e/\k<=i/\cI0 agg l e.1=true/\e.2.1=c
 | [],k,i,c,h=>by simp[I5]at h
 | e::es,k,i,c,h=>by
  unfold I5 at h;split at h
  ·rename_i he;cases h;exact⟨e,by simp,ar _,he,rfl⟩
  obtain⟨a,h1,h2,b,d⟩:=jU0 h;refine⟨a,?_,by omega,b,d⟩;have:i-k=(i-(k+1))+1:=by omega
  rw[this];simpa using h1
theorem fU0(agg:Bool)(l:List Int):dm 10000 (B4 agg l) (B4 agg l)=true:=by
 cases agg
 ·simp[B4,dm]
 simp only[B4,Al];show (dm (9999+1) _ _)=true;simp only[dm,jl,Bool.true_and];have:∀ l:List Int,(((l.map (bn .i64)).zip (l.map (bn .i64))).all fun (x,y)=>dm 9999 x y)=true:=by
  intro l
  induction l with
  | nil=>rfl
  | cons a l b=>simp only[ay,List.zip_cons_cons,List.all_cons,ab];exact⟨by simp[dm],b⟩
 simpa using this l
theorem cJ0.modify{G:c9}{agg:Bool}{l:List Int}{v:AV}{z:Value}(hv:Rep G v z):∀ {es:List (List Int×AV×Nat)} {xs:List MapEntry} (i:Nat),cJ0 G agg es xs ->
  cJ0 G agg (es.modify i (fun e=>(l,v,e.2.2))) (xs.modify i (fun x=>{ x with key:=B4 agg l,val:=z }))
 | [],[],i,_=>by simp[cJ0]
 | [],_::_,_,h=>h.elim
 | _::_,[],_,h=>h.elim
 | e::es,x::xs,0,h=>by simp only[gm];exact⟨⟨rfl,hv,h.1.2.2⟩,h.2⟩
 | e::es,x::xs,i+1,h=>by simp only[gn];exact⟨h.1,cJ0.modify hv i h.2⟩
theorem cJ0.snoc{G:c9}{agg:Bool}{l:List Int}{v:AV}{z:Value}{c:Nat}(hv:Rep G v z):∀ {es:List (List Int×AV×Nat)} {xs:List MapEntry},cJ0 G agg es xs ->
  cJ0 G agg (es++[(l,v,c)]) (xs++[{ key:=B4 agg l,val:=z,born:=c }])
 | [],[],_=>⟨⟨rfl,hv,rfl⟩,trivial⟩
 | [],_::_,h=>h.elim
 | _::_,[],h=>h.elim
 | e::es,x::xs,h=>⟨h.1,cJ0.snoc hv h.2⟩
theorem do0{P:Program}{w:World}{b:Nat}{o x:Obj}(h:w.heap[b]?=some x)(a:∀ c e f,x≠.cells c e f):(setObj b o).run P w=.ok () (D0 w b o):=by
 cases x with
 | cells c e f=>exact Am rfl (a c e f)
 | _=>simp[setObj,f_,h,D0]
theorem fb0{P:Program}{T:Tab}(hT:B7 P T){G:c9}{σ σ':c8}{w:World}(h:Rel G σ w){t:TypeId}{x ix v:AV}{u y z:Value}(N:Rep G x u)(O:Rep G ix y)(hz:Rep G v z)
  (ha:B9 T σ t x ix v=some σ'):∃ w',(eA t u y z).run P w=.ok () w'/\Rel G σ' w'/\Fr G σ w G σ' w':=by
 unfold B9 at ha;split at ha
 ·rename_i Q R _ _ _ _ b l K hk
  split at ha
  ·rename_i id'
   split at ha
   ·rename_i agg es clock I
    obtain rfl:=AV.key_ok hk O;cases N with
    | mm _ p hp=>
    have hv:p.virt=false:=by
     rcases h.lies I hp with ⟨_,_,_,e2⟩ | ⟨e2,_⟩
     ·cases e2
     exact e2
    obtain⟨_,_,C⟩:=h.real I hp hv;obtain⟨xs,L,d⟩:=ch0 C;have N6:(getObj p.block).run P w=.ok (.map xs.toArray clock) w:=by simp[getObj,f_,L]
    have g:∀ o,(setObj p.block o).run P w=.ok () (D0 w p.block o):=fun o=>do0 L (by intro _ _ _ h;cases h);have i:∀ (J:Bool) (j:List (List Int×AV×Nat)) (m:List MapEntry) (c:Nat),cJ0 G J j m->Rel G (σ.set id' (.map J j c)) (D0 w p.block (.map m.toArray c))/\Fr G σ w G (σ.set id' (.map J j c)) (D0 w p.block (.map m.toArray c)):=fun J j m c he=>⟨h.write I hp hv _ _ rfl rfl rfl (C2 _ _ _) (fun k hk=>A9 _ _ _ _ hk) (L7 _ _ _ _ L) (dQ0 p c he),Fr.write I hp hv _ (C2 _ _ _) (fun k hk=>A9 _ _ _ _ hk)⟩;split at ha
    ·rename_i hc
     obtain⟨D,hf⟩:=hc;cases ha;have:es=[]:=by simpa using D
     subst this;have:xs=[]:=by have:=d.length;simpa using this
     subst this;obtain⟨n,r,f,a⟩:=bI0 hT (P:=P) (w:=w) (G:=G) (b:=b) (es:=[]) (xs:=[]) trivial hf;have:r=none:=by cases r with
      | none=>rfl
      | some _=>exact a.elim
     subst this;refine⟨D0 w p.block (.map ([({ key:=B4 b l,val:=z,born:=clock }:MapEntry)]).toArray (clock+1)),?_,i b _ _ _ ⟨⟨rfl,hz,rfl⟩,trivial⟩⟩;simp only[eA,al,A5 hT K,ah,N6,n,f];simp[g]
    split at ha
    ·rename_i hc
     obtain⟨rfl,hf⟩:=hc;cases ha;obtain⟨n,r,f,a⟩:=bI0 hT (P:=P) (w:=w) d hf;cases hm:I5 agg l es 0 with
     | none=>
      rw[hm]at a;have:r=none:=by cases r with
       | none=>rfl
       | some _=>exact a.elim
      subst this;simp only[mput,hm];refine⟨D0 w p.block (.map (xs++[({ key:=B4 agg l,val:=z,born:=clock }:MapEntry)]).toArray (clock+1)),?_,i agg _ _ _ (d.snoc hz)⟩;simp only[eA,al,A5 hT K,ah,N6,n,f];simp[g]
     | some c=>
      obtain⟨ci,cc⟩:=c;rw[hm]at a;cases r with
      | none=>exact a.elim
      | some q=>
       obtain⟨S,U⟩:=q;obtain⟨rfl,_,_⟩:=a;obtain⟨e,E,_,M,_⟩:=jU0 hm;simp only[gv]at E;obtain⟨H,rfl⟩:=an.1 E;have s:ci<xs.length:=by rw[d.length];exact H
       have iJ0:xs[ci].key=B4 agg l:=by rw[(d.at ci H s).1];exact(lR0 M).symm
       simp only[mput,hm];refine⟨D0 w p.block (.map (xs.modify ci (fun x=>{ x with key:=B4 agg l,val:=z })).toArray clock),?_,i agg _ _ _ (d.modify hz ci)⟩;simp only[eA,al,A5 hT K,ah,N6,n,f];have B:(dN (((xs.toArray[ci]?).map (·.key)).getD (B4 agg l)) (B4 agg l)).run P w=.ok (B4 agg l) w:=by
        have:((xs.toArray[ci]?).map (·.key)).getD (B4 agg l)=B4 agg l:=by simp[s,iJ0]
        rw[this];simp[dN,fU0]
       simp only[al,B,ah,g];congr 3;simp
    cases ha
   cases ha
  cases ha
 cases ha
theorem oa0{G:c9}{σ:c8}{w:World}(h:Rel G σ w){id:Nat}{agg:Bool}{es:List (List Int×AV×Nat)}{clock:Nat}(c:σ.objs id=some (.map agg es clock)){p:Pl}(hp:G.pl id=some p) :
  p.virt=false/\∃ xs:List MapEntry,w.heap[p.block]?=some (.map xs.toArray clock)/\cJ0 G agg es xs:=by
 have hv:p.virt=false:=by
  rcases h.lies c hp with ⟨_,_,_,e2⟩ | ⟨e2,_⟩
  ·cases e2
  exact e2
 obtain⟨_,_,b⟩:=h.real c hp hv;obtain⟨xs,d,a⟩:=ch0 b;exact⟨hv,xs,d,a⟩
def P5(T:Tab)(σ:c8)(t:TypeId)(x ix:AV):Option (AV×c8) :=
 match T t,ix.key with
 | some { und:=.map d e,.. },some (b,l)=>
  match T e with
  | some a=>match x with
   | .mm id=>match σ.objs id with
    | some (.map agg es clock)=>
     if es.isEmpty/\X3 T d b l []=true then some (.tup [a.zeroAV,.sc (goInt clock)],σ.set id (.map b [(l,a.zeroAV,clock)] (clock+1)))else if agg=b/\X3 T d b l es=true then
      match I5 b l es 0 with
      | some (i,c)=>some (.tup [c,.sc (goInt (((es[i]?).map (·.2.2)).getD 0))],σ)
      | none=>some (.tup [a.zeroAV,.sc (goInt clock)],σ.set id (.map agg (es++[(l,a.zeroAV,clock)]) (clock+1)))else none
    | _=>none
   | _=>none
  | none=>none
 | _,_=>none
theorem Rep.tup2{G:c9}{a b:AV}{x y:Value}(h1:Rep G a x)(h2:Rep G b y):Rep G (.tup [a,b]) (.tuple #[x,y]) :=
 Rep.tup (G:=G) [a,b] [x,y] rfl (fun i hi c=>by
  match i,hi with
  | 0,_=>exact h1
  | 1,_=>exact h2)
theorem rf0{w:World}{b:Nat}{o:Obj}(h:w.heap[b]?=some o):D0 w b o=w:=by
 unfold D0;have:w.heap.setIfInBounds b o=w.heap:=by
  obtain⟨a,e⟩:=aN.1 h;subst e;apply gg
  ·simp
  intro i h1 h2;rw[dD];split
  ·rename_i hi;subst hi;rfl
  rfl
 rw[this]
theorem kQ0{P:Program}{T:Tab}(hT:B7 P T){G:c9}{σ σ':c8}{w:World}(h:Rel G σ w){t:TypeId}{id:Nat}{x ix v:AV}{u y:Value}(W:Rep G x u)(X:Rep G ix y)
  (ha:P5 T σ t x ix=some (v,σ')):I7 G σ w σ' id v ((eH t u y).run P w):=by
 unfold P5 at ha;split at ha
 ·rename_i Z et _ _ _ _ b l O hk
  split at ha
  ·rename_i J K
   split at ha
   ·rename_i id'
    split at ha
    ·rename_i agg es clock Q
     obtain rfl:=AV.key_ok hk X;cases W with
     | mm _ p hp=>
     obtain⟨hv,xs,M,d⟩:=oa0 h Q hp;have N6:(getObj p.block).run P w=.ok (.map xs.toArray clock) w:=by simp[getObj,f_,M]
     have i:∀ o,(setObj p.block o).run P w=.ok () (D0 w p.block o):=fun o=>do0 M (by intro _ _ _ h;cases h);have B:∀ (N:Bool) (m:List (List Int×AV×Nat)) (n:List MapEntry) (c:Nat),cJ0 G N m n->Rel G (σ.set id' (.map N m c)) (D0 w p.block (.map n.toArray c))/\Fr G σ w G (σ.set id' (.map N m c)) (D0 w p.block (.map n.toArray c)):=fun N m n c he=>⟨h.write Q hp hv _ _ rfl rfl rfl (C2 _ _ _) (fun k hk=>A9 _ _ _ _ hk) (L7 _ _ _ _ M) (dQ0 p c he),Fr.write Q hp hv _ (C2 _ _ _) (fun k hk=>A9 _ _ _ _ hk)⟩;have hz:Rep G J.zeroAV J.zero:=Rep.ofValue G _;split at ha
     ·rename_i hc
      obtain⟨L,hf⟩:=hc;cases ha;have:es=[]:=by simpa using L
      subst this;have:xs=[]:=by have:=d.length;simpa using this
      subst this;obtain⟨s,r,f,a⟩:=bI0 hT (P:=P) (w:=w) (G:=G) (b:=b) (es:=[]) (xs:=[]) trivial hf;have:r=none:=by cases r with
       | none=>rfl
       | some _=>exact a.elim
      subst this;obtain⟨R,S⟩:=B b [(l,J.zeroAV,clock)] [({ key:=B4 b l,val:=J.zero,born:=clock }:MapEntry)] (clock+1) ⟨⟨rfl,hz,rfl⟩,trivial⟩;refine⟨G,.tuple #[J.zero,goInt clock],_,.refl G,fun _ _ h=>h,?_,Rep.tup2 hz (.sc _),R,S⟩;simp only[eH,al,A5 hT O,ah,N6,s,f,V4 hT K];simp[i]
     split at ha
     ·rename_i hc
      obtain⟨rfl,hf⟩:=hc;obtain⟨s,r,f,a⟩:=bI0 hT (P:=P) (w:=w) d hf;split at ha
      ·rename_i ci cc hm
       cases ha;rw[hm]at a;cases r with
       | none=>exact a.elim
       | some q=>
        obtain⟨qi,Y⟩:=q;obtain⟨rfl,_,U⟩:=a;obtain⟨e,C,_,V,_⟩:=jU0 hm;simp only[gv]at C;obtain⟨D,rfl⟩:=an.1 C;have g:ci<xs.length:=by rw[d.length];exact D
        have iJ0:xs[ci].key=B4 agg l:=by rw[(d.at ci D g).1];exact(lR0 V).symm
        have E:xs[ci].born=es[ci].2.2:=(d.at ci D g).2.2;have H:xs.toArray.modify ci (fun e=>{ e with key:=B4 agg l })=xs.toArray:=by
         apply gg
         ·simp
         intro j h1 h2;by_cases hj:ci=j
         ·subst hj
          rw[Array.getElem_modify_self];simp only[List.getElem_toArray];generalize xs[ci]=z at iJ0;cases z;simp only at iJ0;rw[iJ0]
         rw[Array.getElem_modify_of_ne hj]
        refine⟨G,.tuple #[Y,goInt (es[ci].2.2)],w,.refl G,fun _ _ h=>h,?_,Rep.tup2 U (by simpa[C]using Rep.sc _),h,.refl _ _ _⟩;simp only[eH,al,A5 hT O,ah,N6,s,f];have I:(dN (((xs.toArray[ci]?).map (·.key)).getD (B4 agg l)) (B4 agg l)).run P w=.ok (B4 agg l) w:=by
         have:((xs.toArray[ci]?).map (·.key)).getD (B4 agg l)=B4 agg l:=by simp[g,iJ0]
         rw[this];simp[dN,fU0]
        simp only[al,I,ah,i,H,rf0 M,ao];simp[g,E]
      rename_i hm;cases ha;rw[hm]at a;have:r=none:=by cases r with
       | none=>rfl
       | some _=>exact a.elim
      subst this;obtain⟨R,S⟩:=B agg _ _ (clock+1) (d.snoc (l:=l) (c:=clock) hz);refine⟨G,.tuple #[J.zero,goInt clock],_,.refl G,fun _ _ h=>h,?_,Rep.tup2 hz (.sc _),R,S⟩;simp only[eH,al,A5 hT O,ah,N6,s,f,V4 hT K];simp[i]
     cases ha
    cases ha
   cases ha
  cases ha
 cases ha
def uP0(n:Int):List (List Int×AV×Nat)->Nat->Option Nat
 | [],_=>none
 | e::es,i=>if ((e.2.2:Int)==n)=true then some i else uP0 n es (i+1)
theorem rH0{G:c9}{agg:Bool}(n:Int):∀ {es:List (List Int×AV×Nat)} {xs:List MapEntry} (k:Nat),cJ0 G agg es xs->uP0 n es k=(xs.findIdx? fun x=>(x.born:Int)==n).map (·+k)
 | [],[],k,_=>by simp[uP0]
 | [],_::_,_,h=>h.elim
 | _::_,[],_,h=>h.elim
 | e::es,x::xs,k,⟨⟨h1,h2,a⟩,b⟩=>by
  unfold uP0;rw[List.findIdx?_cons,a];split
  ·simp
  rw[rH0 n (k+1) b];cases (xs.findIdx? fun x=>(x.born:Int)==n)with
  | none=>rfl
  | some j=>simp;omega
def I4(σ:c8)(x st v:AV):Option c8 :=
 match x,st with
 | .mm id,.sc (.int .i64 n)=>match σ.objs id with
  | some (.map agg es clock)=>match uP0 n es 0 with
   | some i=>some (σ.set id (.map agg (es.modify i (fun e=>(e.1,v,e.2.2))) clock))
   | none=>none
  | _=>none
 | _,_=>none
theorem cJ0.setVal{G:c9}{agg:Bool}{v:AV}{z:Value}(hv:Rep G v z):∀ {es:List (List Int×AV×Nat)} {xs:List MapEntry} (i:Nat),cJ0 G agg es xs ->
  cJ0 G agg (es.modify i (fun e=>(e.1,v,e.2.2))) (xs.modify i (fun x=>{ x with val:=z }))
 | [],[],i,_=>by simp[cJ0]
 | [],_::_,_,h=>h.elim
 | _::_,[],_,h=>h.elim
 | e::es,x::xs,0,h=>by simp only[gm];exact⟨⟨h.1.1,hv,h.1.2.2⟩,h.2⟩
 | e::es,x::xs,i+1,h=>by simp only[gn];exact⟨h.1,cJ0.setVal hv i h.2⟩
theorem iL0{P:Program}{G:c9}{σ σ':c8}{w:World}(h:Rel G σ w){t:TypeId}{x st v:AV}{u y z:Value}(l:Rep G x u)(m:Rep G st y)(hz:Rep G v z)
  (ha:I4 σ x st v=some σ'):∃ w',(gX t u y z).run P w=.ok () w'/\Rel G σ' w'/\Fr G σ w G σ' w':=by
 unfold I4 at ha;split at ha
 ·rename_i id' n
  split at ha
  ·rename_i agg es clock d
   split at ha
   ·rename_i i hi
    cases ha;cases l with
    | mm _ p hp=>
    cases m;obtain⟨hv,xs,f,a⟩:=oa0 h d hp;have N6:(getObj p.block).run P w=.ok (.map xs.toArray clock) w:=by simp[getObj,f_,f]
    have c:∀ o,(setObj p.block o).run P w=.ok () (D0 w p.block o):=fun o=>do0 f (by intro _ _ _ h;cases h);have b:(xs.findIdx? fun x=>(x.born:Int)==n)=some i:=by
     have:=rH0 n 0 a;rw[hi]at this;cases hf:(xs.findIdx? fun x=>(x.born:Int)==n)with
     | none=>rw[hf]at this;cases this
     | some j=>rw[hf]at this;simp at this;rw[this]
    refine⟨D0 w p.block (.map (xs.modify i (fun x=>{ x with val:=z })).toArray clock),?_,h.write d hp hv _ _ rfl rfl rfl (C2 _ _ _) (fun k hk=>A9 _ _ _ _ hk) (L7 _ _ _ _ f) (dQ0 p clock (a.setVal hz i)),Fr.write d hp hv _ (C2 _ _ _) (fun k hk=>A9 _ _ _ _ hk)⟩;have g:xs.toArray.findIdx? (fun e=>(e.born:Int)==n)=some i:=by rw[List.findIdx?_toArray];exact b
    simp[gX,al,ah,N6,asInt,asIntOf,b,c]
   cases ha
  cases ha
 cases ha
def mX0(T:Tab)(σ:c8)(t:TypeId)(x:AV):Option c8 :=
 match T t,x with
 | some { und:=.slice elem,.. },.ms id size off len=>match T elem,σ.objs id with
  | some a,some (.row e b es)=>if b=a.size/\size=a.size/\off+len=es.length/\a.zeroCells.all AV.one=true then some (σ.set id (.row e b (es.take off)))else none
  | _,_=>none
 | _,_=>none
theorem wV0{P:Program}{T:Tab}(hT:B7 P T){G:c9}{σ σ':c8}{w:World}(h:Rel G σ w){t ty:TypeId}{id:Nat}{x:AV}{u:Value}(V:Rep G x u)
  (ha:mX0 T σ t x=some σ'):I7 G σ w σ' id (.sc (.tuple #[])) ((cU #[t] ty #[u]).run P w):=by
 unfold mX0 at ha;split at ha
 ·rename_i elem _ _ _ _ id' size off len W
  split at ha
  ·rename_i d e sz es s z
   split at ha
   ·rename_i hc
    obtain⟨rfl,rfl,hle,I⟩:=hc;cases ha;have hu:(underlying t).run P w=.ok (.slice elem) w:=A5 hT W w;have f:len=0->I7 G σ w (σ.set id' (.row e d.size (es.take off))) id (.sc (.tuple #[])) (.ok (.tuple #[]) w):=fun e0=>by
     have he:es.take off=es:=List.take_of_length_le (by omega);rw[he];have B:∀ i o,(σ.set id' (.row e d.size es)).objs i=some o->σ.objs i=some o:=fun i o hi=>by
      rw[c8.objs_set]at hi;split at hi
      ·rename_i e1;subst e1;cases hi;exact z
      exact hi
     exact⟨G,.tuple #[],w,.refl G,fun _ _ h=>h,rfl,.sc _,h.less rfl B,⟨ar _,fun b J K=>rfl,fun i x q h1 h2 X h4=>⟨i,x,q,by
      rw[c8.objs_set]at h1;split at h1
      ·rename_i e1;subst e1;cases h1;exact z
      exact h1,h2,X,rfl⟩,fun _ _ h=>.inl h,ar _⟩⟩
    cases V with
    | msNil _ _ p hp hv=>
     have e0:(cU #[t] ty #[.slice none 0 0]).run P w=.ok (.tuple #[]) w:=by simp[cU,al,hu]
     rw[e0];exact f rfl
    | ms _ _ _ _ p hp hv hz a c n hoff hl hsp=>
     cases len with
     | zero=>
      have e0:(cU #[t] ty #[.slice (some a) 0 c]).run P w=.ok (.tuple #[]) w:=by simp[cU,al,hu]
      rw[e0];exact f rfl
     | succ len=>
      obtain⟨_,_,cells,J,hs,K,U,g⟩:=h.real z hp hv;have L:a=⟨p.block,off*p.size,none⟩:=n (by omega);subst L;rw[hs];have M:=hT.zlen elem d s;have hlen:(aL d.zero.cells (len+1)).toList.length=(len+1)*d.size:=by simp[aL,M]
      have C:∀ v∈(aL d.zero.cells (len+1)).toList,v.oneCell'=true:=fun v hv=>by rw[bC0]at hv;obtain⟨l,N,D⟩:=bD.1 hv;rw[dX N]at D;have:=ak.1 I (.sc v) (aY.2 ⟨v,by simpa using D,rfl⟩);exact Rep.one (G:=G) this (.sc v)
      have hmul:off*d.size+(len+1)*d.size<=p.cap*d.size:=by rw[<- bK];exact aZ _ (by omega)
      obtain⟨m,E,O,N6⟩:=J5 (P:=P) p.block (off*d.size) e (aL d.zero.cells (len+1)).toList 0 cells w J (by rw[hlen,K];omega) C;refine⟨G,.tuple #[],D0 w p.block (.cells m e (0,0)),.refl G,fun _ _ h=>h,?_,.sc _,?_,?_⟩
      ·have e0:∀ (a:Addr),(cU #[t] ty #[.slice (some a) (len+1) c]).run P w=((do storeCells a (aL (<- zeroValue elem).cells (len+1)).toList;pure (.tuple #[]):Sem Value)).run P w:=fun a=>by simp[cU,al,hu]
       have Q:(zeroValue elem).run P w=.ok d.zero w:=by rw[V4 hT s]
       rw[e0];simp only[al,Q,ah,E,ao]
      ·refine h.write z hp hv (.cells m e (0,0)) _ rfl rfl rfl (C2 _ _ _) (fun k hk=>A9 _ _ _ _ hk) (L7 _ _ _ _ J) ⟨m,rfl,hs,by rw[O,K],by simp;omega,fun i hi=>?_⟩
       have R:i<off:=by simp at hi;omega
       have r:i<es.length:=by simp at hi;omega
       rw[List.getElem_take];refine⟨(g i r).1,fun j hj hk=>?_⟩;have H:i*d.size+j<cells.size:=by omega
       have:=(g i r).2 j hj H;have Y:=(g i r).1;have Z:i*d.size+j<off*d.size:=by have:(i+1)*d.size<=off*d.size:=aZ _ R;rw[je]at this;omega
       have S:=N6 (i*d.size+j);rw[Ae (by omega)]at S;have e2:m[i*d.size+j]=cells[i*d.size+j]:=by rw[aS hk,aS H]at S;exact bd S
       rw[e2];exact this
      exact Fr.write z hp hv _ (C2 _ _ _) (fun k hk=>A9 _ _ _ _ hk)
   cases ha
  cases ha
 cases ha
def mK0(T:Tab)(σ:c8)(id:Nat)(t:TypeId)(n c:AV):Option (AV×c8) :=
 match T t,n,c with
 | some { und:=.slice elem,.. },.sc (.int d a),.sc (.int e f)=>match T elem with
  | some b=>if a=f/\d=e/\0<=a/\aa.wrap a=a/\b.bytes*a.toNat<=2^48 then
    some (.ms id b.size 0 a.toNat,σ.set id (.row elem b.size (ba a.toNat b.zeroCells)))else none
  | none=>none
 | _,_,_=>none
theorem xt0{P:Program}{T:Tab}(hT:B7 P T){G:c9}{σ σ':c8}{w:World}(h:Rel G σ w){t:TypeId}{id:Nat}{n c v:AV}{E H:Value}(J:Rep G n E)(hc:Rep G c H)
  (hid:G.pl id=none) (r:id<σ.next) (ha:mK0 T σ id t n c=some (v,σ')):I7 G σ w σ' id v ((ib t E H).run P w):=by
 unfold mK0 at ha;split at ha
 ·rename_i elem _ _ _ _ L I M O K
  split at ha
  ·rename_i a d
   split at ha
   ·rename_i g
    obtain⟨rfl,rfl,Q,hw,j⟩:=g;cases ha;cases J;cases hc;obtain⟨N,rfl⟩:∃ N:Nat,I=N:=⟨I.toNat,by omega⟩;have e9:((N:Nat):Int).toNat=N:=by simp
    rw[e9]at j ⊢;obtain⟨i,s,u⟩:=gM0 hT d w;have b:=hT.zlen elem a d;have x:∀ c∈ba N a.zeroCells,c.length=a.size:=fun c hc=>by rw[dX hc];simp[TI.zeroCells,b]
    have z:(aL a.zero.cells N).size=N*a.size:=by simp[aL,b]
    obtain⟨p,l,B,C,D,m⟩:=io0 (P:=P) h elem (aL a.zero.cells N) (ba N a.zeroCells) a.size N x (vs:=(ba N a.zero.cells.toList).flatten) (B6.zeros _ N)
     (fun k v hv=>by rw[<- bC0]at hv;simpa using hv) z (by simp) id hid r
    have f:I7 G σ w (σ.set id (.row elem a.size (ba N a.zeroCells))) id (.ms id a.size 0 N) (.ok (.slice (some ⟨w.heap.size,0,none⟩) N N) { w with heap:=w.heap.push (.cells (aL a.zero.cells N) elem) }):=by refine I7.place (p:=p) hid ?_ m (Fr.push _ id hid p (fun _=>l) _ w.drawn);exact .ms id _ 0 N p (c9.place_same _ _ _) D B _ N (fun _=>by rw[l];simp) (by rw[C];simp) (ar _) rfl
    have o:¬ ((i.bytes:Int)*(N:Int) > 2^48):=by rw[u];have:((a.bytes*N:Nat):Int)<=((2^48:Nat):Int):=Int.ofNat_le.2 j;simpa using this
    have q:¬ ((N:Int)<0):=by omega
    unfold ib;simp only[al,A5 hT K,ah,asInt,asIntOf,ao,s,hw,q,o,Ag,Bool.or_self,Bool.false_or,Int.lt_irrefl,Ah,gt_iff_lt,au,run_askRoom,D6 hT d,da];by_cases e:N*a.size=0
    ·have hz:(aW 0).map ((#[]:Array Value)[·%(#[]:Array Value).size]!)=aL a.zero.cells N:=by simp[aL,b,e]
     simp only[e,Al,al,ao,ah,hz,newRow,run_newObj];exact f
    have hz:(aW (N*a.size)).map (a.zero.cells[·%a.size]!)=aL a.zero.cells N:=by simp[aL,b]
    simp only[e,Ah,al,ao,ah,V4 hT d,b,hz,newRow,run_newObj];exact f
   cases ha
  cases ha
 cases ha
def dx0(T:Tab)(σ:c8)(t:TypeId)(x y:AV):Option c8 :=
 match T t,x with
 | some { und:=.slice elem,.. },.ms id size 0 len=>match T elem,σ.objs id,N9 σ y with
  | some a,some (.row e b es),some xs=>if b=a.size/\size=a.size/\len=es.length/\xs.length=len/\(xs.all fun c=>c.length==a.size&&c.all AV.one)=true then some (σ.set id (.row e b xs))else none
  | _,_,_=>none
 | _,_=>none
theorem tt0{P:Program}{T:Tab}(hT:B7 P T){G:c9}{σ σ':c8}{w:World}(h:Rel G σ w){t t2 ty:TypeId}{id:Nat}{x y:AV}{u X:Value}(Y:Rep G x u)(hy:Rep G y X)
  (ha:dx0 T σ t x y=some σ'):I7 G σ w σ' id .any ((dR #[t,t2] ty #[u,X]).run P w):=by
 unfold dx0 at ha;split at ha
 ·rename_i elem _ _ _ _ id' size len ht
  split at ha
  ·rename_i r e sz es xs H N I
   split at ha
   ·rename_i hc
    obtain⟨rfl,rfl,rfl,hlen,J⟩:=hc;cases ha;have g:∀ c∈xs,c.length=r.size/\c.all AV.one=true:=fun c hc=>by have:=ak.1 J c hc;simpa using this
    obtain⟨⟨Z,yc,O⟩,vs,j,d⟩:=nE0 (P:=P) h hy I r.size (fun c hc=>(g c hc).1);have K:vs.length=xs.length*r.size:=by rw[d.1,y9 fun c hc=>(g c hc).1]
    subst O;have hu:(underlying t).run P w=.ok (.slice elem) w:=A5 hT ht w;have hm:Nat.min xs.length es.length=xs.length:=by rw[hlen];exact Nat.min_self _
    have s:∀ c,(dR #[t,t2] ty #[.slice none es.length c,.slice Z xs.length yc]).run P w=.ok (goInt xs.length) w:=fun c=>by simp[dR,al,hu,eM,hm,D6 hT H,j]
    have L:∀ a c,(dR #[t,t2] ty #[.slice (some a) es.length c,.slice Z xs.length yc]).run P w=((do storeCells a vs;pure (goInt xs.length):Sem Value)).run P w:=fun a c=>by simp[dR,al,hu,eM,hm,D6 hT H,j]
    have f:es.length=0->I7 G σ w (σ.set id' (.row e r.size xs)) id .any (.ok (goInt xs.length) w):=fun e0=>by
     have he:xs=es:=by have h1:es=[]:=bJ e0;have h2:xs=[]:=bJ (by omega);rw[h1,h2]
     rw[he];have l:∀ i o,(σ.set id' (.row e r.size es)).objs i=some o->σ.objs i=some o:=fun i o hi=>by
      rw[c8.objs_set]at hi;split at hi
      ·rename_i e1;subst e1;cases hi;exact N
      exact hi
     exact⟨G,_,w,.refl G,fun _ _ h=>h,rfl,.any _,h.less rfl l,⟨ar _,fun b Q R=>rfl,fun i x q h1 h2 h3 h4=>⟨i,x,q,l _ _ h1,h2,h3,rfl⟩,fun _ _ h=>.inl h,ar _⟩⟩
    generalize B:es.length=n at Y;cases Y with
    | msNil _ _ p hp hv=>have:=s 0;rw[B]at this;rw[this];exact f B
    | ms _ _ _ _ p hp hv hz a c C hoff hl hsp=>
     have h9:=L a c;rw[B]at h9;rw[h9];cases hes:es.length with
     | zero=>have:vs=[]:=bJ (by rw[K,hlen,hes];simp);subst this;simp only[storeCells,al,ao,ah];exact f hes
     | succ m=>
      obtain⟨_,_,cells,Q,hs,R,hle2,hrow⟩:=h.real N hp hv;have S:a=⟨p.block,0*p.size,none⟩:=C (by omega);subst S;rw[hs,fC];have hmul:xs.length*r.size<=p.cap*r.size:=aZ _ (by omega);obtain⟨D,E,U,N6⟩:=J5 (P:=P) p.block 0 e vs 0 cells w Q (by rw[K,R];omega) (fun z hz=>by
       obtain⟨k,hk,rfl⟩:=aJ hz;have M:k<xs.flatten.length:=by rw[<- d.1];exact hk
       refine(d.2 k M hk).one ?_;obtain⟨c,V,W⟩:=bD.1 (aq M);exact ak.1 (g c V).2 _ W)
      simp only[al,E,ah,ao];refine⟨G,_,D0 w p.block (.cells D e (0,0)),.refl G,fun _ _ h=>h,rfl,.any _,?_,?_⟩
      ·refine h.write N hp hv (.cells D e (0,0)) _ rfl rfl rfl (C2 _ _ _) (fun k hk=>A9 _ _ _ _ hk) (L7 _ _ _ _ Q) ⟨D,rfl,hs,by rw[U,R],by omega,?_⟩
       exact ek0 (fun c hc=>(g c hc).1) d (fun k v hv=>by
        have hg:=N6 k;have hk:k<vs.length:=by
         rcases cE k vs.length with h' | h'
         ·exact h'
         rw[bz h']at hv;cases hv
        rw[Af (by omega)]at hg;simpa[hv]using hg)
      exact Fr.write N hp hv _ (C2 _ _ _) (fun k hk=>A9 _ _ _ _ hk)
   cases ha
  cases ha
 cases ha
def aK0(G:c9)(σ:c8)(w:World)(σ':c8)(id:Nat)(v:AV)(r:Result Next):Prop :=∃ G' u w',G.le G'/\(∀ i,i≠id->G.pl i=none->G'.pl i=none)/\(r=.ok (.value u) w'\/(r=.ok .skip w'/\u=undef))/\Rep G' v u/\Rel G' σ' w'/\Fr G σ w G' σ' w'
theorem aK0.of{P:Program}{G:c9}{σ σ':c8}{id:Nat}{v:AV}{s:Sem Value}{w:World}(h:I7 G σ w σ' id v (s.run P w)):aK0 G σ w σ' id v ((do pure (Next.value (<- s)):Sem Next).run P w):=by obtain⟨G',u,w',h1,h2,a,b,c⟩:=h;exact⟨G',u,w',h1,h2,.inl (by simp[a]),b,c⟩
theorem aK0.unit{P:Program}{G:c9}{σ σ':c8}{id:Nat}{s:Sem Unit}{w w':World}(hs:s.run P w=.ok () w')(h:Rel G σ' w'/\Fr G σ w G σ' w'):aK0 G σ w σ' id (.sc undef) ((do s;pure Next.skip:Sem Next).run P w) :=⟨G,undef,w',.refl G,fun _ _ h=>h,.inr ⟨by simp[hs],rfl⟩,.sc _,h⟩
theorem aK0.same{G:c9}{σ:c8}{id:Nat}{v:AV}{u:Value}{w:World}(a:Rep G v u)(h:Rel G σ w):aK0 G σ w σ id v (.ok (.value u) w) :=⟨G,u,w,.refl G,fun _ _ h=>h,.inl rfl,a,h,.refl _ _ _⟩
def gb0(T:Tab)(σ:c8)(t:TypeId)(x:AV):Option AV :=
 match T t with
 | some ti=>match ti.und,x with
  | .slice _,.ms _ _ _ len=>some (.sc (goInt len))
  | .slice _,.rs es=>some (.sc (goInt es.length))
  | .slice _,.sc (.slice none 0 0)=>some (.sc (goInt 0))
  | .string,.sc (.string s)=>some (.sc (goInt s.size))
  | .array n _,_=>some (.sc (goInt n))
  | .map _ _,.mm id=>match σ.objs id with
   | some (.map _ es _)=>some (.sc (goInt es.length))
   | _=>none
  | _,_=>none
 | none=>none
theorem xr0{P:Program}{T:Tab}(hT:B7 P T){G:c9}{σ:c8}{w:World}(h:Rel G σ w){t ty:TypeId}{id:Nat}{x v:AV}{u:Value}(c:Rep G x u)(ha:gb0 T σ t x=some v) :
  I7 G σ w σ id v ((cR #[t] ty #[u]).run P w):=by
 unfold gb0 at ha;split at ha
 ·rename_i ti g
  have a:=A5 hT g w;have go:∀ n:Int,(cR #[t] ty #[u]).run P w=.ok (goInt n) w->I7 G σ w σ id (.sc (goInt n)) ((cR #[t] ty #[u]).run P w):=fun n j=>by rw[j];exact I7.same (.sc _) h
  split at ha
  ·rename_i e i m o len hu
   cases ha;rw[hu]at a;apply go;cases c<;>simp[cR,a]
  ·rename_i e es hu
   cases ha;rw[hu]at a;apply go;cases c<;>simp[cR,a]
  ·rename_i e hu
   cases ha;rw[hu]at a;apply go;cases c;simp[cR,a]
  ·rename_i s hu
   cases ha;rw[hu]at a;apply go;cases c;simp[cR,a]
  ·rename_i n e _ hu
   cases ha;rw[hu]at a;apply go;simp[cR,a]
  ·rename_i k e id' hu
   split at ha
   ·rename_i agg es clock f
    cases ha;rw[hu]at a;apply go;cases c with
    | mm _ p hp=>
    have hv:p.virt=false:=by
     rcases h.lies f hp with ⟨_,_,_,e2⟩ | ⟨e2,_⟩
     ·cases e2
     exact e2
    obtain⟨_,_,d⟩:=h.real f hp hv;obtain⟨xs,l,b⟩:=ch0 d;have N6:(getObj p.block).run P w=.ok (.map xs.toArray clock) w:=by simp[getObj,f_,l]
    simp[cR,a,N6,b.length]
   cases ha
  cases ha
 cases ha
def eS0(k:IntKind):Int->List AV->Option Value
 | a,[]=>some (.int k a)
 | a,.sc (.int _ b)::rest=>eS0 k (if b > a then b else a) rest
 | _,_=>none
def fe0(k:IntKind):Int->List AV->Option Value
 | a,[]=>some (.int k a)
 | a,.sc (.int _ b)::rest=>fe0 k (if b<a then b else a) rest
 | _,_=>none
def vy0:List AV->Option Value
 | .sc (.int k a)::rest=>eS0 k a rest
 | _=>none
def vq0:List AV->Option Value
 | .sc (.int k a)::rest=>fe0 k a rest
 | _=>none
theorem lc0{P:Program}{G:c9}{w:World}(k:IntKind):∀ (l:List AV) (vs:List Value) (a:Int) (v:Value),B6 G l vs->eS0 k a l=some v->(vs.foldlM iq (.int k a):Sem Value).run P w=.ok v w
 | [],vs,a,v,h,ha=>by rw[h.nil_inv];simp[eS0]at ha;subst ha;simp
 | c::l,vs,a,v,h,ha=>by
  obtain⟨x,d,rfl,h1,h2⟩:=h.cons_inv;unfold eS0 at ha;split at ha
  ·rename_i e;cases e
  ·rename_i f b rest e
   cases e;cases h1;have:=lc0 (P:=P) (w:=w) k l d _ v h2 ha;simp only[ic,al,iq,ao,ah];exact this
  cases ha
theorem lW0{P:Program}{G:c9}{w:World}(k:IntKind):∀ (l:List AV) (vs:List Value) (a:Int) (v:Value),B6 G l vs->fe0 k a l=some v->(vs.foldlM ir (.int k a):Sem Value).run P w=.ok v w
 | [],vs,a,v,h,ha=>by rw[h.nil_inv];simp[fe0]at ha;subst ha;simp
 | c::l,vs,a,v,h,ha=>by
  obtain⟨x,d,rfl,h1,h2⟩:=h.cons_inv;unfold fe0 at ha;split at ha
  ·rename_i e;cases e
  ·rename_i f b rest e
   cases e;cases h1;have:=lW0 (P:=P) (w:=w) k l d _ v h2 ha;simp only[ic,al,ir,ao,ah];exact this
  cases ha
theorem xp0{P:Program}{G:c9}{w:World}{l:List AV}{vs:List Value}{v:Value}{at_:Array TypeId}{ty:TypeId}(h:B6 G l vs)(ha:vy0 l=some v):(Builtin.max_ at_ ty vs.toArray).run P w=.ok v w:=by
 unfold vy0 at ha;split at ha
 ·obtain⟨x,a,rfl,h1,h2⟩:=h.cons_inv
  cases h1;exact lc0 _ _ _ _ _ h2 ha
 cases ha
theorem wQ0{P:Program}{G:c9}{w:World}{l:List AV}{vs:List Value}{v:Value}{at_:Array TypeId}{ty:TypeId}(h:B6 G l vs)(ha:vq0 l=some v):(Builtin.min_ at_ ty vs.toArray).run P w=.ok v w:=by
 unfold vq0 at ha;split at ha
 ·obtain⟨x,a,rfl,h1,h2⟩:=h.cons_inv
  cases h1;exact lW0 _ _ _ _ _ h2 ha
 cases ha
def C6(T:Tab)(σ:c8)(id:Nat)(b:Builtin)(ts:Array TypeId)(args:List AV):Option (AV×c8) :=
 match b,ts.toList,args with
 | .len,[t],[x]=>match gb0 T σ t x with
  | some v=>some (v,σ)
  | none=>none
 | .append,[s,x],[a,c]=>E9 T σ id s x a c
 | .cap,[t],[x]=>match xw0 T t x with
  | some v=>some (v,σ)
  | none=>none
 | .max,_,l=>match vy0 l with
  | some v=>some (.sc v,σ)
  | none=>none
 | .min,_,l=>match vq0 l with
  | some v=>some (.sc v,σ)
  | none=>none
 | .clear,[t],[x]=>match mX0 T σ t x with
  | some σ'=>some (.sc (.tuple #[]),σ')
  | none=>none
 | .copy,[t,_],[x,y]=>match dx0 T σ t x y with
  | some σ'=>some (.any,σ')
  | none=>none
 | _,_,_=>none
def aop(T:Tab)(e:Operand->AV)(σ:c8)(id:Nat)(op:Op):Option (AV×c8) :=
 match op with
 | .move x | .assign x=>some (e x,σ)
 | .pick c a b=>match e c with
  | .sc (.bool t)=>some (if t then e a else e b,σ)
  | _=>none
 | .alloc t=>fW0 T σ id t
 | .box t x=>th0 σ id t (e x)
 | .build t g=>match fH0 T t (g.toList.map fun (i,x)=>(i,e x))with
  | some v=>some (v,σ)
  | none=>none
 | .buildSlice t len g=>I2 T σ id t len (g.toList.map fun (i,x)=>(i,e x))
 | .load t x=>match aY0 T σ t (e x)with
  | some v=>some (v,σ)
  | none=>none
 | .store t a x=>match X2 T σ t (e a) (e x)with
  | some σ'=>some (.sc undef,σ')
  | none=>none
 | .nilCheck x=>match e x with
  | .mp i j k=>some (.mp i j k,σ)
  | .rp cs=>some (.rp cs,σ)
  | .fn (.func f) a b=>some (.fn (.func f) a b,σ)
  | _=>none
 | .binOp o t x y _=>match iR0 T o t (e x) (e y)with
  | some v=>some (v,σ)
  | none=>none
 | .unOp o _ x=>match aUn o (e x)with
  | some v=>some (v,σ)
  | none=>none
 | .convert s d x=>match jE0 T s d (e x)with
  | some v=>some (v,σ)
  | none=>none
 | .makeFunc f a c=>some (.fn f (a.toList.map e) (c.toList.map e),σ)
 | .makeMap _ none=>some (.mm id,σ.set id (.map false [] 0))
 | .makeSlice t n c=>mK0 T σ id t (e n) (e c)
 | .slice t x lo hi mx=>match R6 T t (e x) (lo.map e) (hi.map e) (mx.map e)with
  | some v=>some (v,σ)
  | none=>none
 | .fieldAddr t x f=>match N5 T t (e x) f with
  | some v=>some (v,σ)
  | none=>none
 | .field t x f=>match hS0 T t (e x) f with
  | some v=>some (v,σ)
  | none=>none
 | .indexAddr t x i=>match A6 T t (e x) (e i)with
  | some v=>some (v,σ)
  | none=>none
 | .index t x i=>match cE0 T t (e x) (e i)with
  | some v=>some (v,σ)
  | none=>none
 | .lookup t x i ok=>match E5 T σ t (e x) (e i) ok with
  | some v=>some (v,σ)
  | none=>none
 | .mapUpdate t m k x | .insert t m k x=>match B9 T σ t (e m) (e k) (e x)with
  | some σ'=>some (.sc undef,σ')
  | none=>none
 | .mapEntry t m k=>P5 T σ t (e m) (e k)
 | .entryStore _ m s x=>match I4 σ (e m) (e s) (e x)with
  | some σ'=>some (.sc undef,σ')
  | none=>none
 | .extract x i=>match cr0 (e x) i with
  | some v=>some (v,σ)
  | none=>none
 | .call { callee:=.builtin b,args,argTypes }=>C6 T σ id b argTypes (args.toList.map e)
 | _=>none
theorem B6.map{G:c9}{b:Operand->AV}{ev:Operand->Value}(a:∀ x,Rep G (b x) (ev x)):∀ l:List Operand,B6 G (l.map b) (l.map ev)
 | []=>.nil G
 | x::l=>.cons (a x) (B6.map a l)
theorem B6.map2{G:c9}{b:Operand->AV}{ev:Operand->Value}(c:∀ x,Rep G (b x) (ev x))(l:List (Nat×Operand)) :
  (l.map fun (i,x)=>(i,b x)).map (·.1)=(l.map fun (i,x)=>(i,ev x)).map (·.1)/\B6 G ((l.map fun (i,x)=>(i,b x)).map (·.2)) ((l.map fun (i,x)=>(i,ev x)).map (·.2)):=by
 refine⟨by simp,?_⟩
 induction l with
 | nil=>exact .nil G
 | cons a l d=>exact .cons (c a.2) d
theorem pU0.map{G:c9}{b:Operand->AV}{ev:Operand->Value}(a:∀ x,Rep G (b x) (ev x))(o:Option Operand):pU0 G (o.map b) (o.map ev):=by
 cases o with
 | none=>trivial
 | some x=>exact a x
theorem rJ0{P:Program}{T:Tab}(hT:B7 P T){G:c9}{σ σ':c8}{w:World}(h:Rel G σ w){O:Operand->AV}{ev:Operand->Value}(q:∀ x,Rep G (O x) (ev x)){id:Nat}(hid:G.pl id=none)(H:id<σ.next)
  {o:Oper} {v:AV} (ha:aop T O σ id o.op=some (v,σ')):aK0 G σ w σ' id v ((execOp ev o).run P w):=by
 cases g:o.op with
 | move x=>rw[g]at ha;cases ha;simp only[execOp,g,ao];exact aK0.same (q x) h
 | assign x=>rw[g]at ha;cases ha;simp only[execOp,g,ao];exact aK0.same (q x) h
 | pick c a b=>
  rw[g]at ha;simp only[aop]at ha;split at ha
  ·rename_i t hc
   cases ha;have:=q c;rw[hc]at this;generalize L:ev c=u at this;cases this;simp only[execOp,g,L,al,asBool,ao,ah];refine aK0.same ?_ h;cases t<;>simp<;>exact q _
  cases ha
 | alloc t=>rw[g]at ha;simp only[aop]at ha;simp only[execOp,g];exact aK0.of (sg0 hT h hid H ha)
 | box t x=>rw[g]at ha;simp only[aop]at ha;simp only[execOp,g];exact aK0.of (wx0 h (q x) hid H ha)
 | build t K=>
  rw[g]at ha;simp only[aop]at ha;split at ha
  ·rename_i E hv
   cases ha;simp only[execOp,g];obtain⟨h1,h2⟩:=B6.map2 q K.toList;have:=qN0 (P:=P) (id:=id) hT h h1 h2 hv;refine aK0.of ?_;have e:(K.toList.map fun (x:Nat×Operand)=>(x.1,ev x.2)).toArray=K.map fun x=>(x.1,ev x.2):=by apply cK;simp
   rw[e]at this;exact this
  cases ha
 | buildSlice t len K=>
  rw[g]at ha;simp only[aop]at ha;simp only[execOp,g];obtain⟨h1,h2⟩:=B6.map2 q K.toList;have:=iN0 (P:=P) hT h h1 h2 hid H ha;refine aK0.of ?_;have e:(K.toList.map fun (x:Nat×Operand)=>(x.1,ev x.2)).toArray=K.map fun x=>(x.1,ev x.2):=by apply cK;simp
  rw[e]at this;exact this
 | load t x=>
  rw[g]at ha;simp only[aop]at ha;split at ha
  ·rename_i E hv
   cases ha;simp only[execOp,g];exact aK0.of (ry0 hT h (q x) hv)
  cases ha
 | store t a x=>
  rw[g]at ha;simp only[aop]at ha;split at ha
  ·rename_i σ1 hv
   cases ha;simp only[execOp,g];obtain⟨w',h1,h2⟩:=re0 (P:=P) hT h (q a) (q x) hv;exact aK0.unit h1 h2
  cases ha
 | nilCheck x=>
  rw[g]at ha;simp only[aop]at ha;have I:=q x;simp only[execOp,g];split at ha
  ·rename_i i j k e
   cases ha;rw[e]at I;generalize ev x=u at I;have J:=I;cases I;exact aK0.same J h
  ·rename_i cs e
   cases ha;rw[e]at I;generalize ev x=u at I;have J:=I;cases I;exact aK0.same J h
  ·rename_i f a b e
   cases ha;rw[e]at I;generalize ev x=u at I;have J:=I;cases I;exact aK0.same J h
  cases ha
 | binOp b t x y yt=>
  rw[g]at ha;simp only[aop]at ha;split at ha
  ·rename_i E hv
   cases ha;simp only[execOp,g];exact aK0.of (xs0 hT h (q x) (q y) hv)
  cases ha
 | unOp b t x=>
  rw[g]at ha;simp only[aop]at ha;split at ha
  ·rename_i E hv
   cases ha;simp only[execOp,g];exact aK0.of (aUn_ok h (q x) hv)
  cases ha
 | convert s d x=>
  rw[g]at ha;simp only[aop]at ha;split at ha
  ·rename_i E hv
   cases ha;simp only[execOp,g];exact aK0.of (ty0 hT h (q x) hv)
  cases ha
 | makeFunc f a c=>
  rw[g]at ha;cases ha;simp only[execOp,g];refine aK0.of ?_;simp only[Instr.makeFunc,ao];refine I7.same ?_ h;have h1:=B6.map q a.toList;have h2:=B6.map q c.toList;have:=Rep.fn (G:=G) f _ _ _ _ h1.1 h2.1 h1.2 h2.2;have e:∀ l:Array Operand,(l.toList.map ev).toArray=l.map ev:=fun l=>by apply cK;simp
  rw[e,e]at this;exact this
 | makeSlice t n c=>rw[g]at ha;simp only[aop]at ha;simp only[execOp,g];exact aK0.of (xt0 hT h (q n) (q c) hid H ha)
 | makeMap t r=>
  rw[g]at ha;cases r with
  | some r=>simp[aop]at ha
  | none=>cases ha;simp only[execOp,g];refine aK0.of ?_;simp only[Instr.makeMap,al,run_newObj,ah,ao,Option.map_none];let p:Pl:={ block:=w.heap.size,size:=1,cap:=1 };have Q:=h.push (.map #[] 0) id hid H p rfl rfl (.map false [] 0) ⟨#[],rfl,rfl,fun i hi=>by simp at hi⟩;exact I7.place (p:=p) hid (.mm id p (c9.place_same _ _ _)) Q (Fr.push _ id hid p (fun _=>rfl) _ w.drawn)
 | slice t x lo hi mx=>
  rw[g]at ha;simp only[aop]at ha;split at ha
  ·rename_i E hv
   cases ha;simp only[execOp,g];exact aK0.of (qs0 hT h (q x) (pU0.map q lo) (pU0.map q hi) (pU0.map q mx) hv)
  cases ha
 | fieldAddr t x f=>
  rw[g]at ha;simp only[aop]at ha;split at ha
  ·rename_i E hv
   cases ha;simp only[execOp,g];exact aK0.of (kz0 hT h (q x) hv)
  cases ha
 | field t x f=>
  rw[g]at ha;simp only[aop]at ha;split at ha
  ·rename_i E hv
   cases ha;simp only[execOp,g];exact aK0.of (rE0 hT h (q x) hv)
  cases ha
 | indexAddr t x i=>
  rw[g]at ha;simp only[aop]at ha;split at ha
  ·rename_i E hv
   cases ha;simp only[execOp,g];exact aK0.of (jX0 hT h (q x) (q i) hv)
  cases ha
 | index t x i=>
  rw[g]at ha;simp only[aop]at ha;split at ha
  ·rename_i E hv
   cases ha;simp only[execOp,g];exact aK0.of (rT0 hT h (q x) (q i) hv)
  cases ha
 | lookup t x i ok=>
  rw[g]at ha;simp only[aop]at ha;split at ha
  ·rename_i E hv
   cases ha;simp only[execOp,g];exact aK0.of (pG0 hT h (q x) (q i) hv)
  cases ha
 | mapUpdate t m k x=>
  rw[g]at ha;simp only[aop]at ha;split at ha
  ·rename_i σ1 hv
   cases ha;simp only[execOp,g];obtain⟨w',h1,h2⟩:=fb0 (P:=P) hT h (q m) (q k) (q x) hv;exact aK0.unit h1 h2
  cases ha
 | insert t m k x=>
  rw[g]at ha;simp only[aop]at ha;split at ha
  ·rename_i σ1 hv
   cases ha;simp only[execOp,g];obtain⟨w',h1,h2⟩:=fb0 (P:=P) hT h (q m) (q k) (q x) hv;exact aK0.unit h1 h2
  cases ha
 | mapEntry t m k=>rw[g]at ha;simp only[aop]at ha;simp only[execOp,g];exact aK0.of (kQ0 hT h (q m) (q k) ha)
 | entryStore t m s x=>
  rw[g]at ha;simp only[aop]at ha;split at ha
  ·rename_i σ1 he
   cases ha;simp only[execOp,g];obtain⟨w',h1,h2⟩:=iL0 (P:=P) (t:=t) h (q m) (q s) (q x) he;exact aK0.unit h1 h2
  cases ha
 | extract x i=>
  rw[g]at ha;simp only[aop]at ha;split at ha
  ·rename_i E hv
   cases ha;simp only[execOp,g];exact aK0.of (mn0 h (q x) hv)
  cases ha
 | call c=>
  rw[g]at ha;obtain⟨callee,args,ts⟩:=c;cases callee with
  | value f=>simp[aop]at ha
  | invoke r m=>simp[aop]at ha
  | builtin b=>
   simp only[aop]at ha;have z:=B6.map q args.toList;have B:(args.toList.map ev).toArray=args.map ev:=by apply cK;simp
   simp only[execOp,g,resolve,al,ao,ah,invoke];unfold C6 at ha;split at ha
   ·rename_i t x D hl
    split at ha
    ·rename_i E hv
     cases ha;have C:ts=#[t]:=by apply cK;simpa using D
     rw[hl]at z;obtain⟨u,us,e1,h1,h2⟩:=z.cons_inv;rw[h2.nil_inv]at e1;rw[<- B,e1,C];exact aK0.of (xr0 hT h h1 hv)
    cases ha
   ·rename_i s x a c D hl
    have C:ts=#[s,x]:=by apply cK;simpa using D
    rw[hl]at z;obtain⟨u,us,e1,h1,h2⟩:=z.cons_inv;obtain⟨y,ys,e2,M,N⟩:=h2.cons_inv;rw[N.nil_inv]at e2;rw[<- B,e1,e2,C];exact aK0.of (no0 hT h h1 M hid H ha)
   ·rename_i t x D hl
    split at ha
    ·rename_i E hv
     cases ha;have C:ts=#[t]:=by apply cK;simpa using D
     rw[hl]at z;obtain⟨u,us,e1,h1,h2⟩:=z.cons_inv;rw[h2.nil_inv]at e1;rw[<- B,e1,C];exact aK0.of (xE0 hT h h1 hv)
    cases ha
   ·split at ha
    ·rename_i E hv
     cases ha;rw[<- B];refine aK0.of ?_;rw[xp0 z hv];exact I7.same (.sc _) h
    cases ha
   ·split at ha
    ·rename_i E hv
     cases ha;rw[<- B];refine aK0.of ?_;rw[wQ0 z hv];exact I7.same (.sc _) h
    cases ha
   ·rename_i t x D hl
    split at ha
    ·rename_i σ1 hv
     cases ha;have C:ts=#[t]:=by apply cK;simpa using D
     rw[hl]at z;obtain⟨u,us,e1,h1,h2⟩:=z.cons_inv;rw[h2.nil_inv]at e1;rw[<- B,e1,C];exact aK0.of (wV0 hT h h1 hv)
    cases ha
   ·rename_i s x a c D hl
    split at ha
    ·rename_i σ1 hv
     cases ha;have C:ts=#[s,x]:=by apply cK;simpa using D
     rw[hl]at z;obtain⟨u,us,e1,h1,h2⟩:=z.cons_inv;obtain⟨y,ys,e2,M,N⟩:=h2.cons_inv;rw[N.nil_inv]at e2;rw[<- B,e1,e2,C];exact aK0.of (tt0 hT h h1 M hv)
    cases ha
   cases ha
 | _=>rw[g]at ha;simp[aop]at ha
structure AS where
 n:Nat
 tr:Tr AV
 st:c8
def AS.get(s:AS)(t:Nat):AV:=(s.tr.get t).getD (.sc undef)
def AS.put(s:AS)(d:Option Tmp)(v:AV):AS :=
 match d with
 | some d=>{ s with tr:=s.tr.set d (some v) }
 | none=>s
def AS.eval(s:AS):Operand->AV
 | .tmp t=>s.get t
 | .const v=>.ofValue v
 | .global g=>.sc (.pointer (some ⟨g,0,none⟩))
 | .func f=>.fn (.func f) [] []
theorem AS.get_put(s:AS)(d:Nat)(v:AV)(t:Nat):(s.put (some d) v).get t=if t=d then v else s.get t:=by simp only[AS.get,AS.put,Tr.get_set];split<;>rfl
@[simp] theorem AS.put_n (s:AS) (d:Option Tmp) (v:AV):(s.put d v).n=s.n:=by cases d<;>rfl
@[simp] theorem AS.put_st (s:AS) (d:Option Tmp) (v:AV):(s.put d v).st=s.st:=by cases d<;>rfl
structure ba0(G:c9)(s:AS)(a:Act)(w:World):Prop where
 defers:a.defers=[]
 size:a.tmps.size=s.n
 tmps:∀ t,Rep G (s.get t) (a.tmps.getD t undef)
 rel:Rel G s.st w
theorem ba0.eval{G:c9}{s:AS}{a:Act}{w:World}(h:ba0 G s a w)(x:Operand):Rep G (s.eval x) (a.eval x):=by
 cases x with
 | tmp t=>exact h.tmps t
 | const v=>exact Rep.ofValue G v
 | global g=>exact .sc _
 | func f=>exact .fn _ [] [] [] [] rfl rfl (fun i h=>by simp at h) (fun i h=>by simp at h)
def U6(n:Nat):Option Tmp->Bool
 | some d=>d<n
 | none=>true
theorem ba0.put{G G':c9}{s:AS}{a:Act}{w w':World}{σ':c8}(h:ba0 G s a w)(b:G.le G')(c:Rel G' σ' w'){v:AV}{u:Value}(hv:Rep G' v u){d:Option Tmp}(f:U6 s.n d=true) :
  ba0 G' ({ s with st:=σ' }.put d v) (a.put d u) w':=by
 cases d with
 | none=>exact⟨h.defers,h.size,fun t=>(h.tmps t).mono b,c⟩
 | some d=>
  refine⟨h.defers,by simp[iE,AS.put,h.size],fun t=>?_,c⟩;rw[AS.get_put];simp only[U6,Ad]at f;simp only[iE];by_cases e:t=d
  ·subst e
   rw[Af rfl];simp[h.size,f];exact hv
  rw[Ae e];have:(a.tmps.setIfInBounds d u).getD t undef=a.tmps.getD t undef:=by simp[bQ,Ne.symm e]
  rw[this];exact(h.tmps t).mono b
def mS0(n:Nat)(G G':c9):Prop:=∀ i,i<n->G.pl i=none->G'.pl i=none
theorem mS0.refl(n:Nat)(G:c9):mS0 n G G:=fun _ _ h=>h
theorem mS0.trans{n m:Nat}{A B C:c9}(h:mS0 n A B)(k:mS0 m B C)(a:n<=m):mS0 n A C:=fun i hi ha=>k i (by omega) (h i hi ha)
structure mj0(n:Nat)(G:c9)(σ:c8)(w:World)(G':c9)(σ':c8)(w':World):Prop where
 le:G.le G'
 keeps:mS0 n G G'
 next:σ.next<=σ'.next
 fr:Fr G σ w G' σ' w'
theorem mj0.refl(n:Nat)(G:c9)(σ:c8)(w:World):mj0 n G σ w G σ w:=⟨.refl G,.refl n G,ar _,.refl G σ w⟩
theorem mj0.trans{n m:Nat}{d e f:c9}{σ1 a b:c8}{g i j:World}(h:mj0 n d σ1 g e a i)(k:mj0 m e a i f b j)(c:n<=m):mj0 n d σ1 g f b j :=⟨h.le.trans k.le,h.keeps.trans k.keeps c,bo h.next k.next,h.fr.trans k.fr⟩
def bW0(P:Program)(f:FuncId)(args:List AV)(σ:c8)(R:AV->c8->Prop):Prop :=∀ G vs w,B6 G args vs->Rel G σ w->Calls P f vs.toArray w fun e w'=>∃ v a σ' G',e=.returned v/\mj0 σ.next G σ w G' σ' w'/\Rep G' a v/\Rel G' σ' w'/\R a σ'
def F3(P:Program)(f:FuncId)(args:List AV)(σ:c8)(R:AV->c8->Prop):Prop :=
 ∀ G vs w,B6 G args vs->Rel G σ w->∀ (o:Oper) (a:Act) (K:Act->World->Prop) (Q:Exit->Act->World->Prop),
  (∀ u b σ' G' w',mj0 σ.next G σ w G' σ' w'->Rep G' b u->Rel G' σ' w'->R b σ'->K (a.put o.dst u) w')->o.upon P a K Q ((callFunc f vs.toArray).run P w)
theorem F3.of_calls {P:Program} {f:FuncId} {args:List AV} {σ:c8} {R:AV->c8->Prop} {fn:Func} (g:P.funcs[f]?=some fn) (b:(fn.name== "runtime.NumGoroutine")=false) (c:fn.body.isNone=false)
  (h:bW0 P f args σ R):F3 P f args σ R:=by
 intro G vs w h1 h2 o a K Q i;have d:(callFunc f vs.toArray).run P w=.ok (.enter f vs.toArray) w:=by simp only[callFunc,al,run_program,ah,g,b,c,au,Ah,ao]
 rw[d];simp only[dF];refine(h G _ w h1 h2).mono ?_;rintro e w' ⟨v,j,σ',G',rfl,k,l,m,n⟩;exact i v j σ' G' w' k l m n
def AWp(P:Program)(c:Code)(Q:Exit->AS->Prop)(s:AS):Prop :=∀ G a w,ba0 G s a w->c.wp P (fun e b w'=>∃ s' G',mj0 s.st.next G s.st w G' s'.st w'/\ba0 G' s' b w'/\Q e s') a w
section
variable {P:Program} {Q:Exit->AS->Prop} {s:AS}
theorem AWp.skip(h:Q .normal s):AWp P .skip Q s:=fun G _ _ a=>wp_skip ⟨s,G,.refl _ _ _ _,a,h⟩
theorem AWp.label{l:Nat}(h:Q .normal s):AWp P (.label l) Q s:=fun G _ _ a=>wp_label ⟨s,G,.refl _ _ _ _,a,h⟩
theorem AWp.exit{id:Nat}(h:Q (.exit id) s):AWp P (.exit id) Q s:=fun G _ _ a=>wp_exit ⟨s,G,.refl _ _ _ _,a,h⟩
theorem AWp.ret(h:Q .ret s):AWp P .ret Q s:=fun G _ _ a=>wp_ret ⟨s,G,.refl _ _ _ _,a,h⟩
def mD0(K:AS->Prop)(Q:Exit->AS->Prop):Exit->AS->Prop
 | .normal,s=>K s
 | e,s=>Q e s
theorem AWp.seq{x y:Code}(h:AWp P x (mD0 (AWp P y Q) Q) s):AWp P (.seq x y) Q s:=by
 intro G a w c;refine wp_seq (wp_mono (h G a w c) ?_);rintro e d w' ⟨s',G',b,a2,a3⟩;cases e with
 | normal=>refine wp_mono (a3 G' d w' a2) ?_;rintro e2 f l ⟨s2,g,i,j,k⟩;exact⟨s2,g,b.trans i b.next,j,k⟩
 | _=>exact⟨s',G',b,a2,a3⟩
theorem AWp.cond{c:Operand}{x y:Code}{t:Bool}(hc:s.eval c=.sc (.bool t))(h:AWp P (if t then x else y) Q s):AWp P (.cond c x y) Q s:=by intro G a w d;have:=d.eval c;rw[hc]at this;generalize b:a.eval c=u at this;cases this;exact wp_cond b (h G a w d)
def gA0(id:Nat)(Q:Exit->AS->Prop):Exit->AS->Prop
 | .exit id',s=>if id'=id then Q .normal s else Q (.exit id') s
 | e,s=>Q e s
def noGo:Exit->Prop
 | .goto _=>False
 | _=>True
end
def E4(ops:Array Oper)(s:AS)(o:Oper):Option Bool :=
 match o.guard with
 | none=>some true
 | some (j,want)=>match (ops[j]?).bind (·.dst)with
  | some d=>if d<s.n then
    match s.get d with
    | .sc (.bool b)=>some (b==want)
    | .sc (.tuple _)=>some false
    | _=>none else none
  | none=>none
theorem U4{ops:Array Oper}{s:AS}{o:Oper}{b:Bool}{G:c9}{a:Act}{w:World}(h:ba0 G s a w)(ha:E4 ops s o=some b):cM o (yielded ops a.tmps)=b:=by
 unfold E4 at ha;unfold cM;split at ha
 ·rename_i e;cases ha;simp[e]
 rename_i j want e;simp only[e];split at ha
 ·rename_i d i
  split at ha
  ·rename_i f
   have c:=h.tmps d;have N6:a.tmps[d]?=some (a.tmps.getD d undef):=by simp[h.size,f]
   simp only[yielded,i,dB,N6];split at ha
   ·rename_i k g
    cases ha;rw[g]at c;generalize a.tmps.getD d undef=u at c;cases c;cases k<;>cases want<;>rfl
   ·rename_i g
    cases ha;rw[g]at c;generalize a.tmps.getD d undef=u at c;cases c;cases want<;>rfl
   cases ha
  cases ha
 cases ha
def cK0(P:Program)(ops:Array Oper)(n0:Nat)(Q:AS->Prop)(l:List Nat)(s:AS):Prop :=
 ∀ G a w,ba0 G s a w->(∀ j∈l,j<ops.size/\G.pl (n0+j)=none)->n0+ops.size<=s.st.next ->
  wpOps P ops (fun e b w'=>e=.normal/\∃ s' G',mj0 n0 G s.st w G' s'.st w'/\ba0 G' s' b w'/\Q s') l a w
section
variable {P:Program} {ops:Array Oper} {n0:Nat} {Q:AS->Prop} {s:AS}
theorem C5{Q Q':Exit->Act->World->Prop}(h:∀ e a w,Q e a w->Q' e a w):∀ (l:List Nat) (a:Act) (w:World),wpOps P ops Q l a w->wpOps P ops Q' l a w
 | [],a,w,b=>h _ _ _ b
 | i::rest,a,w,b=>by
  simp only[wpOps]at b ⊢;split
  ·rename_i d;simp only[d]at b;exact C5 h rest a w b
  rename_i o d;simp only[d]at b;split
  ·rename_i hw
   simp only[hw,Al]at b;rcases b with b | ⟨h1,a0,w0,h2⟩
   ·left
    unfold fw at *;generalize (execOp a.eval o).run P w=r at *;cases r with
    | ok n w' =>
     cases n<;>simp only[dF]at b ⊢ <;>
      first
       | exact C5 h rest _ _ b
       | exact Calls.mono b (fun e f he=>by
         cases e with
         | returned v=>exact C5 h rest _ _ he
         | panicked c=>exact h _ _ _ he
         | outgrown=>obtain⟨a0,w0,g⟩:=he;exact⟨a0,w0,h _ _ _ g⟩)
       | exact Rows.mono b (fun _ _ he=>C5 h rest _ _ he)
    | halt x w'=>cases x<;>simp only[dF]at b ⊢<;>first | exact h _ _ _ b | exact b
   exact .inr ⟨h1,a0,w0,h _ _ _ h2⟩
  rename_i hw;simp only[hw]at b;exact C5 h rest _ _ b
theorem cK0.nil(h:Q s):cK0 P ops n0 Q [] s:=fun G _ _ a _ _=>⟨rfl,s,G,.refl _ _ _ _,a,h⟩
theorem cK0.plain{T:Tab}(hT:B7 P T){i:Nat}{rest:List Nat}{o:Oper}{v:AV}{σ':c8}(k:ops[i]?=some o)(hi:i∉rest)(hw:E4 ops s o=some true)(m:U6 s.n o.dst=true)
  (ha:aop T s.eval s.st (n0+i) o.op=some (v,σ')) (p:σ'.next=s.st.next) (h:cK0 P ops n0 Q rest ({ s with st:=σ' }.put o.dst v)):cK0 P ops n0 Q (i::rest) s:=by
 intro G a w d hf L;have q:i<ops.size:=(aN.1 k).1;simp only[wpOps,k,U4 d hw,Al];left;obtain⟨G',u,w',h1,h2,c,r,t,f⟩:=rJ0 (P:=P) hT d.rel d.eval (hf i (by simp)).2 (by omega) ha;have g:∀ j∈rest,n0+j≠n0+i:=fun j hj e=>hi (by have x:j=i:=Nat.add_left_cancel e;rw[<- x];exact hj);have key:=h G' (a.put o.dst u) w' (d.put h1 t r m) (fun j hj=>⟨(hf j (by simp[hj])).1,h2 _ (g j hj) (hf j (by simp[hj])).2⟩) (by simp;omega);have z:mj0 n0 G s.st w G' σ' w':=⟨h1,fun B C D=>h2 B (by omega) D,by omega,f⟩;have b:=C5 (P:=P) (ops:=ops) (Q':=fun e l w'=>e=.normal/\∃ s' G',mj0 n0 G s.st w G' s'.st w'/\ba0 G' s' l w'/\Q s') (fun e l w' ⟨e1,s',E,H,I,J⟩ =>
  ⟨e1,s',E,z.trans (by simpa using H) (ar _),I,J⟩) rest _ _ key
 unfold fw;rcases c with c | ⟨c,K⟩
 ·rw[c];exact b
 rw[c];subst K;exact b
end
theorem AWp.region{P:Program}{Q:Exit->AS->Prop}{s:AS}{id:Nat}{ops:Array Oper}
  (h:cK0 P ops s.st.next (fun s'=>Q .normal s') (bE ops.size) { s with st:={ s.st with next:=s.st.next+ops.size } }):AWp P (.region id ops false) Q s:=by
 intro G a w b;refine wp_region ?_;have d:ba0 G { s with st:={ s.st with next:=s.st.next+ops.size } } a w:=⟨b.defers,b.size,b.tmps,b.rel.next (aO _ _)⟩;refine C5 ?_ _ _ _ (h G a w d (fun j hj=>⟨by simpa using hj,b.rel.fresh _ (aO _ _)⟩) (ar _));rintro e i w' ⟨rfl,s',G',c,f,g⟩;refine⟨s',G',⟨c.le,c.keeps,bo (aO _ _) c.next,?_⟩,f,g⟩;exact(Fr.less (σ:=s.st) (σ':={ s.st with next:=s.st.next+ops.size }) (fun _ _ h=>h)).trans c.fr
def vE0:List AV->Nat->Tr AV->Tr AV
 | [],_,t=>t
 | v::vs,i,t=>vE0 vs (i+1) (t.set i (some v))
theorem nT0:∀ (vs:List AV) (i:Nat) (t:Tr AV) (k:Nat),(vE0 vs i t).get k=if i<=k/\k<i+vs.length then vs[k-i]? else t.get k
 | [],i,t,k=>by simp[vE0];intro h1 h2;omega
 | v::vs,i,t,k=>by
  rw[vE0,nT0 vs (i+1) _ k,Tr.get_set];simp only[ax];by_cases e:k=i
  ·subst e
   rw[Ae (by omega),Af rfl,Af (by omega)];simp
  by_cases e2:i+1<=k/\k<i+1+vs.length
  ·rw[Af e2,Af (by omega)]
   obtain⟨m,hm⟩:∃ m,k-i=m+1:=⟨k-i-1,by omega⟩;rw[hm];simp;congr 1;omega
  rw[Ae e2,Ae e,Ae (by omega)]
def AS.enter(n:Nat)(args:List AV)(σ:c8):AS:={ n:=n,tr:=vE0 args 0 .leaf,st:=σ }
theorem AS.enter_get(n:Nat)(args:List AV)(σ:c8)(t:Nat):(AS.enter n args σ).get t=(args[t]?).getD (.sc undef):=by
 simp only[AS.get,AS.enter,nT0,Tr.get_leaf,cP,Aq,aG,gv];split
 ·rfl
 rw[bz (by omega)]
theorem ba0.enter{G:c9}{args:List AV}{vs:List Value}{σ:c8}{w:World}(ha:B6 G args vs)(b:Rel G σ w)(n:Nat)(c:args.length<=n) :
  ba0 G (AS.enter n args σ) { tmps:=vs.toArray++bf (n-vs.toArray.size) undef,defers:=[] } w:=by
 refine⟨rfl,by simp[AS.enter,ha.1];omega,fun t=>?_,b⟩;rw[AS.enter_get];by_cases a:t<args.length
 ·have h1:t<vs.length:=by rw[ha.1];exact a
  have:=ha.2 t a h1;simpa[a,h1,ez]using this
 have h1:¬ t<vs.length:=by rw[ha.1];exact a
 have e:(vs.toArray++bf (n-vs.toArray.size) undef).getD t undef=undef:=by
  simp only[Array.getD_eq_getD_getElem?,ez,List.size_toArray,Ae h1];by_cases h2:t-vs.length<n-vs.length
  ·simp[h2]
  simp[h2]
 rw[e,bz (by omega)];exact .sc _
theorem rk0{P:Program}{T:Tab}(hT:B7 P T){G:c9}{σ:c8}{w:World}(h:Rel G σ w){t:TypeId}{x v:AV}{u:Value}(q:Rep G x u)(ha:W8 T σ t x=some v) :
  ∃ y,(do loadVar t (<- asAddr u):Sem Value).run P w=.ok y w/\Rep G v y:=by
 cases q with
 | mp id' i j p hp=>
  simp only[W8]at ha;cases g:σ.objs id' with
  | none=>simp[g]at ha
  | some o=>
   cases o with
   | row elem size es=>
    simp only[g]at ha;cases he:es[i]? with
    | none=>simp[he]at ha
    | some cs=>
     simp only[he]at ha;cases c:T t with
     | none=>simp[c]at ha
     | some ti=>
      simp only[c]at ha;obtain⟨hi,d⟩:=an.1 he;have hv:p.virt=false:=by
       rcases h.lies g hp with ⟨_,e,s,h2⟩ | ⟨h2,_⟩
       ·cases h2;simp at hi
       exact h2
      obtain⟨_,_,cells,r,hs,z,hle,l⟩:=h.real g hp hv;obtain⟨hlen,f⟩:=l i hi;rw[d]at hlen;have hbound:∀ k,k<cs.length->i*size+k<cells.size:=fun k hk=>by rw[z];have:(i+1)*size<=p.cap*size:=aZ _ (by omega);rw[bK]at this;omega
      have:=Z6 hT c (P:=P) (G:=G) (w:=w) p.block (i*p.size) cs (fun k=>cells.getD (i*size+k) default) j
       (fun k hk=>by
        rw[cell_of_row w _ _ cells elem _ r,hs];have:=hbound k hk;simp[this]) (fun k hk=>by
        have n:=f k (by rw[d];exact hk) (hbound k hk);have:=hbound k hk;simp only[d]at n;simpa[this]using n) ha
      obtain⟨u,hu,m⟩:=this;exact⟨u,by simp only[asAddr,al,ao,ah,hu],m⟩
   | _=>simp[g]at ha
 | rp cs a val hs himm hrep=>
  simp only[W8]at ha;cases c:T t with
  | none=>simp[c]at ha
  | some ti=>simp only[c]at ha;obtain⟨b,o,s⟩:=a;simp at hs;subst hs;obtain⟨u,hu,m⟩:=Z6 hT c (P:=P) (G:=G) (w:=w) b o cs val 0 (fun k hk=>h.cell (himm k hk)) hrep ha;rw[cS]at hu;exact⟨u,by simp only[asAddr,al,ao,ah,hu],m⟩
 | _=>simp[W8]at ha
def lh0(T:Tab)(s:AS):ResultVar->Option AV
 | .tmp t=>some (s.get t)
 | .cell a t=>W8 T s.st t (s.get a)
def fn0(T:Tab)(s:AS):List ResultVar->Option (List AV)
 | []=>some []
 | r::rs=>match lh0 T s r,fn0 T s rs with
  | some v,some l=>some (v::l)
  | _,_=>none
def D1(T:Tab)(fn:Func)(s:AS):Option AV :=
 match fn0 T s fn.results.toList with
 | some [v]=>some v
 | some l=>some (.tup l)
 | none=>none
def sD0(tmps:Array Value):ResultVar->Sem Value
 | .tmp t=>pure (tmps.getD t undef)
 | .cell a t=>do loadVar t (<- asAddr (tmps.getD a undef))
theorem pi0(fn:Func)(tmps:Array Value):results fn tmps=(do
  let vs<-fn.results.mapM (sD0 tmps)
  pure (if h:vs.size=1 then vs[0]else .tuple vs)):=rfl
theorem os0{P:Program}{T:Tab}(hT:B7 P T){G:c9}{s:AS}{a:Act}{w:World}(h:ba0 G s a w):∀ {rs:List ResultVar} {l:List AV},fn0 T s rs=some l ->
  ∃ vs:List Value,(rs.mapM (sD0 a.tmps):Sem (List Value)).run P w=.ok vs w/\B6 G l vs
 | [],l,ha=>by simp[fn0]at ha;subst ha;exact⟨[],by simp,.nil G⟩
 | r::rs,l,ha=>by
  unfold fn0 at ha;split at ha
  ·rename_i v f h1 h2
   cases ha;obtain⟨vs,b,d⟩:=os0 hT h h2;have:∃ y,(sD0 a.tmps r).run P w=.ok y w/\Rep G v y:=by
    cases r with
    | tmp t=>simp only[lh0,ai]at h1;subst h1;exact⟨_,rfl,h.tmps t⟩
    | cell x t=>exact rk0 hT h.rel (h.tmps x) h1
   obtain⟨y,e,c⟩:=this;refine⟨y::vs,?_,.cons c d⟩;simp only[iD,al,e,ah,b,ao]
  cases ha
theorem eq0{P:Program}{T:Tab}(hT:B7 P T){G:c9}{s:AS}{a:Act}{w:World}(h:ba0 G s a w){fn:Func}{v:AV}(ha:D1 T fn s=some v) :
  ∃ y,(results fn a.tmps).run P w=.ok y w/\Rep G v y:=by
 unfold D1 at ha;have key:∀ l,fn0 T s fn.results.toList=some l->∃ vs:List Value,(results fn a.tmps).run P w=.ok (if h:vs.length=1 then vs[0]else .tuple vs.toArray) w/\B6 G l vs:=fun l hl=>by obtain⟨vs,b,d⟩:=os0 (P:=P) hT h hl;refine⟨vs,?_,d⟩;rw[pi0,fL];simp only[al,jk,b,ah,ao];congr 1
 split at ha
 ·rename_i i hl
  cases ha;obtain⟨vs,h1,h2⟩:=key _ hl;obtain⟨y,ys,rfl,f,g⟩:=h2.cons_inv;rw[g.nil_inv]at h1;exact⟨y,by simpa using h1,f⟩
 ·rename_i l c hl
  cases ha;obtain⟨vs,h1,h2⟩:=key _ hl;have:vs.length≠1:=fun e=>by rw[h2.1]at e;obtain⟨x,rfl⟩:=List.length_eq_one_iff.1 e;exact c x rfl
  rw[dif_neg this]at h1;exact⟨_,h1,.tup _ _ h2.1 h2.2⟩
 cases ha
theorem bW0.of_body{P:Program}{T:Tab}(hT:B7 P T){f:FuncId}{fn:Func}{c:Code}{args:List AV}{σ:c8}{R:AV->c8->Prop}(hf:P.funcs[f]?=some fn)(j:fn.body=some c)(k:args.length<=fn.ntmps)
  (h:AWp P c (fun e s'=>(e=.normal\/e=.ret)/\∃ v,D1 T fn s'=some v/\R v s'.st) (AS.enter fn.ntmps args σ)):bW0 P f args σ R:=by
 intro G vs w ha l;refine calls_of_wp hf j (wp_mono (h G _ w (ba0.enter ha l fn.ntmps k)) ?_);rintro e m w' ⟨s',G',d,a,hex,v,hv,g⟩;obtain⟨y,i,b⟩:=eq0 (P:=P) hT a hv;rcases hex with rfl | rfl
 ·exact⟨a.defers,y,i,y,v,s'.st,G',rfl,d,b,a.rel,g⟩
 exact⟨a.defers,y,i,y,v,s'.st,G',rfl,d,b,a.rel,g⟩
section
variable {P:Program} {ops:Array Oper} {n0:Nat} {Q:AS->Prop} {s:AS}
end
inductive EX where
 | nor
 | exi (id:Nat)
 | ret
def EX.toExit:EX->Exit
 | .nor=>.normal
 | .exi id=>.exit id
 | .ret=>.ret
section
variable {P:Program} {T:Tab}
end
def ag0(σ σ':c8):Prop:=σ'.low<=σ.low/\∀ i,i<σ'.low->σ'.objs i=σ.objs i
theorem ag0.refl(σ:c8):ag0 σ σ:=⟨ar _,fun _ _=>rfl⟩
theorem ag0.trans{a b c:c8}(h:ag0 a b)(k:ag0 b c):ag0 a c:=⟨bo k.1 h.1,fun i hi=>(k.2 i hi).trans (h.2 i (db hi k.1))⟩
theorem ag0.set(σ:c8)(id:Nat)(o:j5):ag0 σ (σ.set id o):=by
 refine⟨iF _ _,fun i hi=>?_⟩;have:i<id:=db hi (iu _ _)
 grind [c8.objs_set]
theorem ag0.del(σ:c8)(id:Nat):ag0 σ (σ.del id):=by
 refine⟨iF _ _,fun i hi=>?_⟩;have:i<id:=db hi (iu _ _)
 grind [c8.objs_del]
theorem jP0(σ:c8)(s:AV):(w8 σ s).next=σ.next/\ag0 σ (w8 σ s):=by
 unfold w8;split
 ·split
  ·split
   ·exact⟨rfl,.set _ _ _⟩
   exact⟨rfl,.refl _⟩
  exact⟨rfl,.refl _⟩
 exact⟨rfl,.refl _⟩
theorem lD0{T:Tab}{σ σ':c8}{id:Nat}{sT xT:TypeId}{s x v:AV}(h:E9 T σ id sT xT s x=some (v,σ')):σ'.next=σ.next/\ag0 σ σ':=by
 unfold E9 at h;split at h
 ·unfold dI0 at h
  split at h
  ·split at h
   ·cases h;exact⟨rfl,.set _ _ _⟩
   cases h
  cases h
 obtain⟨e1,e2⟩:=jP0 σ s;unfold P9 at h;split at h
 ·split at h
  ·split at h
   ·split at h
    ·simp only[ai,bV]at h
     obtain⟨_,rfl⟩:=h;refine⟨?_,?_⟩
     ·split<;>exact e1
     split
     ·exact e2.trans (ag0.trans (.del _ _) (.set _ _ _))
     exact e2.trans (.set _ _ _)
    cases h
   cases h
  cases h
 cases h
def isE:Op->Bool
 | .store .. | .mapUpdate .. | .insert .. | .mapEntry .. | .entryStore ..=>true
 | .call { callee:=.builtin .append,.. }=>true
 | .call { callee:=.builtin .clear,.. }=>true
 | .call { callee:=.builtin .copy,.. }=>true
 | _=>false
theorem tU0{T:Tab}{σ σ':c8}{t:TypeId}{x:AV}(h:mX0 T σ t x=some σ'):σ'.next=σ.next/\ag0 σ σ':=by
 unfold mX0 at h;split at h
 ·split at h
  ·split at h
   ·cases h;exact⟨rfl,.set _ _ _⟩
   cases h
  cases h
 cases h
theorem ro0{T:Tab}{σ σ':c8}{t:TypeId}{x y:AV}(h:dx0 T σ t x y=some σ'):σ'.next=σ.next/\ag0 σ σ':=by
 unfold dx0 at h;split at h
 ·split at h
  ·split at h
   ·cases h;exact⟨rfl,.set _ _ _⟩
   cases h
  cases h
 cases h
theorem sW0{T:Tab}{σ σ':c8}{id:Nat}{t:TypeId}{n c v:AV}(h:mK0 T σ id t n c=some (v,σ')):∃ o,σ'=σ.set id o:=by
 unfold mK0 at h;split at h
 ·split at h
  ·split at h
   ·cases h;exact⟨_,rfl⟩
   cases h
  cases h
 cases h
theorem kl0{T:Tab}{g:Operand->AV}{σ σ':c8}{id:Nat}{op:Op}{v:AV}(h:aop T g σ id op=some (v,σ')) :
  σ'.next=σ.next/\ag0 σ σ'/\(isE op=false->σ'=σ\/∃ o,σ'=σ.set id o):=by
 have same:σ'=σ->σ'.next=σ.next/\ag0 σ σ'/\(isE op=false->σ'=σ\/∃ o,σ'=σ.set id o):=fun e=>by subst e;exact⟨rfl,.refl _,fun _=>.inl rfl⟩
 have new:(∃ o,σ'=σ.set id o)->σ'.next=σ.next/\ag0 σ σ'/\(isE op=false->σ'=σ\/∃ o,σ'=σ.set id o):=fun ⟨o,e⟩=>by subst e;exact⟨rfl,.set _ _ _,fun _=>.inr ⟨o,rfl⟩⟩
 cases op with
 | move x=>cases h;exact same rfl
 | assign x=>cases h;exact same rfl
 | pick c a b=>grind [aop]
 | build t j=>grind [aop]
 | load t x=>grind [aop]
 | binOp b t x y yt=>grind [aop]
 | unOp b t x=>grind [aop]
 | convert s d x=>grind [aop]
 | slice t x lo hi mx=>grind [aop]
 | fieldAddr t x f=>grind [aop]
 | field t x f=>grind [aop]
 | indexAddr t x i=>grind [aop]
 | index t x i=>grind [aop]
 | lookup t x i ok=>grind [aop]
 | extract x i=>grind [aop]
 | alloc t=>grind [aop,fW0]
 | box t x=>grind [aop,th0]
 | buildSlice t len j=>
  simp only[aop,I2]at h
  grind
 | nilCheck x=>grind [aop]
 | makeFunc f a c=>cases h;exact same rfl
 | makeSlice t n c=>simp only[aop]at h;exact new (sW0 h)
 | makeMap t r=>
  cases r with
  | some r=>simp[aop]at h
  | none=>cases h;exact new ⟨_,rfl⟩
 | store t a x=>
  simp only[aop]at h;split at h
  ·rename_i σ1 hs
   cases h;refine⟨?_,?_,fun e=>by simp[isE]at e⟩
   all_goals
    unfold X2 at hs;split at hs
    ·split at hs
     ·split at hs
      ·split at hs
       ·cases hs;first | rfl | exact .set _ _ _
       cases hs
      cases hs
     cases hs
    cases hs
  cases h
 | mapEntry t m k=>
  simp only[aop]at h;refine⟨?_,?_,fun e=>by simp[isE]at e⟩
  all_goals
   unfold P5 at h;split at h
   ·split at h
    ·split at h
     ·split at h
      ·split at h
       ·cases h;first | rfl | exact .set _ _ _
       split at h
       ·split at h
        ·grind
        cases h;first | rfl | exact .set _ _ _
       cases h
      cases h
     cases h
    cases h
   cases h
 | entryStore t m s x=>
  simp only[aop]at h;split at h
  ·rename_i σ1 hs
   cases h;refine⟨?_,?_,fun e=>by simp[isE]at e⟩
   all_goals
    unfold I4 at hs;split at hs
    ·split at hs
     ·split at hs
      ·cases hs;first | rfl | exact .set _ _ _
      cases hs
     cases hs
    cases hs
  cases h
 | mapUpdate t m k x=>
  simp only[aop]at h;split at h
  ·rename_i σ1 hs
   cases h;refine⟨?_,?_,fun e=>by simp[isE]at e⟩
   all_goals
    unfold B9 at hs;split at hs
    ·split at hs
     ·split at hs
      ·split at hs
       ·cases hs;first | rfl | exact .set _ _ _
       split at hs
       ·cases hs;first | rfl | exact .set _ _ _
       cases hs
      cases hs
     cases hs
    cases hs
  cases h
 | insert t m k x=>
  simp only[aop]at h;split at h
  ·rename_i σ1 hs
   cases h;refine⟨?_,?_,fun e=>by simp[isE]at e⟩
   all_goals
    unfold B9 at hs;split at hs
    ·split at hs
     ·split at hs
      ·split at hs
       ·cases hs;first | rfl | exact .set _ _ _
       split at hs
       ·cases hs;first | rfl | exact .set _ _ _
       cases hs
      cases hs
     cases hs
    cases hs
  cases h
 | call c=>
  obtain⟨callee,args,ts⟩:=c;cases callee with
  | value f=>simp[aop]at h
  | invoke r m=>simp[aop]at h
  | builtin b=>
   simp only[aop]at h;unfold C6 at h
   grind [lD0,tU0,ro0,isE]
 | _=>simp[aop]at h
section
variable {T:Tab} {F:FuncId->Option Func}
end
def fold{L V:Type}(p:Nat->Bool):List (L->Option V)->Nat->(L->V)->(L->V)
 | [],_,f=>f
 | u::us,i,f=>fold p us (i+1) (fun l=>cond (p i) ((u l).getD (f l)) (f l))
theorem N4{L V:Type}{p q:Nat->Bool}(l:L):∀ (us:List (L->Option V)) (i:Nat) (f g:L->V),f l=g l->(∀ (j:Nat) u,us[j]?=some u->p (i+j)≠q (i+j)->u l=none) ->
  fold p us i f l=fold q us i g l
 | [],_,f,g,h,_=>h
 | u::us,i,f,g,h,hu=>by
  simp only[fold];refine N4 l us (i+1) _ _ ?_ (fun j a h1 h2=>hu (j+1) a (by simpa using h1) (by rw[show i+(j+1)=i+1+j from by omega];exact h2));by_cases e:p i=q i
  ·rw[e,h]
  have:=hu 0 u rfl (by simpa using e);rw[this,h];cases p i<;>cases q i<;>rfl
theorem fold_congr{L V:Type}{p q:Nat->Bool}:∀ (us:List (L->Option V)) (i:Nat) (f:L->V),(∀ j,i<=j->p j=q j)->fold p us i f=fold q us i f
 | [],_,_,_=>rfl
 | u::us,i,f,h=>by simp only[fold,h i (ar _)];exact fold_congr us (i+1) _ (fun j hj=>h j (by omega))
theorem aI0{L V:Type}{p:Nat->Bool}(l:L):∀ (us:List (L->Option V)) (i:Nat) (f:L->V) (v:V),(∀ (j:Nat) u,us[j]?=some u->p (i+j)=true->u l=none)->f l=v->fold p us i f l=v
 | [],_,f,v,_,h=>h
 | u::us,i,f,v,hu,h=>by
  simp only[fold];refine aI0 l us (i+1) _ v (fun j a h1 h2=>hu (j+1) a (by simpa using h1) (by rw[show i+(j+1)=i+1+j from by omega];exact h2)) ?_;cases e:p i with
  | true=>rw[hu 0 u rfl (by simpa using e),h];rfl
  | false=>exact h
theorem gF0{L V:Type}{p:Nat->Bool}(l:L){u0:L->Option V}:∀ (us:List (L->Option V)) (i k:Nat) (f:L->V),us[k]?=some u0->p (i+k)=false ->
  (∀ (j:Nat) u,us[j]?=some u->k<j->p (i+j)=true->u0 l≠none->u l=none) ->
  fold (fun j=>j==i+k||p j) us i f l=(u0 l).getD (fold p us i f l)
 | [],i,k,f,h,_,_=>by simp at h
 | u::us,i,0,f,h,hp,hu=>by
  simp only[bX,ai]at h;subst h;simp only[cS]at hp;have c:∀ j,i+1<=j->(j==i+0||p j)=p j:=fun j hj=>by
   have:(j==i+0)=false:=by simp;omega
   rw[this];rfl
  have hi:(i==i+0||p i)=true:=by simp
  simp only[fold];rw[fold_congr us (i+1) _ c,hi,hp];simp only[Ac,Aa];cases a:u l with
  | none=>simp only[ea];exact N4 l us (i+1) _ _ (by simp[a]) (fun j b _ h2=>Am rfl h2)
  | some v=>simp only[bR];exact aI0 l us (i+1) _ v (fun j b h1 h2=>hu (j+1) b (by simpa using h1) (by omega) (by rw[show i+(j+1)=i+1+j from by omega];exact h2) (by simp[a])) (by simp[a])
 | u::us,i,k+1,f,h,hp,hu=>by
  have e:(i==i+(k+1)||p i)=p i:=by
   have:(i==i+(k+1))=false:=by simp
   rw[this];rfl
  simp only[fold];rw[e];have:=gF0 (p:=p) l us (i+1) k (fun l=>cond (p i) ((u l).getD (f l)) (f l)) (by simpa using h) (by rw[show i+1+k=i+(k+1)from by omega];exact hp)
   (fun j b h1 h2 d g=>hu (j+1) b (by simpa using h1) (by omega) (by rw[show i+(j+1)=i+1+j from by omega];exact d) g)
  rw[show i+1+k=i+(k+1)from by omega]at this;exact this
theorem ge0(ob:Nat->Option j5):∀ nx,(∀ i,nx<=i->ob i=none)->∃ σ:c8,σ.next=nx/\∀ i,σ.objs i=ob i:=by
 have key:∀ n (m:Nat),∃ σ:c8,σ.next=m/\∀ i,σ.objs i=if i<n then ob i else none:=by
  intro n m
  induction n with
  | zero=>exact⟨{ next:=m,tr:=.leaf },rfl,fun i=>by simp[c8.objs,Tr.get_leaf]⟩
  | succ n b=>
   obtain⟨σ,h1,h2⟩:=b;cases a:ob n with
   | some o=>
    refine⟨σ.set n o,h1,fun i=>?_⟩;rw[c8.objs_set,h2];by_cases e:i=n
    ·subst e;simp[a]
    rw[Ae e];by_cases e2:i<n
    ·rw[Af e2,Af (by omega)]
    rw[Ae e2,Ae (by omega)]
   | none=>
    refine⟨σ,h1,fun i=>?_⟩;rw[h2];by_cases e:i=n
    ·subst e;simp[a]
    by_cases e2:i<n
    ·rw[Af e2,Af (by omega)]
    rw[Ae e2,Ae (by omega)]
 intro nx h;obtain⟨σ,h1,h2⟩:=key nx nx;refine⟨σ,h1,fun i=>?_⟩;rw[h2];split
 ·rfl
 rw[h i (by omega)]
theorem Rel.objs_lt{G:c9}{σ:c8}{w:World}(h:Rel G σ w){i:Nat}{o:j5}(a:σ.objs i=some o):i<σ.next:=by obtain⟨p,hp,_⟩:=h.objs i o a;exact h.id_lt hp
theorem Rel.frame{G G':c9}{σ σv σv' σ':c8}{w w':World}(c:Rel G σ w)(h:∀ id o,σv.objs id=some o->σ.objs id=some o)(d:Rel G' σv' w')(f:Fr G σv w G' σv' w')(hle:G.le G')
  (l:∀ id,σ'.next<=id->G'.pl id=none) (m:∀ id o,σ'.objs id=some o->σv'.objs id=some o\/(σ.objs id=some o/\σv.objs id=none)):Rel G' σ' w':=by
 have hs:=f.size;have e:∀ id o p,σ.objs id=some o->σv.objs id=none->G.pl id=some p->p.virt=false->∀ id0 o0 p0,σv.objs id0=some o0->G.pl id0=some p0->p0.virt=false->p0.block≠p.block :=fun id o p h1 h2 r s id0 o0 p0 g1 g2 g3 g4=>by have:=c.sep id0 id o0 o p0 p (h _ _ g1) h1 g2 r g3 s g4;rw[this,h2]at g1;cases g1
 refine⟨d.os,d.tape,d.output,d.size,d.imm,l,fun id o E=>?_,fun i j oi oj pi pj h1 h2 r s v1 v2 u=>?_,d.glob⟩
 ·rcases m id o E with h1 | ⟨h1,h2⟩
  ·exact d.objs id o h1
  obtain⟨p,hp,hl⟩:=c.objs id o h1;refine⟨p,hle.pl _ _ hp,?_⟩;rcases hl with hl | ⟨hv,v,z,B⟩
  ·exact .inl hl
  refine .inr ⟨hv,?_,by rw[hle.w0];exact z,?_⟩
  ·cases H:G'.imm p.block with
   | none=>rfl
   | some x=>
    rcases f.imm _ _ H with g | g | ⟨id0,o0,p0,g1,g2,g3,g4⟩
    ·rw[v]at g;cases g
    ·have:=c.obj_lt h1 hp hv;omega
    exact Am g4 (e id o p h1 h2 hp hv id0 o0 p0 g1 g2 g3)
  rw[f.same p.block (c.obj_lt h1 hp hv) (fun id0 o0 p0 g1 g2 g3=>e id o p h1 h2 hp hv id0 o0 p0 g1 g2 g3)];exact B.mono hle
 have n:∀ k x,σ.objs k=some x->∀ q,G'.pl k=some q->G.pl k=some q:=fun k x I q J=>by obtain⟨P,t,_⟩:=c.objs k x I;have:=hle.pl _ _ t;rw[J]at this;cases this;exact t
 have ee0:∀ i j oi oj pi pj,σv'.objs i=some oi->σ.objs j=some oj->σv.objs j=none->G'.pl i=some pi->G'.pl j=some pj->pi.virt=false->pj.virt=false->pi.block≠pj.block:=by intro i j oi oj pi pj K a2 a3 a4 a5 L C Q;have D:=n j oj a2 pj a5;have M:=c.obj_lt a2 D C;obtain⟨id0,o0,p0,g1,g2,g3,g4⟩:=f.live i oi pi K a4 L (by omega);exact e j oj pj a2 a3 D C id0 o0 p0 g1 g2 g3 (by omega)
 rcases m i oi h1 with a | ⟨a,N⟩<;>rcases m j oj h2 with b | ⟨b,O⟩
 ·exact d.sep i j oi oj pi pj a b r s v1 v2 u
 ·exact Am u (ee0 i j oi oj pi pj a b O r s v1 v2)
 ·exact Am u.symm (ee0 j i oj oi pj pi b a N s r v2 v1)
 exact c.sep i j oi oj pi pj a b (n i oi a pi r) (n j oj b pj s) v1 v2 u
theorem Fr.frame{G G':c9}{σ σv σv' σ':c8}{w w':World}(e:Rel G σ w)(c:∀ id o,σv.objs id=some o->σ.objs id=some o)(d:Fr G σv w G' σv' w')(hle:G.le G')
  (h:∀ id o,σ'.objs id=some o->σv'.objs id=some o\/(σ.objs id=some o/\σv.objs id=none)):Fr G σ w G' σ' w':=by
 refine⟨d.size,fun b i k=>d.same b i (fun id o p h1 h2 f=>k id o p (c _ _ h1) h2 f),fun id o p h1 h2 f l=>?_,fun b o i=>?_,d.drawn⟩
 ·rcases h id o h1 with a | ⟨a,_⟩
  ·obtain⟨id0,o0,p0,g1,g2,g3,g4⟩:=d.live id o p a h2 f l
   exact⟨id0,o0,p0,c _ _ g1,g2,g3,g4⟩
  obtain⟨q,j,_⟩:=e.objs id o a;have:=hle.pl _ _ j;rw[h2]at this;cases this;exact⟨id,o,p,a,j,f,rfl⟩
 rcases d.imm b o i with g | g | ⟨id0,o0,p0,g1,g2,g3,g4⟩
 ·exact .inl g
 ·exact .inr (.inl g)
 exact .inr (.inr ⟨id0,o0,p0,c _ _ g1,g2,g3,g4⟩)
def T7(tm:Nat->AV):Operand->AV
 | .tmp t=>tm t
 | .const v=>.ofValue v
 | .global g=>.sc (.pointer (some ⟨g,0,none⟩))
 | .func f=>.fn (.func f) [] []
theorem AS.eval_eq(s:AS)(x:Operand):s.eval x=T7 s.get x:=by cases x<;>rfl
structure te0(G:c9)(n:Nat)(tm:Nat->AV)(σ:c8)(a:Act)(w:World):Prop where
 defers:a.defers=[]
 size:a.tmps.size=n
 tmps:∀ t,Rep G (tm t) (a.tmps.getD t undef)
 rel:Rel G σ w
theorem te0.eval{G:c9}{n:Nat}{tm:Nat->AV}{σ:c8}{a:Act}{w:World}(h:te0 G n tm σ a w)(x:Operand):Rep G (T7 tm x) (a.eval x):=by
 cases x with
 | tmp t=>exact h.tmps t
 | const v=>exact Rep.ofValue G v
 | global g=>exact .sc _
 | func f=>exact .fn _ [] [] [] [] rfl rfl (fun i h=>by simp at h) (fun i h=>by simp at h)
def mV0(d:Option Tmp)(v:AV):Nat->Option AV:=fun t=>if d=some t then some v else none
theorem te0.put{G G':c9}{n:Nat}{tm:Nat->AV}{σ σ':c8}{a:Act}{w w':World}(h:te0 G n tm σ a w)(b:G.le G')(c:Rel G' σ' w'){v:AV}{u:Value}(hv:Rep G' v u){d:Option Tmp}(f:U6 n d=true) :
  te0 G' n (fun t=>(mV0 d v t).getD (tm t)) σ' (a.put d u) w':=by
 cases d with
 | none=>exact⟨h.defers,h.size,fun t=>(h.tmps t).mono b,c⟩
 | some d=>
  refine⟨h.defers,by simp[iE,h.size],fun t=>?_,c⟩;simp only[U6,Ad]at f;simp only[iE,mV0];by_cases e:d=t
  ·subst e
   simp[h.size,f];exact hv
  have:(a.tmps.setIfInBounds d u).getD t undef=a.tmps.getD t undef:=by simp[bQ,e]
  rw[this];simp[e];simpa using(h.tmps t).mono b
def aq0(ops:Array Oper)(n:Nat)(tm:Nat->AV)(o:Oper):Option Bool :=
 match o.guard with
 | none=>some true
 | some (j,want)=>match (ops[j]?).bind (·.dst)with
  | some d=>if d<n then
    match tm d with
    | .sc (.bool b)=>some (b==want)
    | .sc (.tuple _)=>some false
    | _=>none else none
  | none=>none
theorem Z1{ops:Array Oper}{n:Nat}{tm a:Nat->AV}{o:Oper}(h:∀ t∈o.looksAt ops,tm t=a t):aq0 ops n tm o=aq0 ops n a o:=by
 unfold aq0;cases b:o.guard with
 | none=>rfl
 | some q=>
  obtain⟨j,want⟩:=q;simp only[];cases c:(ops[j]?).bind (·.dst)with
  | none=>rfl
  | some d=>have:=h d (by unfold iU;rw[b];simp[c]);simp only[this]
theorem cc0{ops:Array Oper}{n:Nat}{tm:Nat->AV}{o:Oper}{b:Bool}{G:c9}{σ:c8}{a:Act}{w:World}(h:te0 G n tm σ a w)(ha:aq0 ops n tm o=some b):cM o (yielded ops a.tmps)=b:=by
 unfold aq0 at ha;unfold cM;split at ha
 ·rename_i e;cases ha;simp[e]
 rename_i j want e;simp only[e];split at ha
 ·rename_i d i
  split at ha
  ·rename_i f
   have c:=h.tmps d;have N6:a.tmps[d]?=some (a.tmps.getD d undef):=by simp[h.size,f]
   simp only[yielded,i,dB,N6];split at ha
   ·rename_i k g
    cases ha;rw[g]at c;generalize a.tmps.getD d undef=u at c;cases c;cases k<;>cases want<;>rfl
   ·rename_i g
    cases ha;rw[g]at c;generalize a.tmps.getD d undef=u at c;cases c;cases want<;>rfl
   cases ha
  cases ha
 cases ha
theorem dV0{ops:Array Oper}{tm a:Nat->AV}{o:Oper}(h:∀ t∈o.looksAt ops,tm t=a t):∀ x∈o.op.operands,T7 tm x=T7 a x:=by
 intro x b;cases x with
 | tmp t=>exact h t (by unfold iU;exact List.mem_append_left _ (cT.2 ⟨.tmp t,by simpa using b,rfl⟩))
 | _=>rfl
theorem bQ0{b a:Operand->AV}{l:Array Operand}(h:∀ x∈l,b x=a x):l.toList.map b=l.toList.map a:=bq fun x c=>h x (by simpa using c)
theorem rY0{T:Tab}{v g:Operand->AV}{σ:c8}{id:Nat}{op:Op}(h:∀ x∈op.operands,v x=g x):aop T v σ id op=aop T g σ id op:=by
 have j:∀ u:Array (Nat×Operand),(∀ x∈(u.toList.map (·.2)),v x=g x)->(u.toList.map fun (p:Nat×Operand)=>(p.1,v p.2))=(u.toList.map fun (p:Nat×Operand)=>(p.1,g p.2)):=fun u hp=>bq fun p hm=>by rw[hp p.2 (aY.2 ⟨p,hm,rfl⟩)]
 cases op with
 | move x=>simp only[aop];rw[h x (by simp[aF])]
 | assign x=>simp only[aop];rw[h x (by simp[aF])]
 | pick c a b=>simp only[aop];rw[h c (by simp[aF]),h a (by simp[aF]),h b (by simp[aF])]
 | alloc t=>rfl
 | box t x=>simp only[aop];rw[h x (by simp[aF])]
 | build t u=>simp only[aop];rw[j u (fun x q=>h x (by simpa[aF]using q))]
 | buildSlice t len u=>simp only[aop];rw[j u (fun x q=>h x (by simpa[aF]using q))]
 | load t x=>simp only[aop];rw[h x (by simp[aF])]
 | store t a x=>simp only[aop];rw[h a (by simp[aF]),h x (by simp[aF])]
 | nilCheck x=>simp only[aop];rw[h x (by simp[aF])]
 | binOp b t x y yt=>simp only[aop];rw[h x (by simp[aF]),h y (by simp[aF])]
 | unOp b t x=>simp only[aop];rw[h x (by simp[aF])]
 | convert s d x=>simp only[aop];rw[h x (by simp[aF])]
 | makeFunc f a c=>simp only[aop];rw[bQ0 (l:=a) (fun x q=>h x (by simp[aF,q])),bQ0 (l:=c) (fun x q=>h x (by simp[aF,q]))]
 | makeMap t r=>cases r<;>rfl
 | makeSlice t n c=>simp only[aop];rw[h n (by simp[aF]),h c (by simp[aF])]
 | slice t x lo hi mx=>
  simp only[aop];rw[h x (by simp[aF])];have e:∀ o:Option Operand,(∀ y,o=some y->v y=g y)->o.map v=o.map g:=fun o z=>by cases o with
   | none=>rfl
   | some y=>simp[z y rfl]
  rw[e lo (fun y w=>h y (by simp[aF,w])),e hi (fun y w=>h y (by simp[aF,w])),e mx (fun y w=>h y (by simp[aF,w]))]
 | fieldAddr t x f=>simp only[aop];rw[h x (by simp[aF])]
 | field t x f=>simp only[aop];rw[h x (by simp[aF])]
 | indexAddr t x i=>simp only[aop];rw[h x (by simp[aF]),h i (by simp[aF])]
 | index t x i=>simp only[aop];rw[h x (by simp[aF]),h i (by simp[aF])]
 | lookup t x i ok=>simp only[aop];rw[h x (by simp[aF]),h i (by simp[aF])]
 | mapUpdate t m k x=>simp only[aop];rw[h m (by simp[aF]),h k (by simp[aF]),h x (by simp[aF])]
 | insert t m k x=>simp only[aop];rw[h m (by simp[aF]),h k (by simp[aF]),h x (by simp[aF])]
 | mapEntry t m k=>simp only[aop];rw[h m (by simp[aF]),h k (by simp[aF])]
 | entryStore t m s x=>simp only[aop];rw[h m (by simp[aF]),h s (by simp[aF]),h x (by simp[aF])]
 | extract x i=>simp only[aop];rw[h x (by simp[aF])]
 | call c=>
  obtain⟨callee,args,ts⟩:=c;cases callee with
  | builtin b=>simp only[aop];rw[bQ0 (l:=args) (fun x q=>h x (by simp[aF,ed,q]))]
  | value f=>rfl
  | invoke r m=>rfl
 | _=>rfl
def AV.ids0:AV->List Nat
 | .ms id _ _ _=>[id]
 | .mp id _ _=>[id]
 | .mm id=>[id]
 | .ss id _ _=>[id]
 | .xp id _ _=>[id]
 | .xs id _ _ _=>[id]
 | _=>[]
def bj0(b:Operand->AV):Op->List Nat
 | .load _ x=>(b x).ids0
 | .store _ a _=>(b a).ids0
 | .lookup _ x _ _=>(b x).ids0
 | .mapUpdate _ m _ _=>(b m).ids0
 | .insert _ m _ _=>(b m).ids0
 | .mapEntry _ m _=>(b m).ids0
 | .entryStore _ m _ _=>(b m).ids0
 | .call { callee:=.builtin _,args:=args,.. }=>(args.toList.map fun x=>(b x).ids0).flatten
 | _=>[]
def cT0(σ:c8):List Nat->c8->c8
 | [],t=>t
 | i::is,t=>cT0 σ is (match σ.objs i with | some o=>t.set i o | none=>t)
def small(σ:c8)(ids:List Nat):c8:=cT0 σ ids { next:=σ.next,tr:=.leaf }
theorem fG0(σ:c8):∀ (is:List Nat) (t:c8) (k:Nat),(∀ o,t.objs k=some o->σ.objs k=some o)->(cT0 σ is t).objs k=if k∈is then σ.objs k else t.objs k
 | [],t,k,_=>by simp[cT0]
 | i::is,t,k,h=>by
  simp only[cT0];have h':∀ o,(match σ.objs i with | some o=>t.set i o | none=>t).objs k=some o->σ.objs k=some o:=fun o a=>by
   cases hi:σ.objs i with
   | none=>rw[hi]at a;exact h o a
   | some x=>
    rw[hi]at a;simp only[c8.objs_set]at a;split at a
    ·rename_i e;subst e;rw[hi];exact a
    exact h o a
  rw[fG0 σ is _ k h'];by_cases e:k∈is
  ·simp[e]
  rw[Ae e];by_cases e2:k=i
  ·subst e2
   rw[Af (by simp)];cases hi:σ.objs k with
   | none=>
    simp only;cases b:t.objs k with
    | none=>rfl
    | some o=>have:=h o b;rw[hi]at this;cases this
   | some x=>simp[c8.objs_set]
  rw[Ae (by simp[e,e2])];cases hi:σ.objs i with
  | none=>rfl
  | some x=>simp[c8.objs_set,e2]
theorem az0(σ:c8)(ids:List Nat)(k:Nat):(small σ ids).objs k=if k∈ids then σ.objs k else none:=by unfold small;rw[fG0 σ ids _ k (fun o a=>by simp[c8.objs,Tr.get_leaf]at a)];simp[c8.objs,Tr.get_leaf]
theorem gm0{T:Tab}{σ σ':c8}{m:Nat}{t:TypeId}{x k v:AV}(hs:P5 T σ t x k=some (v,σ')):P5 T { σ with next:=m } t x k=some (v,{ σ' with next:=m }):=by
 unfold P5 at hs ⊢;have e:∀ k,({ σ with next:=m }:c8).objs k=σ.objs k:=fun _=>rfl;split at hs
 ·rename_i h1 h2
  try simp only[h1,h2]
  split at hs
  ·rename_i c
   try simp only[c]
   split at hs
   ·simp only[e]
    split at hs
    ·rename_i d
     try simp only[d]
     split at hs
     ·rename_i a;cases hs;rw[Af a];rfl
     rename_i a;rw[Ae a];split at hs
     ·rename_i f
      rw[Af f];split at hs
      ·rename_i b;cases hs;(try simp only[b])
      rename_i b;cases hs;(try simp only[b]);rfl
     cases hs
    cases hs
   cases hs
  cases hs
 cases hs
theorem eu0{σ σ':c8}{m:Nat}{x k v:AV}(hs:I4 σ x k v=some σ'):I4 { σ with next:=m } x k v=some { σ' with next:=m }:=by
 unfold I4 at hs ⊢;have e:∀ k,({ σ with next:=m }:c8).objs k=σ.objs k:=fun _=>rfl;split at hs
 ·simp only[e]
  split at hs
  ·rename_i a
   try simp only[a]
   split at hs
   ·rename_i b;cases hs;(try simp only[b]);rfl
   cases hs
  cases hs
 cases hs
theorem bO0{T:Tab}{σ σ':c8}{m:Nat}{t:TypeId}{x k y:AV}(hs:B9 T σ t x k y=some σ'):B9 T { σ with next:=m } t x k y=some { σ' with next:=m }:=by
 unfold B9 at hs ⊢;split at hs
 ·rename_i h1 h2
  try simp only[h1,h2]
  split at hs
  ·have e:∀ k,({ σ with next:=m }:c8).objs k=σ.objs k:=fun _=>rfl
   simp only[e];split at hs
   ·rename_i b
    try simp only[b]
    split at hs
    ·rename_i a;cases hs;rw[Af a];rfl
    rename_i a;rw[Ae a];split at hs
    ·rename_i c;cases hs;rw[Af c];rfl
    cases hs
   cases hs
  cases hs
 cases hs
theorem iC0{T:Tab}{σ σ':c8}{id m:Nat}{sT xT:TypeId}{s x v:AV}(h:P9 T σ id sT xT s x=some (v,σ')):P9 T { σ with next:=m } id sT xT s x=some (v,{ σ' with next:=m }):=by
 unfold P9 at h ⊢;split at h
 ·rename_i h1 h2
  try simp only[h1,h2]
  split at h
  ·rename_i a
   try simp only[a]
   have e1:∀ e z y,T9 { σ with next:=m } e z y=T9 σ e z y:=fun _ _ _=>rfl;have e2:∀ y,N9 { σ with next:=m } y=N9 σ y:=fun _=>rfl;simp only[e1,e2];split at h
   ·rename_i b c
    try simp only[b,c]
    split at h
    ·rename_i d
     simp only[ai,bV]at h;obtain⟨rfl,rfl⟩:=h;rw[Af d];simp only[ai,bV,Aq];split<;>rfl
    cases h
   cases h
  cases h
 cases h
theorem gp0(σ:c8)(m:Nat)(s:AV):w8 { σ with next:=m } s={ w8 σ s with next:=m }:=by
 unfold w8;split
 ·rename_i id z len
  have e:({ σ with next:=m }:c8).objs id=σ.objs id:=rfl;rw[e];split
  ·split<;>rfl
  rfl
 rfl
theorem hE0{T:Tab}{σ σ':c8}{id m:Nat}{sT xT:TypeId}{s x v:AV}(h:E9 T σ id sT xT s x=some (v,σ')):E9 T { σ with next:=m } id sT xT s x=some (v,{ σ' with next:=m }):=by
 unfold E9 at h ⊢;split at h
 ·unfold dI0 at h ⊢
  split at h
  ·split at h
   ·rename_i a
    rw[Af a];cases h;rfl
   cases h
  cases h
 rename_i b;rw[gp0];exact iC0 (m:=m) h
theorem mz0{T:Tab}{σ σ':c8}{m:Nat}{t:TypeId}{x:AV}(h:mX0 T σ t x=some σ'):mX0 T { σ with next:=m } t x=some { σ' with next:=m }:=by
 have e:∀ i,c8.objs { σ with next:=m } i=σ.objs i:=fun _=>rfl;unfold mX0 at h ⊢;simp only[e];split at h
 ·split at h
  ·split at h
   ·rename_i hc;cases h;simp only[hc,Al,and_self];rfl
   cases h
  cases h
 cases h
theorem mZ0{T:Tab}{σ σ':c8}{id m:Nat}{t:TypeId}{n c v:AV}(h:mK0 T σ id t n c=some (v,σ')):mK0 T { σ with next:=m } id t n c=some (v,{ σ' with next:=m }):=by
 unfold mK0 at h ⊢;split at h
 ·split at h
  ·split at h
   ·rename_i hc;cases h;rw[Af hc];rfl
   cases h
  cases h
 cases h
theorem li0{T:Tab}{σ σ':c8}{m:Nat}{t:TypeId}{x y:AV}(h:dx0 T σ t x y=some σ'):dx0 T { σ with next:=m } t x y=some { σ' with next:=m }:=by
 have e:∀ i,c8.objs { σ with next:=m } i=σ.objs i:=fun _=>rfl;have e2:N9 { σ with next:=m } y=N9 σ y:=rfl;unfold dx0 at h ⊢;simp only[e,e2];split at h
 ·split at h
  ·split at h
   ·rename_i hc;cases h;rw[Af hc];rfl
   cases h
  cases h
 cases h
theorem pw0{T:Tab}{g:Operand->AV}{σ σ':c8}{id m:Nat}{op:Op}{v:AV}(h:aop T g σ id op=some (v,σ')):aop T g { σ with next:=m } id op=some (v,{ σ' with next:=m }):=by
 cases op with
 | move x=>cases h;rfl
 | assign x=>cases h;rfl
 | pick c a b=>
  simp only[aop]at h ⊢;split at h
  ·rename_i hv;cases h;first | rfl | simp only[hv]
  cases h
 | build t o=>
  simp only[aop]at h ⊢;split at h
  ·rename_i hv;cases h;first | rfl | simp only[hv]
  cases h
 | binOp b t x y yt=>
  simp only[aop]at h ⊢;split at h
  ·rename_i hv;cases h;first | rfl | simp only[hv]
  cases h
 | unOp b t x=>
  simp only[aop]at h ⊢;split at h
  ·rename_i hv;cases h;first | rfl | simp only[hv]
  cases h
 | convert s d x=>
  simp only[aop]at h ⊢;split at h
  ·rename_i hv;cases h;first | rfl | simp only[hv]
  cases h
 | slice t x lo hi mx=>
  simp only[aop]at h ⊢;split at h
  ·rename_i hv;cases h;first | rfl | simp only[hv]
  cases h
 | fieldAddr t x f=>
  simp only[aop]at h ⊢;split at h
  ·rename_i hv;cases h;first | rfl | simp only[hv]
  cases h
 | field t x f=>
  simp only[aop]at h ⊢;split at h
  ·rename_i hv;cases h;first | rfl | simp only[hv]
  cases h
 | indexAddr t x i=>
  simp only[aop]at h ⊢;split at h
  ·rename_i hv;cases h;first | rfl | simp only[hv]
  cases h
 | index t x i=>
  simp only[aop]at h ⊢;split at h
  ·rename_i hv;cases h;first | rfl | simp only[hv]
  cases h
 | extract x i=>
  simp only[aop]at h ⊢;split at h
  ·rename_i hv;cases h;first | rfl | simp only[hv]
  cases h
 | load t x=>
  simp only[aop]at h ⊢;have e:aY0 T { σ with next:=m } t (g x)=aY0 T σ t (g x):=rfl;rw[e];split at h
  ·rename_i hv;cases h;first | rfl | simp only[hv]
  cases h
 | lookup t x i ok=>
  simp only[aop]at h ⊢;have e:E5 T { σ with next:=m } t (g x) (g i) ok=E5 T σ t (g x) (g i) ok:=rfl;rw[e];split at h
  ·rename_i hv;cases h;first | rfl | simp only[hv]
  cases h
 | alloc t=>
  simp only[aop,fW0]at h ⊢;split at h
  ·rename_i hv;cases h;(try simp only[hv]);rfl
  cases h
 | box t x=>
  simp only[aop,th0]at h ⊢;split at h
  ·rename_i hv;cases h;(try simp only[hv]);rfl
  cases h
 | buildSlice t len o=>
  simp only[aop,I2]at h ⊢;split at h
  ·rename_i h1
   split at h
   ·rename_i h2
    split at h
    ·rename_i j
     split at h
     ·rename_i l;cases h;(try simp only[h1,h2,j,l]);rfl
     cases h
    cases h
   cases h
  cases h
 | nilCheck x=>
  simp only[aop]at h ⊢;split at h
  ·rename_i hv;cases h;first | rfl | simp only[hv]
  ·rename_i hv;cases h;first | rfl | simp only[hv]
  ·rename_i hv;cases h;first | rfl | simp only[hv]
  cases h
 | makeFunc f a c=>cases h;rfl
 | makeMap t r=>
  cases r with
  | some r=>simp[aop]at h
  | none=>cases h;rfl
 | makeSlice t n c=>simp only[aop]at h ⊢;exact mZ0 h
 | store t a x=>
  simp only[aop]at h ⊢;split at h
  ·rename_i σ1 hs
   cases h;have e:X2 T { σ with next:=m } t (g a) (g x)=some { σ' with next:=m }:=by
    unfold X2 at hs ⊢;split at hs
    ·rename_i h1 h2 j
     try simp only[h1,h2,j]
     have e:∀ k,({ σ with next:=m }:c8).objs k=σ.objs k:=fun _=>rfl;simp only[e];split at hs
     ·rename_i l
      try simp only[l]
      split at hs
      ·rename_i p
       try simp only[p]
       split at hs
       ·rename_i q;cases hs;rw[Af q];rfl
       cases hs
      cases hs
     cases hs
    cases hs
   simp only[e]
  cases h
 | mapUpdate t x k y=>
  simp only[aop]at h ⊢;split at h
  ·rename_i σ1 hs
   cases h;simp only[bO0 hs]
  cases h
 | insert t x k y=>
  simp only[aop]at h ⊢;split at h
  ·rename_i σ1 hs
   cases h;simp only[bO0 hs]
  cases h
 | mapEntry t x k=>simp only[aop]at h ⊢;exact gm0 h
 | entryStore t x s y=>
  simp only[aop]at h ⊢;split at h
  ·rename_i σ1 hs
   cases h;simp only[eu0 hs]
  cases h
 | call c=>
  obtain⟨callee,args,ts⟩:=c;cases callee with
  | value f=>simp[aop]at h
  | invoke r m=>simp[aop]at h
  | builtin b=>
   simp only[aop]at h ⊢;unfold C6 at h ⊢;split at h
   ·rename_i h1 h2
    try simp only[h1,h2]
    have e:∀ t x,gb0 T { σ with next:=m } t x=gb0 T σ t x:=fun _ _=>rfl;simp only[e];split at h
    ·rename_i hv;cases h;first | rfl | simp only[hv]
    cases h
   ·rename_i h1 h2
    try simp only[h1,h2]
    exact hE0 h
   ·rename_i h1 h2
    try simp only[h1,h2]
    split at h
    ·rename_i hv;cases h;first | rfl | simp only[hv]
    cases h
   ·rename_i h1
    split at h
    ·rename_i hv;cases h;first | rfl | simp only[hv]
    cases h
   ·rename_i h1
    split at h
    ·rename_i hv;cases h;first | rfl | simp only[hv]
    cases h
   ·rename_i h1 h2
    try simp only[h1,h2]
    split at h
    ·rename_i hv
     cases h;simp only[mz0 hv]
    cases h
   ·rename_i h1 h2
    try simp only[h1,h2]
    split at h
    ·rename_i hv
     cases h;simp only[li0 hv]
    cases h
   cases h
 | _=>simp[aop]at h
structure Ev where
 uT:Nat->Option AV
 uO:Nat->Option (Option j5)
 uN:Option Nat
def bv0(P:Program)(ops:Array Oper)(n n0 N i:Nat)(cond:(Nat->AV)->c8->Prop)(ev:Ev):Prop :=
 ∀ G a w tm σ,te0 G n tm σ a w->cond tm σ->G.pl (n0+i)=none->n0+N<=σ.next->∀ (K:Act->World->Prop) (Q:Exit->Act->World->Prop),
  (∀ G' b w' σ',G.le G'->(∀ j,j<n0+N->j≠n0+i->G.pl j=none->G'.pl j=none)->σ.next<=σ'.next->Fr G σ w G' σ' w'->te0 G' n (fun t=>(ev.uT t).getD (tm t)) σ' b w' ->
   (∀ id,σ'.objs id=(ev.uO id).getD (σ.objs id))->σ'.next=ev.uN.getD σ.next->K b w')->wpOp P ops Q i K a w
section
variable {P:Program} {T:Tab} {ops:Array Oper} {n n0 N i:Nat} {o:Oper} {tm0:Nat->AV}
theorem ll0(c:ops[i]?=some o)(hw:aq0 ops n tm0 o=some false)(d:U6 n o.dst=true) :
  bv0 P ops n n0 N i (fun tm _=>∀ t∈o.looksAt ops,tm t=tm0 t) ⟨mV0 o.dst (.sc undef),fun _=>none,none⟩:=by
 intro G a w tm σ b hc _ _ K Q e;unfold wpOp;simp only[c,cc0 b ((Z1 hc).trans hw),au,Ah];exact e G _ w σ (.refl G) (fun _ _ _ h=>h) (ar _) (.refl _ _ _) (b.put (.refl G) b.rel (.sc _) d) (fun _=>rfl) rfl
theorem jV0(hT:B7 P T)(R:ops[i]?=some o)(hi:i<N)(hw:aq0 ops n tm0 o=some true)(S:U6 n o.dst=true)(st:c8)(v:AV)(σ1:c8)
  (ha:aop T (T7 tm0) (small st (bj0 (T7 tm0) o.op)) (n0+i) o.op=some (v,σ1)) :
  bv0 P ops n n0 N i (fun tm σ=>(∀ t∈o.looksAt ops,tm t=tm0 t)/\∀ id∈bj0 (T7 tm0) o.op,σ.objs id=st.objs id)
   ⟨mV0 o.dst v,fun id=>if isE o.op=true/\id∈bj0 (T7 tm0) o.op then some (σ1.objs id)else if id=n0+i then (match σ1.objs id with | some x=>some (some x) | none=>none)else none,none⟩:=by
 intro G a w tm σ d ⟨g,h⟩ b hN K Q U;let σv:c8:={ small st (bj0 (T7 tm0) o.op)with next:=σ.next };have hv:∀ id x,σv.objs id=some x->σ.objs id=some x:=fun id x c=>by
  have:(small st (bj0 (T7 tm0) o.op)).objs id=some x:=c;rw[az0]at this;split at this
  ·rename_i hm;rw[h id hm];exact this
  cases this
 have D:Rel G σv w:=d.rel.less rfl hv;have k:aop T (T7 tm0) σv (n0+i) o.op=some (v,{ σ1 with next:=σ.next }):=pw0 ha;rw[<- rY0 (dV0 g)]at k;obtain⟨G',u,w',h1,h2,l,V,E,O⟩:=rJ0 (P:=P) hT D d.eval b (by show n0+i<σ.next;omega) k;have m:=kl0 ha;obtain⟨σ',H,q⟩:=ge0 (fun id=>((if isE o.op=true/\id∈bj0 (T7 tm0) o.op then some (σ1.objs id)else if id=n0+i then (match σ1.objs id with | some x=>some (some x) | none=>none)else none:Option (Option j5))).getD (σ.objs id)) σ.next (fun id hid=>by
  have I:({ σ1 with next:=σ.next }:c8).objs id=none:=by
   cases J:({ σ1 with next:=σ.next }:c8).objs id with
   | none=>rfl
   | some x=>have:=E.objs_lt J;exact Am this (by show ¬ id<σ.next;omega)
  have r:σ1.objs id=none:=I;have L:σ.objs id=none:=by
   cases J:σ.objs id with
   | none=>rfl
   | some x=>have:=d.rel.objs_lt J;omega
  simp only[r,L];split
  ·rfl
  split<;>rfl)
 have s:∀ id x,σ'.objs id=some x->({ σ1 with next:=σ.next }:c8).objs id=some x\/(σ.objs id=some x/\σv.objs id=none):=fun id x c=>by
  rw[q]at c;show σ1.objs id=some x\/_;split at c
  ·exact .inl (by simpa using c)
  rename_i M;have z:σ.objs id=some x->σ1.objs id=some x\/(σ.objs id=some x/\σv.objs id=none):=fun hs=>by
   by_cases hm:id∈bj0 (T7 tm0) o.op
   ·have W:isE o.op=false:=by
     cases he:isE o.op with
     | false=>rfl
     | true=>exact Am ⟨he,hm⟩ M
    have B:(small st (bj0 (T7 tm0) o.op)).objs id=some x:=by rw[az0,Af hm,<-h id hm];exact hs
    rcases m.2.2 W with e | ⟨y,e⟩
    ·rw[e];exact .inl B
    by_cases e2:id=n0+i
    ·subst e2
     obtain⟨p,hp,_⟩:=d.rel.objs _ _ hs;rw[b]at hp;cases hp
    rw[e,c8.objs_set,Ae e2];exact .inl B
   refine .inr ⟨hs,?_⟩;show (small st (bj0 (T7 tm0) o.op)).objs id=none;rw[az0,Ae hm]
  split at c
  ·split at c
   ·rename_i y X
    simp only[bR,ai]at c;subst c;exact .inl X
   exact z (by simpa using c)
  exact z (by simpa using c)
 have f:Rel G' σ' w':=d.rel.frame hv E O h1 (fun id hid=>E.fresh id (by show σ.next<=id;omega)) s;have C:Fr G σ w G' σ' w':=Fr.frame d.rel hv O h1 s;unfold wpOp;simp only[R,cc0 d ((Z1 g).trans hw),Al];left;have fin:=U G' (a.put o.dst u) w' σ' h1 (fun j _ hj Y=>h2 j hj Y) (by omega) C (d.put h1 f V S) q (by simp[H]);unfold fw;rcases l with l | ⟨l,Z⟩
 ·rw[l];exact fin
 rw[l];subst Z;exact fin
end
section
variable {P:Program} {ops:Array Oper} {n n0 N i:Nat} {o:Oper} {tm0:Nat->AV}
theorem lq0{B:Operand}{args:Array Operand}{ts:Array TypeId}{f:FuncId}{first cap:List AV}(ho:ops[i]?=some o)(l:o.op=.call { callee:=.value B,args:=args,argTypes:=ts })
  (hw:aq0 ops n tm0 o=some true) (hd:U6 n o.dst=true) (O:T7 tm0 B=.fn (.func f) first cap)
  (st view:c8) (v:AV) (σ1:c8) (ex:Nat->Bool) (m:view.next=st.next) (p:∀ id,view.objs id=if ex id then none else st.objs id) (C:∀ id,id<st.next->σ1.objs id=view.objs id)
  (hc:F3 P f (first++args.toList.map (T7 tm0)++cap) view (fun R b=>R=v/\b=σ1)) :
  bv0 P ops n n0 N i (fun tm σ=>(∀ t∈o.looksAt ops,tm t=tm0 t)/\σ.next=st.next/\∀ id,ex id=false->σ.objs id=st.objs id)
   ⟨mV0 o.dst v,fun id=>if id<st.next then none else some (σ1.objs id),some σ1.next⟩:=by
 intro G a w tm σ q ⟨D,E,S⟩ U hN K Q hK;have g:∀ id x,view.objs id=some x->σ.objs id=some x:=fun id x c=>by
  rw[p]at c;split at c
  ·cases c
  rename_i he;rw[S id (by simpa using he)];exact c
 have V:Rel G view w:=q.rel.less (by rw[m,E]) g;have d:=dV0 (ops:=ops) D;have H:T7 tm B=.fn (.func f) first cap:=by rw[d B (by rw[l];simp[aF,ed])];exact O
 have h:args.toList.map (T7 tm)=args.toList.map (T7 tm0):=bQ0 (fun x c=>d x (by rw[l];simp[aF,ed,c]));have r:=q.eval B;rw[H]at r;generalize W:a.eval B=u at r;cases r with
 | fn _ _ _ fv cv h1 h2 h3 h4=>
 have s:B6 G (first++args.toList.map (T7 tm0)++cap) (fv++args.toList.map a.eval++cv):=by rw[<- h];exact(B6.append (G:=G) ⟨h1,h3⟩ (B6.map q.eval args.toList)).append ⟨h2,h4⟩
 have I:(execOp a.eval o).run P w=(callFunc f (fv++args.toList.map a.eval++cv).toArray).run P w:=by
  have e:fv.toArray++args.map a.eval++cv.toArray=(fv++args.toList.map a.eval++cv).toArray:=by apply cK;simp
  simp only[execOp,l,resolve,W,gw,al,ao,ah,invoke,e]
 unfold wpOp;simp only[ho,cc0 q ((Z1 D).trans hw),Al];left;unfold fw;rw[I];refine hc G _ w s V o a _ _ ?_;rintro R av b G' w' k b2 X ⟨rfl,rfl⟩;have hnx:st.next<=b.next:=by rw[<- m];exact k.next
 obtain⟨σ',Y,J⟩:=ge0 (fun id=>((if id<st.next then none else some (b.objs id):Option (Option j5))).getD (σ.objs id)) b.next (fun id hid=>by
  rw[Ae (by omega)];simp only[bR];cases hh:b.objs id with
  | none=>rfl
  | some x=>have:=X.objs_lt hh;omega)
 have L:∀ id x,σ'.objs id=some x->b.objs id=some x\/(σ.objs id=some x/\view.objs id=none):=fun id x c=>by
  rw[J]at c;split at c
  ·rename_i Z
   simp only[ea]at c;cases hv:view.objs id with
   | none=>exact .inr ⟨c,rfl⟩
   | some y=>have:=g id y hv;rw[c]at this;cases this;exact .inl (by rw[C id Z];exact hv)
  exact .inl (by simpa using c)
 have z:Rel G' σ' w':=q.rel.frame g X k.fr k.le (fun id hid=>X.fresh id (by omega)) L;have M:Fr G σ w G' σ' w':=Fr.frame q.rel g k.fr k.le L;exact hK G' (a.put o.dst R) w' σ' k.le (fun j hj _ hg=>k.keeps j (by rw[m,<-E];omega) hg) (by omega) M (q.put k.le z b2 hd) J (by simp[Y])
theorem nd0{l:Operand}{args:Array Operand}{ts:Array TypeId}{f:FuncId}{first cap:List AV}(O:ops[i]?=some o)(g:o.op=.call { callee:=.value l,args:=args,argTypes:=ts })
  (hw:aq0 ops n tm0 o=some true) (R:U6 n o.dst=true) (C:T7 tm0 l=.fn (.func f) first cap)
  (st:c8) (v:AV) (σ1:c8) (hc:F3 P f (first++args.toList.map (T7 tm0)++cap) st (fun D b=>D=v/\b=σ1)) :
  bv0 P ops n n0 N i (fun tm σ=>(∀ t∈o.looksAt ops,tm t=tm0 t)/\σ.next=st.next/\∀ id,σ.objs id=st.objs id)
   ⟨mV0 o.dst v,fun id=>some (σ1.objs id),some σ1.next⟩:=by
 intro G a w tm σ m ⟨p,E,H⟩ I hN K Q S;have q:∀ id x,st.objs id=some x->σ.objs id=some x:=fun id x J=>by rw[H];exact J
 have L:Rel G st w:=m.rel.less E.symm q;have c:=dV0 (ops:=ops) p;have r:T7 tm l=.fn (.func f) first cap:=by rw[c l (by rw[g];simp[aF,ed])];exact C
 have d:args.toList.map (T7 tm)=args.toList.map (T7 tm0):=bQ0 (fun x J=>c x (by rw[g];simp[aF,ed,J]));have h:=m.eval l;rw[r]at h;generalize M:a.eval l=u at h;cases h with
 | fn _ _ _ fv cv h1 h2 U V=>
 have k:B6 G (first++args.toList.map (T7 tm0)++cap) (fv++args.toList.map a.eval++cv):=by rw[<- d];exact(B6.append (G:=G) ⟨h1,U⟩ (B6.map m.eval args.toList)).append ⟨h2,V⟩
 have s:(execOp a.eval o).run P w=(callFunc f (fv++args.toList.map a.eval++cv).toArray).run P w:=by
  have e:fv.toArray++args.map a.eval++cv.toArray=(fv++args.toList.map a.eval++cv).toArray:=by apply cK;simp
  simp only[execOp,g,resolve,M,gw,al,ao,ah,invoke,e]
 unfold wpOp;simp only[O,cc0 m ((Z1 p).trans hw),Al];left;unfold fw;rw[s];refine hc G _ w k L o a _ _ ?_;rintro D av b G' w' z W X ⟨rfl,rfl⟩;have Y:=z.next;have B:Fr G σ w G' b w':=(Fr.less (σ:=σ) (σ':=st) q).trans z.fr;exact S G' (a.put o.dst D) w' b z.le (fun j hj _ Z=>z.keeps j (by omega) Z) (by omega) B (m.put z.le X W R) (fun _=>rfl) rfl
end
def anc1(acc:List Nat)(o:Oper):Nat:=o.after.toList.foldl (fun m e=>if cg .any e then m ||| 2^e.on ||| acc.getD e.on 0 else m) 0
def dv0:List Oper->List Nat->List Nat
 | [],acc=>acc
 | o::os,acc=>dv0 os (acc++[anc1 acc o])
theorem kg0(acc:List Nat)(i:Nat):∀ (es:List Edge) (m:Nat),(es.foldl (fun m e=>if cg .any e then m ||| 2^e.on ||| acc.getD e.on 0 else m) m).testBit i=true ->
  m.testBit i=true\/∃ e∈es,cg .any e=true/\(i=e.on\/(acc.getD e.on 0).testBit i=true)
 | [],m,h=>.inl h
 | e::es,m,h=>by
  simp only[fB]at h;rcases kg0 acc i es _ h with h1 | ⟨c,a,h1⟩
  ·split at h1
   ·rename_i b
    rw[iJ,iJ,eo,eo]at h1;rcases h1 with (h1 | h1) | h1
    ·exact .inl h1
    ·refine .inr ⟨e,by simp,b,.inl ?_⟩
     rw[Nat.testBit_two_pow]at h1;have:e.on=i:=by simpa using h1
     exact this.symm
    exact .inr ⟨e,by simp,b,.inr h1⟩
   exact .inl h1
  exact .inr ⟨c,by simp[a],h1⟩
theorem jZ0:∀ (os:List Oper) (acc:List Nat) (j:Nat),j<acc.length->(dv0 os acc).getD j 0=acc.getD j 0
 | [],acc,j,h=>rfl
 | o::os,acc,j,h=>by rw[dv0,jZ0 os _ j (by simp;omega)];simp[gi,cm,h]
theorem sc0:∀ (os:List Oper) (acc:List Nat) (k:Nat) (o:Oper),os[k]?=some o->∃ a:List Nat,(dv0 os acc).getD (acc.length+k) 0=anc1 a o/\a.length=acc.length+k/\∀ j,j<a.length->a.getD j 0=(dv0 os acc).getD j 0
 | [],acc,k,o,h=>by simp at h
 | o'::os,acc,0,o,h=>by simp at h;subst h;refine⟨acc,?_,by simp,fun j hj=>by rw[dv0,jZ0 os _ j (by simp;omega)];simp[gi,cm,hj]⟩;rw[dv0,cS,jZ0 os _ _ (by simp)];simp[gi]
 | o'::os,acc,k+1,o,h=>by obtain⟨a,h1,h2,b⟩:=sc0 os (acc++[anc1 acc o']) k o (by simpa using h);refine⟨a,?_,by simp at h2;omega,b⟩;rw[dv0];simp only[aH,ax,aU]at h1;rw[show acc.length+(k+1)=acc.length+(0+1)+k from by omega];exact h1
def fX0(ops:Array Oper)(p:Nat->Bool):Prop:=∀ (j:Nat) (o:Oper),ops[j]?=some o->p j=true->∀ e∈o.after,cg .any e=true->p e.on=true
theorem bK0{ops:Array Oper}{p:Nat->Bool}(g:fX0 ops p):∀ (j:Nat) (o:Oper),ops[j]?=some o->(∀ e∈o.after,cg .any e=true->p e.on=true)->∀ i,((dv0 ops.toList []).getD j 0).testBit i=true->p i=true:=by
 intro j
 induction j using Nat.strongRecOn with
 | _ j m=>
  intro o k b i l;obtain⟨acc,h1,h2,n⟩:=sc0 ops.toList [] j o (by simpa using k);simp only[aU,aG]at h1 h2;rw[h1]at l;rcases kg0 acc i _ _ l with h | ⟨e,he,a,h⟩
  ·simp at h
  have c:=b e (by simpa using he) a;rcases h with rfl | h
  ·exact c
  by_cases d:e.on<acc.length
  ·rw[n _ d]at h
   have q:j<ops.size:=(aN.1 k).1;have f:ops[e.on]?=some (ops[e.on]'(by omega)):=aS _;exact m e.on (by omega) _ f (g e.on _ f c) i h
  rw[show acc.getD e.on 0=0 from by simp[gi,bz (Nat.le_of_not_lt d)]]at h;simp at h
structure Inf where
 rd:List Nat
 wr:List Nat
 call:Bool
 nx:Nat
 bar:Bool
def idle:Op->Bool
 | .move _ | .assign _ | .pick .. | .build .. | .nilCheck _ | .binOp .. | .unOp .. | .convert .. | .makeFunc .. | .slice .. | .fieldAddr .. | .field .. | .indexAddr .. | .index .. | .extract ..=>true
 | _=>false
theorem ul0{T:Tab}{b:Operand->AV}{σ σ':c8}{id:Nat}{op:Op}{v:AV}(h:aop T b σ id op=some (v,σ'))(hi:idle op=true):σ'=σ/\bj0 b op=[]/\isE op=false:=by
 cases op with
 | move x=>cases h;exact⟨rfl,rfl,rfl⟩
 | assign x=>cases h;exact⟨rfl,rfl,rfl⟩
 | makeFunc f a c=>cases h;exact⟨rfl,rfl,rfl⟩
 | nilCheck x=>
  simp only[aop]at h;split at h
  ·cases h;exact⟨rfl,rfl,rfl⟩
  ·cases h;exact⟨rfl,rfl,rfl⟩
  ·cases h;exact⟨rfl,rfl,rfl⟩
  cases h
 | pick _ _ _=>simp only[aop]at h;split at h<;>first | (cases h;exact⟨rfl,rfl,rfl⟩) | cases h
 | build _ _=>simp only[aop]at h;split at h<;>first | (cases h;exact⟨rfl,rfl,rfl⟩) | cases h
 | binOp _ _ _ _ _=>simp only[aop]at h;split at h<;>first | (cases h;exact⟨rfl,rfl,rfl⟩) | cases h
 | unOp _ _ _=>simp only[aop]at h;split at h<;>first | (cases h;exact⟨rfl,rfl,rfl⟩) | cases h
 | convert _ _ _=>simp only[aop]at h;split at h<;>first | (cases h;exact⟨rfl,rfl,rfl⟩) | cases h
 | slice _ _ _ _ _=>simp only[aop]at h;split at h<;>first | (cases h;exact⟨rfl,rfl,rfl⟩) | cases h
 | fieldAddr _ _ _=>simp only[aop]at h;split at h<;>first | (cases h;exact⟨rfl,rfl,rfl⟩) | cases h
 | field _ _ _=>simp only[aop]at h;split at h<;>first | (cases h;exact⟨rfl,rfl,rfl⟩) | cases h
 | indexAddr _ _ _=>simp only[aop]at h;split at h<;>first | (cases h;exact⟨rfl,rfl,rfl⟩) | cases h
 | index _ _ _=>simp only[aop]at h;split at h<;>first | (cases h;exact⟨rfl,rfl,rfl⟩) | cases h
 | extract _ _=>simp only[aop]at h;split at h<;>first | (cases h;exact⟨rfl,rfl,rfl⟩) | cases h
 | _=>simp[idle]at hi
def X0(σ1:c8):List Nat->c8->c8
 | [],σ=>σ
 | i::is,σ=>X0 σ1 is (match σ1.objs i with | some o=>σ.set i o | none=>σ.del i)
theorem aV0(σ1:c8):∀ (is:List Nat) (σ:c8) (k:Nat),(X0 σ1 is σ).objs k=if k∈is then σ1.objs k else σ.objs k
 | [],σ,k=>by simp[X0]
 | i::is,σ,k=>by
  rw[X0,aV0 σ1 is];by_cases e:k∈is
  ·simp[e]
  rw[Ae e];by_cases e2:k=i
  ·subst e2
   rw[Af (by simp)];cases h:σ1.objs k with
   | none=>simp[c8.objs_del]
   | some o=>simp[c8.objs_set]
  rw[Ae (by simp[e,e2])];cases h:σ1.objs i with
  | none=>simp[c8.objs_del,e2]
  | some o=>simp[c8.objs_set,e2]
theorem aO0(σ1:c8):∀ (is:List Nat) (σ:c8),(X0 σ1 is σ).next=σ.next
 | [],σ=>rfl
 | i::is,σ=>by rw[X0,aO0 σ1 is];cases σ1.objs i<;>rfl
def bB0(n0 N mask:Nat):List Nat:=(bE N).filterMap fun j=>if mask.testBit j then none else some (n0+j)
def saved(σ:c8)(ids:List Nat):List (Nat×j5):=ids.filterMap fun id=>(σ.objs id).map fun o=>(id,o)
def X4:List (Nat×j5)->c8->c8
 | [],σ=>σ
 | p::a,σ=>X4 a (σ.del p.1)
def bg0:List (Nat×j5)->c8->c8
 | [],σ=>σ
 | p::a,σ=>bg0 a (σ.set p.1 p.2)
theorem gY0:∀ (l:List (Nat×j5)) (σ:c8) (k:Nat),(X4 l σ).objs k=if k∈l.map (·.1)then none else σ.objs k
 | [],σ,k=>by simp[X4]
 | p::a,σ,k=>by
  rw[X4,gY0 a,c8.objs_del];by_cases e:k∈a.map (·.1)
  ·simp[e]
  by_cases e2:k=p.1
  ·simp[e2]
  rw[Ae e,Ae e2,Ae (by simp only[ay,aC,not_or];exact⟨e2,e⟩)]
theorem dS0:∀ (l:List (Nat×j5)) (σ:c8),(X4 l σ).next=σ.next
 | [],σ=>rfl
 | p::a,σ=>by rw[X4,dS0 a];rfl
theorem dU0:∀ (l:List (Nat×j5)) (σ:c8),(bg0 l σ).next=σ.next
 | [],σ=>rfl
 | p::a,σ=>by rw[bg0,dU0 a];rfl
theorem hH0(g:Nat->Option j5):∀ (l:List (Nat×j5)) (σ:c8) (k:Nat),(∀ p∈l,g p.1=some p.2)->(bg0 l σ).objs k=if k∈l.map (·.1)then g k else σ.objs k
 | [],σ,k,_=>by simp[bg0]
 | p::a,σ,k,h=>by
  rw[bg0,hH0 g a _ k (fun q b=>h q (by simp[b])),c8.objs_set];by_cases e:k∈a.map (·.1)
  ·simp[e]
  by_cases e2:k=p.1
  ·subst e2
   rw[Ae e,Af rfl,Af (by simp),h p (by simp)]
  rw[Ae e,Ae e2,Ae (by simp only[ay,aC,not_or];exact⟨e2,e⟩)]
theorem pF0(σ:c8)(ids:List Nat):(∀ p∈saved σ ids,σ.objs p.1=some p.2)/\∀ k,k∈(saved σ ids).map (·.1)↔k∈ids/\(σ.objs k).isSome=true:=by
 refine⟨fun p hp=>?_,fun k=>?_⟩
 ·obtain⟨id,_,h⟩:=cT.1 hp
  cases a:σ.objs id with
  | none=>simp[a]at h
  | some o=>simp[a]at h;subst h;exact a
 constructor
 ·intro h
  obtain⟨p,hp,rfl⟩:=aY.1 h;obtain⟨id,hid,h⟩:=cT.1 hp;cases a:σ.objs id with
  | none=>simp[a]at h
  | some o=>simp[a]at h;subst h;exact⟨hid,by simp[a]⟩
 rintro ⟨h1,h2⟩;cases a:σ.objs k with
 | none=>simp[a]at h2
 | some o=>exact aY.2 ⟨(k,o),cT.2 ⟨k,h1,by simp[a]⟩,rfl⟩
def gj0(T:Tab)(cl:FuncId->List AV->c8->Option (AV×c8))(ops:Array Oper)(n0 N mask i:Nat)(bar:Bool)(s:AS)(o:Oper):Option (AS×Inf) :=
 match E4 ops s o,U6 s.n o.dst with
 | some false,true=>some (s.put o.dst (.sc undef),⟨[],[],false,0,false⟩)
 | some true,true=>
  match o.op with
  | .call { callee:=.value a,args:=args,argTypes:=_ }=>
   match s.eval a with
   | .fn (.func f) first cap=>
    if bar then
     match cl f (first++args.toList.map s.eval++cap) s.st with
     | some (v,σ1)=>if s.st.next<=σ1.next then some ({ s with st:=σ1 }.put o.dst v,⟨[],[],false,0,true⟩)else none
     | none=>none else
    match cl f (first++args.toList.map s.eval++cap) { X4 (saved s.st (bB0 n0 N mask)) s.st with low:=s.st.next } with
    | some (v,σ1)=>if s.st.next<=σ1.low/\s.st.next<=σ1.next then
      some ({ s with st:={ bg0 (saved s.st (bB0 n0 N mask)) σ1 with low:=min s.st.low s.st.next } }.put o.dst v,⟨[],[],true,s.st.next,false⟩)else none
    | none=>none
   | _=>none
  | op=>
   match aop T s.eval (small s.st (bj0 s.eval op)) (n0+i) op with
   | some (v,σ1)=>
    some ({ s with st:=(match σ1.objs (n0+i)with
     | some x=>(if isE op then X0 σ1 (bj0 s.eval op) s.st else s.st).set (n0+i) x
     | none=>(if isE op then X0 σ1 (bj0 s.eval op) s.st else s.st)) }.put o.dst v,⟨bj0 s.eval op,if isE op then bj0 s.eval op else [],false,0,false⟩)
   | none=>none
 | _,_=>none
def pj0(ops:Array Oper)(a:List Nat)(i:Nat):Bool :=(bE ops.size).all fun j=>j==i||(match ops[j]? with | some o=>idle o.op | none=>true)||(a.getD i 0).testBit j||(a.getD j 0).testBit i
def gd0:Op->Bool
 | .call { callee:=.value _,.. }=>true
 | _=>false
def tH0(T:Tab)(cl:FuncId->List AV->c8->Option (AV×c8))(ops:Array Oper)(n0 N:Nat)(a:List Nat):List Oper->Nat->AS->Option (AS×List Inf)
 | [],_,s=>some (s,[])
 | o::rest,i,s=>match gj0 T cl ops n0 N (a.getD i 0) i (gd0 o.op&&pj0 ops a i) s o with
  | some (s1,f)=>match tH0 T cl ops n0 N a rest (i+1) s1 with
   | some (s2,fs)=>some (s2,f::fs)
   | none=>none
  | none=>none
def fJ0(n0 i j:Nat)(a b:Inf):Bool :=
 (a.wr.all fun x=>!(b.rd++b.wr).contains x)&&(b.wr.all fun x=>!a.rd.contains x)&&!(b.rd++b.wr).contains (n0+i)&&!(a.rd++a.wr).contains (n0+j)&&!(a.call&&b.call)&&!a.bar&&!b.bar &&
 (!a.call||(b.wr.isEmpty&&b.rd.all fun x=>decide (x<a.nx)))&&(!b.call||(a.wr.isEmpty&&a.rd.all fun x=>decide (x<b.nx)))
def cp0(ops:Array Oper)(c:List Nat):List (Nat×Nat) :=
 (bE ops.size).flatMap fun j=>(bE j).filterMap fun i=>
  if (c.getD j 0).testBit i then none else
  match ops[i]?,ops[j]? with
  | some a,some b=>if idle a.op||idle b.op then none else some (i,j)
  | _,_=>none
def lr0(ops:Array Oper)(c:List Nat):Bool :=
 (bE ops.size).all fun j=>(match ops[j]? with | some o=>o.after.all (fun e=>!Region.binds .any e||decide (e.on<j)) | none=>true) &&
  (bE j).all fun i=>(c.getD j 0).testBit i||(match ops[i]?,ops[j]? with | some a,some b=>a.apart ops b | _,_=>true)
def cv0(T:Tab)(cl:FuncId->List AV->c8->Option (AV×c8))(ops:Array Oper)(s:AS):Option AS :=
 if lr0 ops (dv0 ops.toList [])then
  match tH0 T cl ops s.st.next ops.size (dv0 ops.toList []) ops.toList 0 { s with st:={ s.st with next:=s.st.next+ops.size } } with
  | some (s',fs)=>if (cp0 ops (dv0 ops.toList [])).all (fun p=>fJ0 s.st.next p.1 p.2 (fs.getD p.1 ⟨[],[],false,0,false⟩) (fs.getD p.2 ⟨[],[],false,0,false⟩))then some s' else none
  | none=>none else none
def Cond(ops:Array Oper)(n0 N mask:Nat)(o:Oper)(f:Inf)(s:AS)(tm:Nat->AV)(σ:c8):Prop :=
 (∀ t∈o.looksAt ops,tm t=s.get t)/\(∀ id∈f.rd,σ.objs id=s.st.objs id)/\(f.call=true->σ.next=s.st.next/\∀ id,id∉bB0 n0 N mask->σ.objs id=s.st.objs id) /\
  (f.bar=true->σ.next=s.st.next/\∀ id,σ.objs id=s.st.objs id)
structure EvOk(n0 N i:Nat)(o:Oper)(f:Inf)(ev:Ev):Prop where
 tmp:∀ t,ev.uT t≠none->o.dst=some t
 obj:∀ id,ev.uO id≠none->id∈f.wr\/id=n0+i\/(f.call=true/\f.nx<=id)\/f.bar=true
 num:f.call=false->f.bar=false->ev.uN=none
 start:f.call=true->n0+N<=f.nx
 idle:idle o.op=true->(∀ id,ev.uO id=none)/\f.call=false/\f.rd=[]/\f.bar=false
theorem jQ0(s:AS)(σ:c8)(d:Option Tmp)(v:AV)(t:Nat):({ s with st:=σ }.put d v).get t=(mV0 d v t).getD (s.get t):=by
 cases d with
 | none=>rfl
 | some d=>
  rw[AS.get_put];simp only[mV0];by_cases e:t=d
  ·simp[e]
  rw[Ae e,Ae (by simp;exact fun h=>e h.symm)];rfl
theorem bv0.weak{P:Program}{ops:Array Oper}{n n0 N i:Nat}{c c':(Nat->AV)->c8->Prop}{ev:Ev}(h:bv0 P ops n n0 N i c ev)(hc:∀ tm σ,c' tm σ->c tm σ):bv0 P ops n n0 N i c' ev :=fun G a w tm σ d b=>h G a w tm σ d (hc tm σ b)
theorem lF0{n0 N mask id:Nat}:id∈bB0 n0 N mask↔∃ j,j<N/\mask.testBit j=false/\id=n0+j:=by
 unfold bB0;rw[cT];constructor
 ·rintro ⟨j,hj,h⟩
  split at h
  ·cases h
  rename_i a;cases h;exact⟨j,by simpa using hj,by simpa using a,rfl⟩
 rintro ⟨j,hj,a,rfl⟩;exact⟨j,by simpa using hj,by simp[a]⟩
section
variable {P:Program} {T:Tab} (hT:B7 P T) {cl:FuncId->List AV->c8->Option (AV×c8)}
 (hcl:∀ f args σ v σ',cl f args σ=some (v,σ')->F3 P f args σ (fun v' σ''=>v'=v/\σ''=σ')/\ag0 σ σ')
 {ops:Array Oper} {n0 N:Nat}
include hT hcl
theorem tE0{mask i:Nat}{bar:Bool}{s s1:AS}{o:Oper}{f:Inf}(C:ops[i]?=some o)(hi:i<N)(O:n0+N<=s.st.next)(h:gj0 T cl ops n0 N mask i bar s o=some (s1,f)) :
  ∃ ev,EvOk n0 N i o f ev/\(∀ t,s1.get t=(ev.uT t).getD (s.get t))/\(∀ id,s1.st.objs id=(ev.uO id).getD (s.st.objs id))/\s1.st.next=ev.uN.getD s.st.next/\s1.n=s.n/\s.st.next<=s1.st.next /\
   bv0 P ops s.n n0 N i (Cond ops n0 N mask o f s) ev:=by
 unfold gj0 at h;split at h
 ·rename_i hw w
  cases h;refine⟨⟨mV0 o.dst (.sc undef),fun _=>none,none⟩,⟨fun t b=>?_,fun id hid=>Am rfl hid,fun _ _=>rfl,(fun h=>by cases h),fun _=>⟨fun _=>rfl,rfl,rfl,rfl⟩⟩,fun t=>?_,fun id=>by simp,by simp,by simp,by simp,?_⟩
  ·simp only[mV0]at b;split at b
   ·assumption
   exact Am rfl b
  ·have:=jQ0 s s.st o.dst (.sc undef) t;exact this
  exact(ll0 C hw w).weak fun tm σ hc=>hc.1
 ·rename_i hw w
  split at h
  ·rename_i S args ts k
   split at h
   ·rename_i U first cap z
    split at h
    ·split at h
     ·rename_i v σ1 hc
      split at h
      ·rename_i D
       cases h;obtain⟨a,B⟩:=hcl _ _ _ _ _ hc;have c:args.toList.map s.eval=args.toList.map (T7 s.get):=bq fun x _=>AS.eval_eq s x;refine⟨⟨mV0 o.dst v,fun id=>some (σ1.objs id),some σ1.next⟩,⟨fun t b=>?_,fun id hid=>.inr (.inr (.inr rfl)),(fun _ h=>by cases h),(fun h=>by cases h),(fun h=>by rw[k]at h;simp[Go.Ab.idle]at h)⟩,fun t=>jQ0 s _ o.dst v t,fun id=>by simp,by simp,by simp,by simpa using D,?_⟩
       ·simp only[mV0]at b;split at b
        ·assumption
        exact Am rfl b
       refine(nd0 (n0:=n0) (N:=N) C k hw w (by rw[<- AS.eval_eq];exact z) s.st v σ1 (by rw[<- c];exact a)).weak ?_;rintro tm σ ⟨c1,c2,L,E⟩;exact⟨c1,E rfl⟩
      cases h
     cases h
    split at h
    ·rename_i v σ1 hc
     split at h
     ·rename_i p
      cases h;obtain⟨a,B⟩:=hcl _ _ _ _ _ hc;obtain⟨G,l⟩:=pF0 s.st (bB0 n0 N mask);have d:∀ id,({ X4 (saved s.st (bB0 n0 N mask)) s.st with low:=s.st.next }:c8).objs id=if (bB0 n0 N mask).contains id then none else s.st.objs id:=fun id=>by
       show (X4 (saved s.st (bB0 n0 N mask)) s.st).objs id=_;rw[gY0];by_cases e:id∈bB0 n0 N mask
       ·have:(bB0 n0 N mask).contains id=true:=by simpa using e
        rw[this];simp only[Al];cases r:s.st.objs id with
        | none=>simp
        | some x=>rw[Af ((l id).2 ⟨e,by simp[r]⟩)]
       have:(bB0 n0 N mask).contains id=false:=by simpa using e
       rw[this];rw[Ae (fun H=>e ((l id).1 H).1)];simp
      have q:∀ id,id<s.st.next->σ1.objs id=({ X4 (saved s.st (bB0 n0 N mask)) s.st with low:=s.st.next }:c8).objs id:=fun id hid=>B.2 id (by omega);have hex:∀ id,id∈bB0 n0 N mask->id<s.st.next:=fun id hid=>by obtain⟨j,hj,_,rfl⟩:=lF0.1 hid;omega
      refine⟨⟨mV0 o.dst v,fun id=>if id<s.st.next then none else some (σ1.objs id),some σ1.next⟩,⟨fun t b=>?_,fun id hid=>?_,(fun h _=>by cases h),fun _=>O,(fun h=>by rw[k]at h;simp[Go.Ab.idle]at h)⟩,fun t=>jQ0 s _ o.dst v t,fun id=>?_,?_,by simp,?_,?_⟩
      ·simp only[mV0]at b;split at b
       ·assumption
       exact Am rfl b
      ·refine .inr (.inr (.inl ⟨rfl,?_⟩))
       simp only at hid;split at hid
       ·exact Am rfl hid
       show s.st.next<=id;omega
      ·simp only[AS.put_st]
       show (bg0 (saved s.st (bB0 n0 N mask)) σ1).objs id=_;rw[hH0 s.st.objs _ _ _ G];by_cases e:id<s.st.next
       ·rw[Af e]
        simp only[ea];split
        ·rfl
        rename_i I;rw[q id e,d id];split
        ·rename_i J
         cases r:s.st.objs id with
         | none=>rfl
         | some x=>exact Am ((l id).2 ⟨by simpa using J,by simp[r]⟩) I
        rfl
       rw[Ae e,Ae (fun H=>e (hex id ((l id).1 H).1))];rfl
      ·simp only[AS.put_st]
       show (bg0 (saved s.st (bB0 n0 N mask)) σ1).next=_;rw[dU0];rfl
      ·simp only[AS.put_st]
       show s.st.next<=(bg0 (saved s.st (bB0 n0 N mask)) σ1).next;rw[dU0];exact p.2
      have c:args.toList.map s.eval=args.toList.map (T7 s.get):=bq fun x _=>AS.eval_eq s x;refine(lq0 (n0:=n0) (N:=N) C k hw w (by rw[<- AS.eval_eq];exact z) s.st { X4 (saved s.st (bB0 n0 N mask)) s.st with low:=s.st.next } v σ1 (fun id=>(bB0 n0 N mask).contains id) (dS0 _ _) d q (by rw[<- c];exact a)).weak ?_;rintro tm σ ⟨c1,c2,L,_⟩;obtain⟨E,Q⟩:=L rfl;exact⟨c1,E,fun id hid=>Q id (by simpa using hid)⟩
     cases h
    cases h
   cases h
  rename_i R;split at h
  ·rename_i v σ1 ha
   cases h;have g:s.eval=T7 s.get:=funext (AS.eval_eq s);rw[g]at ha;have p:=kl0 ha;refine⟨_,⟨fun t b=>?_,fun id hid=>?_,fun _ _=>rfl,(fun h=>by cases h),fun u=>?_⟩,fun t=>jQ0 s _ o.dst v t,fun id=>?_,?_,by simp,?_,(jV0 hT C hi hw w s.st v σ1 ha).weak ?_⟩
   ·simp only[mV0]at b;split at b
    ·assumption
    exact Am rfl b
   ·simp only at hid
    rw[g];split at hid
    ·rename_i hc;left;rw[Af hc.1];exact hc.2
    split at hid
    ·rename_i e;exact .inr (.inl e)
    exact Am rfl hid
   ·obtain⟨e1,e2,e3⟩:=ul0 ha u
    refine⟨fun id=>?_,rfl,by rw[g];exact e2,rfl⟩;simp only[e3,au,false_and,Ah];split
    ·rw[e1,az0,e2];simp
    rfl
   ·simp only[AS.put_st]
    rw[g];by_cases M:isE o.op=true
    ·simp only[M,Al,Aq]
     by_cases hm:id∈bj0 (T7 s.get) o.op
     ·rw[Af hm]
      split
      ·rename_i x m
       rw[c8.objs_set];split
       ·rename_i e;rw[e];simp[m]
       rw[aV0,Af hm];rfl
      rw[aV0,Af hm];rfl
     rw[Ae hm];split
     ·rename_i x m
      rw[c8.objs_set];split
      ·rename_i e;rw[e];simp[m]
      rw[aV0,Ae hm];rfl
     rename_i m;rw[aV0,Ae hm];split
     ·rename_i e;rw[e];simp[m]
     rfl
    have K:isE o.op=false:=by simpa using M
    simp only[K,au,Ah,false_and];split
    ·rename_i x m
     rw[c8.objs_set];split
     ·rename_i e;rw[e];simp[m]
     rfl
    rename_i m;split
    ·rename_i e;rw[e];simp[m]
    rfl
   ·simp only[AS.put_st,ea]
    split
    ·simp only[c8.set_next];split
     ·rw[aO0]
     rfl
    split
    ·rw[aO0]
    rfl
   ·simp only[AS.put_st]
    split
    ·simp only[c8.set_next];split
     ·rw[aO0];exact ar _
     exact ar _
    split
    ·rw[aO0];exact ar _
    exact ar _
   rintro tm σ ⟨c1,c2,_⟩;exact⟨c1,fun id hid=>c2 id (by rw[g];exact hid)⟩
  cases h
 cases h
theorem nn0{a:List Nat}:∀ (l:List Oper) (i:Nat) (s s':AS) (fs:List Inf),(∀ j:Nat,l[j]?=ops[i+j]?)->i+l.length<=N->n0+N<=s.st.next->tH0 T cl ops n0 N a l i s=some (s',fs) ->
  ∃ (evs:List Ev) (sts:List AS),evs.length=l.length/\fs.length=l.length/\sts.length=l.length/\s'.n=s.n /\
   (∀ (j:Nat) o f ev st,l[j]?=some o->fs[j]?=some f->evs[j]?=some ev->sts[j]?=some st->EvOk n0 N (i+j) o f ev/\bv0 P ops s.n n0 N (i+j) (Cond ops n0 N (a.getD (i+j) 0) o f st) ev/\(f.call=true->f.nx=st.st.next) /\
    (∀ t,st.get t=fold (fun k=>decide (k<i+j)) (evs.map (·.uT)) i s.get t)/\(∀ id,st.st.objs id=fold (fun k=>decide (k<i+j)) (evs.map (·.uO)) i s.st.objs id) /\
    (st.st.next=fold (fun k=>decide (k<i+j)) (evs.map fun e=>fun _:Unit=>e.uN) i (fun _=>s.st.next) ())) /\
   (∀ t,s'.get t=fold (fun _=>true) (evs.map (·.uT)) i s.get t)/\(∀ id,s'.st.objs id=fold (fun _=>true) (evs.map (·.uO)) i s.st.objs id) /\
   (s'.st.next=fold (fun _=>true) (evs.map fun e=>fun _:Unit=>e.uN) i (fun _=>s.st.next) ())
 | [],i,s,s',fs,_,_,_,h=>by simp only[tH0,ai,bV]at h;obtain⟨rfl,rfl⟩:=h;exact⟨[],[],rfl,rfl,rfl,rfl,fun j o f ev st hj=>by simp at hj,fun _=>rfl,fun _=>rfl,rfl⟩
 | o::rest,i,s,s',fs,hl,x,z,h=>by
  have B:ops[i]?=some o:=by have:=hl 0;simpa using this.symm
  have g:∀ j:Nat,rest[j]?=ops[i+1+j]?:=fun j=>by have:=hl (j+1);simpa[dy,d_ 1 j]using this
  simp only[ax]at x;unfold tH0 at h;split at h
  ·rename_i s1 f hs
   split at h
   ·rename_i s2 m C
    cases h;obtain⟨ev,e1,e2,e3,e4,e5,e6,e7⟩:=tE0 hT hcl B (by omega) z hs;obtain⟨evs,sts,l1,l2,l3,D,b,g1,g2,g3⟩:=nn0 rest (i+1) s1 s' m g (by omega) (by omega) C;have q:∀ k,i<=k->decide (k<i+0)=false:=fun k hk=>by simp;omega
    have f1:∀ (p:Nat->Bool),p i=true->∀ t,fold p ((ev::evs).map (·.uT)) i s.get t=fold p (evs.map (·.uT)) (i+1) s1.get t:=fun p hp t=>by simp only[ay,fold,hp,Ac];rw[show (fun l=>(ev.uT l).getD (s.get l))=s1.get from funext fun t=>(e2 t).symm]
    have f2:∀ (p:Nat->Bool),p i=true->∀ id,fold p ((ev::evs).map (·.uO)) i s.st.objs id=fold p (evs.map (·.uO)) (i+1) s1.st.objs id:=fun p hp id=>by simp only[ay,fold,hp,Ac];rw[show (fun l=>(ev.uO l).getD (s.st.objs l))=s1.st.objs from funext fun t=>(e3 t).symm]
    have f3:∀ (p:Nat->Bool),p i=true->fold p ((ev::evs).map fun e=>fun _:Unit=>e.uN) i (fun _=>s.st.next) ()=fold p (evs.map fun e=>fun _:Unit=>e.uN) (i+1) (fun _=>s1.st.next) ():=fun p hp=>by simp only[ay,fold,hp,Ac];rw[show (fun _:Unit=>ev.uN.getD s.st.next)=(fun _=>s1.st.next)from funext fun _=>e4.symm]
    refine⟨ev::evs,s::sts,by simp[l1],by simp[l2],by simp[l3],by rw[D,e5],fun j o' E r w h1 h2 c d=>?_,fun t=>by rw[f1 _ rfl];exact g1 t,fun id=>by rw[f2 _ rfl];exact g2 id,by rw[f3 _ rfl];exact g3⟩;cases j with
    | zero=>
     simp only[bX,ai]at h1 h2 c d;subst h1 h2 c d;refine⟨e1,e7,fun hc=>?_,fun t=>(aI0 t _ i _ _ (fun j u _ hp=>by have:=Aj hp;omega) rfl).symm,fun id=>(aI0 id _ i _ _ (fun j u _ hp=>by have:=Aj hp;omega) rfl).symm,(aI0 (p:=fun k=>decide (k<i+0)) () _ i (fun _=>s.st.next) s.st.next (fun j u _ hp=>by have:=Aj hp;omega) rfl).symm⟩
     
     unfold gj0 at hs;split at hs
     ·cases hs;cases hc
     ·split at hs
      ·split at hs
       ·split at hs
        ·split at hs
         ·split at hs
          ·cases hs;cases hc
          cases hs
         cases hs
        split at hs
        ·split at hs
         ·cases hs;rfl
         cases hs
        cases hs
       cases hs
      split at hs
      ·cases hs;cases hc
      cases hs
     cases hs
    | succ j=>
     simp only[aI]at h1 h2 c d;obtain⟨q1,q2,q3,q4,q5,q6⟩:=b j o' E r w h1 h2 c d;have hp:decide (i<i+(j+1))=true:=by simp
     rw[show i+1+j=i+(j+1)from by omega]at q1 q2 q4 q5 q6;rw[e5]at q2;exact⟨q1,q2,q3,fun t=>by rw[f1 _ hp];exact q4 t,fun id=>by rw[f2 _ hp];exact q5 id,by rw[f3 _ hp];exact q6⟩
   cases h
  cases h
end
end Go.Ab
